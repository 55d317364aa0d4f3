/- Part of a proof: laws and walks. -/
import Derived.Test.YtgakdmmmljdpjaaDoorTap
set_option linter.unusedVariables false
set_option linter.unusedSimpArgs false
namespace Go.Proofs.YtgakdmmmljdpjaaDoor
open Go Go.SL
theorem C_ok_19:callOK Tryd.prog 19=true:=by kernel_rfl
set_option maxHeartbeats 400000 in
set_option maxRecDepth 4000 in
theorem joined_out (vl:Value) (l:List Ch) (da db:Dg) (w0:World) (hG:Lent w0 ordA) (hl:rdOK (hp w0) 12 vl l.length (encs eC l)) (hfit:vfit vl) (hout:(greatM l.length||decide ((l.length:Int)>25))=true) :
    Ret Tryd.prog 8 #[vl,.agg #[.int .i64 da.num,.int .i64 da.yr,.int .u8 da.half,.int .u8 da.sec,.int .i64 da.cyc],.agg #[.int .i64 db.num,.int .i64 db.yr,.int .u8 db.half,.int .u8 db.sec,.int .i64 db.cyc]] w0 (G:=Unit) (fun _=>.bool true) (fun _ w=>St w0 w noX [] []):=by
  refine ret_of_W (lv:=[vl,.agg #[.int .i64 da.num,.int .i64 da.yr,.int .u8 da.half,.int .u8 da.sec,.int .i64 da.cyc],.agg #[.int .i64 db.num,.int .i64 db.yr,.int .u8 db.half,.int .u8 db.sec,.int .i64 db.cyc]]) Tryd.func8 rfl rfl rfl (fun a hf=>?_)
  replace hf:Fr a 186 [] [(0,vl),(1,.agg #[.int .i64 da.num,.int .i64 da.yr,.int .u8 da.half,.int .u8 da.sec,.int .i64 da.cyc]),(2,.agg #[.int .i64 db.num,.int .i64 db.yr,.int .u8 db.half,.int .u8 db.sec,.int .i64 db.cyc])]:=hf
  have hS:St w0 w0 noX [ordA,rdv 12 vl l.length (encs eC l)] []:=((St.refl w0).lend0 hl).lendA hG
  have hlm:=hl.2.1
  unfold maxLen at hlm
  refine W.seq ?_
  refine W.regionL (l:=[0,1,2]) rfl ?_
  refine O.box (cs:=#[.int .i64 da.num,.int .i64 da.yr,.int .u8 da.half,.int .u8 da.sec,.int .i64 da.cyc]) hf hS rfl rfl rfl rfl ?_
  clear hf hS a; intro b_a1 w a hbb_a1 hS hf
  refine O.box (cs:=#[.int .i64 db.num,.int .i64 db.yr,.int .u8 db.half,.int .u8 db.sec,.int .i64 db.cyc]) hf hS rfl rfl rfl rfl ?_
  clear hf hS a; intro b_b2 w a hbb_b2 hS hf
  refine O.val hf rfl rfl rfl (RunV.assign rfl) ?_
  clear hf a; intro a hf
  refine O.nil ?_
  refine k_seq ?_
  replace hf:Fr a 186 [] [(0,vl),(4,.pointer (some ⟨b_a1,0,none⟩)),(5,.pointer (some ⟨b_b2,0,none⟩)),(6,.bool false)]:=hf.to ⟨rfl,rfl,rfl,rfl,trivial⟩
  refine W.seq ?_
  refine W.regionL (l:=[0,1]) rfl ?_
  refine O.callR hf rfl rfl rfl (RunE.call (av:=#[]) C_ok_14 rfl rfl rfl) (alive_spec _ (hS.bptO (i:=0) rfl)) ?_
  clear hf a
  rintro _ w3 hS1 a hf
  replace hf:Fr a _ _ ((25,.bool true)::_):=hf
  replace hS:=(hS.call hS1).eqM (N:=[pt b_b2 (.cells #[.int .i64 db.num,.int .i64 db.yr,.int .u8 db.half,.int .u8 db.sec,.int .i64 db.cyc] 24 (0,0)),pt b_a1 (.cells #[.int .i64 da.num,.int .i64 da.yr,.int .u8 da.half,.int .u8 da.sec,.int .i64 da.cyc] 24 (0,0))]) rfl
  clear hS1
  refine O.val hf rfl rfl rfl (RunV.assign rfl) ?_
  clear hf a; intro a hf
  refine O.nil ?_
  refine k_seq ?_
  replace hf:Fr a 186 [] [(0,vl),(4,.pointer (some ⟨b_a1,0,none⟩)),(5,.pointer (some ⟨b_b2,0,none⟩)),(6,.bool false),(7,.bool true)]:=hf.to ⟨rfl,rfl,rfl,rfl,rfl,trivial⟩
  refine W.seq ?_
  refine W.seq ?_
  refine W.regionL (l:=[0,1,2,3,4,5,6,7,8,9,10]) rfl ?_
  refine O.val hf rfl rfl rfl (RunV.move rfl) ?_
  clear hf a; intro a hf
  refine O.callR hf rfl rfl rfl (RunE.call (av:=#[vl]) C_ok_10 rfl rfl rfl) (great_spec vl l _ (hS.rdAt (j:=1) rfl)) ?_
  clear hf a
  rintro _ w4 hS1 a hf
  replace hf:Fr a _ _ ((27,.bool (greatM l.length))::_):=hf
  replace hS:=(hS.call hS1).eqM (N:=[pt b_b2 (.cells #[.int .i64 db.num,.int .i64 db.yr,.int .u8 db.half,.int .u8 db.sec,.int .i64 db.cyc] 24 (0,0)),pt b_a1 (.cells #[.int .i64 da.num,.int .i64 da.yr,.int .u8 da.half,.int .u8 da.sec,.int .i64 da.cyc] 24 (0,0))]) rfl
  clear hS1
  refine O.val hf rfl rfl rfl (RunV.move rfl) ?_
  clear hf a; intro a hf
  refine O.cutN (l₁:=[3,4,5,6]) (l₂:=_) (fun a w=>Fr a 186 [] [(0,vl),(4,.pointer (some ⟨b_a1,0,none⟩)),(5,.pointer (some ⟨b_b2,0,none⟩)),(6,.bool false),(7,.bool true),(26,vl),(27,.bool (greatM l.length)),(28,.bool (greatM l.length)),(32,.bool ((greatM l.length)||(decide ((l.length:Int)>(25:Int)))))]∧St w0 w noX [ordA,rdv 12 vl l.length (encs eC l)] [pt b_b2 (.cells #[.int .i64 db.num,.int .i64 db.yr,.int .u8 db.half,.int .u8 db.sec,.int .i64 db.cyc] 24 (0,0)),pt b_a1 (.cells #[.int .i64 da.num,.int .i64 da.yr,.int .u8 da.half,.int .u8 da.sec,.int .i64 da.cyc] 24 (0,0))]) rfl ?_ ?_
  · rcases Bool.eq_false_or_eq_true (greatM l.length) with hb5 | hb5
    · have hb5p:=hb5
      try simp only [Bool.and_eq_true,Bool.or_eq_true,Bool.and_eq_false_iff,Bool.or_eq_false_iff,decide_eq_true_eq,decide_eq_false_iff_not,Bool.not_eq_true',Bool.not_eq_false',Bool.not_eq_true,Bool.not_eq_false,ne_eq] at hb5p
      refine O.skipB hf rfl rfl rfl hb5 rfl ?_; clear hf a; intro a hf
      refine O.skipB hf rfl rfl rfl hb5 rfl ?_; clear hf a; intro a hf
      refine O.skipB hf rfl rfl rfl hb5 rfl ?_; clear hf a; intro a hf
      refine O.val (v:=.bool ((greatM l.length)||(decide ((l.length:Int)>(25:Int))))) hf rfl rfl rfl (RunV.pick rfl rfl rfl (by rw [hb5]; rfl)) ?_; clear hf a; intro a hf
      exact O.nil ⟨rfl,hf.to ⟨rfl,rfl,rfl,rfl,rfl,rfl,rfl,rfl,rfl,trivial⟩,hS⟩
    · have hb5p:=hb5
      try simp only [Bool.and_eq_true,Bool.or_eq_true,Bool.and_eq_false_iff,Bool.or_eq_false_iff,decide_eq_true_eq,decide_eq_false_iff_not,Bool.not_eq_true',Bool.not_eq_false',Bool.not_eq_true,Bool.not_eq_false,ne_eq] at hb5p
      refine O.gvalB (v:=vl) hf rfl rfl rfl hb5 rfl rfl (RunV.move rfl) ?_
      clear hf a; intro a hf
      refine O.gvalB (v:=.int .i64 (l.length:Int)) hf rfl rfl rfl hb5 rfl rfl (RunV.lenV (e:=26) (by simpa using T_elem_22) rfl (hS.rdAt (j:=1) rfl)) ?_
      clear hf a; intro a hf
      refine O.gvalB (v:=.bool (decide ((l.length:Int)>(25:Int)))) hf rfl rfl rfl hb5 rfl rfl (RunV.gtr rfl rfl) ?_
      clear hf a; intro a hf
      refine O.val (v:=.bool ((greatM l.length)||(decide ((l.length:Int)>(25:Int))))) hf rfl rfl rfl (RunV.pick rfl rfl rfl (by rw [hb5]; rfl)) ?_; clear hf a; intro a hf
      exact O.nil ⟨rfl,hf.to ⟨rfl,rfl,rfl,rfl,rfl,rfl,rfl,rfl,rfl,trivial⟩,hS⟩
  clear hf hS a; rintro a w ⟨hf,hS⟩
  refine O.val hf rfl rfl rfl (RunV.move rfl) ?_
  clear hf a; intro a hf
  refine O.cutN (l₁:=[8,9,10]) (l₂:=_) (fun a w=>Fr a 186 [] [(0,vl),(4,.pointer (some ⟨b_a1,0,none⟩)),(5,.pointer (some ⟨b_b2,0,none⟩)),(6,.bool false),(7,.bool true),(26,vl),(27,.bool (greatM l.length)),(28,.bool (greatM l.length)),(32,.bool ((greatM l.length)||(decide ((l.length:Int)>(25:Int))))),(33,.bool ((greatM l.length)||(decide ((l.length:Int)>(25:Int))))),(36,.bool (((greatM l.length)||(decide ((l.length:Int)>(25:Int))))||false))]∧St w0 w noX [ordA,rdv 12 vl l.length (encs eC l)] [pt b_b2 (.cells #[.int .i64 db.num,.int .i64 db.yr,.int .u8 db.half,.int .u8 db.sec,.int .i64 db.cyc] 24 (0,0)),pt b_a1 (.cells #[.int .i64 da.num,.int .i64 da.yr,.int .u8 da.half,.int .u8 da.sec,.int .i64 da.cyc] 24 (0,0))]) rfl ?_ ?_
  · rcases Bool.eq_false_or_eq_true ((greatM l.length)||(decide ((l.length:Int)>(25:Int)))) with hb6 | hb6
    · have hb6p:=hb6
      try simp only [Bool.and_eq_true,Bool.or_eq_true,Bool.and_eq_false_iff,Bool.or_eq_false_iff,decide_eq_true_eq,decide_eq_false_iff_not,Bool.not_eq_true',Bool.not_eq_false',Bool.not_eq_true,Bool.not_eq_false,ne_eq] at hb6p
      refine O.skipB hf rfl rfl rfl hb6 rfl ?_; clear hf a; intro a hf
      refine O.skipB hf rfl rfl rfl hb6 rfl ?_; clear hf a; intro a hf
      refine O.val (v:=.bool (((greatM l.length)||(decide ((l.length:Int)>(25:Int))))||false)) hf rfl rfl rfl (RunV.pick rfl rfl rfl (by rw [hb6]; rfl)) ?_; clear hf a; intro a hf
      exact O.nil ⟨rfl,hf.to ⟨rfl,rfl,rfl,rfl,rfl,rfl,rfl,rfl,rfl,rfl,rfl,trivial⟩,hS⟩
    · have hb6p:=hb6
      try simp only [Bool.and_eq_true,Bool.or_eq_true,Bool.and_eq_false_iff,Bool.or_eq_false_iff,decide_eq_true_eq,decide_eq_false_iff_not,Bool.not_eq_true',Bool.not_eq_false',Bool.not_eq_true,Bool.not_eq_false,ne_eq] at hb6p
      refine O.gvalB (v:=.bool true) hf rfl rfl rfl hb6 rfl rfl (RunV.move rfl) ?_
      clear hf a; intro a hf
      refine O.gvalB (v:=.bool false) hf rfl rfl rfl hb6 rfl rfl (RunV.not (b:=true) rfl) ?_
      clear hf a; intro a hf
      refine O.val (v:=.bool (((greatM l.length)||(decide ((l.length:Int)>(25:Int))))||false)) hf rfl rfl rfl (RunV.pick rfl rfl rfl (by rw [hb6]; rfl)) ?_; clear hf a; intro a hf
      exact O.nil ⟨rfl,hf.to ⟨rfl,rfl,rfl,rfl,rfl,rfl,rfl,rfl,rfl,rfl,rfl,trivial⟩,hS⟩
  clear hf hS a; rintro a w ⟨hf,hS⟩
  refine O.nil ?_
  refine k_seq ?_
  replace hf:Fr a 186 [] [(0,vl),(4,.pointer (some ⟨b_a1,0,none⟩)),(5,.pointer (some ⟨b_b2,0,none⟩)),(6,.bool false),(7,.bool true),(36,.bool (((greatM l.length)||(decide ((l.length:Int)>(25:Int))))||false))]:=hf.to ⟨rfl,rfl,rfl,rfl,rfl,rfl,trivial⟩
  have hbc:(((greatM l.length)||(decide ((l.length:Int)>(25:Int))))||false)=true:=(by rw [Bool.or_false]; exact hout)
  simp only [hbc] at hf; clear hbc
  refine W.if_tt hf rfl ?_
  refine W.seq ?_
  refine W.regionL (l:=[0,1]) rfl ?_
  refine O.val hf rfl rfl rfl (RunV.move rfl) ?_
  clear hf a; intro a hf
  refine O.val hf rfl rfl rfl (RunV.assign rfl) ?_
  clear hf a; intro a hf
  refine O.nil ?_
  refine k_seq ?_
  replace hf:Fr a 186 [] [(0,vl),(4,.pointer (some ⟨b_a1,0,none⟩)),(5,.pointer (some ⟨b_b2,0,none⟩)),(6,.bool true),(7,.bool true)]:=hf.to ⟨rfl,rfl,rfl,rfl,rfl,trivial⟩
  refine W.ret ?_
  refine k_then_ret ?_
  refine post1 hf rfl (ResOK.tmp rfl) ?_
  exact ⟨(),rfl,hS.sub (List.nil_sublist _) |>.noB⟩
set_option maxHeartbeats 4000000 in
set_option maxRecDepth 4000 in
theorem joined_in (vl:Value) (l:List Ch) (da db:Dg) (w0:World) (hG:Lent w0 ordA) (hl:rdOK (hp w0) 12 vl l.length (encs eC l)) (hfit:vfit vl) (hl25:l.length≤25) :
    Ret Tryd.prog 8 #[vl,.agg #[.int .i64 da.num,.int .i64 da.yr,.int .u8 da.half,.int .u8 da.sec,.int .i64 da.cyc],.agg #[.int .i64 db.num,.int .i64 db.yr,.int .u8 db.half,.int .u8 db.sec,.int .i64 db.cyc]] w0 (G:=Unit) (fun _=>.bool true) (fun _ w=>St w0 w noX [] []):=by
  refine ret_of_W (lv:=[vl,.agg #[.int .i64 da.num,.int .i64 da.yr,.int .u8 da.half,.int .u8 da.sec,.int .i64 da.cyc],.agg #[.int .i64 db.num,.int .i64 db.yr,.int .u8 db.half,.int .u8 db.sec,.int .i64 db.cyc]]) Tryd.func8 rfl rfl rfl (fun a hf=>?_)
  replace hf:Fr a 186 [] [(0,vl),(1,.agg #[.int .i64 da.num,.int .i64 da.yr,.int .u8 da.half,.int .u8 da.sec,.int .i64 da.cyc]),(2,.agg #[.int .i64 db.num,.int .i64 db.yr,.int .u8 db.half,.int .u8 db.sec,.int .i64 db.cyc])]:=hf
  have hS:St w0 w0 noX [ordA,rdv 12 vl l.length (encs eC l)] []:=((St.refl w0).lend0 hl).lendA hG
  have hlm:=hl.2.1
  unfold maxLen at hlm
  refine W.seq ?_
  refine W.regionL (l:=[0,1,2]) rfl ?_
  refine O.box (cs:=#[.int .i64 da.num,.int .i64 da.yr,.int .u8 da.half,.int .u8 da.sec,.int .i64 da.cyc]) hf hS rfl rfl rfl rfl ?_
  clear hf hS a; intro b_a1 w a hbb_a1 hS hf
  refine O.box (cs:=#[.int .i64 db.num,.int .i64 db.yr,.int .u8 db.half,.int .u8 db.sec,.int .i64 db.cyc]) hf hS rfl rfl rfl rfl ?_
  clear hf hS a; intro b_b2 w a hbb_b2 hS hf
  refine O.val hf rfl rfl rfl (RunV.assign rfl) ?_
  clear hf a; intro a hf
  refine O.nil ?_
  refine k_seq ?_
  replace hf:Fr a 186 [] [(0,vl),(4,.pointer (some ⟨b_a1,0,none⟩)),(5,.pointer (some ⟨b_b2,0,none⟩)),(6,.bool false)]:=hf.to ⟨rfl,rfl,rfl,rfl,trivial⟩
  refine W.seq ?_
  refine W.regionL (l:=[0,1]) rfl ?_
  refine O.callR hf rfl rfl rfl (RunE.call (av:=#[]) C_ok_14 rfl rfl rfl) (alive_spec _ (hS.bptO (i:=0) rfl)) ?_
  clear hf a
  rintro _ w3 hS1 a hf
  replace hf:Fr a _ _ ((25,.bool true)::_):=hf
  replace hS:=(hS.call hS1).eqM (N:=[pt b_b2 (.cells #[.int .i64 db.num,.int .i64 db.yr,.int .u8 db.half,.int .u8 db.sec,.int .i64 db.cyc] 24 (0,0)),pt b_a1 (.cells #[.int .i64 da.num,.int .i64 da.yr,.int .u8 da.half,.int .u8 da.sec,.int .i64 da.cyc] 24 (0,0))]) rfl
  clear hS1
  refine O.val hf rfl rfl rfl (RunV.assign rfl) ?_
  clear hf a; intro a hf
  refine O.nil ?_
  refine k_seq ?_
  replace hf:Fr a 186 [] [(0,vl),(4,.pointer (some ⟨b_a1,0,none⟩)),(5,.pointer (some ⟨b_b2,0,none⟩)),(6,.bool false),(7,.bool true)]:=hf.to ⟨rfl,rfl,rfl,rfl,rfl,trivial⟩
  refine W.seq ?_
  refine W.seq ?_
  refine W.regionL (l:=[0,1,2,3,4,5,6,7,8,9,10]) rfl ?_
  refine O.val hf rfl rfl rfl (RunV.move rfl) ?_
  clear hf a; intro a hf
  refine O.callR hf rfl rfl rfl (RunE.call (av:=#[vl]) C_ok_10 rfl rfl rfl) (great_false vl l _ (hS.rdAt (j:=1) rfl) hl25) ?_
  clear hf a
  rintro _ w4 hS1 a hf
  replace hf:Fr a _ _ ((27,.bool false)::_):=hf
  replace hS:=(hS.call hS1).eqM (N:=[pt b_b2 (.cells #[.int .i64 db.num,.int .i64 db.yr,.int .u8 db.half,.int .u8 db.sec,.int .i64 db.cyc] 24 (0,0)),pt b_a1 (.cells #[.int .i64 da.num,.int .i64 da.yr,.int .u8 da.half,.int .u8 da.sec,.int .i64 da.cyc] 24 (0,0))]) rfl
  clear hS1
  refine O.val hf rfl rfl rfl (RunV.move rfl) ?_
  clear hf a; intro a hf
  refine O.gvalB (v:=vl) hf rfl rfl rfl rfl rfl rfl (RunV.move rfl) ?_
  clear hf a; intro a hf
  refine O.gvalB (v:=.int .i64 (l.length:Int)) hf rfl rfl rfl rfl rfl rfl (RunV.lenV (e:=26) (by simpa using T_elem_22) rfl (hS.rdAt (j:=1) rfl)) ?_
  clear hf a; intro a hf
  refine O.gvalB (v:=.bool (decide ((l.length:Int)>(25:Int)))) hf rfl rfl rfl rfl rfl rfl (RunV.gtr rfl rfl) ?_
  clear hf a; intro a hf
  refine O.val (v:=.bool (decide ((l.length:Int)>(25:Int)))) hf rfl rfl rfl (RunV.pick rfl rfl rfl rfl) ?_
  clear hf a; intro a hf
  refine O.val hf rfl rfl rfl (RunV.move rfl) ?_
  clear hf a; intro a hf
  have hbg:(decide ((l.length:Int)>(25:Int)))=false:=decide_eq_false (by omega)
  simp only [hbg] at hf; clear hbg
  refine O.gvalB (v:=.bool true) hf rfl rfl rfl rfl rfl rfl (RunV.move rfl) ?_
  clear hf a; intro a hf
  refine O.gvalB (v:=.bool false) hf rfl rfl rfl rfl rfl rfl (RunV.not (b:=true) rfl) ?_
  clear hf a; intro a hf
  refine O.val (v:=.bool false) hf rfl rfl rfl (RunV.pick rfl rfl rfl rfl) ?_
  clear hf a; intro a hf
  refine O.nil ?_
  refine k_seq ?_
  replace hf:Fr a 186 [] [(0,vl),(4,.pointer (some ⟨b_a1,0,none⟩)),(5,.pointer (some ⟨b_b2,0,none⟩)),(6,.bool false),(7,.bool true),(36,.bool false)]:=hf.to ⟨rfl,rfl,rfl,rfl,rfl,rfl,trivial⟩
  refine W.if_ff hf rfl ?_
  refine W.skip ?_
  refine k_seq ?_
  replace hf:Fr a 186 [] [(0,vl),(4,.pointer (some ⟨b_a1,0,none⟩)),(5,.pointer (some ⟨b_b2,0,none⟩)),(6,.bool false),(7,.bool true)]:=hf.to ⟨rfl,rfl,rfl,rfl,rfl,trivial⟩
  refine W.seq ?_
  rcases hwa:whoM l da with ea | x
  · have ha0:=whoM_ne hwa
    refine W.regionL (l:=[0,1,2,3,4,5,6,7,8]) rfl ?_
    refine O.val hf rfl rfl rfl (RunV.move rfl) ?_
    clear hf a; intro a hf
    refine O.val hf rfl rfl rfl (RunV.loadN (cs':=#[.int .i64 da.num,.int .i64 da.yr,.int .u8 da.half,.int .u8 da.sec,.int .i64 da.cyc]) T_agg_24 T_size_24 rfl (hS.ptAt (i:=1) rfl) (Nat.le_of_ble_eq_true rfl) rfl) ?_
    clear hf a; intro a hf
    refine O.callR hf rfl rfl rfl (RunE.call (av:=#[vl,dV da]) C_ok_19 rfl rfl rfl) (whoE vl l da _ (hS.bptO (i:=0) rfl) (hS.rdAt (j:=1) rfl) hfit ea hwa) ?_
    clear hf a
    rintro _ w5 hS1 a hf
    replace hf:Fr a _ _ ((41,.tuple #[.agg #[.int .i64 0,.int .i64 0,.int .u8 0,.int .u8 0,.int .i64 0,.slice none 0 0],.int .i64 ea])::_):=hf
    replace hS:=(hS.call hS1).eqM (N:=[pt b_b2 (.cells #[.int .i64 db.num,.int .i64 db.yr,.int .u8 db.half,.int .u8 db.sec,.int .i64 db.cyc] 24 (0,0)),pt b_a1 (.cells #[.int .i64 da.num,.int .i64 da.yr,.int .u8 da.half,.int .u8 da.sec,.int .i64 da.cyc] 24 (0,0))]) rfl
    clear hS1
    refine O.val hf rfl rfl rfl (RunV.move rfl) ?_
    clear hf a; intro a hf
    refine O.val hf rfl rfl rfl (RunV.extract rfl rfl) ?_
    clear hf a; intro a hf
    refine O.val hf rfl rfl rfl (RunV.extract rfl rfl) ?_
    clear hf a; intro a hf
    refine O.alloc (cs:=#[.int .i64 0,.int .i64 0,.int .u8 0,.int .u8 0,.int .i64 0,.slice none 0 0]) hf hS rfl rfl T_zero_46 rfl ?_
    clear hf hS a; intro b_x6 w a hbb_x6 hS hf
    refine O.store (j:=0) (cs':=#[.int .i64 0,.int .i64 0,.int .u8 0,.int .u8 0,.int .i64 0,.slice none 0 0]) (M':=[pt b_x6 (.cells #[.int .i64 0,.int .i64 0,.int .u8 0,.int .u8 0,.int .i64 0,.slice none 0 0] 46 (0,0)),pt b_b2 (.cells #[.int .i64 db.num,.int .i64 db.yr,.int .u8 db.half,.int .u8 db.sec,.int .i64 db.cyc] 24 (0,0)),pt b_a1 (.cells #[.int .i64 da.num,.int .i64 da.yr,.int .u8 da.half,.int .u8 da.sec,.int .i64 da.cyc] 24 (0,0))]) hf hS rfl rfl rfl T_size_46 rfl rfl rfl (Nat.le_of_ble_eq_true rfl) rfl rfl ?_
    clear hS; intro w hS
    refine O.val hf rfl rfl rfl (RunV.assign rfl) ?_
    clear hf a; intro a hf
    refine O.nil ?_
    refine k_seq ?_
    replace hf:Fr a 186 [] [(0,vl),(4,.pointer (some ⟨b_a1,0,none⟩)),(5,.pointer (some ⟨b_b2,0,none⟩)),(6,.bool false),(7,.bool true),(8,.pointer (some ⟨b_x6,0,none⟩)),(9,.int .i64 ea)]:=hf.to ⟨rfl,rfl,rfl,rfl,rfl,rfl,rfl,trivial⟩
    refine W.seq ?_
    rcases hwb:whoM l db with eb | y
    · have hb0:=whoM_ne hwb
      refine W.regionL (l:=[0,1,2,3,4,5,6,7,8]) rfl ?_
      refine O.val hf rfl rfl rfl (RunV.move rfl) ?_
      clear hf a; intro a hf
      refine O.val hf rfl rfl rfl (RunV.loadN (cs':=#[.int .i64 db.num,.int .i64 db.yr,.int .u8 db.half,.int .u8 db.sec,.int .i64 db.cyc]) T_agg_24 T_size_24 rfl (hS.ptAt (i:=1) rfl) (Nat.le_of_ble_eq_true rfl) rfl) ?_
      clear hf a; intro a hf
      refine O.callR hf rfl rfl rfl (RunE.call (av:=#[vl,dV db]) C_ok_19 rfl rfl rfl) (whoE vl l db _ (hS.bptO (i:=0) rfl) (hS.rdAt (j:=1) rfl) hfit eb hwb) ?_
      clear hf a
      rintro _ w7 hS1 a hf
      replace hf:Fr a _ _ ((47,.tuple #[.agg #[.int .i64 0,.int .i64 0,.int .u8 0,.int .u8 0,.int .i64 0,.slice none 0 0],.int .i64 eb])::_):=hf
      replace hS:=(hS.call hS1).eqM (N:=[pt b_x6 (.cells #[.int .i64 0,.int .i64 0,.int .u8 0,.int .u8 0,.int .i64 0,.slice none 0 0] 46 (0,0)),pt b_b2 (.cells #[.int .i64 db.num,.int .i64 db.yr,.int .u8 db.half,.int .u8 db.sec,.int .i64 db.cyc] 24 (0,0)),pt b_a1 (.cells #[.int .i64 da.num,.int .i64 da.yr,.int .u8 da.half,.int .u8 da.sec,.int .i64 da.cyc] 24 (0,0))]) rfl
      clear hS1
      refine O.val hf rfl rfl rfl (RunV.move rfl) ?_
      clear hf a; intro a hf
      refine O.val hf rfl rfl rfl (RunV.extract rfl rfl) ?_
      clear hf a; intro a hf
      refine O.val hf rfl rfl rfl (RunV.extract rfl rfl) ?_
      clear hf a; intro a hf
      refine O.alloc (cs:=#[.int .i64 0,.int .i64 0,.int .u8 0,.int .u8 0,.int .i64 0,.slice none 0 0]) hf hS rfl rfl T_zero_46 rfl ?_
      clear hf hS a; intro b_y8 w a hbb_y8 hS hf
      refine O.store (j:=0) (cs':=#[.int .i64 0,.int .i64 0,.int .u8 0,.int .u8 0,.int .i64 0,.slice none 0 0]) (M':=[pt b_y8 (.cells #[.int .i64 0,.int .i64 0,.int .u8 0,.int .u8 0,.int .i64 0,.slice none 0 0] 46 (0,0)),pt b_x6 (.cells #[.int .i64 0,.int .i64 0,.int .u8 0,.int .u8 0,.int .i64 0,.slice none 0 0] 46 (0,0)),pt b_b2 (.cells #[.int .i64 db.num,.int .i64 db.yr,.int .u8 db.half,.int .u8 db.sec,.int .i64 db.cyc] 24 (0,0)),pt b_a1 (.cells #[.int .i64 da.num,.int .i64 da.yr,.int .u8 da.half,.int .u8 da.sec,.int .i64 da.cyc] 24 (0,0))]) hf hS rfl rfl rfl T_size_46 rfl rfl rfl (Nat.le_of_ble_eq_true rfl) rfl rfl ?_
      clear hS; intro w hS
      refine O.val hf rfl rfl rfl (RunV.assign rfl) ?_
      clear hf a; intro a hf
      refine O.nil ?_
      refine k_seq ?_
      replace hf:Fr a 186 [] [(0,vl),(4,.pointer (some ⟨b_a1,0,none⟩)),(5,.pointer (some ⟨b_b2,0,none⟩)),(6,.bool false),(7,.bool true),(8,.pointer (some ⟨b_x6,0,none⟩)),(9,.int .i64 ea),(10,.pointer (some ⟨b_y8,0,none⟩)),(11,.int .i64 eb)]:=hf.to ⟨rfl,rfl,rfl,rfl,rfl,rfl,rfl,rfl,rfl,trivial⟩
      refine W.seq ?_
      rcases hap:appM l (joinC da db) with e | ⟨S2,us2⟩
      · have he0:=appM_ne hap
        refine W.regionL (l:=[0,1,2,3,4,5,6,7,8,9]) rfl ?_
        refine O.val hf rfl rfl rfl (RunV.move rfl) ?_
        clear hf a; intro a hf
        refine O.val hf rfl rfl rfl (RunV.loadN (cs':=#[.int .i64 da.num,.int .i64 da.yr,.int .u8 da.half,.int .u8 da.sec,.int .i64 da.cyc]) T_agg_24 T_size_24 rfl (hS.ptAt (i:=3) rfl) (Nat.le_of_ble_eq_true rfl) rfl) ?_
        clear hf a; intro a hf
        refine O.val hf rfl rfl rfl (RunV.loadN (cs':=#[.int .i64 db.num,.int .i64 db.yr,.int .u8 db.half,.int .u8 db.sec,.int .i64 db.cyc]) T_agg_24 T_size_24 rfl (hS.ptAt (i:=2) rfl) (Nat.le_of_ble_eq_true rfl) rfl) ?_
        clear hf a; intro a hf
        refine O.val hf rfl rfl rfl (RunV.buildS (cs':=#[.int .u8 2,.int .i64 da.num,.int .i64 da.yr,.int .u8 da.half,.int .u8 da.sec,.int .i64 da.cyc,.int .i64 db.num,.int .i64 db.yr,.int .u8 db.half,.int .u8 db.sec,.int .i64 db.cyc,.int .i64 0]) T_places_26 T_zero_26 rfl (by kernel_rfl)) ?_
        clear hf a; intro a hf
        refine O.callR hf rfl rfl rfl (RunE.call (av:=#[vl,cV (joinC da db)]) C_ok_11 rfl rfl rfl) (applyE vl l (joinC da db) _ (hS.bptO (i:=0) rfl) (hS.rdAt (j:=1) rfl) hfit (by omega) e hap) ?_
        clear hf a
        rintro _ w9 hS1 a hf
        replace hf:Fr a _ _ ((55,.tuple #[.slice none 0 0,.int .i64 e])::_):=hf
        replace hS:=(hS.call hS1).eqM (N:=[pt b_y8 (.cells #[.int .i64 0,.int .i64 0,.int .u8 0,.int .u8 0,.int .i64 0,.slice none 0 0] 46 (0,0)),pt b_x6 (.cells #[.int .i64 0,.int .i64 0,.int .u8 0,.int .u8 0,.int .i64 0,.slice none 0 0] 46 (0,0)),pt b_b2 (.cells #[.int .i64 db.num,.int .i64 db.yr,.int .u8 db.half,.int .u8 db.sec,.int .i64 db.cyc] 24 (0,0)),pt b_a1 (.cells #[.int .i64 da.num,.int .i64 da.yr,.int .u8 da.half,.int .u8 da.sec,.int .i64 da.cyc] 24 (0,0))]) rfl
        clear hS1
        refine O.val hf rfl rfl rfl (RunV.move rfl) ?_
        clear hf a; intro a hf
        refine O.val hf rfl rfl rfl (RunV.extract rfl rfl) ?_
        clear hf a; intro a hf
        refine O.val hf rfl rfl rfl (RunV.extract rfl rfl) ?_
        clear hf a; intro a hf
        refine O.val hf rfl rfl rfl (RunV.assign rfl) ?_
        clear hf a; intro a hf
        refine O.val hf rfl rfl rfl (RunV.assign rfl) ?_
        clear hf a; intro a hf
        refine O.nil ?_
        refine k_seq ?_
        replace hf:Fr a 186 [] [(0,vl),(4,.pointer (some ⟨b_a1,0,none⟩)),(5,.pointer (some ⟨b_b2,0,none⟩)),(6,.bool false),(7,.bool true),(8,.pointer (some ⟨b_x6,0,none⟩)),(9,.int .i64 ea),(10,.pointer (some ⟨b_y8,0,none⟩)),(11,.int .i64 eb),(12,.slice none 0 0),(13,.int .i64 e)]:=hf.to ⟨rfl,rfl,rfl,rfl,rfl,rfl,rfl,rfl,rfl,rfl,rfl,trivial⟩
        refine W.seq ?_
        refine W.seq ?_
        refine W.regionL (l:=[0,1]) rfl ?_
        refine O.val hf rfl rfl rfl (RunV.move rfl) ?_
        clear hf a; intro a hf
        refine O.val (v:=.bool (decide (e≠(0:Int)))) hf rfl rfl rfl (RunV.neq rfl rfl) ?_
        clear hf a; intro a hf
        refine O.nil ?_
        refine k_seq ?_
        replace hf:Fr a 186 [] [(0,vl),(4,.pointer (some ⟨b_a1,0,none⟩)),(5,.pointer (some ⟨b_b2,0,none⟩)),(6,.bool false),(7,.bool true),(8,.pointer (some ⟨b_x6,0,none⟩)),(9,.int .i64 ea),(10,.pointer (some ⟨b_y8,0,none⟩)),(11,.int .i64 eb),(12,.slice none 0 0),(59,.bool (decide (e≠(0:Int))))]:=hf.to ⟨rfl,rfl,rfl,rfl,rfl,rfl,rfl,rfl,rfl,rfl,rfl,trivial⟩
        have hbc:(decide (e≠(0:Int)))=true:=decide_eq_true he0
        simp only [hbc] at hf; clear hbc
        refine W.if_tt hf rfl ?_
        refine W.seq ?_
        refine W.regionL (l:=[0,1,2,3,4,5,6,7,8,9,10,11,12,13,14,15,16,17,18,19,20,21,22,23,24,25,26]) rfl ?_
        refine O.val hf rfl rfl rfl (RunV.move rfl) ?_
        clear hf a; intro a hf
        refine O.val hf rfl rfl rfl (RunV.move rfl) ?_
        clear hf a; intro a hf
        refine O.gvalB (v:=.int .i64 ea) hf rfl rfl rfl rfl rfl rfl (RunV.move rfl) ?_
        clear hf a; intro a hf
        refine O.gvalB (v:=.bool (decide (ea≠(0:Int)))) hf rfl rfl rfl rfl rfl rfl (RunV.neq rfl rfl) ?_
        clear hf a; intro a hf
        refine O.gvalB (v:=.bool (decide (ea≠(0:Int)))) hf rfl rfl rfl rfl rfl rfl (RunV.move rfl) ?_
        clear hf a; intro a hf
        have hbg:(decide (ea≠(0:Int)))=true:=decide_eq_true ha0
        simp only [hbg] at hf; clear hbg
        refine O.skipB hf rfl rfl rfl rfl rfl ?_; clear hf a; intro a hf
        refine O.skipB hf rfl rfl rfl rfl rfl ?_; clear hf a; intro a hf
        refine O.gvalB (v:=.bool true) hf rfl rfl rfl rfl rfl rfl (RunV.pick rfl rfl rfl rfl) ?_
        clear hf a; intro a hf
        refine O.gvalB (v:=.bool true) hf rfl rfl rfl rfl rfl rfl (RunV.move rfl) ?_
        clear hf a; intro a hf
        refine O.skipB hf rfl rfl rfl rfl rfl ?_; clear hf a; intro a hf
        refine O.skipB hf rfl rfl rfl rfl rfl ?_; clear hf a; intro a hf
        refine O.skipB hf rfl rfl rfl rfl rfl ?_; clear hf a; intro a hf
        refine O.gvalB (v:=.bool true) hf rfl rfl rfl rfl rfl rfl (RunV.pick rfl rfl rfl rfl) ?_
        clear hf a; intro a hf
        refine O.gvalB (v:=.bool true) hf rfl rfl rfl rfl rfl rfl (RunV.move rfl) ?_
        clear hf a; intro a hf
        refine O.skipB hf rfl rfl rfl rfl rfl ?_; clear hf a; intro a hf
        refine O.skipB hf rfl rfl rfl rfl rfl ?_; clear hf a; intro a hf
        refine O.skipB hf rfl rfl rfl rfl rfl ?_; clear hf a; intro a hf
        refine O.skipB hf rfl rfl rfl rfl rfl ?_; clear hf a; intro a hf
        refine O.skipB hf rfl rfl rfl rfl rfl ?_; clear hf a; intro a hf
        refine O.skipU hf rfl rfl rfl rfl ?_; clear hf a; intro a hf
        refine O.skipU hf rfl rfl rfl rfl ?_; clear hf a; intro a hf
        refine O.skipU hf rfl rfl rfl rfl ?_; clear hf a; intro a hf
        refine O.skipU hf rfl rfl rfl rfl ?_; clear hf a; intro a hf
        refine O.skipB hf rfl rfl rfl rfl rfl ?_; clear hf a; intro a hf
        refine O.gvalB (v:=.bool true) hf rfl rfl rfl rfl rfl rfl (RunV.pick rfl rfl rfl rfl) ?_
        clear hf a; intro a hf
        refine O.val (v:=.bool true) hf rfl rfl rfl (RunV.pick rfl rfl rfl rfl) ?_
        clear hf a; intro a hf
        refine O.val hf rfl rfl rfl (RunV.assign rfl) ?_
        clear hf a; intro a hf
        refine O.nil ?_
        refine k_seq ?_
        replace hf:Fr a 186 [] [(0,vl),(4,.pointer (some ⟨b_a1,0,none⟩)),(5,.pointer (some ⟨b_b2,0,none⟩)),(6,.bool true),(7,.bool true),(8,.pointer (some ⟨b_x6,0,none⟩)),(9,.int .i64 ea),(10,.pointer (some ⟨b_y8,0,none⟩)),(11,.int .i64 eb),(12,.slice none 0 0)]:=hf.to ⟨rfl,rfl,rfl,rfl,rfl,rfl,rfl,rfl,rfl,rfl,trivial⟩
        refine W.ret ?_
        refine k_then_ret ?_
        refine post1 hf rfl (ResOK.tmp rfl) ?_
        exact ⟨(),rfl,hS.sub (List.nil_sublist _) |>.noB⟩
      · obtain ⟨S,us,x',y',z,hm,hc,hm2,hwa2,hwb2,hR⟩:=joined_ok (by omega) hap
        rw [hwa] at hwa2; cases hwa2
    ·
      refine W.regionL (l:=[0,1,2,3,4,5,6,7,8]) rfl ?_
      refine O.val hf rfl rfl rfl (RunV.move rfl) ?_
      clear hf a; intro a hf
      refine O.val hf rfl rfl rfl (RunV.loadN (cs':=#[.int .i64 db.num,.int .i64 db.yr,.int .u8 db.half,.int .u8 db.sec,.int .i64 db.cyc]) T_agg_24 T_size_24 rfl (hS.ptAt (i:=1) rfl) (Nat.le_of_ble_eq_true rfl) rfl) ?_
      clear hf a; intro a hf
      refine O.callR hf rfl rfl rfl (RunE.call (av:=#[vl,dV db]) C_ok_19 rfl rfl rfl) (whoO vl l db _ (hS.bptO (i:=0) rfl) (hS.rdAt (j:=1) rfl) hfit y hwb) ?_
      clear hf a
      rintro yv w10 hS1 a hf
      replace hf:Fr a _ _ ((47,.tuple #[.agg #[.int .i64 (((sortDs y.1).getD 0 default).num),.int .i64 (((sortDs y.1).getD 0 default).yr),.int .u8 (((sortDs y.1).getD 0 default).half),.int .u8 (((sortDs y.1).getD 0 default).sec),.int .i64 (((sortDs y.1).getD 0 default).cyc),yv],.int .i64 0])::_):=hf
      replace hS:=(hS.call hS1).eqM (N:=[sl 24 5 yv ((sortDs y.1).length) (encs eD (sortDs y.1)),pt b_x6 (.cells #[.int .i64 0,.int .i64 0,.int .u8 0,.int .u8 0,.int .i64 0,.slice none 0 0] 46 (0,0)),pt b_b2 (.cells #[.int .i64 db.num,.int .i64 db.yr,.int .u8 db.half,.int .u8 db.sec,.int .i64 db.cyc] 24 (0,0)),pt b_a1 (.cells #[.int .i64 da.num,.int .i64 da.yr,.int .u8 da.half,.int .u8 da.sec,.int .i64 da.cyc] 24 (0,0))]) rfl
      clear hS1
      refine O.val hf rfl rfl rfl (RunV.move rfl) ?_
      clear hf a; intro a hf
      refine O.val hf rfl rfl rfl (RunV.extract rfl rfl) ?_
      clear hf a; intro a hf
      refine O.val hf rfl rfl rfl (RunV.extract rfl rfl) ?_
      clear hf a; intro a hf
      refine O.alloc (cs:=#[.int .i64 0,.int .i64 0,.int .u8 0,.int .u8 0,.int .i64 0,.slice none 0 0]) hf hS rfl rfl T_zero_46 rfl ?_
      clear hf hS a; intro b_y11 w a hbb_y11 hS hf
      have hcl12:=rdOK.cells (hS.slr (j:=1) rfl)
      refine O.store (j:=0) (cs':=#[.int .i64 (((sortDs y.1).getD 0 default).num),.int .i64 (((sortDs y.1).getD 0 default).yr),.int .u8 (((sortDs y.1).getD 0 default).half),.int .u8 (((sortDs y.1).getD 0 default).sec),.int .i64 (((sortDs y.1).getD 0 default).cyc),yv]) (M':=[pt b_y11 (.cells #[.int .i64 (((sortDs y.1).getD 0 default).num),.int .i64 (((sortDs y.1).getD 0 default).yr),.int .u8 (((sortDs y.1).getD 0 default).half),.int .u8 (((sortDs y.1).getD 0 default).sec),.int .i64 (((sortDs y.1).getD 0 default).cyc),yv] 46 (0,0)),sl 24 5 yv ((sortDs y.1).length) (encs eD (sortDs y.1)),pt b_x6 (.cells #[.int .i64 0,.int .i64 0,.int .u8 0,.int .u8 0,.int .i64 0,.slice none 0 0] 46 (0,0)),pt b_b2 (.cells #[.int .i64 db.num,.int .i64 db.yr,.int .u8 db.half,.int .u8 db.sec,.int .i64 db.cyc] 24 (0,0)),pt b_a1 (.cells #[.int .i64 da.num,.int .i64 da.yr,.int .u8 da.half,.int .u8 da.sec,.int .i64 da.cyc] 24 (0,0))]) hf hS rfl rfl rfl T_size_46 rfl (oneCells_cc rfl (oneCells_cc rfl (oneCells_cc rfl (oneCells_cc rfl (oneCells_cc rfl (oneCells_cc hcl12.2 rfl)))))) rfl (Nat.le_of_ble_eq_true rfl) rfl rfl ?_
      clear hS; intro w hS
      refine O.val hf rfl rfl rfl (RunV.assign rfl) ?_
      clear hf a; intro a hf
      refine O.nil ?_
      refine k_seq ?_
      replace hf:Fr a 186 [] [(0,vl),(4,.pointer (some ⟨b_a1,0,none⟩)),(5,.pointer (some ⟨b_b2,0,none⟩)),(6,.bool false),(7,.bool true),(8,.pointer (some ⟨b_x6,0,none⟩)),(9,.int .i64 ea),(10,.pointer (some ⟨b_y11,0,none⟩)),(11,.int .i64 0)]:=hf.to ⟨rfl,rfl,rfl,rfl,rfl,rfl,rfl,rfl,rfl,trivial⟩
      refine W.seq ?_
      rcases hap:appM l (joinC da db) with e | ⟨S2,us2⟩
      · have he0:=appM_ne hap
        refine W.regionL (l:=[0,1,2,3,4,5,6,7,8,9]) rfl ?_
        refine O.val hf rfl rfl rfl (RunV.move rfl) ?_
        clear hf a; intro a hf
        refine O.val hf rfl rfl rfl (RunV.loadN (cs':=#[.int .i64 da.num,.int .i64 da.yr,.int .u8 da.half,.int .u8 da.sec,.int .i64 da.cyc]) T_agg_24 T_size_24 rfl (hS.ptAt (i:=4) rfl) (Nat.le_of_ble_eq_true rfl) rfl) ?_
        clear hf a; intro a hf
        refine O.val hf rfl rfl rfl (RunV.loadN (cs':=#[.int .i64 db.num,.int .i64 db.yr,.int .u8 db.half,.int .u8 db.sec,.int .i64 db.cyc]) T_agg_24 T_size_24 rfl (hS.ptAt (i:=3) rfl) (Nat.le_of_ble_eq_true rfl) rfl) ?_
        clear hf a; intro a hf
        refine O.val hf rfl rfl rfl (RunV.buildS (cs':=#[.int .u8 2,.int .i64 da.num,.int .i64 da.yr,.int .u8 da.half,.int .u8 da.sec,.int .i64 da.cyc,.int .i64 db.num,.int .i64 db.yr,.int .u8 db.half,.int .u8 db.sec,.int .i64 db.cyc,.int .i64 0]) T_places_26 T_zero_26 rfl (by kernel_rfl)) ?_
        clear hf a; intro a hf
        refine O.callR hf rfl rfl rfl (RunE.call (av:=#[vl,cV (joinC da db)]) C_ok_11 rfl rfl rfl) (applyE vl l (joinC da db) _ (hS.bptO (i:=0) rfl) (hS.rdAt (j:=1) rfl) hfit (by omega) e hap) ?_
        clear hf a
        rintro _ w13 hS1 a hf
        replace hf:Fr a _ _ ((55,.tuple #[.slice none 0 0,.int .i64 e])::_):=hf
        replace hS:=(hS.call hS1).eqM (N:=[pt b_y11 (.cells #[.int .i64 (((sortDs y.1).getD 0 default).num),.int .i64 (((sortDs y.1).getD 0 default).yr),.int .u8 (((sortDs y.1).getD 0 default).half),.int .u8 (((sortDs y.1).getD 0 default).sec),.int .i64 (((sortDs y.1).getD 0 default).cyc),yv] 46 (0,0)),sl 24 5 yv ((sortDs y.1).length) (encs eD (sortDs y.1)),pt b_x6 (.cells #[.int .i64 0,.int .i64 0,.int .u8 0,.int .u8 0,.int .i64 0,.slice none 0 0] 46 (0,0)),pt b_b2 (.cells #[.int .i64 db.num,.int .i64 db.yr,.int .u8 db.half,.int .u8 db.sec,.int .i64 db.cyc] 24 (0,0)),pt b_a1 (.cells #[.int .i64 da.num,.int .i64 da.yr,.int .u8 da.half,.int .u8 da.sec,.int .i64 da.cyc] 24 (0,0))]) rfl
        clear hS1
        refine O.val hf rfl rfl rfl (RunV.move rfl) ?_
        clear hf a; intro a hf
        refine O.val hf rfl rfl rfl (RunV.extract rfl rfl) ?_
        clear hf a; intro a hf
        refine O.val hf rfl rfl rfl (RunV.extract rfl rfl) ?_
        clear hf a; intro a hf
        refine O.val hf rfl rfl rfl (RunV.assign rfl) ?_
        clear hf a; intro a hf
        refine O.val hf rfl rfl rfl (RunV.assign rfl) ?_
        clear hf a; intro a hf
        refine O.nil ?_
        refine k_seq ?_
        replace hf:Fr a 186 [] [(0,vl),(4,.pointer (some ⟨b_a1,0,none⟩)),(5,.pointer (some ⟨b_b2,0,none⟩)),(6,.bool false),(7,.bool true),(8,.pointer (some ⟨b_x6,0,none⟩)),(9,.int .i64 ea),(10,.pointer (some ⟨b_y11,0,none⟩)),(11,.int .i64 0),(12,.slice none 0 0),(13,.int .i64 e)]:=hf.to ⟨rfl,rfl,rfl,rfl,rfl,rfl,rfl,rfl,rfl,rfl,rfl,trivial⟩
        refine W.seq ?_
        refine W.seq ?_
        refine W.regionL (l:=[0,1]) rfl ?_
        refine O.val hf rfl rfl rfl (RunV.move rfl) ?_
        clear hf a; intro a hf
        refine O.val (v:=.bool (decide (e≠(0:Int)))) hf rfl rfl rfl (RunV.neq rfl rfl) ?_
        clear hf a; intro a hf
        refine O.nil ?_
        refine k_seq ?_
        replace hf:Fr a 186 [] [(0,vl),(4,.pointer (some ⟨b_a1,0,none⟩)),(5,.pointer (some ⟨b_b2,0,none⟩)),(6,.bool false),(7,.bool true),(8,.pointer (some ⟨b_x6,0,none⟩)),(9,.int .i64 ea),(10,.pointer (some ⟨b_y11,0,none⟩)),(11,.int .i64 0),(12,.slice none 0 0),(59,.bool (decide (e≠(0:Int))))]:=hf.to ⟨rfl,rfl,rfl,rfl,rfl,rfl,rfl,rfl,rfl,rfl,rfl,trivial⟩
        have hbc:(decide (e≠(0:Int)))=true:=decide_eq_true he0
        simp only [hbc] at hf; clear hbc
        refine W.if_tt hf rfl ?_
        refine W.seq ?_
        refine W.regionL (l:=[0,1,2,3,4,5,6,7,8,9,10,11,12,13,14,15,16,17,18,19,20,21,22,23,24,25,26]) rfl ?_
        refine O.val hf rfl rfl rfl (RunV.move rfl) ?_
        clear hf a; intro a hf
        refine O.val hf rfl rfl rfl (RunV.move rfl) ?_
        clear hf a; intro a hf
        refine O.gvalB (v:=.int .i64 ea) hf rfl rfl rfl rfl rfl rfl (RunV.move rfl) ?_
        clear hf a; intro a hf
        refine O.gvalB (v:=.bool (decide (ea≠(0:Int)))) hf rfl rfl rfl rfl rfl rfl (RunV.neq rfl rfl) ?_
        clear hf a; intro a hf
        refine O.gvalB (v:=.bool (decide (ea≠(0:Int)))) hf rfl rfl rfl rfl rfl rfl (RunV.move rfl) ?_
        clear hf a; intro a hf
        have hbg:(decide (ea≠(0:Int)))=true:=decide_eq_true ha0
        simp only [hbg] at hf; clear hbg
        refine O.skipB hf rfl rfl rfl rfl rfl ?_; clear hf a; intro a hf
        refine O.skipB hf rfl rfl rfl rfl rfl ?_; clear hf a; intro a hf
        refine O.gvalB (v:=.bool true) hf rfl rfl rfl rfl rfl rfl (RunV.pick rfl rfl rfl rfl) ?_
        clear hf a; intro a hf
        refine O.gvalB (v:=.bool true) hf rfl rfl rfl rfl rfl rfl (RunV.move rfl) ?_
        clear hf a; intro a hf
        refine O.skipB hf rfl rfl rfl rfl rfl ?_; clear hf a; intro a hf
        refine O.skipB hf rfl rfl rfl rfl rfl ?_; clear hf a; intro a hf
        refine O.skipB hf rfl rfl rfl rfl rfl ?_; clear hf a; intro a hf
        refine O.gvalB (v:=.bool true) hf rfl rfl rfl rfl rfl rfl (RunV.pick rfl rfl rfl rfl) ?_
        clear hf a; intro a hf
        refine O.gvalB (v:=.bool true) hf rfl rfl rfl rfl rfl rfl (RunV.move rfl) ?_
        clear hf a; intro a hf
        refine O.skipB hf rfl rfl rfl rfl rfl ?_; clear hf a; intro a hf
        refine O.skipB hf rfl rfl rfl rfl rfl ?_; clear hf a; intro a hf
        refine O.skipB hf rfl rfl rfl rfl rfl ?_; clear hf a; intro a hf
        refine O.skipB hf rfl rfl rfl rfl rfl ?_; clear hf a; intro a hf
        refine O.skipB hf rfl rfl rfl rfl rfl ?_; clear hf a; intro a hf
        refine O.skipU hf rfl rfl rfl rfl ?_; clear hf a; intro a hf
        refine O.skipU hf rfl rfl rfl rfl ?_; clear hf a; intro a hf
        refine O.skipU hf rfl rfl rfl rfl ?_; clear hf a; intro a hf
        refine O.skipU hf rfl rfl rfl rfl ?_; clear hf a; intro a hf
        refine O.skipB hf rfl rfl rfl rfl rfl ?_; clear hf a; intro a hf
        refine O.gvalB (v:=.bool true) hf rfl rfl rfl rfl rfl rfl (RunV.pick rfl rfl rfl rfl) ?_
        clear hf a; intro a hf
        refine O.val (v:=.bool true) hf rfl rfl rfl (RunV.pick rfl rfl rfl rfl) ?_
        clear hf a; intro a hf
        refine O.val hf rfl rfl rfl (RunV.assign rfl) ?_
        clear hf a; intro a hf
        refine O.nil ?_
        refine k_seq ?_
        replace hf:Fr a 186 [] [(0,vl),(4,.pointer (some ⟨b_a1,0,none⟩)),(5,.pointer (some ⟨b_b2,0,none⟩)),(6,.bool true),(7,.bool true),(8,.pointer (some ⟨b_x6,0,none⟩)),(9,.int .i64 ea),(10,.pointer (some ⟨b_y11,0,none⟩)),(11,.int .i64 0),(12,.slice none 0 0)]:=hf.to ⟨rfl,rfl,rfl,rfl,rfl,rfl,rfl,rfl,rfl,rfl,trivial⟩
        refine W.ret ?_
        refine k_then_ret ?_
        refine post1 hf rfl (ResOK.tmp rfl) ?_
        exact ⟨(),rfl,hS.sub (List.nil_sublist _) |>.noB⟩
      · obtain ⟨S,us,x',y',z,hm,hc,hm2,hwa2,hwb2,hR⟩:=joined_ok (by omega) hap
        rw [hwa] at hwa2; cases hwa2
  ·
    refine W.regionL (l:=[0,1,2,3,4,5,6,7,8]) rfl ?_
    refine O.val hf rfl rfl rfl (RunV.move rfl) ?_
    clear hf a; intro a hf
    refine O.val hf rfl rfl rfl (RunV.loadN (cs':=#[.int .i64 da.num,.int .i64 da.yr,.int .u8 da.half,.int .u8 da.sec,.int .i64 da.cyc]) T_agg_24 T_size_24 rfl (hS.ptAt (i:=1) rfl) (Nat.le_of_ble_eq_true rfl) rfl) ?_
    clear hf a; intro a hf
    refine O.callR hf rfl rfl rfl (RunE.call (av:=#[vl,dV da]) C_ok_19 rfl rfl rfl) (whoO vl l da _ (hS.bptO (i:=0) rfl) (hS.rdAt (j:=1) rfl) hfit x hwa) ?_
    clear hf a
    rintro xv w14 hS1 a hf
    replace hf:Fr a _ _ ((41,.tuple #[.agg #[.int .i64 (((sortDs x.1).getD 0 default).num),.int .i64 (((sortDs x.1).getD 0 default).yr),.int .u8 (((sortDs x.1).getD 0 default).half),.int .u8 (((sortDs x.1).getD 0 default).sec),.int .i64 (((sortDs x.1).getD 0 default).cyc),xv],.int .i64 0])::_):=hf
    replace hS:=(hS.call hS1).eqM (N:=[sl 24 5 xv ((sortDs x.1).length) (encs eD (sortDs x.1)),pt b_b2 (.cells #[.int .i64 db.num,.int .i64 db.yr,.int .u8 db.half,.int .u8 db.sec,.int .i64 db.cyc] 24 (0,0)),pt b_a1 (.cells #[.int .i64 da.num,.int .i64 da.yr,.int .u8 da.half,.int .u8 da.sec,.int .i64 da.cyc] 24 (0,0))]) rfl
    clear hS1
    refine O.val hf rfl rfl rfl (RunV.move rfl) ?_
    clear hf a; intro a hf
    refine O.val hf rfl rfl rfl (RunV.extract rfl rfl) ?_
    clear hf a; intro a hf
    refine O.val hf rfl rfl rfl (RunV.extract rfl rfl) ?_
    clear hf a; intro a hf
    refine O.alloc (cs:=#[.int .i64 0,.int .i64 0,.int .u8 0,.int .u8 0,.int .i64 0,.slice none 0 0]) hf hS rfl rfl T_zero_46 rfl ?_
    clear hf hS a; intro b_x15 w a hbb_x15 hS hf
    have hcl16:=rdOK.cells (hS.slr (j:=1) rfl)
    refine O.store (j:=0) (cs':=#[.int .i64 (((sortDs x.1).getD 0 default).num),.int .i64 (((sortDs x.1).getD 0 default).yr),.int .u8 (((sortDs x.1).getD 0 default).half),.int .u8 (((sortDs x.1).getD 0 default).sec),.int .i64 (((sortDs x.1).getD 0 default).cyc),xv]) (M':=[pt b_x15 (.cells #[.int .i64 (((sortDs x.1).getD 0 default).num),.int .i64 (((sortDs x.1).getD 0 default).yr),.int .u8 (((sortDs x.1).getD 0 default).half),.int .u8 (((sortDs x.1).getD 0 default).sec),.int .i64 (((sortDs x.1).getD 0 default).cyc),xv] 46 (0,0)),sl 24 5 xv ((sortDs x.1).length) (encs eD (sortDs x.1)),pt b_b2 (.cells #[.int .i64 db.num,.int .i64 db.yr,.int .u8 db.half,.int .u8 db.sec,.int .i64 db.cyc] 24 (0,0)),pt b_a1 (.cells #[.int .i64 da.num,.int .i64 da.yr,.int .u8 da.half,.int .u8 da.sec,.int .i64 da.cyc] 24 (0,0))]) hf hS rfl rfl rfl T_size_46 rfl (oneCells_cc rfl (oneCells_cc rfl (oneCells_cc rfl (oneCells_cc rfl (oneCells_cc rfl (oneCells_cc hcl16.2 rfl)))))) rfl (Nat.le_of_ble_eq_true rfl) rfl rfl ?_
    clear hS; intro w hS
    refine O.val hf rfl rfl rfl (RunV.assign rfl) ?_
    clear hf a; intro a hf
    refine O.nil ?_
    refine k_seq ?_
    replace hf:Fr a 186 [] [(0,vl),(4,.pointer (some ⟨b_a1,0,none⟩)),(5,.pointer (some ⟨b_b2,0,none⟩)),(6,.bool false),(7,.bool true),(8,.pointer (some ⟨b_x15,0,none⟩)),(9,.int .i64 0)]:=hf.to ⟨rfl,rfl,rfl,rfl,rfl,rfl,rfl,trivial⟩
    refine W.seq ?_
    rcases hwb:whoM l db with eb | y
    · have hb0:=whoM_ne hwb
      refine W.regionL (l:=[0,1,2,3,4,5,6,7,8]) rfl ?_
      refine O.val hf rfl rfl rfl (RunV.move rfl) ?_
      clear hf a; intro a hf
      refine O.val hf rfl rfl rfl (RunV.loadN (cs':=#[.int .i64 db.num,.int .i64 db.yr,.int .u8 db.half,.int .u8 db.sec,.int .i64 db.cyc]) T_agg_24 T_size_24 rfl (hS.ptAt (i:=2) rfl) (Nat.le_of_ble_eq_true rfl) rfl) ?_
      clear hf a; intro a hf
      refine O.callR hf rfl rfl rfl (RunE.call (av:=#[vl,dV db]) C_ok_19 rfl rfl rfl) (whoE vl l db _ (hS.bptO (i:=0) rfl) (hS.rdAt (j:=1) rfl) hfit eb hwb) ?_
      clear hf a
      rintro _ w17 hS1 a hf
      replace hf:Fr a _ _ ((47,.tuple #[.agg #[.int .i64 0,.int .i64 0,.int .u8 0,.int .u8 0,.int .i64 0,.slice none 0 0],.int .i64 eb])::_):=hf
      replace hS:=(hS.call hS1).eqM (N:=[pt b_x15 (.cells #[.int .i64 (((sortDs x.1).getD 0 default).num),.int .i64 (((sortDs x.1).getD 0 default).yr),.int .u8 (((sortDs x.1).getD 0 default).half),.int .u8 (((sortDs x.1).getD 0 default).sec),.int .i64 (((sortDs x.1).getD 0 default).cyc),xv] 46 (0,0)),sl 24 5 xv ((sortDs x.1).length) (encs eD (sortDs x.1)),pt b_b2 (.cells #[.int .i64 db.num,.int .i64 db.yr,.int .u8 db.half,.int .u8 db.sec,.int .i64 db.cyc] 24 (0,0)),pt b_a1 (.cells #[.int .i64 da.num,.int .i64 da.yr,.int .u8 da.half,.int .u8 da.sec,.int .i64 da.cyc] 24 (0,0))]) rfl
      clear hS1
      refine O.val hf rfl rfl rfl (RunV.move rfl) ?_
      clear hf a; intro a hf
      refine O.val hf rfl rfl rfl (RunV.extract rfl rfl) ?_
      clear hf a; intro a hf
      refine O.val hf rfl rfl rfl (RunV.extract rfl rfl) ?_
      clear hf a; intro a hf
      refine O.alloc (cs:=#[.int .i64 0,.int .i64 0,.int .u8 0,.int .u8 0,.int .i64 0,.slice none 0 0]) hf hS rfl rfl T_zero_46 rfl ?_
      clear hf hS a; intro b_y18 w a hbb_y18 hS hf
      refine O.store (j:=0) (cs':=#[.int .i64 0,.int .i64 0,.int .u8 0,.int .u8 0,.int .i64 0,.slice none 0 0]) (M':=[pt b_y18 (.cells #[.int .i64 0,.int .i64 0,.int .u8 0,.int .u8 0,.int .i64 0,.slice none 0 0] 46 (0,0)),pt b_x15 (.cells #[.int .i64 (((sortDs x.1).getD 0 default).num),.int .i64 (((sortDs x.1).getD 0 default).yr),.int .u8 (((sortDs x.1).getD 0 default).half),.int .u8 (((sortDs x.1).getD 0 default).sec),.int .i64 (((sortDs x.1).getD 0 default).cyc),xv] 46 (0,0)),sl 24 5 xv ((sortDs x.1).length) (encs eD (sortDs x.1)),pt b_b2 (.cells #[.int .i64 db.num,.int .i64 db.yr,.int .u8 db.half,.int .u8 db.sec,.int .i64 db.cyc] 24 (0,0)),pt b_a1 (.cells #[.int .i64 da.num,.int .i64 da.yr,.int .u8 da.half,.int .u8 da.sec,.int .i64 da.cyc] 24 (0,0))]) hf hS rfl rfl rfl T_size_46 rfl rfl rfl (Nat.le_of_ble_eq_true rfl) rfl rfl ?_
      clear hS; intro w hS
      refine O.val hf rfl rfl rfl (RunV.assign rfl) ?_
      clear hf a; intro a hf
      refine O.nil ?_
      refine k_seq ?_
      replace hf:Fr a 186 [] [(0,vl),(4,.pointer (some ⟨b_a1,0,none⟩)),(5,.pointer (some ⟨b_b2,0,none⟩)),(6,.bool false),(7,.bool true),(8,.pointer (some ⟨b_x15,0,none⟩)),(9,.int .i64 0),(10,.pointer (some ⟨b_y18,0,none⟩)),(11,.int .i64 eb)]:=hf.to ⟨rfl,rfl,rfl,rfl,rfl,rfl,rfl,rfl,rfl,trivial⟩
      refine W.seq ?_
      rcases hap:appM l (joinC da db) with e | ⟨S2,us2⟩
      · have he0:=appM_ne hap
        refine W.regionL (l:=[0,1,2,3,4,5,6,7,8,9]) rfl ?_
        refine O.val hf rfl rfl rfl (RunV.move rfl) ?_
        clear hf a; intro a hf
        refine O.val hf rfl rfl rfl (RunV.loadN (cs':=#[.int .i64 da.num,.int .i64 da.yr,.int .u8 da.half,.int .u8 da.sec,.int .i64 da.cyc]) T_agg_24 T_size_24 rfl (hS.ptAt (i:=4) rfl) (Nat.le_of_ble_eq_true rfl) rfl) ?_
        clear hf a; intro a hf
        refine O.val hf rfl rfl rfl (RunV.loadN (cs':=#[.int .i64 db.num,.int .i64 db.yr,.int .u8 db.half,.int .u8 db.sec,.int .i64 db.cyc]) T_agg_24 T_size_24 rfl (hS.ptAt (i:=3) rfl) (Nat.le_of_ble_eq_true rfl) rfl) ?_
        clear hf a; intro a hf
        refine O.val hf rfl rfl rfl (RunV.buildS (cs':=#[.int .u8 2,.int .i64 da.num,.int .i64 da.yr,.int .u8 da.half,.int .u8 da.sec,.int .i64 da.cyc,.int .i64 db.num,.int .i64 db.yr,.int .u8 db.half,.int .u8 db.sec,.int .i64 db.cyc,.int .i64 0]) T_places_26 T_zero_26 rfl (by kernel_rfl)) ?_
        clear hf a; intro a hf
        refine O.callR hf rfl rfl rfl (RunE.call (av:=#[vl,cV (joinC da db)]) C_ok_11 rfl rfl rfl) (applyE vl l (joinC da db) _ (hS.bptO (i:=0) rfl) (hS.rdAt (j:=1) rfl) hfit (by omega) e hap) ?_
        clear hf a
        rintro _ w19 hS1 a hf
        replace hf:Fr a _ _ ((55,.tuple #[.slice none 0 0,.int .i64 e])::_):=hf
        replace hS:=(hS.call hS1).eqM (N:=[pt b_y18 (.cells #[.int .i64 0,.int .i64 0,.int .u8 0,.int .u8 0,.int .i64 0,.slice none 0 0] 46 (0,0)),pt b_x15 (.cells #[.int .i64 (((sortDs x.1).getD 0 default).num),.int .i64 (((sortDs x.1).getD 0 default).yr),.int .u8 (((sortDs x.1).getD 0 default).half),.int .u8 (((sortDs x.1).getD 0 default).sec),.int .i64 (((sortDs x.1).getD 0 default).cyc),xv] 46 (0,0)),sl 24 5 xv ((sortDs x.1).length) (encs eD (sortDs x.1)),pt b_b2 (.cells #[.int .i64 db.num,.int .i64 db.yr,.int .u8 db.half,.int .u8 db.sec,.int .i64 db.cyc] 24 (0,0)),pt b_a1 (.cells #[.int .i64 da.num,.int .i64 da.yr,.int .u8 da.half,.int .u8 da.sec,.int .i64 da.cyc] 24 (0,0))]) rfl
        clear hS1
        refine O.val hf rfl rfl rfl (RunV.move rfl) ?_
        clear hf a; intro a hf
        refine O.val hf rfl rfl rfl (RunV.extract rfl rfl) ?_
        clear hf a; intro a hf
        refine O.val hf rfl rfl rfl (RunV.extract rfl rfl) ?_
        clear hf a; intro a hf
        refine O.val hf rfl rfl rfl (RunV.assign rfl) ?_
        clear hf a; intro a hf
        refine O.val hf rfl rfl rfl (RunV.assign rfl) ?_
        clear hf a; intro a hf
        refine O.nil ?_
        refine k_seq ?_
        replace hf:Fr a 186 [] [(0,vl),(4,.pointer (some ⟨b_a1,0,none⟩)),(5,.pointer (some ⟨b_b2,0,none⟩)),(6,.bool false),(7,.bool true),(8,.pointer (some ⟨b_x15,0,none⟩)),(9,.int .i64 0),(10,.pointer (some ⟨b_y18,0,none⟩)),(11,.int .i64 eb),(12,.slice none 0 0),(13,.int .i64 e)]:=hf.to ⟨rfl,rfl,rfl,rfl,rfl,rfl,rfl,rfl,rfl,rfl,rfl,trivial⟩
        refine W.seq ?_
        refine W.seq ?_
        refine W.regionL (l:=[0,1]) rfl ?_
        refine O.val hf rfl rfl rfl (RunV.move rfl) ?_
        clear hf a; intro a hf
        refine O.val (v:=.bool (decide (e≠(0:Int)))) hf rfl rfl rfl (RunV.neq rfl rfl) ?_
        clear hf a; intro a hf
        refine O.nil ?_
        refine k_seq ?_
        replace hf:Fr a 186 [] [(0,vl),(4,.pointer (some ⟨b_a1,0,none⟩)),(5,.pointer (some ⟨b_b2,0,none⟩)),(6,.bool false),(7,.bool true),(8,.pointer (some ⟨b_x15,0,none⟩)),(9,.int .i64 0),(10,.pointer (some ⟨b_y18,0,none⟩)),(11,.int .i64 eb),(12,.slice none 0 0),(59,.bool (decide (e≠(0:Int))))]:=hf.to ⟨rfl,rfl,rfl,rfl,rfl,rfl,rfl,rfl,rfl,rfl,rfl,trivial⟩
        have hbc:(decide (e≠(0:Int)))=true:=decide_eq_true he0
        simp only [hbc] at hf; clear hbc
        refine W.if_tt hf rfl ?_
        refine W.seq ?_
        refine W.regionL (l:=[0,1,2,3,4,5,6,7,8,9,10,11,12,13,14,15,16,17,18,19,20,21,22,23,24,25,26]) rfl ?_
        refine O.val hf rfl rfl rfl (RunV.move rfl) ?_
        clear hf a; intro a hf
        refine O.val hf rfl rfl rfl (RunV.move rfl) ?_
        clear hf a; intro a hf
        refine O.gvalB (v:=.int .i64 0) hf rfl rfl rfl rfl rfl rfl (RunV.move rfl) ?_
        clear hf a; intro a hf
        refine O.gvalB (v:=.bool false) hf rfl rfl rfl rfl rfl rfl (RunV.toB (c:=false) (RunV.neq rfl rfl) (by decide)) ?_
        clear hf a; intro a hf
        refine O.gvalB (v:=.bool false) hf rfl rfl rfl rfl rfl rfl (RunV.move rfl) ?_
        clear hf a; intro a hf
        refine O.gvalB (v:=.int .i64 eb) hf rfl rfl rfl rfl rfl rfl (RunV.move rfl) ?_
        clear hf a; intro a hf
        refine O.gvalB (v:=.bool (decide (eb≠(0:Int)))) hf rfl rfl rfl rfl rfl rfl (RunV.neq rfl rfl) ?_
        clear hf a; intro a hf
        refine O.gvalB (v:=.bool (decide (eb≠(0:Int)))) hf rfl rfl rfl rfl rfl rfl (RunV.pick rfl rfl rfl rfl) ?_
        clear hf a; intro a hf
        refine O.gvalB (v:=.bool (decide (eb≠(0:Int)))) hf rfl rfl rfl rfl rfl rfl (RunV.move rfl) ?_
        clear hf a; intro a hf
        have hbg:(decide (eb≠(0:Int)))=true:=decide_eq_true hb0
        simp only [hbg] at hf; clear hbg
        refine O.skipB hf rfl rfl rfl rfl rfl ?_; clear hf a; intro a hf
        refine O.skipB hf rfl rfl rfl rfl rfl ?_; clear hf a; intro a hf
        refine O.skipB hf rfl rfl rfl rfl rfl ?_; clear hf a; intro a hf
        refine O.gvalB (v:=.bool true) hf rfl rfl rfl rfl rfl rfl (RunV.pick rfl rfl rfl rfl) ?_
        clear hf a; intro a hf
        refine O.gvalB (v:=.bool true) hf rfl rfl rfl rfl rfl rfl (RunV.move rfl) ?_
        clear hf a; intro a hf
        refine O.skipB hf rfl rfl rfl rfl rfl ?_; clear hf a; intro a hf
        refine O.skipB hf rfl rfl rfl rfl rfl ?_; clear hf a; intro a hf
        refine O.skipB hf rfl rfl rfl rfl rfl ?_; clear hf a; intro a hf
        refine O.skipB hf rfl rfl rfl rfl rfl ?_; clear hf a; intro a hf
        refine O.skipB hf rfl rfl rfl rfl rfl ?_; clear hf a; intro a hf
        refine O.skipU hf rfl rfl rfl rfl ?_; clear hf a; intro a hf
        refine O.skipU hf rfl rfl rfl rfl ?_; clear hf a; intro a hf
        refine O.skipU hf rfl rfl rfl rfl ?_; clear hf a; intro a hf
        refine O.skipU hf rfl rfl rfl rfl ?_; clear hf a; intro a hf
        refine O.skipB hf rfl rfl rfl rfl rfl ?_; clear hf a; intro a hf
        refine O.gvalB (v:=.bool true) hf rfl rfl rfl rfl rfl rfl (RunV.pick rfl rfl rfl rfl) ?_
        clear hf a; intro a hf
        refine O.val (v:=.bool true) hf rfl rfl rfl (RunV.pick rfl rfl rfl rfl) ?_
        clear hf a; intro a hf
        refine O.val hf rfl rfl rfl (RunV.assign rfl) ?_
        clear hf a; intro a hf
        refine O.nil ?_
        refine k_seq ?_
        replace hf:Fr a 186 [] [(0,vl),(4,.pointer (some ⟨b_a1,0,none⟩)),(5,.pointer (some ⟨b_b2,0,none⟩)),(6,.bool true),(7,.bool true),(8,.pointer (some ⟨b_x15,0,none⟩)),(9,.int .i64 0),(10,.pointer (some ⟨b_y18,0,none⟩)),(11,.int .i64 eb),(12,.slice none 0 0)]:=hf.to ⟨rfl,rfl,rfl,rfl,rfl,rfl,rfl,rfl,rfl,rfl,trivial⟩
        refine W.ret ?_
        refine k_then_ret ?_
        refine post1 hf rfl (ResOK.tmp rfl) ?_
        exact ⟨(),rfl,hS.sub (List.nil_sublist _) |>.noB⟩
      · obtain ⟨S,us,x',y',z,hm,hc,hm2,hwa2,hwb2,hR⟩:=joined_ok (by omega) hap
        rw [hwb] at hwb2; cases hwb2
    ·
      refine W.regionL (l:=[0,1,2,3,4,5,6,7,8]) rfl ?_
      refine O.val hf rfl rfl rfl (RunV.move rfl) ?_
      clear hf a; intro a hf
      refine O.val hf rfl rfl rfl (RunV.loadN (cs':=#[.int .i64 db.num,.int .i64 db.yr,.int .u8 db.half,.int .u8 db.sec,.int .i64 db.cyc]) T_agg_24 T_size_24 rfl (hS.ptAt (i:=2) rfl) (Nat.le_of_ble_eq_true rfl) rfl) ?_
      clear hf a; intro a hf
      refine O.callR hf rfl rfl rfl (RunE.call (av:=#[vl,dV db]) C_ok_19 rfl rfl rfl) (whoO vl l db _ (hS.bptO (i:=0) rfl) (hS.rdAt (j:=1) rfl) hfit y hwb) ?_
      clear hf a
      rintro yv w20 hS1 a hf
      replace hf:Fr a _ _ ((47,.tuple #[.agg #[.int .i64 (((sortDs y.1).getD 0 default).num),.int .i64 (((sortDs y.1).getD 0 default).yr),.int .u8 (((sortDs y.1).getD 0 default).half),.int .u8 (((sortDs y.1).getD 0 default).sec),.int .i64 (((sortDs y.1).getD 0 default).cyc),yv],.int .i64 0])::_):=hf
      replace hS:=(hS.call hS1).eqM (N:=[sl 24 5 yv ((sortDs y.1).length) (encs eD (sortDs y.1)),pt b_x15 (.cells #[.int .i64 (((sortDs x.1).getD 0 default).num),.int .i64 (((sortDs x.1).getD 0 default).yr),.int .u8 (((sortDs x.1).getD 0 default).half),.int .u8 (((sortDs x.1).getD 0 default).sec),.int .i64 (((sortDs x.1).getD 0 default).cyc),xv] 46 (0,0)),sl 24 5 xv ((sortDs x.1).length) (encs eD (sortDs x.1)),pt b_b2 (.cells #[.int .i64 db.num,.int .i64 db.yr,.int .u8 db.half,.int .u8 db.sec,.int .i64 db.cyc] 24 (0,0)),pt b_a1 (.cells #[.int .i64 da.num,.int .i64 da.yr,.int .u8 da.half,.int .u8 da.sec,.int .i64 da.cyc] 24 (0,0))]) rfl
      clear hS1
      refine O.val hf rfl rfl rfl (RunV.move rfl) ?_
      clear hf a; intro a hf
      refine O.val hf rfl rfl rfl (RunV.extract rfl rfl) ?_
      clear hf a; intro a hf
      refine O.val hf rfl rfl rfl (RunV.extract rfl rfl) ?_
      clear hf a; intro a hf
      refine O.alloc (cs:=#[.int .i64 0,.int .i64 0,.int .u8 0,.int .u8 0,.int .i64 0,.slice none 0 0]) hf hS rfl rfl T_zero_46 rfl ?_
      clear hf hS a; intro b_y21 w a hbb_y21 hS hf
      have hcl22:=rdOK.cells (hS.slr (j:=1) rfl)
      refine O.store (j:=0) (cs':=#[.int .i64 (((sortDs y.1).getD 0 default).num),.int .i64 (((sortDs y.1).getD 0 default).yr),.int .u8 (((sortDs y.1).getD 0 default).half),.int .u8 (((sortDs y.1).getD 0 default).sec),.int .i64 (((sortDs y.1).getD 0 default).cyc),yv]) (M':=[pt b_y21 (.cells #[.int .i64 (((sortDs y.1).getD 0 default).num),.int .i64 (((sortDs y.1).getD 0 default).yr),.int .u8 (((sortDs y.1).getD 0 default).half),.int .u8 (((sortDs y.1).getD 0 default).sec),.int .i64 (((sortDs y.1).getD 0 default).cyc),yv] 46 (0,0)),sl 24 5 yv ((sortDs y.1).length) (encs eD (sortDs y.1)),pt b_x15 (.cells #[.int .i64 (((sortDs x.1).getD 0 default).num),.int .i64 (((sortDs x.1).getD 0 default).yr),.int .u8 (((sortDs x.1).getD 0 default).half),.int .u8 (((sortDs x.1).getD 0 default).sec),.int .i64 (((sortDs x.1).getD 0 default).cyc),xv] 46 (0,0)),sl 24 5 xv ((sortDs x.1).length) (encs eD (sortDs x.1)),pt b_b2 (.cells #[.int .i64 db.num,.int .i64 db.yr,.int .u8 db.half,.int .u8 db.sec,.int .i64 db.cyc] 24 (0,0)),pt b_a1 (.cells #[.int .i64 da.num,.int .i64 da.yr,.int .u8 da.half,.int .u8 da.sec,.int .i64 da.cyc] 24 (0,0))]) hf hS rfl rfl rfl T_size_46 rfl (oneCells_cc rfl (oneCells_cc rfl (oneCells_cc rfl (oneCells_cc rfl (oneCells_cc rfl (oneCells_cc hcl22.2 rfl)))))) rfl (Nat.le_of_ble_eq_true rfl) rfl rfl ?_
      clear hS; intro w hS
      refine O.val hf rfl rfl rfl (RunV.assign rfl) ?_
      clear hf a; intro a hf
      refine O.nil ?_
      refine k_seq ?_
      replace hf:Fr a 186 [] [(0,vl),(4,.pointer (some ⟨b_a1,0,none⟩)),(5,.pointer (some ⟨b_b2,0,none⟩)),(6,.bool false),(7,.bool true),(8,.pointer (some ⟨b_x15,0,none⟩)),(9,.int .i64 0),(10,.pointer (some ⟨b_y21,0,none⟩)),(11,.int .i64 0)]:=hf.to ⟨rfl,rfl,rfl,rfl,rfl,rfl,rfl,rfl,rfl,trivial⟩
      refine W.seq ?_
      rcases hap:appM l (joinC da db) with e | ⟨S2,us2⟩
      · have he0:=appM_ne hap
        refine W.regionL (l:=[0,1,2,3,4,5,6,7,8,9]) rfl ?_
        refine O.val hf rfl rfl rfl (RunV.move rfl) ?_
        clear hf a; intro a hf
        refine O.val hf rfl rfl rfl (RunV.loadN (cs':=#[.int .i64 da.num,.int .i64 da.yr,.int .u8 da.half,.int .u8 da.sec,.int .i64 da.cyc]) T_agg_24 T_size_24 rfl (hS.ptAt (i:=5) rfl) (Nat.le_of_ble_eq_true rfl) rfl) ?_
        clear hf a; intro a hf
        refine O.val hf rfl rfl rfl (RunV.loadN (cs':=#[.int .i64 db.num,.int .i64 db.yr,.int .u8 db.half,.int .u8 db.sec,.int .i64 db.cyc]) T_agg_24 T_size_24 rfl (hS.ptAt (i:=4) rfl) (Nat.le_of_ble_eq_true rfl) rfl) ?_
        clear hf a; intro a hf
        refine O.val hf rfl rfl rfl (RunV.buildS (cs':=#[.int .u8 2,.int .i64 da.num,.int .i64 da.yr,.int .u8 da.half,.int .u8 da.sec,.int .i64 da.cyc,.int .i64 db.num,.int .i64 db.yr,.int .u8 db.half,.int .u8 db.sec,.int .i64 db.cyc,.int .i64 0]) T_places_26 T_zero_26 rfl (by kernel_rfl)) ?_
        clear hf a; intro a hf
        refine O.callR hf rfl rfl rfl (RunE.call (av:=#[vl,cV (joinC da db)]) C_ok_11 rfl rfl rfl) (applyE vl l (joinC da db) _ (hS.bptO (i:=0) rfl) (hS.rdAt (j:=1) rfl) hfit (by omega) e hap) ?_
        clear hf a
        rintro _ w23 hS1 a hf
        replace hf:Fr a _ _ ((55,.tuple #[.slice none 0 0,.int .i64 e])::_):=hf
        replace hS:=(hS.call hS1).eqM (N:=[pt b_y21 (.cells #[.int .i64 (((sortDs y.1).getD 0 default).num),.int .i64 (((sortDs y.1).getD 0 default).yr),.int .u8 (((sortDs y.1).getD 0 default).half),.int .u8 (((sortDs y.1).getD 0 default).sec),.int .i64 (((sortDs y.1).getD 0 default).cyc),yv] 46 (0,0)),sl 24 5 yv ((sortDs y.1).length) (encs eD (sortDs y.1)),pt b_x15 (.cells #[.int .i64 (((sortDs x.1).getD 0 default).num),.int .i64 (((sortDs x.1).getD 0 default).yr),.int .u8 (((sortDs x.1).getD 0 default).half),.int .u8 (((sortDs x.1).getD 0 default).sec),.int .i64 (((sortDs x.1).getD 0 default).cyc),xv] 46 (0,0)),sl 24 5 xv ((sortDs x.1).length) (encs eD (sortDs x.1)),pt b_b2 (.cells #[.int .i64 db.num,.int .i64 db.yr,.int .u8 db.half,.int .u8 db.sec,.int .i64 db.cyc] 24 (0,0)),pt b_a1 (.cells #[.int .i64 da.num,.int .i64 da.yr,.int .u8 da.half,.int .u8 da.sec,.int .i64 da.cyc] 24 (0,0))]) rfl
        clear hS1
        refine O.val hf rfl rfl rfl (RunV.move rfl) ?_
        clear hf a; intro a hf
        refine O.val hf rfl rfl rfl (RunV.extract rfl rfl) ?_
        clear hf a; intro a hf
        refine O.val hf rfl rfl rfl (RunV.extract rfl rfl) ?_
        clear hf a; intro a hf
        refine O.val hf rfl rfl rfl (RunV.assign rfl) ?_
        clear hf a; intro a hf
        refine O.val hf rfl rfl rfl (RunV.assign rfl) ?_
        clear hf a; intro a hf
        refine O.nil ?_
        refine k_seq ?_
        replace hf:Fr a 186 [] [(0,vl),(4,.pointer (some ⟨b_a1,0,none⟩)),(5,.pointer (some ⟨b_b2,0,none⟩)),(6,.bool false),(7,.bool true),(8,.pointer (some ⟨b_x15,0,none⟩)),(9,.int .i64 0),(10,.pointer (some ⟨b_y21,0,none⟩)),(11,.int .i64 0),(12,.slice none 0 0),(13,.int .i64 e)]:=hf.to ⟨rfl,rfl,rfl,rfl,rfl,rfl,rfl,rfl,rfl,rfl,rfl,trivial⟩
        refine W.seq ?_
        refine W.seq ?_
        refine W.regionL (l:=[0,1]) rfl ?_
        refine O.val hf rfl rfl rfl (RunV.move rfl) ?_
        clear hf a; intro a hf
        refine O.val (v:=.bool (decide (e≠(0:Int)))) hf rfl rfl rfl (RunV.neq rfl rfl) ?_
        clear hf a; intro a hf
        refine O.nil ?_
        refine k_seq ?_
        replace hf:Fr a 186 [] [(0,vl),(4,.pointer (some ⟨b_a1,0,none⟩)),(5,.pointer (some ⟨b_b2,0,none⟩)),(6,.bool false),(7,.bool true),(8,.pointer (some ⟨b_x15,0,none⟩)),(9,.int .i64 0),(10,.pointer (some ⟨b_y21,0,none⟩)),(11,.int .i64 0),(12,.slice none 0 0),(59,.bool (decide (e≠(0:Int))))]:=hf.to ⟨rfl,rfl,rfl,rfl,rfl,rfl,rfl,rfl,rfl,rfl,rfl,trivial⟩
        have hbc:(decide (e≠(0:Int)))=true:=decide_eq_true he0
        simp only [hbc] at hf; clear hbc
        refine W.if_tt hf rfl ?_
        refine W.seq ?_
        refine W.regionL (l:=[0,1,2,3,4,5,6,7,8,9,10,11,12,13,14,15,16,17,18,19,20,21,22,23,24,25,26]) rfl ?_
        refine O.val hf rfl rfl rfl (RunV.move rfl) ?_
        clear hf a; intro a hf
        refine O.val hf rfl rfl rfl (RunV.move rfl) ?_
        clear hf a; intro a hf
        refine O.gvalB (v:=.int .i64 0) hf rfl rfl rfl rfl rfl rfl (RunV.move rfl) ?_
        clear hf a; intro a hf
        refine O.gvalB (v:=.bool false) hf rfl rfl rfl rfl rfl rfl (RunV.toB (c:=false) (RunV.neq rfl rfl) (by decide)) ?_
        clear hf a; intro a hf
        refine O.gvalB (v:=.bool false) hf rfl rfl rfl rfl rfl rfl (RunV.move rfl) ?_
        clear hf a; intro a hf
        refine O.gvalB (v:=.int .i64 0) hf rfl rfl rfl rfl rfl rfl (RunV.move rfl) ?_
        clear hf a; intro a hf
        refine O.gvalB (v:=.bool false) hf rfl rfl rfl rfl rfl rfl (RunV.toB (c:=false) (RunV.neq rfl rfl) (by decide)) ?_
        clear hf a; intro a hf
        refine O.gvalB (v:=.bool false) hf rfl rfl rfl rfl rfl rfl (RunV.pick rfl rfl rfl rfl) ?_
        clear hf a; intro a hf
        refine O.gvalB (v:=.bool false) hf rfl rfl rfl rfl rfl rfl (RunV.move rfl) ?_
        clear hf a; intro a hf
        refine O.gvalB (v:=.agg #[.int .i64 (((sortDs x.1).getD 0 default).num),.int .i64 (((sortDs x.1).getD 0 default).yr),.int .u8 (((sortDs x.1).getD 0 default).half),.int .u8 (((sortDs x.1).getD 0 default).sec),.int .i64 (((sortDs x.1).getD 0 default).cyc),xv]) hf rfl rfl rfl rfl rfl rfl (RunV.loadN (cs':=#[.int .i64 (((sortDs x.1).getD 0 default).num),.int .i64 (((sortDs x.1).getD 0 default).yr),.int .u8 (((sortDs x.1).getD 0 default).half),.int .u8 (((sortDs x.1).getD 0 default).sec),.int .i64 (((sortDs x.1).getD 0 default).cyc),xv]) T_agg_46 T_size_46 rfl (hS.ptAt (i:=2) rfl) (Nat.le_of_ble_eq_true rfl) rfl) ?_
        clear hf a; intro a hf
        refine O.gvalB (v:=.agg #[.int .i64 (((sortDs y.1).getD 0 default).num),.int .i64 (((sortDs y.1).getD 0 default).yr),.int .u8 (((sortDs y.1).getD 0 default).half),.int .u8 (((sortDs y.1).getD 0 default).sec),.int .i64 (((sortDs y.1).getD 0 default).cyc),yv]) hf rfl rfl rfl rfl rfl rfl (RunV.loadN (cs':=#[.int .i64 (((sortDs y.1).getD 0 default).num),.int .i64 (((sortDs y.1).getD 0 default).yr),.int .u8 (((sortDs y.1).getD 0 default).half),.int .u8 (((sortDs y.1).getD 0 default).sec),.int .i64 (((sortDs y.1).getD 0 default).cyc),yv]) T_agg_46 T_size_46 rfl (hS.ptAt (i:=0) rfl) (Nat.le_of_ble_eq_true rfl) rfl) ?_
        clear hf a; intro a hf
        refine O.gcallR hf rfl rfl rfl rfl rfl rfl (RunE.call (av:=#[.agg #[.int .i64 (((sortDs x.1).getD 0 default).num),.int .i64 (((sortDs x.1).getD 0 default).yr),.int .u8 (((sortDs x.1).getD 0 default).half),.int .u8 (((sortDs x.1).getD 0 default).sec),.int .i64 (((sortDs x.1).getD 0 default).cyc),xv],.agg #[.int .i64 (((sortDs y.1).getD 0 default).num),.int .i64 (((sortDs y.1).getD 0 default).yr),.int .u8 (((sortDs y.1).getD 0 default).half),.int .u8 (((sortDs y.1).getD 0 default).sec),.int .i64 (((sortDs y.1).getD 0 default).cyc),yv]]) C_ok_20 rfl rfl rfl) (sameObject_spec ((sortDs x.1).getD 0 default) ((sortDs y.1).getD 0 default) xv yv (sortDs x.1) (sortDs y.1) _ (hS.slr (j:=3) rfl) (hS.slr (j:=1) rfl)) ?_
        clear hf a
        rintro _ w24 hS1 a hf
        replace hf:Fr a _ _ ((71,.bool (decide (((sortDs x.1).getD 0 default)=((sortDs y.1).getD 0 default)∧sortDs x.1=sortDs y.1)))::_):=hf
        replace hS:=(hS.call hS1).eqM (N:=[pt b_y21 (.cells #[.int .i64 (((sortDs y.1).getD 0 default).num),.int .i64 (((sortDs y.1).getD 0 default).yr),.int .u8 (((sortDs y.1).getD 0 default).half),.int .u8 (((sortDs y.1).getD 0 default).sec),.int .i64 (((sortDs y.1).getD 0 default).cyc),yv] 46 (0,0)),sl 24 5 yv ((sortDs y.1).length) (encs eD (sortDs y.1)),pt b_x15 (.cells #[.int .i64 (((sortDs x.1).getD 0 default).num),.int .i64 (((sortDs x.1).getD 0 default).yr),.int .u8 (((sortDs x.1).getD 0 default).half),.int .u8 (((sortDs x.1).getD 0 default).sec),.int .i64 (((sortDs x.1).getD 0 default).cyc),xv] 46 (0,0)),sl 24 5 xv ((sortDs x.1).length) (encs eD (sortDs x.1)),pt b_b2 (.cells #[.int .i64 db.num,.int .i64 db.yr,.int .u8 db.half,.int .u8 db.sec,.int .i64 db.cyc] 24 (0,0)),pt b_a1 (.cells #[.int .i64 da.num,.int .i64 da.yr,.int .u8 da.half,.int .u8 da.sec,.int .i64 da.cyc] 24 (0,0))]) rfl
        clear hS1
        refine O.gvalB (v:=.bool (decide (((sortDs x.1).getD 0 default)=((sortDs y.1).getD 0 default)∧sortDs x.1=sortDs y.1))) hf rfl rfl rfl rfl rfl rfl (RunV.pick rfl rfl rfl rfl) ?_
        clear hf a; intro a hf
        refine O.gvalB (v:=.bool (decide (((sortDs x.1).getD 0 default)=((sortDs y.1).getD 0 default)∧sortDs x.1=sortDs y.1))) hf rfl rfl rfl rfl rfl rfl (RunV.move rfl) ?_
        clear hf a; intro a hf
        refine O.cutN (l₁:=[14,15,16,17,18,19,20,21,22,23,24]) (l₂:=_) (fun a w=>Fr a 186 [] [(0,vl),(4,.pointer (some ⟨b_a1,0,none⟩)),(5,.pointer (some ⟨b_b2,0,none⟩)),(6,.bool false),(7,.bool true),(8,.pointer (some ⟨b_x15,0,none⟩)),(9,.int .i64 0),(10,.pointer (some ⟨b_y21,0,none⟩)),(11,.int .i64 0),(12,.slice none 0 0),(59,.bool true),(60,.bool true),(61,.bool true),(62,.int .i64 0),(63,.bool false),(64,.bool false),(65,.int .i64 0),(66,.bool false),(67,.bool false),(68,.bool false),(69,.agg #[.int .i64 (((sortDs x.1).getD 0 default).num),.int .i64 (((sortDs x.1).getD 0 default).yr),.int .u8 (((sortDs x.1).getD 0 default).half),.int .u8 (((sortDs x.1).getD 0 default).sec),.int .i64 (((sortDs x.1).getD 0 default).cyc),xv]),(70,.agg #[.int .i64 (((sortDs y.1).getD 0 default).num),.int .i64 (((sortDs y.1).getD 0 default).yr),.int .u8 (((sortDs y.1).getD 0 default).half),.int .u8 (((sortDs y.1).getD 0 default).sec),.int .i64 (((sortDs y.1).getD 0 default).cyc),yv]),(71,.bool (decide (((sortDs x.1).getD 0 default)=((sortDs y.1).getD 0 default)∧sortDs x.1=sortDs y.1))),(72,.bool (decide (((sortDs x.1).getD 0 default)=((sortDs y.1).getD 0 default)∧sortDs x.1=sortDs y.1))),(73,.bool (decide (((sortDs x.1).getD 0 default)=((sortDs y.1).getD 0 default)∧sortDs x.1=sortDs y.1))),(84,.bool ((decide (((sortDs x.1).getD 0 default)=((sortDs y.1).getD 0 default)∧sortDs x.1=sortDs y.1))||((decide ((((sortDs x.1).getD 0 default).num)>(0:Int)))&&(decide ((((sortDs y.1).getD 0 default).num)>(0:Int))))))]∧St w0 w noX [ordA,rdv 12 vl l.length (encs eC l)] [pt b_y21 (.cells #[.int .i64 (((sortDs y.1).getD 0 default).num),.int .i64 (((sortDs y.1).getD 0 default).yr),.int .u8 (((sortDs y.1).getD 0 default).half),.int .u8 (((sortDs y.1).getD 0 default).sec),.int .i64 (((sortDs y.1).getD 0 default).cyc),yv] 46 (0,0)),sl 24 5 yv ((sortDs y.1).length) (encs eD (sortDs y.1)),pt b_x15 (.cells #[.int .i64 (((sortDs x.1).getD 0 default).num),.int .i64 (((sortDs x.1).getD 0 default).yr),.int .u8 (((sortDs x.1).getD 0 default).half),.int .u8 (((sortDs x.1).getD 0 default).sec),.int .i64 (((sortDs x.1).getD 0 default).cyc),xv] 46 (0,0)),sl 24 5 xv ((sortDs x.1).length) (encs eD (sortDs x.1)),pt b_b2 (.cells #[.int .i64 db.num,.int .i64 db.yr,.int .u8 db.half,.int .u8 db.sec,.int .i64 db.cyc] 24 (0,0)),pt b_a1 (.cells #[.int .i64 da.num,.int .i64 da.yr,.int .u8 da.half,.int .u8 da.sec,.int .i64 da.cyc] 24 (0,0))]) rfl ?_ ?_
        · rcases Bool.eq_false_or_eq_true (decide (((sortDs x.1).getD 0 default)=((sortDs y.1).getD 0 default)∧sortDs x.1=sortDs y.1)) with hb25 | hb25
          · have hb25p:=hb25
            try simp only [Bool.and_eq_true,Bool.or_eq_true,Bool.and_eq_false_iff,Bool.or_eq_false_iff,decide_eq_true_eq,decide_eq_false_iff_not,Bool.not_eq_true',Bool.not_eq_false',Bool.not_eq_true,Bool.not_eq_false,ne_eq] at hb25p
            refine O.skipB hf rfl rfl rfl hb25 rfl ?_; clear hf a; intro a hf
            refine O.skipB hf rfl rfl rfl hb25 rfl ?_; clear hf a; intro a hf
            refine O.skipB hf rfl rfl rfl hb25 rfl ?_; clear hf a; intro a hf
            refine O.skipB hf rfl rfl rfl hb25 rfl ?_; clear hf a; intro a hf
            refine O.skipB hf rfl rfl rfl hb25 rfl ?_; clear hf a; intro a hf
            refine O.skipU hf rfl rfl rfl rfl ?_; clear hf a; intro a hf
            refine O.skipU hf rfl rfl rfl rfl ?_; clear hf a; intro a hf
            refine O.skipU hf rfl rfl rfl rfl ?_; clear hf a; intro a hf
            refine O.skipU hf rfl rfl rfl rfl ?_; clear hf a; intro a hf
            refine O.skipB hf rfl rfl rfl hb25 rfl ?_; clear hf a; intro a hf
            refine O.gvalB (v:=.bool ((decide (((sortDs x.1).getD 0 default)=((sortDs y.1).getD 0 default)∧sortDs x.1=sortDs y.1))||((decide ((((sortDs x.1).getD 0 default).num)>(0:Int)))&&(decide ((((sortDs y.1).getD 0 default).num)>(0:Int)))))) hf rfl rfl rfl rfl rfl rfl (RunV.pick rfl rfl rfl (by rw [hb25]; rfl)) ?_; clear hf a; intro a hf
            exact O.nil ⟨rfl,hf.to ⟨rfl,rfl,rfl,rfl,rfl,rfl,rfl,rfl,rfl,rfl,rfl,rfl,rfl,rfl,rfl,rfl,rfl,rfl,rfl,rfl,rfl,rfl,rfl,rfl,rfl,rfl,trivial⟩,hS⟩
          · have hb25p:=hb25
            try simp only [Bool.and_eq_true,Bool.or_eq_true,Bool.and_eq_false_iff,Bool.or_eq_false_iff,decide_eq_true_eq,decide_eq_false_iff_not,Bool.not_eq_true',Bool.not_eq_false',Bool.not_eq_true,Bool.not_eq_false,ne_eq] at hb25p
            refine O.gvalB (v:=.pointer (some ⟨b_x15,0,none⟩)) hf rfl rfl rfl hb25 rfl rfl (RunV.field T_field_46_0 rfl rfl) ?_
            clear hf a; intro a hf
            refine O.gvalB (v:=.pointer (some ⟨b_x15,0,none⟩)) hf rfl rfl rfl hb25 rfl rfl (RunV.field T_field_24_0 rfl rfl) ?_
            clear hf a; intro a hf
            refine O.gvalB (v:=.int .i64 (((sortDs x.1).getD 0 default).num)) hf rfl rfl rfl hb25 rfl rfl (RunV.load1 T_agg_3 rfl (hS.ptAt (i:=2) rfl) rfl) ?_
            clear hf a; intro a hf
            refine O.gvalB (v:=.bool (decide ((((sortDs x.1).getD 0 default).num)>(0:Int)))) hf rfl rfl rfl hb25 rfl rfl (RunV.gtr rfl rfl) ?_
            clear hf a; intro a hf
            refine O.gvalB (v:=.bool (decide ((((sortDs x.1).getD 0 default).num)>(0:Int)))) hf rfl rfl rfl hb25 rfl rfl (RunV.move rfl) ?_
            clear hf a; intro a hf
            refine O.cutN (l₁:=[19,20,21,22,23]) (l₂:=_) (fun a w=>Fr a 186 [] [(0,vl),(4,.pointer (some ⟨b_a1,0,none⟩)),(5,.pointer (some ⟨b_b2,0,none⟩)),(6,.bool false),(7,.bool true),(8,.pointer (some ⟨b_x15,0,none⟩)),(9,.int .i64 0),(10,.pointer (some ⟨b_y21,0,none⟩)),(11,.int .i64 0),(12,.slice none 0 0),(59,.bool true),(60,.bool true),(61,.bool true),(62,.int .i64 0),(63,.bool false),(64,.bool false),(65,.int .i64 0),(66,.bool false),(67,.bool false),(68,.bool false),(69,.agg #[.int .i64 (((sortDs x.1).getD 0 default).num),.int .i64 (((sortDs x.1).getD 0 default).yr),.int .u8 (((sortDs x.1).getD 0 default).half),.int .u8 (((sortDs x.1).getD 0 default).sec),.int .i64 (((sortDs x.1).getD 0 default).cyc),xv]),(70,.agg #[.int .i64 (((sortDs y.1).getD 0 default).num),.int .i64 (((sortDs y.1).getD 0 default).yr),.int .u8 (((sortDs y.1).getD 0 default).half),.int .u8 (((sortDs y.1).getD 0 default).sec),.int .i64 (((sortDs y.1).getD 0 default).cyc),yv]),(71,.bool (decide (((sortDs x.1).getD 0 default)=((sortDs y.1).getD 0 default)∧sortDs x.1=sortDs y.1))),(72,.bool (decide (((sortDs x.1).getD 0 default)=((sortDs y.1).getD 0 default)∧sortDs x.1=sortDs y.1))),(73,.bool (decide (((sortDs x.1).getD 0 default)=((sortDs y.1).getD 0 default)∧sortDs x.1=sortDs y.1))),(74,.pointer (some ⟨b_x15,0,none⟩)),(75,.pointer (some ⟨b_x15,0,none⟩)),(76,.int .i64 (((sortDs x.1).getD 0 default).num)),(77,.bool (decide ((((sortDs x.1).getD 0 default).num)>(0:Int)))),(78,.bool (decide ((((sortDs x.1).getD 0 default).num)>(0:Int)))),(83,.bool ((decide ((((sortDs x.1).getD 0 default).num)>(0:Int)))&&(decide ((((sortDs y.1).getD 0 default).num)>(0:Int)))))]∧St w0 w noX [ordA,rdv 12 vl l.length (encs eC l)] [pt b_y21 (.cells #[.int .i64 (((sortDs y.1).getD 0 default).num),.int .i64 (((sortDs y.1).getD 0 default).yr),.int .u8 (((sortDs y.1).getD 0 default).half),.int .u8 (((sortDs y.1).getD 0 default).sec),.int .i64 (((sortDs y.1).getD 0 default).cyc),yv] 46 (0,0)),sl 24 5 yv ((sortDs y.1).length) (encs eD (sortDs y.1)),pt b_x15 (.cells #[.int .i64 (((sortDs x.1).getD 0 default).num),.int .i64 (((sortDs x.1).getD 0 default).yr),.int .u8 (((sortDs x.1).getD 0 default).half),.int .u8 (((sortDs x.1).getD 0 default).sec),.int .i64 (((sortDs x.1).getD 0 default).cyc),xv] 46 (0,0)),sl 24 5 xv ((sortDs x.1).length) (encs eD (sortDs x.1)),pt b_b2 (.cells #[.int .i64 db.num,.int .i64 db.yr,.int .u8 db.half,.int .u8 db.sec,.int .i64 db.cyc] 24 (0,0)),pt b_a1 (.cells #[.int .i64 da.num,.int .i64 da.yr,.int .u8 da.half,.int .u8 da.sec,.int .i64 da.cyc] 24 (0,0))]) rfl ?_ ?_
            · rcases Bool.eq_false_or_eq_true (decide ((((sortDs x.1).getD 0 default).num)>(0:Int))) with hb26 | hb26
              · have hb26p:=of_decide_eq_true hb26
                refine O.gvalB (v:=.pointer (some ⟨b_y21,0,none⟩)) hf rfl rfl rfl hb26 rfl rfl (RunV.field T_field_46_0 rfl rfl) ?_
                clear hf a; intro a hf
                refine O.gvalB (v:=.pointer (some ⟨b_y21,0,none⟩)) hf rfl rfl rfl hb26 rfl rfl (RunV.field T_field_24_0 rfl rfl) ?_
                clear hf a; intro a hf
                refine O.gvalB (v:=.int .i64 (((sortDs y.1).getD 0 default).num)) hf rfl rfl rfl hb26 rfl rfl (RunV.load1 T_agg_3 rfl (hS.ptAt (i:=0) rfl) rfl) ?_
                clear hf a; intro a hf
                refine O.gvalB (v:=.bool (decide ((((sortDs y.1).getD 0 default).num)>(0:Int)))) hf rfl rfl rfl hb26 rfl rfl (RunV.gtr rfl rfl) ?_
                clear hf a; intro a hf
                refine O.gvalB (v:=.bool ((decide ((((sortDs x.1).getD 0 default).num)>(0:Int)))&&(decide ((((sortDs y.1).getD 0 default).num)>(0:Int))))) hf rfl rfl rfl hb25 rfl rfl (RunV.pick rfl rfl rfl (by rw [hb26]; rfl)) ?_; clear hf a; intro a hf
                exact O.nil ⟨rfl,hf.to ⟨rfl,rfl,rfl,rfl,rfl,rfl,rfl,rfl,rfl,rfl,rfl,rfl,rfl,rfl,rfl,rfl,rfl,rfl,rfl,rfl,rfl,rfl,rfl,rfl,rfl,rfl,rfl,rfl,rfl,rfl,rfl,trivial⟩,hS⟩
              · have hb26p:=of_decide_eq_false hb26
                refine O.skipB hf rfl rfl rfl hb26 rfl ?_; clear hf a; intro a hf
                refine O.skipB hf rfl rfl rfl hb26 rfl ?_; clear hf a; intro a hf
                refine O.skipB hf rfl rfl rfl hb26 rfl ?_; clear hf a; intro a hf
                refine O.skipB hf rfl rfl rfl hb26 rfl ?_; clear hf a; intro a hf
                refine O.gvalB (v:=.bool ((decide ((((sortDs x.1).getD 0 default).num)>(0:Int)))&&(decide ((((sortDs y.1).getD 0 default).num)>(0:Int))))) hf rfl rfl rfl hb25 rfl rfl (RunV.pick rfl rfl rfl (by rw [hb26]; rfl)) ?_; clear hf a; intro a hf
                exact O.nil ⟨rfl,hf.to ⟨rfl,rfl,rfl,rfl,rfl,rfl,rfl,rfl,rfl,rfl,rfl,rfl,rfl,rfl,rfl,rfl,rfl,rfl,rfl,rfl,rfl,rfl,rfl,rfl,rfl,rfl,rfl,rfl,rfl,rfl,rfl,trivial⟩,hS⟩
            clear hf hS a; rintro a w ⟨hf,hS⟩
            refine O.gvalB (v:=.bool ((decide (((sortDs x.1).getD 0 default)=((sortDs y.1).getD 0 default)∧sortDs x.1=sortDs y.1))||((decide ((((sortDs x.1).getD 0 default).num)>(0:Int)))&&(decide ((((sortDs y.1).getD 0 default).num)>(0:Int)))))) hf rfl rfl rfl rfl rfl rfl (RunV.pick rfl rfl rfl (by rw [hb25]; rfl)) ?_; clear hf a; intro a hf
            exact O.nil ⟨rfl,hf.to ⟨rfl,rfl,rfl,rfl,rfl,rfl,rfl,rfl,rfl,rfl,rfl,rfl,rfl,rfl,rfl,rfl,rfl,rfl,rfl,rfl,rfl,rfl,rfl,rfl,rfl,rfl,trivial⟩,hS⟩
        clear hf hS a; rintro a w ⟨hf,hS⟩
        refine O.val (v:=.bool ((decide (((sortDs x.1).getD 0 default)=((sortDs y.1).getD 0 default)∧sortDs x.1=sortDs y.1))||((decide ((((sortDs x.1).getD 0 default).num)>(0:Int)))&&(decide ((((sortDs y.1).getD 0 default).num)>(0:Int)))))) hf rfl rfl rfl (RunV.pick rfl rfl rfl rfl) ?_
        clear hf a; intro a hf
        refine O.val hf rfl rfl rfl (RunV.assign rfl) ?_
        clear hf a; intro a hf
        refine O.nil ?_
        refine k_seq ?_
        replace hf:Fr a 186 [] [(0,vl),(4,.pointer (some ⟨b_a1,0,none⟩)),(5,.pointer (some ⟨b_b2,0,none⟩)),(6,.bool ((decide (((sortDs x.1).getD 0 default)=((sortDs y.1).getD 0 default)∧sortDs x.1=sortDs y.1))||((decide ((((sortDs x.1).getD 0 default).num)>(0:Int)))&&(decide ((((sortDs y.1).getD 0 default).num)>(0:Int)))))),(7,.bool true),(8,.pointer (some ⟨b_x15,0,none⟩)),(9,.int .i64 0),(10,.pointer (some ⟨b_y21,0,none⟩)),(11,.int .i64 0),(12,.slice none 0 0)]:=hf.to ⟨rfl,rfl,rfl,rfl,rfl,rfl,rfl,rfl,rfl,rfl,trivial⟩
        refine W.ret ?_
        refine k_then_ret ?_
        refine post1 hf rfl (ResOK.tmp rfl) ?_
        have hsp:=joined_err (by omega) hwa hwb hap
        exact ⟨(),congrArg (fun b=>Ending.returned (Value.bool b)) (by
          rcases hsp with h | ⟨h1,h2⟩
          · rw [decide_eq_true (obj_eq h)]; rfl
          · rw [decide_eq_true (show ((sortDs x.1).getD 0 default).num>0 from h1),decide_eq_true (show ((sortDs y.1).getD 0 default).num>0 from h2)]; simp),hS.sub (List.nil_sublist _) |>.noB⟩
      · obtain ⟨S,us,x',y',z,hm,hc,hm2,hwa2,hwb2,hR⟩:=joined_ok (by omega) hap
        rw [hwa] at hwa2; rw [hwb] at hwb2
        refine W.regionL (l:=[0,1,2,3,4,5,6,7,8,9]) rfl ?_
        refine O.val hf rfl rfl rfl (RunV.move rfl) ?_
        clear hf a; intro a hf
        refine O.val hf rfl rfl rfl (RunV.loadN (cs':=#[.int .i64 da.num,.int .i64 da.yr,.int .u8 da.half,.int .u8 da.sec,.int .i64 da.cyc]) T_agg_24 T_size_24 rfl (hS.ptAt (i:=5) rfl) (Nat.le_of_ble_eq_true rfl) rfl) ?_
        clear hf a; intro a hf
        refine O.val hf rfl rfl rfl (RunV.loadN (cs':=#[.int .i64 db.num,.int .i64 db.yr,.int .u8 db.half,.int .u8 db.sec,.int .i64 db.cyc]) T_agg_24 T_size_24 rfl (hS.ptAt (i:=4) rfl) (Nat.le_of_ble_eq_true rfl) rfl) ?_
        clear hf a; intro a hf
        refine O.val hf rfl rfl rfl (RunV.buildS (cs':=#[.int .u8 2,.int .i64 da.num,.int .i64 da.yr,.int .u8 da.half,.int .u8 da.sec,.int .i64 da.cyc,.int .i64 db.num,.int .i64 db.yr,.int .u8 db.half,.int .u8 db.sec,.int .i64 db.cyc,.int .i64 0]) T_places_26 T_zero_26 rfl (by kernel_rfl)) ?_
        clear hf a; intro a hf
        refine O.callR hf rfl rfl rfl (RunE.call (av:=#[vl,cV (joinC da db)]) C_ok_11 rfl rfl rfl) (applyO vl l (joinC da db) _ (hS.bptO (i:=0) rfl) (hS.rdAt (j:=1) rfl) hfit (by omega) S2 us2 hap) ?_
        clear hf a
        rintro am w27 hS1 a hf
        replace hf:Fr a _ _ ((55,.tuple #[am,.int .i64 0])::_):=hf
        replace hS:=(hS.call hS1).eqM (N:=[sl 26 12 am ((l++[joinC da db]).length) (encs eC (l++[joinC da db])),pt b_y21 (.cells #[.int .i64 (((sortDs y.1).getD 0 default).num),.int .i64 (((sortDs y.1).getD 0 default).yr),.int .u8 (((sortDs y.1).getD 0 default).half),.int .u8 (((sortDs y.1).getD 0 default).sec),.int .i64 (((sortDs y.1).getD 0 default).cyc),yv] 46 (0,0)),sl 24 5 yv ((sortDs y.1).length) (encs eD (sortDs y.1)),pt b_x15 (.cells #[.int .i64 (((sortDs x.1).getD 0 default).num),.int .i64 (((sortDs x.1).getD 0 default).yr),.int .u8 (((sortDs x.1).getD 0 default).half),.int .u8 (((sortDs x.1).getD 0 default).sec),.int .i64 (((sortDs x.1).getD 0 default).cyc),xv] 46 (0,0)),sl 24 5 xv ((sortDs x.1).length) (encs eD (sortDs x.1)),pt b_b2 (.cells #[.int .i64 db.num,.int .i64 db.yr,.int .u8 db.half,.int .u8 db.sec,.int .i64 db.cyc] 24 (0,0)),pt b_a1 (.cells #[.int .i64 da.num,.int .i64 da.yr,.int .u8 da.half,.int .u8 da.sec,.int .i64 da.cyc] 24 (0,0))]) rfl
        clear hS1
        refine O.val hf rfl rfl rfl (RunV.move rfl) ?_
        clear hf a; intro a hf
        refine O.val hf rfl rfl rfl (RunV.extract rfl rfl) ?_
        clear hf a; intro a hf
        refine O.val hf rfl rfl rfl (RunV.extract rfl rfl) ?_
        clear hf a; intro a hf
        refine O.val hf rfl rfl rfl (RunV.assign rfl) ?_
        clear hf a; intro a hf
        refine O.val hf rfl rfl rfl (RunV.assign rfl) ?_
        clear hf a; intro a hf
        refine O.nil ?_
        cases hwa2; cases hwb2
        have hlx:=who_len hwa
        have hly:=who_len hwb
        refine k_seq ?_
        replace hf:Fr a 186 [] [(0,vl),(4,.pointer (some ⟨b_a1,0,none⟩)),(5,.pointer (some ⟨b_b2,0,none⟩)),(6,.bool false),(7,.bool true),(8,.pointer (some ⟨b_x15,0,none⟩)),(9,.int .i64 0),(10,.pointer (some ⟨b_y21,0,none⟩)),(11,.int .i64 0),(12,am),(13,.int .i64 0)]:=hf.to ⟨rfl,rfl,rfl,rfl,rfl,rfl,rfl,rfl,rfl,rfl,rfl,trivial⟩
        refine W.seq ?_
        refine W.seq ?_
        refine W.regionL (l:=[0,1]) rfl ?_
        refine O.val hf rfl rfl rfl (RunV.move rfl) ?_
        clear hf a; intro a hf
        refine O.val hf rfl rfl rfl (RunV.toB (c:=false) (RunV.neq rfl rfl) (by decide)) ?_
        clear hf a; intro a hf
        refine O.nil ?_
        refine k_seq ?_
        replace hf:Fr a 186 [] [(0,vl),(4,.pointer (some ⟨b_a1,0,none⟩)),(5,.pointer (some ⟨b_b2,0,none⟩)),(6,.bool false),(7,.bool true),(8,.pointer (some ⟨b_x15,0,none⟩)),(9,.int .i64 0),(10,.pointer (some ⟨b_y21,0,none⟩)),(11,.int .i64 0),(12,am),(59,.bool false)]:=hf.to ⟨rfl,rfl,rfl,rfl,rfl,rfl,rfl,rfl,rfl,rfl,rfl,trivial⟩
        refine W.if_ff hf rfl ?_
        refine W.skip ?_
        refine k_seq ?_
        replace hf:Fr a 186 [] [(0,vl),(4,.pointer (some ⟨b_a1,0,none⟩)),(5,.pointer (some ⟨b_b2,0,none⟩)),(6,.bool false),(7,.bool true),(8,.pointer (some ⟨b_x15,0,none⟩)),(9,.int .i64 0),(10,.pointer (some ⟨b_y21,0,none⟩)),(11,.int .i64 0),(12,am)]:=hf.to ⟨rfl,rfl,rfl,rfl,rfl,rfl,rfl,rfl,rfl,rfl,trivial⟩
        refine W.seq ?_
        refine W.regionL (l:=[0,1,2,3,4,5,6,7,8]) rfl ?_
        refine O.val hf rfl rfl rfl (RunV.move rfl) ?_
        clear hf a; intro a hf
        refine O.val hf rfl rfl rfl (RunV.loadN (cs':=#[.int .i64 da.num,.int .i64 da.yr,.int .u8 da.half,.int .u8 da.sec,.int .i64 da.cyc]) T_agg_24 T_size_24 rfl (hS.ptAt (i:=6) rfl) (Nat.le_of_ble_eq_true rfl) rfl) ?_
        clear hf a; intro a hf
        refine O.callR hf rfl rfl rfl (RunE.call (av:=#[am,dV da]) C_ok_19 rfl rfl rfl) (whoO am (l++[joinC da db]) da _ (hS.bptO (i:=0) rfl) (hS.slr (j:=0) rfl) (slOK.fit (hS.slAt (j:=0) rfl)) z hR.wz) ?_
        clear hf a
        rintro zv w28 hS1 a hf
        replace hf:Fr a _ _ ((89,.tuple #[.agg #[.int .i64 (((sortDs z.1).getD 0 default).num),.int .i64 (((sortDs z.1).getD 0 default).yr),.int .u8 (((sortDs z.1).getD 0 default).half),.int .u8 (((sortDs z.1).getD 0 default).sec),.int .i64 (((sortDs z.1).getD 0 default).cyc),zv],.int .i64 0])::_):=hf
        replace hS:=(hS.call hS1).eqM (N:=[sl 24 5 zv ((sortDs z.1).length) (encs eD (sortDs z.1)),sl 26 12 am ((l++[joinC da db]).length) (encs eC (l++[joinC da db])),pt b_y21 (.cells #[.int .i64 (((sortDs y.1).getD 0 default).num),.int .i64 (((sortDs y.1).getD 0 default).yr),.int .u8 (((sortDs y.1).getD 0 default).half),.int .u8 (((sortDs y.1).getD 0 default).sec),.int .i64 (((sortDs y.1).getD 0 default).cyc),yv] 46 (0,0)),sl 24 5 yv ((sortDs y.1).length) (encs eD (sortDs y.1)),pt b_x15 (.cells #[.int .i64 (((sortDs x.1).getD 0 default).num),.int .i64 (((sortDs x.1).getD 0 default).yr),.int .u8 (((sortDs x.1).getD 0 default).half),.int .u8 (((sortDs x.1).getD 0 default).sec),.int .i64 (((sortDs x.1).getD 0 default).cyc),xv] 46 (0,0)),sl 24 5 xv ((sortDs x.1).length) (encs eD (sortDs x.1)),pt b_b2 (.cells #[.int .i64 db.num,.int .i64 db.yr,.int .u8 db.half,.int .u8 db.sec,.int .i64 db.cyc] 24 (0,0)),pt b_a1 (.cells #[.int .i64 da.num,.int .i64 da.yr,.int .u8 da.half,.int .u8 da.sec,.int .i64 da.cyc] 24 (0,0))]) rfl
        clear hS1
        refine O.val hf rfl rfl rfl (RunV.move rfl) ?_
        clear hf a; intro a hf
        refine O.val hf rfl rfl rfl (RunV.extract rfl rfl) ?_
        clear hf a; intro a hf
        refine O.val hf rfl rfl rfl (RunV.extract rfl rfl) ?_
        clear hf a; intro a hf
        refine O.alloc (cs:=#[.int .i64 0,.int .i64 0,.int .u8 0,.int .u8 0,.int .i64 0,.slice none 0 0]) hf hS rfl rfl T_zero_46 rfl ?_
        clear hf hS a; intro b_z29 w a hbb_z29 hS hf
        have hcl30:=rdOK.cells (hS.slr (j:=1) rfl)
        refine O.store (j:=0) (cs':=#[.int .i64 (((sortDs z.1).getD 0 default).num),.int .i64 (((sortDs z.1).getD 0 default).yr),.int .u8 (((sortDs z.1).getD 0 default).half),.int .u8 (((sortDs z.1).getD 0 default).sec),.int .i64 (((sortDs z.1).getD 0 default).cyc),zv]) (M':=[pt b_z29 (.cells #[.int .i64 (((sortDs z.1).getD 0 default).num),.int .i64 (((sortDs z.1).getD 0 default).yr),.int .u8 (((sortDs z.1).getD 0 default).half),.int .u8 (((sortDs z.1).getD 0 default).sec),.int .i64 (((sortDs z.1).getD 0 default).cyc),zv] 46 (0,0)),sl 24 5 zv ((sortDs z.1).length) (encs eD (sortDs z.1)),sl 26 12 am ((l++[joinC da db]).length) (encs eC (l++[joinC da db])),pt b_y21 (.cells #[.int .i64 (((sortDs y.1).getD 0 default).num),.int .i64 (((sortDs y.1).getD 0 default).yr),.int .u8 (((sortDs y.1).getD 0 default).half),.int .u8 (((sortDs y.1).getD 0 default).sec),.int .i64 (((sortDs y.1).getD 0 default).cyc),yv] 46 (0,0)),sl 24 5 yv ((sortDs y.1).length) (encs eD (sortDs y.1)),pt b_x15 (.cells #[.int .i64 (((sortDs x.1).getD 0 default).num),.int .i64 (((sortDs x.1).getD 0 default).yr),.int .u8 (((sortDs x.1).getD 0 default).half),.int .u8 (((sortDs x.1).getD 0 default).sec),.int .i64 (((sortDs x.1).getD 0 default).cyc),xv] 46 (0,0)),sl 24 5 xv ((sortDs x.1).length) (encs eD (sortDs x.1)),pt b_b2 (.cells #[.int .i64 db.num,.int .i64 db.yr,.int .u8 db.half,.int .u8 db.sec,.int .i64 db.cyc] 24 (0,0)),pt b_a1 (.cells #[.int .i64 da.num,.int .i64 da.yr,.int .u8 da.half,.int .u8 da.sec,.int .i64 da.cyc] 24 (0,0))]) hf hS rfl rfl rfl T_size_46 rfl (oneCells_cc rfl (oneCells_cc rfl (oneCells_cc rfl (oneCells_cc rfl (oneCells_cc rfl (oneCells_cc hcl30.2 rfl)))))) rfl (Nat.le_of_ble_eq_true rfl) rfl rfl ?_
        clear hS; intro w hS
        refine O.val hf rfl rfl rfl (RunV.assign rfl) ?_
        clear hf a; intro a hf
        refine O.nil ?_
        refine k_seq ?_
        replace hf:Fr a 186 [] [(0,vl),(5,.pointer (some ⟨b_b2,0,none⟩)),(6,.bool false),(7,.bool true),(8,.pointer (some ⟨b_x15,0,none⟩)),(9,.int .i64 0),(10,.pointer (some ⟨b_y21,0,none⟩)),(11,.int .i64 0),(12,am),(14,.pointer (some ⟨b_z29,0,none⟩)),(15,.int .i64 0)]:=hf.to ⟨rfl,rfl,rfl,rfl,rfl,rfl,rfl,rfl,rfl,rfl,rfl,trivial⟩
        refine W.seq ?_
        refine W.regionL (l:=[0,1,2,3,4,5,6,7,8]) rfl ?_
        refine O.val hf rfl rfl rfl (RunV.move rfl) ?_
        clear hf a; intro a hf
        refine O.val hf rfl rfl rfl (RunV.loadN (cs':=#[.int .i64 db.num,.int .i64 db.yr,.int .u8 db.half,.int .u8 db.sec,.int .i64 db.cyc]) T_agg_24 T_size_24 rfl (hS.ptAt (i:=7) rfl) (Nat.le_of_ble_eq_true rfl) rfl) ?_
        clear hf a; intro a hf
        refine O.callR hf rfl rfl rfl (RunE.call (av:=#[am,dV db]) C_ok_19 rfl rfl rfl) (whoO am (l++[joinC da db]) db _ (hS.bptO (i:=0) rfl) (hS.slr (j:=2) rfl) (slOK.fit (hS.slAt (j:=2) rfl)) z hR.wv) ?_
        clear hf a
        rintro zw w31 hS1 a hf
        replace hf:Fr a _ _ ((95,.tuple #[.agg #[.int .i64 (((sortDs z.1).getD 0 default).num),.int .i64 (((sortDs z.1).getD 0 default).yr),.int .u8 (((sortDs z.1).getD 0 default).half),.int .u8 (((sortDs z.1).getD 0 default).sec),.int .i64 (((sortDs z.1).getD 0 default).cyc),zw],.int .i64 0])::_):=hf
        replace hS:=(hS.call hS1).eqM (N:=[sl 24 5 zw ((sortDs z.1).length) (encs eD (sortDs z.1)),pt b_z29 (.cells #[.int .i64 (((sortDs z.1).getD 0 default).num),.int .i64 (((sortDs z.1).getD 0 default).yr),.int .u8 (((sortDs z.1).getD 0 default).half),.int .u8 (((sortDs z.1).getD 0 default).sec),.int .i64 (((sortDs z.1).getD 0 default).cyc),zv] 46 (0,0)),sl 24 5 zv ((sortDs z.1).length) (encs eD (sortDs z.1)),sl 26 12 am ((l++[joinC da db]).length) (encs eC (l++[joinC da db])),pt b_y21 (.cells #[.int .i64 (((sortDs y.1).getD 0 default).num),.int .i64 (((sortDs y.1).getD 0 default).yr),.int .u8 (((sortDs y.1).getD 0 default).half),.int .u8 (((sortDs y.1).getD 0 default).sec),.int .i64 (((sortDs y.1).getD 0 default).cyc),yv] 46 (0,0)),sl 24 5 yv ((sortDs y.1).length) (encs eD (sortDs y.1)),pt b_x15 (.cells #[.int .i64 (((sortDs x.1).getD 0 default).num),.int .i64 (((sortDs x.1).getD 0 default).yr),.int .u8 (((sortDs x.1).getD 0 default).half),.int .u8 (((sortDs x.1).getD 0 default).sec),.int .i64 (((sortDs x.1).getD 0 default).cyc),xv] 46 (0,0)),sl 24 5 xv ((sortDs x.1).length) (encs eD (sortDs x.1)),pt b_b2 (.cells #[.int .i64 db.num,.int .i64 db.yr,.int .u8 db.half,.int .u8 db.sec,.int .i64 db.cyc] 24 (0,0)),pt b_a1 (.cells #[.int .i64 da.num,.int .i64 da.yr,.int .u8 da.half,.int .u8 da.sec,.int .i64 da.cyc] 24 (0,0))]) rfl
        clear hS1
        refine O.val hf rfl rfl rfl (RunV.move rfl) ?_
        clear hf a; intro a hf
        refine O.val hf rfl rfl rfl (RunV.extract rfl rfl) ?_
        clear hf a; intro a hf
        refine O.val hf rfl rfl rfl (RunV.extract rfl rfl) ?_
        clear hf a; intro a hf
        refine O.alloc (cs:=#[.int .i64 0,.int .i64 0,.int .u8 0,.int .u8 0,.int .i64 0,.slice none 0 0]) hf hS rfl rfl T_zero_46 rfl ?_
        clear hf hS a; intro b_v32 w a hbb_v32 hS hf
        have hcl33:=rdOK.cells (hS.slr (j:=1) rfl)
        refine O.store (j:=0) (cs':=#[.int .i64 (((sortDs z.1).getD 0 default).num),.int .i64 (((sortDs z.1).getD 0 default).yr),.int .u8 (((sortDs z.1).getD 0 default).half),.int .u8 (((sortDs z.1).getD 0 default).sec),.int .i64 (((sortDs z.1).getD 0 default).cyc),zw]) (M':=[pt b_v32 (.cells #[.int .i64 (((sortDs z.1).getD 0 default).num),.int .i64 (((sortDs z.1).getD 0 default).yr),.int .u8 (((sortDs z.1).getD 0 default).half),.int .u8 (((sortDs z.1).getD 0 default).sec),.int .i64 (((sortDs z.1).getD 0 default).cyc),zw] 46 (0,0)),sl 24 5 zw ((sortDs z.1).length) (encs eD (sortDs z.1)),pt b_z29 (.cells #[.int .i64 (((sortDs z.1).getD 0 default).num),.int .i64 (((sortDs z.1).getD 0 default).yr),.int .u8 (((sortDs z.1).getD 0 default).half),.int .u8 (((sortDs z.1).getD 0 default).sec),.int .i64 (((sortDs z.1).getD 0 default).cyc),zv] 46 (0,0)),sl 24 5 zv ((sortDs z.1).length) (encs eD (sortDs z.1)),sl 26 12 am ((l++[joinC da db]).length) (encs eC (l++[joinC da db])),pt b_y21 (.cells #[.int .i64 (((sortDs y.1).getD 0 default).num),.int .i64 (((sortDs y.1).getD 0 default).yr),.int .u8 (((sortDs y.1).getD 0 default).half),.int .u8 (((sortDs y.1).getD 0 default).sec),.int .i64 (((sortDs y.1).getD 0 default).cyc),yv] 46 (0,0)),sl 24 5 yv ((sortDs y.1).length) (encs eD (sortDs y.1)),pt b_x15 (.cells #[.int .i64 (((sortDs x.1).getD 0 default).num),.int .i64 (((sortDs x.1).getD 0 default).yr),.int .u8 (((sortDs x.1).getD 0 default).half),.int .u8 (((sortDs x.1).getD 0 default).sec),.int .i64 (((sortDs x.1).getD 0 default).cyc),xv] 46 (0,0)),sl 24 5 xv ((sortDs x.1).length) (encs eD (sortDs x.1)),pt b_b2 (.cells #[.int .i64 db.num,.int .i64 db.yr,.int .u8 db.half,.int .u8 db.sec,.int .i64 db.cyc] 24 (0,0)),pt b_a1 (.cells #[.int .i64 da.num,.int .i64 da.yr,.int .u8 da.half,.int .u8 da.sec,.int .i64 da.cyc] 24 (0,0))]) hf hS rfl rfl rfl T_size_46 rfl (oneCells_cc rfl (oneCells_cc rfl (oneCells_cc rfl (oneCells_cc rfl (oneCells_cc rfl (oneCells_cc hcl33.2 rfl)))))) rfl (Nat.le_of_ble_eq_true rfl) rfl rfl ?_
        clear hS; intro w hS
        refine O.val hf rfl rfl rfl (RunV.assign rfl) ?_
        clear hf a; intro a hf
        refine O.nil ?_
        refine k_seq ?_
        replace hf:Fr a 186 [] [(0,vl),(6,.bool false),(7,.bool true),(8,.pointer (some ⟨b_x15,0,none⟩)),(9,.int .i64 0),(10,.pointer (some ⟨b_y21,0,none⟩)),(11,.int .i64 0),(12,am),(14,.pointer (some ⟨b_z29,0,none⟩)),(15,.int .i64 0),(16,.pointer (some ⟨b_v32,0,none⟩)),(17,.int .i64 0)]:=hf.to ⟨rfl,rfl,rfl,rfl,rfl,rfl,rfl,rfl,rfl,rfl,rfl,rfl,trivial⟩
        refine W.seq ?_
        refine W.seq ?_
        refine W.regionL (l:=[0,1,2,3,4,5,6,7,8,9,10,11,12,13,14,15,16,17,18,19,20,21,22,23,24,25,26,27,28,29,30,31,32]) rfl ?_
        refine O.val hf rfl rfl rfl (RunV.move rfl) ?_
        clear hf a; intro a hf
        refine O.val hf rfl rfl rfl (RunV.toB (c:=false) (RunV.neq rfl rfl) (by decide)) ?_
        clear hf a; intro a hf
        refine O.val hf rfl rfl rfl (RunV.move rfl) ?_
        clear hf a; intro a hf
        refine O.gvalB (v:=.int .i64 0) hf rfl rfl rfl rfl rfl rfl (RunV.move rfl) ?_
        clear hf a; intro a hf
        refine O.gvalB (v:=.bool false) hf rfl rfl rfl rfl rfl rfl (RunV.toB (c:=false) (RunV.neq rfl rfl) (by decide)) ?_
        clear hf a; intro a hf
        refine O.val (v:=.bool false) hf rfl rfl rfl (RunV.pick rfl rfl rfl rfl) ?_
        clear hf a; intro a hf
        refine O.val hf rfl rfl rfl (RunV.move rfl) ?_
        clear hf a; intro a hf
        refine O.gvalB (v:=.int .i64 0) hf rfl rfl rfl rfl rfl rfl (RunV.move rfl) ?_
        clear hf a; intro a hf
        refine O.gvalB (v:=.bool false) hf rfl rfl rfl rfl rfl rfl (RunV.toB (c:=false) (RunV.neq rfl rfl) (by decide)) ?_
        clear hf a; intro a hf
        refine O.val (v:=.bool false) hf rfl rfl rfl (RunV.pick rfl rfl rfl rfl) ?_
        clear hf a; intro a hf
        refine O.val hf rfl rfl rfl (RunV.move rfl) ?_
        clear hf a; intro a hf
        refine O.gvalB (v:=.int .i64 0) hf rfl rfl rfl rfl rfl rfl (RunV.move rfl) ?_
        clear hf a; intro a hf
        refine O.gvalB (v:=.bool false) hf rfl rfl rfl rfl rfl rfl (RunV.toB (c:=false) (RunV.neq rfl rfl) (by decide)) ?_
        clear hf a; intro a hf
        refine O.val (v:=.bool false) hf rfl rfl rfl (RunV.pick rfl rfl rfl rfl) ?_
        clear hf a; intro a hf
        refine O.val hf rfl rfl rfl (RunV.move rfl) ?_
        clear hf a; intro a hf
        refine O.gvalB (v:=.agg #[.int .i64 (((sortDs z.1).getD 0 default).num),.int .i64 (((sortDs z.1).getD 0 default).yr),.int .u8 (((sortDs z.1).getD 0 default).half),.int .u8 (((sortDs z.1).getD 0 default).sec),.int .i64 (((sortDs z.1).getD 0 default).cyc),zv]) hf rfl rfl rfl rfl rfl rfl (RunV.loadN (cs':=#[.int .i64 (((sortDs z.1).getD 0 default).num),.int .i64 (((sortDs z.1).getD 0 default).yr),.int .u8 (((sortDs z.1).getD 0 default).half),.int .u8 (((sortDs z.1).getD 0 default).sec),.int .i64 (((sortDs z.1).getD 0 default).cyc),zv]) T_agg_46 T_size_46 rfl (hS.ptAt (i:=2) rfl) (Nat.le_of_ble_eq_true rfl) rfl) ?_
        clear hf a; intro a hf
        refine O.gvalB (v:=.agg #[.int .i64 (((sortDs z.1).getD 0 default).num),.int .i64 (((sortDs z.1).getD 0 default).yr),.int .u8 (((sortDs z.1).getD 0 default).half),.int .u8 (((sortDs z.1).getD 0 default).sec),.int .i64 (((sortDs z.1).getD 0 default).cyc),zw]) hf rfl rfl rfl rfl rfl rfl (RunV.loadN (cs':=#[.int .i64 (((sortDs z.1).getD 0 default).num),.int .i64 (((sortDs z.1).getD 0 default).yr),.int .u8 (((sortDs z.1).getD 0 default).half),.int .u8 (((sortDs z.1).getD 0 default).sec),.int .i64 (((sortDs z.1).getD 0 default).cyc),zw]) T_agg_46 T_size_46 rfl (hS.ptAt (i:=0) rfl) (Nat.le_of_ble_eq_true rfl) rfl) ?_
        clear hf a; intro a hf
        refine O.gcallR hf rfl rfl rfl rfl rfl rfl (RunE.call (av:=#[.agg #[.int .i64 (((sortDs z.1).getD 0 default).num),.int .i64 (((sortDs z.1).getD 0 default).yr),.int .u8 (((sortDs z.1).getD 0 default).half),.int .u8 (((sortDs z.1).getD 0 default).sec),.int .i64 (((sortDs z.1).getD 0 default).cyc),zv],.agg #[.int .i64 (((sortDs z.1).getD 0 default).num),.int .i64 (((sortDs z.1).getD 0 default).yr),.int .u8 (((sortDs z.1).getD 0 default).half),.int .u8 (((sortDs z.1).getD 0 default).sec),.int .i64 (((sortDs z.1).getD 0 default).cyc),zw]]) C_ok_20 rfl rfl rfl) (sameObject_true ((sortDs z.1).getD 0 default) ((sortDs z.1).getD 0 default) zv zw (sortDs z.1) (sortDs z.1) _ (hS.slr (j:=3) rfl) (hS.slr (j:=1) rfl) ⟨rfl,rfl⟩) ?_
        clear hf a
        rintro _ w34 hS1 a hf
        replace hf:Fr a _ _ ((115,.bool true)::_):=hf
        replace hS:=(hS.call hS1).eqM (N:=[pt b_v32 (.cells #[.int .i64 (((sortDs z.1).getD 0 default).num),.int .i64 (((sortDs z.1).getD 0 default).yr),.int .u8 (((sortDs z.1).getD 0 default).half),.int .u8 (((sortDs z.1).getD 0 default).sec),.int .i64 (((sortDs z.1).getD 0 default).cyc),zw] 46 (0,0)),sl 24 5 zw ((sortDs z.1).length) (encs eD (sortDs z.1)),pt b_z29 (.cells #[.int .i64 (((sortDs z.1).getD 0 default).num),.int .i64 (((sortDs z.1).getD 0 default).yr),.int .u8 (((sortDs z.1).getD 0 default).half),.int .u8 (((sortDs z.1).getD 0 default).sec),.int .i64 (((sortDs z.1).getD 0 default).cyc),zv] 46 (0,0)),sl 24 5 zv ((sortDs z.1).length) (encs eD (sortDs z.1)),sl 26 12 am ((l++[joinC da db]).length) (encs eC (l++[joinC da db])),pt b_y21 (.cells #[.int .i64 (((sortDs y.1).getD 0 default).num),.int .i64 (((sortDs y.1).getD 0 default).yr),.int .u8 (((sortDs y.1).getD 0 default).half),.int .u8 (((sortDs y.1).getD 0 default).sec),.int .i64 (((sortDs y.1).getD 0 default).cyc),yv] 46 (0,0)),sl 24 5 yv ((sortDs y.1).length) (encs eD (sortDs y.1)),pt b_x15 (.cells #[.int .i64 (((sortDs x.1).getD 0 default).num),.int .i64 (((sortDs x.1).getD 0 default).yr),.int .u8 (((sortDs x.1).getD 0 default).half),.int .u8 (((sortDs x.1).getD 0 default).sec),.int .i64 (((sortDs x.1).getD 0 default).cyc),xv] 46 (0,0)),sl 24 5 xv ((sortDs x.1).length) (encs eD (sortDs x.1)),pt b_b2 (.cells #[.int .i64 db.num,.int .i64 db.yr,.int .u8 db.half,.int .u8 db.sec,.int .i64 db.cyc] 24 (0,0)),pt b_a1 (.cells #[.int .i64 da.num,.int .i64 da.yr,.int .u8 da.half,.int .u8 da.sec,.int .i64 da.cyc] 24 (0,0))]) rfl
        clear hS1
        refine O.gvalB (v:=.bool false) hf rfl rfl rfl rfl rfl rfl (RunV.not (b:=true) rfl) ?_
        clear hf a; intro a hf
        refine O.val (v:=.bool false) hf rfl rfl rfl (RunV.pick rfl rfl rfl rfl) ?_
        clear hf a; intro a hf
        refine O.val hf rfl rfl rfl (RunV.move rfl) ?_
        clear hf a; intro a hf
        refine O.gvalB (v:=.pointer (some ⟨b_z29,5,none⟩)) hf rfl rfl rfl rfl rfl rfl (RunV.field T_field_46_1 rfl rfl) ?_
        clear hf a; intro a hf
        refine O.gvalB (v:=zv) hf rfl rfl rfl rfl rfl rfl (RunV.load1 T_agg_35 rfl (hS.ptAt (i:=2) rfl) rfl) ?_
        clear hf a; intro a hf
        refine O.gvalB (v:=.int .i64 ((sortDs z.1).length:Int)) hf rfl rfl rfl rfl rfl rfl (RunV.lenV (e:=24) (by simpa using T_elem_35) rfl (hS.slr (j:=3) rfl)) ?_
        clear hf a; intro a hf
        refine O.gvalB (v:=.pointer (some ⟨b_x15,5,none⟩)) hf rfl rfl rfl rfl rfl rfl (RunV.field T_field_46_1 rfl rfl) ?_
        clear hf a; intro a hf
        refine O.gvalB (v:=xv) hf rfl rfl rfl rfl rfl rfl (RunV.load1 T_agg_35 rfl (hS.ptAt (i:=7) rfl) rfl) ?_
        clear hf a; intro a hf
        refine O.gvalB (v:=.int .i64 ((sortDs x.1).length:Int)) hf rfl rfl rfl rfl rfl rfl (RunV.lenV (e:=24) (by simpa using T_elem_35) rfl (hS.slr (j:=8) rfl)) ?_
        clear hf a; intro a hf
        refine O.gvalB (v:=.pointer (some ⟨b_y21,5,none⟩)) hf rfl rfl rfl rfl rfl rfl (RunV.field T_field_46_1 rfl rfl) ?_
        clear hf a; intro a hf
        refine O.gvalB (v:=yv) hf rfl rfl rfl rfl rfl rfl (RunV.load1 T_agg_35 rfl (hS.ptAt (i:=5) rfl) rfl) ?_
        clear hf a; intro a hf
        refine O.gvalB (v:=.int .i64 ((sortDs y.1).length:Int)) hf rfl rfl rfl rfl rfl rfl (RunV.lenV (e:=24) (by simpa using T_elem_35) rfl (hS.slr (j:=6) rfl)) ?_
        clear hf a; intro a hf
        refine O.gvalB (v:=.int .i64 (((sortDs x.1).length:Int)+((sortDs y.1).length:Int))) hf rfl rfl rfl rfl rfl rfl (RunV.addI rfl rfl (by omega)) ?_
        clear hf a; intro a hf
        refine O.gvalB (v:=.bool (decide (((sortDs z.1).length:Int)≠(((sortDs x.1).length:Int)+((sortDs y.1).length:Int):Int)))) hf rfl rfl rfl rfl rfl rfl (RunV.neq rfl rfl) ?_
        clear hf a; intro a hf
        refine O.val (v:=.bool (decide (((sortDs z.1).length:Int)≠(((sortDs x.1).length:Int)+((sortDs y.1).length:Int):Int)))) hf rfl rfl rfl (RunV.pick rfl rfl rfl rfl) ?_
        clear hf a; intro a hf
        refine O.nil ?_
        refine k_seq ?_
        replace hf:Fr a 186 [] [(0,vl),(6,.bool false),(7,.bool true),(12,am),(130,.bool (decide (((sortDs z.1).length:Int)≠(((sortDs x.1).length:Int)+((sortDs y.1).length:Int):Int))))]:=hf.to ⟨rfl,rfl,rfl,rfl,rfl,trivial⟩
        have hbc:(decide (((sortDs z.1).length:Int)≠(((sortDs x.1).length:Int)+((sortDs y.1).length:Int):Int)))=false:=decide_eq_false (fun h=>h (by rw [hR.len]; omega))
        simp only [hbc] at hf; clear hbc
        refine W.if_ff hf rfl ?_
        refine W.skip ?_
        refine k_seq ?_
        replace hf:Fr a 186 [] [(0,vl),(6,.bool false),(7,.bool true),(12,am)]:=hf.to ⟨rfl,rfl,rfl,rfl,trivial⟩
        refine W.seq ?_
        refine W.regionL (l:=[0,1,2,3,4,5,6]) rfl ?_
        refine O.val hf rfl rfl rfl (RunV.move rfl) ?_
        clear hf a; intro a hf
        refine O.callR hf rfl rfl rfl (RunE.call (av:=#[vl]) C_ok_16 rfl rfl rfl) (run_ok vl l _ (hS.bptO (i:=0) rfl) (hS.rdAt (j:=1) rfl) hfit _ _ hm) ?_
        clear hf a
        rintro ⟨va1,xs1⟩ w35 ⟨hS1,hxs1⟩ a hf
        replace hf:Fr a _ _ ((133,.tuple #[va1,.int .i64 0])::_):=hf
        replace hS:=(hS.call hS1).eqM (N:=[sl 46 6 va1 xs1.length (encs eO xs1),bigA (xs1.map obA),pt b_v32 (.cells #[.int .i64 (((sortDs z.1).getD 0 default).num),.int .i64 (((sortDs z.1).getD 0 default).yr),.int .u8 (((sortDs z.1).getD 0 default).half),.int .u8 (((sortDs z.1).getD 0 default).sec),.int .i64 (((sortDs z.1).getD 0 default).cyc),zw] 46 (0,0)),sl 24 5 zw ((sortDs z.1).length) (encs eD (sortDs z.1)),pt b_z29 (.cells #[.int .i64 (((sortDs z.1).getD 0 default).num),.int .i64 (((sortDs z.1).getD 0 default).yr),.int .u8 (((sortDs z.1).getD 0 default).half),.int .u8 (((sortDs z.1).getD 0 default).sec),.int .i64 (((sortDs z.1).getD 0 default).cyc),zv] 46 (0,0)),sl 24 5 zv ((sortDs z.1).length) (encs eD (sortDs z.1)),sl 26 12 am ((l++[joinC da db]).length) (encs eC (l++[joinC da db])),pt b_y21 (.cells #[.int .i64 (((sortDs y.1).getD 0 default).num),.int .i64 (((sortDs y.1).getD 0 default).yr),.int .u8 (((sortDs y.1).getD 0 default).half),.int .u8 (((sortDs y.1).getD 0 default).sec),.int .i64 (((sortDs y.1).getD 0 default).cyc),yv] 46 (0,0)),sl 24 5 yv ((sortDs y.1).length) (encs eD (sortDs y.1)),pt b_x15 (.cells #[.int .i64 (((sortDs x.1).getD 0 default).num),.int .i64 (((sortDs x.1).getD 0 default).yr),.int .u8 (((sortDs x.1).getD 0 default).half),.int .u8 (((sortDs x.1).getD 0 default).sec),.int .i64 (((sortDs x.1).getD 0 default).cyc),xv] 46 (0,0)),sl 24 5 xv ((sortDs x.1).length) (encs eD (sortDs x.1)),pt b_b2 (.cells #[.int .i64 db.num,.int .i64 db.yr,.int .u8 db.half,.int .u8 db.sec,.int .i64 db.cyc] 24 (0,0)),pt b_a1 (.cells #[.int .i64 da.num,.int .i64 da.yr,.int .u8 da.half,.int .u8 da.sec,.int .i64 da.cyc] 24 (0,0))]) rfl
        clear hS1
        refine O.val hf rfl rfl rfl (RunV.move rfl) ?_
        clear hf a; intro a hf
        refine O.val hf rfl rfl rfl (RunV.extract rfl rfl) ?_
        clear hf a; intro a hf
        refine O.val hf rfl rfl rfl (RunV.extract rfl rfl) ?_
        clear hf a; intro a hf
        refine O.val hf rfl rfl rfl (RunV.assign rfl) ?_
        clear hf a; intro a hf
        refine O.val hf rfl rfl rfl (RunV.assign rfl) ?_
        clear hf a; intro a hf
        refine O.nil ?_
        refine k_seq ?_
        replace hf:Fr a 186 [] [(6,.bool false),(7,.bool true),(12,am),(18,va1),(19,.int .i64 0)]:=hf.to ⟨rfl,rfl,rfl,rfl,rfl,trivial⟩
        refine W.seq ?_
        refine W.regionL (l:=[0,1,2,3,4,5,6]) rfl ?_
        refine O.val hf rfl rfl rfl (RunV.move rfl) ?_
        clear hf a; intro a hf
        refine O.callR hf rfl rfl rfl (RunE.call (av:=#[am]) C_ok_16 rfl rfl rfl) (run_ok am (l++[joinC da db]) _ (hS.bptO (i:=0) rfl) (hS.slr (j:=6) rfl) (slOK.fit (hS.slAt (j:=6) rfl)) _ _ hm2) ?_
        clear hf a
        rintro ⟨va2,xs2⟩ w36 ⟨hS1,hxs2⟩ a hf
        replace hf:Fr a _ _ ((138,.tuple #[va2,.int .i64 0])::_):=hf
        replace hS:=(hS.call hS1).eqM (N:=[sl 46 6 va2 xs2.length (encs eO xs2),bigA (xs2.map obA),sl 46 6 va1 xs1.length (encs eO xs1),bigA (xs1.map obA),pt b_v32 (.cells #[.int .i64 (((sortDs z.1).getD 0 default).num),.int .i64 (((sortDs z.1).getD 0 default).yr),.int .u8 (((sortDs z.1).getD 0 default).half),.int .u8 (((sortDs z.1).getD 0 default).sec),.int .i64 (((sortDs z.1).getD 0 default).cyc),zw] 46 (0,0)),sl 24 5 zw ((sortDs z.1).length) (encs eD (sortDs z.1)),pt b_z29 (.cells #[.int .i64 (((sortDs z.1).getD 0 default).num),.int .i64 (((sortDs z.1).getD 0 default).yr),.int .u8 (((sortDs z.1).getD 0 default).half),.int .u8 (((sortDs z.1).getD 0 default).sec),.int .i64 (((sortDs z.1).getD 0 default).cyc),zv] 46 (0,0)),sl 24 5 zv ((sortDs z.1).length) (encs eD (sortDs z.1)),sl 26 12 am ((l++[joinC da db]).length) (encs eC (l++[joinC da db])),pt b_y21 (.cells #[.int .i64 (((sortDs y.1).getD 0 default).num),.int .i64 (((sortDs y.1).getD 0 default).yr),.int .u8 (((sortDs y.1).getD 0 default).half),.int .u8 (((sortDs y.1).getD 0 default).sec),.int .i64 (((sortDs y.1).getD 0 default).cyc),yv] 46 (0,0)),sl 24 5 yv ((sortDs y.1).length) (encs eD (sortDs y.1)),pt b_x15 (.cells #[.int .i64 (((sortDs x.1).getD 0 default).num),.int .i64 (((sortDs x.1).getD 0 default).yr),.int .u8 (((sortDs x.1).getD 0 default).half),.int .u8 (((sortDs x.1).getD 0 default).sec),.int .i64 (((sortDs x.1).getD 0 default).cyc),xv] 46 (0,0)),sl 24 5 xv ((sortDs x.1).length) (encs eD (sortDs x.1)),pt b_b2 (.cells #[.int .i64 db.num,.int .i64 db.yr,.int .u8 db.half,.int .u8 db.sec,.int .i64 db.cyc] 24 (0,0)),pt b_a1 (.cells #[.int .i64 da.num,.int .i64 da.yr,.int .u8 da.half,.int .u8 da.sec,.int .i64 da.cyc] 24 (0,0))]) rfl
        clear hS1
        refine O.val hf rfl rfl rfl (RunV.move rfl) ?_
        clear hf a; intro a hf
        refine O.val hf rfl rfl rfl (RunV.extract rfl rfl) ?_
        clear hf a; intro a hf
        refine O.val hf rfl rfl rfl (RunV.extract rfl rfl) ?_
        clear hf a; intro a hf
        refine O.val hf rfl rfl rfl (RunV.assign rfl) ?_
        clear hf a; intro a hf
        refine O.val hf rfl rfl rfl (RunV.assign rfl) ?_
        clear hf a; intro a hf
        refine O.nil ?_
        refine k_seq ?_
        replace hf:Fr a 186 [] [(6,.bool false),(7,.bool true),(18,va1),(19,.int .i64 0),(20,va2),(21,.int .i64 0)]:=hf.to ⟨rfl,rfl,rfl,rfl,rfl,rfl,trivial⟩
        refine W.seq ?_
        refine W.seq ?_
        refine W.regionL (l:=[0,1,2,3,4,5,6,7,8,9,10,11,12,13]) rfl ?_
        replace hxs1:xs1.map prO=objsM S:=hxs1
        replace hxs2:xs2.map prO=objsM S2:=hxs2
        have hlen1:=obs_len hxs1
        have hlen2:=obs_len hxs2
        have hsl1:=S_len hm
        have hsl2:=S_len hm2
        have hsz:=hR.siz
        refine O.val hf rfl rfl rfl (RunV.move rfl) ?_
        clear hf a; intro a hf
        refine O.val hf rfl rfl rfl (RunV.toB (c:=false) (RunV.neq rfl rfl) (by decide)) ?_
        clear hf a; intro a hf
        refine O.val hf rfl rfl rfl (RunV.move rfl) ?_
        clear hf a; intro a hf
        refine O.gvalB (v:=.int .i64 0) hf rfl rfl rfl rfl rfl rfl (RunV.move rfl) ?_
        clear hf a; intro a hf
        refine O.gvalB (v:=.bool false) hf rfl rfl rfl rfl rfl rfl (RunV.toB (c:=false) (RunV.neq rfl rfl) (by decide)) ?_
        clear hf a; intro a hf
        refine O.val (v:=.bool false) hf rfl rfl rfl (RunV.pick rfl rfl rfl rfl) ?_
        clear hf a; intro a hf
        refine O.val hf rfl rfl rfl (RunV.move rfl) ?_
        clear hf a; intro a hf
        refine O.gvalB (v:=va2) hf rfl rfl rfl rfl rfl rfl (RunV.move rfl) ?_
        clear hf a; intro a hf
        refine O.gvalB (v:=.int .i64 (xs2.length:Int)) hf rfl rfl rfl rfl rfl rfl (RunV.lenV (e:=46) (by simpa using T_elem_39) rfl (hS.slr (j:=0) rfl)) ?_
        clear hf a; intro a hf
        refine O.gvalB (v:=va1) hf rfl rfl rfl rfl rfl rfl (RunV.move rfl) ?_
        clear hf a; intro a hf
        refine O.gvalB (v:=.int .i64 (xs1.length:Int)) hf rfl rfl rfl rfl rfl rfl (RunV.lenV (e:=46) (by simpa using T_elem_39) rfl (hS.slr (j:=2) rfl)) ?_
        clear hf a; intro a hf
        refine O.gvalB (v:=.int .i64 ((xs1.length:Int)-1)) hf rfl rfl rfl rfl rfl rfl (RunV.subI rfl rfl (by omega)) ?_
        clear hf a; intro a hf
        refine O.gvalB (v:=.bool (decide ((xs2.length:Int)≠((xs1.length:Int)-1:Int)))) hf rfl rfl rfl rfl rfl rfl (RunV.neq rfl rfl) ?_
        clear hf a; intro a hf
        refine O.val (v:=.bool (decide ((xs2.length:Int)≠((xs1.length:Int)-1:Int)))) hf rfl rfl rfl (RunV.pick rfl rfl rfl rfl) ?_
        clear hf a; intro a hf
        refine O.nil ?_
        refine k_seq ?_
        replace hf:Fr a 186 [] [(6,.bool false),(7,.bool true),(18,va1),(20,va2),(154,.bool (decide ((xs2.length:Int)≠((xs1.length:Int)-1:Int))))]:=hf.to ⟨rfl,rfl,rfl,rfl,rfl,trivial⟩
        have hbc:(decide ((xs2.length:Int)≠((xs1.length:Int)-1:Int)))=false:=decide_eq_false (by omega)
        simp only [hbc] at hf; clear hbc
        refine W.if_ff hf rfl ?_
        refine W.skip ?_
        refine k_seq ?_
        replace hf:Fr a 186 [] [(6,.bool false),(7,.bool true),(18,va1),(20,va2)]:=hf.to ⟨rfl,rfl,rfl,rfl,trivial⟩
        refine W.seq ?_
        refine W.regionL (l:=[0]) rfl ?_
        refine O.val hf rfl rfl rfl (RunV.assign rfl) ?_
        clear hf a; intro a hf
        refine O.nil ?_
        refine k_seq ?_
        refine W.seq ?_
        refine W.seq ?_
        refine W.regionL (l:=[0]) rfl ?_
        refine O.val hf rfl rfl rfl (RunV.assign rfl) ?_
        clear hf a; intro a hf
        refine O.nil ?_
        refine k_seq ?_
        refine W.block ?_
        refine W.loop (G:=(Nat) × (Nat)) (fun g a w=>match g with | (p,n)=>Fr a 186 [] [(6,.bool false),(7,.bool true),(18,va1),(20,va2),(22,.int .i64 (n:Int)),(23,.int .i64 (p:Int))]∧St w0 w noX [ordA,rdv 12 vl l.length (encs eC l)] [sl 46 6 va2 xs2.length (encs eO xs2),bigA (xs2.map obA),sl 46 6 va1 xs1.length (encs eO xs1),bigA (xs1.map obA),pt b_v32 (.cells #[.int .i64 (((sortDs z.1).getD 0 default).num),.int .i64 (((sortDs z.1).getD 0 default).yr),.int .u8 (((sortDs z.1).getD 0 default).half),.int .u8 (((sortDs z.1).getD 0 default).sec),.int .i64 (((sortDs z.1).getD 0 default).cyc),zw] 46 (0,0)),sl 24 5 zw ((sortDs z.1).length) (encs eD (sortDs z.1)),pt b_z29 (.cells #[.int .i64 (((sortDs z.1).getD 0 default).num),.int .i64 (((sortDs z.1).getD 0 default).yr),.int .u8 (((sortDs z.1).getD 0 default).half),.int .u8 (((sortDs z.1).getD 0 default).sec),.int .i64 (((sortDs z.1).getD 0 default).cyc),zv] 46 (0,0)),sl 24 5 zv ((sortDs z.1).length) (encs eD (sortDs z.1)),sl 26 12 am ((l++[joinC da db]).length) (encs eC (l++[joinC da db])),pt b_y21 (.cells #[.int .i64 (((sortDs y.1).getD 0 default).num),.int .i64 (((sortDs y.1).getD 0 default).yr),.int .u8 (((sortDs y.1).getD 0 default).half),.int .u8 (((sortDs y.1).getD 0 default).sec),.int .i64 (((sortDs y.1).getD 0 default).cyc),yv] 46 (0,0)),sl 24 5 yv ((sortDs y.1).length) (encs eD (sortDs y.1)),pt b_x15 (.cells #[.int .i64 (((sortDs x.1).getD 0 default).num),.int .i64 (((sortDs x.1).getD 0 default).yr),.int .u8 (((sortDs x.1).getD 0 default).half),.int .u8 (((sortDs x.1).getD 0 default).sec),.int .i64 (((sortDs x.1).getD 0 default).cyc),xv] 46 (0,0)),sl 24 5 xv ((sortDs x.1).length) (encs eD (sortDs x.1)),pt b_b2 (.cells #[.int .i64 db.num,.int .i64 db.yr,.int .u8 db.half,.int .u8 db.sec,.int .i64 db.cyc] 24 (0,0)),pt b_a1 (.cells #[.int .i64 da.num,.int .i64 da.yr,.int .u8 da.half,.int .u8 da.sec,.int .i64 da.cyc] 24 (0,0))]∧(p≤xs1.length)∧(n=cntP (xs1.map prO) (xs2.map prO) p)∧(n≤501*p)) (fun g=>match g with | (p,n)=>xs1.length-p) (0,0) ?_ ?_
        · refine ⟨hf.to ⟨rfl,rfl,rfl,rfl,(by first | rfl | exact congrArg some (congrArg (Value.int _) (by omega))),(by first | rfl | exact congrArg some (congrArg (Value.int _) (by omega))),trivial⟩,hS,?_,?_,?_⟩
          · omega
          · rfl
          · omega
        clear hf hS a
        rintro ⟨p,n⟩ a w ⟨hf,hS,hp,hn,hnb⟩
        refine W.seq ?_
        refine W.seq ?_
        refine W.regionL (l:=[0,1,2,3]) rfl ?_
        refine O.val hf rfl rfl rfl (RunV.move rfl) ?_
        clear hf a; intro a hf
        refine O.val hf rfl rfl rfl (RunV.move rfl) ?_
        clear hf a; intro a hf
        refine O.val hf rfl rfl rfl (RunV.lenV (e:=46) (by simpa using T_elem_39) rfl (hS.slr (j:=2) rfl)) ?_
        clear hf a; intro a hf
        refine O.val (v:=.bool (decide ((p:Int)<((xs1.length:Int):Int)))) hf rfl rfl rfl (RunV.lss rfl rfl) ?_
        clear hf a; intro a hf
        refine O.nil ?_
        refine k_seq ?_
        replace hf:Fr a 186 [] [(6,.bool false),(7,.bool true),(18,va1),(20,va2),(22,.int .i64 (n:Int)),(23,.int .i64 (p:Int)),(158,.bool (decide ((p:Int)<((xs1.length:Int):Int))))]:=hf.to ⟨rfl,rfl,rfl,rfl,rfl,rfl,rfl,trivial⟩
        refine W.ifdI hf rfl (fun hpl=>?_) (fun hpl=>?_)
        · refine W.skip ?_
          refine k_seq ?_
          refine W.seq ?_
          refine W.block ?_
          refine W.seq ?_
          refine W.regionL (l:=[0]) rfl ?_
          refine O.val hf rfl rfl rfl (RunV.assign rfl) ?_
          clear hf a; intro a hf
          refine O.nil ?_
          refine k_seq ?_
          refine W.block ?_
          refine W.loop (G:=(Nat) × (Nat)) (fun g a w=>match g with | (q,m)=>Fr a 186 [] [(6,.bool false),(7,.bool true),(18,va1),(20,va2),(22,.int .i64 (m:Int)),(23,.int .i64 (p:Int)),(24,.int .i64 (q:Int))]∧St w0 w noX [ordA,rdv 12 vl l.length (encs eC l)] [sl 46 6 va2 xs2.length (encs eO xs2),bigA (xs2.map obA),sl 46 6 va1 xs1.length (encs eO xs1),bigA (xs1.map obA),pt b_v32 (.cells #[.int .i64 (((sortDs z.1).getD 0 default).num),.int .i64 (((sortDs z.1).getD 0 default).yr),.int .u8 (((sortDs z.1).getD 0 default).half),.int .u8 (((sortDs z.1).getD 0 default).sec),.int .i64 (((sortDs z.1).getD 0 default).cyc),zw] 46 (0,0)),sl 24 5 zw ((sortDs z.1).length) (encs eD (sortDs z.1)),pt b_z29 (.cells #[.int .i64 (((sortDs z.1).getD 0 default).num),.int .i64 (((sortDs z.1).getD 0 default).yr),.int .u8 (((sortDs z.1).getD 0 default).half),.int .u8 (((sortDs z.1).getD 0 default).sec),.int .i64 (((sortDs z.1).getD 0 default).cyc),zv] 46 (0,0)),sl 24 5 zv ((sortDs z.1).length) (encs eD (sortDs z.1)),sl 26 12 am ((l++[joinC da db]).length) (encs eC (l++[joinC da db])),pt b_y21 (.cells #[.int .i64 (((sortDs y.1).getD 0 default).num),.int .i64 (((sortDs y.1).getD 0 default).yr),.int .u8 (((sortDs y.1).getD 0 default).half),.int .u8 (((sortDs y.1).getD 0 default).sec),.int .i64 (((sortDs y.1).getD 0 default).cyc),yv] 46 (0,0)),sl 24 5 yv ((sortDs y.1).length) (encs eD (sortDs y.1)),pt b_x15 (.cells #[.int .i64 (((sortDs x.1).getD 0 default).num),.int .i64 (((sortDs x.1).getD 0 default).yr),.int .u8 (((sortDs x.1).getD 0 default).half),.int .u8 (((sortDs x.1).getD 0 default).sec),.int .i64 (((sortDs x.1).getD 0 default).cyc),xv] 46 (0,0)),sl 24 5 xv ((sortDs x.1).length) (encs eD (sortDs x.1)),pt b_b2 (.cells #[.int .i64 db.num,.int .i64 db.yr,.int .u8 db.half,.int .u8 db.sec,.int .i64 db.cyc] 24 (0,0)),pt b_a1 (.cells #[.int .i64 da.num,.int .i64 da.yr,.int .u8 da.half,.int .u8 da.sec,.int .i64 da.cyc] 24 (0,0))]∧(q≤xs2.length)∧(m=n+((xs2.map prO).take q).count (prO (xs1.getD p default)))∧(m≤501*p+q)) (fun g=>match g with | (q,m)=>xs2.length-q) (0,n) ?_ ?_
          · refine ⟨hf.to ⟨rfl,rfl,rfl,rfl,(by first | rfl | exact congrArg some (congrArg (Value.int _) (by omega))),rfl,(by first | rfl | exact congrArg some (congrArg (Value.int _) (by omega))),trivial⟩,hS,?_,?_,?_⟩
            · omega
            · simp
            · omega
          clear hf hS a
          rintro ⟨q,m⟩ a w ⟨hf,hS,hq,hm_,hmb⟩
          refine W.seq ?_
          refine W.seq ?_
          refine W.regionL (l:=[0,1,2,3]) rfl ?_
          refine O.val hf rfl rfl rfl (RunV.move rfl) ?_
          clear hf a; intro a hf
          refine O.val hf rfl rfl rfl (RunV.move rfl) ?_
          clear hf a; intro a hf
          refine O.val hf rfl rfl rfl (RunV.lenV (e:=46) (by simpa using T_elem_39) rfl (hS.slr (j:=0) rfl)) ?_
          clear hf a; intro a hf
          refine O.val (v:=.bool (decide ((q:Int)<((xs2.length:Int):Int)))) hf rfl rfl rfl (RunV.lss rfl rfl) ?_
          clear hf a; intro a hf
          refine O.nil ?_
          refine k_seq ?_
          replace hf:Fr a 186 [] [(6,.bool false),(7,.bool true),(18,va1),(20,va2),(22,.int .i64 (m:Int)),(23,.int .i64 (p:Int)),(24,.int .i64 (q:Int)),(164,.bool (decide ((q:Int)<((xs2.length:Int):Int))))]:=hf.to ⟨rfl,rfl,rfl,rfl,rfl,rfl,rfl,rfl,trivial⟩
          refine W.ifdI hf rfl (fun hql=>?_) (fun hql=>?_)
          · refine W.skip ?_
            refine k_seq ?_
            refine W.seq ?_
            refine W.block ?_
            refine W.seq ?_
            refine W.drawQ (fun w=>St w0 w noX [ordA,rdv 12 vl l.length (encs eC l)] [sl 46 6 va2 xs2.length (encs eO xs2),bigA (xs2.map obA),sl 46 6 va1 xs1.length (encs eO xs1),bigA (xs1.map obA),pt b_v32 (.cells #[.int .i64 (((sortDs z.1).getD 0 default).num),.int .i64 (((sortDs z.1).getD 0 default).yr),.int .u8 (((sortDs z.1).getD 0 default).half),.int .u8 (((sortDs z.1).getD 0 default).sec),.int .i64 (((sortDs z.1).getD 0 default).cyc),zw] 46 (0,0)),sl 24 5 zw ((sortDs z.1).length) (encs eD (sortDs z.1)),pt b_z29 (.cells #[.int .i64 (((sortDs z.1).getD 0 default).num),.int .i64 (((sortDs z.1).getD 0 default).yr),.int .u8 (((sortDs z.1).getD 0 default).half),.int .u8 (((sortDs z.1).getD 0 default).sec),.int .i64 (((sortDs z.1).getD 0 default).cyc),zv] 46 (0,0)),sl 24 5 zv ((sortDs z.1).length) (encs eD (sortDs z.1)),sl 26 12 am ((l++[joinC da db]).length) (encs eC (l++[joinC da db])),pt b_y21 (.cells #[.int .i64 (((sortDs y.1).getD 0 default).num),.int .i64 (((sortDs y.1).getD 0 default).yr),.int .u8 (((sortDs y.1).getD 0 default).half),.int .u8 (((sortDs y.1).getD 0 default).sec),.int .i64 (((sortDs y.1).getD 0 default).cyc),yv] 46 (0,0)),sl 24 5 yv ((sortDs y.1).length) (encs eD (sortDs y.1)),pt b_x15 (.cells #[.int .i64 (((sortDs x.1).getD 0 default).num),.int .i64 (((sortDs x.1).getD 0 default).yr),.int .u8 (((sortDs x.1).getD 0 default).half),.int .u8 (((sortDs x.1).getD 0 default).sec),.int .i64 (((sortDs x.1).getD 0 default).cyc),xv] 46 (0,0)),sl 24 5 xv ((sortDs x.1).length) (encs eD (sortDs x.1)),pt b_b2 (.cells #[.int .i64 db.num,.int .i64 db.yr,.int .u8 db.half,.int .u8 db.sec,.int .i64 db.cyc] 24 (0,0)),pt b_a1 (.cells #[.int .i64 da.num,.int .i64 da.yr,.int .u8 da.half,.int .u8 da.sec,.int .i64 da.cyc] 24 (0,0))]) P_mixed rfl (by kernel_rfl) rfl hS.drew ?_
            clear hS
            refine OQ.val (v:=va1) hf rfl (fun w hS=>RunV.move rfl) ?_; clear hf a; intro a hf
            refine OQ.val (v:=.int .i64 (p:Int)) hf rfl (fun w hS=>RunV.move rfl) ?_; clear hf a; intro a hf
            refine OQ.val (v:=ix va1 (p*6)) hf rfl (fun w hS=>RunV.ixV (j:=p) (m:=p*6) T_elem_39 T_size_46 rfl rfl (hS.slr (j:=2) rfl) rfl (by omega) rfl) ?_; clear hf a; intro a hf
            refine OQ.val (v:=.agg #[.int .i64 ((xs1.getD p default).p.num),.int .i64 ((xs1.getD p default).p.yr),.int .u8 ((xs1.getD p default).p.half),.int .u8 ((xs1.getD p default).p.sec),.int .i64 ((xs1.getD p default).p.cyc),(xs1.getD p default).v]) hf rfl (fun w hS=>RunV.ldG (j:=p) (enc:=eO) (l:=xs1) (us:=[.int .i64 ((xs1.getD p default).p.num),.int .i64 ((xs1.getD p default).p.yr),.int .u8 ((xs1.getD p default).p.half),.int .u8 ((xs1.getD p default).p.sec),.int .i64 ((xs1.getD p default).p.cyc),(xs1.getD p default).v]) T_agg_46 T_size_46 rfl eO_len rfl (hS.slr (j:=2) rfl) (by omega) rfl) ?_; clear hf a; intro a hf
            refine OQ.val (v:=va2) hf rfl (fun w hS=>RunV.move rfl) ?_; clear hf a; intro a hf
            refine OQ.val (v:=.int .i64 (q:Int)) hf rfl (fun w hS=>RunV.move rfl) ?_; clear hf a; intro a hf
            refine OQ.val (v:=ix va2 (q*6)) hf rfl (fun w hS=>RunV.ixV (j:=q) (m:=q*6) T_elem_39 T_size_46 rfl rfl (hS.slr (j:=0) rfl) rfl (by omega) rfl) ?_; clear hf a; intro a hf
            refine OQ.val (v:=.agg #[.int .i64 ((xs2.getD q default).p.num),.int .i64 ((xs2.getD q default).p.yr),.int .u8 ((xs2.getD q default).p.half),.int .u8 ((xs2.getD q default).p.sec),.int .i64 ((xs2.getD q default).p.cyc),(xs2.getD q default).v]) hf rfl (fun w hS=>RunV.ldG (j:=q) (enc:=eO) (l:=xs2) (us:=[.int .i64 ((xs2.getD q default).p.num),.int .i64 ((xs2.getD q default).p.yr),.int .u8 ((xs2.getD q default).p.half),.int .u8 ((xs2.getD q default).p.sec),.int .i64 ((xs2.getD q default).p.cyc),(xs2.getD q default).v]) T_agg_46 T_size_46 rfl eO_len rfl (hS.slr (j:=0) rfl) (by omega) rfl) ?_; clear hf a; intro a hf
            refine OQ.callRq (v:=.bool (decide ((xs1.getD p default).p=(xs2.getD q default).p∧(xs1.getD p default).l=(xs2.getD q default).l))) hf rfl (fun w hS=>RunE.call (av:=#[.agg #[.int .i64 ((xs1.getD p default).p.num),.int .i64 ((xs1.getD p default).p.yr),.int .u8 ((xs1.getD p default).p.half),.int .u8 ((xs1.getD p default).p.sec),.int .i64 ((xs1.getD p default).p.cyc),(xs1.getD p default).v],.agg #[.int .i64 ((xs2.getD q default).p.num),.int .i64 ((xs2.getD q default).p.yr),.int .u8 ((xs2.getD q default).p.half),.int .u8 ((xs2.getD q default).p.sec),.int .i64 ((xs2.getD q default).p.cyc),(xs2.getD q default).v]]) C_ok_20 rfl rfl rfl) (fun w hS=>sameObject_spec (xs1.getD p default).p (xs2.getD q default).p (xs1.getD p default).v (xs2.getD q default).v (xs1.getD p default).l (xs2.getD q default).l _ ((hS.obOwn (i:=3) rfl).at (by omega)) ((hS.obOwn (i:=1) rfl).at (by omega))) ?_; clear hf a; intro a hf
            refine OQ.nil ?_; intro w hS
            refine k_seq ?_
            replace hf:Fr a 186 [] [(6,.bool false),(7,.bool true),(18,va1),(20,va2),(22,.int .i64 (m:Int)),(23,.int .i64 (p:Int)),(24,.int .i64 (q:Int)),(175,.bool (decide ((xs1.getD p default).p=(xs2.getD q default).p∧(xs1.getD p default).l=(xs2.getD q default).l)))]:=hf.to ⟨rfl,rfl,rfl,rfl,rfl,rfl,rfl,rfl,trivial⟩
            refine W.if_ hf rfl (fun hd=>?_) (fun hd=>?_)
            · have hdb:=hd
              try simp only [Bool.and_eq_true,Bool.or_eq_true,Bool.and_eq_false_iff,Bool.or_eq_false_iff,decide_eq_true_eq,decide_eq_false_iff_not,Bool.not_eq_true',Bool.not_eq_false',Bool.not_eq_true,Bool.not_eq_false,ne_eq] at hd
              refine W.regionL (l:=[0,1,2]) rfl ?_
              refine O.val hf rfl rfl rfl (RunV.move rfl) ?_
              clear hf a; intro a hf
              refine O.val hf rfl rfl rfl (RunV.addI rfl rfl (by omega)) ?_
              clear hf a; intro a hf
              refine O.val hf rfl rfl rfl (RunV.assign rfl) ?_
              clear hf a; intro a hf
              refine O.nil ?_
              refine k_blk_normal ?_
              refine k_seq ?_
              replace hf:Fr a 186 [] [(6,.bool false),(7,.bool true),(18,va1),(20,va2),(22,.int .i64 ((m:Int)+1)),(23,.int .i64 (p:Int)),(24,.int .i64 (q:Int))]:=hf.to ⟨rfl,rfl,rfl,rfl,rfl,rfl,rfl,trivial⟩
              refine W.regionL (l:=[0,1,2]) rfl ?_
              refine O.val hf rfl rfl rfl (RunV.move rfl) ?_
              clear hf a; intro a hf
              refine O.val hf rfl rfl rfl (RunV.addI rfl rfl (by omega)) ?_
              clear hf a; intro a hf
              refine O.val hf rfl rfl rfl (RunV.assign rfl) ?_
              clear hf a; intro a hf
              refine O.nil ?_
              refine k_then ⟨(q+1,m+1),⟨hf.to ⟨rfl,rfl,rfl,rfl,(by first | rfl | exact congrArg some (congrArg (Value.int _) (by omega))),rfl,(by first | rfl | exact congrArg some (congrArg (Value.int _) (by omega))),trivial⟩,?_,?_,?_,?_⟩,?_⟩
              · exact hS.eqM rfl
              · omega
              · rw [hm_,cnt_row (by omega) rfl hdb]; simp only [if_true]; omega
              · omega
              · dsimp only; omega
            · have hdb:=hd
              try simp only [Bool.and_eq_true,Bool.or_eq_true,Bool.and_eq_false_iff,Bool.or_eq_false_iff,decide_eq_true_eq,decide_eq_false_iff_not,Bool.not_eq_true',Bool.not_eq_false',Bool.not_eq_true,Bool.not_eq_false,ne_eq] at hd
              refine W.skip ?_
              refine k_blk_normal ?_
              refine k_seq ?_
              refine W.regionL (l:=[0,1,2]) rfl ?_
              refine O.val hf rfl rfl rfl (RunV.move rfl) ?_
              clear hf a; intro a hf
              refine O.val hf rfl rfl rfl (RunV.addI rfl rfl (by omega)) ?_
              clear hf a; intro a hf
              refine O.val hf rfl rfl rfl (RunV.assign rfl) ?_
              clear hf a; intro a hf
              refine O.nil ?_
              refine k_then ⟨(q+1,m),⟨hf.to ⟨rfl,rfl,rfl,rfl,(by first | rfl | exact congrArg some (congrArg (Value.int _) (by omega))),rfl,(by first | rfl | exact congrArg some (congrArg (Value.int _) (by omega))),trivial⟩,?_,?_,?_,?_⟩,?_⟩
              · exact hS.eqM rfl
              · omega
              · rw [hm_,cnt_row (by omega) rfl hdb]; simp
              · omega
              · dsimp only; omega
          · refine W.exit ?_
            refine k_then_exit ?_
            refine k_then_exit ?_
            refine k_blk ?_
            refine k_blk_normal ?_
            refine k_seq ?_
            refine W.regionL (l:=[0,1,2]) rfl ?_
            refine O.val hf rfl rfl rfl (RunV.move rfl) ?_
            clear hf a; intro a hf
            refine O.val hf rfl rfl rfl (RunV.addI rfl rfl (by omega)) ?_
            clear hf a; intro a hf
            refine O.val hf rfl rfl rfl (RunV.assign rfl) ?_
            clear hf a; intro a hf
            refine O.nil ?_
            refine k_then ⟨(p+1,m),⟨hf.to ⟨rfl,rfl,rfl,rfl,(by first | rfl | exact congrArg some (congrArg (Value.int _) (by omega))),(by first | rfl | exact congrArg some (congrArg (Value.int _) (by omega))),trivial⟩,?_,?_,?_,?_⟩,?_⟩
            · exact hS.eqM rfl
            · omega
            · rw [cntP_step (by rw [List.length_map]; omega),← hn,prO_getD (by omega),hm_,List.take_of_length_le (by rw [List.length_map]; omega)]
            · omega
            · dsimp only; omega
        · refine W.exit ?_
          refine k_then_exit ?_
          refine k_then_exit ?_
          refine k_blk ?_
          refine k_seq ?_
          replace hf:Fr a 186 [] [(6,.bool false),(7,.bool true),(20,va2),(22,.int .i64 (n:Int))]:=hf.to ⟨rfl,rfl,rfl,rfl,trivial⟩
          refine W.seq ?_
          refine W.regionL (l:=[0,1,2,3,4,5,6,7,8]) rfl ?_
          refine O.val hf rfl rfl rfl (RunV.move rfl) ?_
          clear hf a; intro a hf
          refine O.val hf rfl rfl rfl (RunV.move rfl) ?_
          clear hf a; intro a hf
          refine O.gvalB (v:=.int .i64 (n:Int)) hf rfl rfl rfl rfl rfl rfl (RunV.move rfl) ?_
          clear hf a; intro a hf
          refine O.gvalB (v:=va2) hf rfl rfl rfl rfl rfl rfl (RunV.move rfl) ?_
          clear hf a; intro a hf
          refine O.gvalB (v:=.int .i64 (xs2.length:Int)) hf rfl rfl rfl rfl rfl rfl (RunV.lenV (e:=46) (by simpa using T_elem_39) rfl (hS.slr (j:=0) rfl)) ?_
          clear hf a; intro a hf
          refine O.gvalB (v:=.int .i64 ((xs2.length:Int)-1)) hf rfl rfl rfl rfl rfl rfl (RunV.subI rfl rfl (by omega)) ?_
          clear hf a; intro a hf
          refine O.gvalB (v:=.bool (decide ((n:Int)=((xs2.length:Int)-1:Int)))) hf rfl rfl rfl rfl rfl rfl (RunV.eql rfl rfl) ?_
          clear hf a; intro a hf
          refine O.val (v:=.bool (decide ((n:Int)=((xs2.length:Int)-1:Int)))) hf rfl rfl rfl (RunV.pick rfl rfl rfl rfl) ?_
          clear hf a; intro a hf
          refine O.val hf rfl rfl rfl (RunV.assign rfl) ?_
          clear hf a; intro a hf
          refine O.nil ?_
          refine k_seq ?_
          replace hf:Fr a 186 [] [(6,.bool (decide ((n:Int)=((xs2.length:Int)-1:Int))))]:=hf.to ⟨rfl,trivial⟩
          refine W.ret ?_
          refine post1 hf rfl (ResOK.tmp rfl) ?_
          exact ⟨(),congrArg (fun b=>Ending.returned (Value.bool b)) (decide_eq_true (by rw [hlen2,← hR.cnt,← hxs1,← hxs2,← cntP_all (p:=p) (by rw [List.length_map]; omega),← hn]; omega)),hS.sub (List.nil_sublist _) |>.noB⟩
theorem joined_spec (vl:Value) (l:List Ch) (a b:Dg) (w0:World) (hG:Lent w0 ordA) (hl:rdOK (hp w0) 12 vl l.length (encs eC l)) (hfit:vfit vl) :
    Ret Tryd.prog 8 #[vl,dV a,dV b] w0 (G:=Unit) (fun _=>.bool true) (fun _ w=>St w0 w noX [] []):=by
  cases h:(greatM l.length||decide ((l.length:Int)>25)) with
  | true=>exact joined_out vl l a b w0 hG hl hfit h
  | false =>
    simp only [Bool.or_eq_false_iff,decide_eq_false_iff_not] at h
    exact joined_in vl l a b w0 hG hl hfit (by omega)
end Go.Proofs.YtgakdmmmljdpjaaDoor
