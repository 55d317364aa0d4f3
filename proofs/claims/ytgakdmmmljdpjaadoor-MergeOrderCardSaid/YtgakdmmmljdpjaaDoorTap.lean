/- Part of a proof: laws and walks. -/
import Derived.Test.YtgakdmmmljdpjaaDoorTao
set_option linter.unusedVariables false
set_option linter.unusedSimpArgs false
namespace Go.Proofs.YtgakdmmmljdpjaaDoor
open Go Go.SL
theorem C_ok_15:callOK Tryd.prog 15=true:=by kernel_rfl
theorem T_agg_42:tAgg Tryd.prog 42=some true:=by kernel_rfl
theorem T_arr_42:tArr Tryd.prog 42=some (2,3):=by kernel_rfl
theorem T_elem_36:tElem Tryd.prog 36=some 42:=by kernel_rfl
theorem T_size_42:tSize Tryd.prog 42=some 2:=by kernel_rfl
theorem T_zero_42:tZero Tryd.prog 42=some (.agg #[.int .i64 0,.int .i64 0]):=by kernel_rfl
set_option maxHeartbeats 400000 in
set_option maxRecDepth 4000 in
theorem order_out (vl:Value) (l:List Dg) (vp:Value) (ps:List (Int × Int)) (w0:World) (hG:Lent w0 ordA) (hl:rdOK (hp w0) 5 vl l.length (encs eD l)) (hq:rdOK (hp w0) 2 vp ps.length (encs eP ps)) (hr:∀ d ∈ l,rD d) (hout:(decide ((l.length:Int)>10)||decide ((ps.length:Int)>10))=true) :
    Ret Tryd.prog 4 #[vl,vp] w0 (G:=Unit) (fun _=>.bool true) (fun _ w=>St w0 w noX [] []):=by
  refine ret_of_W (lv:=[vl,vp]) Tryd.func4 rfl rfl rfl (fun a hf=>?_)
  replace hf:Fr a 246 [] [(0,vl),(1,vp)]:=hf
  have hS:St w0 w0 noX [ordA,rdv 5 vl l.length (encs eD l),rdv 2 vp ps.length (encs eP ps)] []:=(((St.refl w0).lend0 hq).lend0 hl).lendA hG
  have hlm:=hl.2.1
  have hqm:=hq.2.1
  unfold maxLen at hlm hqm
  refine W.seq ?_
  refine W.regionL (l:=[0]) rfl ?_
  refine O.val hf rfl rfl rfl (RunV.assign rfl) ?_
  clear hf a; intro a hf
  refine O.nil ?_
  refine k_seq ?_
  refine W.seq ?_
  refine W.regionL (l:=[0,1]) rfl ?_
  refine O.callR hf rfl rfl rfl (RunE.call (av:=#[]) C_ok_14 rfl rfl rfl) (alive_spec _ (hS.bptO (i:=0) rfl)) ?_
  clear hf a
  rintro _ w1 hS1 a hf
  replace hf:Fr a _ _ ((23,.bool true)::_):=hf
  replace hS:=(hS.call hS1).eqM (N:=[]) rfl
  clear hS1
  refine O.val hf rfl rfl rfl (RunV.assign rfl) ?_
  clear hf a; intro a hf
  refine O.nil ?_
  refine k_seq ?_
  replace hf:Fr a 246 [] [(0,vl),(1,vp),(4,.bool false),(5,.bool true)]:=hf.to ⟨rfl,rfl,rfl,rfl,trivial⟩
  refine W.seq ?_
  refine W.seq ?_
  refine W.regionL (l:=[0,1,2,3,4,5,6,7,8,9,10,11]) rfl ?_
  refine O.val hf rfl rfl rfl (RunV.move rfl) ?_
  clear hf a; intro a hf
  refine O.val hf rfl rfl rfl (RunV.lenV (e:=24) (by simpa using T_elem_35) rfl (hS.rdAt (j:=1) rfl)) ?_
  clear hf a; intro a hf
  refine O.val (v:=.bool (decide ((l.length:Int)>(10:Int)))) hf rfl rfl rfl (RunV.gtr rfl rfl) ?_
  clear hf a; intro a hf
  refine O.val hf rfl rfl rfl (RunV.move rfl) ?_
  clear hf a; intro a hf
  refine O.cutN (l₁:=[4,5,6,7]) (l₂:=_) (fun a w=>Fr a 246 [] [(0,vl),(1,vp),(4,.bool false),(5,.bool true),(24,vl),(25,.int .i64 (l.length:Int)),(26,.bool (decide ((l.length:Int)>(10:Int)))),(27,.bool (decide ((l.length:Int)>(10:Int)))),(31,.bool ((decide ((l.length:Int)>(10:Int)))||(decide ((ps.length:Int)>(10:Int)))))]∧St w0 w noX [ordA,rdv 5 vl l.length (encs eD l),rdv 2 vp ps.length (encs eP ps)] []) rfl ?_ ?_
  · rcases Bool.eq_false_or_eq_true (decide ((l.length:Int)>(10:Int))) with hb2 | hb2
    · have hb2p:=of_decide_eq_true hb2
      refine O.skipB hf rfl rfl rfl hb2 rfl ?_; clear hf a; intro a hf
      refine O.skipB hf rfl rfl rfl hb2 rfl ?_; clear hf a; intro a hf
      refine O.skipB hf rfl rfl rfl hb2 rfl ?_; clear hf a; intro a hf
      refine O.val (v:=.bool ((decide ((l.length:Int)>(10:Int)))||(decide ((ps.length:Int)>(10:Int))))) hf rfl rfl rfl (RunV.pick rfl rfl rfl (by rw [hb2]; rfl)) ?_; clear hf a; intro a hf
      exact O.nil ⟨rfl,hf.to ⟨rfl,rfl,rfl,rfl,rfl,rfl,rfl,rfl,rfl,trivial⟩,hS⟩
    · have hb2p:=of_decide_eq_false hb2
      refine O.gvalB (v:=vp) hf rfl rfl rfl hb2 rfl rfl (RunV.move rfl) ?_
      clear hf a; intro a hf
      refine O.gvalB (v:=.int .i64 (ps.length:Int)) hf rfl rfl rfl hb2 rfl rfl (RunV.lenV (e:=42) (by simpa using T_elem_36) rfl (hS.rdAt (j:=2) rfl)) ?_
      clear hf a; intro a hf
      refine O.gvalB (v:=.bool (decide ((ps.length:Int)>(10:Int)))) hf rfl rfl rfl hb2 rfl rfl (RunV.gtr rfl rfl) ?_
      clear hf a; intro a hf
      refine O.val (v:=.bool ((decide ((l.length:Int)>(10:Int)))||(decide ((ps.length:Int)>(10:Int))))) hf rfl rfl rfl (RunV.pick rfl rfl rfl (by rw [hb2]; rfl)) ?_; clear hf a; intro a hf
      exact O.nil ⟨rfl,hf.to ⟨rfl,rfl,rfl,rfl,rfl,rfl,rfl,rfl,rfl,trivial⟩,hS⟩
  clear hf hS a; rintro a w ⟨hf,hS⟩
  refine O.val hf rfl rfl rfl (RunV.move rfl) ?_
  clear hf a; intro a hf
  refine O.cutN (l₁:=[9,10,11]) (l₂:=_) (fun a w=>Fr a 246 [] [(0,vl),(1,vp),(4,.bool false),(5,.bool true),(24,vl),(25,.int .i64 (l.length:Int)),(26,.bool (decide ((l.length:Int)>(10:Int)))),(27,.bool (decide ((l.length:Int)>(10:Int)))),(31,.bool ((decide ((l.length:Int)>(10:Int)))||(decide ((ps.length:Int)>(10:Int))))),(32,.bool ((decide ((l.length:Int)>(10:Int)))||(decide ((ps.length:Int)>(10:Int))))),(35,.bool (((decide ((l.length:Int)>(10:Int)))||(decide ((ps.length:Int)>(10:Int))))||false))]∧St w0 w noX [ordA,rdv 5 vl l.length (encs eD l),rdv 2 vp ps.length (encs eP ps)] []) rfl ?_ ?_
  · rcases Bool.eq_false_or_eq_true ((decide ((l.length:Int)>(10:Int)))||(decide ((ps.length:Int)>(10:Int)))) with hb3 | hb3
    · have hb3p:=hb3
      try simp only [Bool.and_eq_true,Bool.or_eq_true,Bool.and_eq_false_iff,Bool.or_eq_false_iff,decide_eq_true_eq,decide_eq_false_iff_not,Bool.not_eq_true',Bool.not_eq_false',Bool.not_eq_true,Bool.not_eq_false,ne_eq] at hb3p
      refine O.skipB hf rfl rfl rfl hb3 rfl ?_; clear hf a; intro a hf
      refine O.skipB hf rfl rfl rfl hb3 rfl ?_; clear hf a; intro a hf
      refine O.val (v:=.bool (((decide ((l.length:Int)>(10:Int)))||(decide ((ps.length:Int)>(10:Int))))||false)) hf rfl rfl rfl (RunV.pick rfl rfl rfl (by rw [hb3]; rfl)) ?_; clear hf a; intro a hf
      exact O.nil ⟨rfl,hf.to ⟨rfl,rfl,rfl,rfl,rfl,rfl,rfl,rfl,rfl,rfl,rfl,trivial⟩,hS⟩
    · have hb3p:=hb3
      try simp only [Bool.and_eq_true,Bool.or_eq_true,Bool.and_eq_false_iff,Bool.or_eq_false_iff,decide_eq_true_eq,decide_eq_false_iff_not,Bool.not_eq_true',Bool.not_eq_false',Bool.not_eq_true,Bool.not_eq_false,ne_eq] at hb3p
      refine O.gvalB (v:=.bool true) hf rfl rfl rfl hb3 rfl rfl (RunV.move rfl) ?_
      clear hf a; intro a hf
      refine O.gvalB (v:=.bool false) hf rfl rfl rfl hb3 rfl rfl (RunV.not (b:=true) rfl) ?_
      clear hf a; intro a hf
      refine O.val (v:=.bool (((decide ((l.length:Int)>(10:Int)))||(decide ((ps.length:Int)>(10:Int))))||false)) hf rfl rfl rfl (RunV.pick rfl rfl rfl (by rw [hb3]; rfl)) ?_; clear hf a; intro a hf
      exact O.nil ⟨rfl,hf.to ⟨rfl,rfl,rfl,rfl,rfl,rfl,rfl,rfl,rfl,rfl,rfl,trivial⟩,hS⟩
  clear hf hS a; rintro a w ⟨hf,hS⟩
  refine O.nil ?_
  refine k_seq ?_
  replace hf:Fr a 246 [] [(0,vl),(1,vp),(4,.bool false),(5,.bool true),(35,.bool (((decide ((l.length:Int)>(10:Int)))||(decide ((ps.length:Int)>(10:Int))))||false))]:=hf.to ⟨rfl,rfl,rfl,rfl,rfl,trivial⟩
  have hbc:(((decide ((l.length:Int)>(10:Int)))||(decide ((ps.length:Int)>(10:Int))))||false)=true:=(by rw [Bool.or_false]; exact hout)
  simp only [hbc] at hf; clear hbc
  refine W.if_tt hf rfl ?_
  refine W.seq ?_
  refine W.regionL (l:=[0,1]) rfl ?_
  refine O.val hf rfl rfl rfl (RunV.move rfl) ?_
  clear hf a; intro a hf
  refine O.val hf rfl rfl rfl (RunV.assign rfl) ?_
  clear hf a; intro a hf
  refine O.nil ?_
  refine k_seq ?_
  replace hf:Fr a 246 [] [(0,vl),(1,vp),(4,.bool true),(5,.bool true)]:=hf.to ⟨rfl,rfl,rfl,rfl,trivial⟩
  refine W.ret ?_
  refine k_then_ret ?_
  refine post1 hf rfl (ResOK.tmp rfl) ?_
  exact ⟨(),rfl,hS.sub (List.nil_sublist _) |>.noB⟩
set_option maxHeartbeats 4000000 in
set_option maxRecDepth 4000 in
theorem order_in (vl:Value) (l:List Dg) (vp:Value) (ps:List (Int × Int)) (w0:World) (hG:Lent w0 ordA) (hl:rdOK (hp w0) 5 vl l.length (encs eD l)) (hq:rdOK (hp w0) 2 vp ps.length (encs eP ps)) (hr:∀ d ∈ l,rD d) (hl10:l.length≤10) (hp10:ps.length≤10) :
    Ret Tryd.prog 4 #[vl,vp] w0 (G:=Unit) (fun _=>.bool true) (fun _ w=>St w0 w noX [] []):=by
  refine ret_of_W (lv:=[vl,vp]) Tryd.func4 rfl rfl rfl (fun a hf=>?_)
  replace hf:Fr a 246 [] [(0,vl),(1,vp)]:=hf
  have hS:St w0 w0 noX [ordA,rdv 5 vl l.length (encs eD l),rdv 2 vp ps.length (encs eP ps)] []:=(((St.refl w0).lend0 hq).lend0 hl).lendA hG
  have hlm:=hl.2.1
  have hqm:=hq.2.1
  unfold maxLen at hlm hqm
  refine W.seq ?_
  refine W.regionL (l:=[0]) rfl ?_
  refine O.val hf rfl rfl rfl (RunV.assign rfl) ?_
  clear hf a; intro a hf
  refine O.nil ?_
  refine k_seq ?_
  refine W.seq ?_
  refine W.regionL (l:=[0,1]) rfl ?_
  refine O.callR hf rfl rfl rfl (RunE.call (av:=#[]) C_ok_14 rfl rfl rfl) (alive_spec _ (hS.bptO (i:=0) rfl)) ?_
  clear hf a
  rintro _ w1 hS1 a hf
  replace hf:Fr a _ _ ((23,.bool true)::_):=hf
  replace hS:=(hS.call hS1).eqM (N:=[]) rfl
  clear hS1
  refine O.val hf rfl rfl rfl (RunV.assign rfl) ?_
  clear hf a; intro a hf
  refine O.nil ?_
  refine k_seq ?_
  replace hf:Fr a 246 [] [(0,vl),(1,vp),(4,.bool false),(5,.bool true)]:=hf.to ⟨rfl,rfl,rfl,rfl,trivial⟩
  refine W.seq ?_
  refine W.seq ?_
  refine W.regionL (l:=[0,1,2,3,4,5,6,7,8,9,10,11]) rfl ?_
  refine O.val hf rfl rfl rfl (RunV.move rfl) ?_
  clear hf a; intro a hf
  refine O.val hf rfl rfl rfl (RunV.lenV (e:=24) (by simpa using T_elem_35) rfl (hS.rdAt (j:=1) rfl)) ?_
  clear hf a; intro a hf
  refine O.val (v:=.bool (decide ((l.length:Int)>(10:Int)))) hf rfl rfl rfl (RunV.gtr rfl rfl) ?_
  clear hf a; intro a hf
  refine O.val hf rfl rfl rfl (RunV.move rfl) ?_
  clear hf a; intro a hf
  have hbg:(decide ((l.length:Int)>(10:Int)))=false:=decide_eq_false (by omega)
  simp only [hbg] at hf; clear hbg
  refine O.gvalB (v:=vp) hf rfl rfl rfl rfl rfl rfl (RunV.move rfl) ?_
  clear hf a; intro a hf
  refine O.gvalB (v:=.int .i64 (ps.length:Int)) hf rfl rfl rfl rfl rfl rfl (RunV.lenV (e:=42) (by simpa using T_elem_36) rfl (hS.rdAt (j:=2) rfl)) ?_
  clear hf a; intro a hf
  refine O.gvalB (v:=.bool (decide ((ps.length:Int)>(10:Int)))) hf rfl rfl rfl rfl rfl rfl (RunV.gtr rfl rfl) ?_
  clear hf a; intro a hf
  refine O.val (v:=.bool (decide ((ps.length:Int)>(10:Int)))) hf rfl rfl rfl (RunV.pick rfl rfl rfl rfl) ?_
  clear hf a; intro a hf
  refine O.val hf rfl rfl rfl (RunV.move rfl) ?_
  clear hf a; intro a hf
  have hbg:(decide ((ps.length:Int)>(10:Int)))=false:=decide_eq_false (by omega)
  simp only [hbg] at hf; clear hbg
  refine O.gvalB (v:=.bool true) hf rfl rfl rfl rfl rfl rfl (RunV.move rfl) ?_
  clear hf a; intro a hf
  refine O.gvalB (v:=.bool false) hf rfl rfl rfl rfl rfl rfl (RunV.not (b:=true) rfl) ?_
  clear hf a; intro a hf
  refine O.val (v:=.bool false) hf rfl rfl rfl (RunV.pick rfl rfl rfl rfl) ?_
  clear hf a; intro a hf
  refine O.nil ?_
  refine k_seq ?_
  replace hf:Fr a 246 [] [(0,vl),(1,vp),(4,.bool false),(5,.bool true),(35,.bool false)]:=hf.to ⟨rfl,rfl,rfl,rfl,rfl,trivial⟩
  refine W.if_ff hf rfl ?_
  refine W.skip ?_
  refine k_seq ?_
  replace hf:Fr a 246 [] [(0,vl),(1,vp),(4,.bool false),(5,.bool true)]:=hf.to ⟨rfl,rfl,rfl,rfl,trivial⟩
  refine W.seq ?_
  refine W.regionL (l:=[0,1,2]) rfl ?_
  refine O.val hf rfl rfl rfl (RunV.assign rfl) ?_
  clear hf a; intro a hf
  refine O.val hf rfl rfl rfl (RunV.assign rfl) ?_
  clear hf a; intro a hf
  refine O.val hf rfl rfl rfl (RunV.assign rfl) ?_
  clear hf a; intro a hf
  refine O.nil ?_
  refine k_seq ?_
  refine W.seq ?_
  refine W.seq ?_
  refine W.regionL (l:=[0]) rfl ?_
  refine O.val hf rfl rfl rfl (RunV.assign rfl) ?_
  clear hf a; intro a hf
  refine O.nil ?_
  refine k_seq ?_
  refine W.block ?_
  replace hS:=hS.nilSl 26 12
  replace hS:St w0 _ noX [ordA,rdv 5 vl l.length (encs eD l),rdv 2 vp ps.length (encs eP ps)] [sl 26 12 (.slice none 0 0) (([]:List Ch).length) (encs eC ([]:List Ch))]:=hS
  refine W.loop (G:=(Nat) × (List Ch) × (Value)) (fun g a w=>match g with | (i,bl,bv)=>Fr a 246 [] [(0,vl),(1,vp),(5,.bool true),(6,bv),(7,.slice none 0 0),(8,.slice none 0 0),(9,.int .i64 (i:Int))]∧St w0 w noX [ordA,rdv 5 vl l.length (encs eD l),rdv 2 vp ps.length (encs eP ps)] [sl 26 12 bv bl.length (encs eC bl)]∧(i≤l.length)∧(bl=(l.take i).map addC)∧(∀ d ∈ l.take i,okD d=true∧d.num=0)) (fun g=>match g with | (i,bl,bv)=>l.length-i) (0,[],.slice none 0 0) ?_ ?_
  · refine ⟨hf.to ⟨rfl,rfl,rfl,(by first | rfl | exact congrArg some (congrArg (Value.int _) (by omega))),rfl,rfl,(by first | rfl | exact congrArg some (congrArg (Value.int _) (by omega))),trivial⟩,hS,?_,?_,?_⟩
    · omega
    · rfl
    · intro d hd; simp at hd
  clear hf hS a
  rintro ⟨i,bl,bv⟩ a w ⟨hf,hS,hi,hbl,hok⟩
  refine W.seq ?_
  refine W.seq ?_
  refine W.regionL (l:=[0,1,2,3]) rfl ?_
  refine O.val hf rfl rfl rfl (RunV.move rfl) ?_
  clear hf a; intro a hf
  refine O.val hf rfl rfl rfl (RunV.move rfl) ?_
  clear hf a; intro a hf
  refine O.val hf rfl rfl rfl (RunV.lenV (e:=24) (by simpa using T_elem_35) rfl (hS.rdAt (j:=1) rfl)) ?_
  clear hf a; intro a hf
  refine O.val (v:=.bool (decide ((i:Int)<((l.length:Int):Int)))) hf rfl rfl rfl (RunV.lss rfl rfl) ?_
  clear hf a; intro a hf
  refine O.nil ?_
  refine k_seq ?_
  replace hf:Fr a 246 [] [(0,vl),(1,vp),(5,.bool true),(6,bv),(7,.slice none 0 0),(8,.slice none 0 0),(9,.int .i64 (i:Int)),(40,.bool (decide ((i:Int)<((l.length:Int):Int))))]:=hf.to ⟨rfl,rfl,rfl,rfl,rfl,rfl,rfl,rfl,trivial⟩
  refine W.ifdI hf rfl (fun hc2=>?_) (fun hc2=>?_)
  · refine W.skip ?_
    refine k_seq ?_
    refine W.seq ?_
    refine W.block ?_
    refine W.seq ?_
    refine W.seq ?_
    refine W.regionL (l:=[0,1,2,3,4,5,6,7,8,9,10,11,12,13]) rfl ?_
    refine O.val hf rfl rfl rfl (RunV.move rfl) ?_
    clear hf a; intro a hf
    refine O.val hf rfl rfl rfl (RunV.move rfl) ?_
    clear hf a; intro a hf
    refine O.val hf rfl rfl rfl (RunV.ixV (j:=i) (m:=i*5) T_elem_35 T_size_24 rfl rfl (hS.rdAt (j:=1) rfl) rfl (by omega) rfl) ?_
    clear hf a; intro a hf
    refine O.val hf rfl rfl rfl (RunV.ldG (j:=i) (enc:=eD) (l:=l) (us:=[.int .i64 ((l.getD i default).num),.int .i64 ((l.getD i default).yr),.int .u8 ((l.getD i default).half),.int .u8 ((l.getD i default).sec),.int .i64 ((l.getD i default).cyc)]) T_agg_24 T_size_24 rfl eD_len rfl (hS.rdAt (j:=1) rfl) (by omega) rfl) ?_
    clear hf a; intro a hf
    refine O.callR hf rfl rfl rfl (RunE.call (av:=#[.agg #[.int .i64 ((l.getD i default).num),.int .i64 ((l.getD i default).yr),.int .u8 ((l.getD i default).half),.int .u8 ((l.getD i default).sec),.int .i64 ((l.getD i default).cyc)]]) C_ok_15 rfl rfl rfl) (check28_spec (l.getD i default) _ (hr _ (getD_in (by omega)))) ?_
    clear hf a
    rintro _ w3 hS1 a hf
    replace hf:Fr a _ _ ((47,.int .i64 (if okD (l.getD i default) then 0 else 8))::_):=hf
    replace hS:=(hS.call hS1).eqM (N:=[sl 26 12 bv bl.length (encs eC bl)]) rfl
    clear hS1
    refine O.val (v:=.bool (decide ((if okD (l.getD i default) then 0 else 8)≠(0:Int)))) hf rfl rfl rfl (RunV.neq rfl rfl) ?_
    clear hf a; intro a hf
    refine O.val hf rfl rfl rfl (RunV.move rfl) ?_
    clear hf a; intro a hf
    refine O.cutN (l₁:=[7,8,9,10,11,12,13]) (l₂:=_) (fun a w=>Fr a 246 [] [(0,vl),(1,vp),(5,.bool true),(6,bv),(7,.slice none 0 0),(8,.slice none 0 0),(9,.int .i64 (i:Int)),(43,vl),(44,.int .i64 (i:Int)),(45,ix vl (i*5)),(46,.agg #[.int .i64 ((l.getD i default).num),.int .i64 ((l.getD i default).yr),.int .u8 ((l.getD i default).half),.int .u8 ((l.getD i default).sec),.int .i64 ((l.getD i default).cyc)]),(47,.int .i64 (if okD (l.getD i default) then 0 else 8)),(48,.bool (decide ((if okD (l.getD i default) then 0 else 8)≠(0:Int)))),(49,.bool (decide ((if okD (l.getD i default) then 0 else 8)≠(0:Int)))),(56,.bool ((decide ((if okD (l.getD i default) then 0 else 8)≠(0:Int)))||(decide (((l.getD i default).num)>(0:Int)))))]∧St w0 w noX [ordA,rdv 5 vl l.length (encs eD l),rdv 2 vp ps.length (encs eP ps)] [sl 26 12 bv bl.length (encs eC bl)]) rfl ?_ ?_
    · rcases Bool.eq_false_or_eq_true (decide ((if okD (l.getD i default) then 0 else 8)≠(0:Int))) with hb4 | hb4
      · have hb4p:=of_decide_eq_true hb4
        refine O.skipB hf rfl rfl rfl hb4 rfl ?_; clear hf a; intro a hf
        refine O.skipB hf rfl rfl rfl hb4 rfl ?_; clear hf a; intro a hf
        refine O.skipB hf rfl rfl rfl hb4 rfl ?_; clear hf a; intro a hf
        refine O.skipB hf rfl rfl rfl hb4 rfl ?_; clear hf a; intro a hf
        refine O.skipB hf rfl rfl rfl hb4 rfl ?_; clear hf a; intro a hf
        refine O.skipB hf rfl rfl rfl hb4 rfl ?_; clear hf a; intro a hf
        refine O.val (v:=.bool ((decide ((if okD (l.getD i default) then 0 else 8)≠(0:Int)))||(decide (((l.getD i default).num)>(0:Int))))) hf rfl rfl rfl (RunV.pick rfl rfl rfl (by rw [hb4]; rfl)) ?_; clear hf a; intro a hf
        exact O.nil ⟨rfl,hf.to ⟨rfl,rfl,rfl,rfl,rfl,rfl,rfl,rfl,rfl,rfl,rfl,rfl,rfl,rfl,rfl,trivial⟩,hS⟩
      · have hb4p:=of_decide_eq_false hb4
        refine O.gvalB (v:=vl) hf rfl rfl rfl hb4 rfl rfl (RunV.move rfl) ?_
        clear hf a; intro a hf
        refine O.gvalB (v:=.int .i64 (i:Int)) hf rfl rfl rfl hb4 rfl rfl (RunV.move rfl) ?_
        clear hf a; intro a hf
        refine O.gvalB (v:=ix vl (i*5)) hf rfl rfl rfl hb4 rfl rfl (RunV.ixV (j:=i) (m:=i*5) T_elem_35 T_size_24 rfl rfl (hS.rdAt (j:=1) rfl) rfl (by omega) rfl) ?_
        clear hf a; intro a hf
        refine O.gvalB (v:=ix vl (i*5)) hf rfl rfl rfl hb4 rfl rfl (RunV.ixF T_field_24_0 rfl (hS.rdAt (j:=1) rfl) (by omega) rfl) ?_
        clear hf a; intro a hf
        refine O.gvalB (v:=.int .i64 ((l.getD i default).num)) hf rfl rfl rfl hb4 rfl rfl (RunV.ldG2 (j:=i) (o:=0) (sz:=5) (enc:=eD) (l:=l) T_agg_3 eD_len rfl (hS.rdAt (j:=1) rfl) (by omega) rfl rfl) ?_
        clear hf a; intro a hf
        refine O.gvalB (v:=.bool (decide (((l.getD i default).num)>(0:Int)))) hf rfl rfl rfl hb4 rfl rfl (RunV.gtr rfl rfl) ?_
        clear hf a; intro a hf
        refine O.val (v:=.bool ((decide ((if okD (l.getD i default) then 0 else 8)≠(0:Int)))||(decide (((l.getD i default).num)>(0:Int))))) hf rfl rfl rfl (RunV.pick rfl rfl rfl (by rw [hb4]; rfl)) ?_; clear hf a; intro a hf
        exact O.nil ⟨rfl,hf.to ⟨rfl,rfl,rfl,rfl,rfl,rfl,rfl,rfl,rfl,rfl,rfl,rfl,rfl,rfl,rfl,trivial⟩,hS⟩
    clear hf hS a; rintro a w ⟨hf,hS⟩
    refine O.nil ?_
    refine k_seq ?_
    replace hf:Fr a 246 [] [(0,vl),(1,vp),(5,.bool true),(6,bv),(7,.slice none 0 0),(8,.slice none 0 0),(9,.int .i64 (i:Int)),(56,.bool ((decide ((if okD (l.getD i default) then 0 else 8)≠(0:Int)))||(decide (((l.getD i default).num)>(0:Int)))))]:=hf.to ⟨rfl,rfl,rfl,rfl,rfl,rfl,rfl,rfl,trivial⟩
    refine W.if_ hf rfl (fun hd8=>?_) (fun hd8=>?_)
    · have hd8b:=hd8
      try simp only [Bool.and_eq_true,Bool.or_eq_true,Bool.and_eq_false_iff,Bool.or_eq_false_iff,decide_eq_true_eq,decide_eq_false_iff_not,Bool.not_eq_true',Bool.not_eq_false',Bool.not_eq_true,Bool.not_eq_false,ne_eq] at hd8
      refine W.seq ?_
      refine W.regionL (l:=[0,1]) rfl ?_
      refine O.val hf rfl rfl rfl (RunV.move rfl) ?_
      clear hf a; intro a hf
      refine O.val hf rfl rfl rfl (RunV.assign rfl) ?_
      clear hf a; intro a hf
      refine O.nil ?_
      refine k_seq ?_
      replace hf:Fr a 246 [] [(0,vl),(1,vp),(4,.bool true),(5,.bool true),(6,bv),(7,.slice none 0 0),(8,.slice none 0 0),(9,.int .i64 (i:Int))]:=hf.to ⟨rfl,rfl,rfl,rfl,rfl,rfl,rfl,rfl,trivial⟩
      refine W.ret ?_
      refine k_then_ret ?_
      refine k_blk_ret ?_
      refine k_then_ret ?_
      refine k_then_ret ?_
      refine k_blk_ret ?_
      refine k_then_ret ?_
      refine post1 hf rfl (ResOK.tmp rfl) ?_
      exact ⟨(),rfl,hS.sub (List.nil_sublist _) |>.noB⟩
    · have hd8b:=hd8
      try simp only [Bool.and_eq_true,Bool.or_eq_true,Bool.and_eq_false_iff,Bool.or_eq_false_iff,decide_eq_true_eq,decide_eq_false_iff_not,Bool.not_eq_true',Bool.not_eq_false',Bool.not_eq_true,Bool.not_eq_false,ne_eq] at hd8
      refine W.skip ?_
      refine k_seq ?_
      refine W.regionL (l:=[0,1,2,3,4,5,6,7,8]) rfl ?_
      have hbll0:bl.length=i:=by rw [hbl,List.length_map,List.length_take]; omega
      refine O.val hf rfl rfl rfl (RunV.move rfl) ?_
      clear hf a; intro a hf
      refine O.val hf rfl rfl rfl (RunV.move rfl) ?_
      clear hf a; intro a hf
      refine O.val hf rfl rfl rfl (RunV.move rfl) ?_
      clear hf a; intro a hf
      refine O.val hf rfl rfl rfl (RunV.ixV (j:=i) (m:=i*5) T_elem_35 T_size_24 rfl rfl (hS.rdAt (j:=1) rfl) rfl (by omega) rfl) ?_
      clear hf a; intro a hf
      refine O.val hf rfl rfl rfl (RunV.ldG (j:=i) (enc:=eD) (l:=l) (us:=[.int .i64 ((l.getD i default).num),.int .i64 ((l.getD i default).yr),.int .u8 ((l.getD i default).half),.int .u8 ((l.getD i default).sec),.int .i64 ((l.getD i default).cyc)]) T_agg_24 T_size_24 rfl eD_len rfl (hS.rdAt (j:=1) rfl) (by omega) rfl) ?_
      clear hf a; intro a hf
      refine O.val hf rfl rfl rfl (RunV.buildS (cs':=#[.int .u8 1,.int .i64 ((l.getD i default).num),.int .i64 ((l.getD i default).yr),.int .u8 ((l.getD i default).half),.int .u8 ((l.getD i default).sec),.int .i64 ((l.getD i default).cyc),.int .i64 0,.int .i64 0,.int .u8 0,.int .u8 0,.int .i64 0,.int .i64 0]) T_places_26 T_zero_26 rfl (by kernel_rfl)) ?_
      clear hf a; intro a hf
      refine O.buildSlice (cs':=#[.int .u8 1,.int .i64 ((l.getD i default).num),.int .i64 ((l.getD i default).yr),.int .u8 ((l.getD i default).half),.int .u8 ((l.getD i default).sec),.int .i64 ((l.getD i default).cyc),.int .i64 0,.int .i64 0,.int .u8 0,.int .u8 0,.int .i64 0,.int .i64 0]) (zs:=#[.int .u8 0,.int .i64 0,.int .i64 0,.int .u8 0,.int .u8 0,.int .i64 0,.int .i64 0,.int .i64 0,.int .u8 0,.int .u8 0,.int .i64 0,.int .i64 0]) hf hS rfl rfl T_elem_22 T_size_26 T_zero_26 rfl rfl (by kernel_rfl) rfl (by kernel_rfl) ?_
      clear hf hS a; intro b_s6 w a hbb_s6 hS hf
      refine O.append1 (j:=1) (jj:=0) hf hS rfl rfl T_elem_22 T_size_26 T_bytes_26 T_zero_26 rfl rfl rfl rfl rfl rfl rfl rfl (by have:=hbll0; unfold maxLen; omega) (by have:=hbll0; omega) ?_
      clear hf hS a; intro v7 w a hS hf
      replace hS:=hS.eqM (N:=[pt b_s6 (.cells #[.int .u8 1,.int .i64 ((l.getD i default).num),.int .i64 ((l.getD i default).yr),.int .u8 ((l.getD i default).half),.int .u8 ((l.getD i default).sec),.int .i64 ((l.getD i default).cyc),.int .i64 0,.int .i64 0,.int .u8 0,.int .u8 0,.int .i64 0,.int .i64 0] 26 (0,0)),sl 26 12 v7 (bl.length+1) (encs eC bl++[.int .u8 1,.int .i64 ((l.getD i default).num),.int .i64 ((l.getD i default).yr),.int .u8 ((l.getD i default).half),.int .u8 ((l.getD i default).sec),.int .i64 ((l.getD i default).cyc),.int .i64 0,.int .i64 0,.int .u8 0,.int .u8 0,.int .i64 0,.int .i64 0])]) rfl
      replace hS:=hS.reE (i:=1) (M':=[pt b_s6 (.cells #[.int .u8 1,.int .i64 ((l.getD i default).num),.int .i64 ((l.getD i default).yr),.int .u8 ((l.getD i default).half),.int .u8 ((l.getD i default).sec),.int .i64 ((l.getD i default).cyc),.int .i64 0,.int .i64 0,.int .u8 0,.int .u8 0,.int .i64 0,.int .i64 0] 26 (0,0)),sl 26 12 v7 ((bl++[(addC (l.getD i default))]).length) (encs eC (bl++[(addC (l.getD i default))]))]) rfl (sl_snoc (enc:=eC) (l:=bl) (x:=(addC (l.getD i default)))) rfl
      refine O.val hf rfl rfl rfl (RunV.assign rfl) ?_
      clear hf a; intro a hf
      refine O.nil ?_
      refine k_blk_normal ?_
      refine k_seq ?_
      replace hf:Fr a 246 [] [(0,vl),(1,vp),(5,.bool true),(6,v7),(7,.slice none 0 0),(8,.slice none 0 0),(9,.int .i64 (i:Int))]:=hf.to ⟨rfl,rfl,rfl,rfl,rfl,rfl,rfl,trivial⟩
      refine W.regionL (l:=[0,1,2]) rfl ?_
      refine O.val hf rfl rfl rfl (RunV.move rfl) ?_
      clear hf a; intro a hf
      refine O.val hf rfl rfl rfl (RunV.addI rfl rfl (by omega)) ?_
      clear hf a; intro a hf
      refine O.val hf rfl rfl rfl (RunV.assign rfl) ?_
      clear hf a; intro a hf
      refine O.nil ?_
      replace hS:=hS.sub (N:=[sl 26 12 v7 ((bl++[(addC (l.getD i default))]).length) (encs eC (bl++[(addC (l.getD i default))]))]) (.cons _ (.cons_cons _ .slnil))
      refine k_then ⟨(i+1,(bl++[(addC (l.getD i default))]),v7),⟨hf.to ⟨rfl,rfl,rfl,(by first | rfl | exact congrArg some (congrArg (Value.int _) (by omega))),rfl,rfl,(by first | rfl | exact congrArg some (congrArg (Value.int _) (by omega))),trivial⟩,?_,?_,?_,?_⟩,?_⟩
      · exact hS.eqM rfl
      · omega
      · rw [hbl,take_snoc (by omega),List.map_append]; rfl
      · rw [take_snoc (by omega)]; intro d hd
        rcases List.mem_append.1 hd with hd | hd
        · exact hok d hd
        · rw [List.mem_singleton.1 hd]; exact ord_d hd8b
      · dsimp only; omega
  · refine W.exit ?_
    refine k_then_exit ?_
    refine k_then_exit ?_
    refine k_blk ?_
    refine k_seq ?_
    replace hf:Fr a 246 [] [(0,vl),(1,vp),(5,.bool true),(6,bv),(7,.slice none 0 0),(8,.slice none 0 0)]:=hf.to ⟨rfl,rfl,rfl,rfl,rfl,rfl,trivial⟩
    refine W.seq ?_
    refine W.seq ?_
    have hil:i=l.length:=by omega
    have hokl:∀ d ∈ l,okD d=true∧d.num=0:=by rw [List.take_of_length_le (by omega)] at hok; exact hok
    have hbase:bl=l.map addC:=by rw [hbl,List.take_of_length_le (by omega)]
    have hbll:bl.length=l.length:=by rw [hbase,List.length_map]
    rcases hm:histM bl with e | ⟨S,us⟩
    · have he14:e=14:=base_err hokl hl10 (by rw [← hbase]; exact hm)
      refine W.regionL (l:=[0,1,2,3,4,5,6]) rfl ?_
      refine O.val hf rfl rfl rfl (RunV.move rfl) ?_
      clear hf a; intro a hf
      refine O.callR hf rfl rfl rfl (RunE.call (av:=#[bv]) C_ok_16 rfl rfl rfl) (run_err bv bl _ (hS.bptO (i:=0) rfl) (hS.slr (j:=0) rfl) (slOK.fit (hS.slAt (j:=0) rfl)) e hm) ?_
      clear hf a
      rintro _ w8 hS1 a hf
      replace hf:Fr a _ _ ((68,.tuple #[.slice none 0 0,.int .i64 e])::_):=hf
      replace hS:=(hS.call hS1).eqM (N:=[sl 26 12 bv bl.length (encs eC bl)]) rfl
      clear hS1
      refine O.val hf rfl rfl rfl (RunV.move rfl) ?_
      clear hf a; intro a hf
      refine O.val hf rfl rfl rfl (RunV.extract rfl rfl) ?_
      clear hf a; intro a hf
      refine O.val hf rfl rfl rfl (RunV.extract rfl rfl) ?_
      clear hf a; intro a hf
      refine O.val hf rfl rfl rfl (RunV.assign rfl) ?_
      clear hf a; intro a hf
      refine O.val hf rfl rfl rfl (RunV.assign rfl) ?_
      clear hf a; intro a hf
      refine O.nil ?_
      refine k_seq ?_
      replace hf:Fr a 246 [] [(0,vl),(1,vp),(5,.bool true),(6,bv),(7,.slice none 0 0),(8,.slice none 0 0),(11,.int .i64 e)]:=hf.to ⟨rfl,rfl,rfl,rfl,rfl,rfl,rfl,trivial⟩
      refine W.seq ?_
      refine W.regionL (l:=[0,1]) rfl ?_
      refine O.val hf rfl rfl rfl (RunV.move rfl) ?_
      clear hf a; intro a hf
      refine O.val (v:=.bool (decide (e≠(0:Int)))) hf rfl rfl rfl (RunV.neq rfl rfl) ?_
      clear hf a; intro a hf
      refine O.nil ?_
      refine k_seq ?_
      replace hf:Fr a 246 [] [(0,vl),(1,vp),(5,.bool true),(6,bv),(7,.slice none 0 0),(8,.slice none 0 0),(11,.int .i64 e),(72,.bool (decide (e≠(0:Int))))]:=hf.to ⟨rfl,rfl,rfl,rfl,rfl,rfl,rfl,rfl,trivial⟩
      have hbc:(decide (e≠(0:Int)))=true:=(by rw [he14]; rfl)
      simp only [hbc] at hf; clear hbc
      refine W.if_tt hf rfl ?_
      refine W.seq ?_
      refine W.regionL (l:=[0,1,2,3,4,5]) rfl ?_
      refine O.val hf rfl rfl rfl (RunV.move rfl) ?_
      clear hf a; intro a hf
      refine O.val hf rfl rfl rfl (RunV.move rfl) ?_
      clear hf a; intro a hf
      refine O.gvalB (v:=.int .i64 e) hf rfl rfl rfl rfl rfl rfl (RunV.move rfl) ?_
      clear hf a; intro a hf
      refine O.gvalB (v:=.bool (decide (e=(14:Int)))) hf rfl rfl rfl rfl rfl rfl (RunV.eql rfl rfl) ?_
      clear hf a; intro a hf
      refine O.val (v:=.bool (decide (e=(14:Int)))) hf rfl rfl rfl (RunV.pick rfl rfl rfl rfl) ?_
      clear hf a; intro a hf
      refine O.val hf rfl rfl rfl (RunV.assign rfl) ?_
      clear hf a; intro a hf
      refine O.nil ?_
      refine k_seq ?_
      replace hf:Fr a 246 [] [(0,vl),(1,vp),(4,.bool (decide (e=(14:Int)))),(5,.bool true),(6,bv),(7,.slice none 0 0),(8,.slice none 0 0)]:=hf.to ⟨rfl,rfl,rfl,rfl,rfl,rfl,rfl,trivial⟩
      refine W.ret ?_
      refine k_then_ret ?_
      refine post1 hf rfl (ResOK.tmp rfl) ?_
      exact ⟨(),congrArg (fun b=>Ending.returned (Value.bool b)) (by first | exact (decide_eq_true he14) | exact (decide_eq_true (by rw [hsame.2]))),hS.sub (List.nil_sublist _) |>.noB⟩
    · obtain ⟨I0,hnd⟩:=ord_start hokl hl10 (by rw [← hbase]; exact hm)
      rw [← hbase] at I0
      refine W.regionL (l:=[0,1,2,3,4,5,6]) rfl ?_
      refine O.val hf rfl rfl rfl (RunV.move rfl) ?_
      clear hf a; intro a hf
      refine O.callR hf rfl rfl rfl (RunE.call (av:=#[bv]) C_ok_16 rfl rfl rfl) (run_ok bv bl _ (hS.bptO (i:=0) rfl) (hS.slr (j:=0) rfl) (slOK.fit (hS.slAt (j:=0) rfl)) _ _ hm) ?_
      clear hf a
      rintro ⟨va1,xs1⟩ w9 ⟨hS1,hxs1⟩ a hf
      replace hf:Fr a _ _ ((68,.tuple #[va1,.int .i64 0])::_):=hf
      replace hS:=(hS.call hS1).eqM (N:=[sl 46 6 va1 xs1.length (encs eO xs1),bigA (xs1.map obA),sl 26 12 bv bl.length (encs eC bl)]) rfl
      clear hS1
      refine O.val hf rfl rfl rfl (RunV.move rfl) ?_
      clear hf a; intro a hf
      refine O.val hf rfl rfl rfl (RunV.extract rfl rfl) ?_
      clear hf a; intro a hf
      refine O.val hf rfl rfl rfl (RunV.extract rfl rfl) ?_
      clear hf a; intro a hf
      refine O.val hf rfl rfl rfl (RunV.assign rfl) ?_
      clear hf a; intro a hf
      refine O.val hf rfl rfl rfl (RunV.assign rfl) ?_
      clear hf a; intro a hf
      refine O.nil ?_
      refine k_seq ?_
      replace hf:Fr a 246 [] [(0,vl),(1,vp),(5,.bool true),(6,bv),(7,.slice none 0 0),(8,.slice none 0 0),(11,.int .i64 0)]:=hf.to ⟨rfl,rfl,rfl,rfl,rfl,rfl,rfl,trivial⟩
      refine W.seq ?_
      refine W.regionL (l:=[0,1]) rfl ?_
      refine O.val hf rfl rfl rfl (RunV.move rfl) ?_
      clear hf a; intro a hf
      refine O.val hf rfl rfl rfl (RunV.toB (c:=false) (RunV.neq rfl rfl) (by decide)) ?_
      clear hf a; intro a hf
      refine O.nil ?_
      refine k_seq ?_
      replace hf:Fr a 246 [] [(0,vl),(1,vp),(5,.bool true),(6,bv),(7,.slice none 0 0),(8,.slice none 0 0),(11,.int .i64 0),(72,.bool false)]:=hf.to ⟨rfl,rfl,rfl,rfl,rfl,rfl,rfl,rfl,trivial⟩
      refine W.if_ff hf rfl ?_
      refine W.skip ?_
      refine k_seq ?_
      replace hf:Fr a 246 [] [(0,vl),(1,vp),(5,.bool true),(6,bv),(7,.slice none 0 0),(8,.slice none 0 0)]:=hf.to ⟨rfl,rfl,rfl,rfl,rfl,rfl,trivial⟩
      refine W.seq ?_
      refine W.regionL (l:=[0,1,2,3]) rfl ?_
      refine O.val hf rfl rfl rfl (RunV.move rfl) ?_
      clear hf a; intro a hf
      refine O.val hf rfl rfl rfl (RunV.move rfl) ?_
      clear hf a; intro a hf
      replace hS:=hS.nilSl 26 12
      replace hS:St w0 _ noX [ordA,rdv 5 vl l.length (encs eD l),rdv 2 vp ps.length (encs eP ps)] [slE 26 12 eC (.slice none 0 0) [],sl 46 6 va1 xs1.length (encs eO xs1),bigA (xs1.map obA),sl 26 12 bv bl.length (encs eC bl)]:=hS
      refine O.appendEV (j:=0) (enc:=eC) (l:=[]) (m:=bl) (l':=bl) hf hS rfl rfl T_elem_22 T_size_26 T_bytes_26 T_zero_26 rfl rfl rfl rfl rfl ⟨hS.slr (j:=3) rfl,slOK.fit (hS.slAt (j:=3) rfl)⟩ (fun _=>rfl) (by decide) (by omega) rfl rfl ?_
      clear hf hS a; intro v10 w a hS hf
      replace hS:St w0 _ noX [ordA,rdv 5 vl l.length (encs eD l),rdv 2 vp ps.length (encs eP ps)] [sl 26 12 v10 bl.length (encs eC bl),sl 46 6 va1 xs1.length (encs eO xs1),bigA (xs1.map obA),sl 26 12 bv bl.length (encs eC bl)]:=hS
      refine O.val hf rfl rfl rfl (RunV.assign rfl) ?_
      clear hf a; intro a hf
      refine O.nil ?_
      refine k_seq ?_
      replace hf:Fr a 246 [] [(0,vl),(1,vp),(5,.bool true),(6,bv),(7,v10),(8,.slice none 0 0)]:=hf.to ⟨rfl,rfl,rfl,rfl,rfl,rfl,trivial⟩
      refine W.seq ?_
      refine W.regionL (l:=[0,1,2,3]) rfl ?_
      refine O.val hf rfl rfl rfl (RunV.move rfl) ?_
      clear hf a; intro a hf
      refine O.val hf rfl rfl rfl (RunV.move rfl) ?_
      clear hf a; intro a hf
      replace hS:=hS.nilSl 26 12
      replace hS:St w0 _ noX [ordA,rdv 5 vl l.length (encs eD l),rdv 2 vp ps.length (encs eP ps)] [slE 26 12 eC (.slice none 0 0) [],sl 26 12 v10 bl.length (encs eC bl),sl 46 6 va1 xs1.length (encs eO xs1),bigA (xs1.map obA),sl 26 12 bv bl.length (encs eC bl)]:=hS
      refine O.appendEV (j:=0) (enc:=eC) (l:=[]) (m:=bl) (l':=bl) hf hS rfl rfl T_elem_22 T_size_26 T_bytes_26 T_zero_26 rfl rfl rfl rfl rfl ⟨hS.slr (j:=4) rfl,slOK.fit (hS.slAt (j:=4) rfl)⟩ (fun _=>rfl) (by decide) (by omega) rfl rfl ?_
      clear hf hS a; intro v11 w a hS hf
      replace hS:St w0 _ noX [ordA,rdv 5 vl l.length (encs eD l),rdv 2 vp ps.length (encs eP ps)] [sl 26 12 v11 bl.length (encs eC bl),sl 26 12 v10 bl.length (encs eC bl),sl 46 6 va1 xs1.length (encs eO xs1),bigA (xs1.map obA),sl 26 12 bv bl.length (encs eC bl)]:=hS
      refine O.val hf rfl rfl rfl (RunV.assign rfl) ?_
      clear hf a; intro a hf
      refine O.nil ?_
      refine k_seq ?_
      replace hf:Fr a 246 [] [(0,vl),(1,vp),(5,.bool true),(7,v10),(8,v11)]:=hf.to ⟨rfl,rfl,rfl,rfl,rfl,trivial⟩
      refine W.seq ?_
      refine W.seq ?_
      refine W.regionL (l:=[0]) rfl ?_
      refine O.val hf rfl rfl rfl (RunV.assign rfl) ?_
      clear hf a; intro a hf
      refine O.nil ?_
      refine k_seq ?_
      refine W.block ?_
      replace hS:=hS.sub (N:=[sl 26 12 v11 bl.length (encs eC bl),sl 26 12 v10 bl.length (encs eC bl)]) (.cons_cons _ (.cons_cons _ (.cons _ (.cons _ (.cons _ .slnil)))))
      refine W.loop (G:=(Nat) × (List Ch) × (Value) × (List Ch) × (Value) × (List PG) × (List Bool) × (List PG) × (List Bool)) (fun g a w=>match g with | (i,fw,fv,bw,bv2,S1,us1,S2,us2)=>Fr a 246 [] [(0,vl),(1,vp),(5,.bool true),(7,fv),(8,bv2),(12,.int .i64 (i:Int))]∧St w0 w noX [ordA,rdv 5 vl l.length (encs eD l),rdv 2 vp ps.length (encs eP ps)] [sl 26 12 bv2 bw.length (encs eC bw),sl 26 12 fv fw.length (encs eC fw)]∧(i≤ps.length)∧(OrdI l ((ps.take i).map (fP l)) fw S1 us1)∧(OrdI l ((ps.reverse.take i).map (bP l)) bw S2 us2)) (fun g=>match g with | (i,fw,fv,bw,bv2,S1,us1,S2,us2)=>ps.length-i) (0,bl,v10,bl,v11,S,us,S,us) ?_ ?_
      · refine ⟨hf.to ⟨rfl,rfl,rfl,(by first | rfl | exact congrArg some (congrArg (Value.int _) (by omega))),(by first | rfl | exact congrArg some (congrArg (Value.int _) (by omega))),(by first | rfl | exact congrArg some (congrArg (Value.int _) (by omega))),trivial⟩,hS,?_,?_,?_⟩
        · omega
        · exact I0
        · exact I0
      clear hf hS a
      rintro ⟨i,fw,fv,bw,bv2,S1,us1,S2,us2⟩ a w ⟨hf,hS,hi,hF,hB⟩
      refine W.seq ?_
      refine W.seq ?_
      refine W.regionL (l:=[0,1,2,3]) rfl ?_
      refine O.val hf rfl rfl rfl (RunV.move rfl) ?_
      clear hf a; intro a hf
      refine O.val hf rfl rfl rfl (RunV.move rfl) ?_
      clear hf a; intro a hf
      refine O.val hf rfl rfl rfl (RunV.lenV (e:=42) (by simpa using T_elem_36) rfl (hS.rdAt (j:=2) rfl)) ?_
      clear hf a; intro a hf
      refine O.val (v:=.bool (decide ((i:Int)<((ps.length:Int):Int)))) hf rfl rfl rfl (RunV.lss rfl rfl) ?_
      clear hf a; intro a hf
      refine O.nil ?_
      refine k_seq ?_
      replace hf:Fr a 246 [] [(0,vl),(1,vp),(5,.bool true),(7,fv),(8,bv2),(12,.int .i64 (i:Int)),(87,.bool (decide ((i:Int)<((ps.length:Int):Int))))]:=hf.to ⟨rfl,rfl,rfl,rfl,rfl,rfl,rfl,trivial⟩
      refine W.ifdI hf rfl (fun hc12=>?_) (fun hc12=>?_)
      · refine W.skip ?_
        refine k_seq ?_
        refine W.seq ?_
        refine W.block ?_
        refine W.seq ?_
        obtain ⟨pa,hpa⟩:∃ p,p=(ps.getD i default):=⟨_,rfl⟩
        obtain ⟨pb,hpb⟩:∃ p,p=(ps.getD (ps.length-1-i) default):=⟨_,rfl⟩
        have hf1:Fr a 246 [] []:=hf.to trivial
        replace hf:Fr a 246 [] [(0,vl),(1,vp),(5,.bool true),(7,fv),(8,bv2),(12,.int .i64 (i:Int))]:=hf.to ⟨rfl,rfl,rfl,rfl,rfl,rfl,trivial⟩
        replace hS:=hS.drew
        replace hS:=hS.emp
        let LZ550:List (Nat × Value):=[(0,vl),(1,vp),(5,.bool true),(7,fv),(8,bv2),(12,.int .i64 (i:Int))]
        let BZ550:List Asr:=[ordA,rdv 5 vl l.length (encs eD l),rdv 2 vp ps.length (encs eP ps)]
        refine W.drawC (γ:=(Nat) × (Nat)) (L0:=LZ550) (L1:=[]) (0,0) [12,14,15] [13] [0,1,2,3,4,5,6,7,8,9,10,11] (fun i=>match i with | 2=>[0,1] | 3=>[2] | 6=>[5] | 7=>[6] | 9=>[7,8] | 10=>[4,9] | 11=>[10] | 14=>[0,1,2,3,12,13] | 15=>[0,1,2,3,4,5,6,7,8,9,10,11,12,13,14] | _=>[]) (fun i=>match i with | 14=>[12,13] | 15=>[12,14,13] | _=>[]) (fun i=>match i with | 0=>[14,15] | 1=>[14,15] | 2=>[14,15] | 3=>[14,15] | 4=>[15] | 5=>[15] | 6=>[15] | 7=>[15] | 8=>[15] | 9=>[15] | 10=>[15] | 11=>[15] | 12=>[14,15] | 13=>[14,15] | 14=>[15] | _=>[]) (fun i=>match i with | 14=>[13] | 15=>[13] | _=>[]) (fun i=>match i with | 12=>[14,15] | 13=>[14,15] | 14=>[15] | _=>[]) (fun _=>[]) (fun i=>match i with | 14=>1 | 15=>2 | _=>0) (fun i=>match i with | 0=>1 | 1=>1 | 2=>1 | 3=>1 | 4=>2 | 5=>2 | 6=>2 | 7=>2 | 8=>2 | 9=>2 | 10=>2 | 11=>2 | 12=>1 | 13=>1 | 14=>2 | 15=>3 | _=>0) (fun (g:(Nat) × (Nat)) j=>match g,j with | ⟨b_b13,b_a14⟩,0=>vp | ⟨b_b13,b_a14⟩,1=>.int .i64 (i:Int) | ⟨b_b13,b_a14⟩,2=>ix vp (i*2) | ⟨b_b13,b_a14⟩,3=>.agg #[.int .i64 pa.1,.int .i64 pa.2] | ⟨b_b13,b_a14⟩,4=>vp | ⟨b_b13,b_a14⟩,5=>vp | ⟨b_b13,b_a14⟩,6=>.int .i64 (ps.length:Int) | ⟨b_b13,b_a14⟩,7=>.int .i64 ((ps.length:Int)-1) | ⟨b_b13,b_a14⟩,8=>.int .i64 (i:Int) | ⟨b_b13,b_a14⟩,9=>.int .i64 (((ps.length:Int)-1)-(i:Int)) | ⟨b_b13,b_a14⟩,10=>ix vp ((ps.length-1-i)*2) | ⟨b_b13,b_a14⟩,11=>.agg #[.int .i64 pb.1,.int .i64 pb.2] | ⟨b_b13,b_a14⟩,12=>.pointer (some ⟨b_a14,0,none⟩) | ⟨b_b13,b_a14⟩,13=>.pointer (some ⟨b_b13,0,none⟩) | _,_=>undef) (fun k s (g:(Nat) × (Nat)) w=>match k,g with | 0,⟨b_b13,b_a14⟩=>St w0 w noX BZ550 [condA (s 13) (pt b_b13 (.cells #[.int .i64 0,.int .i64 0] 42 (0,0))),sl 26 12 bv2 bw.length (encs eC bw),sl 26 12 fv fw.length (encs eC fw)] | 1,⟨b_b13,b_a14⟩=>St w0 w noX BZ550 [pt b_a14 (.cells #[.int .i64 0,.int .i64 0] 42 (0,0)),condA (s 13) (pt b_b13 (.cells #[.int .i64 0,.int .i64 0] 42 (0,0))),sl 26 12 bv2 bw.length (encs eC bw),sl 26 12 fv fw.length (encs eC fw)] | 2,⟨b_b13,b_a14⟩=>St w0 w noX BZ550 [pt b_a14 (.cells #[.int .i64 pa.1,.int .i64 pa.2] 42 (0,0)),pt b_b13 (.cells #[.int .i64 0,.int .i64 0] 42 (0,0)),sl 26 12 bv2 bw.length (encs eC bw),sl 26 12 fv fw.length (encs eC fw)] | _,⟨b_b13,b_a14⟩=>St w0 w noX BZ550 [pt b_a14 (.cells #[.int .i64 pa.1,.int .i64 pa.2] 42 (0,0)),pt b_b13 (.cells #[.int .i64 pb.1,.int .i64 pb.2] 42 (0,0)),sl 26 12 bv2 bw.length (encs eC bw),sl 26 12 fv fw.length (encs eC fw)]) P_mixed (by kernel_rfl) (by kernel_rfl) (by kernel_rfl) hf hf1 hS ?_ ?_ ?_ ?_
        · clear hf hf1 hS
          refine ⟨?_,?_,?_,?_,?_,?_,?_,?_,?_,?_,?_,?_,trivial⟩
          · intro k s g w h1_ h2_ hsp hD a hf
            obtain ⟨b_b13,b_a14⟩:=g
            rcases k with _ | _ | k
            · have hS:St w0 w noX BZ550 [condA (s 13) (pt b_b13 (.cells #[.int .i64 0,.int .i64 0] 42 (0,0))),sl 26 12 bv2 bw.length (encs eC bw),sl 26 12 fv fw.length (encs eC fw)]:=hD;
              replace hf:Fr a 246 [] LZ550:=hf
              refine O.val hf rfl rfl rfl (RunV.move rfl) ?_
              clear hf a; intro a hf
              exact O.nil ⟨rfl,hf.to trivial,(gt (d:=90) hf rfl rfl),hD⟩
            · have hS:St w0 w noX BZ550 [pt b_a14 (.cells #[.int .i64 0,.int .i64 0] 42 (0,0)),condA (s 13) (pt b_b13 (.cells #[.int .i64 0,.int .i64 0] 42 (0,0))),sl 26 12 bv2 bw.length (encs eC bw),sl 26 12 fv fw.length (encs eC fw)]:=hD;
              replace hf:Fr a 246 [] LZ550:=hf
              refine O.val hf rfl rfl rfl (RunV.move rfl) ?_
              clear hf a; intro a hf
              exact O.nil ⟨rfl,hf.to trivial,(gt (d:=90) hf rfl rfl),hD⟩
            · exact absurd h2_ (by simp)
          · intro k s g w h1_ h2_ hsp hD a hf
            obtain ⟨b_b13,b_a14⟩:=g
            rcases k with _ | _ | k
            · have hS:St w0 w noX BZ550 [condA (s 13) (pt b_b13 (.cells #[.int .i64 0,.int .i64 0] 42 (0,0))),sl 26 12 bv2 bw.length (encs eC bw),sl 26 12 fv fw.length (encs eC fw)]:=hD;
              replace hf:Fr a 246 [] LZ550:=hf
              refine O.val hf rfl rfl rfl (RunV.move rfl) ?_
              clear hf a; intro a hf
              exact O.nil ⟨rfl,hf.to trivial,(gt (d:=91) hf rfl rfl),hD⟩
            · have hS:St w0 w noX BZ550 [pt b_a14 (.cells #[.int .i64 0,.int .i64 0] 42 (0,0)),condA (s 13) (pt b_b13 (.cells #[.int .i64 0,.int .i64 0] 42 (0,0))),sl 26 12 bv2 bw.length (encs eC bw),sl 26 12 fv fw.length (encs eC fw)]:=hD;
              replace hf:Fr a 246 [] LZ550:=hf
              refine O.val hf rfl rfl rfl (RunV.move rfl) ?_
              clear hf a; intro a hf
              exact O.nil ⟨rfl,hf.to trivial,(gt (d:=91) hf rfl rfl),hD⟩
            · exact absurd h2_ (by simp)
          · intro k s g w h1_ h2_ hsp hD a hf
            obtain ⟨b_b13,b_a14⟩:=g
            rcases k with _ | _ | k
            · have hS:St w0 w noX BZ550 [condA (s 13) (pt b_b13 (.cells #[.int .i64 0,.int .i64 0] 42 (0,0))),sl 26 12 bv2 bw.length (encs eC bw),sl 26 12 fv fw.length (encs eC fw)]:=hD;
              replace hf:Fr a 246 [] ((90,vp)::(91,.int .i64 (i:Int))::LZ550):=hf
              refine O.val hf rfl rfl rfl (RunV.ixV (j:=i) (m:=i*2) T_elem_36 T_size_42 rfl rfl (hS.rdAt (j:=2) rfl) rfl (by omega) rfl) ?_
              clear hf a; intro a hf
              exact O.nil ⟨rfl,hf.to trivial,(gt (d:=92) hf rfl rfl),hD⟩
            · have hS:St w0 w noX BZ550 [pt b_a14 (.cells #[.int .i64 0,.int .i64 0] 42 (0,0)),condA (s 13) (pt b_b13 (.cells #[.int .i64 0,.int .i64 0] 42 (0,0))),sl 26 12 bv2 bw.length (encs eC bw),sl 26 12 fv fw.length (encs eC fw)]:=hD;
              replace hf:Fr a 246 [] ((90,vp)::(91,.int .i64 (i:Int))::LZ550):=hf
              refine O.val hf rfl rfl rfl (RunV.ixV (j:=i) (m:=i*2) T_elem_36 T_size_42 rfl rfl (hS.rdAt (j:=2) rfl) rfl (by omega) rfl) ?_
              clear hf a; intro a hf
              exact O.nil ⟨rfl,hf.to trivial,(gt (d:=92) hf rfl rfl),hD⟩
            · exact absurd h2_ (by simp)
          · intro k s g w h1_ h2_ hsp hD a hf
            obtain ⟨b_b13,b_a14⟩:=g
            rcases k with _ | _ | k
            · have hS:St w0 w noX BZ550 [condA (s 13) (pt b_b13 (.cells #[.int .i64 0,.int .i64 0] 42 (0,0))),sl 26 12 bv2 bw.length (encs eC bw),sl 26 12 fv fw.length (encs eC fw)]:=hD;
              replace hf:Fr a 246 [] ((92,ix vp (i*2))::LZ550):=hf
              refine O.val hf rfl rfl rfl (RunV.ldG (j:=i) (enc:=eP) (l:=ps) (us:=eP pa) T_agg_42 T_size_42 rfl eP_len rfl (hS.rdAt (j:=2) rfl) (by omega) (by rw [hpa])) ?_
              clear hf a; intro a hf
              exact O.nil ⟨rfl,hf.to trivial,(gt (d:=93) hf rfl rfl),hD⟩
            · have hS:St w0 w noX BZ550 [pt b_a14 (.cells #[.int .i64 0,.int .i64 0] 42 (0,0)),condA (s 13) (pt b_b13 (.cells #[.int .i64 0,.int .i64 0] 42 (0,0))),sl 26 12 bv2 bw.length (encs eC bw),sl 26 12 fv fw.length (encs eC fw)]:=hD;
              replace hf:Fr a 246 [] ((92,ix vp (i*2))::LZ550):=hf
              refine O.val hf rfl rfl rfl (RunV.ldG (j:=i) (enc:=eP) (l:=ps) (us:=eP pa) T_agg_42 T_size_42 rfl eP_len rfl (hS.rdAt (j:=2) rfl) (by omega) (by rw [hpa])) ?_
              clear hf a; intro a hf
              exact O.nil ⟨rfl,hf.to trivial,(gt (d:=93) hf rfl rfl),hD⟩
            · exact absurd h2_ (by simp)
          · intro k s g w h1_ h2_ hsp hD a hf
            obtain ⟨b_b13,b_a14⟩:=g
            rcases k with _ | _ | _ | k
            · have hS:St w0 w noX BZ550 [condA (s 13) (pt b_b13 (.cells #[.int .i64 0,.int .i64 0] 42 (0,0))),sl 26 12 bv2 bw.length (encs eC bw),sl 26 12 fv fw.length (encs eC fw)]:=hD;
              replace hf:Fr a 246 [] LZ550:=hf
              refine O.val hf rfl rfl rfl (RunV.move rfl) ?_
              clear hf a; intro a hf
              exact O.nil ⟨rfl,hf.to trivial,(gt (d:=94) hf rfl rfl),hD⟩
            · have hS:St w0 w noX BZ550 [pt b_a14 (.cells #[.int .i64 0,.int .i64 0] 42 (0,0)),condA (s 13) (pt b_b13 (.cells #[.int .i64 0,.int .i64 0] 42 (0,0))),sl 26 12 bv2 bw.length (encs eC bw),sl 26 12 fv fw.length (encs eC fw)]:=hD;
              replace hf:Fr a 246 [] LZ550:=hf
              refine O.val hf rfl rfl rfl (RunV.move rfl) ?_
              clear hf a; intro a hf
              exact O.nil ⟨rfl,hf.to trivial,(gt (d:=94) hf rfl rfl),hD⟩
            · have hS:St w0 w noX BZ550 [pt b_a14 (.cells #[.int .i64 pa.1,.int .i64 pa.2] 42 (0,0)),pt b_b13 (.cells #[.int .i64 0,.int .i64 0] 42 (0,0)),sl 26 12 bv2 bw.length (encs eC bw),sl 26 12 fv fw.length (encs eC fw)]:=hD;
              replace hf:Fr a 246 [] LZ550:=hf
              refine O.val hf rfl rfl rfl (RunV.move rfl) ?_
              clear hf a; intro a hf
              exact O.nil ⟨rfl,hf.to trivial,(gt (d:=94) hf rfl rfl),hD⟩
            · exact absurd h2_ (by simp)
          · intro k s g w h1_ h2_ hsp hD a hf
            obtain ⟨b_b13,b_a14⟩:=g
            rcases k with _ | _ | _ | k
            · have hS:St w0 w noX BZ550 [condA (s 13) (pt b_b13 (.cells #[.int .i64 0,.int .i64 0] 42 (0,0))),sl 26 12 bv2 bw.length (encs eC bw),sl 26 12 fv fw.length (encs eC fw)]:=hD;
              replace hf:Fr a 246 [] LZ550:=hf
              refine O.val hf rfl rfl rfl (RunV.move rfl) ?_
              clear hf a; intro a hf
              exact O.nil ⟨rfl,hf.to trivial,(gt (d:=95) hf rfl rfl),hD⟩
            · have hS:St w0 w noX BZ550 [pt b_a14 (.cells #[.int .i64 0,.int .i64 0] 42 (0,0)),condA (s 13) (pt b_b13 (.cells #[.int .i64 0,.int .i64 0] 42 (0,0))),sl 26 12 bv2 bw.length (encs eC bw),sl 26 12 fv fw.length (encs eC fw)]:=hD;
              replace hf:Fr a 246 [] LZ550:=hf
              refine O.val hf rfl rfl rfl (RunV.move rfl) ?_
              clear hf a; intro a hf
              exact O.nil ⟨rfl,hf.to trivial,(gt (d:=95) hf rfl rfl),hD⟩
            · have hS:St w0 w noX BZ550 [pt b_a14 (.cells #[.int .i64 pa.1,.int .i64 pa.2] 42 (0,0)),pt b_b13 (.cells #[.int .i64 0,.int .i64 0] 42 (0,0)),sl 26 12 bv2 bw.length (encs eC bw),sl 26 12 fv fw.length (encs eC fw)]:=hD;
              replace hf:Fr a 246 [] LZ550:=hf
              refine O.val hf rfl rfl rfl (RunV.move rfl) ?_
              clear hf a; intro a hf
              exact O.nil ⟨rfl,hf.to trivial,(gt (d:=95) hf rfl rfl),hD⟩
            · exact absurd h2_ (by simp)
          · intro k s g w h1_ h2_ hsp hD a hf
            obtain ⟨b_b13,b_a14⟩:=g
            rcases k with _ | _ | _ | k
            · have hS:St w0 w noX BZ550 [condA (s 13) (pt b_b13 (.cells #[.int .i64 0,.int .i64 0] 42 (0,0))),sl 26 12 bv2 bw.length (encs eC bw),sl 26 12 fv fw.length (encs eC fw)]:=hD;
              replace hf:Fr a 246 [] ((95,vp)::LZ550):=hf
              refine O.val hf rfl rfl rfl (RunV.lenV (e:=42) (by simpa using T_elem_36) rfl (hS.rdAt (j:=2) rfl)) ?_
              clear hf a; intro a hf
              exact O.nil ⟨rfl,hf.to trivial,(gt (d:=96) hf rfl rfl),hD⟩
            · have hS:St w0 w noX BZ550 [pt b_a14 (.cells #[.int .i64 0,.int .i64 0] 42 (0,0)),condA (s 13) (pt b_b13 (.cells #[.int .i64 0,.int .i64 0] 42 (0,0))),sl 26 12 bv2 bw.length (encs eC bw),sl 26 12 fv fw.length (encs eC fw)]:=hD;
              replace hf:Fr a 246 [] ((95,vp)::LZ550):=hf
              refine O.val hf rfl rfl rfl (RunV.lenV (e:=42) (by simpa using T_elem_36) rfl (hS.rdAt (j:=2) rfl)) ?_
              clear hf a; intro a hf
              exact O.nil ⟨rfl,hf.to trivial,(gt (d:=96) hf rfl rfl),hD⟩
            · have hS:St w0 w noX BZ550 [pt b_a14 (.cells #[.int .i64 pa.1,.int .i64 pa.2] 42 (0,0)),pt b_b13 (.cells #[.int .i64 0,.int .i64 0] 42 (0,0)),sl 26 12 bv2 bw.length (encs eC bw),sl 26 12 fv fw.length (encs eC fw)]:=hD;
              replace hf:Fr a 246 [] ((95,vp)::LZ550):=hf
              refine O.val hf rfl rfl rfl (RunV.lenV (e:=42) (by simpa using T_elem_36) rfl (hS.rdAt (j:=2) rfl)) ?_
              clear hf a; intro a hf
              exact O.nil ⟨rfl,hf.to trivial,(gt (d:=96) hf rfl rfl),hD⟩
            · exact absurd h2_ (by simp)
          · intro k s g w h1_ h2_ hsp hD a hf
            obtain ⟨b_b13,b_a14⟩:=g
            rcases k with _ | _ | _ | k
            · have hS:St w0 w noX BZ550 [condA (s 13) (pt b_b13 (.cells #[.int .i64 0,.int .i64 0] 42 (0,0))),sl 26 12 bv2 bw.length (encs eC bw),sl 26 12 fv fw.length (encs eC fw)]:=hD;
              replace hf:Fr a 246 [] ((96,.int .i64 (ps.length:Int))::LZ550):=hf
              refine O.val hf rfl rfl rfl (RunV.subI rfl rfl (by omega)) ?_
              clear hf a; intro a hf
              exact O.nil ⟨rfl,hf.to trivial,(gt (d:=97) hf rfl rfl),hD⟩
            · have hS:St w0 w noX BZ550 [pt b_a14 (.cells #[.int .i64 0,.int .i64 0] 42 (0,0)),condA (s 13) (pt b_b13 (.cells #[.int .i64 0,.int .i64 0] 42 (0,0))),sl 26 12 bv2 bw.length (encs eC bw),sl 26 12 fv fw.length (encs eC fw)]:=hD;
              replace hf:Fr a 246 [] ((96,.int .i64 (ps.length:Int))::LZ550):=hf
              refine O.val hf rfl rfl rfl (RunV.subI rfl rfl (by omega)) ?_
              clear hf a; intro a hf
              exact O.nil ⟨rfl,hf.to trivial,(gt (d:=97) hf rfl rfl),hD⟩
            · have hS:St w0 w noX BZ550 [pt b_a14 (.cells #[.int .i64 pa.1,.int .i64 pa.2] 42 (0,0)),pt b_b13 (.cells #[.int .i64 0,.int .i64 0] 42 (0,0)),sl 26 12 bv2 bw.length (encs eC bw),sl 26 12 fv fw.length (encs eC fw)]:=hD;
              replace hf:Fr a 246 [] ((96,.int .i64 (ps.length:Int))::LZ550):=hf
              refine O.val hf rfl rfl rfl (RunV.subI rfl rfl (by omega)) ?_
              clear hf a; intro a hf
              exact O.nil ⟨rfl,hf.to trivial,(gt (d:=97) hf rfl rfl),hD⟩
            · exact absurd h2_ (by simp)
          · intro k s g w h1_ h2_ hsp hD a hf
            obtain ⟨b_b13,b_a14⟩:=g
            rcases k with _ | _ | _ | k
            · have hS:St w0 w noX BZ550 [condA (s 13) (pt b_b13 (.cells #[.int .i64 0,.int .i64 0] 42 (0,0))),sl 26 12 bv2 bw.length (encs eC bw),sl 26 12 fv fw.length (encs eC fw)]:=hD;
              replace hf:Fr a 246 [] LZ550:=hf
              refine O.val hf rfl rfl rfl (RunV.move rfl) ?_
              clear hf a; intro a hf
              exact O.nil ⟨rfl,hf.to trivial,(gt (d:=98) hf rfl rfl),hD⟩
            · have hS:St w0 w noX BZ550 [pt b_a14 (.cells #[.int .i64 0,.int .i64 0] 42 (0,0)),condA (s 13) (pt b_b13 (.cells #[.int .i64 0,.int .i64 0] 42 (0,0))),sl 26 12 bv2 bw.length (encs eC bw),sl 26 12 fv fw.length (encs eC fw)]:=hD;
              replace hf:Fr a 246 [] LZ550:=hf
              refine O.val hf rfl rfl rfl (RunV.move rfl) ?_
              clear hf a; intro a hf
              exact O.nil ⟨rfl,hf.to trivial,(gt (d:=98) hf rfl rfl),hD⟩
            · have hS:St w0 w noX BZ550 [pt b_a14 (.cells #[.int .i64 pa.1,.int .i64 pa.2] 42 (0,0)),pt b_b13 (.cells #[.int .i64 0,.int .i64 0] 42 (0,0)),sl 26 12 bv2 bw.length (encs eC bw),sl 26 12 fv fw.length (encs eC fw)]:=hD;
              replace hf:Fr a 246 [] LZ550:=hf
              refine O.val hf rfl rfl rfl (RunV.move rfl) ?_
              clear hf a; intro a hf
              exact O.nil ⟨rfl,hf.to trivial,(gt (d:=98) hf rfl rfl),hD⟩
            · exact absurd h2_ (by simp)
          · intro k s g w h1_ h2_ hsp hD a hf
            obtain ⟨b_b13,b_a14⟩:=g
            rcases k with _ | _ | _ | k
            · have hS:St w0 w noX BZ550 [condA (s 13) (pt b_b13 (.cells #[.int .i64 0,.int .i64 0] 42 (0,0))),sl 26 12 bv2 bw.length (encs eC bw),sl 26 12 fv fw.length (encs eC fw)]:=hD;
              replace hf:Fr a 246 [] ((97,.int .i64 ((ps.length:Int)-1))::(98,.int .i64 (i:Int))::LZ550):=hf
              refine O.val hf rfl rfl rfl (RunV.subI rfl rfl (by omega)) ?_
              clear hf a; intro a hf
              exact O.nil ⟨rfl,hf.to trivial,(gt (d:=99) hf rfl rfl),hD⟩
            · have hS:St w0 w noX BZ550 [pt b_a14 (.cells #[.int .i64 0,.int .i64 0] 42 (0,0)),condA (s 13) (pt b_b13 (.cells #[.int .i64 0,.int .i64 0] 42 (0,0))),sl 26 12 bv2 bw.length (encs eC bw),sl 26 12 fv fw.length (encs eC fw)]:=hD;
              replace hf:Fr a 246 [] ((97,.int .i64 ((ps.length:Int)-1))::(98,.int .i64 (i:Int))::LZ550):=hf
              refine O.val hf rfl rfl rfl (RunV.subI rfl rfl (by omega)) ?_
              clear hf a; intro a hf
              exact O.nil ⟨rfl,hf.to trivial,(gt (d:=99) hf rfl rfl),hD⟩
            · have hS:St w0 w noX BZ550 [pt b_a14 (.cells #[.int .i64 pa.1,.int .i64 pa.2] 42 (0,0)),pt b_b13 (.cells #[.int .i64 0,.int .i64 0] 42 (0,0)),sl 26 12 bv2 bw.length (encs eC bw),sl 26 12 fv fw.length (encs eC fw)]:=hD;
              replace hf:Fr a 246 [] ((97,.int .i64 ((ps.length:Int)-1))::(98,.int .i64 (i:Int))::LZ550):=hf
              refine O.val hf rfl rfl rfl (RunV.subI rfl rfl (by omega)) ?_
              clear hf a; intro a hf
              exact O.nil ⟨rfl,hf.to trivial,(gt (d:=99) hf rfl rfl),hD⟩
            · exact absurd h2_ (by simp)
          · intro k s g w h1_ h2_ hsp hD a hf
            obtain ⟨b_b13,b_a14⟩:=g
            rcases k with _ | _ | _ | k
            · have hS:St w0 w noX BZ550 [condA (s 13) (pt b_b13 (.cells #[.int .i64 0,.int .i64 0] 42 (0,0))),sl 26 12 bv2 bw.length (encs eC bw),sl 26 12 fv fw.length (encs eC fw)]:=hD;
              replace hf:Fr a 246 [] ((94,vp)::(99,.int .i64 (((ps.length:Int)-1)-(i:Int)))::LZ550):=hf
              refine O.val hf rfl rfl rfl (RunV.ixV (j:=(ps.length-1-i)) (m:=(ps.length-1-i)*2) T_elem_36 T_size_42 rfl rfl (hS.rdAt (j:=2) rfl) (by omega) (by omega) rfl) ?_
              clear hf a; intro a hf
              exact O.nil ⟨rfl,hf.to trivial,(gt (d:=100) hf rfl rfl),hD⟩
            · have hS:St w0 w noX BZ550 [pt b_a14 (.cells #[.int .i64 0,.int .i64 0] 42 (0,0)),condA (s 13) (pt b_b13 (.cells #[.int .i64 0,.int .i64 0] 42 (0,0))),sl 26 12 bv2 bw.length (encs eC bw),sl 26 12 fv fw.length (encs eC fw)]:=hD;
              replace hf:Fr a 246 [] ((94,vp)::(99,.int .i64 (((ps.length:Int)-1)-(i:Int)))::LZ550):=hf
              refine O.val hf rfl rfl rfl (RunV.ixV (j:=(ps.length-1-i)) (m:=(ps.length-1-i)*2) T_elem_36 T_size_42 rfl rfl (hS.rdAt (j:=2) rfl) (by omega) (by omega) rfl) ?_
              clear hf a; intro a hf
              exact O.nil ⟨rfl,hf.to trivial,(gt (d:=100) hf rfl rfl),hD⟩
            · have hS:St w0 w noX BZ550 [pt b_a14 (.cells #[.int .i64 pa.1,.int .i64 pa.2] 42 (0,0)),pt b_b13 (.cells #[.int .i64 0,.int .i64 0] 42 (0,0)),sl 26 12 bv2 bw.length (encs eC bw),sl 26 12 fv fw.length (encs eC fw)]:=hD;
              replace hf:Fr a 246 [] ((94,vp)::(99,.int .i64 (((ps.length:Int)-1)-(i:Int)))::LZ550):=hf
              refine O.val hf rfl rfl rfl (RunV.ixV (j:=(ps.length-1-i)) (m:=(ps.length-1-i)*2) T_elem_36 T_size_42 rfl rfl (hS.rdAt (j:=2) rfl) (by omega) (by omega) rfl) ?_
              clear hf a; intro a hf
              exact O.nil ⟨rfl,hf.to trivial,(gt (d:=100) hf rfl rfl),hD⟩
            · exact absurd h2_ (by simp)
          · intro k s g w h1_ h2_ hsp hD a hf
            obtain ⟨b_b13,b_a14⟩:=g
            rcases k with _ | _ | _ | k
            · have hS:St w0 w noX BZ550 [condA (s 13) (pt b_b13 (.cells #[.int .i64 0,.int .i64 0] 42 (0,0))),sl 26 12 bv2 bw.length (encs eC bw),sl 26 12 fv fw.length (encs eC fw)]:=hD;
              replace hf:Fr a 246 [] ((100,ix vp ((ps.length-1-i)*2))::LZ550):=hf
              refine O.val hf rfl rfl rfl (RunV.ldG (j:=(ps.length-1-i)) (enc:=eP) (l:=ps) (us:=eP pb) T_agg_42 T_size_42 rfl eP_len rfl (hS.rdAt (j:=2) rfl) (by omega) (by rw [hpb])) ?_
              clear hf a; intro a hf
              exact O.nil ⟨rfl,hf.to trivial,(gt (d:=101) hf rfl rfl),hD⟩
            · have hS:St w0 w noX BZ550 [pt b_a14 (.cells #[.int .i64 0,.int .i64 0] 42 (0,0)),condA (s 13) (pt b_b13 (.cells #[.int .i64 0,.int .i64 0] 42 (0,0))),sl 26 12 bv2 bw.length (encs eC bw),sl 26 12 fv fw.length (encs eC fw)]:=hD;
              replace hf:Fr a 246 [] ((100,ix vp ((ps.length-1-i)*2))::LZ550):=hf
              refine O.val hf rfl rfl rfl (RunV.ldG (j:=(ps.length-1-i)) (enc:=eP) (l:=ps) (us:=eP pb) T_agg_42 T_size_42 rfl eP_len rfl (hS.rdAt (j:=2) rfl) (by omega) (by rw [hpb])) ?_
              clear hf a; intro a hf
              exact O.nil ⟨rfl,hf.to trivial,(gt (d:=101) hf rfl rfl),hD⟩
            · have hS:St w0 w noX BZ550 [pt b_a14 (.cells #[.int .i64 pa.1,.int .i64 pa.2] 42 (0,0)),pt b_b13 (.cells #[.int .i64 0,.int .i64 0] 42 (0,0)),sl 26 12 bv2 bw.length (encs eC bw),sl 26 12 fv fw.length (encs eC fw)]:=hD;
              replace hf:Fr a 246 [] ((100,ix vp ((ps.length-1-i)*2))::LZ550):=hf
              refine O.val hf rfl rfl rfl (RunV.ldG (j:=(ps.length-1-i)) (enc:=eP) (l:=ps) (us:=eP pb) T_agg_42 T_size_42 rfl eP_len rfl (hS.rdAt (j:=2) rfl) (by omega) (by rw [hpb])) ?_
              clear hf a; intro a hf
              exact O.nil ⟨rfl,hf.to trivial,(gt (d:=101) hf rfl rfl),hD⟩
            · exact absurd h2_ (by simp)
        · clear hf hf1 hS
          refine ⟨?_,?_,?_,trivial⟩
          · intro s g w hsp hD a hf
            obtain ⟨b_b13,b_a14⟩:=g
            have hS:St w0 w noX BZ550 [condA (s 13) (pt b_b13 (.cells #[.int .i64 0,.int .i64 0] 42 (0,0))),sl 26 12 bv2 bw.length (encs eC bw),sl 26 12 fv fw.length (encs eC fw)]:=hD;
            replace hf:Fr a 246 [] LZ550:=hf
            clear hD
            refine O.alloc (cs:=#[.int .i64 0,.int .i64 0]) hf hS rfl rfl T_zero_42 rfl ?_
            clear hf hS a; intro b_a15 w a hbb_a15 hS hf
            exact O.nil ⟨rfl,(b_b13,b_a15),hf.to trivial,(gt (d:=13) hf rfl rfl),(fun j_ hj_ ha_=>match j_,hj_,ha_ with | 0,hj_,ha_=>rfl | 1,hj_,ha_=>rfl | 2,hj_,ha_=>rfl | 3,hj_,ha_=>rfl | 4,hj_,ha_=>rfl | 5,hj_,ha_=>rfl | 6,hj_,ha_=>rfl | 7,hj_,ha_=>rfl | 8,hj_,ha_=>rfl | 9,hj_,ha_=>rfl | 10,hj_,ha_=>rfl | 11,hj_,ha_=>rfl | 12,hj_,ha_=>absurd rfl hj_ | 13,hj_,ha_=>rfl | 14,hj_,ha_=>absurd ha_ (by decide) | 15,hj_,ha_=>absurd ha_ (by decide) | _+16,_,_=>rfl),hS⟩
          · intro s g w hsp hD a hf
            obtain ⟨b_b13,b_a14⟩:=g
            have ha_:s 13=true:=hsp 13 (by simp)
            have hS:St w0 w noX BZ550 [pt b_a14 (.cells #[.int .i64 0,.int .i64 0] 42 (0,0)),condA (s 13) (pt b_b13 (.cells #[.int .i64 0,.int .i64 0] 42 (0,0))),sl 26 12 bv2 bw.length (encs eC bw),sl 26 12 fv fw.length (encs eC fw)]:=hD; rw [ha_] at hS
            replace hS:St w0 w noX BZ550 [pt b_a14 (.cells #[.int .i64 0,.int .i64 0] 42 (0,0)),pt b_b13 (.cells #[.int .i64 0,.int .i64 0] 42 (0,0)),sl 26 12 bv2 bw.length (encs eC bw),sl 26 12 fv fw.length (encs eC fw)]:=hS
            replace hf:Fr a 246 [] ((90,vp)::(91,.int .i64 (i:Int))::(92,ix vp (i*2))::(93,.agg #[.int .i64 pa.1,.int .i64 pa.2])::(13,.pointer (some ⟨b_a14,0,none⟩))::(14,.pointer (some ⟨b_b13,0,none⟩))::LZ550):=hf
            clear hD
            refine O.store (j:=0) (cs':=#[.int .i64 pa.1,.int .i64 pa.2]) (M':=[pt b_a14 (.cells #[.int .i64 pa.1,.int .i64 pa.2] 42 (0,0)),pt b_b13 (.cells #[.int .i64 0,.int .i64 0] 42 (0,0)),sl 26 12 bv2 bw.length (encs eC bw),sl 26 12 fv fw.length (encs eC fw)]) hf hS rfl rfl rfl T_size_42 rfl rfl rfl (Nat.le_of_ble_eq_true rfl) rfl rfl ?_
            clear hS; intro w hS
            exact O.nil ⟨rfl,(b_b13,b_a14),hf.to trivial,(fun d hd=>by cases (show none=some d from hd)),(fun j_ hj_ ha_=>match j_,hj_,ha_ with | 0,hj_,ha_=>rfl | 1,hj_,ha_=>rfl | 2,hj_,ha_=>rfl | 3,hj_,ha_=>rfl | 4,hj_,ha_=>rfl | 5,hj_,ha_=>rfl | 6,hj_,ha_=>rfl | 7,hj_,ha_=>rfl | 8,hj_,ha_=>rfl | 9,hj_,ha_=>rfl | 10,hj_,ha_=>rfl | 11,hj_,ha_=>rfl | 12,hj_,ha_=>rfl | 13,hj_,ha_=>rfl | 14,hj_,ha_=>absurd rfl hj_ | 15,hj_,ha_=>absurd ha_ (by decide) | _+16,_,_=>rfl),hS⟩
          · intro s g w hsp hD a hf
            obtain ⟨b_b13,b_a14⟩:=g
            have ha_:s 13=true:=hsp 13 (by simp)
            have hS:St w0 w noX BZ550 [pt b_a14 (.cells #[.int .i64 pa.1,.int .i64 pa.2] 42 (0,0)),pt b_b13 (.cells #[.int .i64 0,.int .i64 0] 42 (0,0)),sl 26 12 bv2 bw.length (encs eC bw),sl 26 12 fv fw.length (encs eC fw)]:=hD;
            replace hS:St w0 w noX BZ550 [pt b_a14 (.cells #[.int .i64 pa.1,.int .i64 pa.2] 42 (0,0)),pt b_b13 (.cells #[.int .i64 0,.int .i64 0] 42 (0,0)),sl 26 12 bv2 bw.length (encs eC bw),sl 26 12 fv fw.length (encs eC fw)]:=hS
            replace hf:Fr a 246 [] ((90,vp)::(91,.int .i64 (i:Int))::(92,ix vp (i*2))::(93,.agg #[.int .i64 pa.1,.int .i64 pa.2])::(94,vp)::(95,vp)::(96,.int .i64 (ps.length:Int))::(97,.int .i64 ((ps.length:Int)-1))::(98,.int .i64 (i:Int))::(99,.int .i64 (((ps.length:Int)-1)-(i:Int)))::(100,ix vp ((ps.length-1-i)*2))::(101,.agg #[.int .i64 pb.1,.int .i64 pb.2])::(13,.pointer (some ⟨b_a14,0,none⟩))::(14,.pointer (some ⟨b_b13,0,none⟩))::LZ550):=hf
            clear hD
            refine O.store (j:=1) (cs':=#[.int .i64 pb.1,.int .i64 pb.2]) (M':=[pt b_a14 (.cells #[.int .i64 pa.1,.int .i64 pa.2] 42 (0,0)),pt b_b13 (.cells #[.int .i64 pb.1,.int .i64 pb.2] 42 (0,0)),sl 26 12 bv2 bw.length (encs eC bw),sl 26 12 fv fw.length (encs eC fw)]) hf hS rfl rfl rfl T_size_42 rfl rfl rfl (Nat.le_of_ble_eq_true rfl) rfl rfl ?_
            clear hS; intro w hS
            exact O.nil ⟨rfl,(b_b13,b_a14),hf.to trivial,(fun d hd=>by cases (show none=some d from hd)),(fun j_ hj_ ha_=>match j_,hj_,ha_ with | 0,hj_,ha_=>rfl | 1,hj_,ha_=>rfl | 2,hj_,ha_=>rfl | 3,hj_,ha_=>rfl | 4,hj_,ha_=>rfl | 5,hj_,ha_=>rfl | 6,hj_,ha_=>rfl | 7,hj_,ha_=>rfl | 8,hj_,ha_=>rfl | 9,hj_,ha_=>rfl | 10,hj_,ha_=>rfl | 11,hj_,ha_=>rfl | 12,hj_,ha_=>rfl | 13,hj_,ha_=>rfl | 14,hj_,ha_=>rfl | 15,hj_,ha_=>absurd rfl hj_ | _+16,_,_=>rfl),hS⟩
        · clear hf hf1 hS
          refine ⟨?_,trivial⟩
          intro k s g w h1_ h2_ hs0 hD a hf
          obtain ⟨b_b13,b_a14⟩:=g
          rcases k with _ | _ | k
          · have hS:St w0 w noX BZ550 [condA (s 13) (pt b_b13 (.cells #[.int .i64 0,.int .i64 0] 42 (0,0))),sl 26 12 bv2 bw.length (encs eC bw),sl 26 12 fv fw.length (encs eC fw)]:=hD; clear hD
            replace hf:Fr a 246 [] LZ550:=hf
            refine O.allocC (j:=0) (cs:=#[.int .i64 0,.int .i64 0]) hf hS rfl hs0 rfl rfl T_zero_42 rfl ?_; clear hf hS a; intro b_s16 w a hS hf
            exact O.nil ⟨rfl,(b_s16,b_a14),hf.to trivial,(gt (d:=14) hf rfl rfl),(fun j_ hj_ ha_=>match j_,hj_,ha_ with | 0,hj_,ha_=>rfl | 1,hj_,ha_=>rfl | 2,hj_,ha_=>rfl | 3,hj_,ha_=>rfl | 4,hj_,ha_=>rfl | 5,hj_,ha_=>rfl | 6,hj_,ha_=>rfl | 7,hj_,ha_=>rfl | 8,hj_,ha_=>rfl | 9,hj_,ha_=>rfl | 10,hj_,ha_=>rfl | 11,hj_,ha_=>rfl | 12,hj_,ha_=>rfl | 13,hj_,ha_=>absurd rfl hj_ | 14,hj_,ha_=>absurd ha_ (by decide) | 15,hj_,ha_=>absurd ha_ (by decide) | _+16,_,_=>rfl),hS⟩
          · have hS:St w0 w noX BZ550 [pt b_a14 (.cells #[.int .i64 0,.int .i64 0] 42 (0,0)),condA (s 13) (pt b_b13 (.cells #[.int .i64 0,.int .i64 0] 42 (0,0))),sl 26 12 bv2 bw.length (encs eC bw),sl 26 12 fv fw.length (encs eC fw)]:=hD; clear hD
            replace hf:Fr a 246 [] LZ550:=hf
            refine O.allocC (j:=1) (cs:=#[.int .i64 0,.int .i64 0]) hf hS rfl hs0 rfl rfl T_zero_42 rfl ?_; clear hf hS a; intro b_s17 w a hS hf
            exact O.nil ⟨rfl,(b_s17,b_a14),hf.to trivial,(gt (d:=14) hf rfl rfl),(fun j_ hj_ ha_=>match j_,hj_,ha_ with | 0,hj_,ha_=>rfl | 1,hj_,ha_=>rfl | 2,hj_,ha_=>rfl | 3,hj_,ha_=>rfl | 4,hj_,ha_=>rfl | 5,hj_,ha_=>rfl | 6,hj_,ha_=>rfl | 7,hj_,ha_=>rfl | 8,hj_,ha_=>rfl | 9,hj_,ha_=>rfl | 10,hj_,ha_=>rfl | 11,hj_,ha_=>rfl | 12,hj_,ha_=>rfl | 13,hj_,ha_=>absurd rfl hj_ | 14,hj_,ha_=>absurd ha_ (by decide) | 15,hj_,ha_=>absurd ha_ (by decide) | _+16,_,_=>rfl),hS⟩
          · exact absurd h2_ (by simp)
        clear hf hf1 hS; intro s g a w hs_ hf hD
        obtain ⟨b_b13,b_a14⟩:=g
        have ha_:s 13=true:=hs_ 13 (by simp)
        have hS:St w0 w noX BZ550 [pt b_a14 (.cells #[.int .i64 pa.1,.int .i64 pa.2] 42 (0,0)),pt b_b13 (.cells #[.int .i64 pb.1,.int .i64 pb.2] 42 (0,0)),sl 26 12 bv2 bw.length (encs eC bw),sl 26 12 fv fw.length (encs eC fw)]:=hD; clear hD
        replace hf:Fr a 246 [] ((90,vp)::(91,.int .i64 (i:Int))::(92,ix vp (i*2))::(93,.agg #[.int .i64 pa.1,.int .i64 pa.2])::(94,vp)::(95,vp)::(96,.int .i64 (ps.length:Int))::(97,.int .i64 ((ps.length:Int)-1))::(98,.int .i64 (i:Int))::(99,.int .i64 (((ps.length:Int)-1)-(i:Int)))::(100,ix vp ((ps.length-1-i)*2))::(101,.agg #[.int .i64 pb.1,.int .i64 pb.2])::(13,.pointer (some ⟨b_a14,0,none⟩))::(14,.pointer (some ⟨b_b13,0,none⟩))::LZ550):=hf
        refine k_seq ?_
        replace hf:Fr a 246 [] [(0,vl),(1,vp),(5,.bool true),(7,fv),(8,bv2),(12,.int .i64 (i:Int)),(13,.pointer (some ⟨b_a14,0,none⟩)),(14,.pointer (some ⟨b_b13,0,none⟩))]:=hf.to ⟨rfl,rfl,rfl,rfl,rfl,rfl,rfl,rfl,trivial⟩
        refine W.seq ?_
        refine W.seq ?_
        refine W.regionL (l:=[0,1,2,3,4,5,6,7,8,9,10,11,12,13,14,15,16,17,18,19,20,21,22,23,24,25,26,27,28,29,30,31,32,33,34,35,36,37,38,39,40,41,42,43,44,45,46,47,48,49,50,51,52,53,54,55,56,57,58,59]) rfl ?_
        refine O.val hf rfl rfl rfl (RunV.indexArr (j:=0) (m:=0) T_arr_42 T_size_3 rfl rfl rfl (by omega) (by omega)) ?_
        clear hf a; intro a hf
        refine O.val hf rfl rfl rfl (RunV.load1 T_agg_3 rfl (hS.ptAt (i:=0) rfl) rfl) ?_
        clear hf a; intro a hf
        refine O.val (v:=.bool (decide (pa.1<(0:Int)))) hf rfl rfl rfl (RunV.lss rfl rfl) ?_
        clear hf a; intro a hf
        refine O.val hf rfl rfl rfl (RunV.move rfl) ?_
        clear hf a; intro a hf
        refine O.cutN (l₁:=[4,5,6,7,8,9]) (l₂:=_) (fun a w=>Fr a 246 [] [(0,vl),(1,vp),(5,.bool true),(7,fv),(8,bv2),(12,.int .i64 (i:Int)),(13,.pointer (some ⟨b_a14,0,none⟩)),(14,.pointer (some ⟨b_b13,0,none⟩)),(102,.pointer (some ⟨b_a14,0,none⟩)),(103,.int .i64 pa.1),(104,.bool (decide (pa.1<(0:Int)))),(105,.bool (decide (pa.1<(0:Int)))),(111,.bool ((decide (pa.1<(0:Int)))||(decide (pa.1≥((l.length:Int):Int)))))]∧St w0 w noX BZ550 [pt b_a14 (.cells #[.int .i64 pa.1,.int .i64 pa.2] 42 (0,0)),pt b_b13 (.cells #[.int .i64 pb.1,.int .i64 pb.2] 42 (0,0)),sl 26 12 bv2 bw.length (encs eC bw),sl 26 12 fv fw.length (encs eC fw)]) rfl ?_ ?_
        · rcases Bool.eq_false_or_eq_true (decide (pa.1<(0:Int))) with hb18 | hb18
          · have hb18p:=of_decide_eq_true hb18
            refine O.skipB hf rfl rfl rfl hb18 rfl ?_; clear hf a; intro a hf
            refine O.skipB hf rfl rfl rfl hb18 rfl ?_; clear hf a; intro a hf
            refine O.skipB hf rfl rfl rfl hb18 rfl ?_; clear hf a; intro a hf
            refine O.skipB hf rfl rfl rfl hb18 rfl ?_; clear hf a; intro a hf
            refine O.skipB hf rfl rfl rfl hb18 rfl ?_; clear hf a; intro a hf
            refine O.val (v:=.bool ((decide (pa.1<(0:Int)))||(decide (pa.1≥((l.length:Int):Int))))) hf rfl rfl rfl (RunV.pick rfl rfl rfl (by rw [hb18]; rfl)) ?_; clear hf a; intro a hf
            exact O.nil ⟨rfl,hf.to ⟨rfl,rfl,rfl,rfl,rfl,rfl,rfl,rfl,rfl,rfl,rfl,rfl,rfl,trivial⟩,hS⟩
          · have hb18p:=of_decide_eq_false hb18
            refine O.gvalB (v:=.pointer (some ⟨b_a14,0,none⟩)) hf rfl rfl rfl hb18 rfl rfl (RunV.indexArr (j:=0) (m:=0) T_arr_42 T_size_3 rfl rfl rfl (by omega) (by omega)) ?_
            clear hf a; intro a hf
            refine O.gvalB (v:=.int .i64 pa.1) hf rfl rfl rfl hb18 rfl rfl (RunV.load1 T_agg_3 rfl (hS.ptAt (i:=0) rfl) rfl) ?_
            clear hf a; intro a hf
            refine O.gvalB (v:=vl) hf rfl rfl rfl hb18 rfl rfl (RunV.move rfl) ?_
            clear hf a; intro a hf
            refine O.gvalB (v:=.int .i64 (l.length:Int)) hf rfl rfl rfl hb18 rfl rfl (RunV.lenV (e:=24) (by simpa using T_elem_35) rfl (hS.rdAt (j:=1) rfl)) ?_
            clear hf a; intro a hf
            refine O.gvalB (v:=.bool (decide (pa.1≥((l.length:Int):Int)))) hf rfl rfl rfl hb18 rfl rfl (RunV.geq rfl rfl) ?_
            clear hf a; intro a hf
            refine O.val (v:=.bool ((decide (pa.1<(0:Int)))||(decide (pa.1≥((l.length:Int):Int))))) hf rfl rfl rfl (RunV.pick rfl rfl rfl (by rw [hb18]; rfl)) ?_; clear hf a; intro a hf
            exact O.nil ⟨rfl,hf.to ⟨rfl,rfl,rfl,rfl,rfl,rfl,rfl,rfl,rfl,rfl,rfl,rfl,rfl,trivial⟩,hS⟩
        clear hf hS a; rintro a w ⟨hf,hS⟩
        refine O.val hf rfl rfl rfl (RunV.move rfl) ?_
        clear hf a; intro a hf
        refine O.cutN (l₁:=[11,12,13,14]) (l₂:=_) (fun a w=>Fr a 246 [] [(0,vl),(1,vp),(5,.bool true),(7,fv),(8,bv2),(12,.int .i64 (i:Int)),(13,.pointer (some ⟨b_a14,0,none⟩)),(14,.pointer (some ⟨b_b13,0,none⟩)),(102,.pointer (some ⟨b_a14,0,none⟩)),(103,.int .i64 pa.1),(104,.bool (decide (pa.1<(0:Int)))),(105,.bool (decide (pa.1<(0:Int)))),(111,.bool ((decide (pa.1<(0:Int)))||(decide (pa.1≥((l.length:Int):Int))))),(112,.bool ((decide (pa.1<(0:Int)))||(decide (pa.1≥((l.length:Int):Int))))),(116,.bool (((decide (pa.1<(0:Int)))||(decide (pa.1≥((l.length:Int):Int))))||(decide (pa.2<(0:Int)))))]∧St w0 w noX BZ550 [pt b_a14 (.cells #[.int .i64 pa.1,.int .i64 pa.2] 42 (0,0)),pt b_b13 (.cells #[.int .i64 pb.1,.int .i64 pb.2] 42 (0,0)),sl 26 12 bv2 bw.length (encs eC bw),sl 26 12 fv fw.length (encs eC fw)]) rfl ?_ ?_
        · rcases Bool.eq_false_or_eq_true ((decide (pa.1<(0:Int)))||(decide (pa.1≥((l.length:Int):Int)))) with hb19 | hb19
          · have hb19p:=hb19
            try simp only [Bool.and_eq_true,Bool.or_eq_true,Bool.and_eq_false_iff,Bool.or_eq_false_iff,decide_eq_true_eq,decide_eq_false_iff_not,Bool.not_eq_true',Bool.not_eq_false',Bool.not_eq_true,Bool.not_eq_false,ne_eq] at hb19p
            refine O.skipB hf rfl rfl rfl hb19 rfl ?_; clear hf a; intro a hf
            refine O.skipB hf rfl rfl rfl hb19 rfl ?_; clear hf a; intro a hf
            refine O.skipB hf rfl rfl rfl hb19 rfl ?_; clear hf a; intro a hf
            refine O.val (v:=.bool (((decide (pa.1<(0:Int)))||(decide (pa.1≥((l.length:Int):Int))))||(decide (pa.2<(0:Int))))) hf rfl rfl rfl (RunV.pick rfl rfl rfl (by rw [hb19]; rfl)) ?_; clear hf a; intro a hf
            exact O.nil ⟨rfl,hf.to ⟨rfl,rfl,rfl,rfl,rfl,rfl,rfl,rfl,rfl,rfl,rfl,rfl,rfl,rfl,rfl,trivial⟩,hS⟩
          · have hb19p:=hb19
            try simp only [Bool.and_eq_true,Bool.or_eq_true,Bool.and_eq_false_iff,Bool.or_eq_false_iff,decide_eq_true_eq,decide_eq_false_iff_not,Bool.not_eq_true',Bool.not_eq_false',Bool.not_eq_true,Bool.not_eq_false,ne_eq] at hb19p
            refine O.gvalB (v:=.pointer (some ⟨b_a14,1,none⟩)) hf rfl rfl rfl hb19 rfl rfl (RunV.indexArr (j:=1) (m:=1) T_arr_42 T_size_3 rfl rfl rfl (by omega) (by omega)) ?_
            clear hf a; intro a hf
            refine O.gvalB (v:=.int .i64 pa.2) hf rfl rfl rfl hb19 rfl rfl (RunV.load1 T_agg_3 rfl (hS.ptAt (i:=0) rfl) rfl) ?_
            clear hf a; intro a hf
            refine O.gvalB (v:=.bool (decide (pa.2<(0:Int)))) hf rfl rfl rfl hb19 rfl rfl (RunV.lss rfl rfl) ?_
            clear hf a; intro a hf
            refine O.val (v:=.bool (((decide (pa.1<(0:Int)))||(decide (pa.1≥((l.length:Int):Int))))||(decide (pa.2<(0:Int))))) hf rfl rfl rfl (RunV.pick rfl rfl rfl (by rw [hb19]; rfl)) ?_; clear hf a; intro a hf
            exact O.nil ⟨rfl,hf.to ⟨rfl,rfl,rfl,rfl,rfl,rfl,rfl,rfl,rfl,rfl,rfl,rfl,rfl,rfl,rfl,trivial⟩,hS⟩
        clear hf hS a; rintro a w ⟨hf,hS⟩
        refine O.val hf rfl rfl rfl (RunV.move rfl) ?_
        clear hf a; intro a hf
        refine O.cutN (l₁:=[16,17,18,19,20,21]) (l₂:=_) (fun a w=>Fr a 246 [] [(0,vl),(1,vp),(5,.bool true),(7,fv),(8,bv2),(12,.int .i64 (i:Int)),(13,.pointer (some ⟨b_a14,0,none⟩)),(14,.pointer (some ⟨b_b13,0,none⟩)),(102,.pointer (some ⟨b_a14,0,none⟩)),(103,.int .i64 pa.1),(104,.bool (decide (pa.1<(0:Int)))),(105,.bool (decide (pa.1<(0:Int)))),(111,.bool ((decide (pa.1<(0:Int)))||(decide (pa.1≥((l.length:Int):Int))))),(112,.bool ((decide (pa.1<(0:Int)))||(decide (pa.1≥((l.length:Int):Int))))),(116,.bool (((decide (pa.1<(0:Int)))||(decide (pa.1≥((l.length:Int):Int))))||(decide (pa.2<(0:Int))))),(117,.bool (((decide (pa.1<(0:Int)))||(decide (pa.1≥((l.length:Int):Int))))||(decide (pa.2<(0:Int))))),(123,.bool ((((decide (pa.1<(0:Int)))||(decide (pa.1≥((l.length:Int):Int))))||(decide (pa.2<(0:Int))))||(decide (pa.2≥((l.length:Int):Int)))))]∧St w0 w noX BZ550 [pt b_a14 (.cells #[.int .i64 pa.1,.int .i64 pa.2] 42 (0,0)),pt b_b13 (.cells #[.int .i64 pb.1,.int .i64 pb.2] 42 (0,0)),sl 26 12 bv2 bw.length (encs eC bw),sl 26 12 fv fw.length (encs eC fw)]) rfl ?_ ?_
        · rcases Bool.eq_false_or_eq_true (((decide (pa.1<(0:Int)))||(decide (pa.1≥((l.length:Int):Int))))||(decide (pa.2<(0:Int)))) with hb20 | hb20
          · have hb20p:=hb20
            try simp only [Bool.and_eq_true,Bool.or_eq_true,Bool.and_eq_false_iff,Bool.or_eq_false_iff,decide_eq_true_eq,decide_eq_false_iff_not,Bool.not_eq_true',Bool.not_eq_false',Bool.not_eq_true,Bool.not_eq_false,ne_eq] at hb20p
            refine O.skipB hf rfl rfl rfl hb20 rfl ?_; clear hf a; intro a hf
            refine O.skipB hf rfl rfl rfl hb20 rfl ?_; clear hf a; intro a hf
            refine O.skipB hf rfl rfl rfl hb20 rfl ?_; clear hf a; intro a hf
            refine O.skipB hf rfl rfl rfl hb20 rfl ?_; clear hf a; intro a hf
            refine O.skipB hf rfl rfl rfl hb20 rfl ?_; clear hf a; intro a hf
            refine O.val (v:=.bool ((((decide (pa.1<(0:Int)))||(decide (pa.1≥((l.length:Int):Int))))||(decide (pa.2<(0:Int))))||(decide (pa.2≥((l.length:Int):Int))))) hf rfl rfl rfl (RunV.pick rfl rfl rfl (by rw [hb20]; rfl)) ?_; clear hf a; intro a hf
            exact O.nil ⟨rfl,hf.to ⟨rfl,rfl,rfl,rfl,rfl,rfl,rfl,rfl,rfl,rfl,rfl,rfl,rfl,rfl,rfl,rfl,rfl,trivial⟩,hS⟩
          · have hb20p:=hb20
            try simp only [Bool.and_eq_true,Bool.or_eq_true,Bool.and_eq_false_iff,Bool.or_eq_false_iff,decide_eq_true_eq,decide_eq_false_iff_not,Bool.not_eq_true',Bool.not_eq_false',Bool.not_eq_true,Bool.not_eq_false,ne_eq] at hb20p
            refine O.gvalB (v:=.pointer (some ⟨b_a14,1,none⟩)) hf rfl rfl rfl hb20 rfl rfl (RunV.indexArr (j:=1) (m:=1) T_arr_42 T_size_3 rfl rfl rfl (by omega) (by omega)) ?_
            clear hf a; intro a hf
            refine O.gvalB (v:=.int .i64 pa.2) hf rfl rfl rfl hb20 rfl rfl (RunV.load1 T_agg_3 rfl (hS.ptAt (i:=0) rfl) rfl) ?_
            clear hf a; intro a hf
            refine O.gvalB (v:=vl) hf rfl rfl rfl hb20 rfl rfl (RunV.move rfl) ?_
            clear hf a; intro a hf
            refine O.gvalB (v:=.int .i64 (l.length:Int)) hf rfl rfl rfl hb20 rfl rfl (RunV.lenV (e:=24) (by simpa using T_elem_35) rfl (hS.rdAt (j:=1) rfl)) ?_
            clear hf a; intro a hf
            refine O.gvalB (v:=.bool (decide (pa.2≥((l.length:Int):Int)))) hf rfl rfl rfl hb20 rfl rfl (RunV.geq rfl rfl) ?_
            clear hf a; intro a hf
            refine O.val (v:=.bool ((((decide (pa.1<(0:Int)))||(decide (pa.1≥((l.length:Int):Int))))||(decide (pa.2<(0:Int))))||(decide (pa.2≥((l.length:Int):Int))))) hf rfl rfl rfl (RunV.pick rfl rfl rfl (by rw [hb20]; rfl)) ?_; clear hf a; intro a hf
            exact O.nil ⟨rfl,hf.to ⟨rfl,rfl,rfl,rfl,rfl,rfl,rfl,rfl,rfl,rfl,rfl,rfl,rfl,rfl,rfl,rfl,rfl,trivial⟩,hS⟩
        clear hf hS a; rintro a w ⟨hf,hS⟩
        refine O.val hf rfl rfl rfl (RunV.move rfl) ?_
        clear hf a; intro a hf
        refine O.cutN (l₁:=[23,24,25,26,27,28]) (l₂:=_) (fun a w=>Fr a 246 [] [(0,vl),(1,vp),(5,.bool true),(7,fv),(8,bv2),(12,.int .i64 (i:Int)),(13,.pointer (some ⟨b_a14,0,none⟩)),(14,.pointer (some ⟨b_b13,0,none⟩)),(102,.pointer (some ⟨b_a14,0,none⟩)),(103,.int .i64 pa.1),(104,.bool (decide (pa.1<(0:Int)))),(105,.bool (decide (pa.1<(0:Int)))),(111,.bool ((decide (pa.1<(0:Int)))||(decide (pa.1≥((l.length:Int):Int))))),(112,.bool ((decide (pa.1<(0:Int)))||(decide (pa.1≥((l.length:Int):Int))))),(116,.bool (((decide (pa.1<(0:Int)))||(decide (pa.1≥((l.length:Int):Int))))||(decide (pa.2<(0:Int))))),(117,.bool (((decide (pa.1<(0:Int)))||(decide (pa.1≥((l.length:Int):Int))))||(decide (pa.2<(0:Int))))),(123,.bool ((((decide (pa.1<(0:Int)))||(decide (pa.1≥((l.length:Int):Int))))||(decide (pa.2<(0:Int))))||(decide (pa.2≥((l.length:Int):Int))))),(124,.bool ((((decide (pa.1<(0:Int)))||(decide (pa.1≥((l.length:Int):Int))))||(decide (pa.2<(0:Int))))||(decide (pa.2≥((l.length:Int):Int))))),(130,.bool (((((decide (pa.1<(0:Int)))||(decide (pa.1≥((l.length:Int):Int))))||(decide (pa.2<(0:Int))))||(decide (pa.2≥((l.length:Int):Int))))||(decide (pa.1=(pa.2:Int)))))]∧St w0 w noX BZ550 [pt b_a14 (.cells #[.int .i64 pa.1,.int .i64 pa.2] 42 (0,0)),pt b_b13 (.cells #[.int .i64 pb.1,.int .i64 pb.2] 42 (0,0)),sl 26 12 bv2 bw.length (encs eC bw),sl 26 12 fv fw.length (encs eC fw)]) rfl ?_ ?_
        · rcases Bool.eq_false_or_eq_true ((((decide (pa.1<(0:Int)))||(decide (pa.1≥((l.length:Int):Int))))||(decide (pa.2<(0:Int))))||(decide (pa.2≥((l.length:Int):Int)))) with hb21 | hb21
          · have hb21p:=hb21
            try simp only [Bool.and_eq_true,Bool.or_eq_true,Bool.and_eq_false_iff,Bool.or_eq_false_iff,decide_eq_true_eq,decide_eq_false_iff_not,Bool.not_eq_true',Bool.not_eq_false',Bool.not_eq_true,Bool.not_eq_false,ne_eq] at hb21p
            refine O.skipB hf rfl rfl rfl hb21 rfl ?_; clear hf a; intro a hf
            refine O.skipB hf rfl rfl rfl hb21 rfl ?_; clear hf a; intro a hf
            refine O.skipB hf rfl rfl rfl hb21 rfl ?_; clear hf a; intro a hf
            refine O.skipB hf rfl rfl rfl hb21 rfl ?_; clear hf a; intro a hf
            refine O.skipB hf rfl rfl rfl hb21 rfl ?_; clear hf a; intro a hf
            refine O.val (v:=.bool (((((decide (pa.1<(0:Int)))||(decide (pa.1≥((l.length:Int):Int))))||(decide (pa.2<(0:Int))))||(decide (pa.2≥((l.length:Int):Int))))||(decide (pa.1=(pa.2:Int))))) hf rfl rfl rfl (RunV.pick rfl rfl rfl (by rw [hb21]; rfl)) ?_; clear hf a; intro a hf
            exact O.nil ⟨rfl,hf.to ⟨rfl,rfl,rfl,rfl,rfl,rfl,rfl,rfl,rfl,rfl,rfl,rfl,rfl,rfl,rfl,rfl,rfl,rfl,rfl,trivial⟩,hS⟩
          · have hb21p:=hb21
            try simp only [Bool.and_eq_true,Bool.or_eq_true,Bool.and_eq_false_iff,Bool.or_eq_false_iff,decide_eq_true_eq,decide_eq_false_iff_not,Bool.not_eq_true',Bool.not_eq_false',Bool.not_eq_true,Bool.not_eq_false,ne_eq] at hb21p
            refine O.gvalB (v:=.pointer (some ⟨b_a14,0,none⟩)) hf rfl rfl rfl hb21 rfl rfl (RunV.indexArr (j:=0) (m:=0) T_arr_42 T_size_3 rfl rfl rfl (by omega) (by omega)) ?_
            clear hf a; intro a hf
            refine O.gvalB (v:=.int .i64 pa.1) hf rfl rfl rfl hb21 rfl rfl (RunV.load1 T_agg_3 rfl (hS.ptAt (i:=0) rfl) rfl) ?_
            clear hf a; intro a hf
            refine O.gvalB (v:=.pointer (some ⟨b_a14,1,none⟩)) hf rfl rfl rfl hb21 rfl rfl (RunV.indexArr (j:=1) (m:=1) T_arr_42 T_size_3 rfl rfl rfl (by omega) (by omega)) ?_
            clear hf a; intro a hf
            refine O.gvalB (v:=.int .i64 pa.2) hf rfl rfl rfl hb21 rfl rfl (RunV.load1 T_agg_3 rfl (hS.ptAt (i:=0) rfl) rfl) ?_
            clear hf a; intro a hf
            refine O.gvalB (v:=.bool (decide (pa.1=(pa.2:Int)))) hf rfl rfl rfl hb21 rfl rfl (RunV.eql rfl rfl) ?_
            clear hf a; intro a hf
            refine O.val (v:=.bool (((((decide (pa.1<(0:Int)))||(decide (pa.1≥((l.length:Int):Int))))||(decide (pa.2<(0:Int))))||(decide (pa.2≥((l.length:Int):Int))))||(decide (pa.1=(pa.2:Int))))) hf rfl rfl rfl (RunV.pick rfl rfl rfl (by rw [hb21]; rfl)) ?_; clear hf a; intro a hf
            exact O.nil ⟨rfl,hf.to ⟨rfl,rfl,rfl,rfl,rfl,rfl,rfl,rfl,rfl,rfl,rfl,rfl,rfl,rfl,rfl,rfl,rfl,rfl,rfl,trivial⟩,hS⟩
        clear hf hS a; rintro a w ⟨hf,hS⟩
        refine O.val hf rfl rfl rfl (RunV.move rfl) ?_
        clear hf a; intro a hf
        refine O.cutN (l₁:=[30,31,32,33]) (l₂:=_) (fun a w=>Fr a 246 [] [(0,vl),(1,vp),(5,.bool true),(7,fv),(8,bv2),(12,.int .i64 (i:Int)),(13,.pointer (some ⟨b_a14,0,none⟩)),(14,.pointer (some ⟨b_b13,0,none⟩)),(102,.pointer (some ⟨b_a14,0,none⟩)),(103,.int .i64 pa.1),(104,.bool (decide (pa.1<(0:Int)))),(105,.bool (decide (pa.1<(0:Int)))),(111,.bool ((decide (pa.1<(0:Int)))||(decide (pa.1≥((l.length:Int):Int))))),(112,.bool ((decide (pa.1<(0:Int)))||(decide (pa.1≥((l.length:Int):Int))))),(116,.bool (((decide (pa.1<(0:Int)))||(decide (pa.1≥((l.length:Int):Int))))||(decide (pa.2<(0:Int))))),(117,.bool (((decide (pa.1<(0:Int)))||(decide (pa.1≥((l.length:Int):Int))))||(decide (pa.2<(0:Int))))),(123,.bool ((((decide (pa.1<(0:Int)))||(decide (pa.1≥((l.length:Int):Int))))||(decide (pa.2<(0:Int))))||(decide (pa.2≥((l.length:Int):Int))))),(124,.bool ((((decide (pa.1<(0:Int)))||(decide (pa.1≥((l.length:Int):Int))))||(decide (pa.2<(0:Int))))||(decide (pa.2≥((l.length:Int):Int))))),(130,.bool (((((decide (pa.1<(0:Int)))||(decide (pa.1≥((l.length:Int):Int))))||(decide (pa.2<(0:Int))))||(decide (pa.2≥((l.length:Int):Int))))||(decide (pa.1=(pa.2:Int))))),(131,.bool (((((decide (pa.1<(0:Int)))||(decide (pa.1≥((l.length:Int):Int))))||(decide (pa.2<(0:Int))))||(decide (pa.2≥((l.length:Int):Int))))||(decide (pa.1=(pa.2:Int))))),(135,.bool ((((((decide (pa.1<(0:Int)))||(decide (pa.1≥((l.length:Int):Int))))||(decide (pa.2<(0:Int))))||(decide (pa.2≥((l.length:Int):Int))))||(decide (pa.1=(pa.2:Int))))||(decide (pb.1<(0:Int)))))]∧St w0 w noX BZ550 [pt b_a14 (.cells #[.int .i64 pa.1,.int .i64 pa.2] 42 (0,0)),pt b_b13 (.cells #[.int .i64 pb.1,.int .i64 pb.2] 42 (0,0)),sl 26 12 bv2 bw.length (encs eC bw),sl 26 12 fv fw.length (encs eC fw)]) rfl ?_ ?_
        · rcases Bool.eq_false_or_eq_true (((((decide (pa.1<(0:Int)))||(decide (pa.1≥((l.length:Int):Int))))||(decide (pa.2<(0:Int))))||(decide (pa.2≥((l.length:Int):Int))))||(decide (pa.1=(pa.2:Int)))) with hb22 | hb22
          · have hb22p:=hb22
            try simp only [Bool.and_eq_true,Bool.or_eq_true,Bool.and_eq_false_iff,Bool.or_eq_false_iff,decide_eq_true_eq,decide_eq_false_iff_not,Bool.not_eq_true',Bool.not_eq_false',Bool.not_eq_true,Bool.not_eq_false,ne_eq] at hb22p
            refine O.skipB hf rfl rfl rfl hb22 rfl ?_; clear hf a; intro a hf
            refine O.skipB hf rfl rfl rfl hb22 rfl ?_; clear hf a; intro a hf
            refine O.skipB hf rfl rfl rfl hb22 rfl ?_; clear hf a; intro a hf
            refine O.val (v:=.bool ((((((decide (pa.1<(0:Int)))||(decide (pa.1≥((l.length:Int):Int))))||(decide (pa.2<(0:Int))))||(decide (pa.2≥((l.length:Int):Int))))||(decide (pa.1=(pa.2:Int))))||(decide (pb.1<(0:Int))))) hf rfl rfl rfl (RunV.pick rfl rfl rfl (by rw [hb22]; rfl)) ?_; clear hf a; intro a hf
            exact O.nil ⟨rfl,hf.to ⟨rfl,rfl,rfl,rfl,rfl,rfl,rfl,rfl,rfl,rfl,rfl,rfl,rfl,rfl,rfl,rfl,rfl,rfl,rfl,rfl,rfl,trivial⟩,hS⟩
          · have hb22p:=hb22
            try simp only [Bool.and_eq_true,Bool.or_eq_true,Bool.and_eq_false_iff,Bool.or_eq_false_iff,decide_eq_true_eq,decide_eq_false_iff_not,Bool.not_eq_true',Bool.not_eq_false',Bool.not_eq_true,Bool.not_eq_false,ne_eq] at hb22p
            refine O.gvalB (v:=.pointer (some ⟨b_b13,0,none⟩)) hf rfl rfl rfl hb22 rfl rfl (RunV.indexArr (j:=0) (m:=0) T_arr_42 T_size_3 rfl rfl rfl (by omega) (by omega)) ?_
            clear hf a; intro a hf
            refine O.gvalB (v:=.int .i64 pb.1) hf rfl rfl rfl hb22 rfl rfl (RunV.load1 T_agg_3 rfl (hS.ptAt (i:=1) rfl) rfl) ?_
            clear hf a; intro a hf
            refine O.gvalB (v:=.bool (decide (pb.1<(0:Int)))) hf rfl rfl rfl hb22 rfl rfl (RunV.lss rfl rfl) ?_
            clear hf a; intro a hf
            refine O.val (v:=.bool ((((((decide (pa.1<(0:Int)))||(decide (pa.1≥((l.length:Int):Int))))||(decide (pa.2<(0:Int))))||(decide (pa.2≥((l.length:Int):Int))))||(decide (pa.1=(pa.2:Int))))||(decide (pb.1<(0:Int))))) hf rfl rfl rfl (RunV.pick rfl rfl rfl (by rw [hb22]; rfl)) ?_; clear hf a; intro a hf
            exact O.nil ⟨rfl,hf.to ⟨rfl,rfl,rfl,rfl,rfl,rfl,rfl,rfl,rfl,rfl,rfl,rfl,rfl,rfl,rfl,rfl,rfl,rfl,rfl,rfl,rfl,trivial⟩,hS⟩
        clear hf hS a; rintro a w ⟨hf,hS⟩
        refine O.val hf rfl rfl rfl (RunV.move rfl) ?_
        clear hf a; intro a hf
        refine O.cutN (l₁:=[35,36,37,38,39,40]) (l₂:=_) (fun a w=>Fr a 246 [] [(0,vl),(1,vp),(5,.bool true),(7,fv),(8,bv2),(12,.int .i64 (i:Int)),(13,.pointer (some ⟨b_a14,0,none⟩)),(14,.pointer (some ⟨b_b13,0,none⟩)),(102,.pointer (some ⟨b_a14,0,none⟩)),(103,.int .i64 pa.1),(104,.bool (decide (pa.1<(0:Int)))),(105,.bool (decide (pa.1<(0:Int)))),(111,.bool ((decide (pa.1<(0:Int)))||(decide (pa.1≥((l.length:Int):Int))))),(112,.bool ((decide (pa.1<(0:Int)))||(decide (pa.1≥((l.length:Int):Int))))),(116,.bool (((decide (pa.1<(0:Int)))||(decide (pa.1≥((l.length:Int):Int))))||(decide (pa.2<(0:Int))))),(117,.bool (((decide (pa.1<(0:Int)))||(decide (pa.1≥((l.length:Int):Int))))||(decide (pa.2<(0:Int))))),(123,.bool ((((decide (pa.1<(0:Int)))||(decide (pa.1≥((l.length:Int):Int))))||(decide (pa.2<(0:Int))))||(decide (pa.2≥((l.length:Int):Int))))),(124,.bool ((((decide (pa.1<(0:Int)))||(decide (pa.1≥((l.length:Int):Int))))||(decide (pa.2<(0:Int))))||(decide (pa.2≥((l.length:Int):Int))))),(130,.bool (((((decide (pa.1<(0:Int)))||(decide (pa.1≥((l.length:Int):Int))))||(decide (pa.2<(0:Int))))||(decide (pa.2≥((l.length:Int):Int))))||(decide (pa.1=(pa.2:Int))))),(131,.bool (((((decide (pa.1<(0:Int)))||(decide (pa.1≥((l.length:Int):Int))))||(decide (pa.2<(0:Int))))||(decide (pa.2≥((l.length:Int):Int))))||(decide (pa.1=(pa.2:Int))))),(135,.bool ((((((decide (pa.1<(0:Int)))||(decide (pa.1≥((l.length:Int):Int))))||(decide (pa.2<(0:Int))))||(decide (pa.2≥((l.length:Int):Int))))||(decide (pa.1=(pa.2:Int))))||(decide (pb.1<(0:Int))))),(136,.bool ((((((decide (pa.1<(0:Int)))||(decide (pa.1≥((l.length:Int):Int))))||(decide (pa.2<(0:Int))))||(decide (pa.2≥((l.length:Int):Int))))||(decide (pa.1=(pa.2:Int))))||(decide (pb.1<(0:Int))))),(142,.bool (((((((decide (pa.1<(0:Int)))||(decide (pa.1≥((l.length:Int):Int))))||(decide (pa.2<(0:Int))))||(decide (pa.2≥((l.length:Int):Int))))||(decide (pa.1=(pa.2:Int))))||(decide (pb.1<(0:Int))))||(decide (pb.1≥((l.length:Int):Int)))))]∧St w0 w noX BZ550 [pt b_a14 (.cells #[.int .i64 pa.1,.int .i64 pa.2] 42 (0,0)),pt b_b13 (.cells #[.int .i64 pb.1,.int .i64 pb.2] 42 (0,0)),sl 26 12 bv2 bw.length (encs eC bw),sl 26 12 fv fw.length (encs eC fw)]) rfl ?_ ?_
        · rcases Bool.eq_false_or_eq_true ((((((decide (pa.1<(0:Int)))||(decide (pa.1≥((l.length:Int):Int))))||(decide (pa.2<(0:Int))))||(decide (pa.2≥((l.length:Int):Int))))||(decide (pa.1=(pa.2:Int))))||(decide (pb.1<(0:Int)))) with hb23 | hb23
          · have hb23p:=hb23
            try simp only [Bool.and_eq_true,Bool.or_eq_true,Bool.and_eq_false_iff,Bool.or_eq_false_iff,decide_eq_true_eq,decide_eq_false_iff_not,Bool.not_eq_true',Bool.not_eq_false',Bool.not_eq_true,Bool.not_eq_false,ne_eq] at hb23p
            refine O.skipB hf rfl rfl rfl hb23 rfl ?_; clear hf a; intro a hf
            refine O.skipB hf rfl rfl rfl hb23 rfl ?_; clear hf a; intro a hf
            refine O.skipB hf rfl rfl rfl hb23 rfl ?_; clear hf a; intro a hf
            refine O.skipB hf rfl rfl rfl hb23 rfl ?_; clear hf a; intro a hf
            refine O.skipB hf rfl rfl rfl hb23 rfl ?_; clear hf a; intro a hf
            refine O.val (v:=.bool (((((((decide (pa.1<(0:Int)))||(decide (pa.1≥((l.length:Int):Int))))||(decide (pa.2<(0:Int))))||(decide (pa.2≥((l.length:Int):Int))))||(decide (pa.1=(pa.2:Int))))||(decide (pb.1<(0:Int))))||(decide (pb.1≥((l.length:Int):Int))))) hf rfl rfl rfl (RunV.pick rfl rfl rfl (by rw [hb23]; rfl)) ?_; clear hf a; intro a hf
            exact O.nil ⟨rfl,hf.to ⟨rfl,rfl,rfl,rfl,rfl,rfl,rfl,rfl,rfl,rfl,rfl,rfl,rfl,rfl,rfl,rfl,rfl,rfl,rfl,rfl,rfl,rfl,rfl,trivial⟩,hS⟩
          · have hb23p:=hb23
            try simp only [Bool.and_eq_true,Bool.or_eq_true,Bool.and_eq_false_iff,Bool.or_eq_false_iff,decide_eq_true_eq,decide_eq_false_iff_not,Bool.not_eq_true',Bool.not_eq_false',Bool.not_eq_true,Bool.not_eq_false,ne_eq] at hb23p
            refine O.gvalB (v:=.pointer (some ⟨b_b13,0,none⟩)) hf rfl rfl rfl hb23 rfl rfl (RunV.indexArr (j:=0) (m:=0) T_arr_42 T_size_3 rfl rfl rfl (by omega) (by omega)) ?_
            clear hf a; intro a hf
            refine O.gvalB (v:=.int .i64 pb.1) hf rfl rfl rfl hb23 rfl rfl (RunV.load1 T_agg_3 rfl (hS.ptAt (i:=1) rfl) rfl) ?_
            clear hf a; intro a hf
            refine O.gvalB (v:=vl) hf rfl rfl rfl hb23 rfl rfl (RunV.move rfl) ?_
            clear hf a; intro a hf
            refine O.gvalB (v:=.int .i64 (l.length:Int)) hf rfl rfl rfl hb23 rfl rfl (RunV.lenV (e:=24) (by simpa using T_elem_35) rfl (hS.rdAt (j:=1) rfl)) ?_
            clear hf a; intro a hf
            refine O.gvalB (v:=.bool (decide (pb.1≥((l.length:Int):Int)))) hf rfl rfl rfl hb23 rfl rfl (RunV.geq rfl rfl) ?_
            clear hf a; intro a hf
            refine O.val (v:=.bool (((((((decide (pa.1<(0:Int)))||(decide (pa.1≥((l.length:Int):Int))))||(decide (pa.2<(0:Int))))||(decide (pa.2≥((l.length:Int):Int))))||(decide (pa.1=(pa.2:Int))))||(decide (pb.1<(0:Int))))||(decide (pb.1≥((l.length:Int):Int))))) hf rfl rfl rfl (RunV.pick rfl rfl rfl (by rw [hb23]; rfl)) ?_; clear hf a; intro a hf
            exact O.nil ⟨rfl,hf.to ⟨rfl,rfl,rfl,rfl,rfl,rfl,rfl,rfl,rfl,rfl,rfl,rfl,rfl,rfl,rfl,rfl,rfl,rfl,rfl,rfl,rfl,rfl,rfl,trivial⟩,hS⟩
        clear hf hS a; rintro a w ⟨hf,hS⟩
        refine O.val hf rfl rfl rfl (RunV.move rfl) ?_
        clear hf a; intro a hf
        refine O.cutN (l₁:=[42,43,44,45]) (l₂:=_) (fun a w=>Fr a 246 [] [(0,vl),(1,vp),(5,.bool true),(7,fv),(8,bv2),(12,.int .i64 (i:Int)),(13,.pointer (some ⟨b_a14,0,none⟩)),(14,.pointer (some ⟨b_b13,0,none⟩)),(102,.pointer (some ⟨b_a14,0,none⟩)),(103,.int .i64 pa.1),(104,.bool (decide (pa.1<(0:Int)))),(105,.bool (decide (pa.1<(0:Int)))),(111,.bool ((decide (pa.1<(0:Int)))||(decide (pa.1≥((l.length:Int):Int))))),(112,.bool ((decide (pa.1<(0:Int)))||(decide (pa.1≥((l.length:Int):Int))))),(116,.bool (((decide (pa.1<(0:Int)))||(decide (pa.1≥((l.length:Int):Int))))||(decide (pa.2<(0:Int))))),(117,.bool (((decide (pa.1<(0:Int)))||(decide (pa.1≥((l.length:Int):Int))))||(decide (pa.2<(0:Int))))),(123,.bool ((((decide (pa.1<(0:Int)))||(decide (pa.1≥((l.length:Int):Int))))||(decide (pa.2<(0:Int))))||(decide (pa.2≥((l.length:Int):Int))))),(124,.bool ((((decide (pa.1<(0:Int)))||(decide (pa.1≥((l.length:Int):Int))))||(decide (pa.2<(0:Int))))||(decide (pa.2≥((l.length:Int):Int))))),(130,.bool (((((decide (pa.1<(0:Int)))||(decide (pa.1≥((l.length:Int):Int))))||(decide (pa.2<(0:Int))))||(decide (pa.2≥((l.length:Int):Int))))||(decide (pa.1=(pa.2:Int))))),(131,.bool (((((decide (pa.1<(0:Int)))||(decide (pa.1≥((l.length:Int):Int))))||(decide (pa.2<(0:Int))))||(decide (pa.2≥((l.length:Int):Int))))||(decide (pa.1=(pa.2:Int))))),(135,.bool ((((((decide (pa.1<(0:Int)))||(decide (pa.1≥((l.length:Int):Int))))||(decide (pa.2<(0:Int))))||(decide (pa.2≥((l.length:Int):Int))))||(decide (pa.1=(pa.2:Int))))||(decide (pb.1<(0:Int))))),(136,.bool ((((((decide (pa.1<(0:Int)))||(decide (pa.1≥((l.length:Int):Int))))||(decide (pa.2<(0:Int))))||(decide (pa.2≥((l.length:Int):Int))))||(decide (pa.1=(pa.2:Int))))||(decide (pb.1<(0:Int))))),(142,.bool (((((((decide (pa.1<(0:Int)))||(decide (pa.1≥((l.length:Int):Int))))||(decide (pa.2<(0:Int))))||(decide (pa.2≥((l.length:Int):Int))))||(decide (pa.1=(pa.2:Int))))||(decide (pb.1<(0:Int))))||(decide (pb.1≥((l.length:Int):Int))))),(143,.bool (((((((decide (pa.1<(0:Int)))||(decide (pa.1≥((l.length:Int):Int))))||(decide (pa.2<(0:Int))))||(decide (pa.2≥((l.length:Int):Int))))||(decide (pa.1=(pa.2:Int))))||(decide (pb.1<(0:Int))))||(decide (pb.1≥((l.length:Int):Int))))),(147,.bool ((((((((decide (pa.1<(0:Int)))||(decide (pa.1≥((l.length:Int):Int))))||(decide (pa.2<(0:Int))))||(decide (pa.2≥((l.length:Int):Int))))||(decide (pa.1=(pa.2:Int))))||(decide (pb.1<(0:Int))))||(decide (pb.1≥((l.length:Int):Int))))||(decide (pb.2<(0:Int)))))]∧St w0 w noX BZ550 [pt b_a14 (.cells #[.int .i64 pa.1,.int .i64 pa.2] 42 (0,0)),pt b_b13 (.cells #[.int .i64 pb.1,.int .i64 pb.2] 42 (0,0)),sl 26 12 bv2 bw.length (encs eC bw),sl 26 12 fv fw.length (encs eC fw)]) rfl ?_ ?_
        · rcases Bool.eq_false_or_eq_true (((((((decide (pa.1<(0:Int)))||(decide (pa.1≥((l.length:Int):Int))))||(decide (pa.2<(0:Int))))||(decide (pa.2≥((l.length:Int):Int))))||(decide (pa.1=(pa.2:Int))))||(decide (pb.1<(0:Int))))||(decide (pb.1≥((l.length:Int):Int)))) with hb24 | hb24
          · have hb24p:=hb24
            try simp only [Bool.and_eq_true,Bool.or_eq_true,Bool.and_eq_false_iff,Bool.or_eq_false_iff,decide_eq_true_eq,decide_eq_false_iff_not,Bool.not_eq_true',Bool.not_eq_false',Bool.not_eq_true,Bool.not_eq_false,ne_eq] at hb24p
            refine O.skipB hf rfl rfl rfl hb24 rfl ?_; clear hf a; intro a hf
            refine O.skipB hf rfl rfl rfl hb24 rfl ?_; clear hf a; intro a hf
            refine O.skipB hf rfl rfl rfl hb24 rfl ?_; clear hf a; intro a hf
            refine O.val (v:=.bool ((((((((decide (pa.1<(0:Int)))||(decide (pa.1≥((l.length:Int):Int))))||(decide (pa.2<(0:Int))))||(decide (pa.2≥((l.length:Int):Int))))||(decide (pa.1=(pa.2:Int))))||(decide (pb.1<(0:Int))))||(decide (pb.1≥((l.length:Int):Int))))||(decide (pb.2<(0:Int))))) hf rfl rfl rfl (RunV.pick rfl rfl rfl (by rw [hb24]; rfl)) ?_; clear hf a; intro a hf
            exact O.nil ⟨rfl,hf.to ⟨rfl,rfl,rfl,rfl,rfl,rfl,rfl,rfl,rfl,rfl,rfl,rfl,rfl,rfl,rfl,rfl,rfl,rfl,rfl,rfl,rfl,rfl,rfl,rfl,rfl,trivial⟩,hS⟩
          · have hb24p:=hb24
            try simp only [Bool.and_eq_true,Bool.or_eq_true,Bool.and_eq_false_iff,Bool.or_eq_false_iff,decide_eq_true_eq,decide_eq_false_iff_not,Bool.not_eq_true',Bool.not_eq_false',Bool.not_eq_true,Bool.not_eq_false,ne_eq] at hb24p
            refine O.gvalB (v:=.pointer (some ⟨b_b13,1,none⟩)) hf rfl rfl rfl hb24 rfl rfl (RunV.indexArr (j:=1) (m:=1) T_arr_42 T_size_3 rfl rfl rfl (by omega) (by omega)) ?_
            clear hf a; intro a hf
            refine O.gvalB (v:=.int .i64 pb.2) hf rfl rfl rfl hb24 rfl rfl (RunV.load1 T_agg_3 rfl (hS.ptAt (i:=1) rfl) rfl) ?_
            clear hf a; intro a hf
            refine O.gvalB (v:=.bool (decide (pb.2<(0:Int)))) hf rfl rfl rfl hb24 rfl rfl (RunV.lss rfl rfl) ?_
            clear hf a; intro a hf
            refine O.val (v:=.bool ((((((((decide (pa.1<(0:Int)))||(decide (pa.1≥((l.length:Int):Int))))||(decide (pa.2<(0:Int))))||(decide (pa.2≥((l.length:Int):Int))))||(decide (pa.1=(pa.2:Int))))||(decide (pb.1<(0:Int))))||(decide (pb.1≥((l.length:Int):Int))))||(decide (pb.2<(0:Int))))) hf rfl rfl rfl (RunV.pick rfl rfl rfl (by rw [hb24]; rfl)) ?_; clear hf a; intro a hf
            exact O.nil ⟨rfl,hf.to ⟨rfl,rfl,rfl,rfl,rfl,rfl,rfl,rfl,rfl,rfl,rfl,rfl,rfl,rfl,rfl,rfl,rfl,rfl,rfl,rfl,rfl,rfl,rfl,rfl,rfl,trivial⟩,hS⟩
        clear hf hS a; rintro a w ⟨hf,hS⟩
        refine O.val hf rfl rfl rfl (RunV.move rfl) ?_
        clear hf a; intro a hf
        refine O.cutN (l₁:=[47,48,49,50,51,52]) (l₂:=_) (fun a w=>Fr a 246 [] [(0,vl),(1,vp),(5,.bool true),(7,fv),(8,bv2),(12,.int .i64 (i:Int)),(13,.pointer (some ⟨b_a14,0,none⟩)),(14,.pointer (some ⟨b_b13,0,none⟩)),(102,.pointer (some ⟨b_a14,0,none⟩)),(103,.int .i64 pa.1),(104,.bool (decide (pa.1<(0:Int)))),(105,.bool (decide (pa.1<(0:Int)))),(111,.bool ((decide (pa.1<(0:Int)))||(decide (pa.1≥((l.length:Int):Int))))),(112,.bool ((decide (pa.1<(0:Int)))||(decide (pa.1≥((l.length:Int):Int))))),(116,.bool (((decide (pa.1<(0:Int)))||(decide (pa.1≥((l.length:Int):Int))))||(decide (pa.2<(0:Int))))),(117,.bool (((decide (pa.1<(0:Int)))||(decide (pa.1≥((l.length:Int):Int))))||(decide (pa.2<(0:Int))))),(123,.bool ((((decide (pa.1<(0:Int)))||(decide (pa.1≥((l.length:Int):Int))))||(decide (pa.2<(0:Int))))||(decide (pa.2≥((l.length:Int):Int))))),(124,.bool ((((decide (pa.1<(0:Int)))||(decide (pa.1≥((l.length:Int):Int))))||(decide (pa.2<(0:Int))))||(decide (pa.2≥((l.length:Int):Int))))),(130,.bool (((((decide (pa.1<(0:Int)))||(decide (pa.1≥((l.length:Int):Int))))||(decide (pa.2<(0:Int))))||(decide (pa.2≥((l.length:Int):Int))))||(decide (pa.1=(pa.2:Int))))),(131,.bool (((((decide (pa.1<(0:Int)))||(decide (pa.1≥((l.length:Int):Int))))||(decide (pa.2<(0:Int))))||(decide (pa.2≥((l.length:Int):Int))))||(decide (pa.1=(pa.2:Int))))),(135,.bool ((((((decide (pa.1<(0:Int)))||(decide (pa.1≥((l.length:Int):Int))))||(decide (pa.2<(0:Int))))||(decide (pa.2≥((l.length:Int):Int))))||(decide (pa.1=(pa.2:Int))))||(decide (pb.1<(0:Int))))),(136,.bool ((((((decide (pa.1<(0:Int)))||(decide (pa.1≥((l.length:Int):Int))))||(decide (pa.2<(0:Int))))||(decide (pa.2≥((l.length:Int):Int))))||(decide (pa.1=(pa.2:Int))))||(decide (pb.1<(0:Int))))),(142,.bool (((((((decide (pa.1<(0:Int)))||(decide (pa.1≥((l.length:Int):Int))))||(decide (pa.2<(0:Int))))||(decide (pa.2≥((l.length:Int):Int))))||(decide (pa.1=(pa.2:Int))))||(decide (pb.1<(0:Int))))||(decide (pb.1≥((l.length:Int):Int))))),(143,.bool (((((((decide (pa.1<(0:Int)))||(decide (pa.1≥((l.length:Int):Int))))||(decide (pa.2<(0:Int))))||(decide (pa.2≥((l.length:Int):Int))))||(decide (pa.1=(pa.2:Int))))||(decide (pb.1<(0:Int))))||(decide (pb.1≥((l.length:Int):Int))))),(147,.bool ((((((((decide (pa.1<(0:Int)))||(decide (pa.1≥((l.length:Int):Int))))||(decide (pa.2<(0:Int))))||(decide (pa.2≥((l.length:Int):Int))))||(decide (pa.1=(pa.2:Int))))||(decide (pb.1<(0:Int))))||(decide (pb.1≥((l.length:Int):Int))))||(decide (pb.2<(0:Int))))),(148,.bool ((((((((decide (pa.1<(0:Int)))||(decide (pa.1≥((l.length:Int):Int))))||(decide (pa.2<(0:Int))))||(decide (pa.2≥((l.length:Int):Int))))||(decide (pa.1=(pa.2:Int))))||(decide (pb.1<(0:Int))))||(decide (pb.1≥((l.length:Int):Int))))||(decide (pb.2<(0:Int))))),(154,.bool (((((((((decide (pa.1<(0:Int)))||(decide (pa.1≥((l.length:Int):Int))))||(decide (pa.2<(0:Int))))||(decide (pa.2≥((l.length:Int):Int))))||(decide (pa.1=(pa.2:Int))))||(decide (pb.1<(0:Int))))||(decide (pb.1≥((l.length:Int):Int))))||(decide (pb.2<(0:Int))))||(decide (pb.2≥((l.length:Int):Int)))))]∧St w0 w noX BZ550 [pt b_a14 (.cells #[.int .i64 pa.1,.int .i64 pa.2] 42 (0,0)),pt b_b13 (.cells #[.int .i64 pb.1,.int .i64 pb.2] 42 (0,0)),sl 26 12 bv2 bw.length (encs eC bw),sl 26 12 fv fw.length (encs eC fw)]) rfl ?_ ?_
        · rcases Bool.eq_false_or_eq_true ((((((((decide (pa.1<(0:Int)))||(decide (pa.1≥((l.length:Int):Int))))||(decide (pa.2<(0:Int))))||(decide (pa.2≥((l.length:Int):Int))))||(decide (pa.1=(pa.2:Int))))||(decide (pb.1<(0:Int))))||(decide (pb.1≥((l.length:Int):Int))))||(decide (pb.2<(0:Int)))) with hb25 | hb25
          · have hb25p:=hb25
            try simp only [Bool.and_eq_true,Bool.or_eq_true,Bool.and_eq_false_iff,Bool.or_eq_false_iff,decide_eq_true_eq,decide_eq_false_iff_not,Bool.not_eq_true',Bool.not_eq_false',Bool.not_eq_true,Bool.not_eq_false,ne_eq] at hb25p
            refine O.skipB hf rfl rfl rfl hb25 rfl ?_; clear hf a; intro a hf
            refine O.skipB hf rfl rfl rfl hb25 rfl ?_; clear hf a; intro a hf
            refine O.skipB hf rfl rfl rfl hb25 rfl ?_; clear hf a; intro a hf
            refine O.skipB hf rfl rfl rfl hb25 rfl ?_; clear hf a; intro a hf
            refine O.skipB hf rfl rfl rfl hb25 rfl ?_; clear hf a; intro a hf
            refine O.val (v:=.bool (((((((((decide (pa.1<(0:Int)))||(decide (pa.1≥((l.length:Int):Int))))||(decide (pa.2<(0:Int))))||(decide (pa.2≥((l.length:Int):Int))))||(decide (pa.1=(pa.2:Int))))||(decide (pb.1<(0:Int))))||(decide (pb.1≥((l.length:Int):Int))))||(decide (pb.2<(0:Int))))||(decide (pb.2≥((l.length:Int):Int))))) hf rfl rfl rfl (RunV.pick rfl rfl rfl (by rw [hb25]; rfl)) ?_; clear hf a; intro a hf
            exact O.nil ⟨rfl,hf.to ⟨rfl,rfl,rfl,rfl,rfl,rfl,rfl,rfl,rfl,rfl,rfl,rfl,rfl,rfl,rfl,rfl,rfl,rfl,rfl,rfl,rfl,rfl,rfl,rfl,rfl,rfl,rfl,trivial⟩,hS⟩
          · have hb25p:=hb25
            try simp only [Bool.and_eq_true,Bool.or_eq_true,Bool.and_eq_false_iff,Bool.or_eq_false_iff,decide_eq_true_eq,decide_eq_false_iff_not,Bool.not_eq_true',Bool.not_eq_false',Bool.not_eq_true,Bool.not_eq_false,ne_eq] at hb25p
            refine O.gvalB (v:=.pointer (some ⟨b_b13,1,none⟩)) hf rfl rfl rfl hb25 rfl rfl (RunV.indexArr (j:=1) (m:=1) T_arr_42 T_size_3 rfl rfl rfl (by omega) (by omega)) ?_
            clear hf a; intro a hf
            refine O.gvalB (v:=.int .i64 pb.2) hf rfl rfl rfl hb25 rfl rfl (RunV.load1 T_agg_3 rfl (hS.ptAt (i:=1) rfl) rfl) ?_
            clear hf a; intro a hf
            refine O.gvalB (v:=vl) hf rfl rfl rfl hb25 rfl rfl (RunV.move rfl) ?_
            clear hf a; intro a hf
            refine O.gvalB (v:=.int .i64 (l.length:Int)) hf rfl rfl rfl hb25 rfl rfl (RunV.lenV (e:=24) (by simpa using T_elem_35) rfl (hS.rdAt (j:=1) rfl)) ?_
            clear hf a; intro a hf
            refine O.gvalB (v:=.bool (decide (pb.2≥((l.length:Int):Int)))) hf rfl rfl rfl hb25 rfl rfl (RunV.geq rfl rfl) ?_
            clear hf a; intro a hf
            refine O.val (v:=.bool (((((((((decide (pa.1<(0:Int)))||(decide (pa.1≥((l.length:Int):Int))))||(decide (pa.2<(0:Int))))||(decide (pa.2≥((l.length:Int):Int))))||(decide (pa.1=(pa.2:Int))))||(decide (pb.1<(0:Int))))||(decide (pb.1≥((l.length:Int):Int))))||(decide (pb.2<(0:Int))))||(decide (pb.2≥((l.length:Int):Int))))) hf rfl rfl rfl (RunV.pick rfl rfl rfl (by rw [hb25]; rfl)) ?_; clear hf a; intro a hf
            exact O.nil ⟨rfl,hf.to ⟨rfl,rfl,rfl,rfl,rfl,rfl,rfl,rfl,rfl,rfl,rfl,rfl,rfl,rfl,rfl,rfl,rfl,rfl,rfl,rfl,rfl,rfl,rfl,rfl,rfl,rfl,rfl,trivial⟩,hS⟩
        clear hf hS a; rintro a w ⟨hf,hS⟩
        refine O.val hf rfl rfl rfl (RunV.move rfl) ?_
        clear hf a; intro a hf
        refine O.cutN (l₁:=[54,55,56,57,58,59]) (l₂:=_) (fun a w=>Fr a 246 [] [(0,vl),(1,vp),(5,.bool true),(7,fv),(8,bv2),(12,.int .i64 (i:Int)),(13,.pointer (some ⟨b_a14,0,none⟩)),(14,.pointer (some ⟨b_b13,0,none⟩)),(102,.pointer (some ⟨b_a14,0,none⟩)),(103,.int .i64 pa.1),(104,.bool (decide (pa.1<(0:Int)))),(105,.bool (decide (pa.1<(0:Int)))),(111,.bool ((decide (pa.1<(0:Int)))||(decide (pa.1≥((l.length:Int):Int))))),(112,.bool ((decide (pa.1<(0:Int)))||(decide (pa.1≥((l.length:Int):Int))))),(116,.bool (((decide (pa.1<(0:Int)))||(decide (pa.1≥((l.length:Int):Int))))||(decide (pa.2<(0:Int))))),(117,.bool (((decide (pa.1<(0:Int)))||(decide (pa.1≥((l.length:Int):Int))))||(decide (pa.2<(0:Int))))),(123,.bool ((((decide (pa.1<(0:Int)))||(decide (pa.1≥((l.length:Int):Int))))||(decide (pa.2<(0:Int))))||(decide (pa.2≥((l.length:Int):Int))))),(124,.bool ((((decide (pa.1<(0:Int)))||(decide (pa.1≥((l.length:Int):Int))))||(decide (pa.2<(0:Int))))||(decide (pa.2≥((l.length:Int):Int))))),(130,.bool (((((decide (pa.1<(0:Int)))||(decide (pa.1≥((l.length:Int):Int))))||(decide (pa.2<(0:Int))))||(decide (pa.2≥((l.length:Int):Int))))||(decide (pa.1=(pa.2:Int))))),(131,.bool (((((decide (pa.1<(0:Int)))||(decide (pa.1≥((l.length:Int):Int))))||(decide (pa.2<(0:Int))))||(decide (pa.2≥((l.length:Int):Int))))||(decide (pa.1=(pa.2:Int))))),(135,.bool ((((((decide (pa.1<(0:Int)))||(decide (pa.1≥((l.length:Int):Int))))||(decide (pa.2<(0:Int))))||(decide (pa.2≥((l.length:Int):Int))))||(decide (pa.1=(pa.2:Int))))||(decide (pb.1<(0:Int))))),(136,.bool ((((((decide (pa.1<(0:Int)))||(decide (pa.1≥((l.length:Int):Int))))||(decide (pa.2<(0:Int))))||(decide (pa.2≥((l.length:Int):Int))))||(decide (pa.1=(pa.2:Int))))||(decide (pb.1<(0:Int))))),(142,.bool (((((((decide (pa.1<(0:Int)))||(decide (pa.1≥((l.length:Int):Int))))||(decide (pa.2<(0:Int))))||(decide (pa.2≥((l.length:Int):Int))))||(decide (pa.1=(pa.2:Int))))||(decide (pb.1<(0:Int))))||(decide (pb.1≥((l.length:Int):Int))))),(143,.bool (((((((decide (pa.1<(0:Int)))||(decide (pa.1≥((l.length:Int):Int))))||(decide (pa.2<(0:Int))))||(decide (pa.2≥((l.length:Int):Int))))||(decide (pa.1=(pa.2:Int))))||(decide (pb.1<(0:Int))))||(decide (pb.1≥((l.length:Int):Int))))),(147,.bool ((((((((decide (pa.1<(0:Int)))||(decide (pa.1≥((l.length:Int):Int))))||(decide (pa.2<(0:Int))))||(decide (pa.2≥((l.length:Int):Int))))||(decide (pa.1=(pa.2:Int))))||(decide (pb.1<(0:Int))))||(decide (pb.1≥((l.length:Int):Int))))||(decide (pb.2<(0:Int))))),(148,.bool ((((((((decide (pa.1<(0:Int)))||(decide (pa.1≥((l.length:Int):Int))))||(decide (pa.2<(0:Int))))||(decide (pa.2≥((l.length:Int):Int))))||(decide (pa.1=(pa.2:Int))))||(decide (pb.1<(0:Int))))||(decide (pb.1≥((l.length:Int):Int))))||(decide (pb.2<(0:Int))))),(154,.bool (((((((((decide (pa.1<(0:Int)))||(decide (pa.1≥((l.length:Int):Int))))||(decide (pa.2<(0:Int))))||(decide (pa.2≥((l.length:Int):Int))))||(decide (pa.1=(pa.2:Int))))||(decide (pb.1<(0:Int))))||(decide (pb.1≥((l.length:Int):Int))))||(decide (pb.2<(0:Int))))||(decide (pb.2≥((l.length:Int):Int))))),(155,.bool (((((((((decide (pa.1<(0:Int)))||(decide (pa.1≥((l.length:Int):Int))))||(decide (pa.2<(0:Int))))||(decide (pa.2≥((l.length:Int):Int))))||(decide (pa.1=(pa.2:Int))))||(decide (pb.1<(0:Int))))||(decide (pb.1≥((l.length:Int):Int))))||(decide (pb.2<(0:Int))))||(decide (pb.2≥((l.length:Int):Int))))),(161,.bool ((((((((((decide (pa.1<(0:Int)))||(decide (pa.1≥((l.length:Int):Int))))||(decide (pa.2<(0:Int))))||(decide (pa.2≥((l.length:Int):Int))))||(decide (pa.1=(pa.2:Int))))||(decide (pb.1<(0:Int))))||(decide (pb.1≥((l.length:Int):Int))))||(decide (pb.2<(0:Int))))||(decide (pb.2≥((l.length:Int):Int))))||(decide (pb.1=(pb.2:Int)))))]∧St w0 w noX BZ550 [pt b_a14 (.cells #[.int .i64 pa.1,.int .i64 pa.2] 42 (0,0)),pt b_b13 (.cells #[.int .i64 pb.1,.int .i64 pb.2] 42 (0,0)),sl 26 12 bv2 bw.length (encs eC bw),sl 26 12 fv fw.length (encs eC fw)]) rfl ?_ ?_
        · rcases Bool.eq_false_or_eq_true (((((((((decide (pa.1<(0:Int)))||(decide (pa.1≥((l.length:Int):Int))))||(decide (pa.2<(0:Int))))||(decide (pa.2≥((l.length:Int):Int))))||(decide (pa.1=(pa.2:Int))))||(decide (pb.1<(0:Int))))||(decide (pb.1≥((l.length:Int):Int))))||(decide (pb.2<(0:Int))))||(decide (pb.2≥((l.length:Int):Int)))) with hb26 | hb26
          · have hb26p:=hb26
            try simp only [Bool.and_eq_true,Bool.or_eq_true,Bool.and_eq_false_iff,Bool.or_eq_false_iff,decide_eq_true_eq,decide_eq_false_iff_not,Bool.not_eq_true',Bool.not_eq_false',Bool.not_eq_true,Bool.not_eq_false,ne_eq] at hb26p
            refine O.skipB hf rfl rfl rfl hb26 rfl ?_; clear hf a; intro a hf
            refine O.skipB hf rfl rfl rfl hb26 rfl ?_; clear hf a; intro a hf
            refine O.skipB hf rfl rfl rfl hb26 rfl ?_; clear hf a; intro a hf
            refine O.skipB hf rfl rfl rfl hb26 rfl ?_; clear hf a; intro a hf
            refine O.skipB hf rfl rfl rfl hb26 rfl ?_; clear hf a; intro a hf
            refine O.val (v:=.bool ((((((((((decide (pa.1<(0:Int)))||(decide (pa.1≥((l.length:Int):Int))))||(decide (pa.2<(0:Int))))||(decide (pa.2≥((l.length:Int):Int))))||(decide (pa.1=(pa.2:Int))))||(decide (pb.1<(0:Int))))||(decide (pb.1≥((l.length:Int):Int))))||(decide (pb.2<(0:Int))))||(decide (pb.2≥((l.length:Int):Int))))||(decide (pb.1=(pb.2:Int))))) hf rfl rfl rfl (RunV.pick rfl rfl rfl (by rw [hb26]; rfl)) ?_; clear hf a; intro a hf
            exact O.nil ⟨rfl,hf.to ⟨rfl,rfl,rfl,rfl,rfl,rfl,rfl,rfl,rfl,rfl,rfl,rfl,rfl,rfl,rfl,rfl,rfl,rfl,rfl,rfl,rfl,rfl,rfl,rfl,rfl,rfl,rfl,rfl,rfl,trivial⟩,hS⟩
          · have hb26p:=hb26
            try simp only [Bool.and_eq_true,Bool.or_eq_true,Bool.and_eq_false_iff,Bool.or_eq_false_iff,decide_eq_true_eq,decide_eq_false_iff_not,Bool.not_eq_true',Bool.not_eq_false',Bool.not_eq_true,Bool.not_eq_false,ne_eq] at hb26p
            refine O.gvalB (v:=.pointer (some ⟨b_b13,0,none⟩)) hf rfl rfl rfl hb26 rfl rfl (RunV.indexArr (j:=0) (m:=0) T_arr_42 T_size_3 rfl rfl rfl (by omega) (by omega)) ?_
            clear hf a; intro a hf
            refine O.gvalB (v:=.int .i64 pb.1) hf rfl rfl rfl hb26 rfl rfl (RunV.load1 T_agg_3 rfl (hS.ptAt (i:=1) rfl) rfl) ?_
            clear hf a; intro a hf
            refine O.gvalB (v:=.pointer (some ⟨b_b13,1,none⟩)) hf rfl rfl rfl hb26 rfl rfl (RunV.indexArr (j:=1) (m:=1) T_arr_42 T_size_3 rfl rfl rfl (by omega) (by omega)) ?_
            clear hf a; intro a hf
            refine O.gvalB (v:=.int .i64 pb.2) hf rfl rfl rfl hb26 rfl rfl (RunV.load1 T_agg_3 rfl (hS.ptAt (i:=1) rfl) rfl) ?_
            clear hf a; intro a hf
            refine O.gvalB (v:=.bool (decide (pb.1=(pb.2:Int)))) hf rfl rfl rfl hb26 rfl rfl (RunV.eql rfl rfl) ?_
            clear hf a; intro a hf
            refine O.val (v:=.bool ((((((((((decide (pa.1<(0:Int)))||(decide (pa.1≥((l.length:Int):Int))))||(decide (pa.2<(0:Int))))||(decide (pa.2≥((l.length:Int):Int))))||(decide (pa.1=(pa.2:Int))))||(decide (pb.1<(0:Int))))||(decide (pb.1≥((l.length:Int):Int))))||(decide (pb.2<(0:Int))))||(decide (pb.2≥((l.length:Int):Int))))||(decide (pb.1=(pb.2:Int))))) hf rfl rfl rfl (RunV.pick rfl rfl rfl (by rw [hb26]; rfl)) ?_; clear hf a; intro a hf
            exact O.nil ⟨rfl,hf.to ⟨rfl,rfl,rfl,rfl,rfl,rfl,rfl,rfl,rfl,rfl,rfl,rfl,rfl,rfl,rfl,rfl,rfl,rfl,rfl,rfl,rfl,rfl,rfl,rfl,rfl,rfl,rfl,rfl,rfl,trivial⟩,hS⟩
        clear hf hS a; rintro a w ⟨hf,hS⟩
        refine O.nil ?_
        refine k_seq ?_
        replace hf:Fr a 246 [] [(0,vl),(1,vp),(5,.bool true),(7,fv),(8,bv2),(12,.int .i64 (i:Int)),(13,.pointer (some ⟨b_a14,0,none⟩)),(14,.pointer (some ⟨b_b13,0,none⟩)),(161,.bool ((((((((((decide (pa.1<(0:Int)))||(decide (pa.1≥((l.length:Int):Int))))||(decide (pa.2<(0:Int))))||(decide (pa.2≥((l.length:Int):Int))))||(decide (pa.1=(pa.2:Int))))||(decide (pb.1<(0:Int))))||(decide (pb.1≥((l.length:Int):Int))))||(decide (pb.2<(0:Int))))||(decide (pb.2≥((l.length:Int):Int))))||(decide (pb.1=(pb.2:Int)))))]:=hf.to ⟨rfl,rfl,rfl,rfl,rfl,rfl,rfl,rfl,rfl,trivial⟩
        refine W.if_ hf rfl (fun hin=>?_) (fun hin=>?_)
        · have hinb:=hin
          try simp only [Bool.and_eq_true,Bool.or_eq_true,Bool.and_eq_false_iff,Bool.or_eq_false_iff,decide_eq_true_eq,decide_eq_false_iff_not,Bool.not_eq_true',Bool.not_eq_false',Bool.not_eq_true,Bool.not_eq_false,ne_eq] at hin
          refine W.seq ?_
          refine W.regionL (l:=[0,1]) rfl ?_
          refine O.val hf rfl rfl rfl (RunV.move rfl) ?_
          clear hf a; intro a hf
          refine O.val hf rfl rfl rfl (RunV.assign rfl) ?_
          clear hf a; intro a hf
          refine O.nil ?_
          refine k_seq ?_
          replace hf:Fr a 246 [] [(0,vl),(1,vp),(4,.bool true),(5,.bool true),(7,fv),(8,bv2),(12,.int .i64 (i:Int)),(13,.pointer (some ⟨b_a14,0,none⟩)),(14,.pointer (some ⟨b_b13,0,none⟩))]:=hf.to ⟨rfl,rfl,rfl,rfl,rfl,rfl,rfl,rfl,rfl,trivial⟩
          refine W.ret ?_
          refine k_then_ret ?_
          refine k_blk_ret ?_
          refine k_then_ret ?_
          refine k_then_ret ?_
          refine k_blk_ret ?_
          refine k_then_ret ?_
          refine post1 hf rfl (ResOK.tmp rfl) ?_
          exact ⟨(),rfl,hS.sub (List.nil_sublist _) |>.noB⟩
        · have hinb:=hin
          try simp only [Bool.and_eq_true,Bool.or_eq_true,Bool.and_eq_false_iff,Bool.or_eq_false_iff,decide_eq_true_eq,decide_eq_false_iff_not,Bool.not_eq_true',Bool.not_eq_false',Bool.not_eq_true,Bool.not_eq_false,ne_eq] at hin
          refine W.skip ?_
          refine k_seq ?_
          refine W.seq ?_
          simp only [Bool.or_eq_false_iff,decide_eq_false_iff_not] at hinb
          obtain ⟨⟨⟨⟨⟨⟨⟨⟨⟨ha1,ha2⟩,ha3⟩,ha4⟩,ha5⟩,hb1⟩,hb2⟩,hb3⟩,hb4⟩,hb5⟩:=hinb
          have hfl:=hF.cnt
          have hbl2:=hB.cnt
          obtain ⟨xa,hxa⟩:∃ d,d=l.getD pa.1.toNat default:=⟨_,rfl⟩
          obtain ⟨ya,hya⟩:∃ d,d=l.getD pa.2.toNat default:=⟨_,rfl⟩
          obtain ⟨xb,hxb⟩:∃ d,d=l.getD pb.2.toNat default:=⟨_,rfl⟩
          obtain ⟨yb,hyb⟩:∃ d,d=l.getD pb.1.toNat default:=⟨_,rfl⟩
          obtain ⟨eF,RF,SF,uF,hJF,hF2,hoF,hlF⟩:=ord_stepU hF hokl hl10 (x:=xa) (y:=ya) (by rw [hxa]; exact getD_in (by omega)) (by rw [hya]; exact getD_in (by omega)) (by rw [hxa,hya]; exact nd_ne hnd (by omega) (by omega) (by omega))
          obtain ⟨eB,RB,SB,uB,hJB,hB2,hoB,hlB⟩:=ord_stepU hB hokl hl10 (x:=xb) (y:=yb) (by rw [hxb]; exact getD_in (by omega)) (by rw [hyb]; exact getD_in (by omega)) (by rw [hxb,hyb]; exact nd_ne hnd (by omega) (by omega) (by omega))
          replace hf:Fr a 246 [] [(0,vl),(1,vp),(5,.bool true),(7,fv),(8,bv2),(12,.int .i64 (i:Int)),(13,.pointer (some ⟨b_a14,0,none⟩)),(14,.pointer (some ⟨b_b13,0,none⟩))]:=hf.to ⟨rfl,rfl,rfl,rfl,rfl,rfl,rfl,rfl,trivial⟩
          let LZ1105:List (Nat × Value):=[(0,vl),(1,vp),(5,.bool true),(7,fv),(8,bv2),(12,.int .i64 (i:Int)),(13,.pointer (some ⟨b_a14,0,none⟩)),(14,.pointer (some ⟨b_b13,0,none⟩))]
          let MZ1105:List Asr:=[pt b_a14 (.cells #[.int .i64 pa.1,.int .i64 pa.2] 42 (0,0)),pt b_b13 (.cells #[.int .i64 pb.1,.int .i64 pb.2] 42 (0,0)),sl 26 12 bv2 bw.length (encs eC bw),sl 26 12 fv fw.length (encs eC fw)]
          let BZ1105:List Asr:=BZ550
          refine W.drawC (γ:=(Value)) (L0:=LZ1105) (L1:=[]) (default) [12] [] [0,1,2,3,4,5,6,7,8,9,10,11,13,14,15,16,17] (fun i_=>match i_ with | 0=>[] | 1=>[] | 2=>[] | 3=>[2] | 4=>[1,3] | 5=>[4] | 6=>[] | 7=>[] | 8=>[7] | 9=>[6,8] | 10=>[9] | 11=>[5,10] | 12=>[0,11] | 13=>[12] | 14=>[13] | 15=>[13] | 16=>[0,1,2,3,4,5,6,7,8,9,10,11,12,13,14] | 17=>[0,1,2,3,4,5,6,7,8,9,10,11,12,13,14,15,16] | _=>[]) (fun i_=>match i_ with | 0=>[] | 1=>[] | 2=>[] | 3=>[] | 4=>[] | 5=>[] | 6=>[] | 7=>[] | 8=>[] | 9=>[] | 10=>[] | 11=>[] | 12=>[] | 13=>[12] | 14=>[12] | 15=>[12] | 16=>[12] | 17=>[12] | _=>[]) (fun i_=>match i_ with | 0=>[12] | 1=>[12] | 2=>[12] | 3=>[12] | 4=>[12] | 5=>[12] | 6=>[12] | 7=>[12] | 8=>[12] | 9=>[12] | 10=>[12] | 11=>[12] | 12=>[] | 13=>[] | 14=>[] | 15=>[] | 16=>[] | 17=>[] | _=>[]) (fun _=>[]) (fun i_=>match i_ with | 0=>[] | 1=>[] | 2=>[] | 3=>[] | 4=>[] | 5=>[] | 6=>[] | 7=>[] | 8=>[] | 9=>[] | 10=>[] | 11=>[] | 12=>[13,14,15,16,17] | 13=>[] | 14=>[] | 15=>[] | 16=>[] | 17=>[] | _=>[]) (fun _=>[]) (fun i_=>match i_ with | 0=>0 | 1=>0 | 2=>0 | 3=>0 | 4=>0 | 5=>0 | 6=>0 | 7=>0 | 8=>0 | 9=>0 | 10=>0 | 11=>0 | 12=>0 | 13=>1 | 14=>1 | 15=>1 | 16=>1 | 17=>1 | _=>0) (fun i_=>match i_ with | 0=>0 | 1=>0 | 2=>0 | 3=>0 | 4=>0 | 5=>0 | 6=>0 | 7=>0 | 8=>0 | 9=>0 | 10=>0 | 11=>0 | 12=>1 | 13=>1 | 14=>1 | 15=>1 | 16=>1 | 17=>1 | _=>0) (fun (g:(Value)) j_=>match g,j_ with | am_fw,0=>fv | am_fw,1=>vl | am_fw,2=>.pointer (some ⟨b_a14,0,none⟩) | am_fw,3=>.int .i64 pa.1 | am_fw,4=>ix vl (pa.1.toNat*5) | am_fw,5=>.agg #[.int .i64 xa.num,.int .i64 xa.yr,.int .u8 xa.half,.int .u8 xa.sec,.int .i64 xa.cyc] | am_fw,6=>vl | am_fw,7=>.pointer (some ⟨b_a14,1,none⟩) | am_fw,8=>.int .i64 pa.2 | am_fw,9=>ix vl (pa.2.toNat*5) | am_fw,10=>.agg #[.int .i64 ya.num,.int .i64 ya.yr,.int .u8 ya.half,.int .u8 ya.sec,.int .i64 ya.cyc] | am_fw,11=>.agg #[.int .u8 2,.int .i64 xa.num,.int .i64 xa.yr,.int .u8 xa.half,.int .u8 xa.sec,.int .i64 xa.cyc,.int .i64 ya.num,.int .i64 ya.yr,.int .u8 ya.half,.int .u8 ya.sec,.int .i64 ya.cyc,.int .i64 0] | am_fw,12=>.tuple #[am_fw,.int .i64 eF] | am_fw,13=>.tuple #[am_fw,.int .i64 eF] | am_fw,14=>am_fw | am_fw,15=>.int .i64 eF | am_fw,16=>am_fw | am_fw,17=>.int .i64 eF | _,_=>undef) (fun k_ (_:Nat→Bool) (g:(Value)) w=>match k_,g with | 0,am_fw=>St w0 w noX BZ1105 MZ1105 | _,am_fw=>St w0 w noX BZ1105 (sl 26 12 am_fw RF.length (encs eC RF)::MZ1105)) P_mixed (by kernel_rfl) (by kernel_rfl) (by kernel_rfl) hf (hf.to trivial) hS.drew ?_ ?_ trivial ?_
          · clear hf hS
            refine ⟨?_,?_,?_,?_,?_,?_,?_,?_,?_,?_,?_,?_,?_,?_,?_,?_,?_,trivial⟩
            · intro k_ s_ am_fw w hlo hhi _ hD a hf
              rcases k_ with _ | k_
              · have hS:St w0 w noX BZ1105 MZ1105:=hD; clear hD
                replace hf:Fr a 246 [] LZ1105:=hf
                refine O.val hf rfl rfl rfl (RunV.move rfl) ?_
                clear hf a; intro a hf
                exact O.nil ⟨rfl,hf.to trivial,(gt (d:=164) hf rfl rfl),hS⟩
              · have hhi:k_+1≤0:=hhi; omega
            · intro k_ s_ am_fw w hlo hhi _ hD a hf
              rcases k_ with _ | k_
              · have hS:St w0 w noX BZ1105 MZ1105:=hD; clear hD
                replace hf:Fr a 246 [] LZ1105:=hf
                refine O.val hf rfl rfl rfl (RunV.move rfl) ?_
                clear hf a; intro a hf
                exact O.nil ⟨rfl,hf.to trivial,(gt (d:=165) hf rfl rfl),hS⟩
              · have hhi:k_+1≤0:=hhi; omega
            · intro k_ s_ am_fw w hlo hhi _ hD a hf
              rcases k_ with _ | k_
              · have hS:St w0 w noX BZ1105 MZ1105:=hD; clear hD
                replace hf:Fr a 246 [] LZ1105:=hf
                refine O.val hf rfl rfl rfl (RunV.indexArr (j:=0) (m:=0) T_arr_42 T_size_3 rfl rfl rfl (by omega) (by omega)) ?_
                clear hf a; intro a hf
                exact O.nil ⟨rfl,hf.to trivial,(gt (d:=166) hf rfl rfl),hS⟩
              · have hhi:k_+1≤0:=hhi; omega
            · intro k_ s_ am_fw w hlo hhi _ hD a hf
              rcases k_ with _ | k_
              · have hS:St w0 w noX BZ1105 MZ1105:=hD; clear hD
                replace hf:Fr a 246 [] ((166,.pointer (some ⟨b_a14,0,none⟩))::LZ1105):=hf
                refine O.val hf rfl rfl rfl (RunV.load1 T_agg_3 rfl (hS.ptAt (i:=0) rfl) rfl) ?_
                clear hf a; intro a hf
                exact O.nil ⟨rfl,hf.to trivial,(gt (d:=167) hf rfl rfl),hS⟩
              · have hhi:k_+1≤0:=hhi; omega
            · intro k_ s_ am_fw w hlo hhi _ hD a hf
              rcases k_ with _ | k_
              · have hS:St w0 w noX BZ1105 MZ1105:=hD; clear hD
                replace hf:Fr a 246 [] ((165,vl)::(167,.int .i64 pa.1)::LZ1105):=hf
                refine O.val hf rfl rfl rfl (RunV.ixV (j:=pa.1.toNat) (m:=pa.1.toNat*5) T_elem_35 T_size_24 rfl rfl (hS.rdAt (j:=1) rfl) (by omega) (by omega) rfl) ?_
                clear hf a; intro a hf
                exact O.nil ⟨rfl,hf.to trivial,(gt (d:=168) hf rfl rfl),hS⟩
              · have hhi:k_+1≤0:=hhi; omega
            · intro k_ s_ am_fw w hlo hhi _ hD a hf
              rcases k_ with _ | k_
              · have hS:St w0 w noX BZ1105 MZ1105:=hD; clear hD
                replace hf:Fr a 246 [] ((168,ix vl (pa.1.toNat*5))::LZ1105):=hf
                refine O.val hf rfl rfl rfl (RunV.ldG (j:=pa.1.toNat) (enc:=eD) (l:=l) (us:=eD xa) T_agg_24 T_size_24 rfl eD_len rfl (hS.rdAt (j:=1) rfl) (by omega) (by rw [hxa])) ?_
                clear hf a; intro a hf
                exact O.nil ⟨rfl,hf.to trivial,(gt (d:=169) hf rfl rfl),hS⟩
              · have hhi:k_+1≤0:=hhi; omega
            · intro k_ s_ am_fw w hlo hhi _ hD a hf
              rcases k_ with _ | k_
              · have hS:St w0 w noX BZ1105 MZ1105:=hD; clear hD
                replace hf:Fr a 246 [] LZ1105:=hf
                refine O.val hf rfl rfl rfl (RunV.move rfl) ?_
                clear hf a; intro a hf
                exact O.nil ⟨rfl,hf.to trivial,(gt (d:=170) hf rfl rfl),hS⟩
              · have hhi:k_+1≤0:=hhi; omega
            · intro k_ s_ am_fw w hlo hhi _ hD a hf
              rcases k_ with _ | k_
              · have hS:St w0 w noX BZ1105 MZ1105:=hD; clear hD
                replace hf:Fr a 246 [] LZ1105:=hf
                refine O.val hf rfl rfl rfl (RunV.indexArr (j:=1) (m:=1) T_arr_42 T_size_3 rfl rfl rfl (by omega) (by omega)) ?_
                clear hf a; intro a hf
                exact O.nil ⟨rfl,hf.to trivial,(gt (d:=171) hf rfl rfl),hS⟩
              · have hhi:k_+1≤0:=hhi; omega
            · intro k_ s_ am_fw w hlo hhi _ hD a hf
              rcases k_ with _ | k_
              · have hS:St w0 w noX BZ1105 MZ1105:=hD; clear hD
                replace hf:Fr a 246 [] ((171,.pointer (some ⟨b_a14,1,none⟩))::LZ1105):=hf
                refine O.val hf rfl rfl rfl (RunV.load1 T_agg_3 rfl (hS.ptAt (i:=0) rfl) rfl) ?_
                clear hf a; intro a hf
                exact O.nil ⟨rfl,hf.to trivial,(gt (d:=172) hf rfl rfl),hS⟩
              · have hhi:k_+1≤0:=hhi; omega
            · intro k_ s_ am_fw w hlo hhi _ hD a hf
              rcases k_ with _ | k_
              · have hS:St w0 w noX BZ1105 MZ1105:=hD; clear hD
                replace hf:Fr a 246 [] ((170,vl)::(172,.int .i64 pa.2)::LZ1105):=hf
                refine O.val hf rfl rfl rfl (RunV.ixV (j:=pa.2.toNat) (m:=pa.2.toNat*5) T_elem_35 T_size_24 rfl rfl (hS.rdAt (j:=1) rfl) (by omega) (by omega) rfl) ?_
                clear hf a; intro a hf
                exact O.nil ⟨rfl,hf.to trivial,(gt (d:=173) hf rfl rfl),hS⟩
              · have hhi:k_+1≤0:=hhi; omega
            · intro k_ s_ am_fw w hlo hhi _ hD a hf
              rcases k_ with _ | k_
              · have hS:St w0 w noX BZ1105 MZ1105:=hD; clear hD
                replace hf:Fr a 246 [] ((173,ix vl (pa.2.toNat*5))::LZ1105):=hf
                refine O.val hf rfl rfl rfl (RunV.ldG (j:=pa.2.toNat) (enc:=eD) (l:=l) (us:=eD ya) T_agg_24 T_size_24 rfl eD_len rfl (hS.rdAt (j:=1) rfl) (by omega) (by rw [hya])) ?_
                clear hf a; intro a hf
                exact O.nil ⟨rfl,hf.to trivial,(gt (d:=174) hf rfl rfl),hS⟩
              · have hhi:k_+1≤0:=hhi; omega
            · intro k_ s_ am_fw w hlo hhi _ hD a hf
              rcases k_ with _ | k_
              · have hS:St w0 w noX BZ1105 MZ1105:=hD; clear hD
                replace hf:Fr a 246 [] ((169,.agg #[.int .i64 xa.num,.int .i64 xa.yr,.int .u8 xa.half,.int .u8 xa.sec,.int .i64 xa.cyc])::(174,.agg #[.int .i64 ya.num,.int .i64 ya.yr,.int .u8 ya.half,.int .u8 ya.sec,.int .i64 ya.cyc])::LZ1105):=hf
                refine O.val hf rfl rfl rfl (RunV.buildS (cs':=#[.int .u8 2,.int .i64 xa.num,.int .i64 xa.yr,.int .u8 xa.half,.int .u8 xa.sec,.int .i64 xa.cyc,.int .i64 ya.num,.int .i64 ya.yr,.int .u8 ya.half,.int .u8 ya.sec,.int .i64 ya.cyc,.int .i64 0]) T_places_26 T_zero_26 rfl (by kernel_rfl)) ?_
                clear hf a; intro a hf
                exact O.nil ⟨rfl,hf.to trivial,(gt (d:=175) hf rfl rfl),hS⟩
              · have hhi:k_+1≤0:=hhi; omega
            · intro k_ s_ am_fw w hlo hhi _ hD a hf
              rcases k_ with _ | k_
              · exact absurd hlo (by decide)
              · have hS:St w0 w noX BZ1105 (sl 26 12 am_fw RF.length (encs eC RF)::MZ1105):=hD; clear hD
                replace hf:Fr a 246 [] ((176,.tuple #[am_fw,.int .i64 eF])::LZ1105):=hf
                refine O.val hf rfl rfl rfl (RunV.move rfl) ?_
                clear hf a; intro a hf
                exact O.nil ⟨rfl,hf.to trivial,(gt (d:=163) hf rfl rfl),hS⟩
            · intro k_ s_ am_fw w hlo hhi _ hD a hf
              rcases k_ with _ | k_
              · exact absurd hlo (by decide)
              · have hS:St w0 w noX BZ1105 (sl 26 12 am_fw RF.length (encs eC RF)::MZ1105):=hD; clear hD
                replace hf:Fr a 246 [] ((163,.tuple #[am_fw,.int .i64 eF])::LZ1105):=hf
                refine O.val hf rfl rfl rfl (RunV.extract rfl rfl) ?_
                clear hf a; intro a hf
                exact O.nil ⟨rfl,hf.to trivial,(gt (d:=177) hf rfl rfl),hS⟩
            · intro k_ s_ am_fw w hlo hhi _ hD a hf
              rcases k_ with _ | k_
              · exact absurd hlo (by decide)
              · have hS:St w0 w noX BZ1105 (sl 26 12 am_fw RF.length (encs eC RF)::MZ1105):=hD; clear hD
                replace hf:Fr a 246 [] ((163,.tuple #[am_fw,.int .i64 eF])::LZ1105):=hf
                refine O.val hf rfl rfl rfl (RunV.extract rfl rfl) ?_
                clear hf a; intro a hf
                exact O.nil ⟨rfl,hf.to trivial,(gt (d:=178) hf rfl rfl),hS⟩
            · intro k_ s_ am_fw w hlo hhi _ hD a hf
              rcases k_ with _ | k_
              · exact absurd hlo (by decide)
              · have hS:St w0 w noX BZ1105 (sl 26 12 am_fw RF.length (encs eC RF)::MZ1105):=hD; clear hD
                replace hf:Fr a 246 [] ((164,fv)::(165,vl)::(166,.pointer (some ⟨b_a14,0,none⟩))::(167,.int .i64 pa.1)::(168,ix vl (pa.1.toNat*5))::(169,.agg #[.int .i64 xa.num,.int .i64 xa.yr,.int .u8 xa.half,.int .u8 xa.sec,.int .i64 xa.cyc])::(170,vl)::(171,.pointer (some ⟨b_a14,1,none⟩))::(172,.int .i64 pa.2)::(173,ix vl (pa.2.toNat*5))::(174,.agg #[.int .i64 ya.num,.int .i64 ya.yr,.int .u8 ya.half,.int .u8 ya.sec,.int .i64 ya.cyc])::(175,.agg #[.int .u8 2,.int .i64 xa.num,.int .i64 xa.yr,.int .u8 xa.half,.int .u8 xa.sec,.int .i64 xa.cyc,.int .i64 ya.num,.int .i64 ya.yr,.int .u8 ya.half,.int .u8 ya.sec,.int .i64 ya.cyc,.int .i64 0])::(176,.tuple #[am_fw,.int .i64 eF])::(163,.tuple #[am_fw,.int .i64 eF])::(177,am_fw)::LZ1105):=hf
                refine O.val hf rfl rfl rfl (RunV.assign rfl) ?_
                clear hf a; intro a hf
                exact O.nil ⟨rfl,hf.to trivial,(gt (d:=15) hf rfl rfl),hS⟩
            · intro k_ s_ am_fw w hlo hhi _ hD a hf
              rcases k_ with _ | k_
              · exact absurd hlo (by decide)
              · have hS:St w0 w noX BZ1105 (sl 26 12 am_fw RF.length (encs eC RF)::MZ1105):=hD; clear hD
                replace hf:Fr a 246 [] ((164,fv)::(165,vl)::(166,.pointer (some ⟨b_a14,0,none⟩))::(167,.int .i64 pa.1)::(168,ix vl (pa.1.toNat*5))::(169,.agg #[.int .i64 xa.num,.int .i64 xa.yr,.int .u8 xa.half,.int .u8 xa.sec,.int .i64 xa.cyc])::(170,vl)::(171,.pointer (some ⟨b_a14,1,none⟩))::(172,.int .i64 pa.2)::(173,ix vl (pa.2.toNat*5))::(174,.agg #[.int .i64 ya.num,.int .i64 ya.yr,.int .u8 ya.half,.int .u8 ya.sec,.int .i64 ya.cyc])::(175,.agg #[.int .u8 2,.int .i64 xa.num,.int .i64 xa.yr,.int .u8 xa.half,.int .u8 xa.sec,.int .i64 xa.cyc,.int .i64 ya.num,.int .i64 ya.yr,.int .u8 ya.half,.int .u8 ya.sec,.int .i64 ya.cyc,.int .i64 0])::(176,.tuple #[am_fw,.int .i64 eF])::(163,.tuple #[am_fw,.int .i64 eF])::(177,am_fw)::(178,.int .i64 eF)::(15,am_fw)::LZ1105):=hf
                refine O.val hf rfl rfl rfl (RunV.assign rfl) ?_
                clear hf a; intro a hf
                exact O.nil ⟨rfl,hf.to trivial,(gt (d:=16) hf rfl rfl),hS⟩
          · clear hf hS
            refine ⟨?_,trivial⟩
            · intro s_ am_fw w _ hD a hf
              have hS:St w0 w noX BZ1105 MZ1105:=hD; clear hD
              replace hf:Fr a 246 [] ((164,fv)::(175,.agg #[.int .u8 2,.int .i64 xa.num,.int .i64 xa.yr,.int .u8 xa.half,.int .u8 xa.sec,.int .i64 xa.cyc,.int .i64 ya.num,.int .i64 ya.yr,.int .u8 ya.half,.int .u8 ya.sec,.int .i64 ya.cyc,.int .i64 0])::LZ1105):=hf
              refine O.callR hf rfl rfl rfl (RunE.call (av:=#[fv,cV (joinC xa ya)]) C_ok_11 rfl rfl rfl) (applyU fv fw (joinC xa ya) _ (hS.bptO (i:=0) rfl) (hS.slr (j:=3) rfl) (slOK.fit (hS.slAt (j:=3) rfl)) (by omega) eF RF hJF) ?_
              clear hf a
              rintro am_fw w29 hS1 a hf
              replace hf:Fr a _ _ ((176,.tuple #[am_fw,.int .i64 eF])::_):=hf
              replace hS:=(hS.call hS1).eqM (N:=(sl 26 12 am_fw RF.length (encs eC RF)::MZ1105)) rfl
              clear hS1
              exact O.nil ⟨rfl,(am_fw),hf.to trivial,(gt (d:=176) hf rfl rfl),(fun j_ hj_ ha_=>match j_,hj_,ha_ with | 0,hj_,ha_=>rfl | 1,hj_,ha_=>rfl | 2,hj_,ha_=>rfl | 3,hj_,ha_=>rfl | 4,hj_,ha_=>rfl | 5,hj_,ha_=>rfl | 6,hj_,ha_=>rfl | 7,hj_,ha_=>rfl | 8,hj_,ha_=>rfl | 9,hj_,ha_=>rfl | 10,hj_,ha_=>rfl | 11,hj_,ha_=>rfl | 12,hj_,ha_=>absurd rfl hj_ | 13,hj_,ha_=>absurd ha_ (by decide) | 14,hj_,ha_=>absurd ha_ (by decide) | 15,hj_,ha_=>absurd ha_ (by decide) | 16,hj_,ha_=>absurd ha_ (by decide) | 17,hj_,ha_=>absurd ha_ (by decide) | _+18,_,_=>rfl),hS⟩
          clear hf hS; intro s_ am_fw a w _ hf hD
          have hS:St w0 w noX BZ1105 (sl 26 12 am_fw RF.length (encs eC RF)::MZ1105):=hD; clear hD
          replace hf:Fr a 246 [] ((164,fv)::(165,vl)::(166,.pointer (some ⟨b_a14,0,none⟩))::(167,.int .i64 pa.1)::(168,ix vl (pa.1.toNat*5))::(169,.agg #[.int .i64 xa.num,.int .i64 xa.yr,.int .u8 xa.half,.int .u8 xa.sec,.int .i64 xa.cyc])::(170,vl)::(171,.pointer (some ⟨b_a14,1,none⟩))::(172,.int .i64 pa.2)::(173,ix vl (pa.2.toNat*5))::(174,.agg #[.int .i64 ya.num,.int .i64 ya.yr,.int .u8 ya.half,.int .u8 ya.sec,.int .i64 ya.cyc])::(175,.agg #[.int .u8 2,.int .i64 xa.num,.int .i64 xa.yr,.int .u8 xa.half,.int .u8 xa.sec,.int .i64 xa.cyc,.int .i64 ya.num,.int .i64 ya.yr,.int .u8 ya.half,.int .u8 ya.sec,.int .i64 ya.cyc,.int .i64 0])::(176,.tuple #[am_fw,.int .i64 eF])::(163,.tuple #[am_fw,.int .i64 eF])::(177,am_fw)::(178,.int .i64 eF)::(15,am_fw)::(16,.int .i64 eF)::LZ1105):=hf
          refine k_seq ?_
          replace hf:Fr a 246 [] [(0,vl),(1,vp),(5,.bool true),(7,fv),(8,bv2),(12,.int .i64 (i:Int)),(13,.pointer (some ⟨b_a14,0,none⟩)),(14,.pointer (some ⟨b_b13,0,none⟩)),(15,am_fw),(16,.int .i64 eF)]:=hf.to ⟨rfl,rfl,rfl,rfl,rfl,rfl,rfl,rfl,rfl,rfl,trivial⟩
          refine W.seq ?_
          refine W.seq ?_
          refine W.regionL (l:=[0,1]) rfl ?_
          refine O.val hf rfl rfl rfl (RunV.move rfl) ?_
          clear hf a; intro a hf
          refine O.val (v:=.bool (decide (eF=(0:Int)))) hf rfl rfl rfl (RunV.eql rfl rfl) ?_
          clear hf a; intro a hf
          refine O.nil ?_
          refine k_seq ?_
          replace hf:Fr a 246 [] [(0,vl),(1,vp),(5,.bool true),(7,fv),(8,bv2),(12,.int .i64 (i:Int)),(13,.pointer (some ⟨b_a14,0,none⟩)),(14,.pointer (some ⟨b_b13,0,none⟩)),(15,am_fw),(16,.int .i64 eF),(180,.bool (decide (eF=(0:Int))))]:=hf.to ⟨rfl,rfl,rfl,rfl,rfl,rfl,rfl,rfl,rfl,rfl,rfl,trivial⟩
          refine W.ifdI hf rfl (fun hef=>?_) (fun hef=>?_)
          · subst hef
            rw [if_pos rfl] at hF2
            refine W.regionL (l:=[0,1]) rfl ?_
            refine O.val hf rfl rfl rfl (RunV.move rfl) ?_
            clear hf a; intro a hf
            refine O.val hf rfl rfl rfl (RunV.assign rfl) ?_
            clear hf a; intro a hf
            refine O.nil ?_
            refine k_seq ?_
            replace hf:Fr a 246 [] [(0,vl),(1,vp),(5,.bool true),(7,am_fw),(8,bv2),(12,.int .i64 (i:Int)),(13,.pointer (some ⟨b_a14,0,none⟩)),(14,.pointer (some ⟨b_b13,0,none⟩)),(15,am_fw),(16,.int .i64 0)]:=hf.to ⟨rfl,rfl,rfl,rfl,rfl,rfl,rfl,rfl,rfl,rfl,trivial⟩
            refine W.seq ?_
            replace hf:Fr a 246 [] [(0,vl),(1,vp),(5,.bool true),(7,am_fw),(8,bv2),(12,.int .i64 (i:Int)),(13,.pointer (some ⟨b_a14,0,none⟩)),(14,.pointer (some ⟨b_b13,0,none⟩)),(15,am_fw),(16,.int .i64 0)]:=hf.to ⟨rfl,rfl,rfl,rfl,rfl,rfl,rfl,rfl,rfl,rfl,trivial⟩
            let LZ1287:List (Nat × Value):=[(0,vl),(1,vp),(5,.bool true),(7,am_fw),(8,bv2),(12,.int .i64 (i:Int)),(13,.pointer (some ⟨b_a14,0,none⟩)),(14,.pointer (some ⟨b_b13,0,none⟩)),(15,am_fw),(16,.int .i64 0)]
            let MZ1287:List Asr:=(sl 26 12 am_fw RF.length (encs eC RF)::MZ1105)
            let BZ1287:List Asr:=BZ1105
            refine W.drawC (γ:=(Value)) (L0:=LZ1287) (L1:=[]) (default) [12] [] [0,1,2,3,4,5,6,7,8,9,10,11,13,14,15,16,17] (fun i_=>match i_ with | 0=>[] | 1=>[] | 2=>[] | 3=>[2] | 4=>[1,3] | 5=>[4] | 6=>[] | 7=>[] | 8=>[7] | 9=>[6,8] | 10=>[9] | 11=>[5,10] | 12=>[0,11] | 13=>[12] | 14=>[13] | 15=>[13] | 16=>[0,1,2,3,4,5,6,7,8,9,10,11,12,13,14] | 17=>[0,1,2,3,4,5,6,7,8,9,10,11,12,13,14,15,16] | _=>[]) (fun i_=>match i_ with | 0=>[] | 1=>[] | 2=>[] | 3=>[] | 4=>[] | 5=>[] | 6=>[] | 7=>[] | 8=>[] | 9=>[] | 10=>[] | 11=>[] | 12=>[] | 13=>[12] | 14=>[12] | 15=>[12] | 16=>[12] | 17=>[12] | _=>[]) (fun i_=>match i_ with | 0=>[12] | 1=>[12] | 2=>[12] | 3=>[12] | 4=>[12] | 5=>[12] | 6=>[12] | 7=>[12] | 8=>[12] | 9=>[12] | 10=>[12] | 11=>[12] | 12=>[] | 13=>[] | 14=>[] | 15=>[] | 16=>[] | 17=>[] | _=>[]) (fun _=>[]) (fun i_=>match i_ with | 0=>[] | 1=>[] | 2=>[] | 3=>[] | 4=>[] | 5=>[] | 6=>[] | 7=>[] | 8=>[] | 9=>[] | 10=>[] | 11=>[] | 12=>[13,14,15,16,17] | 13=>[] | 14=>[] | 15=>[] | 16=>[] | 17=>[] | _=>[]) (fun _=>[]) (fun i_=>match i_ with | 0=>0 | 1=>0 | 2=>0 | 3=>0 | 4=>0 | 5=>0 | 6=>0 | 7=>0 | 8=>0 | 9=>0 | 10=>0 | 11=>0 | 12=>0 | 13=>1 | 14=>1 | 15=>1 | 16=>1 | 17=>1 | _=>0) (fun i_=>match i_ with | 0=>0 | 1=>0 | 2=>0 | 3=>0 | 4=>0 | 5=>0 | 6=>0 | 7=>0 | 8=>0 | 9=>0 | 10=>0 | 11=>0 | 12=>1 | 13=>1 | 14=>1 | 15=>1 | 16=>1 | 17=>1 | _=>0) (fun (g:(Value)) j_=>match g,j_ with | am_bw,0=>bv2 | am_bw,1=>vl | am_bw,2=>.pointer (some ⟨b_b13,1,none⟩) | am_bw,3=>.int .i64 pb.2 | am_bw,4=>ix vl (pb.2.toNat*5) | am_bw,5=>.agg #[.int .i64 xb.num,.int .i64 xb.yr,.int .u8 xb.half,.int .u8 xb.sec,.int .i64 xb.cyc] | am_bw,6=>vl | am_bw,7=>.pointer (some ⟨b_b13,0,none⟩) | am_bw,8=>.int .i64 pb.1 | am_bw,9=>ix vl (pb.1.toNat*5) | am_bw,10=>.agg #[.int .i64 yb.num,.int .i64 yb.yr,.int .u8 yb.half,.int .u8 yb.sec,.int .i64 yb.cyc] | am_bw,11=>.agg #[.int .u8 2,.int .i64 xb.num,.int .i64 xb.yr,.int .u8 xb.half,.int .u8 xb.sec,.int .i64 xb.cyc,.int .i64 yb.num,.int .i64 yb.yr,.int .u8 yb.half,.int .u8 yb.sec,.int .i64 yb.cyc,.int .i64 0] | am_bw,12=>.tuple #[am_bw,.int .i64 eB] | am_bw,13=>.tuple #[am_bw,.int .i64 eB] | am_bw,14=>am_bw | am_bw,15=>.int .i64 eB | am_bw,16=>am_bw | am_bw,17=>.int .i64 eB | _,_=>undef) (fun k_ (_:Nat→Bool) (g:(Value)) w=>match k_,g with | 0,am_bw=>St w0 w noX BZ1287 MZ1287 | _,am_bw=>St w0 w noX BZ1287 (sl 26 12 am_bw RB.length (encs eC RB)::MZ1287)) P_mixed (by kernel_rfl) (by kernel_rfl) (by kernel_rfl) hf (hf.to trivial) hS.drew ?_ ?_ trivial ?_
            · clear hf hS
              refine ⟨?_,?_,?_,?_,?_,?_,?_,?_,?_,?_,?_,?_,?_,?_,?_,?_,?_,trivial⟩
              · intro k_ s_ am_bw w hlo hhi _ hD a hf
                rcases k_ with _ | k_
                · have hS:St w0 w noX BZ1287 MZ1287:=hD; clear hD
                  replace hf:Fr a 246 [] LZ1287:=hf
                  refine O.val hf rfl rfl rfl (RunV.move rfl) ?_
                  clear hf a; intro a hf
                  exact O.nil ⟨rfl,hf.to trivial,(gt (d:=183) hf rfl rfl),hS⟩
                · have hhi:k_+1≤0:=hhi; omega
              · intro k_ s_ am_bw w hlo hhi _ hD a hf
                rcases k_ with _ | k_
                · have hS:St w0 w noX BZ1287 MZ1287:=hD; clear hD
                  replace hf:Fr a 246 [] LZ1287:=hf
                  refine O.val hf rfl rfl rfl (RunV.move rfl) ?_
                  clear hf a; intro a hf
                  exact O.nil ⟨rfl,hf.to trivial,(gt (d:=184) hf rfl rfl),hS⟩
                · have hhi:k_+1≤0:=hhi; omega
              · intro k_ s_ am_bw w hlo hhi _ hD a hf
                rcases k_ with _ | k_
                · have hS:St w0 w noX BZ1287 MZ1287:=hD; clear hD
                  replace hf:Fr a 246 [] LZ1287:=hf
                  refine O.val hf rfl rfl rfl (RunV.indexArr (j:=1) (m:=1) T_arr_42 T_size_3 rfl rfl rfl (by omega) (by omega)) ?_
                  clear hf a; intro a hf
                  exact O.nil ⟨rfl,hf.to trivial,(gt (d:=185) hf rfl rfl),hS⟩
                · have hhi:k_+1≤0:=hhi; omega
              · intro k_ s_ am_bw w hlo hhi _ hD a hf
                rcases k_ with _ | k_
                · have hS:St w0 w noX BZ1287 MZ1287:=hD; clear hD
                  replace hf:Fr a 246 [] ((185,.pointer (some ⟨b_b13,1,none⟩))::LZ1287):=hf
                  refine O.val hf rfl rfl rfl (RunV.load1 T_agg_3 rfl (hS.ptAt (i:=2) rfl) rfl) ?_
                  clear hf a; intro a hf
                  exact O.nil ⟨rfl,hf.to trivial,(gt (d:=186) hf rfl rfl),hS⟩
                · have hhi:k_+1≤0:=hhi; omega
              · intro k_ s_ am_bw w hlo hhi _ hD a hf
                rcases k_ with _ | k_
                · have hS:St w0 w noX BZ1287 MZ1287:=hD; clear hD
                  replace hf:Fr a 246 [] ((184,vl)::(186,.int .i64 pb.2)::LZ1287):=hf
                  refine O.val hf rfl rfl rfl (RunV.ixV (j:=pb.2.toNat) (m:=pb.2.toNat*5) T_elem_35 T_size_24 rfl rfl (hS.rdAt (j:=1) rfl) (by omega) (by omega) rfl) ?_
                  clear hf a; intro a hf
                  exact O.nil ⟨rfl,hf.to trivial,(gt (d:=187) hf rfl rfl),hS⟩
                · have hhi:k_+1≤0:=hhi; omega
              · intro k_ s_ am_bw w hlo hhi _ hD a hf
                rcases k_ with _ | k_
                · have hS:St w0 w noX BZ1287 MZ1287:=hD; clear hD
                  replace hf:Fr a 246 [] ((187,ix vl (pb.2.toNat*5))::LZ1287):=hf
                  refine O.val hf rfl rfl rfl (RunV.ldG (j:=pb.2.toNat) (enc:=eD) (l:=l) (us:=eD xb) T_agg_24 T_size_24 rfl eD_len rfl (hS.rdAt (j:=1) rfl) (by omega) (by rw [hxb])) ?_
                  clear hf a; intro a hf
                  exact O.nil ⟨rfl,hf.to trivial,(gt (d:=188) hf rfl rfl),hS⟩
                · have hhi:k_+1≤0:=hhi; omega
              · intro k_ s_ am_bw w hlo hhi _ hD a hf
                rcases k_ with _ | k_
                · have hS:St w0 w noX BZ1287 MZ1287:=hD; clear hD
                  replace hf:Fr a 246 [] LZ1287:=hf
                  refine O.val hf rfl rfl rfl (RunV.move rfl) ?_
                  clear hf a; intro a hf
                  exact O.nil ⟨rfl,hf.to trivial,(gt (d:=189) hf rfl rfl),hS⟩
                · have hhi:k_+1≤0:=hhi; omega
              · intro k_ s_ am_bw w hlo hhi _ hD a hf
                rcases k_ with _ | k_
                · have hS:St w0 w noX BZ1287 MZ1287:=hD; clear hD
                  replace hf:Fr a 246 [] LZ1287:=hf
                  refine O.val hf rfl rfl rfl (RunV.indexArr (j:=0) (m:=0) T_arr_42 T_size_3 rfl rfl rfl (by omega) (by omega)) ?_
                  clear hf a; intro a hf
                  exact O.nil ⟨rfl,hf.to trivial,(gt (d:=190) hf rfl rfl),hS⟩
                · have hhi:k_+1≤0:=hhi; omega
              · intro k_ s_ am_bw w hlo hhi _ hD a hf
                rcases k_ with _ | k_
                · have hS:St w0 w noX BZ1287 MZ1287:=hD; clear hD
                  replace hf:Fr a 246 [] ((190,.pointer (some ⟨b_b13,0,none⟩))::LZ1287):=hf
                  refine O.val hf rfl rfl rfl (RunV.load1 T_agg_3 rfl (hS.ptAt (i:=2) rfl) rfl) ?_
                  clear hf a; intro a hf
                  exact O.nil ⟨rfl,hf.to trivial,(gt (d:=191) hf rfl rfl),hS⟩
                · have hhi:k_+1≤0:=hhi; omega
              · intro k_ s_ am_bw w hlo hhi _ hD a hf
                rcases k_ with _ | k_
                · have hS:St w0 w noX BZ1287 MZ1287:=hD; clear hD
                  replace hf:Fr a 246 [] ((189,vl)::(191,.int .i64 pb.1)::LZ1287):=hf
                  refine O.val hf rfl rfl rfl (RunV.ixV (j:=pb.1.toNat) (m:=pb.1.toNat*5) T_elem_35 T_size_24 rfl rfl (hS.rdAt (j:=1) rfl) (by omega) (by omega) rfl) ?_
                  clear hf a; intro a hf
                  exact O.nil ⟨rfl,hf.to trivial,(gt (d:=192) hf rfl rfl),hS⟩
                · have hhi:k_+1≤0:=hhi; omega
              · intro k_ s_ am_bw w hlo hhi _ hD a hf
                rcases k_ with _ | k_
                · have hS:St w0 w noX BZ1287 MZ1287:=hD; clear hD
                  replace hf:Fr a 246 [] ((192,ix vl (pb.1.toNat*5))::LZ1287):=hf
                  refine O.val hf rfl rfl rfl (RunV.ldG (j:=pb.1.toNat) (enc:=eD) (l:=l) (us:=eD yb) T_agg_24 T_size_24 rfl eD_len rfl (hS.rdAt (j:=1) rfl) (by omega) (by rw [hyb])) ?_
                  clear hf a; intro a hf
                  exact O.nil ⟨rfl,hf.to trivial,(gt (d:=193) hf rfl rfl),hS⟩
                · have hhi:k_+1≤0:=hhi; omega
              · intro k_ s_ am_bw w hlo hhi _ hD a hf
                rcases k_ with _ | k_
                · have hS:St w0 w noX BZ1287 MZ1287:=hD; clear hD
                  replace hf:Fr a 246 [] ((188,.agg #[.int .i64 xb.num,.int .i64 xb.yr,.int .u8 xb.half,.int .u8 xb.sec,.int .i64 xb.cyc])::(193,.agg #[.int .i64 yb.num,.int .i64 yb.yr,.int .u8 yb.half,.int .u8 yb.sec,.int .i64 yb.cyc])::LZ1287):=hf
                  refine O.val hf rfl rfl rfl (RunV.buildS (cs':=#[.int .u8 2,.int .i64 xb.num,.int .i64 xb.yr,.int .u8 xb.half,.int .u8 xb.sec,.int .i64 xb.cyc,.int .i64 yb.num,.int .i64 yb.yr,.int .u8 yb.half,.int .u8 yb.sec,.int .i64 yb.cyc,.int .i64 0]) T_places_26 T_zero_26 rfl (by kernel_rfl)) ?_
                  clear hf a; intro a hf
                  exact O.nil ⟨rfl,hf.to trivial,(gt (d:=194) hf rfl rfl),hS⟩
                · have hhi:k_+1≤0:=hhi; omega
              · intro k_ s_ am_bw w hlo hhi _ hD a hf
                rcases k_ with _ | k_
                · exact absurd hlo (by decide)
                · have hS:St w0 w noX BZ1287 (sl 26 12 am_bw RB.length (encs eC RB)::MZ1287):=hD; clear hD
                  replace hf:Fr a 246 [] ((195,.tuple #[am_bw,.int .i64 eB])::LZ1287):=hf
                  refine O.val hf rfl rfl rfl (RunV.move rfl) ?_
                  clear hf a; intro a hf
                  exact O.nil ⟨rfl,hf.to trivial,(gt (d:=182) hf rfl rfl),hS⟩
              · intro k_ s_ am_bw w hlo hhi _ hD a hf
                rcases k_ with _ | k_
                · exact absurd hlo (by decide)
                · have hS:St w0 w noX BZ1287 (sl 26 12 am_bw RB.length (encs eC RB)::MZ1287):=hD; clear hD
                  replace hf:Fr a 246 [] ((182,.tuple #[am_bw,.int .i64 eB])::LZ1287):=hf
                  refine O.val hf rfl rfl rfl (RunV.extract rfl rfl) ?_
                  clear hf a; intro a hf
                  exact O.nil ⟨rfl,hf.to trivial,(gt (d:=196) hf rfl rfl),hS⟩
              · intro k_ s_ am_bw w hlo hhi _ hD a hf
                rcases k_ with _ | k_
                · exact absurd hlo (by decide)
                · have hS:St w0 w noX BZ1287 (sl 26 12 am_bw RB.length (encs eC RB)::MZ1287):=hD; clear hD
                  replace hf:Fr a 246 [] ((182,.tuple #[am_bw,.int .i64 eB])::LZ1287):=hf
                  refine O.val hf rfl rfl rfl (RunV.extract rfl rfl) ?_
                  clear hf a; intro a hf
                  exact O.nil ⟨rfl,hf.to trivial,(gt (d:=197) hf rfl rfl),hS⟩
              · intro k_ s_ am_bw w hlo hhi _ hD a hf
                rcases k_ with _ | k_
                · exact absurd hlo (by decide)
                · have hS:St w0 w noX BZ1287 (sl 26 12 am_bw RB.length (encs eC RB)::MZ1287):=hD; clear hD
                  replace hf:Fr a 246 [] ((183,bv2)::(184,vl)::(185,.pointer (some ⟨b_b13,1,none⟩))::(186,.int .i64 pb.2)::(187,ix vl (pb.2.toNat*5))::(188,.agg #[.int .i64 xb.num,.int .i64 xb.yr,.int .u8 xb.half,.int .u8 xb.sec,.int .i64 xb.cyc])::(189,vl)::(190,.pointer (some ⟨b_b13,0,none⟩))::(191,.int .i64 pb.1)::(192,ix vl (pb.1.toNat*5))::(193,.agg #[.int .i64 yb.num,.int .i64 yb.yr,.int .u8 yb.half,.int .u8 yb.sec,.int .i64 yb.cyc])::(194,.agg #[.int .u8 2,.int .i64 xb.num,.int .i64 xb.yr,.int .u8 xb.half,.int .u8 xb.sec,.int .i64 xb.cyc,.int .i64 yb.num,.int .i64 yb.yr,.int .u8 yb.half,.int .u8 yb.sec,.int .i64 yb.cyc,.int .i64 0])::(195,.tuple #[am_bw,.int .i64 eB])::(182,.tuple #[am_bw,.int .i64 eB])::(196,am_bw)::LZ1287):=hf
                  refine O.val hf rfl rfl rfl (RunV.assign rfl) ?_
                  clear hf a; intro a hf
                  exact O.nil ⟨rfl,hf.to trivial,(gt (d:=17) hf rfl rfl),hS⟩
              · intro k_ s_ am_bw w hlo hhi _ hD a hf
                rcases k_ with _ | k_
                · exact absurd hlo (by decide)
                · have hS:St w0 w noX BZ1287 (sl 26 12 am_bw RB.length (encs eC RB)::MZ1287):=hD; clear hD
                  replace hf:Fr a 246 [] ((183,bv2)::(184,vl)::(185,.pointer (some ⟨b_b13,1,none⟩))::(186,.int .i64 pb.2)::(187,ix vl (pb.2.toNat*5))::(188,.agg #[.int .i64 xb.num,.int .i64 xb.yr,.int .u8 xb.half,.int .u8 xb.sec,.int .i64 xb.cyc])::(189,vl)::(190,.pointer (some ⟨b_b13,0,none⟩))::(191,.int .i64 pb.1)::(192,ix vl (pb.1.toNat*5))::(193,.agg #[.int .i64 yb.num,.int .i64 yb.yr,.int .u8 yb.half,.int .u8 yb.sec,.int .i64 yb.cyc])::(194,.agg #[.int .u8 2,.int .i64 xb.num,.int .i64 xb.yr,.int .u8 xb.half,.int .u8 xb.sec,.int .i64 xb.cyc,.int .i64 yb.num,.int .i64 yb.yr,.int .u8 yb.half,.int .u8 yb.sec,.int .i64 yb.cyc,.int .i64 0])::(195,.tuple #[am_bw,.int .i64 eB])::(182,.tuple #[am_bw,.int .i64 eB])::(196,am_bw)::(197,.int .i64 eB)::(17,am_bw)::LZ1287):=hf
                  refine O.val hf rfl rfl rfl (RunV.assign rfl) ?_
                  clear hf a; intro a hf
                  exact O.nil ⟨rfl,hf.to trivial,(gt (d:=18) hf rfl rfl),hS⟩
            · clear hf hS
              refine ⟨?_,trivial⟩
              · intro s_ am_bw w _ hD a hf
                have hS:St w0 w noX BZ1287 MZ1287:=hD; clear hD
                replace hf:Fr a 246 [] ((183,bv2)::(194,.agg #[.int .u8 2,.int .i64 xb.num,.int .i64 xb.yr,.int .u8 xb.half,.int .u8 xb.sec,.int .i64 xb.cyc,.int .i64 yb.num,.int .i64 yb.yr,.int .u8 yb.half,.int .u8 yb.sec,.int .i64 yb.cyc,.int .i64 0])::LZ1287):=hf
                refine O.callR hf rfl rfl rfl (RunE.call (av:=#[bv2,cV (joinC xb yb)]) C_ok_11 rfl rfl rfl) (applyU bv2 bw (joinC xb yb) _ (hS.bptO (i:=0) rfl) (hS.slr (j:=3) rfl) (slOK.fit (hS.slAt (j:=3) rfl)) (by omega) eB RB hJB) ?_
                clear hf a
                rintro am_bw w32 hS1 a hf
                replace hf:Fr a _ _ ((195,.tuple #[am_bw,.int .i64 eB])::_):=hf
                replace hS:=(hS.call hS1).eqM (N:=(sl 26 12 am_bw RB.length (encs eC RB)::MZ1287)) rfl
                clear hS1
                exact O.nil ⟨rfl,(am_bw),hf.to trivial,(gt (d:=195) hf rfl rfl),(fun j_ hj_ ha_=>match j_,hj_,ha_ with | 0,hj_,ha_=>rfl | 1,hj_,ha_=>rfl | 2,hj_,ha_=>rfl | 3,hj_,ha_=>rfl | 4,hj_,ha_=>rfl | 5,hj_,ha_=>rfl | 6,hj_,ha_=>rfl | 7,hj_,ha_=>rfl | 8,hj_,ha_=>rfl | 9,hj_,ha_=>rfl | 10,hj_,ha_=>rfl | 11,hj_,ha_=>rfl | 12,hj_,ha_=>absurd rfl hj_ | 13,hj_,ha_=>absurd ha_ (by decide) | 14,hj_,ha_=>absurd ha_ (by decide) | 15,hj_,ha_=>absurd ha_ (by decide) | 16,hj_,ha_=>absurd ha_ (by decide) | 17,hj_,ha_=>absurd ha_ (by decide) | _+18,_,_=>rfl),hS⟩
            clear hf hS; intro s_ am_bw a w _ hf hD
            have hS:St w0 w noX BZ1287 (sl 26 12 am_bw RB.length (encs eC RB)::MZ1287):=hD; clear hD
            replace hf:Fr a 246 [] ((183,bv2)::(184,vl)::(185,.pointer (some ⟨b_b13,1,none⟩))::(186,.int .i64 pb.2)::(187,ix vl (pb.2.toNat*5))::(188,.agg #[.int .i64 xb.num,.int .i64 xb.yr,.int .u8 xb.half,.int .u8 xb.sec,.int .i64 xb.cyc])::(189,vl)::(190,.pointer (some ⟨b_b13,0,none⟩))::(191,.int .i64 pb.1)::(192,ix vl (pb.1.toNat*5))::(193,.agg #[.int .i64 yb.num,.int .i64 yb.yr,.int .u8 yb.half,.int .u8 yb.sec,.int .i64 yb.cyc])::(194,.agg #[.int .u8 2,.int .i64 xb.num,.int .i64 xb.yr,.int .u8 xb.half,.int .u8 xb.sec,.int .i64 xb.cyc,.int .i64 yb.num,.int .i64 yb.yr,.int .u8 yb.half,.int .u8 yb.sec,.int .i64 yb.cyc,.int .i64 0])::(195,.tuple #[am_bw,.int .i64 eB])::(182,.tuple #[am_bw,.int .i64 eB])::(196,am_bw)::(197,.int .i64 eB)::(17,am_bw)::(18,.int .i64 eB)::LZ1287):=hf
            refine k_seq ?_
            replace hf:Fr a 246 [] [(0,vl),(1,vp),(5,.bool true),(7,am_fw),(8,bv2),(12,.int .i64 (i:Int)),(13,.pointer (some ⟨b_a14,0,none⟩)),(14,.pointer (some ⟨b_b13,0,none⟩)),(15,am_fw),(16,.int .i64 0),(17,am_bw),(18,.int .i64 eB)]:=hf.to ⟨rfl,rfl,rfl,rfl,rfl,rfl,rfl,rfl,rfl,rfl,rfl,rfl,trivial⟩
            refine W.seq ?_
            refine W.seq ?_
            refine W.regionL (l:=[0,1]) rfl ?_
            refine O.val hf rfl rfl rfl (RunV.move rfl) ?_
            clear hf a; intro a hf
            refine O.val (v:=.bool (decide (eB=(0:Int)))) hf rfl rfl rfl (RunV.eql rfl rfl) ?_
            clear hf a; intro a hf
            refine O.nil ?_
            refine k_seq ?_
            replace hf:Fr a 246 [] [(0,vl),(1,vp),(5,.bool true),(7,am_fw),(8,bv2),(12,.int .i64 (i:Int)),(13,.pointer (some ⟨b_a14,0,none⟩)),(14,.pointer (some ⟨b_b13,0,none⟩)),(15,am_fw),(16,.int .i64 0),(17,am_bw),(18,.int .i64 eB),(199,.bool (decide (eB=(0:Int))))]:=hf.to ⟨rfl,rfl,rfl,rfl,rfl,rfl,rfl,rfl,rfl,rfl,rfl,rfl,rfl,trivial⟩
            refine W.ifdI hf rfl (fun heb=>?_) (fun heb=>?_)
            · subst heb
              rw [if_pos rfl] at hB2
              refine W.regionL (l:=[0,1]) rfl ?_
              refine O.val hf rfl rfl rfl (RunV.move rfl) ?_
              clear hf a; intro a hf
              refine O.val hf rfl rfl rfl (RunV.assign rfl) ?_
              clear hf a; intro a hf
              refine O.nil ?_
              refine k_seq ?_
              replace hf:Fr a 246 [] [(0,vl),(1,vp),(5,.bool true),(7,am_fw),(8,am_bw),(12,.int .i64 (i:Int)),(13,.pointer (some ⟨b_a14,0,none⟩)),(14,.pointer (some ⟨b_b13,0,none⟩)),(15,am_fw),(16,.int .i64 0),(17,am_bw),(18,.int .i64 0)]:=hf.to ⟨rfl,rfl,rfl,rfl,rfl,rfl,rfl,rfl,rfl,rfl,rfl,rfl,trivial⟩
              refine W.seq ?_
              refine W.regionL (l:=[0,1,2,3,4,5,6,7,8,9,10,11,12,13]) rfl ?_
              refine O.val hf rfl rfl rfl (RunV.move rfl) ?_
              clear hf a; intro a hf
              refine O.val hf rfl rfl rfl (RunV.toB (c:=false) (RunV.neq rfl rfl) (by decide)) ?_
              clear hf a; intro a hf
              refine O.val hf rfl rfl rfl (RunV.move rfl) ?_
              clear hf a; intro a hf
              refine O.skipB hf rfl rfl rfl rfl rfl ?_; clear hf a; intro a hf
              refine O.skipB hf rfl rfl rfl rfl rfl ?_; clear hf a; intro a hf
              refine O.val (v:=.bool false) hf rfl rfl rfl (RunV.pick rfl rfl rfl rfl) ?_
              clear hf a; intro a hf
              refine O.val hf rfl rfl rfl (RunV.move rfl) ?_
              clear hf a; intro a hf
              refine O.gvalB (v:=.int .i64 0) hf rfl rfl rfl rfl rfl rfl (RunV.move rfl) ?_
              clear hf a; intro a hf
              refine O.gvalB (v:=.bool false) hf rfl rfl rfl rfl rfl rfl (RunV.toB (c:=false) (RunV.neq rfl rfl) (by decide)) ?_
              clear hf a; intro a hf
              refine O.gvalB (v:=.bool false) hf rfl rfl rfl rfl rfl rfl (RunV.move rfl) ?_
              clear hf a; intro a hf
              refine O.skipB hf rfl rfl rfl rfl rfl ?_; clear hf a; intro a hf
              refine O.skipB hf rfl rfl rfl rfl rfl ?_; clear hf a; intro a hf
              refine O.gvalB (v:=.bool false) hf rfl rfl rfl rfl rfl rfl (RunV.pick rfl rfl rfl rfl) ?_
              clear hf a; intro a hf
              refine O.val (v:=.bool false) hf rfl rfl rfl (RunV.pick rfl rfl rfl rfl) ?_
              clear hf a; intro a hf
              refine O.nil ?_
              refine k_seq ?_
              replace hf:Fr a 246 [] [(0,vl),(1,vp),(5,.bool true),(7,am_fw),(8,am_bw),(12,.int .i64 (i:Int)),(13,.pointer (some ⟨b_a14,0,none⟩)),(14,.pointer (some ⟨b_b13,0,none⟩)),(15,am_fw),(16,.int .i64 0),(17,am_bw),(18,.int .i64 0),(214,.bool false)]:=hf.to ⟨rfl,rfl,rfl,rfl,rfl,rfl,rfl,rfl,rfl,rfl,rfl,rfl,rfl,trivial⟩
              refine W.if_ff hf rfl ?_
              refine W.skip ?_
              refine k_blk_normal ?_
              refine k_seq ?_
              refine W.regionL (l:=[0,1,2]) rfl ?_
              refine O.val hf rfl rfl rfl (RunV.move rfl) ?_
              clear hf a; intro a hf
              refine O.val hf rfl rfl rfl (RunV.addI rfl rfl (by omega)) ?_
              clear hf a; intro a hf
              refine O.val hf rfl rfl rfl (RunV.assign rfl) ?_
              clear hf a; intro a hf
              refine O.nil ?_
              replace hS:=hS.sub (N:=[sl 26 12 am_bw RB.length (encs eC RB),sl 26 12 am_fw RF.length (encs eC RF)]) (.cons_cons _ (.cons_cons _ (.cons _ (.cons _ (.cons _ (.cons _ .slnil))))))
              refine k_then ⟨(i+1,RF,am_fw,RB,am_bw,SF,uF,SB,uB),⟨hf.to ⟨rfl,rfl,rfl,(by first | rfl | exact congrArg some (congrArg (Value.int _) (by omega))),(by first | rfl | exact congrArg some (congrArg (Value.int _) (by omega))),(by first | rfl | exact congrArg some (congrArg (Value.int _) (by omega))),trivial⟩,?_,?_,?_,?_⟩,?_⟩
              · exact hS.eqM rfl
              · omega
              · subst hxa hya hpa; rw [take_snoc (by omega),List.map_append]; exact hF2
              · subst hxb hyb hpb; rw [take_snoc (by rw [List.length_reverse]; omega),List.map_append,rev_getD (by omega)]; exact hB2
              · dsimp only; omega
            · obtain rfl:eB=36:=by
                rcases hoB with h | h
                · exact absurd h heb
                · exact h
              rw [if_neg (by decide)] at hB2
              refine W.skip ?_
              refine k_seq ?_
              refine W.seq ?_
              refine W.regionL (l:=[0,1,2,3,4,5,6,7,8,9,10,11,12,13]) rfl ?_
              refine O.val hf rfl rfl rfl (RunV.move rfl) ?_
              clear hf a; intro a hf
              refine O.val hf rfl rfl rfl (RunV.toB (c:=false) (RunV.neq rfl rfl) (by decide)) ?_
              clear hf a; intro a hf
              refine O.val hf rfl rfl rfl (RunV.move rfl) ?_
              clear hf a; intro a hf
              refine O.skipB hf rfl rfl rfl rfl rfl ?_; clear hf a; intro a hf
              refine O.skipB hf rfl rfl rfl rfl rfl ?_; clear hf a; intro a hf
              refine O.val (v:=.bool false) hf rfl rfl rfl (RunV.pick rfl rfl rfl rfl) ?_
              clear hf a; intro a hf
              refine O.val hf rfl rfl rfl (RunV.move rfl) ?_
              clear hf a; intro a hf
              refine O.gvalB (v:=.int .i64 36) hf rfl rfl rfl rfl rfl rfl (RunV.move rfl) ?_
              clear hf a; intro a hf
              refine O.gvalB (v:=.bool true) hf rfl rfl rfl rfl rfl rfl (RunV.toB (c:=true) (RunV.neq rfl rfl) (by decide)) ?_
              clear hf a; intro a hf
              refine O.gvalB (v:=.bool true) hf rfl rfl rfl rfl rfl rfl (RunV.move rfl) ?_
              clear hf a; intro a hf
              refine O.gvalB (v:=.int .i64 36) hf rfl rfl rfl rfl rfl rfl (RunV.move rfl) ?_
              clear hf a; intro a hf
              refine O.gvalB (v:=.bool false) hf rfl rfl rfl rfl rfl rfl (RunV.toB (c:=false) (RunV.neq rfl rfl) (by decide)) ?_
              clear hf a; intro a hf
              refine O.gvalB (v:=.bool false) hf rfl rfl rfl rfl rfl rfl (RunV.pick rfl rfl rfl rfl) ?_
              clear hf a; intro a hf
              refine O.val (v:=.bool false) hf rfl rfl rfl (RunV.pick rfl rfl rfl rfl) ?_
              clear hf a; intro a hf
              refine O.nil ?_
              refine k_seq ?_
              replace hf:Fr a 246 [] [(0,vl),(1,vp),(5,.bool true),(7,am_fw),(8,bv2),(12,.int .i64 (i:Int)),(13,.pointer (some ⟨b_a14,0,none⟩)),(14,.pointer (some ⟨b_b13,0,none⟩)),(15,am_fw),(16,.int .i64 0),(17,am_bw),(18,.int .i64 36),(214,.bool false)]:=hf.to ⟨rfl,rfl,rfl,rfl,rfl,rfl,rfl,rfl,rfl,rfl,rfl,rfl,rfl,trivial⟩
              refine W.if_ff hf rfl ?_
              refine W.skip ?_
              refine k_blk_normal ?_
              refine k_seq ?_
              refine W.regionL (l:=[0,1,2]) rfl ?_
              refine O.val hf rfl rfl rfl (RunV.move rfl) ?_
              clear hf a; intro a hf
              refine O.val hf rfl rfl rfl (RunV.addI rfl rfl (by omega)) ?_
              clear hf a; intro a hf
              refine O.val hf rfl rfl rfl (RunV.assign rfl) ?_
              clear hf a; intro a hf
              refine O.nil ?_
              replace hS:=hS.front (i:=1) (M':=(sl 26 12 am_fw RF.length (encs eC RF)::sl 26 12 am_bw RB.length (encs eC RB)::MZ1105)) rfl rfl
              replace hS:=hS.front (i:=4) (M':=[sl 26 12 bv2 bw.length (encs eC bw),sl 26 12 am_fw RF.length (encs eC RF),sl 26 12 am_bw RB.length (encs eC RB),pt b_a14 (.cells #[.int .i64 pa.1,.int .i64 pa.2] 42 (0,0)),pt b_b13 (.cells #[.int .i64 pb.1,.int .i64 pb.2] 42 (0,0)),sl 26 12 fv fw.length (encs eC fw)]) rfl rfl
              replace hS:=hS.sub (N:=[sl 26 12 bv2 bw.length (encs eC bw),sl 26 12 am_fw RF.length (encs eC RF)]) (.cons_cons _ (.cons_cons _ (.cons _ (.cons _ (.cons _ (.cons _ .slnil))))))
              refine k_then ⟨(i+1,RF,am_fw,bw,bv2,SF,uF,SB,uB),⟨hf.to ⟨rfl,rfl,rfl,(by first | rfl | exact congrArg some (congrArg (Value.int _) (by omega))),(by first | rfl | exact congrArg some (congrArg (Value.int _) (by omega))),(by first | rfl | exact congrArg some (congrArg (Value.int _) (by omega))),trivial⟩,?_,?_,?_,?_⟩,?_⟩
              · exact hS.eqM rfl
              · omega
              · subst hxa hya hpa; rw [take_snoc (by omega),List.map_append]; exact hF2
              · subst hxb hyb hpb; rw [take_snoc (by rw [List.length_reverse]; omega),List.map_append,rev_getD (by omega)]; exact hB2
              · dsimp only; omega
          · obtain rfl:eF=36:=by
              rcases hoF with h | h
              · exact absurd h hef
              · exact h
            rw [if_neg (by decide)] at hF2
            refine W.skip ?_
            refine k_seq ?_
            refine W.seq ?_
            replace hf:Fr a 246 [] [(0,vl),(1,vp),(5,.bool true),(7,fv),(8,bv2),(12,.int .i64 (i:Int)),(13,.pointer (some ⟨b_a14,0,none⟩)),(14,.pointer (some ⟨b_b13,0,none⟩)),(15,am_fw),(16,.int .i64 36)]:=hf.to ⟨rfl,rfl,rfl,rfl,rfl,rfl,rfl,rfl,rfl,rfl,trivial⟩
            let LZ1587:List (Nat × Value):=[(0,vl),(1,vp),(5,.bool true),(7,fv),(8,bv2),(12,.int .i64 (i:Int)),(13,.pointer (some ⟨b_a14,0,none⟩)),(14,.pointer (some ⟨b_b13,0,none⟩)),(15,am_fw),(16,.int .i64 36)]
            let MZ1587:List Asr:=(sl 26 12 am_fw RF.length (encs eC RF)::MZ1105)
            let BZ1587:List Asr:=BZ1105
            refine W.drawC (γ:=(Value)) (L0:=LZ1587) (L1:=[]) (default) [12] [] [0,1,2,3,4,5,6,7,8,9,10,11,13,14,15,16,17] (fun i_=>match i_ with | 0=>[] | 1=>[] | 2=>[] | 3=>[2] | 4=>[1,3] | 5=>[4] | 6=>[] | 7=>[] | 8=>[7] | 9=>[6,8] | 10=>[9] | 11=>[5,10] | 12=>[0,11] | 13=>[12] | 14=>[13] | 15=>[13] | 16=>[0,1,2,3,4,5,6,7,8,9,10,11,12,13,14] | 17=>[0,1,2,3,4,5,6,7,8,9,10,11,12,13,14,15,16] | _=>[]) (fun i_=>match i_ with | 0=>[] | 1=>[] | 2=>[] | 3=>[] | 4=>[] | 5=>[] | 6=>[] | 7=>[] | 8=>[] | 9=>[] | 10=>[] | 11=>[] | 12=>[] | 13=>[12] | 14=>[12] | 15=>[12] | 16=>[12] | 17=>[12] | _=>[]) (fun i_=>match i_ with | 0=>[12] | 1=>[12] | 2=>[12] | 3=>[12] | 4=>[12] | 5=>[12] | 6=>[12] | 7=>[12] | 8=>[12] | 9=>[12] | 10=>[12] | 11=>[12] | 12=>[] | 13=>[] | 14=>[] | 15=>[] | 16=>[] | 17=>[] | _=>[]) (fun _=>[]) (fun i_=>match i_ with | 0=>[] | 1=>[] | 2=>[] | 3=>[] | 4=>[] | 5=>[] | 6=>[] | 7=>[] | 8=>[] | 9=>[] | 10=>[] | 11=>[] | 12=>[13,14,15,16,17] | 13=>[] | 14=>[] | 15=>[] | 16=>[] | 17=>[] | _=>[]) (fun _=>[]) (fun i_=>match i_ with | 0=>0 | 1=>0 | 2=>0 | 3=>0 | 4=>0 | 5=>0 | 6=>0 | 7=>0 | 8=>0 | 9=>0 | 10=>0 | 11=>0 | 12=>0 | 13=>1 | 14=>1 | 15=>1 | 16=>1 | 17=>1 | _=>0) (fun i_=>match i_ with | 0=>0 | 1=>0 | 2=>0 | 3=>0 | 4=>0 | 5=>0 | 6=>0 | 7=>0 | 8=>0 | 9=>0 | 10=>0 | 11=>0 | 12=>1 | 13=>1 | 14=>1 | 15=>1 | 16=>1 | 17=>1 | _=>0) (fun (g:(Value)) j_=>match g,j_ with | am_bw,0=>bv2 | am_bw,1=>vl | am_bw,2=>.pointer (some ⟨b_b13,1,none⟩) | am_bw,3=>.int .i64 pb.2 | am_bw,4=>ix vl (pb.2.toNat*5) | am_bw,5=>.agg #[.int .i64 xb.num,.int .i64 xb.yr,.int .u8 xb.half,.int .u8 xb.sec,.int .i64 xb.cyc] | am_bw,6=>vl | am_bw,7=>.pointer (some ⟨b_b13,0,none⟩) | am_bw,8=>.int .i64 pb.1 | am_bw,9=>ix vl (pb.1.toNat*5) | am_bw,10=>.agg #[.int .i64 yb.num,.int .i64 yb.yr,.int .u8 yb.half,.int .u8 yb.sec,.int .i64 yb.cyc] | am_bw,11=>.agg #[.int .u8 2,.int .i64 xb.num,.int .i64 xb.yr,.int .u8 xb.half,.int .u8 xb.sec,.int .i64 xb.cyc,.int .i64 yb.num,.int .i64 yb.yr,.int .u8 yb.half,.int .u8 yb.sec,.int .i64 yb.cyc,.int .i64 0] | am_bw,12=>.tuple #[am_bw,.int .i64 eB] | am_bw,13=>.tuple #[am_bw,.int .i64 eB] | am_bw,14=>am_bw | am_bw,15=>.int .i64 eB | am_bw,16=>am_bw | am_bw,17=>.int .i64 eB | _,_=>undef) (fun k_ (_:Nat→Bool) (g:(Value)) w=>match k_,g with | 0,am_bw=>St w0 w noX BZ1587 MZ1587 | _,am_bw=>St w0 w noX BZ1587 (sl 26 12 am_bw RB.length (encs eC RB)::MZ1587)) P_mixed (by kernel_rfl) (by kernel_rfl) (by kernel_rfl) hf (hf.to trivial) hS.drew ?_ ?_ trivial ?_
            · clear hf hS
              refine ⟨?_,?_,?_,?_,?_,?_,?_,?_,?_,?_,?_,?_,?_,?_,?_,?_,?_,trivial⟩
              · intro k_ s_ am_bw w hlo hhi _ hD a hf
                rcases k_ with _ | k_
                · have hS:St w0 w noX BZ1587 MZ1587:=hD; clear hD
                  replace hf:Fr a 246 [] LZ1587:=hf
                  refine O.val hf rfl rfl rfl (RunV.move rfl) ?_
                  clear hf a; intro a hf
                  exact O.nil ⟨rfl,hf.to trivial,(gt (d:=183) hf rfl rfl),hS⟩
                · have hhi:k_+1≤0:=hhi; omega
              · intro k_ s_ am_bw w hlo hhi _ hD a hf
                rcases k_ with _ | k_
                · have hS:St w0 w noX BZ1587 MZ1587:=hD; clear hD
                  replace hf:Fr a 246 [] LZ1587:=hf
                  refine O.val hf rfl rfl rfl (RunV.move rfl) ?_
                  clear hf a; intro a hf
                  exact O.nil ⟨rfl,hf.to trivial,(gt (d:=184) hf rfl rfl),hS⟩
                · have hhi:k_+1≤0:=hhi; omega
              · intro k_ s_ am_bw w hlo hhi _ hD a hf
                rcases k_ with _ | k_
                · have hS:St w0 w noX BZ1587 MZ1587:=hD; clear hD
                  replace hf:Fr a 246 [] LZ1587:=hf
                  refine O.val hf rfl rfl rfl (RunV.indexArr (j:=1) (m:=1) T_arr_42 T_size_3 rfl rfl rfl (by omega) (by omega)) ?_
                  clear hf a; intro a hf
                  exact O.nil ⟨rfl,hf.to trivial,(gt (d:=185) hf rfl rfl),hS⟩
                · have hhi:k_+1≤0:=hhi; omega
              · intro k_ s_ am_bw w hlo hhi _ hD a hf
                rcases k_ with _ | k_
                · have hS:St w0 w noX BZ1587 MZ1587:=hD; clear hD
                  replace hf:Fr a 246 [] ((185,.pointer (some ⟨b_b13,1,none⟩))::LZ1587):=hf
                  refine O.val hf rfl rfl rfl (RunV.load1 T_agg_3 rfl (hS.ptAt (i:=2) rfl) rfl) ?_
                  clear hf a; intro a hf
                  exact O.nil ⟨rfl,hf.to trivial,(gt (d:=186) hf rfl rfl),hS⟩
                · have hhi:k_+1≤0:=hhi; omega
              · intro k_ s_ am_bw w hlo hhi _ hD a hf
                rcases k_ with _ | k_
                · have hS:St w0 w noX BZ1587 MZ1587:=hD; clear hD
                  replace hf:Fr a 246 [] ((184,vl)::(186,.int .i64 pb.2)::LZ1587):=hf
                  refine O.val hf rfl rfl rfl (RunV.ixV (j:=pb.2.toNat) (m:=pb.2.toNat*5) T_elem_35 T_size_24 rfl rfl (hS.rdAt (j:=1) rfl) (by omega) (by omega) rfl) ?_
                  clear hf a; intro a hf
                  exact O.nil ⟨rfl,hf.to trivial,(gt (d:=187) hf rfl rfl),hS⟩
                · have hhi:k_+1≤0:=hhi; omega
              · intro k_ s_ am_bw w hlo hhi _ hD a hf
                rcases k_ with _ | k_
                · have hS:St w0 w noX BZ1587 MZ1587:=hD; clear hD
                  replace hf:Fr a 246 [] ((187,ix vl (pb.2.toNat*5))::LZ1587):=hf
                  refine O.val hf rfl rfl rfl (RunV.ldG (j:=pb.2.toNat) (enc:=eD) (l:=l) (us:=eD xb) T_agg_24 T_size_24 rfl eD_len rfl (hS.rdAt (j:=1) rfl) (by omega) (by rw [hxb])) ?_
                  clear hf a; intro a hf
                  exact O.nil ⟨rfl,hf.to trivial,(gt (d:=188) hf rfl rfl),hS⟩
                · have hhi:k_+1≤0:=hhi; omega
              · intro k_ s_ am_bw w hlo hhi _ hD a hf
                rcases k_ with _ | k_
                · have hS:St w0 w noX BZ1587 MZ1587:=hD; clear hD
                  replace hf:Fr a 246 [] LZ1587:=hf
                  refine O.val hf rfl rfl rfl (RunV.move rfl) ?_
                  clear hf a; intro a hf
                  exact O.nil ⟨rfl,hf.to trivial,(gt (d:=189) hf rfl rfl),hS⟩
                · have hhi:k_+1≤0:=hhi; omega
              · intro k_ s_ am_bw w hlo hhi _ hD a hf
                rcases k_ with _ | k_
                · have hS:St w0 w noX BZ1587 MZ1587:=hD; clear hD
                  replace hf:Fr a 246 [] LZ1587:=hf
                  refine O.val hf rfl rfl rfl (RunV.indexArr (j:=0) (m:=0) T_arr_42 T_size_3 rfl rfl rfl (by omega) (by omega)) ?_
                  clear hf a; intro a hf
                  exact O.nil ⟨rfl,hf.to trivial,(gt (d:=190) hf rfl rfl),hS⟩
                · have hhi:k_+1≤0:=hhi; omega
              · intro k_ s_ am_bw w hlo hhi _ hD a hf
                rcases k_ with _ | k_
                · have hS:St w0 w noX BZ1587 MZ1587:=hD; clear hD
                  replace hf:Fr a 246 [] ((190,.pointer (some ⟨b_b13,0,none⟩))::LZ1587):=hf
                  refine O.val hf rfl rfl rfl (RunV.load1 T_agg_3 rfl (hS.ptAt (i:=2) rfl) rfl) ?_
                  clear hf a; intro a hf
                  exact O.nil ⟨rfl,hf.to trivial,(gt (d:=191) hf rfl rfl),hS⟩
                · have hhi:k_+1≤0:=hhi; omega
              · intro k_ s_ am_bw w hlo hhi _ hD a hf
                rcases k_ with _ | k_
                · have hS:St w0 w noX BZ1587 MZ1587:=hD; clear hD
                  replace hf:Fr a 246 [] ((189,vl)::(191,.int .i64 pb.1)::LZ1587):=hf
                  refine O.val hf rfl rfl rfl (RunV.ixV (j:=pb.1.toNat) (m:=pb.1.toNat*5) T_elem_35 T_size_24 rfl rfl (hS.rdAt (j:=1) rfl) (by omega) (by omega) rfl) ?_
                  clear hf a; intro a hf
                  exact O.nil ⟨rfl,hf.to trivial,(gt (d:=192) hf rfl rfl),hS⟩
                · have hhi:k_+1≤0:=hhi; omega
              · intro k_ s_ am_bw w hlo hhi _ hD a hf
                rcases k_ with _ | k_
                · have hS:St w0 w noX BZ1587 MZ1587:=hD; clear hD
                  replace hf:Fr a 246 [] ((192,ix vl (pb.1.toNat*5))::LZ1587):=hf
                  refine O.val hf rfl rfl rfl (RunV.ldG (j:=pb.1.toNat) (enc:=eD) (l:=l) (us:=eD yb) T_agg_24 T_size_24 rfl eD_len rfl (hS.rdAt (j:=1) rfl) (by omega) (by rw [hyb])) ?_
                  clear hf a; intro a hf
                  exact O.nil ⟨rfl,hf.to trivial,(gt (d:=193) hf rfl rfl),hS⟩
                · have hhi:k_+1≤0:=hhi; omega
              · intro k_ s_ am_bw w hlo hhi _ hD a hf
                rcases k_ with _ | k_
                · have hS:St w0 w noX BZ1587 MZ1587:=hD; clear hD
                  replace hf:Fr a 246 [] ((188,.agg #[.int .i64 xb.num,.int .i64 xb.yr,.int .u8 xb.half,.int .u8 xb.sec,.int .i64 xb.cyc])::(193,.agg #[.int .i64 yb.num,.int .i64 yb.yr,.int .u8 yb.half,.int .u8 yb.sec,.int .i64 yb.cyc])::LZ1587):=hf
                  refine O.val hf rfl rfl rfl (RunV.buildS (cs':=#[.int .u8 2,.int .i64 xb.num,.int .i64 xb.yr,.int .u8 xb.half,.int .u8 xb.sec,.int .i64 xb.cyc,.int .i64 yb.num,.int .i64 yb.yr,.int .u8 yb.half,.int .u8 yb.sec,.int .i64 yb.cyc,.int .i64 0]) T_places_26 T_zero_26 rfl (by kernel_rfl)) ?_
                  clear hf a; intro a hf
                  exact O.nil ⟨rfl,hf.to trivial,(gt (d:=194) hf rfl rfl),hS⟩
                · have hhi:k_+1≤0:=hhi; omega
              · intro k_ s_ am_bw w hlo hhi _ hD a hf
                rcases k_ with _ | k_
                · exact absurd hlo (by decide)
                · have hS:St w0 w noX BZ1587 (sl 26 12 am_bw RB.length (encs eC RB)::MZ1587):=hD; clear hD
                  replace hf:Fr a 246 [] ((195,.tuple #[am_bw,.int .i64 eB])::LZ1587):=hf
                  refine O.val hf rfl rfl rfl (RunV.move rfl) ?_
                  clear hf a; intro a hf
                  exact O.nil ⟨rfl,hf.to trivial,(gt (d:=182) hf rfl rfl),hS⟩
              · intro k_ s_ am_bw w hlo hhi _ hD a hf
                rcases k_ with _ | k_
                · exact absurd hlo (by decide)
                · have hS:St w0 w noX BZ1587 (sl 26 12 am_bw RB.length (encs eC RB)::MZ1587):=hD; clear hD
                  replace hf:Fr a 246 [] ((182,.tuple #[am_bw,.int .i64 eB])::LZ1587):=hf
                  refine O.val hf rfl rfl rfl (RunV.extract rfl rfl) ?_
                  clear hf a; intro a hf
                  exact O.nil ⟨rfl,hf.to trivial,(gt (d:=196) hf rfl rfl),hS⟩
              · intro k_ s_ am_bw w hlo hhi _ hD a hf
                rcases k_ with _ | k_
                · exact absurd hlo (by decide)
                · have hS:St w0 w noX BZ1587 (sl 26 12 am_bw RB.length (encs eC RB)::MZ1587):=hD; clear hD
                  replace hf:Fr a 246 [] ((182,.tuple #[am_bw,.int .i64 eB])::LZ1587):=hf
                  refine O.val hf rfl rfl rfl (RunV.extract rfl rfl) ?_
                  clear hf a; intro a hf
                  exact O.nil ⟨rfl,hf.to trivial,(gt (d:=197) hf rfl rfl),hS⟩
              · intro k_ s_ am_bw w hlo hhi _ hD a hf
                rcases k_ with _ | k_
                · exact absurd hlo (by decide)
                · have hS:St w0 w noX BZ1587 (sl 26 12 am_bw RB.length (encs eC RB)::MZ1587):=hD; clear hD
                  replace hf:Fr a 246 [] ((183,bv2)::(184,vl)::(185,.pointer (some ⟨b_b13,1,none⟩))::(186,.int .i64 pb.2)::(187,ix vl (pb.2.toNat*5))::(188,.agg #[.int .i64 xb.num,.int .i64 xb.yr,.int .u8 xb.half,.int .u8 xb.sec,.int .i64 xb.cyc])::(189,vl)::(190,.pointer (some ⟨b_b13,0,none⟩))::(191,.int .i64 pb.1)::(192,ix vl (pb.1.toNat*5))::(193,.agg #[.int .i64 yb.num,.int .i64 yb.yr,.int .u8 yb.half,.int .u8 yb.sec,.int .i64 yb.cyc])::(194,.agg #[.int .u8 2,.int .i64 xb.num,.int .i64 xb.yr,.int .u8 xb.half,.int .u8 xb.sec,.int .i64 xb.cyc,.int .i64 yb.num,.int .i64 yb.yr,.int .u8 yb.half,.int .u8 yb.sec,.int .i64 yb.cyc,.int .i64 0])::(195,.tuple #[am_bw,.int .i64 eB])::(182,.tuple #[am_bw,.int .i64 eB])::(196,am_bw)::LZ1587):=hf
                  refine O.val hf rfl rfl rfl (RunV.assign rfl) ?_
                  clear hf a; intro a hf
                  exact O.nil ⟨rfl,hf.to trivial,(gt (d:=17) hf rfl rfl),hS⟩
              · intro k_ s_ am_bw w hlo hhi _ hD a hf
                rcases k_ with _ | k_
                · exact absurd hlo (by decide)
                · have hS:St w0 w noX BZ1587 (sl 26 12 am_bw RB.length (encs eC RB)::MZ1587):=hD; clear hD
                  replace hf:Fr a 246 [] ((183,bv2)::(184,vl)::(185,.pointer (some ⟨b_b13,1,none⟩))::(186,.int .i64 pb.2)::(187,ix vl (pb.2.toNat*5))::(188,.agg #[.int .i64 xb.num,.int .i64 xb.yr,.int .u8 xb.half,.int .u8 xb.sec,.int .i64 xb.cyc])::(189,vl)::(190,.pointer (some ⟨b_b13,0,none⟩))::(191,.int .i64 pb.1)::(192,ix vl (pb.1.toNat*5))::(193,.agg #[.int .i64 yb.num,.int .i64 yb.yr,.int .u8 yb.half,.int .u8 yb.sec,.int .i64 yb.cyc])::(194,.agg #[.int .u8 2,.int .i64 xb.num,.int .i64 xb.yr,.int .u8 xb.half,.int .u8 xb.sec,.int .i64 xb.cyc,.int .i64 yb.num,.int .i64 yb.yr,.int .u8 yb.half,.int .u8 yb.sec,.int .i64 yb.cyc,.int .i64 0])::(195,.tuple #[am_bw,.int .i64 eB])::(182,.tuple #[am_bw,.int .i64 eB])::(196,am_bw)::(197,.int .i64 eB)::(17,am_bw)::LZ1587):=hf
                  refine O.val hf rfl rfl rfl (RunV.assign rfl) ?_
                  clear hf a; intro a hf
                  exact O.nil ⟨rfl,hf.to trivial,(gt (d:=18) hf rfl rfl),hS⟩
            · clear hf hS
              refine ⟨?_,trivial⟩
              · intro s_ am_bw w _ hD a hf
                have hS:St w0 w noX BZ1587 MZ1587:=hD; clear hD
                replace hf:Fr a 246 [] ((183,bv2)::(194,.agg #[.int .u8 2,.int .i64 xb.num,.int .i64 xb.yr,.int .u8 xb.half,.int .u8 xb.sec,.int .i64 xb.cyc,.int .i64 yb.num,.int .i64 yb.yr,.int .u8 yb.half,.int .u8 yb.sec,.int .i64 yb.cyc,.int .i64 0])::LZ1587):=hf
                refine O.callR hf rfl rfl rfl (RunE.call (av:=#[bv2,cV (joinC xb yb)]) C_ok_11 rfl rfl rfl) (applyU bv2 bw (joinC xb yb) _ (hS.bptO (i:=0) rfl) (hS.slr (j:=3) rfl) (slOK.fit (hS.slAt (j:=3) rfl)) (by omega) eB RB hJB) ?_
                clear hf a
                rintro am_bw w35 hS1 a hf
                replace hf:Fr a _ _ ((195,.tuple #[am_bw,.int .i64 eB])::_):=hf
                replace hS:=(hS.call hS1).eqM (N:=(sl 26 12 am_bw RB.length (encs eC RB)::MZ1587)) rfl
                clear hS1
                exact O.nil ⟨rfl,(am_bw),hf.to trivial,(gt (d:=195) hf rfl rfl),(fun j_ hj_ ha_=>match j_,hj_,ha_ with | 0,hj_,ha_=>rfl | 1,hj_,ha_=>rfl | 2,hj_,ha_=>rfl | 3,hj_,ha_=>rfl | 4,hj_,ha_=>rfl | 5,hj_,ha_=>rfl | 6,hj_,ha_=>rfl | 7,hj_,ha_=>rfl | 8,hj_,ha_=>rfl | 9,hj_,ha_=>rfl | 10,hj_,ha_=>rfl | 11,hj_,ha_=>rfl | 12,hj_,ha_=>absurd rfl hj_ | 13,hj_,ha_=>absurd ha_ (by decide) | 14,hj_,ha_=>absurd ha_ (by decide) | 15,hj_,ha_=>absurd ha_ (by decide) | 16,hj_,ha_=>absurd ha_ (by decide) | 17,hj_,ha_=>absurd ha_ (by decide) | _+18,_,_=>rfl),hS⟩
            clear hf hS; intro s_ am_bw a w _ hf hD
            have hS:St w0 w noX BZ1587 (sl 26 12 am_bw RB.length (encs eC RB)::MZ1587):=hD; clear hD
            replace hf:Fr a 246 [] ((183,bv2)::(184,vl)::(185,.pointer (some ⟨b_b13,1,none⟩))::(186,.int .i64 pb.2)::(187,ix vl (pb.2.toNat*5))::(188,.agg #[.int .i64 xb.num,.int .i64 xb.yr,.int .u8 xb.half,.int .u8 xb.sec,.int .i64 xb.cyc])::(189,vl)::(190,.pointer (some ⟨b_b13,0,none⟩))::(191,.int .i64 pb.1)::(192,ix vl (pb.1.toNat*5))::(193,.agg #[.int .i64 yb.num,.int .i64 yb.yr,.int .u8 yb.half,.int .u8 yb.sec,.int .i64 yb.cyc])::(194,.agg #[.int .u8 2,.int .i64 xb.num,.int .i64 xb.yr,.int .u8 xb.half,.int .u8 xb.sec,.int .i64 xb.cyc,.int .i64 yb.num,.int .i64 yb.yr,.int .u8 yb.half,.int .u8 yb.sec,.int .i64 yb.cyc,.int .i64 0])::(195,.tuple #[am_bw,.int .i64 eB])::(182,.tuple #[am_bw,.int .i64 eB])::(196,am_bw)::(197,.int .i64 eB)::(17,am_bw)::(18,.int .i64 eB)::LZ1587):=hf
            refine k_seq ?_
            replace hf:Fr a 246 [] [(0,vl),(1,vp),(5,.bool true),(7,fv),(8,bv2),(12,.int .i64 (i:Int)),(13,.pointer (some ⟨b_a14,0,none⟩)),(14,.pointer (some ⟨b_b13,0,none⟩)),(15,am_fw),(16,.int .i64 36),(17,am_bw),(18,.int .i64 eB)]:=hf.to ⟨rfl,rfl,rfl,rfl,rfl,rfl,rfl,rfl,rfl,rfl,rfl,rfl,trivial⟩
            refine W.seq ?_
            refine W.seq ?_
            refine W.regionL (l:=[0,1]) rfl ?_
            refine O.val hf rfl rfl rfl (RunV.move rfl) ?_
            clear hf a; intro a hf
            refine O.val (v:=.bool (decide (eB=(0:Int)))) hf rfl rfl rfl (RunV.eql rfl rfl) ?_
            clear hf a; intro a hf
            refine O.nil ?_
            refine k_seq ?_
            replace hf:Fr a 246 [] [(0,vl),(1,vp),(5,.bool true),(7,fv),(8,bv2),(12,.int .i64 (i:Int)),(13,.pointer (some ⟨b_a14,0,none⟩)),(14,.pointer (some ⟨b_b13,0,none⟩)),(15,am_fw),(16,.int .i64 36),(17,am_bw),(18,.int .i64 eB),(199,.bool (decide (eB=(0:Int))))]:=hf.to ⟨rfl,rfl,rfl,rfl,rfl,rfl,rfl,rfl,rfl,rfl,rfl,rfl,rfl,trivial⟩
            refine W.ifdI hf rfl (fun heb=>?_) (fun heb=>?_)
            · subst heb
              rw [if_pos rfl] at hB2
              refine W.regionL (l:=[0,1]) rfl ?_
              refine O.val hf rfl rfl rfl (RunV.move rfl) ?_
              clear hf a; intro a hf
              refine O.val hf rfl rfl rfl (RunV.assign rfl) ?_
              clear hf a; intro a hf
              refine O.nil ?_
              refine k_seq ?_
              replace hf:Fr a 246 [] [(0,vl),(1,vp),(5,.bool true),(7,fv),(8,am_bw),(12,.int .i64 (i:Int)),(13,.pointer (some ⟨b_a14,0,none⟩)),(14,.pointer (some ⟨b_b13,0,none⟩)),(15,am_fw),(16,.int .i64 36),(17,am_bw),(18,.int .i64 0)]:=hf.to ⟨rfl,rfl,rfl,rfl,rfl,rfl,rfl,rfl,rfl,rfl,rfl,rfl,trivial⟩
              refine W.seq ?_
              refine W.regionL (l:=[0,1,2,3,4,5,6,7,8,9,10,11,12,13]) rfl ?_
              refine O.val hf rfl rfl rfl (RunV.move rfl) ?_
              clear hf a; intro a hf
              refine O.val hf rfl rfl rfl (RunV.toB (c:=true) (RunV.neq rfl rfl) (by decide)) ?_
              clear hf a; intro a hf
              refine O.val hf rfl rfl rfl (RunV.move rfl) ?_
              clear hf a; intro a hf
              refine O.gvalB (v:=.int .i64 36) hf rfl rfl rfl rfl rfl rfl (RunV.move rfl) ?_
              clear hf a; intro a hf
              refine O.gvalB (v:=.bool false) hf rfl rfl rfl rfl rfl rfl (RunV.toB (c:=false) (RunV.neq rfl rfl) (by decide)) ?_
              clear hf a; intro a hf
              refine O.val (v:=.bool false) hf rfl rfl rfl (RunV.pick rfl rfl rfl rfl) ?_
              clear hf a; intro a hf
              refine O.val hf rfl rfl rfl (RunV.move rfl) ?_
              clear hf a; intro a hf
              refine O.gvalB (v:=.int .i64 0) hf rfl rfl rfl rfl rfl rfl (RunV.move rfl) ?_
              clear hf a; intro a hf
              refine O.gvalB (v:=.bool false) hf rfl rfl rfl rfl rfl rfl (RunV.toB (c:=false) (RunV.neq rfl rfl) (by decide)) ?_
              clear hf a; intro a hf
              refine O.gvalB (v:=.bool false) hf rfl rfl rfl rfl rfl rfl (RunV.move rfl) ?_
              clear hf a; intro a hf
              refine O.skipB hf rfl rfl rfl rfl rfl ?_; clear hf a; intro a hf
              refine O.skipB hf rfl rfl rfl rfl rfl ?_; clear hf a; intro a hf
              refine O.gvalB (v:=.bool false) hf rfl rfl rfl rfl rfl rfl (RunV.pick rfl rfl rfl rfl) ?_
              clear hf a; intro a hf
              refine O.val (v:=.bool false) hf rfl rfl rfl (RunV.pick rfl rfl rfl rfl) ?_
              clear hf a; intro a hf
              refine O.nil ?_
              refine k_seq ?_
              replace hf:Fr a 246 [] [(0,vl),(1,vp),(5,.bool true),(7,fv),(8,am_bw),(12,.int .i64 (i:Int)),(13,.pointer (some ⟨b_a14,0,none⟩)),(14,.pointer (some ⟨b_b13,0,none⟩)),(15,am_fw),(16,.int .i64 36),(17,am_bw),(18,.int .i64 0),(214,.bool false)]:=hf.to ⟨rfl,rfl,rfl,rfl,rfl,rfl,rfl,rfl,rfl,rfl,rfl,rfl,rfl,trivial⟩
              refine W.if_ff hf rfl ?_
              refine W.skip ?_
              refine k_blk_normal ?_
              refine k_seq ?_
              refine W.regionL (l:=[0,1,2]) rfl ?_
              refine O.val hf rfl rfl rfl (RunV.move rfl) ?_
              clear hf a; intro a hf
              refine O.val hf rfl rfl rfl (RunV.addI rfl rfl (by omega)) ?_
              clear hf a; intro a hf
              refine O.val hf rfl rfl rfl (RunV.assign rfl) ?_
              clear hf a; intro a hf
              refine O.nil ?_
              replace hS:=hS.sub (N:=[sl 26 12 am_bw RB.length (encs eC RB),sl 26 12 fv fw.length (encs eC fw)]) (.cons_cons _ (.cons _ (.cons _ (.cons _ (.cons _ (.cons_cons _ .slnil))))))
              refine k_then ⟨(i+1,fw,fv,RB,am_bw,SF,uF,SB,uB),⟨hf.to ⟨rfl,rfl,rfl,(by first | rfl | exact congrArg some (congrArg (Value.int _) (by omega))),(by first | rfl | exact congrArg some (congrArg (Value.int _) (by omega))),(by first | rfl | exact congrArg some (congrArg (Value.int _) (by omega))),trivial⟩,?_,?_,?_,?_⟩,?_⟩
              · exact hS.eqM rfl
              · omega
              · subst hxa hya hpa; rw [take_snoc (by omega),List.map_append]; exact hF2
              · subst hxb hyb hpb; rw [take_snoc (by rw [List.length_reverse]; omega),List.map_append,rev_getD (by omega)]; exact hB2
              · dsimp only; omega
            · obtain rfl:eB=36:=by
                rcases hoB with h | h
                · exact absurd h heb
                · exact h
              rw [if_neg (by decide)] at hB2
              refine W.skip ?_
              refine k_seq ?_
              refine W.seq ?_
              refine W.regionL (l:=[0,1,2,3,4,5,6,7,8,9,10,11,12,13]) rfl ?_
              refine O.val hf rfl rfl rfl (RunV.move rfl) ?_
              clear hf a; intro a hf
              refine O.val hf rfl rfl rfl (RunV.toB (c:=true) (RunV.neq rfl rfl) (by decide)) ?_
              clear hf a; intro a hf
              refine O.val hf rfl rfl rfl (RunV.move rfl) ?_
              clear hf a; intro a hf
              refine O.gvalB (v:=.int .i64 36) hf rfl rfl rfl rfl rfl rfl (RunV.move rfl) ?_
              clear hf a; intro a hf
              refine O.gvalB (v:=.bool false) hf rfl rfl rfl rfl rfl rfl (RunV.toB (c:=false) (RunV.neq rfl rfl) (by decide)) ?_
              clear hf a; intro a hf
              refine O.val (v:=.bool false) hf rfl rfl rfl (RunV.pick rfl rfl rfl rfl) ?_
              clear hf a; intro a hf
              refine O.val hf rfl rfl rfl (RunV.move rfl) ?_
              clear hf a; intro a hf
              refine O.gvalB (v:=.int .i64 36) hf rfl rfl rfl rfl rfl rfl (RunV.move rfl) ?_
              clear hf a; intro a hf
              refine O.gvalB (v:=.bool true) hf rfl rfl rfl rfl rfl rfl (RunV.toB (c:=true) (RunV.neq rfl rfl) (by decide)) ?_
              clear hf a; intro a hf
              refine O.gvalB (v:=.bool true) hf rfl rfl rfl rfl rfl rfl (RunV.move rfl) ?_
              clear hf a; intro a hf
              refine O.gvalB (v:=.int .i64 36) hf rfl rfl rfl rfl rfl rfl (RunV.move rfl) ?_
              clear hf a; intro a hf
              refine O.gvalB (v:=.bool false) hf rfl rfl rfl rfl rfl rfl (RunV.toB (c:=false) (RunV.neq rfl rfl) (by decide)) ?_
              clear hf a; intro a hf
              refine O.gvalB (v:=.bool false) hf rfl rfl rfl rfl rfl rfl (RunV.pick rfl rfl rfl rfl) ?_
              clear hf a; intro a hf
              refine O.val (v:=.bool false) hf rfl rfl rfl (RunV.pick rfl rfl rfl rfl) ?_
              clear hf a; intro a hf
              refine O.nil ?_
              refine k_seq ?_
              replace hf:Fr a 246 [] [(0,vl),(1,vp),(5,.bool true),(7,fv),(8,bv2),(12,.int .i64 (i:Int)),(13,.pointer (some ⟨b_a14,0,none⟩)),(14,.pointer (some ⟨b_b13,0,none⟩)),(15,am_fw),(16,.int .i64 36),(17,am_bw),(18,.int .i64 36),(214,.bool false)]:=hf.to ⟨rfl,rfl,rfl,rfl,rfl,rfl,rfl,rfl,rfl,rfl,rfl,rfl,rfl,trivial⟩
              refine W.if_ff hf rfl ?_
              refine W.skip ?_
              refine k_blk_normal ?_
              refine k_seq ?_
              refine W.regionL (l:=[0,1,2]) rfl ?_
              refine O.val hf rfl rfl rfl (RunV.move rfl) ?_
              clear hf a; intro a hf
              refine O.val hf rfl rfl rfl (RunV.addI rfl rfl (by omega)) ?_
              clear hf a; intro a hf
              refine O.val hf rfl rfl rfl (RunV.assign rfl) ?_
              clear hf a; intro a hf
              refine O.nil ?_
              replace hS:=hS.sub (N:=[sl 26 12 bv2 bw.length (encs eC bw),sl 26 12 fv fw.length (encs eC fw)]) (.cons _ (.cons _ (.cons _ (.cons _ (.cons_cons _ (.cons_cons _ .slnil))))))
              refine k_then ⟨(i+1,fw,fv,bw,bv2,SF,uF,SB,uB),⟨hf.to ⟨rfl,rfl,rfl,(by first | rfl | exact congrArg some (congrArg (Value.int _) (by omega))),(by first | rfl | exact congrArg some (congrArg (Value.int _) (by omega))),(by first | rfl | exact congrArg some (congrArg (Value.int _) (by omega))),trivial⟩,?_,?_,?_,?_⟩,?_⟩
              · exact hS.eqM rfl
              · omega
              · subst hxa hya hpa; rw [take_snoc (by omega),List.map_append]; exact hF2
              · subst hxb hyb hpb; rw [take_snoc (by rw [List.length_reverse]; omega),List.map_append,rev_getD (by omega)]; exact hB2
              · dsimp only; omega
      · refine W.exit ?_
        refine k_then_exit ?_
        refine k_then_exit ?_
        refine k_blk ?_
        refine k_seq ?_
        replace hf:Fr a 246 [] [(5,.bool true),(7,fv),(8,bv2)]:=hf.to ⟨rfl,rfl,rfl,trivial⟩
        refine W.seq ?_
        refine W.regionL (l:=[0,1,2,3,4,5,6]) rfl ?_
        have hi2:i=ps.length:=by omega
        have hF2:OrdI l (ps.map (fP l)) fw S1 us1:=by have h:=hF; rw [List.take_of_length_le (by omega)] at h; exact h
        have hB2:OrdI l (ps.reverse.map (bP l)) bw S2 us2:=by have h:=hB; rw [List.take_of_length_le (by rw [List.length_reverse]; omega)] at h; exact h
        have hsame:=ord_same hF2 hB2 ord_eqv
        refine O.val hf rfl rfl rfl (RunV.move rfl) ?_
        clear hf a; intro a hf
        refine O.callR hf rfl rfl rfl (RunE.call (av:=#[fv]) C_ok_16 rfl rfl rfl) (run_ok fv fw _ (hS.bptO (i:=0) rfl) (hS.slr (j:=1) rfl) (slOK.fit (hS.slAt (j:=1) rfl)) _ _ hF.hist) ?_
        clear hf a
        rintro ⟨va3,xs3⟩ w37 ⟨hS1,hxs3⟩ a hf
        replace hf:Fr a _ _ ((217,.tuple #[va3,.int .i64 0])::_):=hf
        replace hS:=(hS.call hS1).eqM (N:=[sl 46 6 va3 xs3.length (encs eO xs3),bigA (xs3.map obA),sl 26 12 bv2 bw.length (encs eC bw),sl 26 12 fv fw.length (encs eC fw)]) rfl
        clear hS1
        refine O.val hf rfl rfl rfl (RunV.move rfl) ?_
        clear hf a; intro a hf
        refine O.val hf rfl rfl rfl (RunV.extract rfl rfl) ?_
        clear hf a; intro a hf
        refine O.val hf rfl rfl rfl (RunV.extract rfl rfl) ?_
        clear hf a; intro a hf
        refine O.val hf rfl rfl rfl (RunV.assign rfl) ?_
        clear hf a; intro a hf
        refine O.val hf rfl rfl rfl (RunV.assign rfl) ?_
        clear hf a; intro a hf
        refine O.nil ?_
        refine k_seq ?_
        replace hf:Fr a 246 [] [(5,.bool true),(7,fv),(8,bv2),(19,va3),(20,.int .i64 0)]:=hf.to ⟨rfl,rfl,rfl,rfl,rfl,trivial⟩
        refine W.seq ?_
        refine W.regionL (l:=[0,1,2,3,4,5,6]) rfl ?_
        refine O.val hf rfl rfl rfl (RunV.move rfl) ?_
        clear hf a; intro a hf
        refine O.callR hf rfl rfl rfl (RunE.call (av:=#[bv2]) C_ok_16 rfl rfl rfl) (run_ok bv2 bw _ (hS.bptO (i:=0) rfl) (hS.slr (j:=2) rfl) (slOK.fit (hS.slAt (j:=2) rfl)) _ _ hB.hist) ?_
        clear hf a
        rintro ⟨va4,xs4⟩ w38 ⟨hS1,hxs4⟩ a hf
        replace hf:Fr a _ _ ((222,.tuple #[va4,.int .i64 0])::_):=hf
        replace hS:=(hS.call hS1).eqM (N:=[sl 46 6 va4 xs4.length (encs eO xs4),bigA (xs4.map obA),sl 46 6 va3 xs3.length (encs eO xs3),bigA (xs3.map obA),sl 26 12 bv2 bw.length (encs eC bw),sl 26 12 fv fw.length (encs eC fw)]) rfl
        clear hS1
        refine O.val hf rfl rfl rfl (RunV.move rfl) ?_
        clear hf a; intro a hf
        refine O.val hf rfl rfl rfl (RunV.extract rfl rfl) ?_
        clear hf a; intro a hf
        refine O.val hf rfl rfl rfl (RunV.extract rfl rfl) ?_
        clear hf a; intro a hf
        refine O.val hf rfl rfl rfl (RunV.assign rfl) ?_
        clear hf a; intro a hf
        refine O.val hf rfl rfl rfl (RunV.assign rfl) ?_
        clear hf a; intro a hf
        refine O.nil ?_
        refine k_seq ?_
        replace hf:Fr a 246 [] [(5,.bool true),(7,fv),(8,bv2),(19,va3),(20,.int .i64 0),(21,va4),(22,.int .i64 0)]:=hf.to ⟨rfl,rfl,rfl,rfl,rfl,rfl,rfl,trivial⟩
        refine W.seq ?_
        refine W.regionL (l:=[0,1,2,3,4,5,6,7,8,9,10,11,12,13,14,15,16,17,18,19,20,21]) rfl ?_
        refine O.val hf rfl rfl rfl (RunV.move rfl) ?_
        clear hf a; intro a hf
        refine O.val hf rfl rfl rfl (RunV.move rfl) ?_
        clear hf a; intro a hf
        refine O.gvalB (v:=.int .i64 0) hf rfl rfl rfl rfl rfl rfl (RunV.move rfl) ?_
        clear hf a; intro a hf
        refine O.gvalB (v:=.bool true) hf rfl rfl rfl rfl rfl rfl (RunV.toB (c:=true) (RunV.eql rfl rfl) (by decide)) ?_
        clear hf a; intro a hf
        refine O.val (v:=.bool true) hf rfl rfl rfl (RunV.pick rfl rfl rfl rfl) ?_
        clear hf a; intro a hf
        refine O.val hf rfl rfl rfl (RunV.move rfl) ?_
        clear hf a; intro a hf
        refine O.gvalB (v:=.int .i64 0) hf rfl rfl rfl rfl rfl rfl (RunV.move rfl) ?_
        clear hf a; intro a hf
        refine O.gvalB (v:=.bool true) hf rfl rfl rfl rfl rfl rfl (RunV.toB (c:=true) (RunV.eql rfl rfl) (by decide)) ?_
        clear hf a; intro a hf
        refine O.val (v:=.bool true) hf rfl rfl rfl (RunV.pick rfl rfl rfl rfl) ?_
        clear hf a; intro a hf
        refine O.val hf rfl rfl rfl (RunV.move rfl) ?_
        clear hf a; intro a hf
        refine O.gvalB (v:=va3) hf rfl rfl rfl rfl rfl rfl (RunV.move rfl) ?_
        clear hf a; intro a hf
        refine O.gvalB (v:=va4) hf rfl rfl rfl rfl rfl rfl (RunV.move rfl) ?_
        clear hf a; intro a hf
        refine O.gcallR hf rfl rfl rfl rfl rfl rfl (RunE.call (av:=#[va3,va4]) C_ok_17 rfl rfl rfl) (same_true va3 xs3 va4 xs4 _ (hS.slr (j:=2) rfl) (hS.slr (j:=0) rfl) (hS.obOwn (i:=3) rfl) (hS.obOwn (i:=1) rfl) (hxs3.trans (hsame.1.trans hxs4.symm))) ?_
        clear hf a
        rintro _ w39 hS1 a hf
        replace hf:Fr a _ _ ((237,.bool true)::_):=hf
        replace hS:=(hS.call hS1).eqM (N:=[sl 46 6 va4 xs4.length (encs eO xs4),bigA (xs4.map obA),sl 46 6 va3 xs3.length (encs eO xs3),bigA (xs3.map obA),sl 26 12 bv2 bw.length (encs eC bw),sl 26 12 fv fw.length (encs eC fw)]) rfl
        clear hS1
        refine O.val (v:=.bool true) hf rfl rfl rfl (RunV.pick rfl rfl rfl rfl) ?_
        clear hf a; intro a hf
        refine O.val hf rfl rfl rfl (RunV.move rfl) ?_
        clear hf a; intro a hf
        refine O.gvalB (v:=fv) hf rfl rfl rfl rfl rfl rfl (RunV.move rfl) ?_
        clear hf a; intro a hf
        refine O.gvalB (v:=.int .i64 (fw.length:Int)) hf rfl rfl rfl rfl rfl rfl (RunV.lenV (e:=26) (by simpa using T_elem_22) rfl (hS.slr (j:=5) rfl)) ?_
        clear hf a; intro a hf
        refine O.gvalB (v:=bv2) hf rfl rfl rfl rfl rfl rfl (RunV.move rfl) ?_
        clear hf a; intro a hf
        refine O.gvalB (v:=.int .i64 (bw.length:Int)) hf rfl rfl rfl rfl rfl rfl (RunV.lenV (e:=26) (by simpa using T_elem_22) rfl (hS.slr (j:=4) rfl)) ?_
        clear hf a; intro a hf
        refine O.gvalB (v:=.bool (decide ((fw.length:Int)=((bw.length:Int):Int)))) hf rfl rfl rfl rfl rfl rfl (RunV.eql rfl rfl) ?_
        clear hf a; intro a hf
        refine O.val (v:=.bool (decide ((fw.length:Int)=((bw.length:Int):Int)))) hf rfl rfl rfl (RunV.pick rfl rfl rfl rfl) ?_
        clear hf a; intro a hf
        refine O.val hf rfl rfl rfl (RunV.assign rfl) ?_
        clear hf a; intro a hf
        refine O.nil ?_
        refine k_seq ?_
        replace hf:Fr a 246 [] [(4,.bool (decide ((fw.length:Int)=((bw.length:Int):Int))))]:=hf.to ⟨rfl,trivial⟩
        refine W.ret ?_
        refine post1 hf rfl (ResOK.tmp rfl) ?_
        exact ⟨(),congrArg (fun b=>Ending.returned (Value.bool b)) (by first | exact (decide_eq_true he14) | exact (decide_eq_true (by rw [hsame.2]))),hS.sub (List.nil_sublist _) |>.noB⟩
theorem order_law (vl:Value) (l:List Dg) (vp:Value) (ps:List (Int × Int)) (w0:World) (hG:Lent w0 ordA) (hl:rdOK (hp w0) 5 vl l.length (encs eD l)) (hq:rdOK (hp w0) 2 vp ps.length (encs eP ps)) (hr:∀ d ∈ l,rD d) :
    Ret Tryd.prog 4 #[vl,vp] w0 (G:=Unit) (fun _=>.bool true) (fun _ w=>St w0 w noX [] []):=by
  cases h:(decide ((l.length:Int)>10)||decide ((ps.length:Int)>10)) with
  | true=>exact order_out vl l vp ps w0 hG hl hq hr h
  | false =>
    simp only [Bool.or_eq_false_iff,decide_eq_false_iff_not] at h
    exact order_in vl l vp ps w0 hG hl hq hr (by omega) (by omega)
end Go.Proofs.YtgakdmmmljdpjaaDoor
