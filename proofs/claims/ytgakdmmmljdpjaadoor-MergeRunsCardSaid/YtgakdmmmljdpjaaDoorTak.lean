/- Part of a proof: laws and walks. -/
import Derived.Test.YtgakdmmmljdpjaaDoorTac
import Derived.Test.YtgakdmmmljdpjaaDoorTaj
import Derived.Test.YtgakdmmmljdpjaaDoorTag
import Derived.Test.YtgakdmmmljdpjaaDoorLay
set_option linter.unusedVariables false
set_option linter.unusedSimpArgs false
set_option maxHeartbeats 1000000
set_option maxRecDepth 8000
namespace Go.Proofs.YtgakdmmmljdpjaaDoor
open Go Go.SL
theorem C_ok_53:callOK Tryd.prog 53=true:=by kernel_rfl
theorem C_ok_72:callOK Tryd.prog 72=true:=by kernel_rfl
theorem C_ok_87:callOK Tryd.prog 87=true:=by kernel_rfl
theorem C_ok_88:callOK Tryd.prog 88=true:=by kernel_rfl
theorem C_ok_89:callOK Tryd.prog 89=true:=by kernel_rfl
theorem C_ok_94:callOK Tryd.prog 94=true:=by kernel_rfl
theorem C_ok_95:callOK Tryd.prog 95=true:=by kernel_rfl
theorem T_elem_144:tElem Tryd.prog 144=some 3:=by kernel_rfl
theorem T_size_3:tSize Tryd.prog 3=some 1:=by kernel_rfl
theorem T_zero_3:tZero Tryd.prog 3=some (.int .i64 0):=by kernel_rfl
set_option maxHeartbeats 400000 in
set_option maxRecDepth 4000 in
theorem nanI (x:Int) (w0:World) :
    Ret Tryd.prog 94 #[.int .i64 x] w0 (G:=Unit) (fun _=>.bool false) (fun _ w=>St w0 w noX [] []):=by
  refine ret_of_W (lv:=[.int .i64 x]) Tryd.func94 rfl rfl rfl (fun a hf=>?_); replace hf:Fr a 6 [] [(0,.int .i64 x)]:=hf; have hS:St w0 w0 noX [] []:=St.refl w0; refine W.seq ?_
  refine W.regionL (l:=[0]) rfl<|mv hf rfl<|?_; clear hf a; intro a hf; refine nk<|W.seq<|?_
  refine W.regionL (l:=[0,1,2,3]) rfl<|mv hf rfl<|?_; clear hf a; intro a hf; refine mv hf rfl ?_; clear hf a; intro a hf; refine ov (v:=.bool (decide (x≠(x:Int)))) hf rfl (RunV.neq rfl rfl) ?_; clear hf a; intro a hf; refine mv hf rfl ?_; clear hf a; intro a hf; refine nk<|W.ret<|post1 hf rfl (ResOK.tmp rfl)<|?_; exact ⟨(),by simp,hS.sub (List.nil_sublist _) |>.noB⟩
set_option maxHeartbeats 400000 in
set_option maxRecDepth 4000 in
theorem cmp87 (x y:Int) (w0:World) :
    Ret Tryd.prog 87 #[.int .i64 x,.int .i64 y] w0 (G:=Unit) (fun _=>.int .i64 (cmpI x y)) (fun _ w=>St w0 w noX [] []):=by
  refine ret_of_W (lv:=[.int .i64 x,.int .i64 y]) Tryd.func87 rfl rfl rfl (fun a hf=>?_); replace hf:Fr a 20 [] [(0,.int .i64 x),(1,.int .i64 y)]:=hf; have hS:St w0 w0 noX [] []:=St.refl w0; refine W.seq ?_
  refine W.regionL (l:=[0]) rfl<|mv hf rfl<|?_; clear hf a; intro a hf; refine nk<|W.seq<|?_
  refine W.regionL (l:=[0,1,2]) rfl<|mv hf rfl<|?_; clear hf a; intro a hf; refine oc hf rfl C_ok_94 (nanI x _) ?_; clear hf a; rintro _ w1 hS1 a hf; replace hS:=hS.cl hS1; refine mv hf rfl ?_; clear hf a; intro a hf; refine nk<|W.seq<|?_
  refine W.regionL (l:=[0,1,2]) rfl<|mv hf rfl<|?_; clear hf a; intro a hf; refine oc hf rfl C_ok_94 (nanI y _) ?_; clear hf a; rintro _ w2 hS1 a hf; replace hS:=hS.cl hS1; refine mv hf rfl ?_; clear hf a; intro a hf; refine nk<|W.seq<|W.seq<|?_
  refine W.regionL (l:=[0]) rfl<|mv hf rfl<|?_; clear hf a; intro a hf; refine nk<|W.if_ff hf rfl<|W.skip<|k_seq<|W.seq<|W.seq<|?_
  refine W.regionL (l:=[0]) rfl<|mv hf rfl<|?_; clear hf a; intro a hf; refine nk<|W.if_ff hf rfl<|W.skip<|k_seq<|W.seq<|W.seq<|?_
  refine W.regionL (l:=[0,1,2]) rfl<|mv hf rfl<|?_; clear hf a; intro a hf; refine mv hf rfl ?_; clear hf a; intro a hf; refine ov (v:=.bool (decide (x<(y:Int)))) hf rfl (RunV.lss rfl rfl) ?_; clear hf a; intro a hf; refine nk ?_; refine W.ifdI hf rfl (fun h1=>?_) (fun h1=>?_)
  · refine W.seq ?_
    refine W.regionL (l:=[0]) rfl<|mv hf rfl<|?_; clear hf a; intro a hf; refine nk<|W.ret<|k_then_ret<|post1 hf rfl (ResOK.tmp rfl)<|?_; exact ⟨(),by unfold cmpI; first | rw [if_pos h1] | rw [if_neg h1,if_pos h2] | rw [if_neg h1,if_neg h2],hS.sub (List.nil_sublist _) |>.noB⟩
  · refine W.skip ?_
    refine k_seq<|W.seq<|W.seq<|?_
    refine W.regionL (l:=[0,1,2]) rfl<|mv hf rfl<|?_; clear hf a; intro a hf; refine mv hf rfl ?_; clear hf a; intro a hf; refine ov (v:=.bool (decide (x>(y:Int)))) hf rfl (RunV.gtr rfl rfl) ?_; clear hf a; intro a hf; refine nk ?_; refine W.ifdI hf rfl (fun h2=>?_) (fun h2=>?_)
    · refine W.seq ?_
      refine W.regionL (l:=[0]) rfl<|mv hf rfl<|?_; clear hf a; intro a hf; refine nk<|W.ret<|k_then_ret<|post1 hf rfl (ResOK.tmp rfl)<|?_; exact ⟨(),by unfold cmpI; first | rw [if_pos h1] | rw [if_neg h1,if_pos h2] | rw [if_neg h1,if_neg h2],hS.sub (List.nil_sublist _) |>.noB⟩
    · refine W.skip ?_
      refine k_seq<|W.seq<|?_
      refine W.regionL (l:=[0]) rfl<|mv hf rfl<|?_; clear hf a; intro a hf; refine nk<|W.ret<|post1 hf rfl (ResOK.tmp rfl)<|?_; exact ⟨(),by unfold cmpI; first | rw [if_pos h1] | rw [if_neg h1,if_pos h2] | rw [if_neg h1,if_neg h2],hS.sub (List.nil_sublist _) |>.noB⟩
set_option maxHeartbeats 400000 in
set_option maxRecDepth 4000 in
theorem nanB (x:Int) (w0:World) :
    Ret Tryd.prog 95 #[.int .u8 x] w0 (G:=Unit) (fun _=>.bool false) (fun _ w=>St w0 w noX [] []):=by
  refine ret_of_W (lv:=[.int .u8 x]) Tryd.func95 rfl rfl rfl (fun a hf=>?_); replace hf:Fr a 6 [] [(0,.int .u8 x)]:=hf; have hS:St w0 w0 noX [] []:=St.refl w0; refine W.seq ?_
  refine W.regionL (l:=[0]) rfl<|mv hf rfl<|?_; clear hf a; intro a hf; refine nk<|W.seq<|?_
  refine W.regionL (l:=[0,1,2,3]) rfl<|mv hf rfl<|?_; clear hf a; intro a hf; refine mv hf rfl ?_; clear hf a; intro a hf; refine ov (v:=.bool (decide (x≠(x:Int)))) hf rfl (RunV.neq rfl rfl) ?_; clear hf a; intro a hf; refine mv hf rfl ?_; clear hf a; intro a hf; refine nk<|W.ret<|post1 hf rfl (ResOK.tmp rfl)<|?_; exact ⟨(),by simp,hS.sub (List.nil_sublist _) |>.noB⟩
set_option maxHeartbeats 400000 in
set_option maxRecDepth 4000 in
theorem cmp89 (x y:Int) (w0:World) :
    Ret Tryd.prog 89 #[.int .u8 x,.int .u8 y] w0 (G:=Unit) (fun _=>.int .i64 (cmpI x y)) (fun _ w=>St w0 w noX [] []):=by
  refine ret_of_W (lv:=[.int .u8 x,.int .u8 y]) Tryd.func89 rfl rfl rfl (fun a hf=>?_); replace hf:Fr a 20 [] [(0,.int .u8 x),(1,.int .u8 y)]:=hf; have hS:St w0 w0 noX [] []:=St.refl w0; refine W.seq ?_
  refine W.regionL (l:=[0]) rfl<|mv hf rfl<|?_; clear hf a; intro a hf; refine nk<|W.seq<|?_
  refine W.regionL (l:=[0,1,2]) rfl<|mv hf rfl<|?_; clear hf a; intro a hf; refine oc hf rfl C_ok_95 (nanB x _) ?_; clear hf a; rintro _ w1 hS1 a hf; replace hS:=hS.cl hS1; refine mv hf rfl ?_; clear hf a; intro a hf; refine nk<|W.seq<|?_
  refine W.regionL (l:=[0,1,2]) rfl<|mv hf rfl<|?_; clear hf a; intro a hf; refine oc hf rfl C_ok_95 (nanB y _) ?_; clear hf a; rintro _ w2 hS1 a hf; replace hS:=hS.cl hS1; refine mv hf rfl ?_; clear hf a; intro a hf; refine nk<|W.seq<|W.seq<|?_
  refine W.regionL (l:=[0]) rfl<|mv hf rfl<|?_; clear hf a; intro a hf; refine nk<|W.if_ff hf rfl<|W.skip<|k_seq<|W.seq<|W.seq<|?_
  refine W.regionL (l:=[0]) rfl<|mv hf rfl<|?_; clear hf a; intro a hf; refine nk<|W.if_ff hf rfl<|W.skip<|k_seq<|W.seq<|W.seq<|?_
  refine W.regionL (l:=[0,1,2]) rfl<|mv hf rfl<|?_; clear hf a; intro a hf; refine mv hf rfl ?_; clear hf a; intro a hf; refine ov (v:=.bool (decide (x<(y:Int)))) hf rfl (RunV.lss rfl rfl) ?_; clear hf a; intro a hf; refine nk ?_; refine W.ifdI hf rfl (fun h1=>?_) (fun h1=>?_)
  · refine W.seq ?_
    refine W.regionL (l:=[0]) rfl<|mv hf rfl<|?_; clear hf a; intro a hf; refine nk<|W.ret<|k_then_ret<|post1 hf rfl (ResOK.tmp rfl)<|?_; exact ⟨(),by unfold cmpI; first | rw [if_pos h1] | rw [if_neg h1,if_pos h2] | rw [if_neg h1,if_neg h2],hS.sub (List.nil_sublist _) |>.noB⟩
  · refine W.skip ?_
    refine k_seq<|W.seq<|W.seq<|?_
    refine W.regionL (l:=[0,1,2]) rfl<|mv hf rfl<|?_; clear hf a; intro a hf; refine mv hf rfl ?_; clear hf a; intro a hf; refine ov (v:=.bool (decide (x>(y:Int)))) hf rfl (RunV.gtr rfl rfl) ?_; clear hf a; intro a hf; refine nk ?_; refine W.ifdI hf rfl (fun h2=>?_) (fun h2=>?_)
    · refine W.seq ?_
      refine W.regionL (l:=[0]) rfl<|mv hf rfl<|?_; clear hf a; intro a hf; refine nk<|W.ret<|k_then_ret<|post1 hf rfl (ResOK.tmp rfl)<|?_; exact ⟨(),by unfold cmpI; first | rw [if_pos h1] | rw [if_neg h1,if_pos h2] | rw [if_neg h1,if_neg h2],hS.sub (List.nil_sublist _) |>.noB⟩
    · refine W.skip ?_
      refine k_seq<|W.seq<|?_
      refine W.regionL (l:=[0]) rfl<|mv hf rfl<|?_; clear hf a; intro a hf; refine nk<|W.ret<|post1 hf rfl (ResOK.tmp rfl)<|?_; exact ⟨(),by unfold cmpI; first | rw [if_pos h1] | rw [if_neg h1,if_pos h2] | rw [if_neg h1,if_neg h2],hS.sub (List.nil_sublist _) |>.noB⟩
set_option maxHeartbeats 400000 in
set_option maxRecDepth 4000 in
theorem or_spec (vl:Value) (l:List Int) (w0:World) (hl:rdOK (hp w0) 1 vl l.length (ints l)) :
    Ret Tryd.prog 88 #[vl] w0 (G:=Unit) (fun _=>.int .i64 (orM l)) (fun _ w=>St w0 w noX [] []):=by
  refine ret_of_W (lv:=[vl]) Tryd.func88 rfl rfl rfl (fun a hf=>?_); replace hf:Fr a 18 [] [(0,vl)]:=hf; have hS:St w0 w0 noX [rdv 1 vl l.length (ints l)] []:=(St.refl w0).lend0 hl; have hlm:=hl.2.1; unfold maxLen at hlm; refine W.seq ?_
  refine W.regionL (l:=[0]) rfl<|mv hf rfl<|?_; clear hf a; intro a hf; refine nk<|W.seq<|?_
  refine W.regionL (l:=[0]) rfl<|mv hf rfl<|?_; clear hf a; intro a hf; refine nk<|W.seq<|W.seq<|?_
  refine W.regionL (l:=[0,1,2]) rfl<|mv hf rfl<|?_; clear hf a; intro a hf; refine ov hf rfl (RunV.lenV (e:=3) (by simpa using T_elem_144) rfl (hS.rdAt (j:=0) rfl)) ?_; clear hf a; intro a hf; refine mv hf rfl ?_; clear hf a; intro a hf; refine nk ?_; replace hf:Fr a 18 [] [(2,.int .i64 0),(3,.int .i64 0),(6,vl),(7,.int .i64 (l.length:Int)),(8,.int .i64 0)]:=hf.q rfl; refine W.block ?_
  refine W.loop (G:=(Nat)) (fun g a w=>match g with | k=>Fr a 18 [] [(3,.int .i64 0),(6,vl),(7,.int .i64 (l.length:Int)),(8,.int .i64 (k:Int))]∧St w0 w noX [rdv 1 vl l.length (ints l)] []∧(k≤l.length)∧(∀ i,i<k→l.getD i 0=0)) (fun g=>match g with | k=>l.length-k) 0 ?_ ?_
  · refine ⟨hf.to ⟨rfl,rfl,rfl,(by first | rfl | exact congrArg some (congrArg (Value.int _) (by omega))),trivial⟩,hS,?_,?_⟩
    · omega
    · exact fun j hj=>by omega
  clear hf hS a; rintro k a w ⟨hf,hS,h1,h2⟩; refine W.seq ?_
  refine W.regionL (l:=[0]) rfl<|ov (v:=.bool (decide ((k:Int)<((l.length:Int):Int)))) hf rfl (RunV.lss rfl rfl)<|?_; clear hf a; intro a hf; refine nk<|W.seq<|?_; refine W.ifdI hf rfl (fun hk=>?_) (fun hk=>?_)
  · refine W.skip ?_
    refine k_seq<|W.seq<|W.block<|W.seq<|?_
    refine W.regionL (l:=[0,1,2]) rfl<|ov hf rfl (RunV.ixV (j:=k) (m:=k) T_elem_144 T_size_3 rfl rfl (hS.rdAt (j:=0) rfl) rfl (by omega) (Nat.mul_one _))<|?_; clear hf a; intro a hf; refine ov hf rfl (RunV.ld1 T_agg_3 rfl (hS.rdAt (j:=0) rfl) (ints_get (by omega))) ?_; clear hf a; intro a hf; refine mv hf rfl ?_; clear hf a; intro a hf; refine nk<|W.seq<|?_
    refine W.regionL (l:=[0,1,2]) rfl<|mv hf rfl<|?_; clear hf a; intro a hf; refine mv hf rfl ?_; clear hf a; intro a hf; refine ov (v:=.bool (decide ((l.getD k 0)≠(0:Int)))) hf rfl (RunV.neq rfl rfl) ?_; clear hf a; intro a hf; refine nk ?_; refine W.ifdI hf rfl (fun hne=>?_) (fun hne=>?_)
    · refine W.seq ?_
      refine W.regionL (l:=[0,1]) rfl<|mv hf rfl<|?_; clear hf a; intro a hf; refine mv hf rfl ?_; clear hf a; intro a hf; refine nk<|W.ret<|k_blk_ret<|k_then_ret<|k_then_ret<|k_blk_ret<|k_then_ret<|post1 hf rfl (ResOK.tmp rfl)<|?_; exact ⟨(),by rw [orM_hit h2 (by omega) hne],hS.sub (List.nil_sublist _) |>.noB⟩
    · refine W.skip ?_
      refine k_blk_normal<|k_seq<|?_
      refine W.regionL (l:=[0,1]) rfl<|ov hf rfl (RunV.addI rfl rfl (by omega))<|?_; clear hf a; intro a hf; refine mv hf rfl ?_; clear hf a; intro a hf; refine O.nil ?_; refine k_then ⟨(k+1),⟨hf.to ⟨rfl,rfl,rfl,(by first | rfl | exact congrArg some (congrArg (Value.int _) (by omega))),trivial⟩,?_,?_,?_⟩,?_⟩
      · exact hS.eqM rfl
      · omega
      · exact Det.all_snoc h2 (by omega)
      · dsimp only; omega
  · refine W.exit ?_
    refine k_then_exit<|k_then_exit<|k_blk<|k_seq<|W.seq<|?_
    refine W.regionL (l:=[0,1]) rfl<|mv hf rfl<|?_; clear hf a; intro a hf; refine mv hf rfl ?_; clear hf a; intro a hf; refine nk<|W.ret<|post1 hf rfl (ResOK.tmp rfl)<|?_; exact ⟨(),by rw [orM_none (fun i hi=>h2 i (by omega))],hS.sub (List.nil_sublist _) |>.noB⟩
set_option maxHeartbeats 4000000 in
set_option maxRecDepth 4000 in
theorem compare_spec (x y:Dg) (w0:World) :
    Ret Tryd.prog 72 #[.agg (aD x),.agg (aD y)] w0 (G:=Unit) (fun _=>.int .i64 (cmpD x y)) (fun _ w=>St w0 w noX [] []):=by
  refine ret_of_W (lv:=[.agg (aD x),.agg (aD y)]) Tryd.func72 rfl rfl rfl (fun a hf=>?_); replace hf:Fr a 42 [] [(0,.agg (aD x)),(1,.agg (aD y))]:=hf; have hS:St w0 w0 noX [] []:=St.refl w0; refine W.seq ?_
  refine W.regionL (l:=[0,1,2]) rfl<|O.box (cs:=(aD x)) hf hS rfl rfl rfl rfl<|?_; intro b_a1 w a hbb_a1 hS hf; refine O.box (cs:=(aD y)) hf hS rfl rfl rfl rfl ?_; intro b_b2 w a hbb_b2 hS hf; refine mv hf rfl ?_; clear hf a; intro a hf; refine nk<|W.seq<|?_
  refine W.regionL (l:=[0,1,2,3,4,5,6,7]) rfl<|ov hf rfl (RunV.field T_field_24_0 rfl rfl)<|?_; clear hf a; intro a hf; refine ov hf rfl (RunV.load1 T_agg_3 rfl (hS.p 1 rfl) rfl) ?_; clear hf a; intro a hf; refine ov hf rfl (RunV.min rfl rfl) ?_; clear hf a; intro a hf; refine ov hf rfl (RunV.field T_field_24_0 rfl rfl) ?_; clear hf a; intro a hf; refine ov hf rfl (RunV.load1 T_agg_3 rfl (hS.p 0 rfl) rfl) ?_; clear hf a; intro a hf; refine ov hf rfl (RunV.min rfl rfl) ?_; clear hf a; intro a hf; refine oc hf rfl C_ok_87 (cmp87 (if x.num<1 then x.num else 1) (if y.num<1 then y.num else 1) _) ?_; clear hf a; rintro _ w3 hS1 a hf; replace hS:=hS.cl hS1; refine mv hf rfl ?_; clear hf a; intro a hf; refine nk<|W.seq<|?_
  replace hf:Fr a 42 [] [(2,.pointer (some ⟨b_a1,0,none⟩)),(3,.pointer (some ⟨b_b2,0,none⟩)),(5,.int .i64 (cmpI (if x.num<1 then x.num else 1) (if y.num<1 then y.num else 1)))]:=hf.q rfl
  let LZ537:List (Nat × Value):=[(2,.pointer (some ⟨b_a1,0,none⟩)),(3,.pointer (some ⟨b_b2,0,none⟩)),(5,.int .i64 (cmpI (if x.num<1 then x.num else 1) (if y.num<1 then y.num else 1)))]
  let MZ537:List Asr:=[pt b_b2 (.cells (aD y) 24 (0,0)),pt b_a1 (.cells (aD x) 24 (0,0))]
  refine W.drawC (γ:=(Nat)) (L0:=LZ537) (L1:=[]) (0) [6,11,16,21,26,27,28] [] [0,1,2,3,4,5,7,8,9,10,12,13,14,15,17,18,19,20,22,23,24,25,29] (fun i_=>match i_ with | 0=>[] | 1=>[0] | 2=>[] | 3=>[2] | 4=>[] | 5=>[4] | 6=>[3,5] | 7=>[] | 8=>[7] | 9=>[] | 10=>[9] | 11=>[6,8,10] | 12=>[] | 13=>[12] | 14=>[] | 15=>[14] | 16=>[11,13,15] | 17=>[] | 18=>[17] | 19=>[] | 20=>[19] | 21=>[16,18,20] | 22=>[] | 23=>[22] | 24=>[] | 25=>[24] | 26=>[21,23,25] | 27=>[1,6,11,16,21,26] | 28=>[26,27] | 29=>[0,1,2,3,4,5,6,7,8,9,10,11,12,13,14,15,16,17,18,19,20,21,22,23,24,25,26,27,28] | _=>[]) (fun i_=>match i_ with | 0=>[] | 1=>[] | 2=>[] | 3=>[] | 4=>[] | 5=>[] | 6=>[] | 7=>[] | 8=>[] | 9=>[] | 10=>[] | 11=>[6] | 12=>[] | 13=>[] | 14=>[] | 15=>[] | 16=>[6,11] | 17=>[] | 18=>[] | 19=>[] | 20=>[] | 21=>[6,11,16] | 22=>[] | 23=>[] | 24=>[] | 25=>[] | 26=>[6,11,16,21] | 27=>[6,11,16,21,26] | 28=>[6,11,16,21,26,27] | 29=>[6,11,16,21,26,27,28] | _=>[]) (fun i_=>match i_ with | 0=>[27,28] | 1=>[27,28] | 2=>[6,11,16,21,26,27,28] | 3=>[6,11,16,21,26,27,28] | 4=>[6,11,16,21,26,27,28] | 5=>[6,11,16,21,26,27,28] | 6=>[11,16,21,26,27,28] | 7=>[11,16,21,26,27,28] | 8=>[11,16,21,26,27,28] | 9=>[11,16,21,26,27,28] | 10=>[11,16,21,26,27,28] | 11=>[16,21,26,27,28] | 12=>[16,21,26,27,28] | 13=>[16,21,26,27,28] | 14=>[16,21,26,27,28] | 15=>[16,21,26,27,28] | 16=>[21,26,27,28] | 17=>[21,26,27,28] | 18=>[21,26,27,28] | 19=>[21,26,27,28] | 20=>[21,26,27,28] | 21=>[26,27,28] | 22=>[26,27,28] | 23=>[26,27,28] | 24=>[26,27,28] | 25=>[26,27,28] | 26=>[27,28] | 27=>[28] | 28=>[] | 29=>[] | _=>[]) (fun _=>[]) (fun i_=>match i_ with | 0=>[] | 1=>[] | 2=>[] | 3=>[] | 4=>[] | 5=>[] | 6=>[11,16,21,26,27,28,29] | 7=>[] | 8=>[] | 9=>[] | 10=>[] | 11=>[16,21,26,27,28,29] | 12=>[] | 13=>[] | 14=>[] | 15=>[] | 16=>[21,26,27,28,29] | 17=>[] | 18=>[] | 19=>[] | 20=>[] | 21=>[26,27,28,29] | 22=>[] | 23=>[] | 24=>[] | 25=>[] | 26=>[27,28,29] | 27=>[28,29] | 28=>[29] | 29=>[] | _=>[]) (fun _=>[]) (fun i_=>match i_ with | 0=>0 | 1=>0 | 2=>0 | 3=>0 | 4=>0 | 5=>0 | 6=>0 | 7=>0 | 8=>0 | 9=>0 | 10=>0 | 11=>1 | 12=>0 | 13=>0 | 14=>0 | 15=>0 | 16=>2 | 17=>0 | 18=>0 | 19=>0 | 20=>0 | 21=>3 | 22=>0 | 23=>0 | 24=>0 | 25=>0 | 26=>4 | 27=>5 | 28=>6 | 29=>7 | _=>0) (fun i_=>match i_ with | 0=>5 | 1=>5 | 2=>0 | 3=>0 | 4=>0 | 5=>0 | 6=>1 | 7=>1 | 8=>1 | 9=>1 | 10=>1 | 11=>2 | 12=>2 | 13=>2 | 14=>2 | 15=>2 | 16=>3 | 17=>3 | 18=>3 | 19=>3 | 20=>3 | 21=>4 | 22=>4 | 23=>4 | 24=>4 | 25=>4 | 26=>5 | 27=>6 | 28=>7 | 29=>7 | _=>0) (fun (g:(Nat)) j_=>match g,j_ with | b_s9,0=>.int .i64 (cmpI (if x.num<1 then x.num else 1) (if y.num<1 then y.num else 1)) | b_s9,1=>.int .i64 (-cmpI (if x.num<1 then x.num else 1) (if y.num<1 then y.num else 1)) | b_s9,2=>.pointer (some ⟨b_a1,0,none⟩) | b_s9,3=>.int .i64 x.num | b_s9,4=>.pointer (some ⟨b_b2,0,none⟩) | b_s9,5=>.int .i64 y.num | b_s9,6=>.int .i64 (cmpI x.num y.num) | b_s9,7=>.pointer (some ⟨b_a1,1,none⟩) | b_s9,8=>.int .i64 x.yr | b_s9,9=>.pointer (some ⟨b_b2,1,none⟩) | b_s9,10=>.int .i64 y.yr | b_s9,11=>.int .i64 (cmpI x.yr y.yr) | b_s9,12=>.pointer (some ⟨b_a1,2,none⟩) | b_s9,13=>.int .u8 x.half | b_s9,14=>.pointer (some ⟨b_b2,2,none⟩) | b_s9,15=>.int .u8 y.half | b_s9,16=>.int .i64 (cmpI x.half y.half) | b_s9,17=>.pointer (some ⟨b_a1,4,none⟩) | b_s9,18=>.int .i64 x.cyc | b_s9,19=>.pointer (some ⟨b_b2,4,none⟩) | b_s9,20=>.int .i64 y.cyc | b_s9,21=>.int .i64 (cmpI x.cyc y.cyc) | b_s9,22=>.pointer (some ⟨b_a1,3,none⟩) | b_s9,23=>.int .u8 x.sec | b_s9,24=>.pointer (some ⟨b_b2,3,none⟩) | b_s9,25=>.int .u8 y.sec | b_s9,26=>.int .i64 (cmpI x.sec y.sec) | b_s9,27=>.slice (some ⟨b_s9,0,none⟩) 6 6 | b_s9,28=>.int .i64 (cmpD x y) | b_s9,29=>.int .i64 (cmpD x y) | _,_=>undef) (fun k_ (_:Nat→Bool) (g:(Nat)) w=>match k_,g with | 0,b_s9=>St w0 w noX [] MZ537 | 1,b_s9=>St w0 w noX [] MZ537 | 2,b_s9=>St w0 w noX [] MZ537 | 3,b_s9=>St w0 w noX [] MZ537 | 4,b_s9=>St w0 w noX [] MZ537 | 5,b_s9=>St w0 w noX [] MZ537 | 6,b_s9=>St w0 w noX [] (pt b_s9 (.cells #[.int .i64 (-cmpI (if x.num<1 then x.num else 1) (if y.num<1 then y.num else 1)),.int .i64 (cmpI x.num y.num),.int .i64 (cmpI x.yr y.yr),.int .i64 (cmpI x.half y.half),.int .i64 (cmpI x.cyc y.cyc),.int .i64 (cmpI x.sec y.sec)] 3 (0,0))::MZ537) | _,b_s9=>St w0 w noX [] (pt b_s9 (.cells #[.int .i64 (-cmpI (if x.num<1 then x.num else 1) (if y.num<1 then y.num else 1)),.int .i64 (cmpI x.num y.num),.int .i64 (cmpI x.yr y.yr),.int .i64 (cmpI x.half y.half),.int .i64 (cmpI x.cyc y.cyc),.int .i64 (cmpI x.sec y.sec)] 3 (0,0))::MZ537)) P_mixed (by kernel_rfl) (by kernel_rfl) (by kernel_rfl) hf (hf.to trivial) hS.drew ?_ ?_ trivial ?_
  · clear hf hS
    refine ⟨?_,?_,?_,?_,?_,?_,?_,?_,?_,?_,?_,?_,?_,?_,?_,?_,?_,?_,?_,?_,?_,?_,?_,trivial⟩
    · intro k_ s_ b_s9 w hlo hhi _ hD a hf
      rcases k_ with _ | _ | _ | _ | _ | _ | _ | k_
      · have hS:St w0 w noX [] MZ537:=hD; clear hD
        replace hf:Fr a 42 [] LZ537:=hf; refine mv hf rfl ?_; clear hf a; intro a hf; exact O.nil ⟨rfl,hf.to trivial,(gt (d:=13) hf rfl rfl),hS⟩
      · have hS:St w0 w noX [] MZ537:=hD; clear hD
        replace hf:Fr a 42 [] LZ537:=hf; refine mv hf rfl ?_; clear hf a; intro a hf; exact O.nil ⟨rfl,hf.to trivial,(gt (d:=13) hf rfl rfl),hS⟩
      · have hS:St w0 w noX [] MZ537:=hD; clear hD
        replace hf:Fr a 42 [] LZ537:=hf; refine mv hf rfl ?_; clear hf a; intro a hf; exact O.nil ⟨rfl,hf.to trivial,(gt (d:=13) hf rfl rfl),hS⟩
      · have hS:St w0 w noX [] MZ537:=hD; clear hD
        replace hf:Fr a 42 [] LZ537:=hf; refine mv hf rfl ?_; clear hf a; intro a hf; exact O.nil ⟨rfl,hf.to trivial,(gt (d:=13) hf rfl rfl),hS⟩
      · have hS:St w0 w noX [] MZ537:=hD; clear hD
        replace hf:Fr a 42 [] LZ537:=hf; refine mv hf rfl ?_; clear hf a; intro a hf; exact O.nil ⟨rfl,hf.to trivial,(gt (d:=13) hf rfl rfl),hS⟩
      · have hS:St w0 w noX [] MZ537:=hD; clear hD
        replace hf:Fr a 42 [] LZ537:=hf; refine mv hf rfl ?_; clear hf a; intro a hf; exact O.nil ⟨rfl,hf.to trivial,(gt (d:=13) hf rfl rfl),hS⟩
      · exact absurd hhi (by decide)
      · have hhi:k_+7≤5:=hhi; omega
    · intro k_ s_ b_s9 w hlo hhi _ hD a hf
      rcases k_ with _ | _ | _ | _ | _ | _ | _ | k_
      · have hS:St w0 w noX [] MZ537:=hD; clear hD
        replace hf:Fr a 42 [] ((13,.int .i64 (cmpI (if x.num<1 then x.num else 1) (if y.num<1 then y.num else 1)))::LZ537):=hf; refine ov hf rfl (RunV.negI rfl (cmpI_neg _ _)) ?_; clear hf a; intro a hf; exact O.nil ⟨rfl,hf.to trivial,(gt (d:=14) hf rfl rfl),hS⟩
      · have hS:St w0 w noX [] MZ537:=hD; clear hD
        replace hf:Fr a 42 [] ((13,.int .i64 (cmpI (if x.num<1 then x.num else 1) (if y.num<1 then y.num else 1)))::LZ537):=hf; refine ov hf rfl (RunV.negI rfl (cmpI_neg _ _)) ?_; clear hf a; intro a hf; exact O.nil ⟨rfl,hf.to trivial,(gt (d:=14) hf rfl rfl),hS⟩
      · have hS:St w0 w noX [] MZ537:=hD; clear hD
        replace hf:Fr a 42 [] ((13,.int .i64 (cmpI (if x.num<1 then x.num else 1) (if y.num<1 then y.num else 1)))::LZ537):=hf; refine ov hf rfl (RunV.negI rfl (cmpI_neg _ _)) ?_; clear hf a; intro a hf; exact O.nil ⟨rfl,hf.to trivial,(gt (d:=14) hf rfl rfl),hS⟩
      · have hS:St w0 w noX [] MZ537:=hD; clear hD
        replace hf:Fr a 42 [] ((13,.int .i64 (cmpI (if x.num<1 then x.num else 1) (if y.num<1 then y.num else 1)))::LZ537):=hf; refine ov hf rfl (RunV.negI rfl (cmpI_neg _ _)) ?_; clear hf a; intro a hf; exact O.nil ⟨rfl,hf.to trivial,(gt (d:=14) hf rfl rfl),hS⟩
      · have hS:St w0 w noX [] MZ537:=hD; clear hD
        replace hf:Fr a 42 [] ((13,.int .i64 (cmpI (if x.num<1 then x.num else 1) (if y.num<1 then y.num else 1)))::LZ537):=hf; refine ov hf rfl (RunV.negI rfl (cmpI_neg _ _)) ?_; clear hf a; intro a hf; exact O.nil ⟨rfl,hf.to trivial,(gt (d:=14) hf rfl rfl),hS⟩
      · have hS:St w0 w noX [] MZ537:=hD; clear hD
        replace hf:Fr a 42 [] ((13,.int .i64 (cmpI (if x.num<1 then x.num else 1) (if y.num<1 then y.num else 1)))::LZ537):=hf; refine ov hf rfl (RunV.negI rfl (cmpI_neg _ _)) ?_; clear hf a; intro a hf; exact O.nil ⟨rfl,hf.to trivial,(gt (d:=14) hf rfl rfl),hS⟩
      · exact absurd hhi (by decide)
      · have hhi:k_+7≤5:=hhi; omega
    · intro k_ s_ b_s9 w hlo hhi _ hD a hf
      obtain rfl:k_=0:=Nat.le_antisymm hhi hlo; have hS:=hD; clear hD; replace hf:Fr a 42 [] LZ537:=hf; refine ov hf rfl (RunV.field T_field_24_0 rfl rfl) ?_; clear hf a; intro a hf; exact O.nil ⟨rfl,hf.to trivial,(gt (d:=15) hf rfl rfl),hS⟩
    · intro k_ s_ b_s9 w hlo hhi _ hD a hf
      obtain rfl:k_=0:=Nat.le_antisymm hhi hlo; have hS:=hD; clear hD; replace hf:Fr a 42 [] ((15,.pointer (some ⟨b_a1,0,none⟩))::LZ537):=hf; refine ov hf rfl (RunV.load1 T_agg_3 rfl (hS.p 1 rfl) rfl) ?_; clear hf a; intro a hf; exact O.nil ⟨rfl,hf.to trivial,(gt (d:=16) hf rfl rfl),hS⟩
    · intro k_ s_ b_s9 w hlo hhi _ hD a hf
      obtain rfl:k_=0:=Nat.le_antisymm hhi hlo; have hS:=hD; clear hD; replace hf:Fr a 42 [] LZ537:=hf; refine ov hf rfl (RunV.field T_field_24_0 rfl rfl) ?_; clear hf a; intro a hf; exact O.nil ⟨rfl,hf.to trivial,(gt (d:=17) hf rfl rfl),hS⟩
    · intro k_ s_ b_s9 w hlo hhi _ hD a hf
      obtain rfl:k_=0:=Nat.le_antisymm hhi hlo; have hS:=hD; clear hD; replace hf:Fr a 42 [] ((17,.pointer (some ⟨b_b2,0,none⟩))::LZ537):=hf; refine ov hf rfl (RunV.load1 T_agg_3 rfl (hS.p 0 rfl) rfl) ?_; clear hf a; intro a hf; exact O.nil ⟨rfl,hf.to trivial,(gt (d:=18) hf rfl rfl),hS⟩
    · intro k_ s_ b_s9 w hlo hhi _ hD a hf
      rcases k_ with _ | _ | _ | _ | _ | _ | _ | k_
      · have hS:St w0 w noX [] MZ537:=hD; clear hD
        replace hf:Fr a 42 [] LZ537:=hf; refine ov hf rfl (RunV.field T_field_24_1 rfl rfl) ?_; clear hf a; intro a hf; exact O.nil ⟨rfl,hf.to trivial,(gt (d:=20) hf rfl rfl),hS⟩
      · have hS:St w0 w noX [] MZ537:=hD; clear hD
        replace hf:Fr a 42 [] LZ537:=hf; refine ov hf rfl (RunV.field T_field_24_1 rfl rfl) ?_; clear hf a; intro a hf; exact O.nil ⟨rfl,hf.to trivial,(gt (d:=20) hf rfl rfl),hS⟩
      · exact absurd hhi (by decide)
      · exact absurd hhi (by decide)
      · exact absurd hhi (by decide)
      · exact absurd hhi (by decide)
      · exact absurd hhi (by decide)
      · have hhi:k_+7≤1:=hhi; omega
    · intro k_ s_ b_s9 w hlo hhi _ hD a hf
      rcases k_ with _ | _ | _ | _ | _ | _ | _ | k_
      · have hS:St w0 w noX [] MZ537:=hD; clear hD
        replace hf:Fr a 42 [] ((20,.pointer (some ⟨b_a1,1,none⟩))::LZ537):=hf; refine ov hf rfl (RunV.load1 T_agg_3 rfl (hS.p 1 rfl) rfl) ?_; clear hf a; intro a hf; exact O.nil ⟨rfl,hf.to trivial,(gt (d:=21) hf rfl rfl),hS⟩
      · have hS:St w0 w noX [] MZ537:=hD; clear hD
        replace hf:Fr a 42 [] ((20,.pointer (some ⟨b_a1,1,none⟩))::LZ537):=hf; refine ov hf rfl (RunV.load1 T_agg_3 rfl (hS.p 1 rfl) rfl) ?_; clear hf a; intro a hf; exact O.nil ⟨rfl,hf.to trivial,(gt (d:=21) hf rfl rfl),hS⟩
      · exact absurd hhi (by decide)
      · exact absurd hhi (by decide)
      · exact absurd hhi (by decide)
      · exact absurd hhi (by decide)
      · exact absurd hhi (by decide)
      · have hhi:k_+7≤1:=hhi; omega
    · intro k_ s_ b_s9 w hlo hhi _ hD a hf
      rcases k_ with _ | _ | _ | _ | _ | _ | _ | k_
      · have hS:St w0 w noX [] MZ537:=hD; clear hD
        replace hf:Fr a 42 [] LZ537:=hf; refine ov hf rfl (RunV.field T_field_24_1 rfl rfl) ?_; clear hf a; intro a hf; exact O.nil ⟨rfl,hf.to trivial,(gt (d:=22) hf rfl rfl),hS⟩
      · have hS:St w0 w noX [] MZ537:=hD; clear hD
        replace hf:Fr a 42 [] LZ537:=hf; refine ov hf rfl (RunV.field T_field_24_1 rfl rfl) ?_; clear hf a; intro a hf; exact O.nil ⟨rfl,hf.to trivial,(gt (d:=22) hf rfl rfl),hS⟩
      · exact absurd hhi (by decide)
      · exact absurd hhi (by decide)
      · exact absurd hhi (by decide)
      · exact absurd hhi (by decide)
      · exact absurd hhi (by decide)
      · have hhi:k_+7≤1:=hhi; omega
    · intro k_ s_ b_s9 w hlo hhi _ hD a hf
      rcases k_ with _ | _ | _ | _ | _ | _ | _ | k_
      · have hS:St w0 w noX [] MZ537:=hD; clear hD
        replace hf:Fr a 42 [] ((22,.pointer (some ⟨b_b2,1,none⟩))::LZ537):=hf; refine ov hf rfl (RunV.load1 T_agg_3 rfl (hS.p 0 rfl) rfl) ?_; clear hf a; intro a hf; exact O.nil ⟨rfl,hf.to trivial,(gt (d:=23) hf rfl rfl),hS⟩
      · have hS:St w0 w noX [] MZ537:=hD; clear hD
        replace hf:Fr a 42 [] ((22,.pointer (some ⟨b_b2,1,none⟩))::LZ537):=hf; refine ov hf rfl (RunV.load1 T_agg_3 rfl (hS.p 0 rfl) rfl) ?_; clear hf a; intro a hf; exact O.nil ⟨rfl,hf.to trivial,(gt (d:=23) hf rfl rfl),hS⟩
      · exact absurd hhi (by decide)
      · exact absurd hhi (by decide)
      · exact absurd hhi (by decide)
      · exact absurd hhi (by decide)
      · exact absurd hhi (by decide)
      · have hhi:k_+7≤1:=hhi; omega
    · intro k_ s_ b_s9 w hlo hhi _ hD a hf
      rcases k_ with _ | _ | _ | _ | _ | _ | _ | k_
      · have hS:St w0 w noX [] MZ537:=hD; clear hD
        replace hf:Fr a 42 [] LZ537:=hf; refine ov hf rfl (RunV.field T_field_24_2 rfl rfl) ?_; clear hf a; intro a hf; exact O.nil ⟨rfl,hf.to trivial,(gt (d:=25) hf rfl rfl),hS⟩
      · have hS:St w0 w noX [] MZ537:=hD; clear hD
        replace hf:Fr a 42 [] LZ537:=hf; refine ov hf rfl (RunV.field T_field_24_2 rfl rfl) ?_; clear hf a; intro a hf; exact O.nil ⟨rfl,hf.to trivial,(gt (d:=25) hf rfl rfl),hS⟩
      · have hS:St w0 w noX [] MZ537:=hD; clear hD
        replace hf:Fr a 42 [] LZ537:=hf; refine ov hf rfl (RunV.field T_field_24_2 rfl rfl) ?_; clear hf a; intro a hf; exact O.nil ⟨rfl,hf.to trivial,(gt (d:=25) hf rfl rfl),hS⟩
      · exact absurd hhi (by decide)
      · exact absurd hhi (by decide)
      · exact absurd hhi (by decide)
      · exact absurd hhi (by decide)
      · have hhi:k_+7≤2:=hhi; omega
    · intro k_ s_ b_s9 w hlo hhi _ hD a hf
      rcases k_ with _ | _ | _ | _ | _ | _ | _ | k_
      · have hS:St w0 w noX [] MZ537:=hD; clear hD
        replace hf:Fr a 42 [] ((25,.pointer (some ⟨b_a1,2,none⟩))::LZ537):=hf; refine ov hf rfl (RunV.load1 T_agg_5 rfl (hS.p 1 rfl) rfl) ?_; clear hf a; intro a hf; exact O.nil ⟨rfl,hf.to trivial,(gt (d:=26) hf rfl rfl),hS⟩
      · have hS:St w0 w noX [] MZ537:=hD; clear hD
        replace hf:Fr a 42 [] ((25,.pointer (some ⟨b_a1,2,none⟩))::LZ537):=hf; refine ov hf rfl (RunV.load1 T_agg_5 rfl (hS.p 1 rfl) rfl) ?_; clear hf a; intro a hf; exact O.nil ⟨rfl,hf.to trivial,(gt (d:=26) hf rfl rfl),hS⟩
      · have hS:St w0 w noX [] MZ537:=hD; clear hD
        replace hf:Fr a 42 [] ((25,.pointer (some ⟨b_a1,2,none⟩))::LZ537):=hf; refine ov hf rfl (RunV.load1 T_agg_5 rfl (hS.p 1 rfl) rfl) ?_; clear hf a; intro a hf; exact O.nil ⟨rfl,hf.to trivial,(gt (d:=26) hf rfl rfl),hS⟩
      · exact absurd hhi (by decide)
      · exact absurd hhi (by decide)
      · exact absurd hhi (by decide)
      · exact absurd hhi (by decide)
      · have hhi:k_+7≤2:=hhi; omega
    · intro k_ s_ b_s9 w hlo hhi _ hD a hf
      rcases k_ with _ | _ | _ | _ | _ | _ | _ | k_
      · have hS:St w0 w noX [] MZ537:=hD; clear hD
        replace hf:Fr a 42 [] LZ537:=hf; refine ov hf rfl (RunV.field T_field_24_2 rfl rfl) ?_; clear hf a; intro a hf; exact O.nil ⟨rfl,hf.to trivial,(gt (d:=27) hf rfl rfl),hS⟩
      · have hS:St w0 w noX [] MZ537:=hD; clear hD
        replace hf:Fr a 42 [] LZ537:=hf; refine ov hf rfl (RunV.field T_field_24_2 rfl rfl) ?_; clear hf a; intro a hf; exact O.nil ⟨rfl,hf.to trivial,(gt (d:=27) hf rfl rfl),hS⟩
      · have hS:St w0 w noX [] MZ537:=hD; clear hD
        replace hf:Fr a 42 [] LZ537:=hf; refine ov hf rfl (RunV.field T_field_24_2 rfl rfl) ?_; clear hf a; intro a hf; exact O.nil ⟨rfl,hf.to trivial,(gt (d:=27) hf rfl rfl),hS⟩
      · exact absurd hhi (by decide)
      · exact absurd hhi (by decide)
      · exact absurd hhi (by decide)
      · exact absurd hhi (by decide)
      · have hhi:k_+7≤2:=hhi; omega
    · intro k_ s_ b_s9 w hlo hhi _ hD a hf
      rcases k_ with _ | _ | _ | _ | _ | _ | _ | k_
      · have hS:St w0 w noX [] MZ537:=hD; clear hD
        replace hf:Fr a 42 [] ((27,.pointer (some ⟨b_b2,2,none⟩))::LZ537):=hf; refine ov hf rfl (RunV.load1 T_agg_5 rfl (hS.p 0 rfl) rfl) ?_; clear hf a; intro a hf; exact O.nil ⟨rfl,hf.to trivial,(gt (d:=28) hf rfl rfl),hS⟩
      · have hS:St w0 w noX [] MZ537:=hD; clear hD
        replace hf:Fr a 42 [] ((27,.pointer (some ⟨b_b2,2,none⟩))::LZ537):=hf; refine ov hf rfl (RunV.load1 T_agg_5 rfl (hS.p 0 rfl) rfl) ?_; clear hf a; intro a hf; exact O.nil ⟨rfl,hf.to trivial,(gt (d:=28) hf rfl rfl),hS⟩
      · have hS:St w0 w noX [] MZ537:=hD; clear hD
        replace hf:Fr a 42 [] ((27,.pointer (some ⟨b_b2,2,none⟩))::LZ537):=hf; refine ov hf rfl (RunV.load1 T_agg_5 rfl (hS.p 0 rfl) rfl) ?_; clear hf a; intro a hf; exact O.nil ⟨rfl,hf.to trivial,(gt (d:=28) hf rfl rfl),hS⟩
      · exact absurd hhi (by decide)
      · exact absurd hhi (by decide)
      · exact absurd hhi (by decide)
      · exact absurd hhi (by decide)
      · have hhi:k_+7≤2:=hhi; omega
    · intro k_ s_ b_s9 w hlo hhi _ hD a hf
      rcases k_ with _ | _ | _ | _ | _ | _ | _ | k_
      · have hS:St w0 w noX [] MZ537:=hD; clear hD
        replace hf:Fr a 42 [] LZ537:=hf; refine ov hf rfl (RunV.field T_field_24_4 rfl rfl) ?_; clear hf a; intro a hf; exact O.nil ⟨rfl,hf.to trivial,(gt (d:=30) hf rfl rfl),hS⟩
      · have hS:St w0 w noX [] MZ537:=hD; clear hD
        replace hf:Fr a 42 [] LZ537:=hf; refine ov hf rfl (RunV.field T_field_24_4 rfl rfl) ?_; clear hf a; intro a hf; exact O.nil ⟨rfl,hf.to trivial,(gt (d:=30) hf rfl rfl),hS⟩
      · have hS:St w0 w noX [] MZ537:=hD; clear hD
        replace hf:Fr a 42 [] LZ537:=hf; refine ov hf rfl (RunV.field T_field_24_4 rfl rfl) ?_; clear hf a; intro a hf; exact O.nil ⟨rfl,hf.to trivial,(gt (d:=30) hf rfl rfl),hS⟩
      · have hS:St w0 w noX [] MZ537:=hD; clear hD
        replace hf:Fr a 42 [] LZ537:=hf; refine ov hf rfl (RunV.field T_field_24_4 rfl rfl) ?_; clear hf a; intro a hf; exact O.nil ⟨rfl,hf.to trivial,(gt (d:=30) hf rfl rfl),hS⟩
      · exact absurd hhi (by decide)
      · exact absurd hhi (by decide)
      · exact absurd hhi (by decide)
      · have hhi:k_+7≤3:=hhi; omega
    · intro k_ s_ b_s9 w hlo hhi _ hD a hf
      rcases k_ with _ | _ | _ | _ | _ | _ | _ | k_
      · have hS:St w0 w noX [] MZ537:=hD; clear hD
        replace hf:Fr a 42 [] ((30,.pointer (some ⟨b_a1,4,none⟩))::LZ537):=hf; refine ov hf rfl (RunV.load1 T_agg_3 rfl (hS.p 1 rfl) rfl) ?_; clear hf a; intro a hf; exact O.nil ⟨rfl,hf.to trivial,(gt (d:=31) hf rfl rfl),hS⟩
      · have hS:St w0 w noX [] MZ537:=hD; clear hD
        replace hf:Fr a 42 [] ((30,.pointer (some ⟨b_a1,4,none⟩))::LZ537):=hf; refine ov hf rfl (RunV.load1 T_agg_3 rfl (hS.p 1 rfl) rfl) ?_; clear hf a; intro a hf; exact O.nil ⟨rfl,hf.to trivial,(gt (d:=31) hf rfl rfl),hS⟩
      · have hS:St w0 w noX [] MZ537:=hD; clear hD
        replace hf:Fr a 42 [] ((30,.pointer (some ⟨b_a1,4,none⟩))::LZ537):=hf; refine ov hf rfl (RunV.load1 T_agg_3 rfl (hS.p 1 rfl) rfl) ?_; clear hf a; intro a hf; exact O.nil ⟨rfl,hf.to trivial,(gt (d:=31) hf rfl rfl),hS⟩
      · have hS:St w0 w noX [] MZ537:=hD; clear hD
        replace hf:Fr a 42 [] ((30,.pointer (some ⟨b_a1,4,none⟩))::LZ537):=hf; refine ov hf rfl (RunV.load1 T_agg_3 rfl (hS.p 1 rfl) rfl) ?_; clear hf a; intro a hf; exact O.nil ⟨rfl,hf.to trivial,(gt (d:=31) hf rfl rfl),hS⟩
      · exact absurd hhi (by decide)
      · exact absurd hhi (by decide)
      · exact absurd hhi (by decide)
      · have hhi:k_+7≤3:=hhi; omega
    · intro k_ s_ b_s9 w hlo hhi _ hD a hf
      rcases k_ with _ | _ | _ | _ | _ | _ | _ | k_
      · have hS:St w0 w noX [] MZ537:=hD; clear hD
        replace hf:Fr a 42 [] LZ537:=hf; refine ov hf rfl (RunV.field T_field_24_4 rfl rfl) ?_; clear hf a; intro a hf; exact O.nil ⟨rfl,hf.to trivial,(gt (d:=32) hf rfl rfl),hS⟩
      · have hS:St w0 w noX [] MZ537:=hD; clear hD
        replace hf:Fr a 42 [] LZ537:=hf; refine ov hf rfl (RunV.field T_field_24_4 rfl rfl) ?_; clear hf a; intro a hf; exact O.nil ⟨rfl,hf.to trivial,(gt (d:=32) hf rfl rfl),hS⟩
      · have hS:St w0 w noX [] MZ537:=hD; clear hD
        replace hf:Fr a 42 [] LZ537:=hf; refine ov hf rfl (RunV.field T_field_24_4 rfl rfl) ?_; clear hf a; intro a hf; exact O.nil ⟨rfl,hf.to trivial,(gt (d:=32) hf rfl rfl),hS⟩
      · have hS:St w0 w noX [] MZ537:=hD; clear hD
        replace hf:Fr a 42 [] LZ537:=hf; refine ov hf rfl (RunV.field T_field_24_4 rfl rfl) ?_; clear hf a; intro a hf; exact O.nil ⟨rfl,hf.to trivial,(gt (d:=32) hf rfl rfl),hS⟩
      · exact absurd hhi (by decide)
      · exact absurd hhi (by decide)
      · exact absurd hhi (by decide)
      · have hhi:k_+7≤3:=hhi; omega
    · intro k_ s_ b_s9 w hlo hhi _ hD a hf
      rcases k_ with _ | _ | _ | _ | _ | _ | _ | k_
      · have hS:St w0 w noX [] MZ537:=hD; clear hD
        replace hf:Fr a 42 [] ((32,.pointer (some ⟨b_b2,4,none⟩))::LZ537):=hf; refine ov hf rfl (RunV.load1 T_agg_3 rfl (hS.p 0 rfl) rfl) ?_; clear hf a; intro a hf; exact O.nil ⟨rfl,hf.to trivial,(gt (d:=33) hf rfl rfl),hS⟩
      · have hS:St w0 w noX [] MZ537:=hD; clear hD
        replace hf:Fr a 42 [] ((32,.pointer (some ⟨b_b2,4,none⟩))::LZ537):=hf; refine ov hf rfl (RunV.load1 T_agg_3 rfl (hS.p 0 rfl) rfl) ?_; clear hf a; intro a hf; exact O.nil ⟨rfl,hf.to trivial,(gt (d:=33) hf rfl rfl),hS⟩
      · have hS:St w0 w noX [] MZ537:=hD; clear hD
        replace hf:Fr a 42 [] ((32,.pointer (some ⟨b_b2,4,none⟩))::LZ537):=hf; refine ov hf rfl (RunV.load1 T_agg_3 rfl (hS.p 0 rfl) rfl) ?_; clear hf a; intro a hf; exact O.nil ⟨rfl,hf.to trivial,(gt (d:=33) hf rfl rfl),hS⟩
      · have hS:St w0 w noX [] MZ537:=hD; clear hD
        replace hf:Fr a 42 [] ((32,.pointer (some ⟨b_b2,4,none⟩))::LZ537):=hf; refine ov hf rfl (RunV.load1 T_agg_3 rfl (hS.p 0 rfl) rfl) ?_; clear hf a; intro a hf; exact O.nil ⟨rfl,hf.to trivial,(gt (d:=33) hf rfl rfl),hS⟩
      · exact absurd hhi (by decide)
      · exact absurd hhi (by decide)
      · exact absurd hhi (by decide)
      · have hhi:k_+7≤3:=hhi; omega
    · intro k_ s_ b_s9 w hlo hhi _ hD a hf
      rcases k_ with _ | _ | _ | _ | _ | _ | _ | k_
      · have hS:St w0 w noX [] MZ537:=hD; clear hD
        replace hf:Fr a 42 [] LZ537:=hf; refine ov hf rfl (RunV.field T_field_24_3 rfl rfl) ?_; clear hf a; intro a hf; exact O.nil ⟨rfl,hf.to trivial,(gt (d:=35) hf rfl rfl),hS⟩
      · have hS:St w0 w noX [] MZ537:=hD; clear hD
        replace hf:Fr a 42 [] LZ537:=hf; refine ov hf rfl (RunV.field T_field_24_3 rfl rfl) ?_; clear hf a; intro a hf; exact O.nil ⟨rfl,hf.to trivial,(gt (d:=35) hf rfl rfl),hS⟩
      · have hS:St w0 w noX [] MZ537:=hD; clear hD
        replace hf:Fr a 42 [] LZ537:=hf; refine ov hf rfl (RunV.field T_field_24_3 rfl rfl) ?_; clear hf a; intro a hf; exact O.nil ⟨rfl,hf.to trivial,(gt (d:=35) hf rfl rfl),hS⟩
      · have hS:St w0 w noX [] MZ537:=hD; clear hD
        replace hf:Fr a 42 [] LZ537:=hf; refine ov hf rfl (RunV.field T_field_24_3 rfl rfl) ?_; clear hf a; intro a hf; exact O.nil ⟨rfl,hf.to trivial,(gt (d:=35) hf rfl rfl),hS⟩
      · have hS:St w0 w noX [] MZ537:=hD; clear hD
        replace hf:Fr a 42 [] LZ537:=hf; refine ov hf rfl (RunV.field T_field_24_3 rfl rfl) ?_; clear hf a; intro a hf; exact O.nil ⟨rfl,hf.to trivial,(gt (d:=35) hf rfl rfl),hS⟩
      · exact absurd hhi (by decide)
      · exact absurd hhi (by decide)
      · have hhi:k_+7≤4:=hhi; omega
    · intro k_ s_ b_s9 w hlo hhi _ hD a hf
      rcases k_ with _ | _ | _ | _ | _ | _ | _ | k_
      · have hS:St w0 w noX [] MZ537:=hD; clear hD
        replace hf:Fr a 42 [] ((35,.pointer (some ⟨b_a1,3,none⟩))::LZ537):=hf; refine ov hf rfl (RunV.load1 T_agg_5 rfl (hS.p 1 rfl) rfl) ?_; clear hf a; intro a hf; exact O.nil ⟨rfl,hf.to trivial,(gt (d:=36) hf rfl rfl),hS⟩
      · have hS:St w0 w noX [] MZ537:=hD; clear hD
        replace hf:Fr a 42 [] ((35,.pointer (some ⟨b_a1,3,none⟩))::LZ537):=hf; refine ov hf rfl (RunV.load1 T_agg_5 rfl (hS.p 1 rfl) rfl) ?_; clear hf a; intro a hf; exact O.nil ⟨rfl,hf.to trivial,(gt (d:=36) hf rfl rfl),hS⟩
      · have hS:St w0 w noX [] MZ537:=hD; clear hD
        replace hf:Fr a 42 [] ((35,.pointer (some ⟨b_a1,3,none⟩))::LZ537):=hf; refine ov hf rfl (RunV.load1 T_agg_5 rfl (hS.p 1 rfl) rfl) ?_; clear hf a; intro a hf; exact O.nil ⟨rfl,hf.to trivial,(gt (d:=36) hf rfl rfl),hS⟩
      · have hS:St w0 w noX [] MZ537:=hD; clear hD
        replace hf:Fr a 42 [] ((35,.pointer (some ⟨b_a1,3,none⟩))::LZ537):=hf; refine ov hf rfl (RunV.load1 T_agg_5 rfl (hS.p 1 rfl) rfl) ?_; clear hf a; intro a hf; exact O.nil ⟨rfl,hf.to trivial,(gt (d:=36) hf rfl rfl),hS⟩
      · have hS:St w0 w noX [] MZ537:=hD; clear hD
        replace hf:Fr a 42 [] ((35,.pointer (some ⟨b_a1,3,none⟩))::LZ537):=hf; refine ov hf rfl (RunV.load1 T_agg_5 rfl (hS.p 1 rfl) rfl) ?_; clear hf a; intro a hf; exact O.nil ⟨rfl,hf.to trivial,(gt (d:=36) hf rfl rfl),hS⟩
      · exact absurd hhi (by decide)
      · exact absurd hhi (by decide)
      · have hhi:k_+7≤4:=hhi; omega
    · intro k_ s_ b_s9 w hlo hhi _ hD a hf
      rcases k_ with _ | _ | _ | _ | _ | _ | _ | k_
      · have hS:St w0 w noX [] MZ537:=hD; clear hD
        replace hf:Fr a 42 [] LZ537:=hf; refine ov hf rfl (RunV.field T_field_24_3 rfl rfl) ?_; clear hf a; intro a hf; exact O.nil ⟨rfl,hf.to trivial,(gt (d:=37) hf rfl rfl),hS⟩
      · have hS:St w0 w noX [] MZ537:=hD; clear hD
        replace hf:Fr a 42 [] LZ537:=hf; refine ov hf rfl (RunV.field T_field_24_3 rfl rfl) ?_; clear hf a; intro a hf; exact O.nil ⟨rfl,hf.to trivial,(gt (d:=37) hf rfl rfl),hS⟩
      · have hS:St w0 w noX [] MZ537:=hD; clear hD
        replace hf:Fr a 42 [] LZ537:=hf; refine ov hf rfl (RunV.field T_field_24_3 rfl rfl) ?_; clear hf a; intro a hf; exact O.nil ⟨rfl,hf.to trivial,(gt (d:=37) hf rfl rfl),hS⟩
      · have hS:St w0 w noX [] MZ537:=hD; clear hD
        replace hf:Fr a 42 [] LZ537:=hf; refine ov hf rfl (RunV.field T_field_24_3 rfl rfl) ?_; clear hf a; intro a hf; exact O.nil ⟨rfl,hf.to trivial,(gt (d:=37) hf rfl rfl),hS⟩
      · have hS:St w0 w noX [] MZ537:=hD; clear hD
        replace hf:Fr a 42 [] LZ537:=hf; refine ov hf rfl (RunV.field T_field_24_3 rfl rfl) ?_; clear hf a; intro a hf; exact O.nil ⟨rfl,hf.to trivial,(gt (d:=37) hf rfl rfl),hS⟩
      · exact absurd hhi (by decide)
      · exact absurd hhi (by decide)
      · have hhi:k_+7≤4:=hhi; omega
    · intro k_ s_ b_s9 w hlo hhi _ hD a hf
      rcases k_ with _ | _ | _ | _ | _ | _ | _ | k_
      · have hS:St w0 w noX [] MZ537:=hD; clear hD
        replace hf:Fr a 42 [] ((37,.pointer (some ⟨b_b2,3,none⟩))::LZ537):=hf; refine ov hf rfl (RunV.load1 T_agg_5 rfl (hS.p 0 rfl) rfl) ?_; clear hf a; intro a hf; exact O.nil ⟨rfl,hf.to trivial,(gt (d:=38) hf rfl rfl),hS⟩
      · have hS:St w0 w noX [] MZ537:=hD; clear hD
        replace hf:Fr a 42 [] ((37,.pointer (some ⟨b_b2,3,none⟩))::LZ537):=hf; refine ov hf rfl (RunV.load1 T_agg_5 rfl (hS.p 0 rfl) rfl) ?_; clear hf a; intro a hf; exact O.nil ⟨rfl,hf.to trivial,(gt (d:=38) hf rfl rfl),hS⟩
      · have hS:St w0 w noX [] MZ537:=hD; clear hD
        replace hf:Fr a 42 [] ((37,.pointer (some ⟨b_b2,3,none⟩))::LZ537):=hf; refine ov hf rfl (RunV.load1 T_agg_5 rfl (hS.p 0 rfl) rfl) ?_; clear hf a; intro a hf; exact O.nil ⟨rfl,hf.to trivial,(gt (d:=38) hf rfl rfl),hS⟩
      · have hS:St w0 w noX [] MZ537:=hD; clear hD
        replace hf:Fr a 42 [] ((37,.pointer (some ⟨b_b2,3,none⟩))::LZ537):=hf; refine ov hf rfl (RunV.load1 T_agg_5 rfl (hS.p 0 rfl) rfl) ?_; clear hf a; intro a hf; exact O.nil ⟨rfl,hf.to trivial,(gt (d:=38) hf rfl rfl),hS⟩
      · have hS:St w0 w noX [] MZ537:=hD; clear hD
        replace hf:Fr a 42 [] ((37,.pointer (some ⟨b_b2,3,none⟩))::LZ537):=hf; refine ov hf rfl (RunV.load1 T_agg_5 rfl (hS.p 0 rfl) rfl) ?_; clear hf a; intro a hf; exact O.nil ⟨rfl,hf.to trivial,(gt (d:=38) hf rfl rfl),hS⟩
      · exact absurd hhi (by decide)
      · exact absurd hhi (by decide)
      · have hhi:k_+7≤4:=hhi; omega
    · intro k_ s_ b_s9 w hlo hhi _ hD a hf
      obtain rfl:k_=7:=Nat.le_antisymm hhi hlo; have hS:=hD; clear hD; replace hf:Fr a 42 [] ((13,.int .i64 (cmpI (if x.num<1 then x.num else 1) (if y.num<1 then y.num else 1)))::(14,.int .i64 (-cmpI (if x.num<1 then x.num else 1) (if y.num<1 then y.num else 1)))::(15,.pointer (some ⟨b_a1,0,none⟩))::(16,.int .i64 x.num)::(17,.pointer (some ⟨b_b2,0,none⟩))::(18,.int .i64 y.num)::(19,.int .i64 (cmpI x.num y.num))::(20,.pointer (some ⟨b_a1,1,none⟩))::(21,.int .i64 x.yr)::(22,.pointer (some ⟨b_b2,1,none⟩))::(23,.int .i64 y.yr)::(24,.int .i64 (cmpI x.yr y.yr))::(25,.pointer (some ⟨b_a1,2,none⟩))::(26,.int .u8 x.half)::(27,.pointer (some ⟨b_b2,2,none⟩))::(28,.int .u8 y.half)::(29,.int .i64 (cmpI x.half y.half))::(30,.pointer (some ⟨b_a1,4,none⟩))::(31,.int .i64 x.cyc)::(32,.pointer (some ⟨b_b2,4,none⟩))::(33,.int .i64 y.cyc)::(34,.int .i64 (cmpI x.cyc y.cyc))::(35,.pointer (some ⟨b_a1,3,none⟩))::(36,.int .u8 x.sec)::(37,.pointer (some ⟨b_b2,3,none⟩))::(38,.int .u8 y.sec)::(39,.int .i64 (cmpI x.sec y.sec))::(40,.slice (some ⟨b_s9,0,none⟩) 6 6)::(41,.int .i64 (cmpD x y))::LZ537):=hf; refine mv hf rfl ?_; clear hf a; intro a hf; exact O.nil ⟨rfl,hf.to trivial,(gt (d:=4) hf rfl rfl),hS⟩
  · clear hf hS
    refine ⟨?_,?_,?_,?_,?_,?_,?_,trivial⟩
    · intro s_ b_s9 w _ hD a hf
      have hS:=hD; clear hD; replace hf:Fr a 42 [] ((16,.int .i64 x.num)::(18,.int .i64 y.num)::LZ537):=hf; refine oc hf rfl C_ok_87 (cmp87 x.num y.num _) ?_; clear hf a; rintro _ w11 hS1 a hf; replace hS:=(hS.call hS1).eqM (N:=MZ537) rfl; exact O.nil ⟨rfl,(b_s9),hf.to trivial,(gt (d:=19) hf rfl rfl),(fun j_ hj_ ha_=>match j_,hj_,ha_ with | 0,hj_,ha_=>rfl | 1,hj_,ha_=>rfl | 2,hj_,ha_=>rfl | 3,hj_,ha_=>rfl | 4,hj_,ha_=>rfl | 5,hj_,ha_=>rfl | 6,hj_,ha_=>absurd rfl hj_ | 7,hj_,ha_=>rfl | 8,hj_,ha_=>rfl | 9,hj_,ha_=>rfl | 10,hj_,ha_=>rfl | 11,hj_,ha_=>absurd ha_ (by decide) | 12,hj_,ha_=>rfl | 13,hj_,ha_=>rfl | 14,hj_,ha_=>rfl | 15,hj_,ha_=>rfl | 16,hj_,ha_=>absurd ha_ (by decide) | 17,hj_,ha_=>rfl | 18,hj_,ha_=>rfl | 19,hj_,ha_=>rfl | 20,hj_,ha_=>rfl | 21,hj_,ha_=>absurd ha_ (by decide) | 22,hj_,ha_=>rfl | 23,hj_,ha_=>rfl | 24,hj_,ha_=>rfl | 25,hj_,ha_=>rfl | 26,hj_,ha_=>absurd ha_ (by decide) | 27,hj_,ha_=>absurd ha_ (by decide) | 28,hj_,ha_=>absurd ha_ (by decide) | 29,hj_,ha_=>absurd ha_ (by decide) | _+30,_,_=>rfl),hS⟩
    · intro s_ b_s9 w _ hD a hf
      have hS:=hD; clear hD; replace hf:Fr a 42 [] ((19,.int .i64 (cmpI x.num y.num))::(21,.int .i64 x.yr)::(23,.int .i64 y.yr)::LZ537):=hf; refine oc hf rfl C_ok_87 (cmp87 x.yr y.yr _) ?_; clear hf a; rintro _ w12 hS1 a hf; replace hS:=(hS.call hS1).eqM (N:=MZ537) rfl; exact O.nil ⟨rfl,(b_s9),hf.to trivial,(gt (d:=24) hf rfl rfl),(fun j_ hj_ ha_=>match j_,hj_,ha_ with | 0,hj_,ha_=>rfl | 1,hj_,ha_=>rfl | 2,hj_,ha_=>rfl | 3,hj_,ha_=>rfl | 4,hj_,ha_=>rfl | 5,hj_,ha_=>rfl | 6,hj_,ha_=>rfl | 7,hj_,ha_=>rfl | 8,hj_,ha_=>rfl | 9,hj_,ha_=>rfl | 10,hj_,ha_=>rfl | 11,hj_,ha_=>absurd rfl hj_ | 12,hj_,ha_=>rfl | 13,hj_,ha_=>rfl | 14,hj_,ha_=>rfl | 15,hj_,ha_=>rfl | 16,hj_,ha_=>absurd ha_ (by decide) | 17,hj_,ha_=>rfl | 18,hj_,ha_=>rfl | 19,hj_,ha_=>rfl | 20,hj_,ha_=>rfl | 21,hj_,ha_=>absurd ha_ (by decide) | 22,hj_,ha_=>rfl | 23,hj_,ha_=>rfl | 24,hj_,ha_=>rfl | 25,hj_,ha_=>rfl | 26,hj_,ha_=>absurd ha_ (by decide) | 27,hj_,ha_=>absurd ha_ (by decide) | 28,hj_,ha_=>absurd ha_ (by decide) | 29,hj_,ha_=>absurd ha_ (by decide) | _+30,_,_=>rfl),hS⟩
    · intro s_ b_s9 w _ hD a hf
      have hS:=hD; clear hD; replace hf:Fr a 42 [] ((24,.int .i64 (cmpI x.yr y.yr))::(26,.int .u8 x.half)::(28,.int .u8 y.half)::LZ537):=hf; refine oc hf rfl C_ok_89 (cmp89 x.half y.half _) ?_; clear hf a; rintro _ w13 hS1 a hf; replace hS:=(hS.call hS1).eqM (N:=MZ537) rfl; exact O.nil ⟨rfl,(b_s9),hf.to trivial,(gt (d:=29) hf rfl rfl),(fun j_ hj_ ha_=>match j_,hj_,ha_ with | 0,hj_,ha_=>rfl | 1,hj_,ha_=>rfl | 2,hj_,ha_=>rfl | 3,hj_,ha_=>rfl | 4,hj_,ha_=>rfl | 5,hj_,ha_=>rfl | 6,hj_,ha_=>rfl | 7,hj_,ha_=>rfl | 8,hj_,ha_=>rfl | 9,hj_,ha_=>rfl | 10,hj_,ha_=>rfl | 11,hj_,ha_=>rfl | 12,hj_,ha_=>rfl | 13,hj_,ha_=>rfl | 14,hj_,ha_=>rfl | 15,hj_,ha_=>rfl | 16,hj_,ha_=>absurd rfl hj_ | 17,hj_,ha_=>rfl | 18,hj_,ha_=>rfl | 19,hj_,ha_=>rfl | 20,hj_,ha_=>rfl | 21,hj_,ha_=>absurd ha_ (by decide) | 22,hj_,ha_=>rfl | 23,hj_,ha_=>rfl | 24,hj_,ha_=>rfl | 25,hj_,ha_=>rfl | 26,hj_,ha_=>absurd ha_ (by decide) | 27,hj_,ha_=>absurd ha_ (by decide) | 28,hj_,ha_=>absurd ha_ (by decide) | 29,hj_,ha_=>absurd ha_ (by decide) | _+30,_,_=>rfl),hS⟩
    · intro s_ b_s9 w _ hD a hf
      have hS:=hD; clear hD; replace hf:Fr a 42 [] ((29,.int .i64 (cmpI x.half y.half))::(31,.int .i64 x.cyc)::(33,.int .i64 y.cyc)::LZ537):=hf; refine oc hf rfl C_ok_87 (cmp87 x.cyc y.cyc _) ?_; clear hf a; rintro _ w14 hS1 a hf; replace hS:=(hS.call hS1).eqM (N:=MZ537) rfl; exact O.nil ⟨rfl,(b_s9),hf.to trivial,(gt (d:=34) hf rfl rfl),(fun j_ hj_ ha_=>match j_,hj_,ha_ with | 0,hj_,ha_=>rfl | 1,hj_,ha_=>rfl | 2,hj_,ha_=>rfl | 3,hj_,ha_=>rfl | 4,hj_,ha_=>rfl | 5,hj_,ha_=>rfl | 6,hj_,ha_=>rfl | 7,hj_,ha_=>rfl | 8,hj_,ha_=>rfl | 9,hj_,ha_=>rfl | 10,hj_,ha_=>rfl | 11,hj_,ha_=>rfl | 12,hj_,ha_=>rfl | 13,hj_,ha_=>rfl | 14,hj_,ha_=>rfl | 15,hj_,ha_=>rfl | 16,hj_,ha_=>rfl | 17,hj_,ha_=>rfl | 18,hj_,ha_=>rfl | 19,hj_,ha_=>rfl | 20,hj_,ha_=>rfl | 21,hj_,ha_=>absurd rfl hj_ | 22,hj_,ha_=>rfl | 23,hj_,ha_=>rfl | 24,hj_,ha_=>rfl | 25,hj_,ha_=>rfl | 26,hj_,ha_=>absurd ha_ (by decide) | 27,hj_,ha_=>absurd ha_ (by decide) | 28,hj_,ha_=>absurd ha_ (by decide) | 29,hj_,ha_=>absurd ha_ (by decide) | _+30,_,_=>rfl),hS⟩
    · intro s_ b_s9 w _ hD a hf
      have hS:=hD; clear hD; replace hf:Fr a 42 [] ((34,.int .i64 (cmpI x.cyc y.cyc))::(36,.int .u8 x.sec)::(38,.int .u8 y.sec)::LZ537):=hf; refine oc hf rfl C_ok_89 (cmp89 x.sec y.sec _) ?_; clear hf a; rintro _ w15 hS1 a hf; replace hS:=(hS.call hS1).eqM (N:=MZ537) rfl; exact O.nil ⟨rfl,(b_s9),hf.to trivial,(gt (d:=39) hf rfl rfl),(fun j_ hj_ ha_=>match j_,hj_,ha_ with | 0,hj_,ha_=>rfl | 1,hj_,ha_=>rfl | 2,hj_,ha_=>rfl | 3,hj_,ha_=>rfl | 4,hj_,ha_=>rfl | 5,hj_,ha_=>rfl | 6,hj_,ha_=>rfl | 7,hj_,ha_=>rfl | 8,hj_,ha_=>rfl | 9,hj_,ha_=>rfl | 10,hj_,ha_=>rfl | 11,hj_,ha_=>rfl | 12,hj_,ha_=>rfl | 13,hj_,ha_=>rfl | 14,hj_,ha_=>rfl | 15,hj_,ha_=>rfl | 16,hj_,ha_=>rfl | 17,hj_,ha_=>rfl | 18,hj_,ha_=>rfl | 19,hj_,ha_=>rfl | 20,hj_,ha_=>rfl | 21,hj_,ha_=>rfl | 22,hj_,ha_=>rfl | 23,hj_,ha_=>rfl | 24,hj_,ha_=>rfl | 25,hj_,ha_=>rfl | 26,hj_,ha_=>absurd rfl hj_ | 27,hj_,ha_=>absurd ha_ (by decide) | 28,hj_,ha_=>absurd ha_ (by decide) | 29,hj_,ha_=>absurd ha_ (by decide) | _+30,_,_=>rfl),hS⟩
    · intro s_ b_s9 w _ hD a hf
      have hS:=hD; clear hD; replace hf:Fr a 42 [] ((14,.int .i64 (-cmpI (if x.num<1 then x.num else 1) (if y.num<1 then y.num else 1)))::(19,.int .i64 (cmpI x.num y.num))::(24,.int .i64 (cmpI x.yr y.yr))::(29,.int .i64 (cmpI x.half y.half))::(34,.int .i64 (cmpI x.cyc y.cyc))::(39,.int .i64 (cmpI x.sec y.sec))::LZ537):=hf; refine O.buildSlice (cs':=#[.int .i64 (-cmpI (if x.num<1 then x.num else 1) (if y.num<1 then y.num else 1)),.int .i64 (cmpI x.num y.num),.int .i64 (cmpI x.yr y.yr),.int .i64 (cmpI x.half y.half),.int .i64 (cmpI x.cyc y.cyc),.int .i64 (cmpI x.sec y.sec)]) (zs:=#[.int .i64 0,.int .i64 0,.int .i64 0,.int .i64 0,.int .i64 0,.int .i64 0]) hf hS rfl rfl T_elem_144 T_size_3 T_zero_3 rfl rfl rfl rfl rfl ?_; intro b_s16 w a hbb_s16 hS hf; exact O.nil ⟨rfl,(b_s16),hf.to trivial,(gt (d:=40) hf rfl rfl),(fun j_ hj_ ha_=>match j_,hj_,ha_ with | 0,hj_,ha_=>rfl | 1,hj_,ha_=>rfl | 2,hj_,ha_=>rfl | 3,hj_,ha_=>rfl | 4,hj_,ha_=>rfl | 5,hj_,ha_=>rfl | 6,hj_,ha_=>rfl | 7,hj_,ha_=>rfl | 8,hj_,ha_=>rfl | 9,hj_,ha_=>rfl | 10,hj_,ha_=>rfl | 11,hj_,ha_=>rfl | 12,hj_,ha_=>rfl | 13,hj_,ha_=>rfl | 14,hj_,ha_=>rfl | 15,hj_,ha_=>rfl | 16,hj_,ha_=>rfl | 17,hj_,ha_=>rfl | 18,hj_,ha_=>rfl | 19,hj_,ha_=>rfl | 20,hj_,ha_=>rfl | 21,hj_,ha_=>rfl | 22,hj_,ha_=>rfl | 23,hj_,ha_=>rfl | 24,hj_,ha_=>rfl | 25,hj_,ha_=>rfl | 26,hj_,ha_=>rfl | 27,hj_,ha_=>absurd rfl hj_ | 28,hj_,ha_=>absurd ha_ (by decide) | 29,hj_,ha_=>absurd ha_ (by decide) | _+30,_,_=>rfl),hS⟩
    · intro s_ b_s9 w _ hD a hf
      have hS:=hD; clear hD; replace hf:Fr a 42 [] ((39,.int .i64 (cmpI x.sec y.sec))::(40,.slice (some ⟨b_s9,0,none⟩) 6 6)::LZ537):=hf; refine oc hf rfl C_ok_88 (or_spec (.slice (some ⟨b_s9,0,none⟩) 6 6) [-cmpI (if x.num<1 then x.num else 1) (if y.num<1 then y.num else 1),cmpI x.num y.num,cmpI x.yr y.yr,cmpI x.half y.half,cmpI x.cyc y.cyc,cmpI x.sec y.sec] _ (hS.rdPt (j:=0) rfl (by decide) rfl rfl)) ?_; clear hf a; rintro _ w17 hS1 a hf; replace hS:=(hS.call hS1).eqM (N:=(pt b_s9 (.cells #[.int .i64 (-cmpI (if x.num<1 then x.num else 1) (if y.num<1 then y.num else 1)),.int .i64 (cmpI x.num y.num),.int .i64 (cmpI x.yr y.yr),.int .i64 (cmpI x.half y.half),.int .i64 (cmpI x.cyc y.cyc),.int .i64 (cmpI x.sec y.sec)] 3 (0,0))::MZ537)) rfl; exact O.nil ⟨rfl,(b_s9),hf.to trivial,(gt (d:=41) hf rfl rfl),(fun j_ hj_ ha_=>match j_,hj_,ha_ with | 0,hj_,ha_=>rfl | 1,hj_,ha_=>rfl | 2,hj_,ha_=>rfl | 3,hj_,ha_=>rfl | 4,hj_,ha_=>rfl | 5,hj_,ha_=>rfl | 6,hj_,ha_=>rfl | 7,hj_,ha_=>rfl | 8,hj_,ha_=>rfl | 9,hj_,ha_=>rfl | 10,hj_,ha_=>rfl | 11,hj_,ha_=>rfl | 12,hj_,ha_=>rfl | 13,hj_,ha_=>rfl | 14,hj_,ha_=>rfl | 15,hj_,ha_=>rfl | 16,hj_,ha_=>rfl | 17,hj_,ha_=>rfl | 18,hj_,ha_=>rfl | 19,hj_,ha_=>rfl | 20,hj_,ha_=>rfl | 21,hj_,ha_=>rfl | 22,hj_,ha_=>rfl | 23,hj_,ha_=>rfl | 24,hj_,ha_=>rfl | 25,hj_,ha_=>rfl | 26,hj_,ha_=>rfl | 27,hj_,ha_=>rfl | 28,hj_,ha_=>absurd rfl hj_ | 29,hj_,ha_=>absurd ha_ (by decide) | _+30,_,_=>rfl),hS⟩
  clear hf hS; intro s_ b_s9 a w _ hf hD; have hS:=hD; clear hD; replace hf:Fr a 42 [] ((13,.int .i64 (cmpI (if x.num<1 then x.num else 1) (if y.num<1 then y.num else 1)))::(14,.int .i64 (-cmpI (if x.num<1 then x.num else 1) (if y.num<1 then y.num else 1)))::(15,.pointer (some ⟨b_a1,0,none⟩))::(16,.int .i64 x.num)::(17,.pointer (some ⟨b_b2,0,none⟩))::(18,.int .i64 y.num)::(19,.int .i64 (cmpI x.num y.num))::(20,.pointer (some ⟨b_a1,1,none⟩))::(21,.int .i64 x.yr)::(22,.pointer (some ⟨b_b2,1,none⟩))::(23,.int .i64 y.yr)::(24,.int .i64 (cmpI x.yr y.yr))::(25,.pointer (some ⟨b_a1,2,none⟩))::(26,.int .u8 x.half)::(27,.pointer (some ⟨b_b2,2,none⟩))::(28,.int .u8 y.half)::(29,.int .i64 (cmpI x.half y.half))::(30,.pointer (some ⟨b_a1,4,none⟩))::(31,.int .i64 x.cyc)::(32,.pointer (some ⟨b_b2,4,none⟩))::(33,.int .i64 y.cyc)::(34,.int .i64 (cmpI x.cyc y.cyc))::(35,.pointer (some ⟨b_a1,3,none⟩))::(36,.int .u8 x.sec)::(37,.pointer (some ⟨b_b2,3,none⟩))::(38,.int .u8 y.sec)::(39,.int .i64 (cmpI x.sec y.sec))::(40,.slice (some ⟨b_s9,0,none⟩) 6 6)::(41,.int .i64 (cmpD x y))::(4,.int .i64 (cmpD x y))::LZ537):=hf; refine k_seq<|W.ret<|post1 hf rfl (ResOK.tmp rfl)<|?_; exact ⟨(),rfl,hS.sub (List.nil_sublist _) |>.noB⟩
set_option maxHeartbeats 400000 in
set_option maxRecDepth 4000 in
theorem Compare_spec (x y:Dg) (w0:World) (hG:Lent w0 ordA) :
    Ret Tryd.prog 53 #[.agg (aD x),.agg (aD y)] w0 (G:=Unit) (fun _=>.tuple #[.int .i64 (ordD x y),.int .i64 (if okD x&&okD y then 0 else 8)]) (fun _ w=>St w0 w noX [] []):=by
  refine ret_of_W (lv:=[.agg (aD x),.agg (aD y)]) Tryd.func53 rfl rfl rfl (fun a hf=>?_); replace hf:Fr a 21 [] [(0,.agg (aD x)),(1,.agg (aD y))]:=hf; have hS:St w0 w0 noX [ordA] []:=(St.refl w0).lendA hG; refine W.seq ?_
  refine W.regionL (l:=[0,1,2,3]) rfl<|O.box (cs:=(aD x)) hf hS rfl rfl rfl rfl<|?_; intro b_a1 w a hbb_a1 hS hf; refine O.box (cs:=(aD y)) hf hS rfl rfl rfl rfl ?_; intro b_b2 w a hbb_b2 hS hf; refine mv hf rfl ?_; clear hf a; intro a hf; refine mv hf rfl ?_; clear hf a; intro a hf; refine nk<|W.seq<|W.seq<|?_
  refine W.regionL (l:=[0,1,2]) rfl<|ov hf rfl (RunV.loadN (cs':=(aD x)) T_agg_24 T_size_24 rfl (hS.p 1 rfl) (bl rfl) rfl)<|?_; clear hf a; intro a hf; refine oc hf rfl C_ok_41 (checkD_spec x _ (hS.bptO (i:=0) rfl)) ?_; clear hf a; rintro _ w3 hS1 a hf; replace hS:=hS.cl hS1; refine mv hf rfl ?_; clear hf a; intro a hf; refine nk<|W.seq<|?_
  refine W.regionL (l:=[0,1]) rfl<|mv hf rfl<|?_; clear hf a; intro a hf; refine ov (v:=.bool (decide ((if okD x then 0 else 8)≠(0:Int)))) hf rfl (RunV.neq rfl rfl) ?_; clear hf a; intro a hf; refine nk ?_; refine W.ifdI hf rfl (fun h1=>?_) (fun h1=>?_)
  · refine W.seq ?_
    refine W.regionL (l:=[0,1,2]) rfl<|mv hf rfl<|?_; clear hf a; intro a hf; refine mv hf rfl ?_; clear hf a; intro a hf; refine mv hf rfl ?_; clear hf a; intro a hf; refine nk<|W.ret<|k_then_ret<|post2 hf rfl (ResOK.tmp rfl) (ResOK.tmp rfl)<|?_
    first
      | exact ⟨(),congrArg _ (cmpR1 h1),hS.sub (List.nil_sublist _) |>.noB⟩
      | exact ⟨(),congrArg _ (cmpR2 h1 h2),hS.sub (List.nil_sublist _) |>.noB⟩
      | exact ⟨(),congrArg _ (cmpR3 h1 h2),hS.sub (List.nil_sublist _) |>.noB⟩
  · refine W.skip ?_
    refine k_seq<|W.seq<|W.seq<|?_
    refine W.regionL (l:=[0,1,2]) rfl<|ov hf rfl (RunV.loadN (cs':=(aD y)) T_agg_24 T_size_24 rfl (hS.p 0 rfl) (bl rfl) rfl)<|?_; clear hf a; intro a hf; refine oc hf rfl C_ok_41 (checkD_spec y _ (hS.bptO (i:=0) rfl)) ?_; clear hf a; rintro _ w5 hS1 a hf; replace hS:=hS.cl hS1; refine mv hf rfl ?_; clear hf a; intro a hf; refine nk<|W.seq<|?_
    refine W.regionL (l:=[0,1]) rfl<|mv hf rfl<|?_; clear hf a; intro a hf; refine ov (v:=.bool (decide ((if okD y then 0 else 8)≠(0:Int)))) hf rfl (RunV.neq rfl rfl) ?_; clear hf a; intro a hf; refine nk ?_; refine W.ifdI hf rfl (fun h2=>?_) (fun h2=>?_)
    · refine W.seq ?_
      refine W.regionL (l:=[0,1,2]) rfl<|mv hf rfl<|?_; clear hf a; intro a hf; refine mv hf rfl ?_; clear hf a; intro a hf; refine mv hf rfl ?_; clear hf a; intro a hf; refine nk<|W.ret<|k_then_ret<|post2 hf rfl (ResOK.tmp rfl) (ResOK.tmp rfl)<|?_
      first
        | exact ⟨(),congrArg _ (cmpR1 h1),hS.sub (List.nil_sublist _) |>.noB⟩
        | exact ⟨(),congrArg _ (cmpR2 h1 h2),hS.sub (List.nil_sublist _) |>.noB⟩
        | exact ⟨(),congrArg _ (cmpR3 h1 h2),hS.sub (List.nil_sublist _) |>.noB⟩
    · refine W.skip ?_
      refine k_seq<|W.seq<|?_
      refine W.regionL (l:=[0,1,2,3,4]) rfl<|ov hf rfl (RunV.loadN (cs':=(aD x)) T_agg_24 T_size_24 rfl (hS.p 1 rfl) (bl rfl) rfl)<|?_; clear hf a; intro a hf; refine ov hf rfl (RunV.loadN (cs':=(aD y)) T_agg_24 T_size_24 rfl (hS.p 0 rfl) (bl rfl) rfl) ?_; clear hf a; intro a hf; refine oc hf rfl C_ok_72 (compare_spec x y _) ?_; clear hf a; rintro _ w7 hS1 a hf; replace hS:=hS.cl hS1; refine mv hf rfl ?_; clear hf a; intro a hf; refine mv hf rfl ?_; clear hf a; intro a hf; refine nk<|W.ret<|post2 hf rfl (ResOK.tmp rfl) (ResOK.tmp rfl)<|?_
      first
        | exact ⟨(),congrArg _ (cmpR1 h1),hS.sub (List.nil_sublist _) |>.noB⟩
        | exact ⟨(),congrArg _ (cmpR2 h1 h2),hS.sub (List.nil_sublist _) |>.noB⟩
        | exact ⟨(),congrArg _ (cmpR3 h1 h2),hS.sub (List.nil_sublist _) |>.noB⟩
set_option maxHeartbeats 400000 in
set_option maxRecDepth 4000 in
theorem order_spec (x y:Dg) (w0:World) (hG:Lent w0 ordA) :
    Ret Tryd.prog 40 #[.agg (aD x),.agg (aD y)] w0 (G:=Unit) (fun _=>.int .i64 (ordD x y)) (fun _ w=>St w0 w noX [] []):=by
  refine ret_of_W (lv:=[.agg (aD x),.agg (aD y)]) Tryd.func40 rfl rfl rfl (fun a hf=>?_); replace hf:Fr a 14 [] [(0,.agg (aD x)),(1,.agg (aD y))]:=hf; have hS:St w0 w0 noX [ordA] []:=(St.refl w0).lendA hG; refine W.seq ?_
  refine W.regionL (l:=[0,1,2]) rfl<|O.box (cs:=(aD x)) hf hS rfl rfl rfl rfl<|?_; intro b_a1 w a hbb_a1 hS hf; refine O.box (cs:=(aD y)) hf hS rfl rfl rfl rfl ?_; intro b_b2 w a hbb_b2 hS hf; refine mv hf rfl ?_; clear hf a; intro a hf; refine nk<|W.seq<|?_
  refine W.regionL (l:=[0,1,2,3,4,5,6,7]) rfl<|ov hf rfl (RunV.loadN (cs':=(aD x)) T_agg_24 T_size_24 rfl (hS.p 1 rfl) (bl rfl) rfl)<|?_; clear hf a; intro a hf; refine ov hf rfl (RunV.loadN (cs':=(aD y)) T_agg_24 T_size_24 rfl (hS.p 0 rfl) (bl rfl) rfl) ?_; clear hf a; intro a hf; refine oc hf rfl C_ok_53 (Compare_spec x y _ (hS.bptO (i:=0) rfl)) ?_; clear hf a; rintro _ w3 hS1 a hf; replace hS:=hS.cl hS1; refine mv hf rfl ?_; clear hf a; intro a hf; refine ov hf rfl (RunV.extract rfl rfl) ?_; clear hf a; intro a hf; refine ov hf rfl (RunV.extract rfl rfl) ?_; clear hf a; intro a hf; refine mv hf rfl ?_; clear hf a; intro a hf; refine mv hf rfl ?_; clear hf a; intro a hf; refine nk<|W.seq<|?_
  refine W.regionL (l:=[0,1]) rfl<|mv hf rfl<|?_; clear hf a; intro a hf; refine mv hf rfl ?_; clear hf a; intro a hf; refine nk<|W.ret<|post1 hf rfl (ResOK.tmp rfl)<|?_; exact ⟨(),rfl,hS.sub (List.nil_sublist _) |>.noB⟩
end Go.Proofs.YtgakdmmmljdpjaaDoor

namespace Go.SL
open Go Go.Proofs Go.Shelf Go.RowKit Go.Sort Go.Lib
abbrev OkD:={d:Dg // okD d=true}
instance:Inhabited OkD:=⟨⟨⟨1,0,0,0,0⟩,by decide⟩⟩
def sortDs (l:List Dg):List Dg:=l.mergeSort fun x y=>!ltD y x
def tagD (l:List Dg) (h:∀ d ∈ l,okD d=true):List OkD:=l.pmap (fun d hd=>⟨d,hd⟩) h
theorem tag_val (l:List Dg) (h:∀ d ∈ l,okD d=true):(tagD l h).map (·.1)=l:=by
  unfold tagD
  rw [List.map_pmap]
  simp
theorem encs_val (l:List OkD):encs (fun x:OkD=>eD x.1) l=encs eD (l.map (·.1)):=by
  unfold encs
  rw [List.flatMap_map]
theorem srt_val (l:List OkD):(srtF (ltOf fun x y:OkD=>cmpD x.1 y.1) l).map (·.1)=sortDs (l.map (·.1)):=by
  unfold srtF sortDs
  exact List.map_mergeSort (fun a _ b _=>rfl)
theorem lent_old {w W:World} {v:Value} (hG:Lent w ordA) (hv:v.ownBlock≠some 0) (hs:w.heap.size≤W.heap.size) (hb:∀ b,b<w.heap.size→v.ownBlock≠some b→W.heap[b]? = w.heap[b]?):Lent W ordA:=by
  have h0:0<w.heap.size:=hG.2 0 rfl
  refine ⟨?_,fun b hb'=>?_⟩
  · obtain ⟨ty,h1⟩:=hG.1
    refine ⟨ty,?_⟩
    show W.heap[0]? = some (ordT ty)
    rw [hb 0 h0 hv]
    exact h1
  · have:b=0:=hb'
    omega
def oV (d:Dg) (v:Value):Value:=.agg #[.int .i64 d.num,.int .i64 d.yr,.int .u8 d.half,.int .u8 d.sec,.int .i64 d.cyc,v]
theorem rd_some {T:Type} {h:Hp} {sz:Nat} {v:Value} {l:List T} {xs:List Value} (hr:rdOK h sz v l.length xs) (hne:l≠[]):∃ ad c,v=.slice (some ad) l.length c:=by
  obtain ⟨_,_,A,c,rfl,h3⟩:=hr
  obtain ⟨a,_,_,_,rfl,_⟩:=h3 (List.length_pos_iff.2 hne)
  exact ⟨a,c,rfl⟩
theorem slv_of {h:Hp} {sz n:Nat} {v:Value} {xs:List Value} (hr:rdOK h sz v n xs):∃ A m c,v=.slice A m c:=by
  obtain ⟨_,_,A,c,rfl,_⟩:=hr
  exact ⟨A,_,c,rfl⟩
end Go.SL
namespace Go.Proofs.YtgakdmmmljdpjaaDoor
open Go Go.SL Go.Proofs Go.Shelf Go.RowKit Go.Sort Go.Lib
theorem eg40:∀ args w,(callFunc 40 args).run Tryd.prog w=.ok (.enter 40 args) w:=enters_of Tryd.func40 (by kernel_rfl) rfl
theorem closD (x y:OkD) (W:World) (hG:Lent W ordA):Calls Tryd.prog 40 #[.agg (eD x.1).toArray,.agg (eD y.1).toArray] W fun e w'=>e=.returned (.int .i64 (cmpD x.1 y.1))∧∃ q os',w'=grow (W.drewN q) os':=by
  refine Calls.mono (ret_grown (order_spec x.1 y.1 W hG) (fun g w' h=>⟨[],h⟩)) ?_
  rintro e w ⟨_,rfl,_,h⟩
  refine ⟨?_,h⟩
  unfold ordD
  rw [x.2,y.2]
  rfl
theorem sortD_spec (v:Value) (l:List Dg) (w0:World) (hok:∀ d ∈ l,okD d=true) (hG:Lent w0 ordA) (hX:slOK (hp w0) 24 5 v l.length (encs eD l)) (hl:l.length≤10000) (hv0:v.ownBlock≠some 0) :
    Ret Tryd.prog 50 #[v,.func (.func 40) #[] #[]] w0 (G:=Unit) (fun _=>.tuple #[]) (fun _ w=>St w0 w (fun k=>v.ownBlock=some k) [] [slE 24 5 eD v (sortDs l)]):=by
  have hv:=tag_val l hok
  have hlen:(tagD l hok).length=l.length:=by rw [← List.length_map (f:=fun x:OkD=>x.1),hv]
  have h:=sortF_G (E:=fun x:OkD=>eD x.1) Tryd.sortD rfl Tryd.isAgg24 Tryd.sizeOf24 (fun _=>rfl) (by intro x u hu; simp [eD] at hu; rcases hu with rfl | rfl | rfl | rfl | rfl <;> rfl) (fun x y=>cmpD x.1 y.1) (swoOn _) (totOn fun x y h=>Subtype.ext h) eg40
    24 v (tagD l hok) w0 (by rw [encs_val,hv,hlen]; exact hX) (by rw [hlen]; exact hl) (fun x y W hs hb=>closD x y W (lent_old hG hv0 hs hb))
  refine Calls.mono h ?_
  rintro e w ⟨g,rfl,hS⟩
  refine ⟨(),rfl,?_⟩
  unfold slE at hS ⊢
  rw [encs_val,srt_val,hv] at hS
  have:(srtF (ltOf fun x y:OkD=>cmpD x.1 y.1) (tagD l hok)).length=(sortDs l).length:=by rw [srtF_len,hlen]; unfold sortDs; rw [List.length_mergeSort]
  rw [this] at hS
  exact hS
end Go.Proofs.YtgakdmmmljdpjaaDoor

set_option maxHeartbeats 1000000
set_option maxRecDepth 8000
namespace Go.Proofs.YtgakdmmmljdpjaaDoor
open Go Go.SL
theorem C_ok_49:callOK Tryd.prog 49=true:=by kernel_rfl
theorem C_ok_50:callOK Tryd.prog 50=true:=by kernel_rfl
theorem T_agg_46:tAgg Tryd.prog 46=some true:=by kernel_rfl
theorem T_bytes_26:tBytes Tryd.prog 26=some 80:=by kernel_rfl
theorem T_places_46:tPlaces Tryd.prog 46=some #[(0,5),(5,1)]:=by kernel_rfl
theorem T_size_46:tSize Tryd.prog 46=some 6:=by kernel_rfl
theorem T_zero_46:tZero Tryd.prog 46=some (.agg #[.int .i64 0,.int .i64 0,.int .u8 0,.int .u8 0,.int .i64 0,.slice none 0 0]):=by kernel_rfl
set_option maxHeartbeats 400000 in
set_option maxRecDepth 4000 in
theorem cloneD_some (vl:Value) (l:List Dg) (ad:Addr) (c:Nat) (w0:World) (hv:vl=.slice (some ad) l.length c) (hfit:vfit vl) (hl:rdOK (hp w0) 5 vl l.length (encs eD l)) (hz:l.length≤1000000) :
    Ret Tryd.prog 49 #[vl] w0 (G:=Value) (fun g=>g) (fun g w=>St w0 w noX [] [slE 24 5 eD g l]):=by
  refine ret_of_W (lv:=[vl]) Tryd.func49 rfl rfl rfl (fun a hf=>?_); replace hf:Fr a 8 [] [(0,vl)]:=hf; have hS:St w0 w0 noX [rdv 5 vl l.length (encs eD l)] []:=(St.refl w0).lend0 hl; have hlm:=hl.2.1; refine W.seq ?_
  refine W.regionL (l:=[0]) rfl<|mv hf rfl<|?_; clear hf a; intro a hf; refine nk<|W.seq<|W.seq<|?_
  refine W.regionL (l:=[0,1]) rfl<|mv hf rfl<|?_; clear hf a; intro a hf; refine ov hf rfl (RunV.eqNil2 T_elem_35 hv rfl rfl) ?_; clear hf a; intro a hf; refine nk<|W.if_ff hf rfl<|W.skip<|k_seq<|W.seq<|?_
  refine W.regionL (l:=[0,1,2,3]) rfl<|O.buildSlice0 hf hS rfl rfl T_elem_35 T_size_24 rfl<|?_; intro b_s1 w a hbb_s1 hS hf; refine mv hf rfl ?_; clear hf a; intro a hf; replace hS:=hS.eqM (N:=[slE 24 5 eD (.slice (some ⟨b_s1,0,none⟩) 0 0) ([]:List _)]) rfl; refine O.appendEV (j:=0) (enc:=eD) (l:=[]) (m:=l) (l':=l) hf hS rfl rfl T_elem_35 T_size_24 T_bytes_24 T_zero_24 rfl rfl rfl rfl rfl ⟨hS.rdAt (j:=0) rfl,hfit⟩ (fun _=>rfl) (by simp) (by omega) rfl (List.nil_append _) ?_; intro v2 w a hS hf; refine mv hf rfl ?_; clear hf a; intro a hf; refine nk<|W.ret<|post1 hf rfl (ResOK.tmp rfl)<|?_; exact ⟨_,rfl,(hS.sub (by simp)).noB⟩
set_option maxHeartbeats 400000 in
set_option maxRecDepth 4000 in
theorem object_spec (b:Nat) (v:Value) (num:Bool) (all:List Dg) (w0:World) (hG:Lent w0 ordA) (hg:Lent w0 (pt b (.cells #[v,.bool num] 95 (0,0)))) (hl:rdOK (hp w0) 5 v all.length (encs eD all)) (hfit:vfit v) (hne:all≠[]) (hz:all.length≤10000) (hok:∀ d ∈ all,okD d=true) :
    Ret Tryd.prog 37 #[.pointer (some ⟨b,0,none⟩)] w0 (G:=Value) (fun g=>oV ((sortDs all).getD 0 default) g) (fun g w=>St w0 w noX [] [slE 24 5 eD g (sortDs all)]):=by
  refine ret_of_W (lv:=[.pointer (some ⟨b,0,none⟩)]) Tryd.func37 rfl rfl rfl (fun a hf=>?_); replace hf:Fr a 16 [] [(0,.pointer (some ⟨b,0,none⟩))]:=hf; have hS:St w0 w0 noX [pt b (.cells #[v,.bool num] 95 (0,0)),ordA,rdv 5 v all.length (encs eD all)] []:=(((St.refl w0).lend0 hl).lendA hG).lendA hg; have hlm:=hl.2.1; obtain ⟨ad,c,hv⟩:=rd_some hl hne; refine W.seq ?_
  refine W.regionL (l:=[0]) rfl<|O.alloc (cs:=#[.int .i64 0,.int .i64 0,.int .u8 0,.int .u8 0,.int .i64 0,.slice none 0 0]) hf hS rfl rfl T_zero_46 rfl<|?_; intro b_x1 w a hbb_x1 hS hf; refine nk<|W.seq<|?_
  refine W.regionL (l:=[0,1,2,3,4,5]) rfl<|mv hf rfl<|?_; clear hf a; intro a hf; refine ov hf rfl (RunV.nilCheck rfl) ?_; clear hf a; intro a hf; refine ov hf rfl (RunV.field T_field_95_0 rfl rfl) ?_; clear hf a; intro a hf; refine ov hf rfl (RunV.load1 T_agg_35 rfl (hS.bptAt (i:=0) rfl) rfl) ?_; clear hf a; intro a hf; refine oc hf rfl C_ok_49 (cloneD_some v all ad c _ hv hfit (hS.rdAt (j:=2) rfl) (by omega)) ?_; clear hf a; rintro cv w2 hS1 a hf; replace hS:=hS.cl hS1; refine mv hf rfl ?_; clear hf a; intro a hf; refine nk<|W.seq<|?_
  refine W.regionL (l:=[0,1]) rfl<|mv hf rfl<|?_; clear hf a; intro a hf; refine oc hf rfl C_ok_50 (sortD_spec cv all _ hok (hS.bptO (i:=1) rfl) (hS.slAt (j:=0) rfl) hz (fun h=>hS.apart (i:=0) (j:=1) rfl rfl 0 rfl h)) ?_; clear hf a; rintro _ w3 hS1 a hf; replace hS:=(hS.callX1 hS1 (i:=0) rfl (fun _ h=>h)).eqM (N:=[sl 24 5 cv ((sortDs all).length) (encs eD (sortDs all)),pt b_x1 (.cells #[.int .i64 0,.int .i64 0,.int .u8 0,.int .u8 0,.int .i64 0,.slice none 0 0] 46 (0,0))]) rfl; refine nk<|W.seq<|?_
  refine W.regionL (l:=[0,1,2,3,4,5]) rfl ?_; obtain ⟨pd,hpd⟩:∃ pd,pd=(sortDs all).getD 0 default:=⟨_,rfl⟩; have hsl:(sortDs all).length=all.length:=List.length_mergeSort _; have hpos:0<all.length:=List.length_pos_iff.2 hne; refine mv hf rfl ?_; clear hf a; intro a hf; refine ov hf rfl (RunV.ixV (j:=0) (m:=0) T_elem_35 T_size_24 rfl rfl (hS.slr (j:=0) rfl) rfl (by omega) rfl) ?_; clear hf a; intro a hf; refine ov hf rfl (RunV.ldG (j:=0) (enc:=eD) (l:=sortDs all) (us:=eD pd) T_agg_24 T_size_24 rfl eD_len rfl (hS.slr (j:=0) rfl) (by omega) (by rw [hpd])) ?_; clear hf a; intro a hf; refine mv hf rfl ?_; clear hf a; intro a hf; have hcl4:=rdOK.cells (hS.slr (j:=0) rfl); refine ov hf rfl (RunV.buildS (cs':=#[.int .i64 pd.num,.int .i64 pd.yr,.int .u8 pd.half,.int .u8 pd.sec,.int .i64 pd.cyc,cv]) T_places_46 T_zero_46 rfl (by obtain ⟨_,_,_,rfl⟩:=slv_of (hS.slr (j:=0) rfl); kernel_rfl)) ?_; clear hf a; intro a hf; have hcl5:=rdOK.cells (hS.slr (j:=0) rfl); refine ost 1 #[.int .i64 pd.num,.int .i64 pd.yr,.int .u8 pd.half,.int .u8 pd.sec,.int .i64 pd.cyc,cv] hf hS rfl rfl rfl T_size_46 rfl (oneCells_cc rfl (oneCells_cc rfl (oneCells_cc rfl (oneCells_cc rfl (oneCells_cc rfl (oneCells_cc hcl5.2 rfl)))))) rfl (bl rfl) rfl ?_; intro w hS; refine nk<|W.ret<|post1 hf rfl (ResOK.cellN (cs':=#[.int .i64 pd.num,.int .i64 pd.yr,.int .u8 pd.half,.int .u8 pd.sec,.int .i64 pd.cyc,cv]) rfl T_agg_46 T_size_46 (hS.p 1 rfl) (bl rfl) rfl)<|?_; exact ⟨cv,by rw [← hpd]; rfl,(hS.sub (List.Sublist.cons_cons _ (List.nil_sublist _))).noB⟩
end Go.Proofs.YtgakdmmmljdpjaaDoor

namespace Go.SL
open Go
def codeOK (e:Int):Prop:=e=4∨e=6∨e=8∨e=14∨e=36
theorem stepM_code {S:List PG} {c:Ch} {e:Int} (h:stepM S c=.error e):codeOK e:=by
  unfold stepM at h
  unfold codeOK
  split at h
  · unfold addM at h; split at h <;> cases h; omega
  · split at h
    · unfold joinM at h
      split at h
      · split at h <;> cases h; omega
      · cases h; omega
    · unfold nameM at h
      split at h
      · cases h; omega
      · split at h
        · cases h; omega
        · split at h <;> cases h; omega
theorem playK_code {l:List Ch} {us:List Bool} {e:Int}:∀ {k:Nat},playK l us k=.error e→codeOK e
  | 0,h=>by cases h
  | k+1,h=>by
    unfold playK at h
    split at h
    · rename_i he
      cases h
      exact playK_code he
    · split at h
      · exact stepM_code h
      · cases h
theorem undoK_code {l:List Ch} {e:Int}:∀ {k:Nat},undoK l k=.error e→codeOK e
  | 0,h=>by cases h
  | k+1,h=>by
    unfold undoK at h
    split at h
    · rename_i he
      cases h
      exact undoK_code he
    · split at h
      · cases h
      · split at h
        · rename_i he; cases h; exact playK_code he
        · split at h
          · split at h
            · split at h
              · cases h; unfold codeOK; omega
              · cases h
            · cases h; unfold codeOK; omega
          · cases h; unfold codeOK; omega
theorem histM_code {l:List Ch} {e:Int} (h:histM l=.error e):codeOK e:=by
  unfold histM at h
  split at h
  · cases h; unfold codeOK; omega
  · split at h
    · split at h
      · rename_i he; cases h; exact undoK_code he
      · split at h
        · rename_i he; cases h; exact playK_code he
        · cases h
    · cases h; unfold codeOK; omega
theorem histM_ne {l:List Ch} {e:Int} (h:histM l=.error e):e≠0:=by
  have:=histM_code h
  unfold codeOK at this
  omega
theorem isS_none {kvs:List (Dg × Value)} {gs:List Grp} {S:List PG} {d:Dg} (hI:IsS kvs gs S) (hn:findG S d=none):getP d kvs=none:=by
  obtain ⟨hL,rfl⟩:=hI
  refine hL.miss d fun g hg hd=>?_
  rw [find_absG,Option.map_eq_none_iff] at hn
  have:=List.find?_eq_none.1 hn g hg
  simp [hd] at this
theorem isS_some {kvs:List (Dg × Value)} {gs:List Grp} {S:List PG} {d:Dg} {p:PG} (hI:IsS kvs gs S) (hn:findG S d=some p):∃ ga rest,gs.Perm (ga::rest)∧absG ga=p∧d ∈ ga.all∧getP d kvs=some (ptrV ga.blk):=by
  obtain ⟨hL,rfl⟩:=hI
  rw [find_absG,Option.map_eq_some_iff] at hn
  obtain ⟨g,hg,he⟩:=hn
  have hd:d ∈ g.all:=by simpa using List.find?_some hg
  have hm:=List.mem_of_find?_eq_some hg
  obtain ⟨s,t,rfl⟩:=List.append_of_mem hm
  exact ⟨g,s++t,List.perm_middle,he,hd,hL.hit g hm d hd⟩
end Go.SL
namespace Go.Proofs.YtgakdmmmljdpjaaDoor
open Go Go.SL
theorem checkD_ok (d:Dg) (w0:World) (hG:Lent w0 ordA) (hd:okD d=true):Ret Tryd.prog 41 #[dV d] w0 (G:=Unit) (fun _=>.int .i64 0) (fun _ w=>St w0 w noX [] []):=by
  have h:=checkD_spec d w0 hG
  rw [hd] at h
  exact h
theorem checkD_bad (d:Dg) (w0:World) (hG:Lent w0 ordA) (hd:okD d=false):Ret Tryd.prog 41 #[dV d] w0 (G:=Unit) (fun _=>.int .i64 8) (fun _ w=>St w0 w noX [] []):=by
  have h:=checkD_spec d w0 hG
  rw [hd] at h
  exact h
theorem history_err (vl:Value) (l:List Ch) (w0:World) (hG:Lent w0 ordA) (hl:rdOK (hp w0) 12 vl l.length (encs eC l)) (hfit:vfit vl) {e:Int} (hm:histM l=.error e) :
    Ret Tryd.prog 32 #[vl] w0 (G:=Unit) (fun _=>.tuple #[.map none,.slice none 0 0,.int .i64 e]) (fun _ w=>St w0 w noX [] []):=by
  refine Calls.mono (history_spec vl l w0 hG hl hfit) ?_
  rintro e' w ⟨g,rfl,h⟩
  unfold HistR at h
  rw [hm] at h
  obtain ⟨h1,h2,h3⟩:=h
  refine ⟨(),?_,h3⟩
  show Ending.returned (Value.tuple #[g.1,g.2.1,.int .i64 (errOf (histM l))])=_
  rw [h1,h2,hm]
  rfl
theorem history_ok (vl:Value) (l:List Ch) (w0:World) (hG:Lent w0 ordA) (hl:rdOK (hp w0) 12 vl l.length (encs eC l)) (hfit:vfit vl) {S:List PG} {us:List Bool} (hm:histM l=.ok (S,us)) :
    Ret Tryd.prog 32 #[vl] w0 (G:=Value × Nat × List (Dg × Value) × List Grp) (fun g=>.tuple #[.map (some g.2.1),g.1,.int .i64 0])
      (fun g w=>St w0 w noX [] [stA 95 24 g.2.1 g.2.2.1 g.2.2.2,sl 4 1 g.1 us.length (bools us)]∧IsS g.2.2.1 g.2.2.2 S):=by
  refine Calls.mono (history_spec vl l w0 hG hl hfit) ?_
  rintro e' w ⟨⟨v1,v2,bm,kvs,gs⟩,rfl,h⟩
  unfold HistR at h
  rw [hm] at h
  obtain ⟨h1,h2,h3⟩:=h
  refine ⟨(v2,bm,kvs,gs),?_,h2,h3⟩
  simp only at h1
  rw [h1,hm]
  rfl
end Go.Proofs.YtgakdmmmljdpjaaDoor
