/- Part of a proof: laws and walks. -/
import Derived.Test.YtgakdmmmljdpjaaDoorTac
import Derived.Test.YtgakdmmmljdpjaaDoorTai
set_option linter.unusedVariables false
set_option linter.unusedSimpArgs false
namespace Go.Proofs.YtgakdmmmljdpjaaDoor
open Go Go.SL
theorem C_ok_25:callOK Tryd.prog 25=true:=by kernel_rfl
theorem C_ok_44:callOK Tryd.prog 44=true:=by kernel_rfl
theorem C_ok_45:callOK Tryd.prog 45=true:=by kernel_rfl
theorem T_agg_28:tAgg Tryd.prog 28=some false:=by kernel_rfl
theorem T_agg_51:tAgg Tryd.prog 51=some false:=by kernel_rfl
theorem T_agg_71:tAgg Tryd.prog 71=some false:=by kernel_rfl
theorem T_bytes_4:tBytes Tryd.prog 4=some 1:=by kernel_rfl
theorem T_field_88_0:tField Tryd.prog 88 0=some 0:=by kernel_rfl
theorem T_iface_20:tIface Tryd.prog 20=true:=by kernel_rfl
theorem T_size_28:tSize Tryd.prog 28=some 1:=by kernel_rfl
theorem T_size_51:tSize Tryd.prog 51=some 1:=by kernel_rfl
theorem T_size_71:tSize Tryd.prog 71=some 1:=by kernel_rfl
theorem T_size_88:tSize Tryd.prog 88=some 1:=by kernel_rfl
theorem T_zero_28:tZero Tryd.prog 28=some (.int .i64 0):=by kernel_rfl
theorem T_zero_4:tZero Tryd.prog 4=some (.bool false):=by kernel_rfl
theorem T_zero_51:tZero Tryd.prog 51=some (.slice none 0 0):=by kernel_rfl
theorem T_zero_71:tZero Tryd.prog 71=some (.map none):=by kernel_rfl
set_option maxHeartbeats 1000000 in
set_option maxRecDepth 4000 in
theorem hist1_nil (b1 b2 b3 b4:Nat) (w0:World):CallsDIn (FW none) 0 Tryd.prog 44 [.pointer (some ⟨b1,0,none⟩),.pointer (some ⟨b2,0,none⟩),.pointer (some ⟨b3,0,none⟩),.pointer (some ⟨b4,0,none⟩)].toArray .returning w0 (fun e u' w'=>u'=.returning∧e=.returned (.tuple #[])∧w'=w0):=by
  refine recoverNil Tryd.func44 rfl rfl rfl rfl (fun a hf=>?_)
  have hS:St w0 w0 noX [] []:=St.refl w0
  replace hf:Fr a 16 [] [(0,.pointer (some ⟨b1,0,none⟩)),(1,.pointer (some ⟨b2,0,none⟩)),(2,.pointer (some ⟨b3,0,none⟩)),(3,.pointer (some ⟨b4,0,none⟩)),(7,.nilIface)]:=hf.to ⟨rfl,rfl,rfl,rfl,rfl,trivial⟩
  refine W.block ?_
  refine W.seq ?_
  refine W.regionL (l:=[0]) rfl ?_
  refine O.val hf rfl rfl rfl (RunV.eqNilI T_iface_20 rfl) ?_
  clear hf a; intro a hf
  refine O.nil ?_
  refine k_seq ?_
  refine W.if_tt hf rfl ?_
  refine W.regionL (l:=[0]) rfl ?_
  refine O.val hf rfl rfl rfl (RunV.assign rfl) ?_
  clear hf a; intro a hf
  refine O.nil ?_
  refine k_blk_normal ?_
  refine post_normal ?_
  refine post0 hf rfl  ?_
  exact ⟨rfl,rfl⟩
set_option maxHeartbeats 1000000 in
set_option maxRecDepth 4000 in
theorem hist1_pan (b1 b2 b3 b4:Nat) (v1 v2 v3:Value) (ud:Bool) (e:Int) (w0:World) (h0:Lent w0 (histA b1 b2 b3 b4 v1 v2 v3 ud)):CallsDIn (FW none) 0 Tryd.prog 44 [.pointer (some ⟨b1,0,none⟩),.pointer (some ⟨b2,0,none⟩),.pointer (some ⟨b3,0,none⟩),.pointer (some ⟨b4,0,none⟩)].toArray (.panicking [⟨wrongV 88 e,false,false⟩]) w0 (fun e' u' w'=>u'=.panicking [⟨wrongV 88 e,true,false⟩]∧e'=.returned (.tuple #[])∧St w0 w' (fun k=>(histA b1 b2 b3 b4 v1 v2 v3 ud).fp k) [] [histA b1 b2 b3 b4 (.map none) (.slice none 0 0) (.int .i64 (if ud then 36 else e)) ud]):=by
  refine recoverPan (R0:=fun w'=>St w0 w' (fun k=>(histA b1 b2 b3 b4 v1 v2 v3 ud).fp k) [] [histA b1 b2 b3 b4 (.map none) (.slice none 0 0) (.int .i64 (if ud then 36 else e)) ud]) Tryd.func44 rfl rfl rfl rfl (fun a hf=>?_)
  have hS:St w0 w0 (fun k=>(histA b1 b2 b3 b4 v1 v2 v3 ud).fp k) [] [pt b1 (.cells #[v1] 71 (0,0)),pt b2 (.cells #[v2] 51 (0,0)),pt b3 (.cells #[v3] 28 (0,0)),pt b4 (.cells #[.bool ud] 4 (0,0))]:=by
    have h:=St.bigOpen (N:=[]) (l:=[pt b1 (.cells #[v1] 71 (0,0)),pt b2 (.cells #[v2] 51 (0,0)),pt b3 (.cells #[v3] 28 (0,0)),pt b4 (.cells #[.bool ud] 4 (0,0))]) (M:=[]) (St.ownG (A:=histA b1 b2 b3 b4 v1 v2 v3 ud) (B:=[]) h0 (by simp) (by simp))
    exact h
  replace hf:Fr a 16 [] [(0,.pointer (some ⟨b1,0,none⟩)),(1,.pointer (some ⟨b2,0,none⟩)),(2,.pointer (some ⟨b3,0,none⟩)),(3,.pointer (some ⟨b4,0,none⟩)),(7,(.iface 88 (.agg #[.int .i64 e])))]:=hf.to ⟨rfl,rfl,rfl,rfl,rfl,trivial⟩
  refine W.block ?_
  refine W.seq ?_
  refine W.regionL (l:=[0]) rfl ?_
  refine O.val hf rfl rfl rfl (RunV.eqIface T_iface_20 rfl) ?_
  clear hf a; intro a hf
  refine O.nil ?_
  refine k_seq ?_
  refine W.if_ff hf rfl ?_
  refine W.seq ?_
  refine W.regionL (l:=[0,1,2]) rfl ?_
  refine O.val hf rfl rfl rfl (RunV.tAssert Tryd.underlying88 rfl) ?_
  clear hf a; intro a hf
  refine O.val hf rfl rfl rfl (RunV.extract rfl rfl) ?_
  clear hf a; intro a hf
  refine O.val hf rfl rfl rfl (RunV.extract rfl rfl) ?_
  clear hf a; intro a hf
  refine O.nil ?_
  refine k_seq ?_
  replace hf:Fr a 16 [] [(0,.pointer (some ⟨b1,0,none⟩)),(1,.pointer (some ⟨b2,0,none⟩)),(2,.pointer (some ⟨b3,0,none⟩)),(3,.pointer (some ⟨b4,0,none⟩)),(7,(.iface 88 (.agg #[.int .i64 e]))),(11,.bool true),(12,.agg #[.int .i64 e])]:=hf.to ⟨rfl,rfl,rfl,rfl,rfl,rfl,rfl,trivial⟩
  refine W.if_tt hf rfl ?_
  refine W.seq ?_
  refine W.regionL (l:=[0,1]) rfl ?_
  refine O.alloc (cs:=#[.int .i64 0]) hf hS rfl rfl T_zero_88 rfl ?_
  clear hf hS a; intro b_x1 w a hbb_x1 hS hf
  refine O.store (j:=0) (cs':=#[.int .i64 e]) (M':=[pt b_x1 (.cells #[.int .i64 e] 88 (0,0)),pt b1 (.cells #[v1] 71 (0,0)),pt b2 (.cells #[v2] 51 (0,0)),pt b3 (.cells #[v3] 28 (0,0)),pt b4 (.cells #[.bool ud] 4 (0,0))]) hf hS rfl rfl rfl T_size_88 rfl rfl rfl (Nat.le_of_ble_eq_true rfl) rfl rfl ?_
  clear hS; intro w hS
  refine O.nil ?_
  refine k_seq ?_
  replace hf:Fr a 16 [] [(0,.pointer (some ⟨b1,0,none⟩)),(1,.pointer (some ⟨b2,0,none⟩)),(2,.pointer (some ⟨b3,0,none⟩)),(3,.pointer (some ⟨b4,0,none⟩)),(5,.pointer (some ⟨b_x1,0,none⟩))]:=hf.to ⟨rfl,rfl,rfl,rfl,rfl,trivial⟩
  refine W.seq ?_
  replace hf:Fr a 16 [] [(0,.pointer (some ⟨b1,0,none⟩)),(1,.pointer (some ⟨b2,0,none⟩)),(2,.pointer (some ⟨b3,0,none⟩)),(3,.pointer (some ⟨b4,0,none⟩)),(5,.pointer (some ⟨b_x1,0,none⟩))]:=hf.to ⟨rfl,rfl,rfl,rfl,rfl,trivial⟩
  let LZ90:List (Nat × Value):=[(0,.pointer (some ⟨b1,0,none⟩)),(1,.pointer (some ⟨b2,0,none⟩)),(2,.pointer (some ⟨b3,0,none⟩)),(3,.pointer (some ⟨b4,0,none⟩)),(5,.pointer (some ⟨b_x1,0,none⟩))]
  refine W.drawC (γ:=Unit) (L0:=LZ90) (L1:=[]) () [2,3,4] [] [0,1] (fun i_=>match i_ with | 0=>[] | 1=>[0] | 2=>[] | 3=>[2] | 4=>[0,1,2,3] | _=>[]) (fun i_=>match i_ with | 0=>[] | 1=>[] | 2=>[] | 3=>[2] | 4=>[2,3] | _=>[]) (fun i_=>match i_ with | 0=>[4] | 1=>[4] | 2=>[3,4] | 3=>[4] | 4=>[] | _=>[]) (fun _=>[]) (fun i_=>match i_ with | 0=>[] | 1=>[] | 2=>[3,4] | 3=>[4] | 4=>[] | _=>[]) (fun _=>[]) (fun i_=>match i_ with | 0=>0 | 1=>0 | 2=>0 | 3=>1 | 4=>2 | _=>0) (fun i_=>match i_ with | 0=>2 | 1=>2 | 2=>1 | 3=>2 | 4=>3 | _=>0) (fun (g:Unit) j_=>match g,j_ with | _,0=>.pointer (some ⟨b_x1,0,none⟩) | _,1=>.int .i64 e | _,_=>undef) (fun k_ (_:Nat→Bool) (g:Unit) w=>match k_,g with | 0,_=>St w0 w (fun k=>(histA b1 b2 b3 b4 v1 v2 v3 ud).fp k) [] [pt b_x1 (.cells #[.int .i64 e] 88 (0,0)),pt b1 (.cells #[v1] 71 (0,0)),pt b2 (.cells #[v2] 51 (0,0)),pt b3 (.cells #[v3] 28 (0,0)),pt b4 (.cells #[.bool ud] 4 (0,0))] | 1,_=>St w0 w (fun k=>(histA b1 b2 b3 b4 v1 v2 v3 ud).fp k) [] [pt b_x1 (.cells #[.int .i64 e] 88 (0,0)),pt b1 (.cells #[.map none] 71 (0,0)),pt b2 (.cells #[v2] 51 (0,0)),pt b3 (.cells #[v3] 28 (0,0)),pt b4 (.cells #[.bool ud] 4 (0,0))] | 2,_=>St w0 w (fun k=>(histA b1 b2 b3 b4 v1 v2 v3 ud).fp k) [] [pt b_x1 (.cells #[.int .i64 e] 88 (0,0)),pt b1 (.cells #[.map none] 71 (0,0)),pt b2 (.cells #[.slice none 0 0] 51 (0,0)),pt b3 (.cells #[v3] 28 (0,0)),pt b4 (.cells #[.bool ud] 4 (0,0))] | _,_=>St w0 w (fun k=>(histA b1 b2 b3 b4 v1 v2 v3 ud).fp k) [] [pt b_x1 (.cells #[.int .i64 e] 88 (0,0)),pt b1 (.cells #[.map none] 71 (0,0)),pt b2 (.cells #[.slice none 0 0] 51 (0,0)),pt b3 (.cells #[.int .i64 e] 28 (0,0)),pt b4 (.cells #[.bool ud] 4 (0,0))]) P_mixed (by kernel_rfl) (by kernel_rfl) (by kernel_rfl) hf (hf.to trivial) hS.drew ?_ ?_ trivial ?_
  · clear hf hS
    refine ⟨?_,?_,trivial⟩
    · intro k_ s_ g w hlo hhi _ hD a hf
      rcases k_ with _ | _ | _ | k_
      · have hS:St w0 w (fun k=>(histA b1 b2 b3 b4 v1 v2 v3 ud).fp k) [] [pt b_x1 (.cells #[.int .i64 e] 88 (0,0)),pt b1 (.cells #[v1] 71 (0,0)),pt b2 (.cells #[v2] 51 (0,0)),pt b3 (.cells #[v3] 28 (0,0)),pt b4 (.cells #[.bool ud] 4 (0,0))]:=hD; clear hD
        replace hf:Fr a 16 [] LZ90:=hf
        refine O.val hf rfl rfl rfl (RunV.field T_field_88_0 rfl rfl) ?_
        clear hf a; intro a hf
        exact O.nil ⟨rfl,hf.to trivial,(gt (d:=13) hf rfl rfl),hS⟩
      · have hS:St w0 w (fun k=>(histA b1 b2 b3 b4 v1 v2 v3 ud).fp k) [] [pt b_x1 (.cells #[.int .i64 e] 88 (0,0)),pt b1 (.cells #[.map none] 71 (0,0)),pt b2 (.cells #[v2] 51 (0,0)),pt b3 (.cells #[v3] 28 (0,0)),pt b4 (.cells #[.bool ud] 4 (0,0))]:=hD; clear hD
        replace hf:Fr a 16 [] LZ90:=hf
        refine O.val hf rfl rfl rfl (RunV.field T_field_88_0 rfl rfl) ?_
        clear hf a; intro a hf
        exact O.nil ⟨rfl,hf.to trivial,(gt (d:=13) hf rfl rfl),hS⟩
      · have hS:St w0 w (fun k=>(histA b1 b2 b3 b4 v1 v2 v3 ud).fp k) [] [pt b_x1 (.cells #[.int .i64 e] 88 (0,0)),pt b1 (.cells #[.map none] 71 (0,0)),pt b2 (.cells #[.slice none 0 0] 51 (0,0)),pt b3 (.cells #[v3] 28 (0,0)),pt b4 (.cells #[.bool ud] 4 (0,0))]:=hD; clear hD
        replace hf:Fr a 16 [] LZ90:=hf
        refine O.val hf rfl rfl rfl (RunV.field T_field_88_0 rfl rfl) ?_
        clear hf a; intro a hf
        exact O.nil ⟨rfl,hf.to trivial,(gt (d:=13) hf rfl rfl),hS⟩
      · have hhi:k_+3≤2:=hhi; omega
    · intro k_ s_ g w hlo hhi _ hD a hf
      rcases k_ with _ | _ | _ | k_
      · have hS:St w0 w (fun k=>(histA b1 b2 b3 b4 v1 v2 v3 ud).fp k) [] [pt b_x1 (.cells #[.int .i64 e] 88 (0,0)),pt b1 (.cells #[v1] 71 (0,0)),pt b2 (.cells #[v2] 51 (0,0)),pt b3 (.cells #[v3] 28 (0,0)),pt b4 (.cells #[.bool ud] 4 (0,0))]:=hD; clear hD
        replace hf:Fr a 16 [] ((13,.pointer (some ⟨b_x1,0,none⟩))::LZ90):=hf
        refine O.val hf rfl rfl rfl (RunV.load1 T_agg_28 rfl (hS.ptAt (i:=0) rfl) rfl) ?_
        clear hf a; intro a hf
        exact O.nil ⟨rfl,hf.to trivial,(gt (d:=14) hf rfl rfl),hS⟩
      · have hS:St w0 w (fun k=>(histA b1 b2 b3 b4 v1 v2 v3 ud).fp k) [] [pt b_x1 (.cells #[.int .i64 e] 88 (0,0)),pt b1 (.cells #[.map none] 71 (0,0)),pt b2 (.cells #[v2] 51 (0,0)),pt b3 (.cells #[v3] 28 (0,0)),pt b4 (.cells #[.bool ud] 4 (0,0))]:=hD; clear hD
        replace hf:Fr a 16 [] ((13,.pointer (some ⟨b_x1,0,none⟩))::LZ90):=hf
        refine O.val hf rfl rfl rfl (RunV.load1 T_agg_28 rfl (hS.ptAt (i:=0) rfl) rfl) ?_
        clear hf a; intro a hf
        exact O.nil ⟨rfl,hf.to trivial,(gt (d:=14) hf rfl rfl),hS⟩
      · have hS:St w0 w (fun k=>(histA b1 b2 b3 b4 v1 v2 v3 ud).fp k) [] [pt b_x1 (.cells #[.int .i64 e] 88 (0,0)),pt b1 (.cells #[.map none] 71 (0,0)),pt b2 (.cells #[.slice none 0 0] 51 (0,0)),pt b3 (.cells #[v3] 28 (0,0)),pt b4 (.cells #[.bool ud] 4 (0,0))]:=hD; clear hD
        replace hf:Fr a 16 [] ((13,.pointer (some ⟨b_x1,0,none⟩))::LZ90):=hf
        refine O.val hf rfl rfl rfl (RunV.load1 T_agg_28 rfl (hS.ptAt (i:=0) rfl) rfl) ?_
        clear hf a; intro a hf
        exact O.nil ⟨rfl,hf.to trivial,(gt (d:=14) hf rfl rfl),hS⟩
      · have hhi:k_+3≤2:=hhi; omega
  · clear hf hS
    refine ⟨?_,?_,?_,trivial⟩
    · intro s_ g w _ hD a hf
      have hS:St w0 w (fun k=>(histA b1 b2 b3 b4 v1 v2 v3 ud).fp k) [] [pt b_x1 (.cells #[.int .i64 e] 88 (0,0)),pt b1 (.cells #[v1] 71 (0,0)),pt b2 (.cells #[v2] 51 (0,0)),pt b3 (.cells #[v3] 28 (0,0)),pt b4 (.cells #[.bool ud] 4 (0,0))]:=hD; clear hD
      replace hf:Fr a 16 [] LZ90:=hf
      refine O.store (j:=1) (cs':=#[.map none]) (M':=[pt b_x1 (.cells #[.int .i64 e] 88 (0,0)),pt b1 (.cells #[.map none] 71 (0,0)),pt b2 (.cells #[v2] 51 (0,0)),pt b3 (.cells #[v3] 28 (0,0)),pt b4 (.cells #[.bool ud] 4 (0,0))]) hf hS rfl rfl rfl T_size_71 rfl rfl rfl (Nat.le_of_ble_eq_true rfl) rfl rfl ?_
      clear hS; intro w hS
      exact O.nil ⟨rfl,(),hf.to trivial,(fun d hd=>by cases (show none=some d from hd)),(fun j_ hj_ ha_=>match j_,hj_,ha_ with | 0,hj_,ha_=>rfl | 1,hj_,ha_=>rfl | 2,hj_,ha_=>absurd rfl hj_ | 3,hj_,ha_=>absurd ha_ (by decide) | 4,hj_,ha_=>absurd ha_ (by decide) | _+5,_,_=>rfl),hS⟩
    · intro s_ g w _ hD a hf
      have hS:St w0 w (fun k=>(histA b1 b2 b3 b4 v1 v2 v3 ud).fp k) [] [pt b_x1 (.cells #[.int .i64 e] 88 (0,0)),pt b1 (.cells #[.map none] 71 (0,0)),pt b2 (.cells #[v2] 51 (0,0)),pt b3 (.cells #[v3] 28 (0,0)),pt b4 (.cells #[.bool ud] 4 (0,0))]:=hD; clear hD
      replace hf:Fr a 16 [] LZ90:=hf
      refine O.store (j:=2) (cs':=#[.slice none 0 0]) (M':=[pt b_x1 (.cells #[.int .i64 e] 88 (0,0)),pt b1 (.cells #[.map none] 71 (0,0)),pt b2 (.cells #[.slice none 0 0] 51 (0,0)),pt b3 (.cells #[v3] 28 (0,0)),pt b4 (.cells #[.bool ud] 4 (0,0))]) hf hS rfl rfl rfl T_size_51 rfl rfl rfl (Nat.le_of_ble_eq_true rfl) rfl rfl ?_
      clear hS; intro w hS
      exact O.nil ⟨rfl,(),hf.to trivial,(fun d hd=>by cases (show none=some d from hd)),(fun j_ hj_ ha_=>match j_,hj_,ha_ with | 0,hj_,ha_=>rfl | 1,hj_,ha_=>rfl | 2,hj_,ha_=>rfl | 3,hj_,ha_=>absurd rfl hj_ | 4,hj_,ha_=>absurd ha_ (by decide) | _+5,_,_=>rfl),hS⟩
    · intro s_ g w _ hD a hf
      have hS:St w0 w (fun k=>(histA b1 b2 b3 b4 v1 v2 v3 ud).fp k) [] [pt b_x1 (.cells #[.int .i64 e] 88 (0,0)),pt b1 (.cells #[.map none] 71 (0,0)),pt b2 (.cells #[.slice none 0 0] 51 (0,0)),pt b3 (.cells #[v3] 28 (0,0)),pt b4 (.cells #[.bool ud] 4 (0,0))]:=hD; clear hD
      replace hf:Fr a 16 [] ((13,.pointer (some ⟨b_x1,0,none⟩))::(14,.int .i64 e)::LZ90):=hf
      refine O.store (j:=3) (cs':=#[.int .i64 e]) (M':=[pt b_x1 (.cells #[.int .i64 e] 88 (0,0)),pt b1 (.cells #[.map none] 71 (0,0)),pt b2 (.cells #[.slice none 0 0] 51 (0,0)),pt b3 (.cells #[.int .i64 e] 28 (0,0)),pt b4 (.cells #[.bool ud] 4 (0,0))]) hf hS rfl rfl rfl T_size_28 rfl rfl rfl (Nat.le_of_ble_eq_true rfl) rfl rfl ?_
      clear hS; intro w hS
      exact O.nil ⟨rfl,(),hf.to trivial,(fun d hd=>by cases (show none=some d from hd)),(fun j_ hj_ ha_=>match j_,hj_,ha_ with | 0,hj_,ha_=>rfl | 1,hj_,ha_=>rfl | 2,hj_,ha_=>rfl | 3,hj_,ha_=>rfl | 4,hj_,ha_=>absurd rfl hj_ | _+5,_,_=>rfl),hS⟩
  clear hf hS; intro s_ g a w _ hf hD
  have hS:St w0 w (fun k=>(histA b1 b2 b3 b4 v1 v2 v3 ud).fp k) [] [pt b_x1 (.cells #[.int .i64 e] 88 (0,0)),pt b1 (.cells #[.map none] 71 (0,0)),pt b2 (.cells #[.slice none 0 0] 51 (0,0)),pt b3 (.cells #[.int .i64 e] 28 (0,0)),pt b4 (.cells #[.bool ud] 4 (0,0))]:=hD; clear hD
  replace hf:Fr a 16 [] ((13,.pointer (some ⟨b_x1,0,none⟩))::(14,.int .i64 e)::LZ90):=hf
  refine k_seq ?_
  replace hf:Fr a 16 [] [(2,.pointer (some ⟨b3,0,none⟩)),(3,.pointer (some ⟨b4,0,none⟩))]:=hf.to ⟨rfl,rfl,trivial⟩
  refine W.seq ?_
  refine W.regionL (l:=[0]) rfl ?_
  refine O.val hf rfl rfl rfl (RunV.load1 T_agg_4 rfl (hS.ptAt (i:=4) rfl) rfl) ?_
  clear hf a; intro a hf
  refine O.nil ?_
  refine k_seq ?_
  replace hf:Fr a 16 [] [(2,.pointer (some ⟨b3,0,none⟩)),(15,.bool ud)]:=hf.to ⟨rfl,rfl,trivial⟩
  refine W.if_ hf rfl (fun hcb0=>?_) (fun hcb0=>?_)
  · have hcb0b:=hcb0
    try simp only [Bool.and_eq_true,Bool.or_eq_true,Bool.and_eq_false_iff,Bool.or_eq_false_iff,decide_eq_true_eq,decide_eq_false_iff_not,Bool.not_eq_true',Bool.not_eq_false',Bool.not_eq_true,Bool.not_eq_false,ne_eq] at hcb0
    refine W.regionL (l:=[0]) rfl ?_
    refine O.store (j:=3) (cs':=#[.int .i64 36]) (M':=[pt b_x1 (.cells #[.int .i64 e] 88 (0,0)),pt b1 (.cells #[.map none] 71 (0,0)),pt b2 (.cells #[.slice none 0 0] 51 (0,0)),pt b3 (.cells #[.int .i64 36] 28 (0,0)),pt b4 (.cells #[.bool ud] 4 (0,0))]) hf hS rfl rfl rfl T_size_28 rfl rfl rfl (Nat.le_of_ble_eq_true rfl) rfl rfl ?_
    clear hS; intro w hS
    refine O.nil ?_
    refine k_blk_normal ?_
    refine post_normal ?_
    refine post0 hf rfl  ?_
    replace hS:=hS.front (i:=4) (M':=[pt b4 (.cells #[.bool ud] 4 (0,0)),pt b_x1 (.cells #[.int .i64 e] 88 (0,0)),pt b1 (.cells #[.map none] 71 (0,0)),pt b2 (.cells #[.slice none 0 0] 51 (0,0)),pt b3 (.cells #[.int .i64 36] 28 (0,0))]) rfl rfl
    replace hS:=hS.front (i:=4) (M':=[pt b3 (.cells #[.int .i64 36] 28 (0,0)),pt b4 (.cells #[.bool ud] 4 (0,0)),pt b_x1 (.cells #[.int .i64 e] 88 (0,0)),pt b1 (.cells #[.map none] 71 (0,0)),pt b2 (.cells #[.slice none 0 0] 51 (0,0))]) rfl rfl
    replace hS:=hS.front (i:=4) (M':=[pt b2 (.cells #[.slice none 0 0] 51 (0,0)),pt b3 (.cells #[.int .i64 36] 28 (0,0)),pt b4 (.cells #[.bool ud] 4 (0,0)),pt b_x1 (.cells #[.int .i64 e] 88 (0,0)),pt b1 (.cells #[.map none] 71 (0,0))]) rfl rfl
    replace hS:=hS.front (i:=4) (M':=[pt b1 (.cells #[.map none] 71 (0,0)),pt b2 (.cells #[.slice none 0 0] 51 (0,0)),pt b3 (.cells #[.int .i64 36] 28 (0,0)),pt b4 (.cells #[.bool ud] 4 (0,0)),pt b_x1 (.cells #[.int .i64 e] 88 (0,0))]) rfl rfl
    have hS2:St w0 _ (fun k=>(histA b1 b2 b3 b4 v1 v2 v3 ud).fp k) [] [bigA [pt b1 (.cells #[.map none] 71 (0,0)),pt b2 (.cells #[.slice none 0 0] 51 (0,0)),pt b3 (.cells #[.int .i64 36] 28 (0,0)),pt b4 (.cells #[.bool ud] 4 (0,0))]]:=St.bigClose (N:=[]) (M:=[]) (by simpa using (hS.sub (N:=[pt b1 (.cells #[.map none] 71 (0,0)),pt b2 (.cells #[.slice none 0 0] 51 (0,0)),pt b3 (.cells #[.int .i64 36] 28 (0,0)),pt b4 (.cells #[.bool ud] 4 (0,0))]) (by simp):St w0 _ (fun k=>(histA b1 b2 b3 b4 v1 v2 v3 ud).fp k) [] [pt b1 (.cells #[.map none] 71 (0,0)),pt b2 (.cells #[.slice none 0 0] 51 (0,0)),pt b3 (.cells #[.int .i64 36] 28 (0,0)),pt b4 (.cells #[.bool ud] 4 (0,0))]))
    refine ⟨rfl,?_⟩
    first
      | (rw [if_pos hcb0b]; exact hS2)
      | (rw [if_neg (by rw [hcb0b]; decide)]; exact hS2)
  · have hcb0b:=hcb0
    try simp only [Bool.and_eq_true,Bool.or_eq_true,Bool.and_eq_false_iff,Bool.or_eq_false_iff,decide_eq_true_eq,decide_eq_false_iff_not,Bool.not_eq_true',Bool.not_eq_false',Bool.not_eq_true,Bool.not_eq_false,ne_eq] at hcb0
    refine W.skip ?_
    refine k_blk_normal ?_
    refine post_normal ?_
    refine post0 hf rfl  ?_
    replace hS:=hS.front (i:=4) (M':=[pt b4 (.cells #[.bool ud] 4 (0,0)),pt b_x1 (.cells #[.int .i64 e] 88 (0,0)),pt b1 (.cells #[.map none] 71 (0,0)),pt b2 (.cells #[.slice none 0 0] 51 (0,0)),pt b3 (.cells #[.int .i64 e] 28 (0,0))]) rfl rfl
    replace hS:=hS.front (i:=4) (M':=[pt b3 (.cells #[.int .i64 e] 28 (0,0)),pt b4 (.cells #[.bool ud] 4 (0,0)),pt b_x1 (.cells #[.int .i64 e] 88 (0,0)),pt b1 (.cells #[.map none] 71 (0,0)),pt b2 (.cells #[.slice none 0 0] 51 (0,0))]) rfl rfl
    replace hS:=hS.front (i:=4) (M':=[pt b2 (.cells #[.slice none 0 0] 51 (0,0)),pt b3 (.cells #[.int .i64 e] 28 (0,0)),pt b4 (.cells #[.bool ud] 4 (0,0)),pt b_x1 (.cells #[.int .i64 e] 88 (0,0)),pt b1 (.cells #[.map none] 71 (0,0))]) rfl rfl
    replace hS:=hS.front (i:=4) (M':=[pt b1 (.cells #[.map none] 71 (0,0)),pt b2 (.cells #[.slice none 0 0] 51 (0,0)),pt b3 (.cells #[.int .i64 e] 28 (0,0)),pt b4 (.cells #[.bool ud] 4 (0,0)),pt b_x1 (.cells #[.int .i64 e] 88 (0,0))]) rfl rfl
    have hS2:St w0 _ (fun k=>(histA b1 b2 b3 b4 v1 v2 v3 ud).fp k) [] [bigA [pt b1 (.cells #[.map none] 71 (0,0)),pt b2 (.cells #[.slice none 0 0] 51 (0,0)),pt b3 (.cells #[.int .i64 e] 28 (0,0)),pt b4 (.cells #[.bool ud] 4 (0,0))]]:=St.bigClose (N:=[]) (M:=[]) (by simpa using (hS.sub (N:=[pt b1 (.cells #[.map none] 71 (0,0)),pt b2 (.cells #[.slice none 0 0] 51 (0,0)),pt b3 (.cells #[.int .i64 e] 28 (0,0)),pt b4 (.cells #[.bool ud] 4 (0,0))]) (by simp):St w0 _ (fun k=>(histA b1 b2 b3 b4 v1 v2 v3 ud).fp k) [] [pt b1 (.cells #[.map none] 71 (0,0)),pt b2 (.cells #[.slice none 0 0] 51 (0,0)),pt b3 (.cells #[.int .i64 e] 28 (0,0)),pt b4 (.cells #[.bool ud] 4 (0,0))]))
    refine ⟨rfl,?_⟩
    first
      | (rw [if_pos hcb0b]; exact hS2)
      | (rw [if_neg (by rw [hcb0b]; decide)]; exact hS2)
theorem need_may (b:Bool) (e:Int) (w0:World):RetP Tryd.prog 88 46 #[.bool b,.int .i64 e] w0 (G:=Unit) (fun _=>.tuple #[]) (fun _ w=>b=true∧St w0 w noX [] []) (fun c w=>(b=false∧c=e)∧St w0 w noX [] []):=by
  cases b with
  | true=>exact RetP.ofRet (need_ok e w0) (fun g w' h=>⟨rfl,h⟩)
  | false=>exact RetP.ofPan (need_bad e w0) (fun _ _ h=>h) (fun c w' h=>⟨⟨rfl,h.1⟩,h.2⟩)
set_option maxHeartbeats 4000000 in
set_option maxRecDepth 4000 in
theorem history_spec (vl:Value) (l:List Ch) (w0:World) (hG:Lent w0 ordA) (hl:rdOK (hp w0) 12 vl l.length (encs eC l)) (hfit:vfit vl) :
    Ret Tryd.prog 32 #[vl] w0 (G:=Value × Value × Nat × List (Dg × Value) × List Grp) (fun g=>.tuple #[g.1,g.2.1,.int .i64 (errOf (histM l))]) (fun g w=>HistR l w0 g w):=by
  refine ret_of_WD (lv:=[vl]) Tryd.func32 rfl rfl rfl (fun a hf=>?_)
  replace hf:Fr a 81 [] [(0,vl)]:=hf
  have hS:St w0 w0 noX [ordA,rdv 12 vl l.length (encs eC l)] []:=((St.refl w0).lend0 hl).lendA hG
  have hlm:=hl.2.1
  unfold maxLen at hlm
  refine W.seq ?_
  refine W.regionL (l:=[0,1,2]) rfl ?_
  refine O.alloc (cs:=#[.map none]) hf hS rfl rfl T_zero_71 rfl ?_
  clear hf hS a; intro b_s1 w a hbb_s1 hS hf
  refine O.alloc (cs:=#[.slice none 0 0]) hf hS rfl rfl T_zero_51 rfl ?_
  clear hf hS a; intro b_undone2 w a hbb_undone2 hS hf
  refine O.alloc (cs:=#[.int .i64 0]) hf hS rfl rfl T_zero_28 rfl ?_
  clear hf hS a; intro b_err3 w a hbb_err3 hS hf
  refine O.nil ?_
  refine k_seq ?_
  refine W.seq ?_
  refine W.seq ?_
  refine W.regionL (l:=[0,1,2]) rfl ?_
  refine O.val hf rfl rfl rfl (RunV.move rfl) ?_
  clear hf a; intro a hf
  refine O.val hf rfl rfl rfl (RunV.lenV (e:=26) (by simpa using T_elem_22) rfl (hS.rdAt (j:=1) rfl)) ?_
  clear hf a; intro a hf
  refine O.val (v:=.bool (decide ((l.length:Int)>(500:Int)))) hf rfl rfl rfl (RunV.gtr rfl rfl) ?_
  clear hf a; intro a hf
  refine O.nil ?_
  refine k_seq ?_
  replace hf:Fr a 81 [] [(0,vl),(2,.pointer (some ⟨b_s1,0,none⟩)),(3,.pointer (some ⟨b_undone2,0,none⟩)),(4,.pointer (some ⟨b_err3,0,none⟩)),(13,.bool (decide ((l.length:Int)>(500:Int))))]:=hf.to ⟨rfl,rfl,rfl,rfl,rfl,trivial⟩
  refine W.ifdI hf rfl (fun hlen=>?_) (fun hlen=>?_)
  · refine W.seq ?_
    refine W.regionL (l:=[0,1,2]) rfl ?_
    refine O.store (j:=2) (cs':=#[.map none]) (M':=[pt b_err3 (.cells #[.int .i64 0] 28 (0,0)),pt b_undone2 (.cells #[.slice none 0 0] 51 (0,0)),pt b_s1 (.cells #[.map none] 71 (0,0))]) hf hS rfl rfl rfl T_size_71 rfl rfl rfl (Nat.le_of_ble_eq_true rfl) rfl rfl ?_
    clear hS; intro w hS
    refine O.store (j:=1) (cs':=#[.slice none 0 0]) (M':=[pt b_err3 (.cells #[.int .i64 0] 28 (0,0)),pt b_undone2 (.cells #[.slice none 0 0] 51 (0,0)),pt b_s1 (.cells #[.map none] 71 (0,0))]) hf hS rfl rfl rfl T_size_51 rfl rfl rfl (Nat.le_of_ble_eq_true rfl) rfl rfl ?_
    clear hS; intro w hS
    refine O.store (j:=0) (cs':=#[.int .i64 4]) (M':=[pt b_err3 (.cells #[.int .i64 4] 28 (0,0)),pt b_undone2 (.cells #[.slice none 0 0] 51 (0,0)),pt b_s1 (.cells #[.map none] 71 (0,0))]) hf hS rfl rfl rfl T_size_28 rfl rfl rfl (Nat.le_of_ble_eq_true rfl) rfl rfl ?_
    clear hS; intro w hS
    refine O.nil ?_
    refine k_seq ?_
    refine W.ret ?_
    refine k_then_ret ?_
    refine postDN hf ?_
    refine post3 hf rfl (ResOK.cell1 rfl T_agg_71 (hS.ptAt (i:=2) rfl) rfl) (ResOK.cell1 rfl T_agg_51 (hS.ptAt (i:=1) rfl) rfl) (ResOK.cell1 rfl T_agg_28 (hS.ptAt (i:=0) rfl) rfl) ?_
    exact ⟨(.map none,.slice none 0 0,0,[],[]),by rw [hist_many (by omega)]; rfl,HistR.err (hist_many (by omega)) (hS.sub (List.nil_sublist _) |>.noB)⟩
  · replace hlen:¬ l.length>500:=by omega
    refine W.skip ?_
    refine k_seq ?_
    refine W.seq ?_
    refine W.seq ?_
    refine W.regionL (l:=[0,1,2]) rfl ?_
    refine O.val hf rfl rfl rfl (RunV.move rfl) ?_
    clear hf a; intro a hf
    refine O.val hf rfl rfl rfl (RunV.lenV (e:=26) (by simpa using T_elem_22) rfl (hS.rdAt (j:=1) rfl)) ?_
    clear hf a; intro a hf
    refine O.val hf rfl rfl rfl (RunV.move rfl) ?_
    clear hf a; intro a hf
    refine O.nil ?_
    refine k_seq ?_
    refine W.block ?_
    refine W.loop (G:=(Nat)) (fun g a w=>match g with | k=>Fr a 81 [] [(0,vl),(2,.pointer (some ⟨b_s1,0,none⟩)),(3,.pointer (some ⟨b_undone2,0,none⟩)),(4,.pointer (some ⟨b_err3,0,none⟩)),(14,vl),(15,.int .i64 (l.length:Int)),(16,.int .i64 (k:Int))]∧St w0 w noX [ordA,rdv 12 vl l.length (encs eC l)] [pt b_err3 (.cells #[.int .i64 0] 28 (0,0)),pt b_undone2 (.cells #[.slice none 0 0] 51 (0,0)),pt b_s1 (.cells #[.map none] 71 (0,0))]∧(k≤l.length)∧(∀ j,j<k→okC (l.getD j default)=true)) (fun g=>match g with | k=>l.length-k) 0 ?_ ?_
    · refine ⟨hf.to ⟨rfl,rfl,rfl,rfl,rfl,rfl,(by first | rfl | exact congrArg some (congrArg (Value.int _) (by omega))),trivial⟩,hS,?_,?_⟩
      · omega
      · exact fun j hj=>by omega
    clear hf hS a
    rintro k a w ⟨hf,hS,h1,hok⟩
    refine W.seq ?_
    refine W.regionL (l:=[0]) rfl ?_
    refine O.val (v:=.bool (decide ((k:Int)<((l.length:Int):Int)))) hf rfl rfl rfl (RunV.lss rfl rfl) ?_
    clear hf a; intro a hf
    refine O.nil ?_
    refine k_seq ?_
    refine W.seq ?_
    refine W.ifdI hf rfl (fun hkA=>?_) (fun hkA=>?_)
    · refine W.skip ?_
      refine k_seq ?_
      refine W.seq ?_
      refine W.block ?_
      refine W.seq ?_
      refine W.regionL (l:=[0,1,2,3]) rfl ?_
      obtain ⟨cc,hcc⟩:∃ cc,cc=l.getD k default:=⟨_,rfl⟩
      refine O.val hf rfl rfl rfl (RunV.ixV (j:=k) (m:=k*12) T_elem_22 T_size_26 rfl rfl (hS.rdAt (j:=1) rfl) rfl (by omega) rfl) ?_
      clear hf a; intro a hf
      refine O.val hf rfl rfl rfl (RunV.ldG (j:=k) (enc:=eC) (l:=l) (us:=eC cc) T_agg_26 T_size_26 rfl eC_len rfl (hS.rdAt (j:=1) rfl) (by omega) (by rw [hcc])) ?_
      clear hf a; intro a hf
      refine O.alloc (cs:=#[.int .u8 0,.int .i64 0,.int .i64 0,.int .u8 0,.int .u8 0,.int .i64 0,.int .i64 0,.int .i64 0,.int .u8 0,.int .u8 0,.int .i64 0,.int .i64 0]) hf hS rfl rfl T_zero_26 rfl ?_
      clear hf hS a; intro b_c6 w a hbb_c6 hS hf
      refine O.store (j:=0) (v:=.agg #[.int .u8 cc.kind,.int .i64 cc.a.num,.int .i64 cc.a.yr,.int .u8 cc.a.half,.int .u8 cc.a.sec,.int .i64 cc.a.cyc,.int .i64 cc.b.num,.int .i64 cc.b.yr,.int .u8 cc.b.half,.int .u8 cc.b.sec,.int .i64 cc.b.cyc,.int .i64 cc.n]) (cs':=#[.int .u8 cc.kind,.int .i64 cc.a.num,.int .i64 cc.a.yr,.int .u8 cc.a.half,.int .u8 cc.a.sec,.int .i64 cc.a.cyc,.int .i64 cc.b.num,.int .i64 cc.b.yr,.int .u8 cc.b.half,.int .u8 cc.b.sec,.int .i64 cc.b.cyc,.int .i64 cc.n]) (M':=[pt b_c6 (.cells #[.int .u8 cc.kind,.int .i64 cc.a.num,.int .i64 cc.a.yr,.int .u8 cc.a.half,.int .u8 cc.a.sec,.int .i64 cc.a.cyc,.int .i64 cc.b.num,.int .i64 cc.b.yr,.int .u8 cc.b.half,.int .u8 cc.b.sec,.int .i64 cc.b.cyc,.int .i64 cc.n] 26 (0,0)),pt b_err3 (.cells #[.int .i64 0] 28 (0,0)),pt b_undone2 (.cells #[.slice none 0 0] 51 (0,0)),pt b_s1 (.cells #[.map none] 71 (0,0))]) hf hS rfl rfl rfl T_size_26 (by kernel_rfl) (by kernel_rfl) rfl (Nat.le_of_ble_eq_true rfl) (by kernel_rfl) rfl ?_
      clear hS; intro w hS
      refine O.nil ?_
      refine k_seq ?_
      replace hf:Fr a 81 [] [(0,vl),(2,.pointer (some ⟨b_s1,0,none⟩)),(3,.pointer (some ⟨b_undone2,0,none⟩)),(4,.pointer (some ⟨b_err3,0,none⟩)),(6,.pointer (some ⟨b_c6,0,none⟩)),(14,vl),(15,.int .i64 (l.length:Int)),(16,.int .i64 (k:Int))]:=hf.to ⟨rfl,rfl,rfl,rfl,rfl,rfl,rfl,rfl,trivial⟩
      refine W.seq ?_
      refine W.regionL (l:=[0,1,2]) rfl ?_
      refine O.val hf rfl rfl rfl (RunV.loadN (cs':=#[.int .u8 cc.kind,.int .i64 cc.a.num,.int .i64 cc.a.yr,.int .u8 cc.a.half,.int .u8 cc.a.sec,.int .i64 cc.a.cyc,.int .i64 cc.b.num,.int .i64 cc.b.yr,.int .u8 cc.b.half,.int .u8 cc.b.sec,.int .i64 cc.b.cyc,.int .i64 cc.n]) T_agg_26 T_size_26 rfl (hS.ptAt (i:=0) rfl) (Nat.le_of_ble_eq_true rfl) rfl) ?_
      clear hf a; intro a hf
      refine O.callR hf rfl rfl rfl (RunE.call (av:=#[.agg #[.int .u8 cc.kind,.int .i64 cc.a.num,.int .i64 cc.a.yr,.int .u8 cc.a.half,.int .u8 cc.a.sec,.int .i64 cc.a.cyc,.int .i64 cc.b.num,.int .i64 cc.b.yr,.int .u8 cc.b.half,.int .u8 cc.b.sec,.int .i64 cc.b.cyc,.int .i64 cc.n]]) C_ok_25 rfl rfl rfl) (checkC_spec cc _ (hS.bptO (i:=0) rfl)) ?_
      clear hf a
      rintro _ w7 hS1 a hf
      replace hf:Fr a _ _ ((21,.int .i64 (if okC cc then 0 else 8))::_):=hf
      replace hS:=(hS.call hS1).eqM (N:=[pt b_c6 (.cells #[.int .u8 cc.kind,.int .i64 cc.a.num,.int .i64 cc.a.yr,.int .u8 cc.a.half,.int .u8 cc.a.sec,.int .i64 cc.a.cyc,.int .i64 cc.b.num,.int .i64 cc.b.yr,.int .u8 cc.b.half,.int .u8 cc.b.sec,.int .i64 cc.b.cyc,.int .i64 cc.n] 26 (0,0)),pt b_err3 (.cells #[.int .i64 0] 28 (0,0)),pt b_undone2 (.cells #[.slice none 0 0] 51 (0,0)),pt b_s1 (.cells #[.map none] 71 (0,0))]) rfl
      clear hS1
      refine O.val hf rfl rfl rfl (RunV.assign rfl) ?_
      clear hf a; intro a hf
      refine O.nil ?_
      refine k_seq ?_
      replace hf:Fr a 81 [] [(0,vl),(2,.pointer (some ⟨b_s1,0,none⟩)),(3,.pointer (some ⟨b_undone2,0,none⟩)),(4,.pointer (some ⟨b_err3,0,none⟩)),(6,.pointer (some ⟨b_c6,0,none⟩)),(7,.int .i64 (if okC cc then 0 else 8)),(14,vl),(15,.int .i64 (l.length:Int)),(16,.int .i64 (k:Int))]:=hf.to ⟨rfl,rfl,rfl,rfl,rfl,rfl,rfl,rfl,rfl,trivial⟩
      refine W.seq ?_
      refine W.regionL (l:=[0,1]) rfl ?_
      refine O.val hf rfl rfl rfl (RunV.move rfl) ?_
      clear hf a; intro a hf
      refine O.val (v:=.bool (decide ((if okC cc then 0 else 8)≠(0:Int)))) hf rfl rfl rfl (RunV.neq rfl rfl) ?_
      clear hf a; intro a hf
      refine O.nil ?_
      refine k_seq ?_
      replace hf:Fr a 81 [] [(0,vl),(2,.pointer (some ⟨b_s1,0,none⟩)),(3,.pointer (some ⟨b_undone2,0,none⟩)),(4,.pointer (some ⟨b_err3,0,none⟩)),(6,.pointer (some ⟨b_c6,0,none⟩)),(7,.int .i64 (if okC cc then 0 else 8)),(14,vl),(15,.int .i64 (l.length:Int)),(16,.int .i64 (k:Int)),(23,.bool (decide ((if okC cc then 0 else 8)≠(0:Int))))]:=hf.to ⟨rfl,rfl,rfl,rfl,rfl,rfl,rfl,rfl,rfl,rfl,trivial⟩
      refine W.ifdI hf rfl (fun hbad=>?_) (fun hbad=>?_)
      · refine W.seq ?_
        refine W.regionL (l:=[0,1,2,3]) rfl ?_
        refine O.val hf rfl rfl rfl (RunV.move rfl) ?_
        clear hf a; intro a hf
        refine O.store (j:=3) (cs':=#[.map none]) (M':=[pt b_c6 (.cells #[.int .u8 cc.kind,.int .i64 cc.a.num,.int .i64 cc.a.yr,.int .u8 cc.a.half,.int .u8 cc.a.sec,.int .i64 cc.a.cyc,.int .i64 cc.b.num,.int .i64 cc.b.yr,.int .u8 cc.b.half,.int .u8 cc.b.sec,.int .i64 cc.b.cyc,.int .i64 cc.n] 26 (0,0)),pt b_err3 (.cells #[.int .i64 0] 28 (0,0)),pt b_undone2 (.cells #[.slice none 0 0] 51 (0,0)),pt b_s1 (.cells #[.map none] 71 (0,0))]) hf hS rfl rfl rfl T_size_71 rfl rfl rfl (Nat.le_of_ble_eq_true rfl) rfl rfl ?_
        clear hS; intro w hS
        refine O.store (j:=2) (cs':=#[.slice none 0 0]) (M':=[pt b_c6 (.cells #[.int .u8 cc.kind,.int .i64 cc.a.num,.int .i64 cc.a.yr,.int .u8 cc.a.half,.int .u8 cc.a.sec,.int .i64 cc.a.cyc,.int .i64 cc.b.num,.int .i64 cc.b.yr,.int .u8 cc.b.half,.int .u8 cc.b.sec,.int .i64 cc.b.cyc,.int .i64 cc.n] 26 (0,0)),pt b_err3 (.cells #[.int .i64 0] 28 (0,0)),pt b_undone2 (.cells #[.slice none 0 0] 51 (0,0)),pt b_s1 (.cells #[.map none] 71 (0,0))]) hf hS rfl rfl rfl T_size_51 rfl rfl rfl (Nat.le_of_ble_eq_true rfl) rfl rfl ?_
        clear hS; intro w hS
        refine O.store (j:=1) (cs':=#[.int .i64 (if okC cc then 0 else 8)]) (M':=[pt b_c6 (.cells #[.int .u8 cc.kind,.int .i64 cc.a.num,.int .i64 cc.a.yr,.int .u8 cc.a.half,.int .u8 cc.a.sec,.int .i64 cc.a.cyc,.int .i64 cc.b.num,.int .i64 cc.b.yr,.int .u8 cc.b.half,.int .u8 cc.b.sec,.int .i64 cc.b.cyc,.int .i64 cc.n] 26 (0,0)),pt b_err3 (.cells #[.int .i64 (if okC cc then 0 else 8)] 28 (0,0)),pt b_undone2 (.cells #[.slice none 0 0] 51 (0,0)),pt b_s1 (.cells #[.map none] 71 (0,0))]) hf hS rfl rfl rfl T_size_28 rfl rfl rfl (Nat.le_of_ble_eq_true rfl) rfl rfl ?_
        clear hS; intro w hS
        refine O.nil ?_
        refine k_seq ?_
        replace hf:Fr a 81 [] [(0,vl),(2,.pointer (some ⟨b_s1,0,none⟩)),(3,.pointer (some ⟨b_undone2,0,none⟩)),(4,.pointer (some ⟨b_err3,0,none⟩)),(6,.pointer (some ⟨b_c6,0,none⟩)),(7,.int .i64 (if okC cc then 0 else 8)),(14,vl),(15,.int .i64 (l.length:Int)),(16,.int .i64 (k:Int))]:=hf.to ⟨rfl,rfl,rfl,rfl,rfl,rfl,rfl,rfl,rfl,trivial⟩
        refine W.ret ?_
        refine k_blk_ret ?_
        refine k_then_ret ?_
        refine k_then_ret ?_
        refine k_blk_ret ?_
        refine k_then_ret ?_
        refine postDN hf ?_
        refine post3 hf rfl (ResOK.cell1 rfl T_agg_71 (hS.ptAt (i:=3) rfl) rfl) (ResOK.cell1 rfl T_agg_51 (hS.ptAt (i:=2) rfl) rfl) (ResOK.cell1 rfl T_agg_28 (hS.ptAt (i:=1) rfl) rfl) ?_
        have hm:=histM_bad hlen (show k<l.length by omega) (by rw [← hcc]; exact okI_ne hbad)
        exact ⟨(.map none,.slice none 0 0,0,[],[]),by rw [hm,show (if okC cc then (0:Int) else 8)=8 from if_neg (by rw [okI_ne hbad]; decide)]; rfl,HistR.err hm (hS.sub (List.nil_sublist _) |>.noB)⟩
      · refine W.skip ?_
        refine k_blk_normal ?_
        refine k_seq ?_
        refine W.regionL (l:=[0,1]) rfl ?_
        refine O.val hf rfl rfl rfl (RunV.addI rfl rfl (by omega)) ?_
        clear hf a; intro a hf
        refine O.val hf rfl rfl rfl (RunV.move rfl) ?_
        clear hf a; intro a hf
        refine O.nil ?_
        replace hS:=hS.sub (N:=[pt b_err3 (.cells #[.int .i64 0] 28 (0,0)),pt b_undone2 (.cells #[.slice none 0 0] 51 (0,0)),pt b_s1 (.cells #[.map none] 71 (0,0))]) (.cons _ (.cons_cons _ (.cons_cons _ (.cons_cons _ .slnil))))
        refine k_then ⟨(k+1),⟨hf.to ⟨rfl,rfl,rfl,rfl,rfl,rfl,(by first | rfl | exact congrArg some (congrArg (Value.int _) (by omega))),trivial⟩,?_,?_,?_⟩,?_⟩
        · exact hS.eqM rfl
        · omega
        · exact Det.all_snoc hok (by rw [← hcc]; exact okI_eq hbad)
        · dsimp only; omega
    · refine W.exit ?_
      refine k_then_exit ?_
      refine k_then_exit ?_
      refine k_blk ?_
      refine k_seq ?_
      replace hf:Fr a 81 [] [(0,vl),(2,.pointer (some ⟨b_s1,0,none⟩)),(3,.pointer (some ⟨b_undone2,0,none⟩)),(4,.pointer (some ⟨b_err3,0,none⟩))]:=hf.to ⟨rfl,rfl,rfl,rfl,trivial⟩
      refine W.seq ?_
      refine W.regionL (l:=[0,1]) rfl ?_
      refine O.alloc (cs:=#[.bool false]) hf hS rfl rfl T_zero_4 rfl ?_
      clear hf hS a; intro b_undoing9 w a hbb_undoing9 hS hf
      refine O.store (j:=0) (cs':=#[.bool false]) (M':=[pt b_undoing9 (.cells #[.bool false] 4 (0,0)),pt b_err3 (.cells #[.int .i64 0] 28 (0,0)),pt b_undone2 (.cells #[.slice none 0 0] 51 (0,0)),pt b_s1 (.cells #[.map none] 71 (0,0))]) hf hS rfl rfl rfl T_size_4 rfl rfl rfl (Nat.le_of_ble_eq_true rfl) rfl rfl ?_
      clear hS; intro w hS
      refine O.nil ?_
      refine k_seq ?_
      refine W.seq ?_
      refine W.regionL (l:=[0,1]) rfl ?_
      refine O.val (v:=.func (.func 44) #[] #[.pointer (some ⟨b_s1,0,none⟩),.pointer (some ⟨b_undone2,0,none⟩),.pointer (some ⟨b_err3,0,none⟩),.pointer (some ⟨b_undoing9,0,none⟩)]) hf rfl rfl rfl (RunV.makeFunc rfl rfl rfl rfl) ?_
      clear hf a; intro a hf
      refine O.deferC (f:=44) (vs:=[.pointer (some ⟨b_s1,0,none⟩),.pointer (some ⟨b_undone2,0,none⟩),.pointer (some ⟨b_err3,0,none⟩),.pointer (some ⟨b_undoing9,0,none⟩)]) hf rfl rfl ?_; clear hf a; intro a hf
      refine O.nil ?_
      refine k_seq ?_
      replace hf:Fr a 81 [dfrC 44 [.pointer (some ⟨b_s1,0,none⟩),.pointer (some ⟨b_undone2,0,none⟩),.pointer (some ⟨b_err3,0,none⟩),.pointer (some ⟨b_undoing9,0,none⟩)]] [(0,vl),(2,.pointer (some ⟨b_s1,0,none⟩)),(3,.pointer (some ⟨b_undone2,0,none⟩)),(4,.pointer (some ⟨b_err3,0,none⟩)),(8,.pointer (some ⟨b_undoing9,0,none⟩))]:=hf.to ⟨rfl,rfl,rfl,rfl,rfl,trivial⟩
      refine W.seq ?_
      refine W.regionL (l:=[0,1,2,3]) rfl ?_
      refine O.val hf rfl rfl rfl (RunV.move rfl) ?_
      clear hf a; intro a hf
      refine O.val hf rfl rfl rfl (RunV.lenV (e:=26) (by simpa using T_elem_22) rfl (hS.rdAt (j:=1) rfl)) ?_
      clear hf a; intro a hf
      refine O.make (N:=l.length) hf hS rfl rfl T_elem_51 T_size_4 T_bytes_4 T_zero_4 rfl rfl (by unfold maxLen; omega) (by omega) ?_
      clear hf hS a; intro b_m10 w a hbb_m10 hS hf
      have hS:=hS.eqM (N:=[sl 4 1 (.slice (some ⟨b_m10,0,none⟩) l.length l.length) l.length (bools (List.replicate l.length false)),pt b_undoing9 (.cells #[.bool false] 4 (0,0)),pt b_err3 (.cells #[.int .i64 0] 28 (0,0)),pt b_undone2 (.cells #[.slice none 0 0] 51 (0,0)),pt b_s1 (.cells #[.map none] 71 (0,0))]) (by rw [made_bools])
      refine O.store (j:=3) (cs':=#[.slice (some ⟨b_m10,0,none⟩) l.length l.length]) (M':=[sl 4 1 (.slice (some ⟨b_m10,0,none⟩) l.length l.length) l.length (bools (List.replicate l.length false)),pt b_undoing9 (.cells #[.bool false] 4 (0,0)),pt b_err3 (.cells #[.int .i64 0] 28 (0,0)),pt b_undone2 (.cells #[.slice (some ⟨b_m10,0,none⟩) l.length l.length] 51 (0,0)),pt b_s1 (.cells #[.map none] 71 (0,0))]) hf hS rfl rfl rfl T_size_51 rfl rfl rfl (Nat.le_of_ble_eq_true rfl) rfl rfl ?_
      clear hS; intro w hS
      refine O.nil ?_
      obtain ⟨vu,hvv⟩:∃ v:Value,v=.slice (some ⟨b_m10,0,none⟩) l.length l.length:=⟨_,rfl⟩
      rw [← hvv] at hf hS; clear hvv
      replace hS:=hS.eqM (N:=[sl 4 1 vu ((List.replicate l.length false).length) (bools (List.replicate l.length false)),pt b_undoing9 (.cells #[.bool false] 4 (0,0)),pt b_err3 (.cells #[.int .i64 0] 28 (0,0)),pt b_undone2 (.cells #[vu] 51 (0,0)),pt b_s1 (.cells #[.map none] 71 (0,0))]) (by simp)
      refine k_seq ?_
      replace hf:Fr a 81 [dfrC 44 [.pointer (some ⟨b_s1,0,none⟩),.pointer (some ⟨b_undone2,0,none⟩),.pointer (some ⟨b_err3,0,none⟩),.pointer (some ⟨b_undoing9,0,none⟩)]] [(0,vl),(2,.pointer (some ⟨b_s1,0,none⟩)),(3,.pointer (some ⟨b_undone2,0,none⟩)),(4,.pointer (some ⟨b_err3,0,none⟩)),(8,.pointer (some ⟨b_undoing9,0,none⟩))]:=hf.to ⟨rfl,rfl,rfl,rfl,rfl,trivial⟩
      refine W.seq ?_
      refine W.seq ?_
      refine W.regionL (l:=[0,1,2]) rfl ?_
      refine O.val hf rfl rfl rfl (RunV.move rfl) ?_
      clear hf a; intro a hf
      refine O.val hf rfl rfl rfl (RunV.lenV (e:=26) (by simpa using T_elem_22) rfl (hS.rdAt (j:=1) rfl)) ?_
      clear hf a; intro a hf
      refine O.val hf rfl rfl rfl (RunV.move rfl) ?_
      clear hf a; intro a hf
      refine O.nil ?_
      refine k_seq ?_
      refine W.block ?_
      replace hok:∀ j,j<l.length→okC (l.getD j default)=true:=fun j hj=>hok j (by omega)
      clear h1 hkA k
      refine W.loop (G:=(Nat) × (List Bool) × (Bool)) (fun g a w=>match g with | (k,us,ud)=>Fr a 81 [dfrC 44 [.pointer (some ⟨b_s1,0,none⟩),.pointer (some ⟨b_undone2,0,none⟩),.pointer (some ⟨b_err3,0,none⟩),.pointer (some ⟨b_undoing9,0,none⟩)]] [(0,vl),(2,.pointer (some ⟨b_s1,0,none⟩)),(3,.pointer (some ⟨b_undone2,0,none⟩)),(4,.pointer (some ⟨b_err3,0,none⟩)),(8,.pointer (some ⟨b_undoing9,0,none⟩)),(30,vl),(31,.int .i64 (l.length:Int)),(32,.int .i64 (k:Int))]∧St w0 w noX [ordA,rdv 12 vl l.length (encs eC l)] [sl 4 1 vu us.length (bools us),pt b_undoing9 (.cells #[.bool ud] 4 (0,0)),pt b_err3 (.cells #[.int .i64 0] 28 (0,0)),pt b_undone2 (.cells #[vu] 51 (0,0)),pt b_s1 (.cells #[.map none] 71 (0,0))]∧(k≤l.length)∧(undoK l k=.ok us)∧(us.length=l.length)) (fun g=>match g with | (k,us,ud)=>l.length-k) (0,(List.replicate l.length false),false) ?_ ?_
      · refine ⟨hf.to ⟨rfl,rfl,rfl,rfl,rfl,rfl,rfl,(by first | rfl | exact congrArg some (congrArg (Value.int _) (by omega))),trivial⟩,hS,?_,?_,?_⟩
        · omega
        · rfl
        · simp
      clear hf hS a
      rintro ⟨k,us,ud⟩ a w ⟨hf,hS,h1,hu,hul⟩
      refine W.seq ?_
      refine W.regionL (l:=[0]) rfl ?_
      refine O.val (v:=.bool (decide ((k:Int)<((l.length:Int):Int)))) hf rfl rfl rfl (RunV.lss rfl rfl) ?_
      clear hf a; intro a hf
      refine O.nil ?_
      refine k_seq ?_
      refine W.seq ?_
      refine W.ifdI hf rfl (fun hkB=>?_) (fun hkB=>?_)
      · refine W.skip ?_
        refine k_seq ?_
        refine W.seq ?_
        refine W.block ?_
        refine W.seq ?_
        refine W.regionL (l:=[0,1,2,3,4,5]) rfl ?_
        obtain ⟨cc,hcc⟩:∃ cc,cc=l.getD k default:=⟨_,rfl⟩
        refine O.val hf rfl rfl rfl (RunV.move rfl) ?_
        clear hf a; intro a hf
        refine O.val hf rfl rfl rfl (RunV.ixV (j:=k) (m:=k*12) T_elem_22 T_size_26 rfl rfl (hS.rdAt (j:=1) rfl) rfl (by omega) rfl) ?_
        clear hf a; intro a hf
        refine O.val hf rfl rfl rfl (RunV.ldG (j:=k) (enc:=eC) (l:=l) (us:=eC cc) T_agg_26 T_size_26 rfl eC_len rfl (hS.rdAt (j:=1) rfl) (by omega) (by rw [hcc])) ?_
        clear hf a; intro a hf
        refine O.alloc (cs:=#[.int .u8 0,.int .i64 0,.int .i64 0,.int .u8 0,.int .u8 0,.int .i64 0,.int .i64 0,.int .i64 0,.int .u8 0,.int .u8 0,.int .i64 0,.int .i64 0]) hf hS rfl rfl T_zero_26 rfl ?_
        clear hf hS a; intro b_c12 w a hbb_c12 hS hf
        refine O.val hf rfl rfl rfl (RunV.assign rfl) ?_
        clear hf a; intro a hf
        refine O.store (j:=0) (v:=.agg #[.int .u8 cc.kind,.int .i64 cc.a.num,.int .i64 cc.a.yr,.int .u8 cc.a.half,.int .u8 cc.a.sec,.int .i64 cc.a.cyc,.int .i64 cc.b.num,.int .i64 cc.b.yr,.int .u8 cc.b.half,.int .u8 cc.b.sec,.int .i64 cc.b.cyc,.int .i64 cc.n]) (cs':=#[.int .u8 cc.kind,.int .i64 cc.a.num,.int .i64 cc.a.yr,.int .u8 cc.a.half,.int .u8 cc.a.sec,.int .i64 cc.a.cyc,.int .i64 cc.b.num,.int .i64 cc.b.yr,.int .u8 cc.b.half,.int .u8 cc.b.sec,.int .i64 cc.b.cyc,.int .i64 cc.n]) (M':=[pt b_c12 (.cells #[.int .u8 cc.kind,.int .i64 cc.a.num,.int .i64 cc.a.yr,.int .u8 cc.a.half,.int .u8 cc.a.sec,.int .i64 cc.a.cyc,.int .i64 cc.b.num,.int .i64 cc.b.yr,.int .u8 cc.b.half,.int .u8 cc.b.sec,.int .i64 cc.b.cyc,.int .i64 cc.n] 26 (0,0)),sl 4 1 vu us.length (bools us),pt b_undoing9 (.cells #[.bool ud] 4 (0,0)),pt b_err3 (.cells #[.int .i64 0] 28 (0,0)),pt b_undone2 (.cells #[vu] 51 (0,0)),pt b_s1 (.cells #[.map none] 71 (0,0))]) hf hS rfl rfl rfl T_size_26 (by kernel_rfl) (by kernel_rfl) rfl (Nat.le_of_ble_eq_true rfl) (by kernel_rfl) rfl ?_
        clear hS; intro w hS
        refine O.nil ?_
        refine k_seq ?_
        replace hf:Fr a 81 [dfrC 44 [.pointer (some ⟨b_s1,0,none⟩),.pointer (some ⟨b_undone2,0,none⟩),.pointer (some ⟨b_err3,0,none⟩),.pointer (some ⟨b_undoing9,0,none⟩)]] [(0,vl),(2,.pointer (some ⟨b_s1,0,none⟩)),(3,.pointer (some ⟨b_undone2,0,none⟩)),(4,.pointer (some ⟨b_err3,0,none⟩)),(8,.pointer (some ⟨b_undoing9,0,none⟩)),(9,.int .i64 (k:Int)),(10,.pointer (some ⟨b_c12,0,none⟩)),(30,vl),(31,.int .i64 (l.length:Int)),(32,.int .i64 (k:Int))]:=hf.to ⟨rfl,rfl,rfl,rfl,rfl,rfl,rfl,rfl,rfl,rfl,trivial⟩
        refine W.seq ?_
        refine W.seq ?_
        refine W.regionL (l:=[0,1,2]) rfl ?_
        refine O.val hf rfl rfl rfl (RunV.field T_field_26_0 rfl rfl) ?_
        clear hf a; intro a hf
        refine O.val hf rfl rfl rfl (RunV.load1 T_agg_5 rfl (hS.ptAt (i:=0) rfl) rfl) ?_
        clear hf a; intro a hf
        refine O.val (v:=.bool (decide (cc.kind≠(4:Int)))) hf rfl rfl rfl (RunV.neq rfl rfl) ?_
        clear hf a; intro a hf
        refine O.nil ?_
        refine k_seq ?_
        replace hf:Fr a 81 [dfrC 44 [.pointer (some ⟨b_s1,0,none⟩),.pointer (some ⟨b_undone2,0,none⟩),.pointer (some ⟨b_err3,0,none⟩),.pointer (some ⟨b_undoing9,0,none⟩)]] [(0,vl),(2,.pointer (some ⟨b_s1,0,none⟩)),(3,.pointer (some ⟨b_undone2,0,none⟩)),(4,.pointer (some ⟨b_err3,0,none⟩)),(8,.pointer (some ⟨b_undoing9,0,none⟩)),(9,.int .i64 (k:Int)),(10,.pointer (some ⟨b_c12,0,none⟩)),(30,vl),(31,.int .i64 (l.length:Int)),(32,.int .i64 (k:Int)),(39,.bool (decide (cc.kind≠(4:Int))))]:=hf.to ⟨rfl,rfl,rfl,rfl,rfl,rfl,rfl,rfl,rfl,rfl,rfl,trivial⟩
        refine W.ifdI hf rfl (fun hk4=>?_) (fun hk4=>?_)
        · refine W.exit ?_
          refine k_then_exit ?_
          refine k_blk ?_
          refine k_seq ?_
          refine W.regionL (l:=[0,1]) rfl ?_
          refine O.val hf rfl rfl rfl (RunV.addI rfl rfl (by omega)) ?_
          clear hf a; intro a hf
          refine O.val hf rfl rfl rfl (RunV.move rfl) ?_
          clear hf a; intro a hf
          refine O.nil ?_
          replace hS:=hS.sub (N:=[sl 4 1 vu us.length (bools us),pt b_undoing9 (.cells #[.bool ud] 4 (0,0)),pt b_err3 (.cells #[.int .i64 0] 28 (0,0)),pt b_undone2 (.cells #[vu] 51 (0,0)),pt b_s1 (.cells #[.map none] 71 (0,0))]) (.cons _ (.cons_cons _ (.cons_cons _ (.cons_cons _ (.cons_cons _ (.cons_cons _ .slnil))))))
          refine k_then ⟨(k+1,us,ud),⟨hf.to ⟨rfl,rfl,rfl,rfl,rfl,rfl,rfl,(by first | rfl | exact congrArg some (congrArg (Value.int _) (by omega))),trivial⟩,?_,?_,?_,?_⟩,?_⟩
          · exact hS.eqM rfl
          · omega
          · exact undo_skip hu (by rw [← hcc]; exact hk4)
          · exact hul
          · dsimp only; omega
        · have hk4:cc.kind=4:=by omega
          refine W.skip ?_
          refine k_seq ?_
          refine W.seq ?_
          refine W.regionL (l:=[0]) rfl ?_
          refine O.store (j:=2) (cs':=#[.bool false]) (M':=[pt b_c12 (.cells #[.int .u8 cc.kind,.int .i64 cc.a.num,.int .i64 cc.a.yr,.int .u8 cc.a.half,.int .u8 cc.a.sec,.int .i64 cc.a.cyc,.int .i64 cc.b.num,.int .i64 cc.b.yr,.int .u8 cc.b.half,.int .u8 cc.b.sec,.int .i64 cc.b.cyc,.int .i64 cc.n] 26 (0,0)),sl 4 1 vu us.length (bools us),pt b_undoing9 (.cells #[.bool false] 4 (0,0)),pt b_err3 (.cells #[.int .i64 0] 28 (0,0)),pt b_undone2 (.cells #[vu] 51 (0,0)),pt b_s1 (.cells #[.map none] 71 (0,0))]) hf hS rfl rfl rfl T_size_4 rfl rfl rfl (Nat.le_of_ble_eq_true rfl) rfl rfl ?_
          clear hS; intro w hS
          refine O.nil ?_
          refine k_seq ?_
          refine W.seq ?_
          refine W.drawM (l₂:=[4]) (fun w=>St w0 w noX [ordA,rdv 12 vl l.length (encs eC l)] [pt b_c12 (.cells #[.int .u8 cc.kind,.int .i64 cc.a.num,.int .i64 cc.a.yr,.int .u8 cc.a.half,.int .u8 cc.a.sec,.int .i64 cc.a.cyc,.int .i64 cc.b.num,.int .i64 cc.b.yr,.int .u8 cc.b.half,.int .u8 cc.b.sec,.int .i64 cc.b.cyc,.int .i64 cc.n] 26 (0,0)),sl 4 1 vu us.length (bools us),pt b_undoing9 (.cells #[.bool false] 4 (0,0)),pt b_err3 (.cells #[.int .i64 0] 28 (0,0)),pt b_undone2 (.cells #[vu] 51 (0,0)),pt b_s1 (.cells #[.map none] 71 (0,0))]) 4 P_mixed rfl rfl rfl (by kernel_rfl) hS.drew ?_
          clear hS
          refine OQ.val (v:=vl) hf rfl (fun w hS=>RunV.move rfl) ?_; clear hf a; intro a hf
          refine OQ.val (v:=.int .i64 (k:Int)) hf rfl (fun w hS=>RunV.move rfl) ?_; clear hf a; intro a hf
          refine OQ.val (v:=(vsub 12 vl 0 (k:Int))) hf rfl (fun w hS=>RunV.sliceH T_elem_22 T_size_26 rfl rfl (enc:=eC) (l:=l) ⟨hS.rdAt (j:=1) rfl,hfit⟩ ⟨by omega,by omega,by omega⟩) ?_; clear hf a; intro a hf
          refine OQ.val (v:=vu) hf rfl (fun w hS=>RunV.load1 T_agg_51 rfl (hS.ptAt (i:=4) rfl) rfl) ?_; clear hf a; intro a hf
          refine OQ.nil ?_; intro w hS
          refine O.callP hf rfl rfl rfl (RunE.call (av:=#[(vsub 12 vl 0 (k:Int)),vu]) C_ok_45 rfl rfl rfl) (play_spec (vsub 12 vl 0 (k:Int)) vu (l.take k) us _ (take_rd (hS.rdAt (j:=1) rfl) hfit h1) (hS.slr (j:=1) rfl) (by first | omega | (simp only [List.length_take]; omega) | (simp only [List.length_take,List.length_set]; omega)) (by first | omega | (simp only [List.length_take]; omega)) (kinds_take hok)) ?_ ?_
          rotate_left 1
          · rintro e w1 ⟨he,hS1⟩ a hf
            replace hS:=(hS.call hS1).dropN
            refine k_seq_panic ?_
            refine k_blk_panic ?_
            refine k_seq_panic ?_
            refine k_seq_panic ?_
            refine k_blk_panic ?_
            refine k_seq_panic ?_
            replace hS:=hS.front (i:=2) (M':=[pt b_undoing9 (.cells #[.bool false] 4 (0,0)),pt b_c12 (.cells #[.int .u8 cc.kind,.int .i64 cc.a.num,.int .i64 cc.a.yr,.int .u8 cc.a.half,.int .u8 cc.a.sec,.int .i64 cc.a.cyc,.int .i64 cc.b.num,.int .i64 cc.b.yr,.int .u8 cc.b.half,.int .u8 cc.b.sec,.int .i64 cc.b.cyc,.int .i64 cc.n] 26 (0,0)),sl 4 1 vu us.length (bools us),pt b_err3 (.cells #[.int .i64 0] 28 (0,0)),pt b_undone2 (.cells #[vu] 51 (0,0)),pt b_s1 (.cells #[.map none] 71 (0,0))]) rfl rfl
            replace hS:=hS.front (i:=3) (M':=[pt b_err3 (.cells #[.int .i64 0] 28 (0,0)),pt b_undoing9 (.cells #[.bool false] 4 (0,0)),pt b_c12 (.cells #[.int .u8 cc.kind,.int .i64 cc.a.num,.int .i64 cc.a.yr,.int .u8 cc.a.half,.int .u8 cc.a.sec,.int .i64 cc.a.cyc,.int .i64 cc.b.num,.int .i64 cc.b.yr,.int .u8 cc.b.half,.int .u8 cc.b.sec,.int .i64 cc.b.cyc,.int .i64 cc.n] 26 (0,0)),sl 4 1 vu us.length (bools us),pt b_undone2 (.cells #[vu] 51 (0,0)),pt b_s1 (.cells #[.map none] 71 (0,0))]) rfl rfl
            replace hS:=hS.front (i:=4) (M':=[pt b_undone2 (.cells #[vu] 51 (0,0)),pt b_err3 (.cells #[.int .i64 0] 28 (0,0)),pt b_undoing9 (.cells #[.bool false] 4 (0,0)),pt b_c12 (.cells #[.int .u8 cc.kind,.int .i64 cc.a.num,.int .i64 cc.a.yr,.int .u8 cc.a.half,.int .u8 cc.a.sec,.int .i64 cc.a.cyc,.int .i64 cc.b.num,.int .i64 cc.b.yr,.int .u8 cc.b.half,.int .u8 cc.b.sec,.int .i64 cc.b.cyc,.int .i64 cc.n] 26 (0,0)),sl 4 1 vu us.length (bools us),pt b_s1 (.cells #[.map none] 71 (0,0))]) rfl rfl
            replace hS:=hS.front (i:=5) (M':=[pt b_s1 (.cells #[.map none] 71 (0,0)),pt b_undone2 (.cells #[vu] 51 (0,0)),pt b_err3 (.cells #[.int .i64 0] 28 (0,0)),pt b_undoing9 (.cells #[.bool false] 4 (0,0)),pt b_c12 (.cells #[.int .u8 cc.kind,.int .i64 cc.a.num,.int .i64 cc.a.yr,.int .u8 cc.a.half,.int .u8 cc.a.sec,.int .i64 cc.a.cyc,.int .i64 cc.b.num,.int .i64 cc.b.yr,.int .u8 cc.b.half,.int .u8 cc.b.sec,.int .i64 cc.b.cyc,.int .i64 cc.n] 26 (0,0)),sl 4 1 vu us.length (bools us)]) rfl rfl
            have hS2:St w0 _ noX [ordA,rdv 12 vl l.length (encs eC l)] (histA b_s1 b_undone2 b_err3 b_undoing9 (.map none) vu (.int .i64 0) false::[pt b_c12 (.cells #[.int .u8 cc.kind,.int .i64 cc.a.num,.int .i64 cc.a.yr,.int .u8 cc.a.half,.int .u8 cc.a.sec,.int .i64 cc.a.cyc,.int .i64 cc.b.num,.int .i64 cc.b.yr,.int .u8 cc.b.half,.int .u8 cc.b.sec,.int .i64 cc.b.cyc,.int .i64 cc.n] 26 (0,0)),sl 4 1 vu us.length (bools us)]):=St.bigClose (N:=[]) (l:=[pt b_s1 (.cells #[.map none] 71 (0,0)),pt b_undone2 (.cells #[vu] 51 (0,0)),pt b_err3 (.cells #[.int .i64 0] 28 (0,0)),pt b_undoing9 (.cells #[.bool false] 4 (0,0))]) (M:=[pt b_c12 (.cells #[.int .u8 cc.kind,.int .i64 cc.a.num,.int .i64 cc.a.yr,.int .u8 cc.a.half,.int .u8 cc.a.sec,.int .i64 cc.a.cyc,.int .i64 cc.b.num,.int .i64 cc.b.yr,.int .u8 cc.b.half,.int .u8 cc.b.sec,.int .i64 cc.b.cyc,.int .i64 cc.n] 26 (0,0)),sl 4 1 vu us.length (bools us)]) hS
            refine postDP hf C_ok_44 (hist1_pan b_s1 b_undone2 b_err3 b_undoing9 (.map none) vu (.int .i64 0) false e _ (hS2.lentAt (i:=0) rfl)) (fun w2 hS3 a hf=>?_)
            have hS4:St w0 w2 noX [ordA,rdv 12 vl l.length (encs eC l)] (histA b_s1 b_undone2 b_err3 b_undoing9 (.map none) (.slice none 0 0) (.int .i64 (if false then 36 else e)) false::[pt b_c12 (.cells #[.int .u8 cc.kind,.int .i64 cc.a.num,.int .i64 cc.a.yr,.int .u8 cc.a.half,.int .u8 cc.a.sec,.int .i64 cc.a.cyc,.int .i64 cc.b.num,.int .i64 cc.b.yr,.int .u8 cc.b.half,.int .u8 cc.b.sec,.int .i64 cc.b.cyc,.int .i64 cc.n] 26 (0,0)),sl 4 1 vu us.length (bools us)]):=hS2.callX1 hS3 (i:=0) rfl (fun _ h=>h)
            have hS:St w0 w2 noX [ordA,rdv 12 vl l.length (encs eC l)] [pt b_s1 (.cells #[.map none] 71 (0,0)),pt b_undone2 (.cells #[(.slice none 0 0)] 51 (0,0)),pt b_err3 (.cells #[.int .i64 (if false then 36 else e)] 28 (0,0)),pt b_undoing9 (.cells #[.bool false] 4 (0,0)),pt b_c12 (.cells #[.int .u8 cc.kind,.int .i64 cc.a.num,.int .i64 cc.a.yr,.int .u8 cc.a.half,.int .u8 cc.a.sec,.int .i64 cc.a.cyc,.int .i64 cc.b.num,.int .i64 cc.b.yr,.int .u8 cc.b.half,.int .u8 cc.b.sec,.int .i64 cc.b.cyc,.int .i64 cc.n] 26 (0,0)),sl 4 1 vu us.length (bools us)]:=St.bigOpen (N:=[]) (l:=[pt b_s1 (.cells #[.map none] 71 (0,0)),pt b_undone2 (.cells #[(.slice none 0 0)] 51 (0,0)),pt b_err3 (.cells #[.int .i64 (if false then 36 else e)] 28 (0,0)),pt b_undoing9 (.cells #[.bool false] 4 (0,0))]) (M:=[pt b_c12 (.cells #[.int .u8 cc.kind,.int .i64 cc.a.num,.int .i64 cc.a.yr,.int .u8 cc.a.half,.int .u8 cc.a.sec,.int .i64 cc.a.cyc,.int .i64 cc.b.num,.int .i64 cc.b.yr,.int .u8 cc.b.half,.int .u8 cc.b.sec,.int .i64 cc.b.cyc,.int .i64 cc.n] 26 (0,0)),sl 4 1 vu us.length (bools us)]) hS4
            refine post3 hf rfl (ResOK.cell1 rfl T_agg_71 (hS.ptAt (i:=0) rfl) rfl) (ResOK.cell1 rfl T_agg_51 (hS.ptAt (i:=1) rfl) rfl) (ResOK.cell1 rfl T_agg_28 (hS.ptAt (i:=2) rfl) rfl) ?_
            have hm:histM l=.error (if false then 36 else e):=histM_err hlen (all_getD hok) (k:=k+1) (undo_play hu (by rw [← hcc]; exact hk4) he) (by omega)
            refine ⟨(.map none,.slice none 0 0,0,[],[]),by rw [hm]; rfl,HistR.err hm (hS.sub (List.nil_sublist _)).noB⟩
          clear hf a
          rintro ⟨bm1,kv1,gs1⟩ w14 ⟨hS1,S1,hp1,hI1,ht1⟩ a hf
          replace hf:Fr a _ _ ((44,.map (some bm1))::_):=hf
          replace hS:=(hS.call hS1).eqM (N:=[stA 95 24 bm1 kv1 gs1,pt b_c12 (.cells #[.int .u8 cc.kind,.int .i64 cc.a.num,.int .i64 cc.a.yr,.int .u8 cc.a.half,.int .u8 cc.a.sec,.int .i64 cc.a.cyc,.int .i64 cc.b.num,.int .i64 cc.b.yr,.int .u8 cc.b.half,.int .u8 cc.b.sec,.int .i64 cc.b.cyc,.int .i64 cc.n] 26 (0,0)),sl 4 1 vu us.length (bools us),pt b_undoing9 (.cells #[.bool false] 4 (0,0)),pt b_err3 (.cells #[.int .i64 0] 28 (0,0)),pt b_undone2 (.cells #[vu] 51 (0,0)),pt b_s1 (.cells #[.map none] 71 (0,0))]) rfl
          clear hS1
          refine O.nil ?_
          refine k_seq ?_
          replace hf:Fr a 81 [dfrC 44 [.pointer (some ⟨b_s1,0,none⟩),.pointer (some ⟨b_undone2,0,none⟩),.pointer (some ⟨b_err3,0,none⟩),.pointer (some ⟨b_undoing9,0,none⟩)]] [(0,vl),(2,.pointer (some ⟨b_s1,0,none⟩)),(3,.pointer (some ⟨b_undone2,0,none⟩)),(4,.pointer (some ⟨b_err3,0,none⟩)),(8,.pointer (some ⟨b_undoing9,0,none⟩)),(9,.int .i64 (k:Int)),(10,.pointer (some ⟨b_c12,0,none⟩)),(30,vl),(31,.int .i64 (l.length:Int)),(32,.int .i64 (k:Int))]:=hf.to ⟨rfl,rfl,rfl,rfl,rfl,rfl,rfl,rfl,rfl,rfl,trivial⟩
          refine W.seq ?_
          refine W.regionL (l:=[0,1,2,3,4]) rfl ?_
          refine O.val hf rfl rfl rfl (RunV.field T_field_26_3 rfl rfl) ?_
          clear hf a; intro a hf
          refine O.val hf rfl rfl rfl (RunV.load1 T_agg_3 rfl (hS.ptAt (i:=1) rfl) rfl) ?_
          clear hf a; intro a hf
          refine O.val hf rfl rfl rfl (RunV.move rfl) ?_
          clear hf a; intro a hf
          refine O.val (v:=.bool (decide (cc.n<((k:Int):Int)))) hf rfl rfl rfl (RunV.lss rfl rfl) ?_
          clear hf a; intro a hf
          refine O.callP hf rfl rfl rfl (RunE.call (av:=#[.bool (decide (cc.n<((k:Int):Int))),.int .i64 6]) C_ok_46 rfl rfl rfl) (need_may (decide (cc.n<((k:Int):Int))) 6 _) ?_ ?_
          rotate_left 1
          · rintro e w1 ⟨he,hS1⟩ a hf
            replace hS:=(hS.call hS1).dropN
            refine k_seq_panic ?_
            refine k_blk_panic ?_
            refine k_seq_panic ?_
            refine k_seq_panic ?_
            refine k_blk_panic ?_
            refine k_seq_panic ?_
            replace hS:=hS.front (i:=3) (M':=[pt b_undoing9 (.cells #[.bool false] 4 (0,0)),stA 95 24 bm1 kv1 gs1,pt b_c12 (.cells #[.int .u8 cc.kind,.int .i64 cc.a.num,.int .i64 cc.a.yr,.int .u8 cc.a.half,.int .u8 cc.a.sec,.int .i64 cc.a.cyc,.int .i64 cc.b.num,.int .i64 cc.b.yr,.int .u8 cc.b.half,.int .u8 cc.b.sec,.int .i64 cc.b.cyc,.int .i64 cc.n] 26 (0,0)),sl 4 1 vu us.length (bools us),pt b_err3 (.cells #[.int .i64 0] 28 (0,0)),pt b_undone2 (.cells #[vu] 51 (0,0)),pt b_s1 (.cells #[.map none] 71 (0,0))]) rfl rfl
            replace hS:=hS.front (i:=4) (M':=[pt b_err3 (.cells #[.int .i64 0] 28 (0,0)),pt b_undoing9 (.cells #[.bool false] 4 (0,0)),stA 95 24 bm1 kv1 gs1,pt b_c12 (.cells #[.int .u8 cc.kind,.int .i64 cc.a.num,.int .i64 cc.a.yr,.int .u8 cc.a.half,.int .u8 cc.a.sec,.int .i64 cc.a.cyc,.int .i64 cc.b.num,.int .i64 cc.b.yr,.int .u8 cc.b.half,.int .u8 cc.b.sec,.int .i64 cc.b.cyc,.int .i64 cc.n] 26 (0,0)),sl 4 1 vu us.length (bools us),pt b_undone2 (.cells #[vu] 51 (0,0)),pt b_s1 (.cells #[.map none] 71 (0,0))]) rfl rfl
            replace hS:=hS.front (i:=5) (M':=[pt b_undone2 (.cells #[vu] 51 (0,0)),pt b_err3 (.cells #[.int .i64 0] 28 (0,0)),pt b_undoing9 (.cells #[.bool false] 4 (0,0)),stA 95 24 bm1 kv1 gs1,pt b_c12 (.cells #[.int .u8 cc.kind,.int .i64 cc.a.num,.int .i64 cc.a.yr,.int .u8 cc.a.half,.int .u8 cc.a.sec,.int .i64 cc.a.cyc,.int .i64 cc.b.num,.int .i64 cc.b.yr,.int .u8 cc.b.half,.int .u8 cc.b.sec,.int .i64 cc.b.cyc,.int .i64 cc.n] 26 (0,0)),sl 4 1 vu us.length (bools us),pt b_s1 (.cells #[.map none] 71 (0,0))]) rfl rfl
            replace hS:=hS.front (i:=6) (M':=[pt b_s1 (.cells #[.map none] 71 (0,0)),pt b_undone2 (.cells #[vu] 51 (0,0)),pt b_err3 (.cells #[.int .i64 0] 28 (0,0)),pt b_undoing9 (.cells #[.bool false] 4 (0,0)),stA 95 24 bm1 kv1 gs1,pt b_c12 (.cells #[.int .u8 cc.kind,.int .i64 cc.a.num,.int .i64 cc.a.yr,.int .u8 cc.a.half,.int .u8 cc.a.sec,.int .i64 cc.a.cyc,.int .i64 cc.b.num,.int .i64 cc.b.yr,.int .u8 cc.b.half,.int .u8 cc.b.sec,.int .i64 cc.b.cyc,.int .i64 cc.n] 26 (0,0)),sl 4 1 vu us.length (bools us)]) rfl rfl
            have hS2:St w0 _ noX [ordA,rdv 12 vl l.length (encs eC l)] (histA b_s1 b_undone2 b_err3 b_undoing9 (.map none) vu (.int .i64 0) false::[stA 95 24 bm1 kv1 gs1,pt b_c12 (.cells #[.int .u8 cc.kind,.int .i64 cc.a.num,.int .i64 cc.a.yr,.int .u8 cc.a.half,.int .u8 cc.a.sec,.int .i64 cc.a.cyc,.int .i64 cc.b.num,.int .i64 cc.b.yr,.int .u8 cc.b.half,.int .u8 cc.b.sec,.int .i64 cc.b.cyc,.int .i64 cc.n] 26 (0,0)),sl 4 1 vu us.length (bools us)]):=St.bigClose (N:=[]) (l:=[pt b_s1 (.cells #[.map none] 71 (0,0)),pt b_undone2 (.cells #[vu] 51 (0,0)),pt b_err3 (.cells #[.int .i64 0] 28 (0,0)),pt b_undoing9 (.cells #[.bool false] 4 (0,0))]) (M:=[stA 95 24 bm1 kv1 gs1,pt b_c12 (.cells #[.int .u8 cc.kind,.int .i64 cc.a.num,.int .i64 cc.a.yr,.int .u8 cc.a.half,.int .u8 cc.a.sec,.int .i64 cc.a.cyc,.int .i64 cc.b.num,.int .i64 cc.b.yr,.int .u8 cc.b.half,.int .u8 cc.b.sec,.int .i64 cc.b.cyc,.int .i64 cc.n] 26 (0,0)),sl 4 1 vu us.length (bools us)]) hS
            refine postDP hf C_ok_44 (hist1_pan b_s1 b_undone2 b_err3 b_undoing9 (.map none) vu (.int .i64 0) false e _ (hS2.lentAt (i:=0) rfl)) (fun w2 hS3 a hf=>?_)
            have hS4:St w0 w2 noX [ordA,rdv 12 vl l.length (encs eC l)] (histA b_s1 b_undone2 b_err3 b_undoing9 (.map none) (.slice none 0 0) (.int .i64 (if false then 36 else e)) false::[stA 95 24 bm1 kv1 gs1,pt b_c12 (.cells #[.int .u8 cc.kind,.int .i64 cc.a.num,.int .i64 cc.a.yr,.int .u8 cc.a.half,.int .u8 cc.a.sec,.int .i64 cc.a.cyc,.int .i64 cc.b.num,.int .i64 cc.b.yr,.int .u8 cc.b.half,.int .u8 cc.b.sec,.int .i64 cc.b.cyc,.int .i64 cc.n] 26 (0,0)),sl 4 1 vu us.length (bools us)]):=hS2.callX1 hS3 (i:=0) rfl (fun _ h=>h)
            have hS:St w0 w2 noX [ordA,rdv 12 vl l.length (encs eC l)] [pt b_s1 (.cells #[.map none] 71 (0,0)),pt b_undone2 (.cells #[(.slice none 0 0)] 51 (0,0)),pt b_err3 (.cells #[.int .i64 (if false then 36 else e)] 28 (0,0)),pt b_undoing9 (.cells #[.bool false] 4 (0,0)),stA 95 24 bm1 kv1 gs1,pt b_c12 (.cells #[.int .u8 cc.kind,.int .i64 cc.a.num,.int .i64 cc.a.yr,.int .u8 cc.a.half,.int .u8 cc.a.sec,.int .i64 cc.a.cyc,.int .i64 cc.b.num,.int .i64 cc.b.yr,.int .u8 cc.b.half,.int .u8 cc.b.sec,.int .i64 cc.b.cyc,.int .i64 cc.n] 26 (0,0)),sl 4 1 vu us.length (bools us)]:=St.bigOpen (N:=[]) (l:=[pt b_s1 (.cells #[.map none] 71 (0,0)),pt b_undone2 (.cells #[(.slice none 0 0)] 51 (0,0)),pt b_err3 (.cells #[.int .i64 (if false then 36 else e)] 28 (0,0)),pt b_undoing9 (.cells #[.bool false] 4 (0,0))]) (M:=[stA 95 24 bm1 kv1 gs1,pt b_c12 (.cells #[.int .u8 cc.kind,.int .i64 cc.a.num,.int .i64 cc.a.yr,.int .u8 cc.a.half,.int .u8 cc.a.sec,.int .i64 cc.a.cyc,.int .i64 cc.b.num,.int .i64 cc.b.yr,.int .u8 cc.b.half,.int .u8 cc.b.sec,.int .i64 cc.b.cyc,.int .i64 cc.n] 26 (0,0)),sl 4 1 vu us.length (bools us)]) hS4
            refine post3 hf rfl (ResOK.cell1 rfl T_agg_71 (hS.ptAt (i:=0) rfl) rfl) (ResOK.cell1 rfl T_agg_51 (hS.ptAt (i:=1) rfl) rfl) (ResOK.cell1 rfl T_agg_28 (hS.ptAt (i:=2) rfl) rfl) ?_
            obtain ⟨hb_,rfl⟩:=he
            have hm:histM l=.error (if false then 36 else 6):=histM_err hlen (all_getD hok) (k:=k+1) (undo_n hu (by rw [← hcc]; exact hk4) hp1 (by rw [← hcc]; exact of_decide_eq_false hb_)) (by omega)
            refine ⟨(.map none,.slice none 0 0,0,[],[]),by rw [hm]; rfl,HistR.err hm (hS.sub (List.nil_sublist _)).noB⟩
          clear hf a
          rintro _ w15 ⟨hn0,hS1⟩ a hf
          replace hf:Fr a _ _ ((49,.tuple #[])::_):=hf
          replace hS:=(hS.call hS1).eqM (N:=[stA 95 24 bm1 kv1 gs1,pt b_c12 (.cells #[.int .u8 cc.kind,.int .i64 cc.a.num,.int .i64 cc.a.yr,.int .u8 cc.a.half,.int .u8 cc.a.sec,.int .i64 cc.a.cyc,.int .i64 cc.b.num,.int .i64 cc.b.yr,.int .u8 cc.b.half,.int .u8 cc.b.sec,.int .i64 cc.b.cyc,.int .i64 cc.n] 26 (0,0)),sl 4 1 vu us.length (bools us),pt b_undoing9 (.cells #[.bool false] 4 (0,0)),pt b_err3 (.cells #[.int .i64 0] 28 (0,0)),pt b_undone2 (.cells #[vu] 51 (0,0)),pt b_s1 (.cells #[.map none] 71 (0,0))]) rfl
          clear hS1
          refine O.nil ?_
          refine k_seq ?_
          replace hf:Fr a 81 [dfrC 44 [.pointer (some ⟨b_s1,0,none⟩),.pointer (some ⟨b_undone2,0,none⟩),.pointer (some ⟨b_err3,0,none⟩),.pointer (some ⟨b_undoing9,0,none⟩)]] [(0,vl),(2,.pointer (some ⟨b_s1,0,none⟩)),(3,.pointer (some ⟨b_undone2,0,none⟩)),(4,.pointer (some ⟨b_err3,0,none⟩)),(8,.pointer (some ⟨b_undoing9,0,none⟩)),(9,.int .i64 (k:Int)),(10,.pointer (some ⟨b_c12,0,none⟩)),(30,vl),(31,.int .i64 (l.length:Int)),(32,.int .i64 (k:Int))]:=hf.to ⟨rfl,rfl,rfl,rfl,rfl,rfl,rfl,rfl,rfl,rfl,trivial⟩
          refine W.seq ?_
          refine W.regionL (l:=[0,1,2,3,4,5,6,7,8,9,10,11,12,13,14,15]) rfl ?_
          have hn1:cc.n<(k:Int):=of_decide_eq_true hn0
          have hn2:0≤cc.n:=okC_n (by rw [hcc]; exact hok k (by omega)) hk4
          refine O.val hf rfl rfl rfl (RunV.move rfl) ?_
          clear hf a; intro a hf
          refine O.val hf rfl rfl rfl (RunV.field T_field_26_3 rfl rfl) ?_
          clear hf a; intro a hf
          refine O.val hf rfl rfl rfl (RunV.load1 T_agg_3 rfl (hS.ptAt (i:=1) rfl) rfl) ?_
          clear hf a; intro a hf
          refine O.val hf rfl rfl rfl (RunV.ixV (j:=cc.n.toNat) (m:=cc.n.toNat*12) T_elem_22 T_size_26 rfl rfl (hS.rdAt (j:=1) rfl) (by rw [Int.toNat_of_nonneg (by omega)]) (by omega) rfl) ?_
          clear hf a; intro a hf
          refine O.val hf rfl rfl rfl (RunV.ixF T_field_26_0 rfl (hS.rdAt (j:=1) rfl) (by omega) rfl) ?_
          clear hf a; intro a hf
          refine O.val hf rfl rfl rfl (RunV.ldG1 (j:=cc.n.toNat) (o:=0) (sz:=12) (enc:=eC) (l:=l) T_agg_5 eC_len rfl (hS.rdAt (j:=1) rfl) hfit (by omega) rfl rfl) ?_
          clear hf a; intro a hf
          refine O.val (v:=.bool (decide (((l.getD cc.n.toNat default).kind)≠(4:Int)))) hf rfl rfl rfl (RunV.neq rfl rfl) ?_
          clear hf a; intro a hf
          refine O.val hf rfl rfl rfl (RunV.move rfl) ?_
          clear hf a; intro a hf
          refine O.cutN (l₁:=[8,9,10,11,12,13,14]) (l₂:=_) (fun a w=>Fr a 81 [dfrC 44 [.pointer (some ⟨b_s1,0,none⟩),.pointer (some ⟨b_undone2,0,none⟩),.pointer (some ⟨b_err3,0,none⟩),.pointer (some ⟨b_undoing9,0,none⟩)]] [(0,vl),(2,.pointer (some ⟨b_s1,0,none⟩)),(3,.pointer (some ⟨b_undone2,0,none⟩)),(4,.pointer (some ⟨b_err3,0,none⟩)),(8,.pointer (some ⟨b_undoing9,0,none⟩)),(9,.int .i64 (k:Int)),(10,.pointer (some ⟨b_c12,0,none⟩)),(30,vl),(31,.int .i64 (l.length:Int)),(32,.int .i64 (k:Int)),(50,vl),(51,.pointer (some ⟨b_c12,11,none⟩)),(52,.int .i64 cc.n),(53,ix vl (cc.n.toNat*12)),(54,ix vl (cc.n.toNat*12)),(55,.int .u8 ((l.getD cc.n.toNat default).kind)),(56,.bool (decide (((l.getD cc.n.toNat default).kind)≠(4:Int)))),(57,.bool (decide (((l.getD cc.n.toNat default).kind)≠(4:Int)))),(64,.bool ((decide (((l.getD cc.n.toNat default).kind)≠(4:Int)))&&(!(us.getD cc.n.toNat false))))]∧St w0 w noX [ordA,rdv 12 vl l.length (encs eC l)] [stA 95 24 bm1 kv1 gs1,pt b_c12 (.cells #[.int .u8 cc.kind,.int .i64 cc.a.num,.int .i64 cc.a.yr,.int .u8 cc.a.half,.int .u8 cc.a.sec,.int .i64 cc.a.cyc,.int .i64 cc.b.num,.int .i64 cc.b.yr,.int .u8 cc.b.half,.int .u8 cc.b.sec,.int .i64 cc.b.cyc,.int .i64 cc.n] 26 (0,0)),sl 4 1 vu us.length (bools us),pt b_undoing9 (.cells #[.bool false] 4 (0,0)),pt b_err3 (.cells #[.int .i64 0] 28 (0,0)),pt b_undone2 (.cells #[vu] 51 (0,0)),pt b_s1 (.cells #[.map none] 71 (0,0))]) rfl ?_ ?_
          · rcases Bool.eq_false_or_eq_true (decide (((l.getD cc.n.toNat default).kind)≠(4:Int))) with hb16 | hb16
            · have hb16p:=of_decide_eq_true hb16
              refine O.gvalB (v:=vu) hf rfl rfl rfl hb16 rfl rfl (RunV.load1 T_agg_51 rfl (hS.ptAt (i:=5) rfl) rfl) ?_
              clear hf a; intro a hf
              refine O.gvalB (v:=.pointer (some ⟨b_c12,11,none⟩)) hf rfl rfl rfl hb16 rfl rfl (RunV.field T_field_26_3 rfl rfl) ?_
              clear hf a; intro a hf
              refine O.gvalB (v:=.int .i64 cc.n) hf rfl rfl rfl hb16 rfl rfl (RunV.load1 T_agg_3 rfl (hS.ptAt (i:=1) rfl) rfl) ?_
              clear hf a; intro a hf
              refine O.gvalB (v:=ix vu cc.n.toNat) hf rfl rfl rfl hb16 rfl rfl (RunV.ixV (j:=cc.n.toNat) (m:=cc.n.toNat) T_elem_51 T_size_4 rfl rfl (hS.slr (j:=2) rfl) (by rw [Int.toNat_of_nonneg (by omega)]) (by omega) (Nat.mul_one _)) ?_
              clear hf a; intro a hf
              refine O.gvalB (v:=.bool (us.getD cc.n.toNat false)) hf rfl rfl rfl hb16 rfl rfl (RunV.ld1 T_agg_4 rfl (hS.slr (j:=2) rfl) (bools_get (by omega))) ?_
              clear hf a; intro a hf
              refine O.gvalB (v:=.bool (!(us.getD cc.n.toNat false))) hf rfl rfl rfl hb16 rfl rfl (RunV.not rfl) ?_
              clear hf a; intro a hf
              refine O.val (v:=.bool ((decide (((l.getD cc.n.toNat default).kind)≠(4:Int)))&&(!(us.getD cc.n.toNat false)))) hf rfl rfl rfl (RunV.pick rfl rfl rfl (by rw [hb16]; rfl)) ?_; clear hf a; intro a hf
              exact O.nil ⟨rfl,hf.to ⟨rfl,rfl,rfl,rfl,rfl,rfl,rfl,rfl,rfl,rfl,rfl,rfl,rfl,rfl,rfl,rfl,rfl,rfl,rfl,trivial⟩,hS⟩
            · have hb16p:=of_decide_eq_false hb16
              refine O.skipB hf rfl rfl rfl hb16 rfl ?_; clear hf a; intro a hf
              refine O.skipB hf rfl rfl rfl hb16 rfl ?_; clear hf a; intro a hf
              refine O.skipB hf rfl rfl rfl hb16 rfl ?_; clear hf a; intro a hf
              refine O.skipB hf rfl rfl rfl hb16 rfl ?_; clear hf a; intro a hf
              refine O.skipB hf rfl rfl rfl hb16 rfl ?_; clear hf a; intro a hf
              refine O.skipB hf rfl rfl rfl hb16 rfl ?_; clear hf a; intro a hf
              refine O.val (v:=.bool ((decide (((l.getD cc.n.toNat default).kind)≠(4:Int)))&&(!(us.getD cc.n.toNat false)))) hf rfl rfl rfl (RunV.pick rfl rfl rfl (by rw [hb16]; rfl)) ?_; clear hf a; intro a hf
              exact O.nil ⟨rfl,hf.to ⟨rfl,rfl,rfl,rfl,rfl,rfl,rfl,rfl,rfl,rfl,rfl,rfl,rfl,rfl,rfl,rfl,rfl,rfl,rfl,trivial⟩,hS⟩
          clear hf hS a; rintro a w ⟨hf,hS⟩
          refine O.callP hf rfl rfl rfl (RunE.call (av:=#[.bool ((decide (((l.getD cc.n.toNat default).kind)≠(4:Int)))&&(!(us.getD cc.n.toNat false))),.int .i64 36]) C_ok_46 rfl rfl rfl) (need_may ((decide (((l.getD cc.n.toNat default).kind)≠(4:Int)))&&(!(us.getD cc.n.toNat false))) 36 _) ?_ ?_
          rotate_left 1
          · rintro e w1 ⟨he,hS1⟩ a hf
            replace hS:=(hS.call hS1).dropN
            refine k_seq_panic ?_
            refine k_blk_panic ?_
            refine k_seq_panic ?_
            refine k_seq_panic ?_
            refine k_blk_panic ?_
            refine k_seq_panic ?_
            replace hS:=hS.front (i:=3) (M':=[pt b_undoing9 (.cells #[.bool false] 4 (0,0)),stA 95 24 bm1 kv1 gs1,pt b_c12 (.cells #[.int .u8 cc.kind,.int .i64 cc.a.num,.int .i64 cc.a.yr,.int .u8 cc.a.half,.int .u8 cc.a.sec,.int .i64 cc.a.cyc,.int .i64 cc.b.num,.int .i64 cc.b.yr,.int .u8 cc.b.half,.int .u8 cc.b.sec,.int .i64 cc.b.cyc,.int .i64 cc.n] 26 (0,0)),sl 4 1 vu us.length (bools us),pt b_err3 (.cells #[.int .i64 0] 28 (0,0)),pt b_undone2 (.cells #[vu] 51 (0,0)),pt b_s1 (.cells #[.map none] 71 (0,0))]) rfl rfl
            replace hS:=hS.front (i:=4) (M':=[pt b_err3 (.cells #[.int .i64 0] 28 (0,0)),pt b_undoing9 (.cells #[.bool false] 4 (0,0)),stA 95 24 bm1 kv1 gs1,pt b_c12 (.cells #[.int .u8 cc.kind,.int .i64 cc.a.num,.int .i64 cc.a.yr,.int .u8 cc.a.half,.int .u8 cc.a.sec,.int .i64 cc.a.cyc,.int .i64 cc.b.num,.int .i64 cc.b.yr,.int .u8 cc.b.half,.int .u8 cc.b.sec,.int .i64 cc.b.cyc,.int .i64 cc.n] 26 (0,0)),sl 4 1 vu us.length (bools us),pt b_undone2 (.cells #[vu] 51 (0,0)),pt b_s1 (.cells #[.map none] 71 (0,0))]) rfl rfl
            replace hS:=hS.front (i:=5) (M':=[pt b_undone2 (.cells #[vu] 51 (0,0)),pt b_err3 (.cells #[.int .i64 0] 28 (0,0)),pt b_undoing9 (.cells #[.bool false] 4 (0,0)),stA 95 24 bm1 kv1 gs1,pt b_c12 (.cells #[.int .u8 cc.kind,.int .i64 cc.a.num,.int .i64 cc.a.yr,.int .u8 cc.a.half,.int .u8 cc.a.sec,.int .i64 cc.a.cyc,.int .i64 cc.b.num,.int .i64 cc.b.yr,.int .u8 cc.b.half,.int .u8 cc.b.sec,.int .i64 cc.b.cyc,.int .i64 cc.n] 26 (0,0)),sl 4 1 vu us.length (bools us),pt b_s1 (.cells #[.map none] 71 (0,0))]) rfl rfl
            replace hS:=hS.front (i:=6) (M':=[pt b_s1 (.cells #[.map none] 71 (0,0)),pt b_undone2 (.cells #[vu] 51 (0,0)),pt b_err3 (.cells #[.int .i64 0] 28 (0,0)),pt b_undoing9 (.cells #[.bool false] 4 (0,0)),stA 95 24 bm1 kv1 gs1,pt b_c12 (.cells #[.int .u8 cc.kind,.int .i64 cc.a.num,.int .i64 cc.a.yr,.int .u8 cc.a.half,.int .u8 cc.a.sec,.int .i64 cc.a.cyc,.int .i64 cc.b.num,.int .i64 cc.b.yr,.int .u8 cc.b.half,.int .u8 cc.b.sec,.int .i64 cc.b.cyc,.int .i64 cc.n] 26 (0,0)),sl 4 1 vu us.length (bools us)]) rfl rfl
            have hS2:St w0 _ noX [ordA,rdv 12 vl l.length (encs eC l)] (histA b_s1 b_undone2 b_err3 b_undoing9 (.map none) vu (.int .i64 0) false::[stA 95 24 bm1 kv1 gs1,pt b_c12 (.cells #[.int .u8 cc.kind,.int .i64 cc.a.num,.int .i64 cc.a.yr,.int .u8 cc.a.half,.int .u8 cc.a.sec,.int .i64 cc.a.cyc,.int .i64 cc.b.num,.int .i64 cc.b.yr,.int .u8 cc.b.half,.int .u8 cc.b.sec,.int .i64 cc.b.cyc,.int .i64 cc.n] 26 (0,0)),sl 4 1 vu us.length (bools us)]):=St.bigClose (N:=[]) (l:=[pt b_s1 (.cells #[.map none] 71 (0,0)),pt b_undone2 (.cells #[vu] 51 (0,0)),pt b_err3 (.cells #[.int .i64 0] 28 (0,0)),pt b_undoing9 (.cells #[.bool false] 4 (0,0))]) (M:=[stA 95 24 bm1 kv1 gs1,pt b_c12 (.cells #[.int .u8 cc.kind,.int .i64 cc.a.num,.int .i64 cc.a.yr,.int .u8 cc.a.half,.int .u8 cc.a.sec,.int .i64 cc.a.cyc,.int .i64 cc.b.num,.int .i64 cc.b.yr,.int .u8 cc.b.half,.int .u8 cc.b.sec,.int .i64 cc.b.cyc,.int .i64 cc.n] 26 (0,0)),sl 4 1 vu us.length (bools us)]) hS
            refine postDP hf C_ok_44 (hist1_pan b_s1 b_undone2 b_err3 b_undoing9 (.map none) vu (.int .i64 0) false e _ (hS2.lentAt (i:=0) rfl)) (fun w2 hS3 a hf=>?_)
            have hS4:St w0 w2 noX [ordA,rdv 12 vl l.length (encs eC l)] (histA b_s1 b_undone2 b_err3 b_undoing9 (.map none) (.slice none 0 0) (.int .i64 (if false then 36 else e)) false::[stA 95 24 bm1 kv1 gs1,pt b_c12 (.cells #[.int .u8 cc.kind,.int .i64 cc.a.num,.int .i64 cc.a.yr,.int .u8 cc.a.half,.int .u8 cc.a.sec,.int .i64 cc.a.cyc,.int .i64 cc.b.num,.int .i64 cc.b.yr,.int .u8 cc.b.half,.int .u8 cc.b.sec,.int .i64 cc.b.cyc,.int .i64 cc.n] 26 (0,0)),sl 4 1 vu us.length (bools us)]):=hS2.callX1 hS3 (i:=0) rfl (fun _ h=>h)
            have hS:St w0 w2 noX [ordA,rdv 12 vl l.length (encs eC l)] [pt b_s1 (.cells #[.map none] 71 (0,0)),pt b_undone2 (.cells #[(.slice none 0 0)] 51 (0,0)),pt b_err3 (.cells #[.int .i64 (if false then 36 else e)] 28 (0,0)),pt b_undoing9 (.cells #[.bool false] 4 (0,0)),stA 95 24 bm1 kv1 gs1,pt b_c12 (.cells #[.int .u8 cc.kind,.int .i64 cc.a.num,.int .i64 cc.a.yr,.int .u8 cc.a.half,.int .u8 cc.a.sec,.int .i64 cc.a.cyc,.int .i64 cc.b.num,.int .i64 cc.b.yr,.int .u8 cc.b.half,.int .u8 cc.b.sec,.int .i64 cc.b.cyc,.int .i64 cc.n] 26 (0,0)),sl 4 1 vu us.length (bools us)]:=St.bigOpen (N:=[]) (l:=[pt b_s1 (.cells #[.map none] 71 (0,0)),pt b_undone2 (.cells #[(.slice none 0 0)] 51 (0,0)),pt b_err3 (.cells #[.int .i64 (if false then 36 else e)] 28 (0,0)),pt b_undoing9 (.cells #[.bool false] 4 (0,0))]) (M:=[stA 95 24 bm1 kv1 gs1,pt b_c12 (.cells #[.int .u8 cc.kind,.int .i64 cc.a.num,.int .i64 cc.a.yr,.int .u8 cc.a.half,.int .u8 cc.a.sec,.int .i64 cc.a.cyc,.int .i64 cc.b.num,.int .i64 cc.b.yr,.int .u8 cc.b.half,.int .u8 cc.b.sec,.int .i64 cc.b.cyc,.int .i64 cc.n] 26 (0,0)),sl 4 1 vu us.length (bools us)]) hS4
            refine post3 hf rfl (ResOK.cell1 rfl T_agg_71 (hS.ptAt (i:=0) rfl) rfl) (ResOK.cell1 rfl T_agg_51 (hS.ptAt (i:=1) rfl) rfl) (ResOK.cell1 rfl T_agg_28 (hS.ptAt (i:=2) rfl) rfl) ?_
            obtain ⟨hb_,rfl⟩:=he
            have hm:histM l=.error (if false then 36 else 36):=histM_err hlen (all_getD hok) (k:=k+1) (undo_state hu (by rw [← hcc]; exact hk4) hp1 (by rw [← hcc]; exact hn1) (fun h=>by rw [← hcc] at h; rw [decide_eq_true h.1,h.2] at hb_; cases hb_)) (by omega)
            refine ⟨(.map none,.slice none 0 0,0,[],[]),by rw [hm]; rfl,HistR.err hm (hS.sub (List.nil_sublist _)).noB⟩
          clear hf a
          rintro _ w17 ⟨hs1,hS1⟩ a hf
          replace hf:Fr a _ _ ((65,.tuple #[])::_):=hf
          replace hS:=(hS.call hS1).eqM (N:=[stA 95 24 bm1 kv1 gs1,pt b_c12 (.cells #[.int .u8 cc.kind,.int .i64 cc.a.num,.int .i64 cc.a.yr,.int .u8 cc.a.half,.int .u8 cc.a.sec,.int .i64 cc.a.cyc,.int .i64 cc.b.num,.int .i64 cc.b.yr,.int .u8 cc.b.half,.int .u8 cc.b.sec,.int .i64 cc.b.cyc,.int .i64 cc.n] 26 (0,0)),sl 4 1 vu us.length (bools us),pt b_undoing9 (.cells #[.bool false] 4 (0,0)),pt b_err3 (.cells #[.int .i64 0] 28 (0,0)),pt b_undone2 (.cells #[vu] 51 (0,0)),pt b_s1 (.cells #[.map none] 71 (0,0))]) rfl
          clear hS1
          refine O.nil ?_
          refine k_seq ?_
          replace hf:Fr a 81 [dfrC 44 [.pointer (some ⟨b_s1,0,none⟩),.pointer (some ⟨b_undone2,0,none⟩),.pointer (some ⟨b_err3,0,none⟩),.pointer (some ⟨b_undoing9,0,none⟩)]] [(0,vl),(2,.pointer (some ⟨b_s1,0,none⟩)),(3,.pointer (some ⟨b_undone2,0,none⟩)),(4,.pointer (some ⟨b_err3,0,none⟩)),(8,.pointer (some ⟨b_undoing9,0,none⟩)),(9,.int .i64 (k:Int)),(10,.pointer (some ⟨b_c12,0,none⟩)),(30,vl),(31,.int .i64 (l.length:Int)),(32,.int .i64 (k:Int))]:=hf.to ⟨rfl,rfl,rfl,rfl,rfl,rfl,rfl,rfl,rfl,rfl,trivial⟩
          refine W.seq ?_
          refine W.regionL (l:=[0,1,2,3,4]) rfl ?_
          refine O.val hf rfl rfl rfl (RunV.load1 T_agg_51 rfl (hS.ptAt (i:=5) rfl) rfl) ?_
          clear hf a; intro a hf
          refine O.val hf rfl rfl rfl (RunV.field T_field_26_3 rfl rfl) ?_
          clear hf a; intro a hf
          refine O.val hf rfl rfl rfl (RunV.load1 T_agg_3 rfl (hS.ptAt (i:=1) rfl) rfl) ?_
          clear hf a; intro a hf
          refine O.val hf rfl rfl rfl (RunV.ixV (j:=cc.n.toNat) (m:=cc.n.toNat) T_elem_51 T_size_4 rfl rfl (hS.slr (j:=2) rfl) (by rw [Int.toNat_of_nonneg (by omega)]) (by omega) (Nat.mul_one _)) ?_
          clear hf a; intro a hf
          refine O.storeSl (j:=2) (m:=cc.n.toNat) (xs':=bools (us.set cc.n.toNat true)) (M':=[stA 95 24 bm1 kv1 gs1,pt b_c12 (.cells #[.int .u8 cc.kind,.int .i64 cc.a.num,.int .i64 cc.a.yr,.int .u8 cc.a.half,.int .u8 cc.a.sec,.int .i64 cc.a.cyc,.int .i64 cc.b.num,.int .i64 cc.b.yr,.int .u8 cc.b.half,.int .u8 cc.b.sec,.int .i64 cc.b.cyc,.int .i64 cc.n] 26 (0,0)),sl 4 1 vu us.length (bools (us.set cc.n.toNat true)),pt b_undoing9 (.cells #[.bool false] 4 (0,0)),pt b_err3 (.cells #[.int .i64 0] 28 (0,0)),pt b_undone2 (.cells #[vu] 51 (0,0)),pt b_s1 (.cells #[.map none] 71 (0,0))]) hf hS rfl rfl rfl T_size_4 rfl rfl rfl (by simp only [bools_len]; omega) bools_set rfl rfl ?_
          clear hS; intro w hS
          refine O.nil ?_
          replace hS:=hS.eqM (N:=[stA 95 24 bm1 kv1 gs1,pt b_c12 (.cells #[.int .u8 cc.kind,.int .i64 cc.a.num,.int .i64 cc.a.yr,.int .u8 cc.a.half,.int .u8 cc.a.sec,.int .i64 cc.a.cyc,.int .i64 cc.b.num,.int .i64 cc.b.yr,.int .u8 cc.b.half,.int .u8 cc.b.sec,.int .i64 cc.b.cyc,.int .i64 cc.n] 26 (0,0)),sl 4 1 vu ((us.set cc.n.toNat true).length) (bools (us.set cc.n.toNat true)),pt b_undoing9 (.cells #[.bool false] 4 (0,0)),pt b_err3 (.cells #[.int .i64 0] 28 (0,0)),pt b_undone2 (.cells #[vu] 51 (0,0)),pt b_s1 (.cells #[.map none] 71 (0,0))]) (by rw [List.length_set])
          refine k_seq ?_
          replace hf:Fr a 81 [dfrC 44 [.pointer (some ⟨b_s1,0,none⟩),.pointer (some ⟨b_undone2,0,none⟩),.pointer (some ⟨b_err3,0,none⟩),.pointer (some ⟨b_undoing9,0,none⟩)]] [(0,vl),(2,.pointer (some ⟨b_s1,0,none⟩)),(3,.pointer (some ⟨b_undone2,0,none⟩)),(4,.pointer (some ⟨b_err3,0,none⟩)),(8,.pointer (some ⟨b_undoing9,0,none⟩)),(9,.int .i64 (k:Int)),(10,.pointer (some ⟨b_c12,0,none⟩)),(30,vl),(31,.int .i64 (l.length:Int)),(32,.int .i64 (k:Int))]:=hf.to ⟨rfl,rfl,rfl,rfl,rfl,rfl,rfl,rfl,rfl,rfl,trivial⟩
          refine W.seq ?_
          refine W.regionL (l:=[0]) rfl ?_
          refine O.store (j:=3) (cs':=#[.bool true]) (M':=[stA 95 24 bm1 kv1 gs1,pt b_c12 (.cells #[.int .u8 cc.kind,.int .i64 cc.a.num,.int .i64 cc.a.yr,.int .u8 cc.a.half,.int .u8 cc.a.sec,.int .i64 cc.a.cyc,.int .i64 cc.b.num,.int .i64 cc.b.yr,.int .u8 cc.b.half,.int .u8 cc.b.sec,.int .i64 cc.b.cyc,.int .i64 cc.n] 26 (0,0)),sl 4 1 vu ((us.set cc.n.toNat true).length) (bools (us.set cc.n.toNat true)),pt b_undoing9 (.cells #[.bool true] 4 (0,0)),pt b_err3 (.cells #[.int .i64 0] 28 (0,0)),pt b_undone2 (.cells #[vu] 51 (0,0)),pt b_s1 (.cells #[.map none] 71 (0,0))]) hf hS rfl rfl rfl T_size_4 rfl rfl rfl (Nat.le_of_ble_eq_true rfl) rfl rfl ?_
          clear hS; intro w hS
          refine O.nil ?_
          refine k_seq ?_
          have hs2:(l.getD cc.n.toNat default).kind≠4∧us.getD cc.n.toNat false=false:=by simpa using hs1
          refine W.drawM (l₂:=[4]) (fun w=>St w0 w noX [ordA,rdv 12 vl l.length (encs eC l)] [stA 95 24 bm1 kv1 gs1,pt b_c12 (.cells #[.int .u8 cc.kind,.int .i64 cc.a.num,.int .i64 cc.a.yr,.int .u8 cc.a.half,.int .u8 cc.a.sec,.int .i64 cc.a.cyc,.int .i64 cc.b.num,.int .i64 cc.b.yr,.int .u8 cc.b.half,.int .u8 cc.b.sec,.int .i64 cc.b.cyc,.int .i64 cc.n] 26 (0,0)),sl 4 1 vu ((us.set cc.n.toNat true).length) (bools (us.set cc.n.toNat true)),pt b_undoing9 (.cells #[.bool true] 4 (0,0)),pt b_err3 (.cells #[.int .i64 0] 28 (0,0)),pt b_undone2 (.cells #[vu] 51 (0,0)),pt b_s1 (.cells #[.map none] 71 (0,0))]) 4 P_mixed rfl rfl rfl (by kernel_rfl) hS.drew ?_
          clear hS
          refine OQ.val (v:=vl) hf rfl (fun w hS=>RunV.move rfl) ?_; clear hf a; intro a hf
          refine OQ.val (v:=.int .i64 (k:Int)) hf rfl (fun w hS=>RunV.move rfl) ?_; clear hf a; intro a hf
          refine OQ.val (v:=(vsub 12 vl 0 (k:Int))) hf rfl (fun w hS=>RunV.sliceH T_elem_22 T_size_26 rfl rfl (enc:=eC) (l:=l) ⟨hS.rdAt (j:=1) rfl,hfit⟩ ⟨by omega,by omega,by omega⟩) ?_; clear hf a; intro a hf
          refine OQ.val (v:=vu) hf rfl (fun w hS=>RunV.load1 T_agg_51 rfl (hS.ptAt (i:=5) rfl) rfl) ?_; clear hf a; intro a hf
          refine OQ.nil ?_; intro w hS
          refine O.callP hf rfl rfl rfl (RunE.call (av:=#[(vsub 12 vl 0 (k:Int)),vu]) C_ok_45 rfl rfl rfl) (play_spec (vsub 12 vl 0 (k:Int)) vu (l.take k) (us.set cc.n.toNat true) _ (take_rd (hS.rdAt (j:=1) rfl) hfit h1) (hS.slr (j:=2) rfl) (by first | omega | (simp only [List.length_take]; omega) | (simp only [List.length_take,List.length_set]; omega)) (by first | omega | (simp only [List.length_take]; omega)) (kinds_take hok)) ?_ ?_
          rotate_left 1
          · rintro e w1 ⟨he,hS1⟩ a hf
            replace hS:=(hS.call hS1).dropN
            refine k_blk_panic ?_
            refine k_seq_panic ?_
            refine k_seq_panic ?_
            refine k_blk_panic ?_
            refine k_seq_panic ?_
            replace hS:=hS.front (i:=3) (M':=[pt b_undoing9 (.cells #[.bool true] 4 (0,0)),stA 95 24 bm1 kv1 gs1,pt b_c12 (.cells #[.int .u8 cc.kind,.int .i64 cc.a.num,.int .i64 cc.a.yr,.int .u8 cc.a.half,.int .u8 cc.a.sec,.int .i64 cc.a.cyc,.int .i64 cc.b.num,.int .i64 cc.b.yr,.int .u8 cc.b.half,.int .u8 cc.b.sec,.int .i64 cc.b.cyc,.int .i64 cc.n] 26 (0,0)),sl 4 1 vu ((us.set cc.n.toNat true).length) (bools (us.set cc.n.toNat true)),pt b_err3 (.cells #[.int .i64 0] 28 (0,0)),pt b_undone2 (.cells #[vu] 51 (0,0)),pt b_s1 (.cells #[.map none] 71 (0,0))]) rfl rfl
            replace hS:=hS.front (i:=4) (M':=[pt b_err3 (.cells #[.int .i64 0] 28 (0,0)),pt b_undoing9 (.cells #[.bool true] 4 (0,0)),stA 95 24 bm1 kv1 gs1,pt b_c12 (.cells #[.int .u8 cc.kind,.int .i64 cc.a.num,.int .i64 cc.a.yr,.int .u8 cc.a.half,.int .u8 cc.a.sec,.int .i64 cc.a.cyc,.int .i64 cc.b.num,.int .i64 cc.b.yr,.int .u8 cc.b.half,.int .u8 cc.b.sec,.int .i64 cc.b.cyc,.int .i64 cc.n] 26 (0,0)),sl 4 1 vu ((us.set cc.n.toNat true).length) (bools (us.set cc.n.toNat true)),pt b_undone2 (.cells #[vu] 51 (0,0)),pt b_s1 (.cells #[.map none] 71 (0,0))]) rfl rfl
            replace hS:=hS.front (i:=5) (M':=[pt b_undone2 (.cells #[vu] 51 (0,0)),pt b_err3 (.cells #[.int .i64 0] 28 (0,0)),pt b_undoing9 (.cells #[.bool true] 4 (0,0)),stA 95 24 bm1 kv1 gs1,pt b_c12 (.cells #[.int .u8 cc.kind,.int .i64 cc.a.num,.int .i64 cc.a.yr,.int .u8 cc.a.half,.int .u8 cc.a.sec,.int .i64 cc.a.cyc,.int .i64 cc.b.num,.int .i64 cc.b.yr,.int .u8 cc.b.half,.int .u8 cc.b.sec,.int .i64 cc.b.cyc,.int .i64 cc.n] 26 (0,0)),sl 4 1 vu ((us.set cc.n.toNat true).length) (bools (us.set cc.n.toNat true)),pt b_s1 (.cells #[.map none] 71 (0,0))]) rfl rfl
            replace hS:=hS.front (i:=6) (M':=[pt b_s1 (.cells #[.map none] 71 (0,0)),pt b_undone2 (.cells #[vu] 51 (0,0)),pt b_err3 (.cells #[.int .i64 0] 28 (0,0)),pt b_undoing9 (.cells #[.bool true] 4 (0,0)),stA 95 24 bm1 kv1 gs1,pt b_c12 (.cells #[.int .u8 cc.kind,.int .i64 cc.a.num,.int .i64 cc.a.yr,.int .u8 cc.a.half,.int .u8 cc.a.sec,.int .i64 cc.a.cyc,.int .i64 cc.b.num,.int .i64 cc.b.yr,.int .u8 cc.b.half,.int .u8 cc.b.sec,.int .i64 cc.b.cyc,.int .i64 cc.n] 26 (0,0)),sl 4 1 vu ((us.set cc.n.toNat true).length) (bools (us.set cc.n.toNat true))]) rfl rfl
            have hS2:St w0 _ noX [ordA,rdv 12 vl l.length (encs eC l)] (histA b_s1 b_undone2 b_err3 b_undoing9 (.map none) vu (.int .i64 0) true::[stA 95 24 bm1 kv1 gs1,pt b_c12 (.cells #[.int .u8 cc.kind,.int .i64 cc.a.num,.int .i64 cc.a.yr,.int .u8 cc.a.half,.int .u8 cc.a.sec,.int .i64 cc.a.cyc,.int .i64 cc.b.num,.int .i64 cc.b.yr,.int .u8 cc.b.half,.int .u8 cc.b.sec,.int .i64 cc.b.cyc,.int .i64 cc.n] 26 (0,0)),sl 4 1 vu ((us.set cc.n.toNat true).length) (bools (us.set cc.n.toNat true))]):=St.bigClose (N:=[]) (l:=[pt b_s1 (.cells #[.map none] 71 (0,0)),pt b_undone2 (.cells #[vu] 51 (0,0)),pt b_err3 (.cells #[.int .i64 0] 28 (0,0)),pt b_undoing9 (.cells #[.bool true] 4 (0,0))]) (M:=[stA 95 24 bm1 kv1 gs1,pt b_c12 (.cells #[.int .u8 cc.kind,.int .i64 cc.a.num,.int .i64 cc.a.yr,.int .u8 cc.a.half,.int .u8 cc.a.sec,.int .i64 cc.a.cyc,.int .i64 cc.b.num,.int .i64 cc.b.yr,.int .u8 cc.b.half,.int .u8 cc.b.sec,.int .i64 cc.b.cyc,.int .i64 cc.n] 26 (0,0)),sl 4 1 vu ((us.set cc.n.toNat true).length) (bools (us.set cc.n.toNat true))]) hS
            refine postDP hf C_ok_44 (hist1_pan b_s1 b_undone2 b_err3 b_undoing9 (.map none) vu (.int .i64 0) true e _ (hS2.lentAt (i:=0) rfl)) (fun w2 hS3 a hf=>?_)
            have hS4:St w0 w2 noX [ordA,rdv 12 vl l.length (encs eC l)] (histA b_s1 b_undone2 b_err3 b_undoing9 (.map none) (.slice none 0 0) (.int .i64 (if true then 36 else e)) true::[stA 95 24 bm1 kv1 gs1,pt b_c12 (.cells #[.int .u8 cc.kind,.int .i64 cc.a.num,.int .i64 cc.a.yr,.int .u8 cc.a.half,.int .u8 cc.a.sec,.int .i64 cc.a.cyc,.int .i64 cc.b.num,.int .i64 cc.b.yr,.int .u8 cc.b.half,.int .u8 cc.b.sec,.int .i64 cc.b.cyc,.int .i64 cc.n] 26 (0,0)),sl 4 1 vu ((us.set cc.n.toNat true).length) (bools (us.set cc.n.toNat true))]):=hS2.callX1 hS3 (i:=0) rfl (fun _ h=>h)
            have hS:St w0 w2 noX [ordA,rdv 12 vl l.length (encs eC l)] [pt b_s1 (.cells #[.map none] 71 (0,0)),pt b_undone2 (.cells #[(.slice none 0 0)] 51 (0,0)),pt b_err3 (.cells #[.int .i64 (if true then 36 else e)] 28 (0,0)),pt b_undoing9 (.cells #[.bool true] 4 (0,0)),stA 95 24 bm1 kv1 gs1,pt b_c12 (.cells #[.int .u8 cc.kind,.int .i64 cc.a.num,.int .i64 cc.a.yr,.int .u8 cc.a.half,.int .u8 cc.a.sec,.int .i64 cc.a.cyc,.int .i64 cc.b.num,.int .i64 cc.b.yr,.int .u8 cc.b.half,.int .u8 cc.b.sec,.int .i64 cc.b.cyc,.int .i64 cc.n] 26 (0,0)),sl 4 1 vu ((us.set cc.n.toNat true).length) (bools (us.set cc.n.toNat true))]:=St.bigOpen (N:=[]) (l:=[pt b_s1 (.cells #[.map none] 71 (0,0)),pt b_undone2 (.cells #[(.slice none 0 0)] 51 (0,0)),pt b_err3 (.cells #[.int .i64 (if true then 36 else e)] 28 (0,0)),pt b_undoing9 (.cells #[.bool true] 4 (0,0))]) (M:=[stA 95 24 bm1 kv1 gs1,pt b_c12 (.cells #[.int .u8 cc.kind,.int .i64 cc.a.num,.int .i64 cc.a.yr,.int .u8 cc.a.half,.int .u8 cc.a.sec,.int .i64 cc.a.cyc,.int .i64 cc.b.num,.int .i64 cc.b.yr,.int .u8 cc.b.half,.int .u8 cc.b.sec,.int .i64 cc.b.cyc,.int .i64 cc.n] 26 (0,0)),sl 4 1 vu ((us.set cc.n.toNat true).length) (bools (us.set cc.n.toNat true))]) hS4
            refine post3 hf rfl (ResOK.cell1 rfl T_agg_71 (hS.ptAt (i:=0) rfl) rfl) (ResOK.cell1 rfl T_agg_51 (hS.ptAt (i:=1) rfl) rfl) (ResOK.cell1 rfl T_agg_28 (hS.ptAt (i:=2) rfl) rfl) ?_
            have hm:histM l=.error (if true then 36 else e):=histM_err hlen (all_getD hok) (k:=k+1) (undo_again hu (by rw [← hcc]; exact hk4) hp1 (by rw [← hcc]; exact hn1) (by rw [← hcc]; exact hs2) (by rw [← hcc]; exact he)) (by omega)
            refine ⟨(.map none,.slice none 0 0,0,[],[]),by rw [hm]; rfl,HistR.err hm (hS.sub (List.nil_sublist _)).noB⟩
          clear hf a
          rintro ⟨bm3,kv3,gs3⟩ w18 ⟨hS1,S3,hp3,hI3,ht3⟩ a hf
          replace hf:Fr a _ _ ((74,.map (some bm3))::_):=hf
          replace hS:=(hS.call hS1).eqM (N:=[stA 95 24 bm3 kv3 gs3,stA 95 24 bm1 kv1 gs1,pt b_c12 (.cells #[.int .u8 cc.kind,.int .i64 cc.a.num,.int .i64 cc.a.yr,.int .u8 cc.a.half,.int .u8 cc.a.sec,.int .i64 cc.a.cyc,.int .i64 cc.b.num,.int .i64 cc.b.yr,.int .u8 cc.b.half,.int .u8 cc.b.sec,.int .i64 cc.b.cyc,.int .i64 cc.n] 26 (0,0)),sl 4 1 vu ((us.set cc.n.toNat true).length) (bools (us.set cc.n.toNat true)),pt b_undoing9 (.cells #[.bool true] 4 (0,0)),pt b_err3 (.cells #[.int .i64 0] 28 (0,0)),pt b_undone2 (.cells #[vu] 51 (0,0)),pt b_s1 (.cells #[.map none] 71 (0,0))]) rfl
          clear hS1
          refine O.nil ?_
          refine k_blk_normal ?_
          refine k_seq ?_
          replace hf:Fr a 81 [dfrC 44 [.pointer (some ⟨b_s1,0,none⟩),.pointer (some ⟨b_undone2,0,none⟩),.pointer (some ⟨b_err3,0,none⟩),.pointer (some ⟨b_undoing9,0,none⟩)]] [(0,vl),(2,.pointer (some ⟨b_s1,0,none⟩)),(3,.pointer (some ⟨b_undone2,0,none⟩)),(4,.pointer (some ⟨b_err3,0,none⟩)),(8,.pointer (some ⟨b_undoing9,0,none⟩)),(9,.int .i64 (k:Int)),(10,.pointer (some ⟨b_c12,0,none⟩)),(30,vl),(31,.int .i64 (l.length:Int)),(32,.int .i64 (k:Int))]:=hf.to ⟨rfl,rfl,rfl,rfl,rfl,rfl,rfl,rfl,rfl,rfl,trivial⟩
          refine W.regionL (l:=[0,1]) rfl ?_
          refine O.val hf rfl rfl rfl (RunV.addI rfl rfl (by omega)) ?_
          clear hf a; intro a hf
          refine O.val hf rfl rfl rfl (RunV.move rfl) ?_
          clear hf a; intro a hf
          refine O.nil ?_
          replace hS:=hS.sub (N:=[sl 4 1 vu ((us.set cc.n.toNat true).length) (bools (us.set cc.n.toNat true)),pt b_undoing9 (.cells #[.bool true] 4 (0,0)),pt b_err3 (.cells #[.int .i64 0] 28 (0,0)),pt b_undone2 (.cells #[vu] 51 (0,0)),pt b_s1 (.cells #[.map none] 71 (0,0))]) (.cons _ (.cons _ (.cons _ (.cons_cons _ (.cons_cons _ (.cons_cons _ (.cons_cons _ (.cons_cons _ .slnil))))))))
          refine k_then ⟨(k+1,(us.set cc.n.toNat true),true),⟨hf.to ⟨rfl,rfl,rfl,rfl,rfl,rfl,rfl,(by first | rfl | exact congrArg some (congrArg (Value.int _) (by omega))),trivial⟩,?_,?_,?_,?_⟩,?_⟩
          · exact hS.eqM rfl
          · omega
          · rw [hcc] at hp3 ⊢; exact undo_ok hu (by rw [← hcc]; exact hk4) hp1 (by rw [← hcc]; exact hn1) (by rw [← hcc]; exact hs2) hp3
          · rw [List.length_set]; exact hul
          · dsimp only; omega
      · refine W.exit ?_
        refine k_then_exit ?_
        refine k_then_exit ?_
        refine k_blk ?_
        refine k_seq ?_
        replace hf:Fr a 81 [dfrC 44 [.pointer (some ⟨b_s1,0,none⟩),.pointer (some ⟨b_undone2,0,none⟩),.pointer (some ⟨b_err3,0,none⟩),.pointer (some ⟨b_undoing9,0,none⟩)]] [(0,vl),(2,.pointer (some ⟨b_s1,0,none⟩)),(3,.pointer (some ⟨b_undone2,0,none⟩)),(4,.pointer (some ⟨b_err3,0,none⟩)),(8,.pointer (some ⟨b_undoing9,0,none⟩))]:=hf.to ⟨rfl,rfl,rfl,rfl,rfl,trivial⟩
        refine W.seq ?_
        refine W.regionL (l:=[0]) rfl ?_
        refine O.store (j:=1) (cs':=#[.bool false]) (M':=[sl 4 1 vu us.length (bools us),pt b_undoing9 (.cells #[.bool false] 4 (0,0)),pt b_err3 (.cells #[.int .i64 0] 28 (0,0)),pt b_undone2 (.cells #[vu] 51 (0,0)),pt b_s1 (.cells #[.map none] 71 (0,0))]) hf hS rfl rfl rfl T_size_4 rfl rfl rfl (Nat.le_of_ble_eq_true rfl) rfl rfl ?_
        clear hS; intro w hS
        refine O.nil ?_
        refine k_seq ?_
        replace hf:Fr a 81 [dfrC 44 [.pointer (some ⟨b_s1,0,none⟩),.pointer (some ⟨b_undone2,0,none⟩),.pointer (some ⟨b_err3,0,none⟩),.pointer (some ⟨b_undoing9,0,none⟩)]] [(0,vl),(2,.pointer (some ⟨b_s1,0,none⟩)),(3,.pointer (some ⟨b_undone2,0,none⟩)),(4,.pointer (some ⟨b_err3,0,none⟩))]:=hf.to ⟨rfl,rfl,rfl,rfl,trivial⟩
        refine W.seq ?_
        refine W.regionL (l:=[0,1,2,3]) rfl ?_
        have hkl:k=l.length:=by omega
        rw [hkl] at hu
        refine O.val hf rfl rfl rfl (RunV.move rfl) ?_
        clear hf a; intro a hf
        refine O.val hf rfl rfl rfl (RunV.load1 T_agg_51 rfl (hS.ptAt (i:=3) rfl) rfl) ?_
        clear hf a; intro a hf
        refine O.callP hf rfl rfl rfl (RunE.call (av:=#[vl,vu]) C_ok_45 rfl rfl rfl) (play_spec vl vu l us _ (hS.rdAt (j:=1) rfl) (hS.slr (j:=0) rfl) (by first | omega | (simp only [List.length_take]; omega) | (simp only [List.length_take,List.length_set]; omega)) (by first | omega | (simp only [List.length_take]; omega)) (kinds_all hok)) ?_ ?_
        rotate_left 1
        · rintro e w1 ⟨he,hS1⟩ a hf
          replace hS:=(hS.call hS1).dropN
          refine k_seq_panic ?_
          replace hS:=hS.front (i:=1) (M':=[pt b_undoing9 (.cells #[.bool false] 4 (0,0)),sl 4 1 vu us.length (bools us),pt b_err3 (.cells #[.int .i64 0] 28 (0,0)),pt b_undone2 (.cells #[vu] 51 (0,0)),pt b_s1 (.cells #[.map none] 71 (0,0))]) rfl rfl
          replace hS:=hS.front (i:=2) (M':=[pt b_err3 (.cells #[.int .i64 0] 28 (0,0)),pt b_undoing9 (.cells #[.bool false] 4 (0,0)),sl 4 1 vu us.length (bools us),pt b_undone2 (.cells #[vu] 51 (0,0)),pt b_s1 (.cells #[.map none] 71 (0,0))]) rfl rfl
          replace hS:=hS.front (i:=3) (M':=[pt b_undone2 (.cells #[vu] 51 (0,0)),pt b_err3 (.cells #[.int .i64 0] 28 (0,0)),pt b_undoing9 (.cells #[.bool false] 4 (0,0)),sl 4 1 vu us.length (bools us),pt b_s1 (.cells #[.map none] 71 (0,0))]) rfl rfl
          replace hS:=hS.front (i:=4) (M':=[pt b_s1 (.cells #[.map none] 71 (0,0)),pt b_undone2 (.cells #[vu] 51 (0,0)),pt b_err3 (.cells #[.int .i64 0] 28 (0,0)),pt b_undoing9 (.cells #[.bool false] 4 (0,0)),sl 4 1 vu us.length (bools us)]) rfl rfl
          have hS2:St w0 _ noX [ordA,rdv 12 vl l.length (encs eC l)] (histA b_s1 b_undone2 b_err3 b_undoing9 (.map none) vu (.int .i64 0) false::[sl 4 1 vu us.length (bools us)]):=St.bigClose (N:=[]) (l:=[pt b_s1 (.cells #[.map none] 71 (0,0)),pt b_undone2 (.cells #[vu] 51 (0,0)),pt b_err3 (.cells #[.int .i64 0] 28 (0,0)),pt b_undoing9 (.cells #[.bool false] 4 (0,0))]) (M:=[sl 4 1 vu us.length (bools us)]) hS
          refine postDP hf C_ok_44 (hist1_pan b_s1 b_undone2 b_err3 b_undoing9 (.map none) vu (.int .i64 0) false e _ (hS2.lentAt (i:=0) rfl)) (fun w2 hS3 a hf=>?_)
          have hS4:St w0 w2 noX [ordA,rdv 12 vl l.length (encs eC l)] (histA b_s1 b_undone2 b_err3 b_undoing9 (.map none) (.slice none 0 0) (.int .i64 (if false then 36 else e)) false::[sl 4 1 vu us.length (bools us)]):=hS2.callX1 hS3 (i:=0) rfl (fun _ h=>h)
          have hS:St w0 w2 noX [ordA,rdv 12 vl l.length (encs eC l)] [pt b_s1 (.cells #[.map none] 71 (0,0)),pt b_undone2 (.cells #[(.slice none 0 0)] 51 (0,0)),pt b_err3 (.cells #[.int .i64 (if false then 36 else e)] 28 (0,0)),pt b_undoing9 (.cells #[.bool false] 4 (0,0)),sl 4 1 vu us.length (bools us)]:=St.bigOpen (N:=[]) (l:=[pt b_s1 (.cells #[.map none] 71 (0,0)),pt b_undone2 (.cells #[(.slice none 0 0)] 51 (0,0)),pt b_err3 (.cells #[.int .i64 (if false then 36 else e)] 28 (0,0)),pt b_undoing9 (.cells #[.bool false] 4 (0,0))]) (M:=[sl 4 1 vu us.length (bools us)]) hS4
          refine post3 hf rfl (ResOK.cell1 rfl T_agg_71 (hS.ptAt (i:=0) rfl) rfl) (ResOK.cell1 rfl T_agg_51 (hS.ptAt (i:=1) rfl) rfl) (ResOK.cell1 rfl T_agg_28 (hS.ptAt (i:=2) rfl) rfl) ?_
          have hm:histM l=.error (if false then 36 else e):=hist_play hlen (all_getD hok) hu he
          refine ⟨(.map none,.slice none 0 0,0,[],[]),by rw [hm]; rfl,HistR.err hm (hS.sub (List.nil_sublist _)).noB⟩
        clear hf a
        rintro ⟨bm5,kv5,gs5⟩ w19 ⟨hS1,S5,hp5,hI5,ht5⟩ a hf
        replace hf:Fr a _ _ ((78,.map (some bm5))::_):=hf
        replace hS:=(hS.call hS1).eqM (N:=[stA 95 24 bm5 kv5 gs5,sl 4 1 vu us.length (bools us),pt b_undoing9 (.cells #[.bool false] 4 (0,0)),pt b_err3 (.cells #[.int .i64 0] 28 (0,0)),pt b_undone2 (.cells #[vu] 51 (0,0)),pt b_s1 (.cells #[.map none] 71 (0,0))]) rfl
        clear hS1
        refine O.store (j:=5) (cs':=#[.map (some bm5)]) (M':=[stA 95 24 bm5 kv5 gs5,sl 4 1 vu us.length (bools us),pt b_undoing9 (.cells #[.bool false] 4 (0,0)),pt b_err3 (.cells #[.int .i64 0] 28 (0,0)),pt b_undone2 (.cells #[vu] 51 (0,0)),pt b_s1 (.cells #[.map (some bm5)] 71 (0,0))]) hf hS rfl rfl rfl T_size_71 rfl rfl rfl (Nat.le_of_ble_eq_true rfl) rfl rfl ?_
        clear hS; intro w hS
        refine O.nil ?_
        refine k_seq ?_
        replace hf:Fr a 81 [dfrC 44 [.pointer (some ⟨b_s1,0,none⟩),.pointer (some ⟨b_undone2,0,none⟩),.pointer (some ⟨b_err3,0,none⟩),.pointer (some ⟨b_undoing9,0,none⟩)]] [(2,.pointer (some ⟨b_s1,0,none⟩)),(3,.pointer (some ⟨b_undone2,0,none⟩)),(4,.pointer (some ⟨b_err3,0,none⟩))]:=hf.to ⟨rfl,rfl,rfl,trivial⟩
        refine W.seq ?_
        replace hf:Fr a 81 [dfrC 44 [.pointer (some ⟨b_s1,0,none⟩),.pointer (some ⟨b_undone2,0,none⟩),.pointer (some ⟨b_err3,0,none⟩),.pointer (some ⟨b_undoing9,0,none⟩)]] [(2,.pointer (some ⟨b_s1,0,none⟩)),(3,.pointer (some ⟨b_undone2,0,none⟩)),(4,.pointer (some ⟨b_err3,0,none⟩))]:=hf.to ⟨rfl,rfl,rfl,trivial⟩
        let LZ796:List (Nat × Value):=[(2,.pointer (some ⟨b_s1,0,none⟩)),(3,.pointer (some ⟨b_undone2,0,none⟩)),(4,.pointer (some ⟨b_err3,0,none⟩))]
        let MZ796:List Asr:=[stA 95 24 bm5 kv5 gs5,sl 4 1 vu us.length (bools us),pt b_undoing9 (.cells #[.bool false] 4 (0,0)),pt b_err3 (.cells #[.int .i64 0] 28 (0,0)),pt b_undone2 (.cells #[vu] 51 (0,0)),pt b_s1 (.cells #[.map (some bm5)] 71 (0,0))]
        refine W.drawC (γ:=Unit) (L0:=LZ796) (L1:=[]) () [2,3,4] [] [0,1] (fun i_=>match i_ with | 0=>[] | 1=>[] | 2=>[0] | 3=>[0,1,2] | 4=>[0,1,2,3] | _=>[]) (fun i_=>match i_ with | 0=>[] | 1=>[] | 2=>[] | 3=>[2] | 4=>[2,3] | _=>[]) (fun i_=>match i_ with | 0=>[2,3,4] | 1=>[3,4] | 2=>[3,4] | 3=>[4] | 4=>[] | _=>[]) (fun _=>[]) (fun i_=>match i_ with | 0=>[] | 1=>[] | 2=>[3,4] | 3=>[4] | 4=>[] | _=>[]) (fun _=>[]) (fun i_=>match i_ with | 0=>0 | 1=>0 | 2=>0 | 3=>1 | 4=>2 | _=>0) (fun i_=>match i_ with | 0=>0 | 1=>1 | 2=>1 | 3=>2 | 4=>3 | _=>0) (fun (g:Unit) j_=>match g,j_ with | _,0=>.map (some bm5) | _,1=>vu | _,_=>undef) (fun k_ (_:Nat→Bool) (g:Unit) w=>match k_,g with | 0,_=>St w0 w noX [ordA,rdv 12 vl l.length (encs eC l)] MZ796 | 1,_=>St w0 w noX [ordA,rdv 12 vl l.length (encs eC l)] MZ796 | 2,_=>St w0 w noX [ordA,rdv 12 vl l.length (encs eC l)] MZ796 | _,_=>St w0 w noX [ordA,rdv 12 vl l.length (encs eC l)] MZ796) P_mixed (by kernel_rfl) (by kernel_rfl) (by kernel_rfl) hf (hf.to trivial) hS.drew ?_ ?_ trivial ?_
        · clear hf hS
          refine ⟨?_,?_,trivial⟩
          · intro k_ s_ g w hlo hhi _ hD a hf
            obtain rfl:k_=0:=Nat.le_antisymm hhi hlo
            have hS:St w0 w noX [ordA,rdv 12 vl l.length (encs eC l)] MZ796:=hD; clear hD
            replace hf:Fr a 81 [dfrC 44 [.pointer (some ⟨b_s1,0,none⟩),.pointer (some ⟨b_undone2,0,none⟩),.pointer (some ⟨b_err3,0,none⟩),.pointer (some ⟨b_undoing9,0,none⟩)]] LZ796:=hf
            refine O.val hf rfl rfl rfl (RunV.load1 T_agg_71 rfl (hS.ptAt (i:=5) rfl) rfl) ?_
            clear hf a; intro a hf
            exact O.nil ⟨rfl,hf.to trivial,(gt (d:=79) hf rfl rfl),hS⟩
          · intro k_ s_ g w hlo hhi _ hD a hf
            rcases k_ with _ | _ | _ | k_
            · have hS:St w0 w noX [ordA,rdv 12 vl l.length (encs eC l)] MZ796:=hD; clear hD
              replace hf:Fr a 81 [dfrC 44 [.pointer (some ⟨b_s1,0,none⟩),.pointer (some ⟨b_undone2,0,none⟩),.pointer (some ⟨b_err3,0,none⟩),.pointer (some ⟨b_undoing9,0,none⟩)]] LZ796:=hf
              refine O.val hf rfl rfl rfl (RunV.load1 T_agg_51 rfl (hS.ptAt (i:=4) rfl) rfl) ?_
              clear hf a; intro a hf
              exact O.nil ⟨rfl,hf.to trivial,(gt (d:=80) hf rfl rfl),hS⟩
            · have hS:St w0 w noX [ordA,rdv 12 vl l.length (encs eC l)] MZ796:=hD; clear hD
              replace hf:Fr a 81 [dfrC 44 [.pointer (some ⟨b_s1,0,none⟩),.pointer (some ⟨b_undone2,0,none⟩),.pointer (some ⟨b_err3,0,none⟩),.pointer (some ⟨b_undoing9,0,none⟩)]] LZ796:=hf
              refine O.val hf rfl rfl rfl (RunV.load1 T_agg_51 rfl (hS.ptAt (i:=4) rfl) rfl) ?_
              clear hf a; intro a hf
              exact O.nil ⟨rfl,hf.to trivial,(gt (d:=80) hf rfl rfl),hS⟩
            · exact absurd hhi (by decide)
            · have hhi:k_+3≤1:=hhi; omega
        · clear hf hS
          refine ⟨?_,?_,?_,trivial⟩
          · intro s_ g w _ hD a hf
            have hS:St w0 w noX [ordA,rdv 12 vl l.length (encs eC l)] MZ796:=hD; clear hD
            replace hf:Fr a 81 [dfrC 44 [.pointer (some ⟨b_s1,0,none⟩),.pointer (some ⟨b_undone2,0,none⟩),.pointer (some ⟨b_err3,0,none⟩),.pointer (some ⟨b_undoing9,0,none⟩)]] ((79,.map (some bm5))::LZ796):=hf
            refine O.store (j:=5) (cs':=#[.map (some bm5)]) (M':=MZ796) hf hS rfl rfl rfl T_size_71 rfl rfl rfl (Nat.le_of_ble_eq_true rfl) rfl rfl ?_
            clear hS; intro w hS
            exact O.nil ⟨rfl,(),hf.to trivial,(fun d hd=>by cases (show none=some d from hd)),(fun j_ hj_ ha_=>match j_,hj_,ha_ with | 0,hj_,ha_=>rfl | 1,hj_,ha_=>rfl | 2,hj_,ha_=>absurd rfl hj_ | 3,hj_,ha_=>absurd ha_ (by decide) | 4,hj_,ha_=>absurd ha_ (by decide) | _+5,_,_=>rfl),hS⟩
          · intro s_ g w _ hD a hf
            have hS:St w0 w noX [ordA,rdv 12 vl l.length (encs eC l)] MZ796:=hD; clear hD
            replace hf:Fr a 81 [dfrC 44 [.pointer (some ⟨b_s1,0,none⟩),.pointer (some ⟨b_undone2,0,none⟩),.pointer (some ⟨b_err3,0,none⟩),.pointer (some ⟨b_undoing9,0,none⟩)]] ((79,.map (some bm5))::(80,vu)::LZ796):=hf
            have hcl21:=rdOK.cells (hS.slr (j:=1) rfl)
            refine O.store (m:=1) (j:=4) (cs':=#[vu]) (M':=MZ796) hf hS rfl rfl rfl T_size_51 (by rw [hcl21.1]; rfl) (by rw [hcl21.1]; exact hcl21.2) rfl (Nat.le_of_ble_eq_true rfl) (by rw [hcl21.1]; rfl) rfl ?_
            clear hS; intro w hS
            exact O.nil ⟨rfl,(),hf.to trivial,(fun d hd=>by cases (show none=some d from hd)),(fun j_ hj_ ha_=>match j_,hj_,ha_ with | 0,hj_,ha_=>rfl | 1,hj_,ha_=>rfl | 2,hj_,ha_=>rfl | 3,hj_,ha_=>absurd rfl hj_ | 4,hj_,ha_=>absurd ha_ (by decide) | _+5,_,_=>rfl),hS⟩
          · intro s_ g w _ hD a hf
            have hS:St w0 w noX [ordA,rdv 12 vl l.length (encs eC l)] MZ796:=hD; clear hD
            replace hf:Fr a 81 [dfrC 44 [.pointer (some ⟨b_s1,0,none⟩),.pointer (some ⟨b_undone2,0,none⟩),.pointer (some ⟨b_err3,0,none⟩),.pointer (some ⟨b_undoing9,0,none⟩)]] ((79,.map (some bm5))::(80,vu)::LZ796):=hf
            refine O.store (j:=3) (cs':=#[.int .i64 0]) (M':=MZ796) hf hS rfl rfl rfl T_size_28 rfl rfl rfl (Nat.le_of_ble_eq_true rfl) rfl rfl ?_
            clear hS; intro w hS
            exact O.nil ⟨rfl,(),hf.to trivial,(fun d hd=>by cases (show none=some d from hd)),(fun j_ hj_ ha_=>match j_,hj_,ha_ with | 0,hj_,ha_=>rfl | 1,hj_,ha_=>rfl | 2,hj_,ha_=>rfl | 3,hj_,ha_=>rfl | 4,hj_,ha_=>absurd rfl hj_ | _+5,_,_=>rfl),hS⟩
        clear hf hS; intro s_ g a w _ hf hD
        have hS:St w0 w noX [ordA,rdv 12 vl l.length (encs eC l)] MZ796:=hD; clear hD
        replace hf:Fr a 81 [dfrC 44 [.pointer (some ⟨b_s1,0,none⟩),.pointer (some ⟨b_undone2,0,none⟩),.pointer (some ⟨b_err3,0,none⟩),.pointer (some ⟨b_undoing9,0,none⟩)]] ((79,.map (some bm5))::(80,vu)::LZ796):=hf
        refine k_seq ?_
        replace hf:Fr a 81 [dfrC 44 [.pointer (some ⟨b_s1,0,none⟩),.pointer (some ⟨b_undone2,0,none⟩),.pointer (some ⟨b_err3,0,none⟩),.pointer (some ⟨b_undoing9,0,none⟩)]] LZ796:=hf.to ⟨rfl,rfl,rfl,trivial⟩
        refine W.ret ?_
        refine postDC hf C_ok_44 (hist1_nil b_s1 b_undone2 b_err3 b_undoing9 _) (fun a hf=>?_)
        refine post3 hf rfl (ResOK.cell1 rfl T_agg_71 (hS.ptAt (i:=5) rfl) rfl) (ResOK.cell1 rfl T_agg_51 (hS.ptAt (i:=4) rfl) rfl) (ResOK.cell1 rfl T_agg_28 (hS.ptAt (i:=3) rfl) rfl) ?_
        have hm:=hist_ok hlen (all_getD hok) hu hp5
        replace hS:=hS.front (i:=1) (M':=[sl 4 1 vu us.length (bools us),stA 95 24 bm5 kv5 gs5,pt b_undoing9 (.cells #[.bool false] 4 (0,0)),pt b_err3 (.cells #[.int .i64 0] 28 (0,0)),pt b_undone2 (.cells #[vu] 51 (0,0)),pt b_s1 (.cells #[.map (some bm5)] 71 (0,0))]) rfl rfl
        replace hS:=hS.front (i:=1) (M':=MZ796) rfl rfl
        refine ⟨(.map (some bm5),vu,bm5,kv5,gs5),by rw [hm]; rfl,?_⟩
        unfold HistR; rw [hm]
        exact ⟨rfl,(hS.sub (List.Sublist.cons_cons _ (List.Sublist.cons_cons _ (List.nil_sublist _)))).noB,hI5⟩
end Go.Proofs.YtgakdmmmljdpjaaDoor
