/- Part of a proof: laws and walks. -/
import Derived.Test.YtgakdmmmljdpjaaDoorTac
set_option linter.unusedVariables false
set_option linter.unusedSimpArgs false
namespace Go.Proofs.YtgakdmmmljdpjaaDoor
open Go Go.SL
theorem C_ok_46:callOK Tryd.prog 46=true:=by kernel_rfl
theorem P_mixed:Tryd.prog.follows .mixedOrders=true:=by kernel_rfl
theorem T_agg_24:tAgg Tryd.prog 24=some true:=by kernel_rfl
theorem T_agg_35:tAgg Tryd.prog 35=some false:=by kernel_rfl
theorem T_agg_4:tAgg Tryd.prog 4=some false:=by kernel_rfl
theorem T_bytes_24:tBytes Tryd.prog 24=some 32:=by kernel_rfl
theorem T_elem_35:tElem Tryd.prog 35=some 24:=by kernel_rfl
theorem T_field_26_1:tField Tryd.prog 26 1=some 1:=by kernel_rfl
theorem T_field_26_2:tField Tryd.prog 26 2=some 6:=by kernel_rfl
theorem T_field_95_0:tField Tryd.prog 95 0=some 0:=by kernel_rfl
theorem T_field_95_1:tField Tryd.prog 95 1=some 1:=by kernel_rfl
theorem T_mapof_71:tMapOf Tryd.prog 71=some (24,.pointer none):=by kernel_rfl
theorem T_places_88:tPlaces Tryd.prog 88=some #[(0,1)]:=by kernel_rfl
theorem T_places_95:tPlaces Tryd.prog 95=some #[(0,1),(1,1)]:=by kernel_rfl
theorem T_size_24:tSize Tryd.prog 24=some 5:=by kernel_rfl
theorem T_size_35:tSize Tryd.prog 35=some 1:=by kernel_rfl
theorem T_size_4:tSize Tryd.prog 4=some 1:=by kernel_rfl
theorem T_zero_24:tZero Tryd.prog 24=some (.agg #[.int .i64 0,.int .i64 0,.int .u8 0,.int .u8 0,.int .i64 0]):=by kernel_rfl
theorem T_zero_88:tZero Tryd.prog 88=some (.agg #[.int .i64 0]):=by kernel_rfl
theorem T_zero_95:tZero Tryd.prog 95=some (.agg #[.slice none 0 0,.bool false]):=by kernel_rfl
set_option maxHeartbeats 400000 in
set_option maxRecDepth 4000 in
theorem need_ok (e:Int) (w0:World) :
    Ret Tryd.prog 46 #[.bool true,.int .i64 e] w0 (G:=Unit) (fun _=>.tuple #[]) (fun _ w=>St w0 w noX [] []):=by
  refine ret_of_W (lv:=[.bool true,.int .i64 e]) Tryd.func46 rfl rfl rfl (fun a hf=>?_)
  replace hf:Fr a 9 [] [(0,.bool true),(1,.int .i64 e)]:=hf
  have hS:St w0 w0 noX [] []:=St.refl w0
  refine W.seq ?_
  refine W.regionL (l:=[0,1]) rfl ?_
  refine O.val hf rfl rfl rfl (RunV.move rfl) ?_
  clear hf a; intro a hf
  refine O.val (v:=.bool false) hf rfl rfl rfl (RunV.not (b:=true) rfl) ?_
  clear hf a; intro a hf
  refine O.nil ?_
  refine k_seq ?_
  replace hf:Fr a 9 [] [(1,.int .i64 e),(5,.bool false)]:=hf.to ⟨rfl,rfl,trivial⟩
  refine W.if_ff hf rfl ?_
  refine W.skip ?_
  refine post_normal ?_
  refine post0 hf rfl  ?_
  exact ⟨(),rfl,hS.sub (List.nil_sublist _) |>.noB⟩
set_option maxHeartbeats 400000 in
set_option maxRecDepth 4000 in
theorem need_bad (e:Int) (w0:World) :
    RetP Tryd.prog 88 46 #[.bool false,.int .i64 e] w0 (G:=Unit) (fun _=>.tuple #[]) (fun _ _=>False) (fun c w=>c=e∧St w0 w noX [] []):=by
  refine retP_of_W (lv:=[.bool false,.int .i64 e]) Tryd.func46 rfl rfl rfl (fun a hf=>?_)
  replace hf:Fr a 9 [] [(0,.bool false),(1,.int .i64 e)]:=hf
  have hS:St w0 w0 noX [] []:=St.refl w0
  refine W.seq ?_
  refine W.regionL (l:=[0,1]) rfl ?_
  refine O.val hf rfl rfl rfl (RunV.move rfl) ?_
  clear hf a; intro a hf
  refine O.val (v:=.bool true) hf rfl rfl rfl (RunV.not (b:=false) rfl) ?_
  clear hf a; intro a hf
  refine O.nil ?_
  refine k_seq ?_
  replace hf:Fr a 9 [] [(1,.int .i64 e),(5,.bool true)]:=hf.to ⟨rfl,rfl,trivial⟩
  refine W.if_tt hf rfl ?_
  refine W.regionL (l:=[0,1,2,3]) rfl ?_
  refine O.val hf rfl rfl rfl (RunV.move rfl) ?_
  clear hf a; intro a hf
  refine O.val hf rfl rfl rfl (RunV.buildS (cs':=#[.int .i64 e]) T_places_88 T_zero_88 rfl rfl) ?_
  clear hf a; intro a hf
  refine O.val hf rfl rfl rfl (RunV.mkIface Tryd.underlying88 rfl) ?_
  clear hf a; intro a hf
  refine O.panic hf rfl rfl ?_
  refine post_panic hf ?_
  exact .inr ⟨e,rfl,rfl,hS.sub (List.nil_sublist _) |>.noB⟩
set_option maxHeartbeats 400000 in
set_option maxRecDepth 4000 in
theorem add_err (bm:Nat) (kvs:List (Dg × Value)) (gs:List Grp) (c:Ch) (w0:World) (h0:Lent w0 (stA 95 24 bm kvs gs)) (hL:Look kvs gs) (v:Nat) (hl:getP c.a kvs=some (ptrV v)) :
    RetP Tryd.prog 88 56 #[.map (some bm),.agg #[.int .u8 c.kind,.int .i64 c.a.num,.int .i64 c.a.yr,.int .u8 c.a.half,.int .u8 c.a.sec,.int .i64 c.a.cyc,.int .i64 c.b.num,.int .i64 c.b.yr,.int .u8 c.b.half,.int .u8 c.b.sec,.int .i64 c.b.cyc,.int .i64 c.n]] w0 (G:=Unit) (fun _=>.tuple #[]) (fun _ _=>False) (fun e w=>e=14∧St w0 w (fun k=>(stA 95 24 bm kvs gs).fp k) [] []):=by
  refine retP_of_W (lv:=[.map (some bm),.agg #[.int .u8 c.kind,.int .i64 c.a.num,.int .i64 c.a.yr,.int .u8 c.a.half,.int .u8 c.a.sec,.int .i64 c.a.cyc,.int .i64 c.b.num,.int .i64 c.b.yr,.int .u8 c.b.half,.int .u8 c.b.sec,.int .i64 c.b.cyc,.int .i64 c.n]]) Tryd.func56 rfl rfl rfl (fun a hf=>?_)
  replace hf:Fr a 18 [] [(0,.map (some bm)),(1,.agg #[.int .u8 c.kind,.int .i64 c.a.num,.int .i64 c.a.yr,.int .u8 c.a.half,.int .u8 c.a.sec,.int .i64 c.a.cyc,.int .i64 c.b.num,.int .i64 c.b.yr,.int .u8 c.b.half,.int .u8 c.b.sec,.int .i64 c.b.cyc,.int .i64 c.n])]:=hf
  have hS:St w0 w0 (fun k=>(stA 95 24 bm kvs gs).fp k) [] [mp dV bm kvs,bigA (gs.map (grA 95 24))]:=St.stOpen (St.ownG h0 (by simp) (by simp))
  refine W.seq ?_
  refine W.regionL (l:=[0]) rfl ?_
  refine O.box (cs:=#[.int .u8 c.kind,.int .i64 c.a.num,.int .i64 c.a.yr,.int .u8 c.a.half,.int .u8 c.a.sec,.int .i64 c.a.cyc,.int .i64 c.b.num,.int .i64 c.b.yr,.int .u8 c.b.half,.int .u8 c.b.sec,.int .i64 c.b.cyc,.int .i64 c.n]) hf hS rfl rfl rfl rfl ?_
  clear hf hS a; intro b_c1 w a hbb_c1 hS hf
  refine O.nil ?_
  refine k_seq ?_
  replace hf:Fr a 18 [] [(0,.map (some bm)),(3,.pointer (some ⟨b_c1,0,none⟩))]:=hf.to ⟨rfl,rfl,trivial⟩
  refine W.seq ?_
  refine W.regionL (l:=[0,1,2,3,4,5]) rfl ?_
  refine O.val hf rfl rfl rfl (RunV.move rfl) ?_
  clear hf a; intro a hf
  refine O.val hf rfl rfl rfl (RunV.field T_field_26_1 rfl rfl) ?_
  clear hf a; intro a hf
  refine O.val hf rfl rfl rfl (RunV.loadN (cs':=#[.int .i64 c.a.num,.int .i64 c.a.yr,.int .u8 c.a.half,.int .u8 c.a.sec,.int .i64 c.a.cyc]) T_agg_24 T_size_24 rfl (hS.ptAt (i:=0) rfl) (Nat.le_of_ble_eq_true rfl) rfl) ?_
  clear hf a; intro a hf
  refine O.val hf rfl rfl rfl (RunV.lookP (k:=c.a) (kvs:=kvs) T_mapof_71 keyD trivial (fun _ _=>trivial) rfl rfl (hS.mpAt (j:=1) rfl) (by rw [hl] <;> rfl)) ?_
  clear hf a; intro a hf
  refine O.val hf rfl rfl rfl (RunV.toB (c:=false) (RunV.eqNil Tryd.underlying79 rfl rfl) rfl) ?_
  clear hf a; intro a hf
  refine O.callP hf rfl rfl rfl (RunE.call (av:=#[.bool false,.int .i64 14]) C_ok_46 rfl rfl rfl) (need_bad 14 _) ?_ ?_
  · rintro _ _ h _ _; exact h.elim
  · rintro c w1 ⟨rfl,hS1⟩ a hf
    replace hS:=(hS.call hS1).dropN
    refine k_seq_panic ?_
    refine post_panic hf ?_
    exact .inr ⟨_,rfl,rfl,hS.sub (List.nil_sublist _) |>.noB⟩
set_option maxHeartbeats 400000 in
set_option maxRecDepth 4000 in
theorem add_ok (bm:Nat) (kvs:List (Dg × Value)) (gs:List Grp) (c:Ch) (w0:World) (h0:Lent w0 (stA 95 24 bm kvs gs)) (hL:Look kvs gs) (hl:getP c.a kvs=none) (hd:∀ g ∈ gs,c.a ∉ g.all) :
    Ret Tryd.prog 56 #[.map (some bm),.agg #[.int .u8 c.kind,.int .i64 c.a.num,.int .i64 c.a.yr,.int .u8 c.a.half,.int .u8 c.a.sec,.int .i64 c.a.cyc,.int .i64 c.b.num,.int .i64 c.b.yr,.int .u8 c.b.half,.int .u8 c.b.sec,.int .i64 c.b.cyc,.int .i64 c.n]] w0 (G:=List (Dg × Value) × List Grp) (fun _=>.tuple #[]) (fun g w=>St w0 w (fun k=>(stA 95 24 bm kvs gs).fp k) [] [stA 95 24 bm g.1 g.2]∧Look g.1 g.2∧g.2.map absG=([c.a],false)::gs.map absG):=by
  refine ret_of_W (lv:=[.map (some bm),.agg #[.int .u8 c.kind,.int .i64 c.a.num,.int .i64 c.a.yr,.int .u8 c.a.half,.int .u8 c.a.sec,.int .i64 c.a.cyc,.int .i64 c.b.num,.int .i64 c.b.yr,.int .u8 c.b.half,.int .u8 c.b.sec,.int .i64 c.b.cyc,.int .i64 c.n]]) Tryd.func56 rfl rfl rfl (fun a hf=>?_)
  replace hf:Fr a 18 [] [(0,.map (some bm)),(1,.agg #[.int .u8 c.kind,.int .i64 c.a.num,.int .i64 c.a.yr,.int .u8 c.a.half,.int .u8 c.a.sec,.int .i64 c.a.cyc,.int .i64 c.b.num,.int .i64 c.b.yr,.int .u8 c.b.half,.int .u8 c.b.sec,.int .i64 c.b.cyc,.int .i64 c.n])]:=hf
  have hS:St w0 w0 (fun k=>(stA 95 24 bm kvs gs).fp k) [] [mp dV bm kvs,bigA (gs.map (grA 95 24))]:=St.stOpen (St.ownG h0 (by simp) (by simp))
  refine W.seq ?_
  refine W.regionL (l:=[0]) rfl ?_
  refine O.box (cs:=#[.int .u8 c.kind,.int .i64 c.a.num,.int .i64 c.a.yr,.int .u8 c.a.half,.int .u8 c.a.sec,.int .i64 c.a.cyc,.int .i64 c.b.num,.int .i64 c.b.yr,.int .u8 c.b.half,.int .u8 c.b.sec,.int .i64 c.b.cyc,.int .i64 c.n]) hf hS rfl rfl rfl rfl ?_
  clear hf hS a; intro b_c1 w a hbb_c1 hS hf
  refine O.nil ?_
  refine k_seq ?_
  replace hf:Fr a 18 [] [(0,.map (some bm)),(3,.pointer (some ⟨b_c1,0,none⟩))]:=hf.to ⟨rfl,rfl,trivial⟩
  refine W.seq ?_
  refine W.regionL (l:=[0,1,2,3,4,5]) rfl ?_
  refine O.val hf rfl rfl rfl (RunV.move rfl) ?_
  clear hf a; intro a hf
  refine O.val hf rfl rfl rfl (RunV.field T_field_26_1 rfl rfl) ?_
  clear hf a; intro a hf
  refine O.val hf rfl rfl rfl (RunV.loadN (cs':=#[.int .i64 c.a.num,.int .i64 c.a.yr,.int .u8 c.a.half,.int .u8 c.a.sec,.int .i64 c.a.cyc]) T_agg_24 T_size_24 rfl (hS.ptAt (i:=0) rfl) (Nat.le_of_ble_eq_true rfl) rfl) ?_
  clear hf a; intro a hf
  refine O.val hf rfl rfl rfl (RunV.lookP (k:=c.a) (kvs:=kvs) T_mapof_71 keyD trivial (fun _ _=>trivial) rfl rfl (hS.mpAt (j:=1) rfl) (by rw [hl] <;> rfl)) ?_
  clear hf a; intro a hf
  refine O.val hf rfl rfl rfl (RunV.toB (c:=true) (RunV.eqNil Tryd.underlying79 rfl rfl) rfl) ?_
  clear hf a; intro a hf
  refine O.callR hf rfl rfl rfl (RunE.call (av:=#[.bool true,.int .i64 14]) C_ok_46 rfl rfl rfl) (need_ok 14 _) ?_
  clear hf a
  rintro _ w2 hS1 a hf
  replace hf:Fr a _ _ ((9,.tuple #[])::_):=hf
  replace hS:=(hS.call hS1).eqM (N:=[pt b_c1 (.cells #[.int .u8 c.kind,.int .i64 c.a.num,.int .i64 c.a.yr,.int .u8 c.a.half,.int .u8 c.a.sec,.int .i64 c.a.cyc,.int .i64 c.b.num,.int .i64 c.b.yr,.int .u8 c.b.half,.int .u8 c.b.sec,.int .i64 c.b.cyc,.int .i64 c.n] 26 (0,0)),mp dV bm kvs,bigA (gs.map (grA 95 24))]) rfl
  clear hS1
  refine O.nil ?_
  refine k_seq ?_
  replace hf:Fr a 18 [] [(0,.map (some bm)),(3,.pointer (some ⟨b_c1,0,none⟩))]:=hf.to ⟨rfl,rfl,trivial⟩
  refine W.regionL (l:=[0,1,2,3,4,5,6,7,8]) rfl ?_
  refine O.val hf rfl rfl rfl (RunV.move rfl) ?_
  clear hf a; intro a hf
  refine O.val hf rfl rfl rfl (RunV.field T_field_26_1 rfl rfl) ?_
  clear hf a; intro a hf
  refine O.val hf rfl rfl rfl (RunV.loadN (cs':=#[.int .i64 c.a.num,.int .i64 c.a.yr,.int .u8 c.a.half,.int .u8 c.a.sec,.int .i64 c.a.cyc]) T_agg_24 T_size_24 rfl (hS.ptAt (i:=0) rfl) (Nat.le_of_ble_eq_true rfl) rfl) ?_
  clear hf a; intro a hf
  refine O.val hf rfl rfl rfl (RunV.field T_field_26_1 rfl rfl) ?_
  clear hf a; intro a hf
  refine O.val hf rfl rfl rfl (RunV.loadN (cs':=#[.int .i64 c.a.num,.int .i64 c.a.yr,.int .u8 c.a.half,.int .u8 c.a.sec,.int .i64 c.a.cyc]) T_agg_24 T_size_24 rfl (hS.ptAt (i:=0) rfl) (Nat.le_of_ble_eq_true rfl) rfl) ?_
  clear hf a; intro a hf
  refine O.buildSlice (cs':=#[.int .i64 c.a.num,.int .i64 c.a.yr,.int .u8 c.a.half,.int .u8 c.a.sec,.int .i64 c.a.cyc]) (zs:=#[.int .i64 0,.int .i64 0,.int .u8 0,.int .u8 0,.int .i64 0]) hf hS rfl rfl T_elem_35 T_size_24 T_zero_24 rfl rfl rfl rfl rfl ?_
  clear hf hS a; intro b_s3 w a hbb_s3 hS hf
  refine O.val hf rfl rfl rfl (RunV.buildS (cs':=#[.slice (some ⟨b_s3,0,none⟩) 1 1,.bool false]) T_places_95 T_zero_95 rfl rfl) ?_
  clear hf a; intro a hf
  refine O.box (cs:=#[.slice (some ⟨b_s3,0,none⟩) 1 1,.bool false]) hf hS rfl rfl rfl rfl ?_
  clear hf hS a; intro b_x4 w a hbb_x4 hS hf
  refine O.putP (j:=3) (k:=c.a) (v:=ptrV b_x4) (kvs:=kvs) (M':=[pt b_x4 (.cells #[.slice (some ⟨b_s3,0,none⟩) 1 1,.bool false] 95 (0,0)),pt b_s3 (.cells #[.int .i64 c.a.num,.int .i64 c.a.yr,.int .u8 c.a.half,.int .u8 c.a.sec,.int .i64 c.a.cyc] 24 (0,0)),pt b_c1 (.cells #[.int .u8 c.kind,.int .i64 c.a.num,.int .i64 c.a.yr,.int .u8 c.a.half,.int .u8 c.a.sec,.int .i64 c.a.cyc,.int .i64 c.b.num,.int .i64 c.b.yr,.int .u8 c.b.half,.int .u8 c.b.sec,.int .i64 c.b.cyc,.int .i64 c.n] 26 (0,0)),mp dV bm (setP c.a (ptrV b_x4) kvs),bigA (gs.map (grA 95 24))]) hf hS rfl T_mapof_71 keyD trivial (fun _ _=>trivial) rfl rfl rfl rfl rfl ?_
  clear hS; intro w hS
  refine O.nil ?_
  replace hS:=hS.ptSl (j:=1) (n:=1) (sz:=5) (xs:=encs eD [c.a]) (M':=[pt b_x4 (.cells #[.slice (some ⟨b_s3,0,none⟩) 1 1,.bool false] 95 (0,0)),sl 24 5 (.slice (some ⟨b_s3,0,none⟩) 1 1) ([c.a].length) (encs eD [c.a]),pt b_c1 (.cells #[.int .u8 c.kind,.int .i64 c.a.num,.int .i64 c.a.yr,.int .u8 c.a.half,.int .u8 c.a.sec,.int .i64 c.a.cyc,.int .i64 c.b.num,.int .i64 c.b.yr,.int .u8 c.b.half,.int .u8 c.b.sec,.int .i64 c.b.cyc,.int .i64 c.n] 26 (0,0)),mp dV bm (setP c.a (ptrV b_x4) kvs),bigA (gs.map (grA 95 24))]) rfl (by unfold maxLen; omega) rfl rfl rfl
  refine post_normal ?_
  refine post0 hf rfl  ?_
  have hfr:=hS.freshB (i:=0) (j:=4) rfl rfl (by decide)
  replace hS:=hS.front (i:=4) (M':=[bigA (gs.map (grA 95 24)),pt b_x4 (.cells #[.slice (some ⟨b_s3,0,none⟩) 1 1,.bool false] 95 (0,0)),sl 24 5 (.slice (some ⟨b_s3,0,none⟩) 1 1) ([c.a].length) (encs eD [c.a]),pt b_c1 (.cells #[.int .u8 c.kind,.int .i64 c.a.num,.int .i64 c.a.yr,.int .u8 c.a.half,.int .u8 c.a.sec,.int .i64 c.a.cyc,.int .i64 c.b.num,.int .i64 c.b.yr,.int .u8 c.b.half,.int .u8 c.b.sec,.int .i64 c.b.cyc,.int .i64 c.n] 26 (0,0)),mp dV bm (setP c.a (ptrV b_x4) kvs)]) rfl rfl
  replace hS:=hS.front (i:=2) (M':=[sl 24 5 (.slice (some ⟨b_s3,0,none⟩) 1 1) ([c.a].length) (encs eD [c.a]),bigA (gs.map (grA 95 24)),pt b_x4 (.cells #[.slice (some ⟨b_s3,0,none⟩) 1 1,.bool false] 95 (0,0)),pt b_c1 (.cells #[.int .u8 c.kind,.int .i64 c.a.num,.int .i64 c.a.yr,.int .u8 c.a.half,.int .u8 c.a.sec,.int .i64 c.a.cyc,.int .i64 c.b.num,.int .i64 c.b.yr,.int .u8 c.b.half,.int .u8 c.b.sec,.int .i64 c.b.cyc,.int .i64 c.n] 26 (0,0)),mp dV bm (setP c.a (ptrV b_x4) kvs)]) rfl rfl
  replace hS:=hS.front (i:=2) (M':=[pt b_x4 (.cells #[.slice (some ⟨b_s3,0,none⟩) 1 1,.bool false] 95 (0,0)),sl 24 5 (.slice (some ⟨b_s3,0,none⟩) 1 1) ([c.a].length) (encs eD [c.a]),bigA (gs.map (grA 95 24)),pt b_c1 (.cells #[.int .u8 c.kind,.int .i64 c.a.num,.int .i64 c.a.yr,.int .u8 c.a.half,.int .u8 c.a.sec,.int .i64 c.a.cyc,.int .i64 c.b.num,.int .i64 c.b.yr,.int .u8 c.b.half,.int .u8 c.b.sec,.int .i64 c.b.cyc,.int .i64 c.n] 26 (0,0)),mp dV bm (setP c.a (ptrV b_x4) kvs)]) rfl rfl
  replace hS:=hS.front (i:=4) (M':=[mp dV bm (setP c.a (ptrV b_x4) kvs),pt b_x4 (.cells #[.slice (some ⟨b_s3,0,none⟩) 1 1,.bool false] 95 (0,0)),sl 24 5 (.slice (some ⟨b_s3,0,none⟩) 1 1) ([c.a].length) (encs eD [c.a]),bigA (gs.map (grA 95 24)),pt b_c1 (.cells #[.int .u8 c.kind,.int .i64 c.a.num,.int .i64 c.a.yr,.int .u8 c.a.half,.int .u8 c.a.sec,.int .i64 c.a.cyc,.int .i64 c.b.num,.int .i64 c.b.yr,.int .u8 c.b.half,.int .u8 c.b.sec,.int .i64 c.b.cyc,.int .i64 c.n] 26 (0,0))]) rfl rfl
  have hS2:=St.grPut (g:=⟨b_x4,(.slice (some ⟨b_s3,0,none⟩) 1 1),[c.a],false⟩) hS
  exact ⟨(setP c.a (ptrV b_x4) kvs,⟨b_x4,(.slice (some ⟨b_s3,0,none⟩) 1 1),[c.a],false⟩::gs),rfl,(hS2.stClose.sub (List.Sublist.cons_cons _ (List.nil_sublist _))).noB,hL.add (g:=⟨b_x4,(.slice (some ⟨b_s3,0,none⟩) 1 1),[c.a],false⟩) hd hfr rfl,rfl⟩
set_option maxHeartbeats 400000 in
set_option maxRecDepth 4000 in
theorem join_num (bm:Nat) (kvs:List (Dg × Value)) (gs:List Grp) (c:Ch) (w0:World) (h0:Lent w0 (stA 95 24 bm kvs gs)) (hL:Look kvs gs) (ga gb:Grp) (rest:List Grp) (hp:gs.Perm (ga::gb::rest)) (ha:c.a ∈ ga.all) (hb:c.b ∈ gb.all) (hn:(ga.num&&gb.num)=true) :
    RetP Tryd.prog 88 57 #[.map (some bm),.agg #[.int .u8 c.kind,.int .i64 c.a.num,.int .i64 c.a.yr,.int .u8 c.a.half,.int .u8 c.a.sec,.int .i64 c.a.cyc,.int .i64 c.b.num,.int .i64 c.b.yr,.int .u8 c.b.half,.int .u8 c.b.sec,.int .i64 c.b.cyc,.int .i64 c.n]] w0 (G:=Unit) (fun _=>.tuple #[]) (fun _ _=>False) (fun e w=>e=36∧St w0 w (fun k=>(stA 95 24 bm kvs gs).fp k) [] []):=by
  refine retP_of_W (lv:=[.map (some bm),.agg #[.int .u8 c.kind,.int .i64 c.a.num,.int .i64 c.a.yr,.int .u8 c.a.half,.int .u8 c.a.sec,.int .i64 c.a.cyc,.int .i64 c.b.num,.int .i64 c.b.yr,.int .u8 c.b.half,.int .u8 c.b.sec,.int .i64 c.b.cyc,.int .i64 c.n]]) Tryd.func57 rfl rfl rfl (fun a hf=>?_)
  replace hf:Fr a 89 [] [(0,.map (some bm)),(1,.agg #[.int .u8 c.kind,.int .i64 c.a.num,.int .i64 c.a.yr,.int .u8 c.a.half,.int .u8 c.a.sec,.int .i64 c.a.cyc,.int .i64 c.b.num,.int .i64 c.b.yr,.int .u8 c.b.half,.int .u8 c.b.sec,.int .i64 c.b.cyc,.int .i64 c.n])]:=hf
  have hS:St w0 w0 (fun k=>(stA 95 24 bm kvs gs).fp k) [] [mp dV bm kvs,pt ga.blk (.cells #[ga.v,.bool ga.num] 95 (0,0)),sl 24 5 ga.v ga.all.length (encs eD ga.all),pt gb.blk (.cells #[gb.v,.bool gb.num] 95 (0,0)),sl 24 5 gb.v gb.all.length (encs eD gb.all),bigA (rest.map (grA 95 24))]:=St.grTake2 (St.stOpen (St.ownG h0 (by simp) (by simp))) hp
  have hA:ga ∈ gs:=hp.mem_iff.2 (by simp)
  have hB:gb ∈ gs:=hp.mem_iff.2 (by simp)
  have hl1:=hL.hit ga hA c.a ha
  have hl2:=hL.hit gb hB c.b hb
  have hL2:=hL.perm hp
  have hbl:=hL2.blks
  simp only [List.map_cons,List.nodup_cons,List.mem_cons,not_or] at hbl
  have hne:ga.blk≠gb.blk:=hbl.1.1
  refine W.seq ?_
  refine W.regionL (l:=[0]) rfl ?_
  refine O.box (cs:=#[.int .u8 c.kind,.int .i64 c.a.num,.int .i64 c.a.yr,.int .u8 c.a.half,.int .u8 c.a.sec,.int .i64 c.a.cyc,.int .i64 c.b.num,.int .i64 c.b.yr,.int .u8 c.b.half,.int .u8 c.b.sec,.int .i64 c.b.cyc,.int .i64 c.n]) hf hS rfl rfl rfl rfl ?_
  clear hf hS a; intro b_c1 w a hbb_c1 hS hf
  refine O.nil ?_
  refine k_seq ?_
  replace hf:Fr a 89 [] [(0,.map (some bm)),(3,.pointer (some ⟨b_c1,0,none⟩))]:=hf.to ⟨rfl,rfl,trivial⟩
  refine W.seq ?_
  refine W.drawQ (fun w=>St w0 w (fun k=>(stA 95 24 bm kvs gs).fp k) [] [pt b_c1 (.cells #[.int .u8 c.kind,.int .i64 c.a.num,.int .i64 c.a.yr,.int .u8 c.a.half,.int .u8 c.a.sec,.int .i64 c.a.cyc,.int .i64 c.b.num,.int .i64 c.b.yr,.int .u8 c.b.half,.int .u8 c.b.sec,.int .i64 c.b.cyc,.int .i64 c.n] 26 (0,0)),mp dV bm kvs,pt ga.blk (.cells #[ga.v,.bool ga.num] 95 (0,0)),sl 24 5 ga.v ga.all.length (encs eD ga.all),pt gb.blk (.cells #[gb.v,.bool gb.num] 95 (0,0)),sl 24 5 gb.v gb.all.length (encs eD gb.all),bigA (rest.map (grA 95 24))]) P_mixed rfl (by kernel_rfl) rfl hS.drew ?_
  clear hS
  refine OQ.val (v:=.map (some bm)) hf rfl (fun w hS=>RunV.move rfl) ?_; clear hf a; intro a hf
  refine OQ.val (v:=.pointer (some ⟨b_c1,1,none⟩)) hf rfl (fun w hS=>RunV.field T_field_26_1 rfl rfl) ?_; clear hf a; intro a hf
  refine OQ.val (v:=.agg #[.int .i64 c.a.num,.int .i64 c.a.yr,.int .u8 c.a.half,.int .u8 c.a.sec,.int .i64 c.a.cyc]) hf rfl (fun w hS=>RunV.loadN (cs':=#[.int .i64 c.a.num,.int .i64 c.a.yr,.int .u8 c.a.half,.int .u8 c.a.sec,.int .i64 c.a.cyc]) T_agg_24 T_size_24 rfl (hS.ptAt (i:=0) rfl) (Nat.le_of_ble_eq_true rfl) rfl) ?_; clear hf a; intro a hf
  refine OQ.val (v:=.pointer (some ⟨ga.blk,0,none⟩)) hf rfl (fun w hS=>RunV.lookP (k:=c.a) (kvs:=kvs) T_mapof_71 keyD trivial (fun _ _=>trivial) rfl rfl (hS.mpAt (j:=1) rfl) (by rw [hl1] <;> rfl)) ?_; clear hf a; intro a hf
  refine OQ.val (v:=.map (some bm)) hf rfl (fun w hS=>RunV.move rfl) ?_; clear hf a; intro a hf
  refine OQ.val (v:=.pointer (some ⟨b_c1,6,none⟩)) hf rfl (fun w hS=>RunV.field T_field_26_2 rfl rfl) ?_; clear hf a; intro a hf
  refine OQ.val (v:=.agg #[.int .i64 c.b.num,.int .i64 c.b.yr,.int .u8 c.b.half,.int .u8 c.b.sec,.int .i64 c.b.cyc]) hf rfl (fun w hS=>RunV.loadN (cs':=#[.int .i64 c.b.num,.int .i64 c.b.yr,.int .u8 c.b.half,.int .u8 c.b.sec,.int .i64 c.b.cyc]) T_agg_24 T_size_24 rfl (hS.ptAt (i:=0) rfl) (Nat.le_of_ble_eq_true rfl) rfl) ?_; clear hf a; intro a hf
  refine OQ.val (v:=.pointer (some ⟨gb.blk,0,none⟩)) hf rfl (fun w hS=>RunV.lookP (k:=c.b) (kvs:=kvs) T_mapof_71 keyD trivial (fun _ _=>trivial) rfl rfl (hS.mpAt (j:=1) rfl) (by rw [hl2] <;> rfl)) ?_; clear hf a; intro a hf
  refine OQ.val (v:=.pointer (some ⟨ga.blk,0,none⟩)) hf rfl (fun w hS=>RunV.assign rfl) ?_; clear hf a; intro a hf
  refine OQ.val (v:=.pointer (some ⟨gb.blk,0,none⟩)) hf rfl (fun w hS=>RunV.assign rfl) ?_; clear hf a; intro a hf
  refine OQ.nil ?_; intro w hS
  refine k_seq ?_
  replace hf:Fr a 89 [] [(0,.map (some bm)),(4,.pointer (some ⟨ga.blk,0,none⟩)),(5,.pointer (some ⟨gb.blk,0,none⟩))]:=hf.to ⟨rfl,rfl,rfl,trivial⟩
  refine W.seq ?_
  refine W.regionL (l:=[0,1,2,3,4,5,6]) rfl ?_
  refine O.val hf rfl rfl rfl (RunV.move rfl) ?_
  clear hf a; intro a hf
  refine O.val hf rfl rfl rfl (RunV.toB (c:=true) (RunV.neNil Tryd.underlying79 rfl rfl) rfl) ?_
  clear hf a; intro a hf
  refine O.val hf rfl rfl rfl (RunV.move rfl) ?_
  clear hf a; intro a hf
  refine O.gvalB (v:=.pointer (some ⟨gb.blk,0,none⟩)) hf rfl rfl rfl rfl rfl rfl (RunV.move rfl) ?_
  clear hf a; intro a hf
  refine O.gvalB (v:=.bool true) hf rfl rfl rfl rfl rfl rfl (RunV.toB (c:=true) (RunV.neNil Tryd.underlying79 rfl rfl) rfl) ?_
  clear hf a; intro a hf
  refine O.val (v:=.bool true) hf rfl rfl rfl (RunV.pick rfl rfl rfl rfl) ?_
  clear hf a; intro a hf
  refine O.callR hf rfl rfl rfl (RunE.call (av:=#[.bool true,.int .i64 6]) C_ok_46 rfl rfl rfl) (need_ok 6 _) ?_
  clear hf a
  rintro _ w2 hS1 a hf
  replace hf:Fr a _ _ ((22,.tuple #[])::_):=hf
  replace hS:=(hS.call hS1).eqM (N:=[pt b_c1 (.cells #[.int .u8 c.kind,.int .i64 c.a.num,.int .i64 c.a.yr,.int .u8 c.a.half,.int .u8 c.a.sec,.int .i64 c.a.cyc,.int .i64 c.b.num,.int .i64 c.b.yr,.int .u8 c.b.half,.int .u8 c.b.sec,.int .i64 c.b.cyc,.int .i64 c.n] 26 (0,0)),mp dV bm kvs,pt ga.blk (.cells #[ga.v,.bool ga.num] 95 (0,0)),sl 24 5 ga.v ga.all.length (encs eD ga.all),pt gb.blk (.cells #[gb.v,.bool gb.num] 95 (0,0)),sl 24 5 gb.v gb.all.length (encs eD gb.all),bigA (rest.map (grA 95 24))]) rfl
  clear hS1
  refine O.nil ?_
  refine k_seq ?_
  replace hf:Fr a 89 [] [(0,.map (some bm)),(4,.pointer (some ⟨ga.blk,0,none⟩)),(5,.pointer (some ⟨gb.blk,0,none⟩))]:=hf.to ⟨rfl,rfl,rfl,trivial⟩
  refine W.seq ?_
  refine W.regionL (l:=[0,1,2,3,4,5,6,7,8,9,10,11,12,13,14,15,16]) rfl ?_
  refine O.val hf rfl rfl rfl (RunV.move rfl) ?_
  clear hf a; intro a hf
  refine O.val hf rfl rfl rfl (RunV.move rfl) ?_
  clear hf a; intro a hf
  refine O.val hf rfl rfl rfl (RunV.toB (c:=true) (RunV.nePtr keyG ⟨_,_,hS.ptAt (i:=2) rfl⟩ ⟨_,_,hS.ptAt (i:=4) rfl⟩ rfl rfl) (by rw [decide_eq_false hne]; rfl)) ?_
  clear hf a; intro a hf
  refine O.val hf rfl rfl rfl (RunV.move rfl) ?_
  clear hf a; intro a hf
  refine O.gvalB (v:=.pointer (some ⟨ga.blk,0,none⟩)) hf rfl rfl rfl rfl rfl rfl (RunV.move rfl) ?_
  clear hf a; intro a hf
  refine O.gvalB (v:=.pointer (some ⟨ga.blk,0,none⟩)) hf rfl rfl rfl rfl rfl rfl (RunV.nilCheck rfl) ?_
  clear hf a; intro a hf
  refine O.gvalB (v:=.pointer (some ⟨ga.blk,1,none⟩)) hf rfl rfl rfl rfl rfl rfl (RunV.field T_field_95_1 rfl rfl) ?_
  clear hf a; intro a hf
  refine O.gvalB (v:=.bool ga.num) hf rfl rfl rfl rfl rfl rfl (RunV.load1 T_agg_4 rfl (hS.ptAt (i:=2) rfl) rfl) ?_
  clear hf a; intro a hf
  refine O.gvalB (v:=.bool ga.num) hf rfl rfl rfl rfl rfl rfl (RunV.move rfl) ?_
  clear hf a; intro a hf
  refine O.cutN (l₁:=[9,10,11,12,13]) (l₂:=_) (fun a w=>Fr a 89 [] [(0,.map (some bm)),(4,.pointer (some ⟨ga.blk,0,none⟩)),(5,.pointer (some ⟨gb.blk,0,none⟩)),(23,.pointer (some ⟨ga.blk,0,none⟩)),(24,.pointer (some ⟨gb.blk,0,none⟩)),(25,.bool true),(26,.bool true),(27,.pointer (some ⟨ga.blk,0,none⟩)),(28,.pointer (some ⟨ga.blk,0,none⟩)),(29,.pointer (some ⟨ga.blk,1,none⟩)),(30,.bool ga.num),(31,.bool ga.num),(36,.bool (ga.num&&gb.num))]∧St w0 w (fun k=>(stA 95 24 bm kvs gs).fp k) [] [pt b_c1 (.cells #[.int .u8 c.kind,.int .i64 c.a.num,.int .i64 c.a.yr,.int .u8 c.a.half,.int .u8 c.a.sec,.int .i64 c.a.cyc,.int .i64 c.b.num,.int .i64 c.b.yr,.int .u8 c.b.half,.int .u8 c.b.sec,.int .i64 c.b.cyc,.int .i64 c.n] 26 (0,0)),mp dV bm kvs,pt ga.blk (.cells #[ga.v,.bool ga.num] 95 (0,0)),sl 24 5 ga.v ga.all.length (encs eD ga.all),pt gb.blk (.cells #[gb.v,.bool gb.num] 95 (0,0)),sl 24 5 gb.v gb.all.length (encs eD gb.all),bigA (rest.map (grA 95 24))]) rfl ?_ ?_
  · rcases Bool.eq_false_or_eq_true (ga.num) with hb3 | hb3
    · have hb3p:=hb3
      try simp only [Bool.and_eq_true,Bool.or_eq_true,Bool.and_eq_false_iff,Bool.or_eq_false_iff,decide_eq_true_eq,decide_eq_false_iff_not,Bool.not_eq_true',Bool.not_eq_false',Bool.not_eq_true,Bool.not_eq_false,ne_eq] at hb3p
      refine O.gvalB (v:=.pointer (some ⟨gb.blk,0,none⟩)) hf rfl rfl rfl hb3 rfl rfl (RunV.move rfl) ?_
      clear hf a; intro a hf
      refine O.gvalB (v:=.pointer (some ⟨gb.blk,0,none⟩)) hf rfl rfl rfl hb3 rfl rfl (RunV.nilCheck rfl) ?_
      clear hf a; intro a hf
      refine O.gvalB (v:=.pointer (some ⟨gb.blk,1,none⟩)) hf rfl rfl rfl hb3 rfl rfl (RunV.field T_field_95_1 rfl rfl) ?_
      clear hf a; intro a hf
      refine O.gvalB (v:=.bool gb.num) hf rfl rfl rfl hb3 rfl rfl (RunV.load1 T_agg_4 rfl (hS.ptAt (i:=4) rfl) rfl) ?_
      clear hf a; intro a hf
      refine O.gvalB (v:=.bool (ga.num&&gb.num)) hf rfl rfl rfl rfl rfl rfl (RunV.pick rfl rfl rfl (by rw [hb3]; rfl)) ?_; clear hf a; intro a hf
      exact O.nil ⟨rfl,hf.to ⟨rfl,rfl,rfl,rfl,rfl,rfl,rfl,rfl,rfl,rfl,rfl,rfl,rfl,trivial⟩,hS⟩
    · have hb3p:=hb3
      try simp only [Bool.and_eq_true,Bool.or_eq_true,Bool.and_eq_false_iff,Bool.or_eq_false_iff,decide_eq_true_eq,decide_eq_false_iff_not,Bool.not_eq_true',Bool.not_eq_false',Bool.not_eq_true,Bool.not_eq_false,ne_eq] at hb3p
      refine O.skipB hf rfl rfl rfl hb3 rfl ?_; clear hf a; intro a hf
      refine O.skipB hf rfl rfl rfl hb3 rfl ?_; clear hf a; intro a hf
      refine O.skipB hf rfl rfl rfl hb3 rfl ?_; clear hf a; intro a hf
      refine O.skipB hf rfl rfl rfl hb3 rfl ?_; clear hf a; intro a hf
      refine O.gvalB (v:=.bool (ga.num&&gb.num)) hf rfl rfl rfl rfl rfl rfl (RunV.pick rfl rfl rfl (by rw [hb3]; rfl)) ?_; clear hf a; intro a hf
      exact O.nil ⟨rfl,hf.to ⟨rfl,rfl,rfl,rfl,rfl,rfl,rfl,rfl,rfl,rfl,rfl,rfl,rfl,trivial⟩,hS⟩
  clear hf hS a; rintro a w ⟨hf,hS⟩
  refine O.gvalB (v:=.bool (!(ga.num&&gb.num))) hf rfl rfl rfl rfl rfl rfl (RunV.not rfl) ?_
  clear hf a; intro a hf
  refine O.val (v:=.bool (!(ga.num&&gb.num))) hf rfl rfl rfl (RunV.pick rfl rfl rfl rfl) ?_
  clear hf a; intro a hf
  rw [show (!(ga.num&&gb.num))=false from by rw [hn]; rfl] at hf
  refine O.callP hf rfl rfl rfl (RunE.call (av:=#[.bool false,.int .i64 36]) C_ok_46 rfl rfl rfl) (need_bad 36 _) ?_ ?_
  · rintro _ _ h _ _; exact h.elim
  · rintro c w1 ⟨rfl,hS1⟩ a hf
    replace hS:=(hS.call hS1).dropN
    refine k_seq_panic ?_
    refine post_panic hf ?_
    exact .inr ⟨_,rfl,rfl,hS.sub (List.nil_sublist _) |>.noB⟩
set_option maxHeartbeats 400000 in
set_option maxRecDepth 4000 in
theorem join_ok (bm:Nat) (kvs:List (Dg × Value)) (gs:List Grp) (c:Ch) (w0:World) (h0:Lent w0 (stA 95 24 bm kvs gs)) (hL:Look kvs gs) (ga gb:Grp) (rest:List Grp) (hp:gs.Perm (ga::gb::rest)) (ha:c.a ∈ ga.all) (hb:c.b ∈ gb.all) (hn:(ga.num&&gb.num)=false) (hz:ga.all.length+gb.all.length≤1000000) :
    Ret Tryd.prog 57 #[.map (some bm),.agg #[.int .u8 c.kind,.int .i64 c.a.num,.int .i64 c.a.yr,.int .u8 c.a.half,.int .u8 c.a.sec,.int .i64 c.a.cyc,.int .i64 c.b.num,.int .i64 c.b.yr,.int .u8 c.b.half,.int .u8 c.b.sec,.int .i64 c.b.cyc,.int .i64 c.n]] w0 (G:=List (Dg × Value) × List Grp) (fun _=>.tuple #[]) (fun g w=>St w0 w (fun k=>(stA 95 24 bm kvs gs).fp k) [] [stA 95 24 bm g.1 g.2]∧Look g.1 g.2∧g.2.map absG=merged (absG ga) (absG gb)::rest.map absG):=by
  refine ret_of_W (lv:=[.map (some bm),.agg #[.int .u8 c.kind,.int .i64 c.a.num,.int .i64 c.a.yr,.int .u8 c.a.half,.int .u8 c.a.sec,.int .i64 c.a.cyc,.int .i64 c.b.num,.int .i64 c.b.yr,.int .u8 c.b.half,.int .u8 c.b.sec,.int .i64 c.b.cyc,.int .i64 c.n]]) Tryd.func57 rfl rfl rfl (fun a hf=>?_)
  replace hf:Fr a 89 [] [(0,.map (some bm)),(1,.agg #[.int .u8 c.kind,.int .i64 c.a.num,.int .i64 c.a.yr,.int .u8 c.a.half,.int .u8 c.a.sec,.int .i64 c.a.cyc,.int .i64 c.b.num,.int .i64 c.b.yr,.int .u8 c.b.half,.int .u8 c.b.sec,.int .i64 c.b.cyc,.int .i64 c.n])]:=hf
  have hS:St w0 w0 (fun k=>(stA 95 24 bm kvs gs).fp k) [] [mp dV bm kvs,pt ga.blk (.cells #[ga.v,.bool ga.num] 95 (0,0)),sl 24 5 ga.v ga.all.length (encs eD ga.all),pt gb.blk (.cells #[gb.v,.bool gb.num] 95 (0,0)),sl 24 5 gb.v gb.all.length (encs eD gb.all),bigA (rest.map (grA 95 24))]:=St.grTake2 (St.stOpen (St.ownG h0 (by simp) (by simp))) hp
  have hA:ga ∈ gs:=hp.mem_iff.2 (by simp)
  have hB:gb ∈ gs:=hp.mem_iff.2 (by simp)
  have hl1:=hL.hit ga hA c.a ha
  have hl2:=hL.hit gb hB c.b hb
  have hL2:=hL.perm hp
  have hbl:=hL2.blks
  simp only [List.map_cons,List.nodup_cons,List.mem_cons,not_or] at hbl
  have hne:ga.blk≠gb.blk:=hbl.1.1
  refine W.seq ?_
  refine W.regionL (l:=[0]) rfl ?_
  refine O.box (cs:=#[.int .u8 c.kind,.int .i64 c.a.num,.int .i64 c.a.yr,.int .u8 c.a.half,.int .u8 c.a.sec,.int .i64 c.a.cyc,.int .i64 c.b.num,.int .i64 c.b.yr,.int .u8 c.b.half,.int .u8 c.b.sec,.int .i64 c.b.cyc,.int .i64 c.n]) hf hS rfl rfl rfl rfl ?_
  clear hf hS a; intro b_c1 w a hbb_c1 hS hf
  refine O.nil ?_
  refine k_seq ?_
  replace hf:Fr a 89 [] [(0,.map (some bm)),(3,.pointer (some ⟨b_c1,0,none⟩))]:=hf.to ⟨rfl,rfl,trivial⟩
  refine W.seq ?_
  refine W.drawQ (fun w=>St w0 w (fun k=>(stA 95 24 bm kvs gs).fp k) [] [pt b_c1 (.cells #[.int .u8 c.kind,.int .i64 c.a.num,.int .i64 c.a.yr,.int .u8 c.a.half,.int .u8 c.a.sec,.int .i64 c.a.cyc,.int .i64 c.b.num,.int .i64 c.b.yr,.int .u8 c.b.half,.int .u8 c.b.sec,.int .i64 c.b.cyc,.int .i64 c.n] 26 (0,0)),mp dV bm kvs,pt ga.blk (.cells #[ga.v,.bool ga.num] 95 (0,0)),sl 24 5 ga.v ga.all.length (encs eD ga.all),pt gb.blk (.cells #[gb.v,.bool gb.num] 95 (0,0)),sl 24 5 gb.v gb.all.length (encs eD gb.all),bigA (rest.map (grA 95 24))]) P_mixed rfl (by kernel_rfl) rfl hS.drew ?_
  clear hS
  refine OQ.val (v:=.map (some bm)) hf rfl (fun w hS=>RunV.move rfl) ?_; clear hf a; intro a hf
  refine OQ.val (v:=.pointer (some ⟨b_c1,1,none⟩)) hf rfl (fun w hS=>RunV.field T_field_26_1 rfl rfl) ?_; clear hf a; intro a hf
  refine OQ.val (v:=.agg #[.int .i64 c.a.num,.int .i64 c.a.yr,.int .u8 c.a.half,.int .u8 c.a.sec,.int .i64 c.a.cyc]) hf rfl (fun w hS=>RunV.loadN (cs':=#[.int .i64 c.a.num,.int .i64 c.a.yr,.int .u8 c.a.half,.int .u8 c.a.sec,.int .i64 c.a.cyc]) T_agg_24 T_size_24 rfl (hS.ptAt (i:=0) rfl) (Nat.le_of_ble_eq_true rfl) rfl) ?_; clear hf a; intro a hf
  refine OQ.val (v:=.pointer (some ⟨ga.blk,0,none⟩)) hf rfl (fun w hS=>RunV.lookP (k:=c.a) (kvs:=kvs) T_mapof_71 keyD trivial (fun _ _=>trivial) rfl rfl (hS.mpAt (j:=1) rfl) (by rw [hl1] <;> rfl)) ?_; clear hf a; intro a hf
  refine OQ.val (v:=.map (some bm)) hf rfl (fun w hS=>RunV.move rfl) ?_; clear hf a; intro a hf
  refine OQ.val (v:=.pointer (some ⟨b_c1,6,none⟩)) hf rfl (fun w hS=>RunV.field T_field_26_2 rfl rfl) ?_; clear hf a; intro a hf
  refine OQ.val (v:=.agg #[.int .i64 c.b.num,.int .i64 c.b.yr,.int .u8 c.b.half,.int .u8 c.b.sec,.int .i64 c.b.cyc]) hf rfl (fun w hS=>RunV.loadN (cs':=#[.int .i64 c.b.num,.int .i64 c.b.yr,.int .u8 c.b.half,.int .u8 c.b.sec,.int .i64 c.b.cyc]) T_agg_24 T_size_24 rfl (hS.ptAt (i:=0) rfl) (Nat.le_of_ble_eq_true rfl) rfl) ?_; clear hf a; intro a hf
  refine OQ.val (v:=.pointer (some ⟨gb.blk,0,none⟩)) hf rfl (fun w hS=>RunV.lookP (k:=c.b) (kvs:=kvs) T_mapof_71 keyD trivial (fun _ _=>trivial) rfl rfl (hS.mpAt (j:=1) rfl) (by rw [hl2] <;> rfl)) ?_; clear hf a; intro a hf
  refine OQ.val (v:=.pointer (some ⟨ga.blk,0,none⟩)) hf rfl (fun w hS=>RunV.assign rfl) ?_; clear hf a; intro a hf
  refine OQ.val (v:=.pointer (some ⟨gb.blk,0,none⟩)) hf rfl (fun w hS=>RunV.assign rfl) ?_; clear hf a; intro a hf
  refine OQ.nil ?_; intro w hS
  refine k_seq ?_
  replace hf:Fr a 89 [] [(0,.map (some bm)),(4,.pointer (some ⟨ga.blk,0,none⟩)),(5,.pointer (some ⟨gb.blk,0,none⟩))]:=hf.to ⟨rfl,rfl,rfl,trivial⟩
  refine W.seq ?_
  refine W.regionL (l:=[0,1,2,3,4,5,6]) rfl ?_
  refine O.val hf rfl rfl rfl (RunV.move rfl) ?_
  clear hf a; intro a hf
  refine O.val hf rfl rfl rfl (RunV.toB (c:=true) (RunV.neNil Tryd.underlying79 rfl rfl) rfl) ?_
  clear hf a; intro a hf
  refine O.val hf rfl rfl rfl (RunV.move rfl) ?_
  clear hf a; intro a hf
  refine O.gvalB (v:=.pointer (some ⟨gb.blk,0,none⟩)) hf rfl rfl rfl rfl rfl rfl (RunV.move rfl) ?_
  clear hf a; intro a hf
  refine O.gvalB (v:=.bool true) hf rfl rfl rfl rfl rfl rfl (RunV.toB (c:=true) (RunV.neNil Tryd.underlying79 rfl rfl) rfl) ?_
  clear hf a; intro a hf
  refine O.val (v:=.bool true) hf rfl rfl rfl (RunV.pick rfl rfl rfl rfl) ?_
  clear hf a; intro a hf
  refine O.callR hf rfl rfl rfl (RunE.call (av:=#[.bool true,.int .i64 6]) C_ok_46 rfl rfl rfl) (need_ok 6 _) ?_
  clear hf a
  rintro _ w2 hS1 a hf
  replace hf:Fr a _ _ ((22,.tuple #[])::_):=hf
  replace hS:=(hS.call hS1).eqM (N:=[pt b_c1 (.cells #[.int .u8 c.kind,.int .i64 c.a.num,.int .i64 c.a.yr,.int .u8 c.a.half,.int .u8 c.a.sec,.int .i64 c.a.cyc,.int .i64 c.b.num,.int .i64 c.b.yr,.int .u8 c.b.half,.int .u8 c.b.sec,.int .i64 c.b.cyc,.int .i64 c.n] 26 (0,0)),mp dV bm kvs,pt ga.blk (.cells #[ga.v,.bool ga.num] 95 (0,0)),sl 24 5 ga.v ga.all.length (encs eD ga.all),pt gb.blk (.cells #[gb.v,.bool gb.num] 95 (0,0)),sl 24 5 gb.v gb.all.length (encs eD gb.all),bigA (rest.map (grA 95 24))]) rfl
  clear hS1
  refine O.nil ?_
  refine k_seq ?_
  replace hf:Fr a 89 [] [(0,.map (some bm)),(4,.pointer (some ⟨ga.blk,0,none⟩)),(5,.pointer (some ⟨gb.blk,0,none⟩))]:=hf.to ⟨rfl,rfl,rfl,trivial⟩
  refine W.seq ?_
  refine W.regionL (l:=[0,1,2,3,4,5,6,7,8,9,10,11,12,13,14,15,16]) rfl ?_
  refine O.val hf rfl rfl rfl (RunV.move rfl) ?_
  clear hf a; intro a hf
  refine O.val hf rfl rfl rfl (RunV.move rfl) ?_
  clear hf a; intro a hf
  refine O.val hf rfl rfl rfl (RunV.toB (c:=true) (RunV.nePtr keyG ⟨_,_,hS.ptAt (i:=2) rfl⟩ ⟨_,_,hS.ptAt (i:=4) rfl⟩ rfl rfl) (by rw [decide_eq_false hne]; rfl)) ?_
  clear hf a; intro a hf
  refine O.val hf rfl rfl rfl (RunV.move rfl) ?_
  clear hf a; intro a hf
  refine O.gvalB (v:=.pointer (some ⟨ga.blk,0,none⟩)) hf rfl rfl rfl rfl rfl rfl (RunV.move rfl) ?_
  clear hf a; intro a hf
  refine O.gvalB (v:=.pointer (some ⟨ga.blk,0,none⟩)) hf rfl rfl rfl rfl rfl rfl (RunV.nilCheck rfl) ?_
  clear hf a; intro a hf
  refine O.gvalB (v:=.pointer (some ⟨ga.blk,1,none⟩)) hf rfl rfl rfl rfl rfl rfl (RunV.field T_field_95_1 rfl rfl) ?_
  clear hf a; intro a hf
  refine O.gvalB (v:=.bool ga.num) hf rfl rfl rfl rfl rfl rfl (RunV.load1 T_agg_4 rfl (hS.ptAt (i:=2) rfl) rfl) ?_
  clear hf a; intro a hf
  refine O.gvalB (v:=.bool ga.num) hf rfl rfl rfl rfl rfl rfl (RunV.move rfl) ?_
  clear hf a; intro a hf
  refine O.cutN (l₁:=[9,10,11,12,13]) (l₂:=_) (fun a w=>Fr a 89 [] [(0,.map (some bm)),(4,.pointer (some ⟨ga.blk,0,none⟩)),(5,.pointer (some ⟨gb.blk,0,none⟩)),(23,.pointer (some ⟨ga.blk,0,none⟩)),(24,.pointer (some ⟨gb.blk,0,none⟩)),(25,.bool true),(26,.bool true),(27,.pointer (some ⟨ga.blk,0,none⟩)),(28,.pointer (some ⟨ga.blk,0,none⟩)),(29,.pointer (some ⟨ga.blk,1,none⟩)),(30,.bool ga.num),(31,.bool ga.num),(36,.bool (ga.num&&gb.num))]∧St w0 w (fun k=>(stA 95 24 bm kvs gs).fp k) [] [pt b_c1 (.cells #[.int .u8 c.kind,.int .i64 c.a.num,.int .i64 c.a.yr,.int .u8 c.a.half,.int .u8 c.a.sec,.int .i64 c.a.cyc,.int .i64 c.b.num,.int .i64 c.b.yr,.int .u8 c.b.half,.int .u8 c.b.sec,.int .i64 c.b.cyc,.int .i64 c.n] 26 (0,0)),mp dV bm kvs,pt ga.blk (.cells #[ga.v,.bool ga.num] 95 (0,0)),sl 24 5 ga.v ga.all.length (encs eD ga.all),pt gb.blk (.cells #[gb.v,.bool gb.num] 95 (0,0)),sl 24 5 gb.v gb.all.length (encs eD gb.all),bigA (rest.map (grA 95 24))]) rfl ?_ ?_
  · rcases Bool.eq_false_or_eq_true (ga.num) with hb3 | hb3
    · have hb3p:=hb3
      try simp only [Bool.and_eq_true,Bool.or_eq_true,Bool.and_eq_false_iff,Bool.or_eq_false_iff,decide_eq_true_eq,decide_eq_false_iff_not,Bool.not_eq_true',Bool.not_eq_false',Bool.not_eq_true,Bool.not_eq_false,ne_eq] at hb3p
      refine O.gvalB (v:=.pointer (some ⟨gb.blk,0,none⟩)) hf rfl rfl rfl hb3 rfl rfl (RunV.move rfl) ?_
      clear hf a; intro a hf
      refine O.gvalB (v:=.pointer (some ⟨gb.blk,0,none⟩)) hf rfl rfl rfl hb3 rfl rfl (RunV.nilCheck rfl) ?_
      clear hf a; intro a hf
      refine O.gvalB (v:=.pointer (some ⟨gb.blk,1,none⟩)) hf rfl rfl rfl hb3 rfl rfl (RunV.field T_field_95_1 rfl rfl) ?_
      clear hf a; intro a hf
      refine O.gvalB (v:=.bool gb.num) hf rfl rfl rfl hb3 rfl rfl (RunV.load1 T_agg_4 rfl (hS.ptAt (i:=4) rfl) rfl) ?_
      clear hf a; intro a hf
      refine O.gvalB (v:=.bool (ga.num&&gb.num)) hf rfl rfl rfl rfl rfl rfl (RunV.pick rfl rfl rfl (by rw [hb3]; rfl)) ?_; clear hf a; intro a hf
      exact O.nil ⟨rfl,hf.to ⟨rfl,rfl,rfl,rfl,rfl,rfl,rfl,rfl,rfl,rfl,rfl,rfl,rfl,trivial⟩,hS⟩
    · have hb3p:=hb3
      try simp only [Bool.and_eq_true,Bool.or_eq_true,Bool.and_eq_false_iff,Bool.or_eq_false_iff,decide_eq_true_eq,decide_eq_false_iff_not,Bool.not_eq_true',Bool.not_eq_false',Bool.not_eq_true,Bool.not_eq_false,ne_eq] at hb3p
      refine O.skipB hf rfl rfl rfl hb3 rfl ?_; clear hf a; intro a hf
      refine O.skipB hf rfl rfl rfl hb3 rfl ?_; clear hf a; intro a hf
      refine O.skipB hf rfl rfl rfl hb3 rfl ?_; clear hf a; intro a hf
      refine O.skipB hf rfl rfl rfl hb3 rfl ?_; clear hf a; intro a hf
      refine O.gvalB (v:=.bool (ga.num&&gb.num)) hf rfl rfl rfl rfl rfl rfl (RunV.pick rfl rfl rfl (by rw [hb3]; rfl)) ?_; clear hf a; intro a hf
      exact O.nil ⟨rfl,hf.to ⟨rfl,rfl,rfl,rfl,rfl,rfl,rfl,rfl,rfl,rfl,rfl,rfl,rfl,trivial⟩,hS⟩
  clear hf hS a; rintro a w ⟨hf,hS⟩
  refine O.gvalB (v:=.bool (!(ga.num&&gb.num))) hf rfl rfl rfl rfl rfl rfl (RunV.not rfl) ?_
  clear hf a; intro a hf
  refine O.val (v:=.bool (!(ga.num&&gb.num))) hf rfl rfl rfl (RunV.pick rfl rfl rfl rfl) ?_
  clear hf a; intro a hf
  rw [show (!(ga.num&&gb.num))=true from by rw [hn]; rfl] at hf
  refine O.callR hf rfl rfl rfl (RunE.call (av:=#[.bool true,.int .i64 36]) C_ok_46 rfl rfl rfl) (need_ok 36 _) ?_
  clear hf a
  rintro _ w4 hS1 a hf
  replace hf:Fr a _ _ ((39,.tuple #[])::_):=hf
  replace hS:=(hS.call hS1).eqM (N:=[pt b_c1 (.cells #[.int .u8 c.kind,.int .i64 c.a.num,.int .i64 c.a.yr,.int .u8 c.a.half,.int .u8 c.a.sec,.int .i64 c.a.cyc,.int .i64 c.b.num,.int .i64 c.b.yr,.int .u8 c.b.half,.int .u8 c.b.sec,.int .i64 c.b.cyc,.int .i64 c.n] 26 (0,0)),mp dV bm kvs,pt ga.blk (.cells #[ga.v,.bool ga.num] 95 (0,0)),sl 24 5 ga.v ga.all.length (encs eD ga.all),pt gb.blk (.cells #[gb.v,.bool gb.num] 95 (0,0)),sl 24 5 gb.v gb.all.length (encs eD gb.all),bigA (rest.map (grA 95 24))]) rfl
  clear hS1
  refine O.nil ?_
  refine k_seq ?_
  replace hf:Fr a 89 [] [(0,.map (some bm)),(4,.pointer (some ⟨ga.blk,0,none⟩)),(5,.pointer (some ⟨gb.blk,0,none⟩))]:=hf.to ⟨rfl,rfl,rfl,trivial⟩
  refine W.seq ?_
  refine W.seq ?_
  refine W.drawQ (fun w=>St w0 w (fun k=>(stA 95 24 bm kvs gs).fp k) [] [pt b_c1 (.cells #[.int .u8 c.kind,.int .i64 c.a.num,.int .i64 c.a.yr,.int .u8 c.a.half,.int .u8 c.a.sec,.int .i64 c.a.cyc,.int .i64 c.b.num,.int .i64 c.b.yr,.int .u8 c.b.half,.int .u8 c.b.sec,.int .i64 c.b.cyc,.int .i64 c.n] 26 (0,0)),mp dV bm kvs,pt ga.blk (.cells #[ga.v,.bool ga.num] 95 (0,0)),sl 24 5 ga.v ga.all.length (encs eD ga.all),pt gb.blk (.cells #[gb.v,.bool gb.num] 95 (0,0)),sl 24 5 gb.v gb.all.length (encs eD gb.all),bigA (rest.map (grA 95 24))]) P_mixed rfl (by kernel_rfl) rfl hS.drew ?_
  clear hS
  refine OQ.val (v:=.pointer (some ⟨ga.blk,0,none⟩)) hf rfl (fun w hS=>RunV.move rfl) ?_; clear hf a; intro a hf
  refine OQ.val (v:=.pointer (some ⟨ga.blk,0,none⟩)) hf rfl (fun w hS=>RunV.nilCheck rfl) ?_; clear hf a; intro a hf
  refine OQ.val (v:=.pointer (some ⟨ga.blk,0,none⟩)) hf rfl (fun w hS=>RunV.field T_field_95_0 rfl rfl) ?_; clear hf a; intro a hf
  refine OQ.val (v:=ga.v) hf rfl (fun w hS=>RunV.load1 T_agg_35 rfl (hS.ptAt (i:=2) rfl) rfl) ?_; clear hf a; intro a hf
  refine OQ.val (v:=.int .i64 (ga.all.length:Int)) hf rfl (fun w hS=>RunV.lenV (e:=24) (by simpa using T_elem_35) rfl (hS.slr (j:=3) rfl)) ?_; clear hf a; intro a hf
  refine OQ.val (v:=.pointer (some ⟨gb.blk,0,none⟩)) hf rfl (fun w hS=>RunV.move rfl) ?_; clear hf a; intro a hf
  refine OQ.val (v:=.pointer (some ⟨gb.blk,0,none⟩)) hf rfl (fun w hS=>RunV.nilCheck rfl) ?_; clear hf a; intro a hf
  refine OQ.val (v:=.pointer (some ⟨gb.blk,0,none⟩)) hf rfl (fun w hS=>RunV.field T_field_95_0 rfl rfl) ?_; clear hf a; intro a hf
  refine OQ.val (v:=gb.v) hf rfl (fun w hS=>RunV.load1 T_agg_35 rfl (hS.ptAt (i:=4) rfl) rfl) ?_; clear hf a; intro a hf
  refine OQ.val (v:=.int .i64 (gb.all.length:Int)) hf rfl (fun w hS=>RunV.lenV (e:=24) (by simpa using T_elem_35) rfl (hS.slr (j:=5) rfl)) ?_; clear hf a; intro a hf
  refine OQ.val (v:=.bool (decide ((ga.all.length:Int)<((gb.all.length:Int):Int)))) hf rfl (fun w hS=>RunV.lss rfl rfl) ?_; clear hf a; intro a hf
  refine OQ.nil ?_; intro w hS
  refine k_seq ?_
  replace hf:Fr a 89 [] [(0,.map (some bm)),(4,.pointer (some ⟨ga.blk,0,none⟩)),(5,.pointer (some ⟨gb.blk,0,none⟩)),(50,.bool (decide ((ga.all.length:Int)<((gb.all.length:Int):Int))))]:=hf.to ⟨rfl,rfl,rfl,rfl,trivial⟩
  refine W.ifdI hf rfl (fun hlt=>?_) (fun hlt=>?_)
  ·
    refine W.regionL (l:=[0,1,2,3]) rfl ?_
    refine O.val hf rfl rfl rfl (RunV.move rfl) ?_
    clear hf a; intro a hf
    refine O.val hf rfl rfl rfl (RunV.move rfl) ?_
    clear hf a; intro a hf
    refine O.val hf rfl rfl rfl (RunV.assign rfl) ?_
    clear hf a; intro a hf
    refine O.val hf rfl rfl rfl (RunV.assign rfl) ?_
    clear hf a; intro a hf
    refine O.nil ?_
    refine k_seq ?_
    replace hf:Fr a 89 [] [(0,.map (some bm)),(4,.pointer (some ⟨gb.blk,0,none⟩)),(5,.pointer (some ⟨ga.blk,0,none⟩))]:=hf.to ⟨rfl,rfl,rfl,trivial⟩
    refine W.seq ?_
    refine W.regionL (l:=[0,1,2,3,4,5,6,7,8,9,10,11,12,13]) rfl ?_
    refine O.val hf rfl rfl rfl (RunV.move rfl) ?_
    clear hf a; intro a hf
    refine O.val hf rfl rfl rfl (RunV.move rfl) ?_
    clear hf a; intro a hf
    refine O.val hf rfl rfl rfl (RunV.nilCheck rfl) ?_
    clear hf a; intro a hf
    refine O.val hf rfl rfl rfl (RunV.field T_field_95_1 rfl rfl) ?_
    clear hf a; intro a hf
    refine O.val hf rfl rfl rfl (RunV.load1 T_agg_4 rfl (hS.ptAt (i:=4) rfl) rfl) ?_
    clear hf a; intro a hf
    refine O.val hf rfl rfl rfl (RunV.move rfl) ?_
    clear hf a; intro a hf
    refine O.cutN (l₁:=[6,7,8,9,10]) (l₂:=_) (fun a w=>Fr a 89 [] [(0,.map (some bm)),(4,.pointer (some ⟨gb.blk,0,none⟩)),(5,.pointer (some ⟨ga.blk,0,none⟩)),(53,.pointer (some ⟨gb.blk,0,none⟩)),(54,.pointer (some ⟨gb.blk,0,none⟩)),(55,.pointer (some ⟨gb.blk,0,none⟩)),(56,.pointer (some ⟨gb.blk,1,none⟩)),(57,.bool gb.num),(58,.bool gb.num),(63,.bool (gb.num||ga.num))]∧St w0 w (fun k=>(stA 95 24 bm kvs gs).fp k) [] [pt b_c1 (.cells #[.int .u8 c.kind,.int .i64 c.a.num,.int .i64 c.a.yr,.int .u8 c.a.half,.int .u8 c.a.sec,.int .i64 c.a.cyc,.int .i64 c.b.num,.int .i64 c.b.yr,.int .u8 c.b.half,.int .u8 c.b.sec,.int .i64 c.b.cyc,.int .i64 c.n] 26 (0,0)),mp dV bm kvs,pt ga.blk (.cells #[ga.v,.bool ga.num] 95 (0,0)),sl 24 5 ga.v ga.all.length (encs eD ga.all),pt gb.blk (.cells #[gb.v,.bool gb.num] 95 (0,0)),sl 24 5 gb.v gb.all.length (encs eD gb.all),bigA (rest.map (grA 95 24))]) rfl ?_ ?_
    · rcases Bool.eq_false_or_eq_true (gb.num) with hb6 | hb6
      · have hb6p:=hb6
        try simp only [Bool.and_eq_true,Bool.or_eq_true,Bool.and_eq_false_iff,Bool.or_eq_false_iff,decide_eq_true_eq,decide_eq_false_iff_not,Bool.not_eq_true',Bool.not_eq_false',Bool.not_eq_true,Bool.not_eq_false,ne_eq] at hb6p
        refine O.skipB hf rfl rfl rfl hb6 rfl ?_; clear hf a; intro a hf
        refine O.skipB hf rfl rfl rfl hb6 rfl ?_; clear hf a; intro a hf
        refine O.skipB hf rfl rfl rfl hb6 rfl ?_; clear hf a; intro a hf
        refine O.skipB hf rfl rfl rfl hb6 rfl ?_; clear hf a; intro a hf
        refine O.val (v:=.bool (gb.num||ga.num)) hf rfl rfl rfl (RunV.pick rfl rfl rfl (by rw [hb6]; rfl)) ?_; clear hf a; intro a hf
        exact O.nil ⟨rfl,hf.to ⟨rfl,rfl,rfl,rfl,rfl,rfl,rfl,rfl,rfl,rfl,trivial⟩,hS⟩
      · have hb6p:=hb6
        try simp only [Bool.and_eq_true,Bool.or_eq_true,Bool.and_eq_false_iff,Bool.or_eq_false_iff,decide_eq_true_eq,decide_eq_false_iff_not,Bool.not_eq_true',Bool.not_eq_false',Bool.not_eq_true,Bool.not_eq_false,ne_eq] at hb6p
        refine O.gvalB (v:=.pointer (some ⟨ga.blk,0,none⟩)) hf rfl rfl rfl hb6 rfl rfl (RunV.move rfl) ?_
        clear hf a; intro a hf
        refine O.gvalB (v:=.pointer (some ⟨ga.blk,0,none⟩)) hf rfl rfl rfl hb6 rfl rfl (RunV.nilCheck rfl) ?_
        clear hf a; intro a hf
        refine O.gvalB (v:=.pointer (some ⟨ga.blk,1,none⟩)) hf rfl rfl rfl hb6 rfl rfl (RunV.field T_field_95_1 rfl rfl) ?_
        clear hf a; intro a hf
        refine O.gvalB (v:=.bool ga.num) hf rfl rfl rfl hb6 rfl rfl (RunV.load1 T_agg_4 rfl (hS.ptAt (i:=2) rfl) rfl) ?_
        clear hf a; intro a hf
        refine O.val (v:=.bool (gb.num||ga.num)) hf rfl rfl rfl (RunV.pick rfl rfl rfl (by rw [hb6]; rfl)) ?_; clear hf a; intro a hf
        exact O.nil ⟨rfl,hf.to ⟨rfl,rfl,rfl,rfl,rfl,rfl,rfl,rfl,rfl,rfl,trivial⟩,hS⟩
    clear hf hS a; rintro a w ⟨hf,hS⟩
    refine O.val hf rfl rfl rfl (RunV.nilCheck rfl) ?_
    clear hf a; intro a hf
    refine O.val hf rfl rfl rfl (RunV.field T_field_95_1 rfl rfl) ?_
    clear hf a; intro a hf
    refine O.store (j:=4) (cs':=#[gb.v,.bool (gb.num||ga.num)]) (M':=[pt b_c1 (.cells #[.int .u8 c.kind,.int .i64 c.a.num,.int .i64 c.a.yr,.int .u8 c.a.half,.int .u8 c.a.sec,.int .i64 c.a.cyc,.int .i64 c.b.num,.int .i64 c.b.yr,.int .u8 c.b.half,.int .u8 c.b.sec,.int .i64 c.b.cyc,.int .i64 c.n] 26 (0,0)),mp dV bm kvs,pt ga.blk (.cells #[ga.v,.bool ga.num] 95 (0,0)),sl 24 5 ga.v ga.all.length (encs eD ga.all),pt gb.blk (.cells #[gb.v,.bool (gb.num||ga.num)] 95 (0,0)),sl 24 5 gb.v gb.all.length (encs eD gb.all),bigA (rest.map (grA 95 24))]) hf hS rfl rfl rfl T_size_4 rfl rfl rfl (Nat.le_of_ble_eq_true rfl) rfl rfl ?_
    clear hS; intro w hS
    refine O.nil ?_
    refine k_seq ?_
    replace hf:Fr a 89 [] [(0,.map (some bm)),(4,.pointer (some ⟨gb.blk,0,none⟩)),(5,.pointer (some ⟨ga.blk,0,none⟩))]:=hf.to ⟨rfl,rfl,rfl,trivial⟩
    refine W.seq ?_
    refine W.regionL (l:=[0,1,2,3,4,5]) rfl ?_
    refine O.val hf rfl rfl rfl (RunV.move rfl) ?_
    clear hf a; intro a hf
    refine O.val hf rfl rfl rfl (RunV.nilCheck rfl) ?_
    clear hf a; intro a hf
    refine O.val hf rfl rfl rfl (RunV.field T_field_95_0 rfl rfl) ?_
    clear hf a; intro a hf
    refine O.val hf rfl rfl rfl (RunV.load1 T_agg_35 rfl (hS.ptAt (i:=2) rfl) rfl) ?_
    clear hf a; intro a hf
    refine O.val hf rfl rfl rfl (RunV.lenV (e:=24) (by simpa using T_elem_35) rfl (hS.slr (j:=3) rfl)) ?_
    clear hf a; intro a hf
    refine O.val hf rfl rfl rfl (RunV.move rfl) ?_
    clear hf a; intro a hf
    refine O.nil ?_
    have hlm:=(hS.slAt (j:=3) rfl).nle; unfold maxLen at hlm
    have hlm2:=(hS.slAt (j:=5) rfl).nle; unfold maxLen at hlm2
    refine k_seq ?_
    replace hf:Fr a 89 [] [(0,.map (some bm)),(4,.pointer (some ⟨gb.blk,0,none⟩)),(69,ga.v),(70,.int .i64 (ga.all.length:Int)),(71,.int .i64 0)]:=hf.to ⟨rfl,rfl,rfl,rfl,rfl,trivial⟩
    refine W.block ?_
    refine W.loop (G:=(Nat) × (Value)) (fun g a w=>match g with | (j,va)=>Fr a 89 [] [(0,.map (some bm)),(4,.pointer (some ⟨gb.blk,0,none⟩)),(69,ga.v),(70,.int .i64 (ga.all.length:Int)),(71,.int .i64 (j:Int))]∧St w0 w (fun k=>(stA 95 24 bm kvs gs).fp k) [] [pt b_c1 (.cells #[.int .u8 c.kind,.int .i64 c.a.num,.int .i64 c.a.yr,.int .u8 c.a.half,.int .u8 c.a.sec,.int .i64 c.a.cyc,.int .i64 c.b.num,.int .i64 c.b.yr,.int .u8 c.b.half,.int .u8 c.b.sec,.int .i64 c.b.cyc,.int .i64 c.n] 26 (0,0)),mp dV bm (putAll kvs (ptrV gb.blk) (ga.all.take j)),pt ga.blk (.cells #[ga.v,.bool ga.num] 95 (0,0)),sl 24 5 ga.v ga.all.length (encs eD ga.all),pt gb.blk (.cells #[va,.bool (gb.num||ga.num)] 95 (0,0)),sl 24 5 va ((gb.all++ga.all.take j).length) (encs eD (gb.all++ga.all.take j)),bigA (rest.map (grA 95 24))]∧(j≤ga.all.length)) (fun g=>match g with | (j,va)=>ga.all.length-j) (0,gb.v) ?_ ?_
    · refine ⟨hf.to ⟨rfl,rfl,rfl,rfl,(by first | rfl | exact congrArg some (congrArg (Value.int _) (by omega))),trivial⟩,hS.eqM (by simp [putAll]),?_⟩
      · omega
    clear hf hS a
    rintro ⟨j,va⟩ a w ⟨hf,hS,h1⟩
    refine W.seq ?_
    refine W.regionL (l:=[0]) rfl ?_
    refine O.val (v:=.bool (decide ((j:Int)<((ga.all.length:Int):Int)))) hf rfl rfl rfl (RunV.lss rfl rfl) ?_
    clear hf a; intro a hf
    refine O.nil ?_
    refine k_seq ?_
    refine W.seq ?_
    refine W.ifdI hf rfl (fun hj=>?_) (fun hj=>?_)
    · refine W.skip ?_
      refine k_seq ?_
      refine W.seq ?_
      refine W.block ?_
      refine W.seq ?_
      refine W.regionL (l:=[0,1,2,3]) rfl ?_
      refine O.val hf rfl rfl rfl (RunV.ixV (j:=j) (m:=j*5) T_elem_35 T_size_24 rfl rfl (hS.slr (j:=3) rfl) rfl (by omega) rfl) ?_
      clear hf a; intro a hf
      refine O.val hf rfl rfl rfl (RunV.ldG (j:=j) (enc:=eD) (l:=ga.all) (us:=[.int .i64 ((ga.all.getD j default).num),.int .i64 ((ga.all.getD j default).yr),.int .u8 ((ga.all.getD j default).half),.int .u8 ((ga.all.getD j default).sec),.int .i64 ((ga.all.getD j default).cyc)]) T_agg_24 T_size_24 rfl eD_len rfl (hS.slr (j:=3) rfl) (by omega) rfl) ?_
      clear hf a; intro a hf
      refine O.alloc (cs:=#[.int .i64 0,.int .i64 0,.int .u8 0,.int .u8 0,.int .i64 0]) hf hS rfl rfl T_zero_24 rfl ?_
      clear hf hS a; intro b_d8 w a hbb_d8 hS hf
      refine O.store (j:=0) (cs':=#[.int .i64 ((ga.all.getD j default).num),.int .i64 ((ga.all.getD j default).yr),.int .u8 ((ga.all.getD j default).half),.int .u8 ((ga.all.getD j default).sec),.int .i64 ((ga.all.getD j default).cyc)]) (M':=[pt b_d8 (.cells #[.int .i64 ((ga.all.getD j default).num),.int .i64 ((ga.all.getD j default).yr),.int .u8 ((ga.all.getD j default).half),.int .u8 ((ga.all.getD j default).sec),.int .i64 ((ga.all.getD j default).cyc)] 24 (0,0)),pt b_c1 (.cells #[.int .u8 c.kind,.int .i64 c.a.num,.int .i64 c.a.yr,.int .u8 c.a.half,.int .u8 c.a.sec,.int .i64 c.a.cyc,.int .i64 c.b.num,.int .i64 c.b.yr,.int .u8 c.b.half,.int .u8 c.b.sec,.int .i64 c.b.cyc,.int .i64 c.n] 26 (0,0)),mp dV bm (putAll kvs (ptrV gb.blk) (ga.all.take j)),pt ga.blk (.cells #[ga.v,.bool ga.num] 95 (0,0)),sl 24 5 ga.v ga.all.length (encs eD ga.all),pt gb.blk (.cells #[va,.bool (gb.num||ga.num)] 95 (0,0)),sl 24 5 va ((gb.all++ga.all.take j).length) (encs eD (gb.all++ga.all.take j)),bigA (rest.map (grA 95 24))]) hf hS rfl rfl rfl T_size_24 rfl rfl rfl (Nat.le_of_ble_eq_true rfl) rfl rfl ?_
      clear hS; intro w hS
      refine O.nil ?_
      refine k_seq ?_
      replace hf:Fr a 89 [] [(0,.map (some bm)),(4,.pointer (some ⟨gb.blk,0,none⟩)),(7,.pointer (some ⟨b_d8,0,none⟩)),(69,ga.v),(70,.int .i64 (ga.all.length:Int)),(71,.int .i64 (j:Int))]:=hf.to ⟨rfl,rfl,rfl,rfl,rfl,rfl,trivial⟩
      refine W.seq ?_
      refine W.regionL (l:=[0,1,2,3]) rfl ?_
      refine O.val hf rfl rfl rfl (RunV.move rfl) ?_
      clear hf a; intro a hf
      refine O.val hf rfl rfl rfl (RunV.loadN (cs':=#[.int .i64 ((ga.all.getD j default).num),.int .i64 ((ga.all.getD j default).yr),.int .u8 ((ga.all.getD j default).half),.int .u8 ((ga.all.getD j default).sec),.int .i64 ((ga.all.getD j default).cyc)]) T_agg_24 T_size_24 rfl (hS.ptAt (i:=0) rfl) (Nat.le_of_ble_eq_true rfl) rfl) ?_
      clear hf a; intro a hf
      refine O.val hf rfl rfl rfl (RunV.move rfl) ?_
      clear hf a; intro a hf
      refine O.putP (j:=2) (k:=(ga.all.getD j default)) (v:=ptrV gb.blk) (kvs:=(putAll kvs (ptrV gb.blk) (ga.all.take j))) (M':=[pt b_d8 (.cells #[.int .i64 ((ga.all.getD j default).num),.int .i64 ((ga.all.getD j default).yr),.int .u8 ((ga.all.getD j default).half),.int .u8 ((ga.all.getD j default).sec),.int .i64 ((ga.all.getD j default).cyc)] 24 (0,0)),pt b_c1 (.cells #[.int .u8 c.kind,.int .i64 c.a.num,.int .i64 c.a.yr,.int .u8 c.a.half,.int .u8 c.a.sec,.int .i64 c.a.cyc,.int .i64 c.b.num,.int .i64 c.b.yr,.int .u8 c.b.half,.int .u8 c.b.sec,.int .i64 c.b.cyc,.int .i64 c.n] 26 (0,0)),mp dV bm (setP (ga.all.getD j default) (ptrV gb.blk) (putAll kvs (ptrV gb.blk) (ga.all.take j))),pt ga.blk (.cells #[ga.v,.bool ga.num] 95 (0,0)),sl 24 5 ga.v ga.all.length (encs eD ga.all),pt gb.blk (.cells #[va,.bool (gb.num||ga.num)] 95 (0,0)),sl 24 5 va ((gb.all++ga.all.take j).length) (encs eD (gb.all++ga.all.take j)),bigA (rest.map (grA 95 24))]) hf hS rfl T_mapof_71 keyD trivial (fun _ _=>trivial) rfl rfl rfl rfl rfl ?_
      clear hS; intro w hS
      refine O.nil ?_
      refine k_seq ?_
      replace hf:Fr a 89 [] [(0,.map (some bm)),(4,.pointer (some ⟨gb.blk,0,none⟩)),(7,.pointer (some ⟨b_d8,0,none⟩)),(69,ga.v),(70,.int .i64 (ga.all.length:Int)),(71,.int .i64 (j:Int))]:=hf.to ⟨rfl,rfl,rfl,rfl,rfl,rfl,trivial⟩
      replace hf:Fr a 89 [] [(0,.map (some bm)),(4,.pointer (some ⟨gb.blk,0,none⟩)),(7,.pointer (some ⟨b_d8,0,none⟩)),(69,ga.v),(70,.int .i64 (ga.all.length:Int)),(71,.int .i64 (j:Int))]:=hf.to ⟨rfl,rfl,rfl,rfl,rfl,rfl,trivial⟩
      refine W.drawC (γ:=(Nat) × (Value)) (L0:=[(0,.map (some bm)),(4,.pointer (some ⟨gb.blk,0,none⟩)),(7,.pointer (some ⟨b_d8,0,none⟩)),(69,ga.v),(70,.int .i64 (ga.all.length:Int)),(71,.int .i64 (j:Int))]) (L1:=[]) (0,default) [6,7,10] [] [0,1,2,3,4,5,8,9] (fun i_=>match i_ with | 0=>[] | 1=>[] | 2=>[1] | 3=>[2] | 4=>[3] | 5=>[] | 6=>[5] | 7=>[4,6] | 8=>[0,1,2,3,4,5,6,7] | 9=>[0,1,2,3,4,5,6,7,8] | 10=>[0,1,2,3,4,5,6,7,9] | _=>[]) (fun i_=>match i_ with | 0=>[] | 1=>[] | 2=>[] | 3=>[] | 4=>[] | 5=>[] | 6=>[] | 7=>[6] | 8=>[6,7] | 9=>[6,7] | 10=>[6,7] | _=>[]) (fun i_=>match i_ with | 0=>[10] | 1=>[7,10] | 2=>[7,10] | 3=>[7,10] | 4=>[7,10] | 5=>[6,7,10] | 6=>[7,10] | 7=>[10] | 8=>[10] | 9=>[10] | 10=>[] | _=>[]) (fun _=>[]) (fun i_=>match i_ with | 0=>[] | 1=>[] | 2=>[] | 3=>[] | 4=>[] | 5=>[] | 6=>[7,8,9,10] | 7=>[8,9,10] | 8=>[] | 9=>[] | 10=>[] | _=>[]) (fun _=>[]) (fun i_=>match i_ with | 0=>0 | 1=>0 | 2=>0 | 3=>0 | 4=>0 | 5=>0 | 6=>0 | 7=>1 | 8=>2 | 9=>2 | 10=>2 | _=>0) (fun i_=>match i_ with | 0=>2 | 1=>1 | 2=>1 | 3=>1 | 4=>1 | 5=>0 | 6=>1 | 7=>2 | 8=>2 | 9=>2 | 10=>3 | _=>0) (fun (g:(Nat) × (Value)) j_=>match g,j_ with | ⟨b_s9,v10⟩,0=>.pointer (some ⟨gb.blk,0,none⟩) | ⟨b_s9,v10⟩,1=>.pointer (some ⟨gb.blk,0,none⟩) | ⟨b_s9,v10⟩,2=>.pointer (some ⟨gb.blk,0,none⟩) | ⟨b_s9,v10⟩,3=>.pointer (some ⟨gb.blk,0,none⟩) | ⟨b_s9,v10⟩,4=>va | ⟨b_s9,v10⟩,5=>.agg #[.int .i64 ((ga.all.getD j default).num),.int .i64 ((ga.all.getD j default).yr),.int .u8 ((ga.all.getD j default).half),.int .u8 ((ga.all.getD j default).sec),.int .i64 ((ga.all.getD j default).cyc)] | ⟨b_s9,v10⟩,6=>.slice (some ⟨b_s9,0,none⟩) 1 1 | ⟨b_s9,v10⟩,7=>v10 | ⟨b_s9,v10⟩,8=>.pointer (some ⟨gb.blk,0,none⟩) | ⟨b_s9,v10⟩,9=>.pointer (some ⟨gb.blk,0,none⟩) | _,_=>undef) (fun k_ (_:Nat→Bool) (g:(Nat) × (Value)) w=>match k_,g with | 0,⟨b_s9,v10⟩=>St w0 w (fun k=>(stA 95 24 bm kvs gs).fp k) [] [pt b_d8 (.cells #[.int .i64 ((ga.all.getD j default).num),.int .i64 ((ga.all.getD j default).yr),.int .u8 ((ga.all.getD j default).half),.int .u8 ((ga.all.getD j default).sec),.int .i64 ((ga.all.getD j default).cyc)] 24 (0,0)),pt b_c1 (.cells #[.int .u8 c.kind,.int .i64 c.a.num,.int .i64 c.a.yr,.int .u8 c.a.half,.int .u8 c.a.sec,.int .i64 c.a.cyc,.int .i64 c.b.num,.int .i64 c.b.yr,.int .u8 c.b.half,.int .u8 c.b.sec,.int .i64 c.b.cyc,.int .i64 c.n] 26 (0,0)),mp dV bm (setP (ga.all.getD j default) (ptrV gb.blk) (putAll kvs (ptrV gb.blk) (ga.all.take j))),pt ga.blk (.cells #[ga.v,.bool ga.num] 95 (0,0)),sl 24 5 ga.v ga.all.length (encs eD ga.all),pt gb.blk (.cells #[va,.bool (gb.num||ga.num)] 95 (0,0)),sl 24 5 va ((gb.all++ga.all.take j).length) (encs eD (gb.all++ga.all.take j)),bigA (rest.map (grA 95 24))] | 1,⟨b_s9,v10⟩=>St w0 w (fun k=>(stA 95 24 bm kvs gs).fp k) [] [pt b_s9 (.cells #[.int .i64 ((ga.all.getD j default).num),.int .i64 ((ga.all.getD j default).yr),.int .u8 ((ga.all.getD j default).half),.int .u8 ((ga.all.getD j default).sec),.int .i64 ((ga.all.getD j default).cyc)] 24 (0,0)),pt b_d8 (.cells #[.int .i64 ((ga.all.getD j default).num),.int .i64 ((ga.all.getD j default).yr),.int .u8 ((ga.all.getD j default).half),.int .u8 ((ga.all.getD j default).sec),.int .i64 ((ga.all.getD j default).cyc)] 24 (0,0)),pt b_c1 (.cells #[.int .u8 c.kind,.int .i64 c.a.num,.int .i64 c.a.yr,.int .u8 c.a.half,.int .u8 c.a.sec,.int .i64 c.a.cyc,.int .i64 c.b.num,.int .i64 c.b.yr,.int .u8 c.b.half,.int .u8 c.b.sec,.int .i64 c.b.cyc,.int .i64 c.n] 26 (0,0)),mp dV bm (setP (ga.all.getD j default) (ptrV gb.blk) (putAll kvs (ptrV gb.blk) (ga.all.take j))),pt ga.blk (.cells #[ga.v,.bool ga.num] 95 (0,0)),sl 24 5 ga.v ga.all.length (encs eD ga.all),pt gb.blk (.cells #[va,.bool (gb.num||ga.num)] 95 (0,0)),sl 24 5 va ((gb.all++ga.all.take j).length) (encs eD (gb.all++ga.all.take j)),bigA (rest.map (grA 95 24))] | 2,⟨b_s9,v10⟩=>St w0 w (fun k=>(stA 95 24 bm kvs gs).fp k) [] [pt b_s9 (.cells #[.int .i64 ((ga.all.getD j default).num),.int .i64 ((ga.all.getD j default).yr),.int .u8 ((ga.all.getD j default).half),.int .u8 ((ga.all.getD j default).sec),.int .i64 ((ga.all.getD j default).cyc)] 24 (0,0)),pt b_d8 (.cells #[.int .i64 ((ga.all.getD j default).num),.int .i64 ((ga.all.getD j default).yr),.int .u8 ((ga.all.getD j default).half),.int .u8 ((ga.all.getD j default).sec),.int .i64 ((ga.all.getD j default).cyc)] 24 (0,0)),pt b_c1 (.cells #[.int .u8 c.kind,.int .i64 c.a.num,.int .i64 c.a.yr,.int .u8 c.a.half,.int .u8 c.a.sec,.int .i64 c.a.cyc,.int .i64 c.b.num,.int .i64 c.b.yr,.int .u8 c.b.half,.int .u8 c.b.sec,.int .i64 c.b.cyc,.int .i64 c.n] 26 (0,0)),mp dV bm (setP (ga.all.getD j default) (ptrV gb.blk) (putAll kvs (ptrV gb.blk) (ga.all.take j))),pt ga.blk (.cells #[ga.v,.bool ga.num] 95 (0,0)),sl 24 5 ga.v ga.all.length (encs eD ga.all),pt gb.blk (.cells #[va,.bool (gb.num||ga.num)] 95 (0,0)),sl 24 5 v10 (((gb.all++ga.all.take j)++[(ga.all.getD j default)]).length) (encs eD ((gb.all++ga.all.take j)++[(ga.all.getD j default)])),bigA (rest.map (grA 95 24))] | _,⟨b_s9,v10⟩=>St w0 w (fun k=>(stA 95 24 bm kvs gs).fp k) [] [pt b_s9 (.cells #[.int .i64 ((ga.all.getD j default).num),.int .i64 ((ga.all.getD j default).yr),.int .u8 ((ga.all.getD j default).half),.int .u8 ((ga.all.getD j default).sec),.int .i64 ((ga.all.getD j default).cyc)] 24 (0,0)),pt b_d8 (.cells #[.int .i64 ((ga.all.getD j default).num),.int .i64 ((ga.all.getD j default).yr),.int .u8 ((ga.all.getD j default).half),.int .u8 ((ga.all.getD j default).sec),.int .i64 ((ga.all.getD j default).cyc)] 24 (0,0)),pt b_c1 (.cells #[.int .u8 c.kind,.int .i64 c.a.num,.int .i64 c.a.yr,.int .u8 c.a.half,.int .u8 c.a.sec,.int .i64 c.a.cyc,.int .i64 c.b.num,.int .i64 c.b.yr,.int .u8 c.b.half,.int .u8 c.b.sec,.int .i64 c.b.cyc,.int .i64 c.n] 26 (0,0)),mp dV bm (setP (ga.all.getD j default) (ptrV gb.blk) (putAll kvs (ptrV gb.blk) (ga.all.take j))),pt ga.blk (.cells #[ga.v,.bool ga.num] 95 (0,0)),sl 24 5 ga.v ga.all.length (encs eD ga.all),pt gb.blk (.cells #[v10,.bool (gb.num||ga.num)] 95 (0,0)),sl 24 5 v10 (((gb.all++ga.all.take j)++[(ga.all.getD j default)]).length) (encs eD ((gb.all++ga.all.take j)++[(ga.all.getD j default)])),bigA (rest.map (grA 95 24))]) P_mixed (by kernel_rfl) (by kernel_rfl) (by kernel_rfl) hf (hf.to trivial) hS.drew ?_ ?_ trivial ?_
      · clear hf hS
        refine ⟨?_,?_,?_,?_,?_,?_,?_,?_,trivial⟩
        · intro k_ s_ g w hlo hhi _ hD a hf
          obtain ⟨b_s9,v10⟩:=g
          rcases k_ with _ | _ | _ | k_
          · have hS:St w0 w (fun k=>(stA 95 24 bm kvs gs).fp k) [] [pt b_d8 (.cells #[.int .i64 ((ga.all.getD j default).num),.int .i64 ((ga.all.getD j default).yr),.int .u8 ((ga.all.getD j default).half),.int .u8 ((ga.all.getD j default).sec),.int .i64 ((ga.all.getD j default).cyc)] 24 (0,0)),pt b_c1 (.cells #[.int .u8 c.kind,.int .i64 c.a.num,.int .i64 c.a.yr,.int .u8 c.a.half,.int .u8 c.a.sec,.int .i64 c.a.cyc,.int .i64 c.b.num,.int .i64 c.b.yr,.int .u8 c.b.half,.int .u8 c.b.sec,.int .i64 c.b.cyc,.int .i64 c.n] 26 (0,0)),mp dV bm (setP (ga.all.getD j default) (ptrV gb.blk) (putAll kvs (ptrV gb.blk) (ga.all.take j))),pt ga.blk (.cells #[ga.v,.bool ga.num] 95 (0,0)),sl 24 5 ga.v ga.all.length (encs eD ga.all),pt gb.blk (.cells #[va,.bool (gb.num||ga.num)] 95 (0,0)),sl 24 5 va ((gb.all++ga.all.take j).length) (encs eD (gb.all++ga.all.take j)),bigA (rest.map (grA 95 24))]:=hD; clear hD
            replace hf:Fr a 89 [] [(0,.map (some bm)),(4,.pointer (some ⟨gb.blk,0,none⟩)),(7,.pointer (some ⟨b_d8,0,none⟩)),(69,ga.v),(70,.int .i64 (ga.all.length:Int)),(71,.int .i64 (j:Int))]:=hf
            refine O.val hf rfl rfl rfl (RunV.move rfl) ?_
            clear hf a; intro a hf
            exact O.nil ⟨rfl,hf.to trivial,(fun d hd=>by cases (show some 78=some d from hd); exact hf.get _ _ rfl),hS⟩
          · have hS:St w0 w (fun k=>(stA 95 24 bm kvs gs).fp k) [] [pt b_s9 (.cells #[.int .i64 ((ga.all.getD j default).num),.int .i64 ((ga.all.getD j default).yr),.int .u8 ((ga.all.getD j default).half),.int .u8 ((ga.all.getD j default).sec),.int .i64 ((ga.all.getD j default).cyc)] 24 (0,0)),pt b_d8 (.cells #[.int .i64 ((ga.all.getD j default).num),.int .i64 ((ga.all.getD j default).yr),.int .u8 ((ga.all.getD j default).half),.int .u8 ((ga.all.getD j default).sec),.int .i64 ((ga.all.getD j default).cyc)] 24 (0,0)),pt b_c1 (.cells #[.int .u8 c.kind,.int .i64 c.a.num,.int .i64 c.a.yr,.int .u8 c.a.half,.int .u8 c.a.sec,.int .i64 c.a.cyc,.int .i64 c.b.num,.int .i64 c.b.yr,.int .u8 c.b.half,.int .u8 c.b.sec,.int .i64 c.b.cyc,.int .i64 c.n] 26 (0,0)),mp dV bm (setP (ga.all.getD j default) (ptrV gb.blk) (putAll kvs (ptrV gb.blk) (ga.all.take j))),pt ga.blk (.cells #[ga.v,.bool ga.num] 95 (0,0)),sl 24 5 ga.v ga.all.length (encs eD ga.all),pt gb.blk (.cells #[va,.bool (gb.num||ga.num)] 95 (0,0)),sl 24 5 va ((gb.all++ga.all.take j).length) (encs eD (gb.all++ga.all.take j)),bigA (rest.map (grA 95 24))]:=hD; clear hD
            replace hf:Fr a 89 [] [(0,.map (some bm)),(4,.pointer (some ⟨gb.blk,0,none⟩)),(7,.pointer (some ⟨b_d8,0,none⟩)),(69,ga.v),(70,.int .i64 (ga.all.length:Int)),(71,.int .i64 (j:Int))]:=hf
            refine O.val hf rfl rfl rfl (RunV.move rfl) ?_
            clear hf a; intro a hf
            exact O.nil ⟨rfl,hf.to trivial,(fun d hd=>by cases (show some 78=some d from hd); exact hf.get _ _ rfl),hS⟩
          · have hS:St w0 w (fun k=>(stA 95 24 bm kvs gs).fp k) [] [pt b_s9 (.cells #[.int .i64 ((ga.all.getD j default).num),.int .i64 ((ga.all.getD j default).yr),.int .u8 ((ga.all.getD j default).half),.int .u8 ((ga.all.getD j default).sec),.int .i64 ((ga.all.getD j default).cyc)] 24 (0,0)),pt b_d8 (.cells #[.int .i64 ((ga.all.getD j default).num),.int .i64 ((ga.all.getD j default).yr),.int .u8 ((ga.all.getD j default).half),.int .u8 ((ga.all.getD j default).sec),.int .i64 ((ga.all.getD j default).cyc)] 24 (0,0)),pt b_c1 (.cells #[.int .u8 c.kind,.int .i64 c.a.num,.int .i64 c.a.yr,.int .u8 c.a.half,.int .u8 c.a.sec,.int .i64 c.a.cyc,.int .i64 c.b.num,.int .i64 c.b.yr,.int .u8 c.b.half,.int .u8 c.b.sec,.int .i64 c.b.cyc,.int .i64 c.n] 26 (0,0)),mp dV bm (setP (ga.all.getD j default) (ptrV gb.blk) (putAll kvs (ptrV gb.blk) (ga.all.take j))),pt ga.blk (.cells #[ga.v,.bool ga.num] 95 (0,0)),sl 24 5 ga.v ga.all.length (encs eD ga.all),pt gb.blk (.cells #[va,.bool (gb.num||ga.num)] 95 (0,0)),sl 24 5 v10 (((gb.all++ga.all.take j)++[(ga.all.getD j default)]).length) (encs eD ((gb.all++ga.all.take j)++[(ga.all.getD j default)])),bigA (rest.map (grA 95 24))]:=hD; clear hD
            replace hf:Fr a 89 [] [(0,.map (some bm)),(4,.pointer (some ⟨gb.blk,0,none⟩)),(7,.pointer (some ⟨b_d8,0,none⟩)),(69,ga.v),(70,.int .i64 (ga.all.length:Int)),(71,.int .i64 (j:Int))]:=hf
            refine O.val hf rfl rfl rfl (RunV.move rfl) ?_
            clear hf a; intro a hf
            exact O.nil ⟨rfl,hf.to trivial,(fun d hd=>by cases (show some 78=some d from hd); exact hf.get _ _ rfl),hS⟩
          · have hhi:k_+3≤2:=hhi; omega
        · intro k_ s_ g w hlo hhi _ hD a hf
          obtain ⟨b_s9,v10⟩:=g
          rcases k_ with _ | _ | _ | k_
          · have hS:St w0 w (fun k=>(stA 95 24 bm kvs gs).fp k) [] [pt b_d8 (.cells #[.int .i64 ((ga.all.getD j default).num),.int .i64 ((ga.all.getD j default).yr),.int .u8 ((ga.all.getD j default).half),.int .u8 ((ga.all.getD j default).sec),.int .i64 ((ga.all.getD j default).cyc)] 24 (0,0)),pt b_c1 (.cells #[.int .u8 c.kind,.int .i64 c.a.num,.int .i64 c.a.yr,.int .u8 c.a.half,.int .u8 c.a.sec,.int .i64 c.a.cyc,.int .i64 c.b.num,.int .i64 c.b.yr,.int .u8 c.b.half,.int .u8 c.b.sec,.int .i64 c.b.cyc,.int .i64 c.n] 26 (0,0)),mp dV bm (setP (ga.all.getD j default) (ptrV gb.blk) (putAll kvs (ptrV gb.blk) (ga.all.take j))),pt ga.blk (.cells #[ga.v,.bool ga.num] 95 (0,0)),sl 24 5 ga.v ga.all.length (encs eD ga.all),pt gb.blk (.cells #[va,.bool (gb.num||ga.num)] 95 (0,0)),sl 24 5 va ((gb.all++ga.all.take j).length) (encs eD (gb.all++ga.all.take j)),bigA (rest.map (grA 95 24))]:=hD; clear hD
            replace hf:Fr a 89 [] [(0,.map (some bm)),(4,.pointer (some ⟨gb.blk,0,none⟩)),(7,.pointer (some ⟨b_d8,0,none⟩)),(69,ga.v),(70,.int .i64 (ga.all.length:Int)),(71,.int .i64 (j:Int))]:=hf
            refine O.val hf rfl rfl rfl (RunV.move rfl) ?_
            clear hf a; intro a hf
            exact O.nil ⟨rfl,hf.to trivial,(fun d hd=>by cases (show some 79=some d from hd); exact hf.get _ _ rfl),hS⟩
          · have hS:St w0 w (fun k=>(stA 95 24 bm kvs gs).fp k) [] [pt b_s9 (.cells #[.int .i64 ((ga.all.getD j default).num),.int .i64 ((ga.all.getD j default).yr),.int .u8 ((ga.all.getD j default).half),.int .u8 ((ga.all.getD j default).sec),.int .i64 ((ga.all.getD j default).cyc)] 24 (0,0)),pt b_d8 (.cells #[.int .i64 ((ga.all.getD j default).num),.int .i64 ((ga.all.getD j default).yr),.int .u8 ((ga.all.getD j default).half),.int .u8 ((ga.all.getD j default).sec),.int .i64 ((ga.all.getD j default).cyc)] 24 (0,0)),pt b_c1 (.cells #[.int .u8 c.kind,.int .i64 c.a.num,.int .i64 c.a.yr,.int .u8 c.a.half,.int .u8 c.a.sec,.int .i64 c.a.cyc,.int .i64 c.b.num,.int .i64 c.b.yr,.int .u8 c.b.half,.int .u8 c.b.sec,.int .i64 c.b.cyc,.int .i64 c.n] 26 (0,0)),mp dV bm (setP (ga.all.getD j default) (ptrV gb.blk) (putAll kvs (ptrV gb.blk) (ga.all.take j))),pt ga.blk (.cells #[ga.v,.bool ga.num] 95 (0,0)),sl 24 5 ga.v ga.all.length (encs eD ga.all),pt gb.blk (.cells #[va,.bool (gb.num||ga.num)] 95 (0,0)),sl 24 5 va ((gb.all++ga.all.take j).length) (encs eD (gb.all++ga.all.take j)),bigA (rest.map (grA 95 24))]:=hD; clear hD
            replace hf:Fr a 89 [] [(0,.map (some bm)),(4,.pointer (some ⟨gb.blk,0,none⟩)),(7,.pointer (some ⟨b_d8,0,none⟩)),(69,ga.v),(70,.int .i64 (ga.all.length:Int)),(71,.int .i64 (j:Int))]:=hf
            refine O.val hf rfl rfl rfl (RunV.move rfl) ?_
            clear hf a; intro a hf
            exact O.nil ⟨rfl,hf.to trivial,(fun d hd=>by cases (show some 79=some d from hd); exact hf.get _ _ rfl),hS⟩
          · exact absurd hhi (by decide)
          · have hhi:k_+3≤1:=hhi; omega
        · intro k_ s_ g w hlo hhi _ hD a hf
          obtain ⟨b_s9,v10⟩:=g
          rcases k_ with _ | _ | _ | k_
          · have hS:St w0 w (fun k=>(stA 95 24 bm kvs gs).fp k) [] [pt b_d8 (.cells #[.int .i64 ((ga.all.getD j default).num),.int .i64 ((ga.all.getD j default).yr),.int .u8 ((ga.all.getD j default).half),.int .u8 ((ga.all.getD j default).sec),.int .i64 ((ga.all.getD j default).cyc)] 24 (0,0)),pt b_c1 (.cells #[.int .u8 c.kind,.int .i64 c.a.num,.int .i64 c.a.yr,.int .u8 c.a.half,.int .u8 c.a.sec,.int .i64 c.a.cyc,.int .i64 c.b.num,.int .i64 c.b.yr,.int .u8 c.b.half,.int .u8 c.b.sec,.int .i64 c.b.cyc,.int .i64 c.n] 26 (0,0)),mp dV bm (setP (ga.all.getD j default) (ptrV gb.blk) (putAll kvs (ptrV gb.blk) (ga.all.take j))),pt ga.blk (.cells #[ga.v,.bool ga.num] 95 (0,0)),sl 24 5 ga.v ga.all.length (encs eD ga.all),pt gb.blk (.cells #[va,.bool (gb.num||ga.num)] 95 (0,0)),sl 24 5 va ((gb.all++ga.all.take j).length) (encs eD (gb.all++ga.all.take j)),bigA (rest.map (grA 95 24))]:=hD; clear hD
            replace hf:Fr a 89 [] [(79,.pointer (some ⟨gb.blk,0,none⟩)),(0,.map (some bm)),(4,.pointer (some ⟨gb.blk,0,none⟩)),(7,.pointer (some ⟨b_d8,0,none⟩)),(69,ga.v),(70,.int .i64 (ga.all.length:Int)),(71,.int .i64 (j:Int))]:=hf
            refine O.val hf rfl rfl rfl (RunV.nilCheck rfl) ?_
            clear hf a; intro a hf
            exact O.nil ⟨rfl,hf.to trivial,(fun d hd=>by cases (show some 80=some d from hd); exact hf.get _ _ rfl),hS⟩
          · have hS:St w0 w (fun k=>(stA 95 24 bm kvs gs).fp k) [] [pt b_s9 (.cells #[.int .i64 ((ga.all.getD j default).num),.int .i64 ((ga.all.getD j default).yr),.int .u8 ((ga.all.getD j default).half),.int .u8 ((ga.all.getD j default).sec),.int .i64 ((ga.all.getD j default).cyc)] 24 (0,0)),pt b_d8 (.cells #[.int .i64 ((ga.all.getD j default).num),.int .i64 ((ga.all.getD j default).yr),.int .u8 ((ga.all.getD j default).half),.int .u8 ((ga.all.getD j default).sec),.int .i64 ((ga.all.getD j default).cyc)] 24 (0,0)),pt b_c1 (.cells #[.int .u8 c.kind,.int .i64 c.a.num,.int .i64 c.a.yr,.int .u8 c.a.half,.int .u8 c.a.sec,.int .i64 c.a.cyc,.int .i64 c.b.num,.int .i64 c.b.yr,.int .u8 c.b.half,.int .u8 c.b.sec,.int .i64 c.b.cyc,.int .i64 c.n] 26 (0,0)),mp dV bm (setP (ga.all.getD j default) (ptrV gb.blk) (putAll kvs (ptrV gb.blk) (ga.all.take j))),pt ga.blk (.cells #[ga.v,.bool ga.num] 95 (0,0)),sl 24 5 ga.v ga.all.length (encs eD ga.all),pt gb.blk (.cells #[va,.bool (gb.num||ga.num)] 95 (0,0)),sl 24 5 va ((gb.all++ga.all.take j).length) (encs eD (gb.all++ga.all.take j)),bigA (rest.map (grA 95 24))]:=hD; clear hD
            replace hf:Fr a 89 [] [(79,.pointer (some ⟨gb.blk,0,none⟩)),(0,.map (some bm)),(4,.pointer (some ⟨gb.blk,0,none⟩)),(7,.pointer (some ⟨b_d8,0,none⟩)),(69,ga.v),(70,.int .i64 (ga.all.length:Int)),(71,.int .i64 (j:Int))]:=hf
            refine O.val hf rfl rfl rfl (RunV.nilCheck rfl) ?_
            clear hf a; intro a hf
            exact O.nil ⟨rfl,hf.to trivial,(fun d hd=>by cases (show some 80=some d from hd); exact hf.get _ _ rfl),hS⟩
          · exact absurd hhi (by decide)
          · have hhi:k_+3≤1:=hhi; omega
        · intro k_ s_ g w hlo hhi _ hD a hf
          obtain ⟨b_s9,v10⟩:=g
          rcases k_ with _ | _ | _ | k_
          · have hS:St w0 w (fun k=>(stA 95 24 bm kvs gs).fp k) [] [pt b_d8 (.cells #[.int .i64 ((ga.all.getD j default).num),.int .i64 ((ga.all.getD j default).yr),.int .u8 ((ga.all.getD j default).half),.int .u8 ((ga.all.getD j default).sec),.int .i64 ((ga.all.getD j default).cyc)] 24 (0,0)),pt b_c1 (.cells #[.int .u8 c.kind,.int .i64 c.a.num,.int .i64 c.a.yr,.int .u8 c.a.half,.int .u8 c.a.sec,.int .i64 c.a.cyc,.int .i64 c.b.num,.int .i64 c.b.yr,.int .u8 c.b.half,.int .u8 c.b.sec,.int .i64 c.b.cyc,.int .i64 c.n] 26 (0,0)),mp dV bm (setP (ga.all.getD j default) (ptrV gb.blk) (putAll kvs (ptrV gb.blk) (ga.all.take j))),pt ga.blk (.cells #[ga.v,.bool ga.num] 95 (0,0)),sl 24 5 ga.v ga.all.length (encs eD ga.all),pt gb.blk (.cells #[va,.bool (gb.num||ga.num)] 95 (0,0)),sl 24 5 va ((gb.all++ga.all.take j).length) (encs eD (gb.all++ga.all.take j)),bigA (rest.map (grA 95 24))]:=hD; clear hD
            replace hf:Fr a 89 [] [(80,.pointer (some ⟨gb.blk,0,none⟩)),(0,.map (some bm)),(4,.pointer (some ⟨gb.blk,0,none⟩)),(7,.pointer (some ⟨b_d8,0,none⟩)),(69,ga.v),(70,.int .i64 (ga.all.length:Int)),(71,.int .i64 (j:Int))]:=hf
            refine O.val hf rfl rfl rfl (RunV.field T_field_95_0 rfl rfl) ?_
            clear hf a; intro a hf
            exact O.nil ⟨rfl,hf.to trivial,(fun d hd=>by cases (show some 81=some d from hd); exact hf.get _ _ rfl),hS⟩
          · have hS:St w0 w (fun k=>(stA 95 24 bm kvs gs).fp k) [] [pt b_s9 (.cells #[.int .i64 ((ga.all.getD j default).num),.int .i64 ((ga.all.getD j default).yr),.int .u8 ((ga.all.getD j default).half),.int .u8 ((ga.all.getD j default).sec),.int .i64 ((ga.all.getD j default).cyc)] 24 (0,0)),pt b_d8 (.cells #[.int .i64 ((ga.all.getD j default).num),.int .i64 ((ga.all.getD j default).yr),.int .u8 ((ga.all.getD j default).half),.int .u8 ((ga.all.getD j default).sec),.int .i64 ((ga.all.getD j default).cyc)] 24 (0,0)),pt b_c1 (.cells #[.int .u8 c.kind,.int .i64 c.a.num,.int .i64 c.a.yr,.int .u8 c.a.half,.int .u8 c.a.sec,.int .i64 c.a.cyc,.int .i64 c.b.num,.int .i64 c.b.yr,.int .u8 c.b.half,.int .u8 c.b.sec,.int .i64 c.b.cyc,.int .i64 c.n] 26 (0,0)),mp dV bm (setP (ga.all.getD j default) (ptrV gb.blk) (putAll kvs (ptrV gb.blk) (ga.all.take j))),pt ga.blk (.cells #[ga.v,.bool ga.num] 95 (0,0)),sl 24 5 ga.v ga.all.length (encs eD ga.all),pt gb.blk (.cells #[va,.bool (gb.num||ga.num)] 95 (0,0)),sl 24 5 va ((gb.all++ga.all.take j).length) (encs eD (gb.all++ga.all.take j)),bigA (rest.map (grA 95 24))]:=hD; clear hD
            replace hf:Fr a 89 [] [(80,.pointer (some ⟨gb.blk,0,none⟩)),(0,.map (some bm)),(4,.pointer (some ⟨gb.blk,0,none⟩)),(7,.pointer (some ⟨b_d8,0,none⟩)),(69,ga.v),(70,.int .i64 (ga.all.length:Int)),(71,.int .i64 (j:Int))]:=hf
            refine O.val hf rfl rfl rfl (RunV.field T_field_95_0 rfl rfl) ?_
            clear hf a; intro a hf
            exact O.nil ⟨rfl,hf.to trivial,(fun d hd=>by cases (show some 81=some d from hd); exact hf.get _ _ rfl),hS⟩
          · exact absurd hhi (by decide)
          · have hhi:k_+3≤1:=hhi; omega
        · intro k_ s_ g w hlo hhi _ hD a hf
          obtain ⟨b_s9,v10⟩:=g
          rcases k_ with _ | _ | _ | k_
          · have hS:St w0 w (fun k=>(stA 95 24 bm kvs gs).fp k) [] [pt b_d8 (.cells #[.int .i64 ((ga.all.getD j default).num),.int .i64 ((ga.all.getD j default).yr),.int .u8 ((ga.all.getD j default).half),.int .u8 ((ga.all.getD j default).sec),.int .i64 ((ga.all.getD j default).cyc)] 24 (0,0)),pt b_c1 (.cells #[.int .u8 c.kind,.int .i64 c.a.num,.int .i64 c.a.yr,.int .u8 c.a.half,.int .u8 c.a.sec,.int .i64 c.a.cyc,.int .i64 c.b.num,.int .i64 c.b.yr,.int .u8 c.b.half,.int .u8 c.b.sec,.int .i64 c.b.cyc,.int .i64 c.n] 26 (0,0)),mp dV bm (setP (ga.all.getD j default) (ptrV gb.blk) (putAll kvs (ptrV gb.blk) (ga.all.take j))),pt ga.blk (.cells #[ga.v,.bool ga.num] 95 (0,0)),sl 24 5 ga.v ga.all.length (encs eD ga.all),pt gb.blk (.cells #[va,.bool (gb.num||ga.num)] 95 (0,0)),sl 24 5 va ((gb.all++ga.all.take j).length) (encs eD (gb.all++ga.all.take j)),bigA (rest.map (grA 95 24))]:=hD; clear hD
            replace hf:Fr a 89 [] [(81,.pointer (some ⟨gb.blk,0,none⟩)),(0,.map (some bm)),(4,.pointer (some ⟨gb.blk,0,none⟩)),(7,.pointer (some ⟨b_d8,0,none⟩)),(69,ga.v),(70,.int .i64 (ga.all.length:Int)),(71,.int .i64 (j:Int))]:=hf
            refine O.val hf rfl rfl rfl (RunV.load1 T_agg_35 rfl (hS.ptAt (i:=5) rfl) rfl) ?_
            clear hf a; intro a hf
            exact O.nil ⟨rfl,hf.to trivial,(fun d hd=>by cases (show some 82=some d from hd); exact hf.get _ _ rfl),hS⟩
          · have hS:St w0 w (fun k=>(stA 95 24 bm kvs gs).fp k) [] [pt b_s9 (.cells #[.int .i64 ((ga.all.getD j default).num),.int .i64 ((ga.all.getD j default).yr),.int .u8 ((ga.all.getD j default).half),.int .u8 ((ga.all.getD j default).sec),.int .i64 ((ga.all.getD j default).cyc)] 24 (0,0)),pt b_d8 (.cells #[.int .i64 ((ga.all.getD j default).num),.int .i64 ((ga.all.getD j default).yr),.int .u8 ((ga.all.getD j default).half),.int .u8 ((ga.all.getD j default).sec),.int .i64 ((ga.all.getD j default).cyc)] 24 (0,0)),pt b_c1 (.cells #[.int .u8 c.kind,.int .i64 c.a.num,.int .i64 c.a.yr,.int .u8 c.a.half,.int .u8 c.a.sec,.int .i64 c.a.cyc,.int .i64 c.b.num,.int .i64 c.b.yr,.int .u8 c.b.half,.int .u8 c.b.sec,.int .i64 c.b.cyc,.int .i64 c.n] 26 (0,0)),mp dV bm (setP (ga.all.getD j default) (ptrV gb.blk) (putAll kvs (ptrV gb.blk) (ga.all.take j))),pt ga.blk (.cells #[ga.v,.bool ga.num] 95 (0,0)),sl 24 5 ga.v ga.all.length (encs eD ga.all),pt gb.blk (.cells #[va,.bool (gb.num||ga.num)] 95 (0,0)),sl 24 5 va ((gb.all++ga.all.take j).length) (encs eD (gb.all++ga.all.take j)),bigA (rest.map (grA 95 24))]:=hD; clear hD
            replace hf:Fr a 89 [] [(81,.pointer (some ⟨gb.blk,0,none⟩)),(0,.map (some bm)),(4,.pointer (some ⟨gb.blk,0,none⟩)),(7,.pointer (some ⟨b_d8,0,none⟩)),(69,ga.v),(70,.int .i64 (ga.all.length:Int)),(71,.int .i64 (j:Int))]:=hf
            refine O.val hf rfl rfl rfl (RunV.load1 T_agg_35 rfl (hS.ptAt (i:=6) rfl) rfl) ?_
            clear hf a; intro a hf
            exact O.nil ⟨rfl,hf.to trivial,(fun d hd=>by cases (show some 82=some d from hd); exact hf.get _ _ rfl),hS⟩
          · exact absurd hhi (by decide)
          · have hhi:k_+3≤1:=hhi; omega
        · intro k_ s_ g w hlo hhi _ hD a hf
          obtain ⟨b_s9,v10⟩:=g
          rcases k_ with _ | _ | _ | k_
          · have hS:St w0 w (fun k=>(stA 95 24 bm kvs gs).fp k) [] [pt b_d8 (.cells #[.int .i64 ((ga.all.getD j default).num),.int .i64 ((ga.all.getD j default).yr),.int .u8 ((ga.all.getD j default).half),.int .u8 ((ga.all.getD j default).sec),.int .i64 ((ga.all.getD j default).cyc)] 24 (0,0)),pt b_c1 (.cells #[.int .u8 c.kind,.int .i64 c.a.num,.int .i64 c.a.yr,.int .u8 c.a.half,.int .u8 c.a.sec,.int .i64 c.a.cyc,.int .i64 c.b.num,.int .i64 c.b.yr,.int .u8 c.b.half,.int .u8 c.b.sec,.int .i64 c.b.cyc,.int .i64 c.n] 26 (0,0)),mp dV bm (setP (ga.all.getD j default) (ptrV gb.blk) (putAll kvs (ptrV gb.blk) (ga.all.take j))),pt ga.blk (.cells #[ga.v,.bool ga.num] 95 (0,0)),sl 24 5 ga.v ga.all.length (encs eD ga.all),pt gb.blk (.cells #[va,.bool (gb.num||ga.num)] 95 (0,0)),sl 24 5 va ((gb.all++ga.all.take j).length) (encs eD (gb.all++ga.all.take j)),bigA (rest.map (grA 95 24))]:=hD; clear hD
            replace hf:Fr a 89 [] [(0,.map (some bm)),(4,.pointer (some ⟨gb.blk,0,none⟩)),(7,.pointer (some ⟨b_d8,0,none⟩)),(69,ga.v),(70,.int .i64 (ga.all.length:Int)),(71,.int .i64 (j:Int))]:=hf
            refine O.val hf rfl rfl rfl (RunV.loadN (cs':=#[.int .i64 ((ga.all.getD j default).num),.int .i64 ((ga.all.getD j default).yr),.int .u8 ((ga.all.getD j default).half),.int .u8 ((ga.all.getD j default).sec),.int .i64 ((ga.all.getD j default).cyc)]) T_agg_24 T_size_24 rfl (hS.ptAt (i:=0) rfl) (Nat.le_of_ble_eq_true rfl) rfl) ?_
            clear hf a; intro a hf
            exact O.nil ⟨rfl,hf.to trivial,(fun d hd=>by cases (show some 83=some d from hd); exact hf.get _ _ rfl),hS⟩
          · exact absurd hhi (by decide)
          · exact absurd hhi (by decide)
          · have hhi:k_+3≤0:=hhi; omega
        · intro k_ s_ g w hlo hhi _ hD a hf
          obtain ⟨b_s9,v10⟩:=g
          rcases k_ with _ | _ | _ | k_
          · exact absurd hlo (by decide)
          · exact absurd hlo (by decide)
          · have hS:St w0 w (fun k=>(stA 95 24 bm kvs gs).fp k) [] [pt b_s9 (.cells #[.int .i64 ((ga.all.getD j default).num),.int .i64 ((ga.all.getD j default).yr),.int .u8 ((ga.all.getD j default).half),.int .u8 ((ga.all.getD j default).sec),.int .i64 ((ga.all.getD j default).cyc)] 24 (0,0)),pt b_d8 (.cells #[.int .i64 ((ga.all.getD j default).num),.int .i64 ((ga.all.getD j default).yr),.int .u8 ((ga.all.getD j default).half),.int .u8 ((ga.all.getD j default).sec),.int .i64 ((ga.all.getD j default).cyc)] 24 (0,0)),pt b_c1 (.cells #[.int .u8 c.kind,.int .i64 c.a.num,.int .i64 c.a.yr,.int .u8 c.a.half,.int .u8 c.a.sec,.int .i64 c.a.cyc,.int .i64 c.b.num,.int .i64 c.b.yr,.int .u8 c.b.half,.int .u8 c.b.sec,.int .i64 c.b.cyc,.int .i64 c.n] 26 (0,0)),mp dV bm (setP (ga.all.getD j default) (ptrV gb.blk) (putAll kvs (ptrV gb.blk) (ga.all.take j))),pt ga.blk (.cells #[ga.v,.bool ga.num] 95 (0,0)),sl 24 5 ga.v ga.all.length (encs eD ga.all),pt gb.blk (.cells #[va,.bool (gb.num||ga.num)] 95 (0,0)),sl 24 5 v10 (((gb.all++ga.all.take j)++[(ga.all.getD j default)]).length) (encs eD ((gb.all++ga.all.take j)++[(ga.all.getD j default)])),bigA (rest.map (grA 95 24))]:=hD; clear hD
            replace hf:Fr a 89 [] [(78,.pointer (some ⟨gb.blk,0,none⟩)),(79,.pointer (some ⟨gb.blk,0,none⟩)),(80,.pointer (some ⟨gb.blk,0,none⟩)),(81,.pointer (some ⟨gb.blk,0,none⟩)),(82,va),(83,.agg #[.int .i64 ((ga.all.getD j default).num),.int .i64 ((ga.all.getD j default).yr),.int .u8 ((ga.all.getD j default).half),.int .u8 ((ga.all.getD j default).sec),.int .i64 ((ga.all.getD j default).cyc)]),(84,.slice (some ⟨b_s9,0,none⟩) 1 1),(85,v10),(0,.map (some bm)),(4,.pointer (some ⟨gb.blk,0,none⟩)),(7,.pointer (some ⟨b_d8,0,none⟩)),(69,ga.v),(70,.int .i64 (ga.all.length:Int)),(71,.int .i64 (j:Int))]:=hf
            refine O.val hf rfl rfl rfl (RunV.nilCheck rfl) ?_
            clear hf a; intro a hf
            exact O.nil ⟨rfl,hf.to trivial,(fun d hd=>by cases (show some 86=some d from hd); exact hf.get _ _ rfl),hS⟩
          · have hhi:k_+3≤2:=hhi; omega
        · intro k_ s_ g w hlo hhi _ hD a hf
          obtain ⟨b_s9,v10⟩:=g
          rcases k_ with _ | _ | _ | k_
          · exact absurd hlo (by decide)
          · exact absurd hlo (by decide)
          · have hS:St w0 w (fun k=>(stA 95 24 bm kvs gs).fp k) [] [pt b_s9 (.cells #[.int .i64 ((ga.all.getD j default).num),.int .i64 ((ga.all.getD j default).yr),.int .u8 ((ga.all.getD j default).half),.int .u8 ((ga.all.getD j default).sec),.int .i64 ((ga.all.getD j default).cyc)] 24 (0,0)),pt b_d8 (.cells #[.int .i64 ((ga.all.getD j default).num),.int .i64 ((ga.all.getD j default).yr),.int .u8 ((ga.all.getD j default).half),.int .u8 ((ga.all.getD j default).sec),.int .i64 ((ga.all.getD j default).cyc)] 24 (0,0)),pt b_c1 (.cells #[.int .u8 c.kind,.int .i64 c.a.num,.int .i64 c.a.yr,.int .u8 c.a.half,.int .u8 c.a.sec,.int .i64 c.a.cyc,.int .i64 c.b.num,.int .i64 c.b.yr,.int .u8 c.b.half,.int .u8 c.b.sec,.int .i64 c.b.cyc,.int .i64 c.n] 26 (0,0)),mp dV bm (setP (ga.all.getD j default) (ptrV gb.blk) (putAll kvs (ptrV gb.blk) (ga.all.take j))),pt ga.blk (.cells #[ga.v,.bool ga.num] 95 (0,0)),sl 24 5 ga.v ga.all.length (encs eD ga.all),pt gb.blk (.cells #[va,.bool (gb.num||ga.num)] 95 (0,0)),sl 24 5 v10 (((gb.all++ga.all.take j)++[(ga.all.getD j default)]).length) (encs eD ((gb.all++ga.all.take j)++[(ga.all.getD j default)])),bigA (rest.map (grA 95 24))]:=hD; clear hD
            replace hf:Fr a 89 [] [(78,.pointer (some ⟨gb.blk,0,none⟩)),(79,.pointer (some ⟨gb.blk,0,none⟩)),(80,.pointer (some ⟨gb.blk,0,none⟩)),(81,.pointer (some ⟨gb.blk,0,none⟩)),(82,va),(83,.agg #[.int .i64 ((ga.all.getD j default).num),.int .i64 ((ga.all.getD j default).yr),.int .u8 ((ga.all.getD j default).half),.int .u8 ((ga.all.getD j default).sec),.int .i64 ((ga.all.getD j default).cyc)]),(84,.slice (some ⟨b_s9,0,none⟩) 1 1),(85,v10),(86,.pointer (some ⟨gb.blk,0,none⟩)),(0,.map (some bm)),(4,.pointer (some ⟨gb.blk,0,none⟩)),(7,.pointer (some ⟨b_d8,0,none⟩)),(69,ga.v),(70,.int .i64 (ga.all.length:Int)),(71,.int .i64 (j:Int))]:=hf
            refine O.val hf rfl rfl rfl (RunV.field T_field_95_0 rfl rfl) ?_
            clear hf a; intro a hf
            exact O.nil ⟨rfl,hf.to trivial,(fun d hd=>by cases (show some 87=some d from hd); exact hf.get _ _ rfl),hS⟩
          · have hhi:k_+3≤2:=hhi; omega
      · clear hf hS
        refine ⟨?_,?_,?_,trivial⟩
        · intro s_ g w _ hD a hf
          obtain ⟨b_s9,v10⟩:=g
          have hS:St w0 w (fun k=>(stA 95 24 bm kvs gs).fp k) [] [pt b_d8 (.cells #[.int .i64 ((ga.all.getD j default).num),.int .i64 ((ga.all.getD j default).yr),.int .u8 ((ga.all.getD j default).half),.int .u8 ((ga.all.getD j default).sec),.int .i64 ((ga.all.getD j default).cyc)] 24 (0,0)),pt b_c1 (.cells #[.int .u8 c.kind,.int .i64 c.a.num,.int .i64 c.a.yr,.int .u8 c.a.half,.int .u8 c.a.sec,.int .i64 c.a.cyc,.int .i64 c.b.num,.int .i64 c.b.yr,.int .u8 c.b.half,.int .u8 c.b.sec,.int .i64 c.b.cyc,.int .i64 c.n] 26 (0,0)),mp dV bm (setP (ga.all.getD j default) (ptrV gb.blk) (putAll kvs (ptrV gb.blk) (ga.all.take j))),pt ga.blk (.cells #[ga.v,.bool ga.num] 95 (0,0)),sl 24 5 ga.v ga.all.length (encs eD ga.all),pt gb.blk (.cells #[va,.bool (gb.num||ga.num)] 95 (0,0)),sl 24 5 va ((gb.all++ga.all.take j).length) (encs eD (gb.all++ga.all.take j)),bigA (rest.map (grA 95 24))]:=hD; clear hD
          replace hf:Fr a 89 [] [(83,.agg #[.int .i64 ((ga.all.getD j default).num),.int .i64 ((ga.all.getD j default).yr),.int .u8 ((ga.all.getD j default).half),.int .u8 ((ga.all.getD j default).sec),.int .i64 ((ga.all.getD j default).cyc)]),(0,.map (some bm)),(4,.pointer (some ⟨gb.blk,0,none⟩)),(7,.pointer (some ⟨b_d8,0,none⟩)),(69,ga.v),(70,.int .i64 (ga.all.length:Int)),(71,.int .i64 (j:Int))]:=hf
          refine O.buildSlice (cs':=#[.int .i64 ((ga.all.getD j default).num),.int .i64 ((ga.all.getD j default).yr),.int .u8 ((ga.all.getD j default).half),.int .u8 ((ga.all.getD j default).sec),.int .i64 ((ga.all.getD j default).cyc)]) (zs:=#[.int .i64 0,.int .i64 0,.int .u8 0,.int .u8 0,.int .i64 0]) hf hS rfl rfl T_elem_35 T_size_24 T_zero_24 rfl rfl rfl rfl rfl ?_
          clear hf hS a; intro b_s12 w a hbb_s12 hS hf
          exact O.nil ⟨rfl,(b_s12,v10),hf.to trivial,(fun d hd=>by cases (show some 84=some d from hd); exact hf.get _ _ rfl),(fun j_ hj_ ha_=>match j_,hj_,ha_ with | 0,hj_,ha_=>rfl | 1,hj_,ha_=>rfl | 2,hj_,ha_=>rfl | 3,hj_,ha_=>rfl | 4,hj_,ha_=>rfl | 5,hj_,ha_=>rfl | 6,hj_,ha_=>absurd rfl hj_ | 7,hj_,ha_=>absurd ha_ (by decide) | 8,hj_,ha_=>absurd ha_ (by decide) | 9,hj_,ha_=>absurd ha_ (by decide) | 10,hj_,ha_=>absurd ha_ (by decide) | _+11,_,_=>rfl),hS⟩
        · intro s_ g w _ hD a hf
          obtain ⟨b_s9,v10⟩:=g
          have hS:St w0 w (fun k=>(stA 95 24 bm kvs gs).fp k) [] [pt b_s9 (.cells #[.int .i64 ((ga.all.getD j default).num),.int .i64 ((ga.all.getD j default).yr),.int .u8 ((ga.all.getD j default).half),.int .u8 ((ga.all.getD j default).sec),.int .i64 ((ga.all.getD j default).cyc)] 24 (0,0)),pt b_d8 (.cells #[.int .i64 ((ga.all.getD j default).num),.int .i64 ((ga.all.getD j default).yr),.int .u8 ((ga.all.getD j default).half),.int .u8 ((ga.all.getD j default).sec),.int .i64 ((ga.all.getD j default).cyc)] 24 (0,0)),pt b_c1 (.cells #[.int .u8 c.kind,.int .i64 c.a.num,.int .i64 c.a.yr,.int .u8 c.a.half,.int .u8 c.a.sec,.int .i64 c.a.cyc,.int .i64 c.b.num,.int .i64 c.b.yr,.int .u8 c.b.half,.int .u8 c.b.sec,.int .i64 c.b.cyc,.int .i64 c.n] 26 (0,0)),mp dV bm (setP (ga.all.getD j default) (ptrV gb.blk) (putAll kvs (ptrV gb.blk) (ga.all.take j))),pt ga.blk (.cells #[ga.v,.bool ga.num] 95 (0,0)),sl 24 5 ga.v ga.all.length (encs eD ga.all),pt gb.blk (.cells #[va,.bool (gb.num||ga.num)] 95 (0,0)),sl 24 5 va ((gb.all++ga.all.take j).length) (encs eD (gb.all++ga.all.take j)),bigA (rest.map (grA 95 24))]:=hD; clear hD
          replace hf:Fr a 89 [] [(82,va),(84,.slice (some ⟨b_s9,0,none⟩) 1 1),(0,.map (some bm)),(4,.pointer (some ⟨gb.blk,0,none⟩)),(7,.pointer (some ⟨b_d8,0,none⟩)),(69,ga.v),(70,.int .i64 (ga.all.length:Int)),(71,.int .i64 (j:Int))]:=hf
          refine O.append1 (j:=7) (jj:=0) hf hS rfl rfl T_elem_35 T_size_24 T_bytes_24 T_zero_24 rfl rfl rfl rfl rfl rfl rfl rfl (by simp only [List.length_append,List.length_take]; unfold maxLen; omega) (by simp only [List.length_append,List.length_take]; omega) ?_
          clear hf hS a; intro v13 w a hS hf
          replace hS:=hS.eqM (N:=[pt b_s9 (.cells #[.int .i64 ((ga.all.getD j default).num),.int .i64 ((ga.all.getD j default).yr),.int .u8 ((ga.all.getD j default).half),.int .u8 ((ga.all.getD j default).sec),.int .i64 ((ga.all.getD j default).cyc)] 24 (0,0)),pt b_d8 (.cells #[.int .i64 ((ga.all.getD j default).num),.int .i64 ((ga.all.getD j default).yr),.int .u8 ((ga.all.getD j default).half),.int .u8 ((ga.all.getD j default).sec),.int .i64 ((ga.all.getD j default).cyc)] 24 (0,0)),pt b_c1 (.cells #[.int .u8 c.kind,.int .i64 c.a.num,.int .i64 c.a.yr,.int .u8 c.a.half,.int .u8 c.a.sec,.int .i64 c.a.cyc,.int .i64 c.b.num,.int .i64 c.b.yr,.int .u8 c.b.half,.int .u8 c.b.sec,.int .i64 c.b.cyc,.int .i64 c.n] 26 (0,0)),mp dV bm (setP (ga.all.getD j default) (ptrV gb.blk) (putAll kvs (ptrV gb.blk) (ga.all.take j))),pt ga.blk (.cells #[ga.v,.bool ga.num] 95 (0,0)),sl 24 5 ga.v ga.all.length (encs eD ga.all),pt gb.blk (.cells #[va,.bool (gb.num||ga.num)] 95 (0,0)),sl 24 5 v13 ((gb.all++ga.all.take j).length+1) (encs eD (gb.all++ga.all.take j)++[.int .i64 ((ga.all.getD j default).num),.int .i64 ((ga.all.getD j default).yr),.int .u8 ((ga.all.getD j default).half),.int .u8 ((ga.all.getD j default).sec),.int .i64 ((ga.all.getD j default).cyc)]),bigA (rest.map (grA 95 24))]) rfl
          replace hS:=hS.reE (i:=7) (M':=[pt b_s9 (.cells #[.int .i64 ((ga.all.getD j default).num),.int .i64 ((ga.all.getD j default).yr),.int .u8 ((ga.all.getD j default).half),.int .u8 ((ga.all.getD j default).sec),.int .i64 ((ga.all.getD j default).cyc)] 24 (0,0)),pt b_d8 (.cells #[.int .i64 ((ga.all.getD j default).num),.int .i64 ((ga.all.getD j default).yr),.int .u8 ((ga.all.getD j default).half),.int .u8 ((ga.all.getD j default).sec),.int .i64 ((ga.all.getD j default).cyc)] 24 (0,0)),pt b_c1 (.cells #[.int .u8 c.kind,.int .i64 c.a.num,.int .i64 c.a.yr,.int .u8 c.a.half,.int .u8 c.a.sec,.int .i64 c.a.cyc,.int .i64 c.b.num,.int .i64 c.b.yr,.int .u8 c.b.half,.int .u8 c.b.sec,.int .i64 c.b.cyc,.int .i64 c.n] 26 (0,0)),mp dV bm (setP (ga.all.getD j default) (ptrV gb.blk) (putAll kvs (ptrV gb.blk) (ga.all.take j))),pt ga.blk (.cells #[ga.v,.bool ga.num] 95 (0,0)),sl 24 5 ga.v ga.all.length (encs eD ga.all),pt gb.blk (.cells #[va,.bool (gb.num||ga.num)] 95 (0,0)),sl 24 5 v13 (((gb.all++ga.all.take j)++[(ga.all.getD j default)]).length) (encs eD ((gb.all++ga.all.take j)++[(ga.all.getD j default)])),bigA (rest.map (grA 95 24))]) rfl (sl_snoc (enc:=eD) (l:=(gb.all++ga.all.take j)) (x:=(ga.all.getD j default))) rfl
          exact O.nil ⟨rfl,(b_s9,v13),hf.to trivial,(fun d hd=>by cases (show some 85=some d from hd); exact hf.get _ _ rfl),(fun j_ hj_ ha_=>match j_,hj_,ha_ with | 0,hj_,ha_=>rfl | 1,hj_,ha_=>rfl | 2,hj_,ha_=>rfl | 3,hj_,ha_=>rfl | 4,hj_,ha_=>rfl | 5,hj_,ha_=>rfl | 6,hj_,ha_=>rfl | 7,hj_,ha_=>absurd rfl hj_ | 8,hj_,ha_=>absurd ha_ (by decide) | 9,hj_,ha_=>absurd ha_ (by decide) | 10,hj_,ha_=>absurd ha_ (by decide) | _+11,_,_=>rfl),hS⟩
        · intro s_ g w _ hD a hf
          obtain ⟨b_s9,v10⟩:=g
          have hS:St w0 w (fun k=>(stA 95 24 bm kvs gs).fp k) [] [pt b_s9 (.cells #[.int .i64 ((ga.all.getD j default).num),.int .i64 ((ga.all.getD j default).yr),.int .u8 ((ga.all.getD j default).half),.int .u8 ((ga.all.getD j default).sec),.int .i64 ((ga.all.getD j default).cyc)] 24 (0,0)),pt b_d8 (.cells #[.int .i64 ((ga.all.getD j default).num),.int .i64 ((ga.all.getD j default).yr),.int .u8 ((ga.all.getD j default).half),.int .u8 ((ga.all.getD j default).sec),.int .i64 ((ga.all.getD j default).cyc)] 24 (0,0)),pt b_c1 (.cells #[.int .u8 c.kind,.int .i64 c.a.num,.int .i64 c.a.yr,.int .u8 c.a.half,.int .u8 c.a.sec,.int .i64 c.a.cyc,.int .i64 c.b.num,.int .i64 c.b.yr,.int .u8 c.b.half,.int .u8 c.b.sec,.int .i64 c.b.cyc,.int .i64 c.n] 26 (0,0)),mp dV bm (setP (ga.all.getD j default) (ptrV gb.blk) (putAll kvs (ptrV gb.blk) (ga.all.take j))),pt ga.blk (.cells #[ga.v,.bool ga.num] 95 (0,0)),sl 24 5 ga.v ga.all.length (encs eD ga.all),pt gb.blk (.cells #[va,.bool (gb.num||ga.num)] 95 (0,0)),sl 24 5 v10 (((gb.all++ga.all.take j)++[(ga.all.getD j default)]).length) (encs eD ((gb.all++ga.all.take j)++[(ga.all.getD j default)])),bigA (rest.map (grA 95 24))]:=hD; clear hD
          replace hf:Fr a 89 [] [(78,.pointer (some ⟨gb.blk,0,none⟩)),(79,.pointer (some ⟨gb.blk,0,none⟩)),(80,.pointer (some ⟨gb.blk,0,none⟩)),(81,.pointer (some ⟨gb.blk,0,none⟩)),(82,va),(83,.agg #[.int .i64 ((ga.all.getD j default).num),.int .i64 ((ga.all.getD j default).yr),.int .u8 ((ga.all.getD j default).half),.int .u8 ((ga.all.getD j default).sec),.int .i64 ((ga.all.getD j default).cyc)]),(84,.slice (some ⟨b_s9,0,none⟩) 1 1),(85,v10),(87,.pointer (some ⟨gb.blk,0,none⟩)),(0,.map (some bm)),(4,.pointer (some ⟨gb.blk,0,none⟩)),(7,.pointer (some ⟨b_d8,0,none⟩)),(69,ga.v),(70,.int .i64 (ga.all.length:Int)),(71,.int .i64 (j:Int))]:=hf
          have hcl14:=rdOK.cells (hS.slr (j:=7) rfl)
          refine O.store (m:=1) (j:=6) (cs':=#[v10,.bool (gb.num||ga.num)]) (M':=[pt b_s9 (.cells #[.int .i64 ((ga.all.getD j default).num),.int .i64 ((ga.all.getD j default).yr),.int .u8 ((ga.all.getD j default).half),.int .u8 ((ga.all.getD j default).sec),.int .i64 ((ga.all.getD j default).cyc)] 24 (0,0)),pt b_d8 (.cells #[.int .i64 ((ga.all.getD j default).num),.int .i64 ((ga.all.getD j default).yr),.int .u8 ((ga.all.getD j default).half),.int .u8 ((ga.all.getD j default).sec),.int .i64 ((ga.all.getD j default).cyc)] 24 (0,0)),pt b_c1 (.cells #[.int .u8 c.kind,.int .i64 c.a.num,.int .i64 c.a.yr,.int .u8 c.a.half,.int .u8 c.a.sec,.int .i64 c.a.cyc,.int .i64 c.b.num,.int .i64 c.b.yr,.int .u8 c.b.half,.int .u8 c.b.sec,.int .i64 c.b.cyc,.int .i64 c.n] 26 (0,0)),mp dV bm (setP (ga.all.getD j default) (ptrV gb.blk) (putAll kvs (ptrV gb.blk) (ga.all.take j))),pt ga.blk (.cells #[ga.v,.bool ga.num] 95 (0,0)),sl 24 5 ga.v ga.all.length (encs eD ga.all),pt gb.blk (.cells #[v10,.bool (gb.num||ga.num)] 95 (0,0)),sl 24 5 v10 (((gb.all++ga.all.take j)++[(ga.all.getD j default)]).length) (encs eD ((gb.all++ga.all.take j)++[(ga.all.getD j default)])),bigA (rest.map (grA 95 24))]) hf hS rfl rfl rfl T_size_35 (by rw [hcl14.1]; rfl) (by rw [hcl14.1]; exact hcl14.2) rfl (Nat.le_of_ble_eq_true rfl) (by rw [hcl14.1]; rfl) rfl ?_
          clear hS; intro w hS
          exact O.nil ⟨rfl,(b_s9,v10),hf.to trivial,(fun d hd=>by cases (show none=some d from hd)),(fun j_ hj_ ha_=>match j_,hj_,ha_ with | 0,hj_,ha_=>rfl | 1,hj_,ha_=>rfl | 2,hj_,ha_=>rfl | 3,hj_,ha_=>rfl | 4,hj_,ha_=>rfl | 5,hj_,ha_=>rfl | 6,hj_,ha_=>rfl | 7,hj_,ha_=>rfl | 8,hj_,ha_=>rfl | 9,hj_,ha_=>rfl | 10,hj_,ha_=>absurd rfl hj_ | _+11,_,_=>rfl),hS⟩
      clear hf hS; intro s_ g a w _ hf hD
      obtain ⟨b_s9,v10⟩:=g
      have hS:St w0 w (fun k=>(stA 95 24 bm kvs gs).fp k) [] [pt b_s9 (.cells #[.int .i64 ((ga.all.getD j default).num),.int .i64 ((ga.all.getD j default).yr),.int .u8 ((ga.all.getD j default).half),.int .u8 ((ga.all.getD j default).sec),.int .i64 ((ga.all.getD j default).cyc)] 24 (0,0)),pt b_d8 (.cells #[.int .i64 ((ga.all.getD j default).num),.int .i64 ((ga.all.getD j default).yr),.int .u8 ((ga.all.getD j default).half),.int .u8 ((ga.all.getD j default).sec),.int .i64 ((ga.all.getD j default).cyc)] 24 (0,0)),pt b_c1 (.cells #[.int .u8 c.kind,.int .i64 c.a.num,.int .i64 c.a.yr,.int .u8 c.a.half,.int .u8 c.a.sec,.int .i64 c.a.cyc,.int .i64 c.b.num,.int .i64 c.b.yr,.int .u8 c.b.half,.int .u8 c.b.sec,.int .i64 c.b.cyc,.int .i64 c.n] 26 (0,0)),mp dV bm (setP (ga.all.getD j default) (ptrV gb.blk) (putAll kvs (ptrV gb.blk) (ga.all.take j))),pt ga.blk (.cells #[ga.v,.bool ga.num] 95 (0,0)),sl 24 5 ga.v ga.all.length (encs eD ga.all),pt gb.blk (.cells #[v10,.bool (gb.num||ga.num)] 95 (0,0)),sl 24 5 v10 (((gb.all++ga.all.take j)++[(ga.all.getD j default)]).length) (encs eD ((gb.all++ga.all.take j)++[(ga.all.getD j default)])),bigA (rest.map (grA 95 24))]:=hD; clear hD
      replace hf:Fr a 89 [] [(78,.pointer (some ⟨gb.blk,0,none⟩)),(79,.pointer (some ⟨gb.blk,0,none⟩)),(80,.pointer (some ⟨gb.blk,0,none⟩)),(81,.pointer (some ⟨gb.blk,0,none⟩)),(82,va),(83,.agg #[.int .i64 ((ga.all.getD j default).num),.int .i64 ((ga.all.getD j default).yr),.int .u8 ((ga.all.getD j default).half),.int .u8 ((ga.all.getD j default).sec),.int .i64 ((ga.all.getD j default).cyc)]),(84,.slice (some ⟨b_s9,0,none⟩) 1 1),(85,v10),(86,.pointer (some ⟨gb.blk,0,none⟩)),(87,.pointer (some ⟨gb.blk,0,none⟩)),(0,.map (some bm)),(4,.pointer (some ⟨gb.blk,0,none⟩)),(7,.pointer (some ⟨b_d8,0,none⟩)),(69,ga.v),(70,.int .i64 (ga.all.length:Int)),(71,.int .i64 (j:Int))]:=hf
      refine k_blk_normal ?_
      refine k_seq ?_
      replace hf:Fr a 89 [] [(0,.map (some bm)),(4,.pointer (some ⟨gb.blk,0,none⟩)),(7,.pointer (some ⟨b_d8,0,none⟩)),(69,ga.v),(70,.int .i64 (ga.all.length:Int)),(71,.int .i64 (j:Int))]:=hf.to ⟨rfl,rfl,rfl,rfl,rfl,rfl,trivial⟩
      refine W.regionL (l:=[0,1]) rfl ?_
      refine O.val hf rfl rfl rfl (RunV.addI rfl rfl (by omega)) ?_
      clear hf a; intro a hf
      refine O.val hf rfl rfl rfl (RunV.move rfl) ?_
      clear hf a; intro a hf
      refine O.nil ?_
      replace hS:=hS.sub (N:=[pt b_c1 (.cells #[.int .u8 c.kind,.int .i64 c.a.num,.int .i64 c.a.yr,.int .u8 c.a.half,.int .u8 c.a.sec,.int .i64 c.a.cyc,.int .i64 c.b.num,.int .i64 c.b.yr,.int .u8 c.b.half,.int .u8 c.b.sec,.int .i64 c.b.cyc,.int .i64 c.n] 26 (0,0)),mp dV bm (setP (ga.all.getD j default) (ptrV gb.blk) (putAll kvs (ptrV gb.blk) (ga.all.take j))),pt ga.blk (.cells #[ga.v,.bool ga.num] 95 (0,0)),sl 24 5 ga.v ga.all.length (encs eD ga.all),pt gb.blk (.cells #[v10,.bool (gb.num||ga.num)] 95 (0,0)),sl 24 5 v10 (((gb.all++ga.all.take j)++[(ga.all.getD j default)]).length) (encs eD ((gb.all++ga.all.take j)++[(ga.all.getD j default)])),bigA (rest.map (grA 95 24))]) (.cons _ (.cons _ (.cons_cons _ (.cons_cons _ (.cons_cons _ (.cons_cons _ (.cons_cons _ (.cons_cons _ (.cons_cons _ .slnil)))))))))
      refine k_then ⟨(j+1,v10),⟨hf.to ⟨rfl,rfl,rfl,rfl,(by first | rfl | exact congrArg some (congrArg (Value.int _) (by omega))),trivial⟩,?_,?_⟩,?_⟩
      · exact hS.eqM (by rw [take_snoc (by omega)]; simp only [putAll_snoc,List.append_assoc])
      · omega
      · dsimp only; omega
    · refine W.exit ?_
      refine k_then_exit ?_
      refine k_then_exit ?_
      refine k_blk ?_
      refine post_normal ?_
      refine post0 hf rfl  ?_
      have hj2:j=ga.all.length:=by omega
      replace hS:=hS.front (i:=6) (M':=[bigA (rest.map (grA 95 24)),pt b_c1 (.cells #[.int .u8 c.kind,.int .i64 c.a.num,.int .i64 c.a.yr,.int .u8 c.a.half,.int .u8 c.a.sec,.int .i64 c.a.cyc,.int .i64 c.b.num,.int .i64 c.b.yr,.int .u8 c.b.half,.int .u8 c.b.sec,.int .i64 c.b.cyc,.int .i64 c.n] 26 (0,0)),mp dV bm (putAll kvs (ptrV gb.blk) (ga.all.take j)),pt ga.blk (.cells #[ga.v,.bool ga.num] 95 (0,0)),sl 24 5 ga.v ga.all.length (encs eD ga.all),pt gb.blk (.cells #[va,.bool (gb.num||ga.num)] 95 (0,0)),sl 24 5 va ((gb.all++ga.all.take j).length) (encs eD (gb.all++ga.all.take j))]) rfl rfl
      replace hS:=hS.front (i:=6) (M':=[sl 24 5 va ((gb.all++ga.all.take j).length) (encs eD (gb.all++ga.all.take j)),bigA (rest.map (grA 95 24)),pt b_c1 (.cells #[.int .u8 c.kind,.int .i64 c.a.num,.int .i64 c.a.yr,.int .u8 c.a.half,.int .u8 c.a.sec,.int .i64 c.a.cyc,.int .i64 c.b.num,.int .i64 c.b.yr,.int .u8 c.b.half,.int .u8 c.b.sec,.int .i64 c.b.cyc,.int .i64 c.n] 26 (0,0)),mp dV bm (putAll kvs (ptrV gb.blk) (ga.all.take j)),pt ga.blk (.cells #[ga.v,.bool ga.num] 95 (0,0)),sl 24 5 ga.v ga.all.length (encs eD ga.all),pt gb.blk (.cells #[va,.bool (gb.num||ga.num)] 95 (0,0))]) rfl rfl
      replace hS:=hS.front (i:=6) (M':=[pt gb.blk (.cells #[va,.bool (gb.num||ga.num)] 95 (0,0)),sl 24 5 va ((gb.all++ga.all.take j).length) (encs eD (gb.all++ga.all.take j)),bigA (rest.map (grA 95 24)),pt b_c1 (.cells #[.int .u8 c.kind,.int .i64 c.a.num,.int .i64 c.a.yr,.int .u8 c.a.half,.int .u8 c.a.sec,.int .i64 c.a.cyc,.int .i64 c.b.num,.int .i64 c.b.yr,.int .u8 c.b.half,.int .u8 c.b.sec,.int .i64 c.b.cyc,.int .i64 c.n] 26 (0,0)),mp dV bm (putAll kvs (ptrV gb.blk) (ga.all.take j)),pt ga.blk (.cells #[ga.v,.bool ga.num] 95 (0,0)),sl 24 5 ga.v ga.all.length (encs eD ga.all)]) rfl rfl
      replace hS:=hS.front (i:=4) (M':=[mp dV bm (putAll kvs (ptrV gb.blk) (ga.all.take j)),pt gb.blk (.cells #[va,.bool (gb.num||ga.num)] 95 (0,0)),sl 24 5 va ((gb.all++ga.all.take j).length) (encs eD (gb.all++ga.all.take j)),bigA (rest.map (grA 95 24)),pt b_c1 (.cells #[.int .u8 c.kind,.int .i64 c.a.num,.int .i64 c.a.yr,.int .u8 c.a.half,.int .u8 c.a.sec,.int .i64 c.a.cyc,.int .i64 c.b.num,.int .i64 c.b.yr,.int .u8 c.b.half,.int .u8 c.b.sec,.int .i64 c.b.cyc,.int .i64 c.n] 26 (0,0)),pt ga.blk (.cells #[ga.v,.bool ga.num] 95 (0,0)),sl 24 5 ga.v ga.all.length (encs eD ga.all)]) rfl rfl
      rw [hj2,List.take_length] at hS
      have hS2:=St.grPut (g:=⟨gb.blk,va,gb.all++ga.all,gb.num||ga.num⟩) hS
      exact ⟨(_,⟨gb.blk,va,gb.all++ga.all,gb.num||ga.num⟩::rest),rfl,(hS2.stClose.sub (List.Sublist.cons_cons _ (List.nil_sublist _))).noB,(hL2.perm (List.Perm.swap gb ga rest)).join,by simp [absG,merged,show ga.all.length<gb.all.length by omega]⟩
  · refine W.skip ?_
    refine k_seq ?_
    refine W.seq ?_
    refine W.regionL (l:=[0,1,2,3,4,5,6,7,8,9,10,11,12,13]) rfl ?_
    refine O.val hf rfl rfl rfl (RunV.move rfl) ?_
    clear hf a; intro a hf
    refine O.val hf rfl rfl rfl (RunV.move rfl) ?_
    clear hf a; intro a hf
    refine O.val hf rfl rfl rfl (RunV.nilCheck rfl) ?_
    clear hf a; intro a hf
    refine O.val hf rfl rfl rfl (RunV.field T_field_95_1 rfl rfl) ?_
    clear hf a; intro a hf
    refine O.val hf rfl rfl rfl (RunV.load1 T_agg_4 rfl (hS.ptAt (i:=2) rfl) rfl) ?_
    clear hf a; intro a hf
    refine O.val hf rfl rfl rfl (RunV.move rfl) ?_
    clear hf a; intro a hf
    refine O.cutN (l₁:=[6,7,8,9,10]) (l₂:=_) (fun a w=>Fr a 89 [] [(0,.map (some bm)),(4,.pointer (some ⟨ga.blk,0,none⟩)),(5,.pointer (some ⟨gb.blk,0,none⟩)),(53,.pointer (some ⟨ga.blk,0,none⟩)),(54,.pointer (some ⟨ga.blk,0,none⟩)),(55,.pointer (some ⟨ga.blk,0,none⟩)),(56,.pointer (some ⟨ga.blk,1,none⟩)),(57,.bool ga.num),(58,.bool ga.num),(63,.bool (ga.num||gb.num))]∧St w0 w (fun k=>(stA 95 24 bm kvs gs).fp k) [] [pt b_c1 (.cells #[.int .u8 c.kind,.int .i64 c.a.num,.int .i64 c.a.yr,.int .u8 c.a.half,.int .u8 c.a.sec,.int .i64 c.a.cyc,.int .i64 c.b.num,.int .i64 c.b.yr,.int .u8 c.b.half,.int .u8 c.b.sec,.int .i64 c.b.cyc,.int .i64 c.n] 26 (0,0)),mp dV bm kvs,pt ga.blk (.cells #[ga.v,.bool ga.num] 95 (0,0)),sl 24 5 ga.v ga.all.length (encs eD ga.all),pt gb.blk (.cells #[gb.v,.bool gb.num] 95 (0,0)),sl 24 5 gb.v gb.all.length (encs eD gb.all),bigA (rest.map (grA 95 24))]) rfl ?_ ?_
    · rcases Bool.eq_false_or_eq_true (ga.num) with hb15 | hb15
      · have hb15p:=hb15
        try simp only [Bool.and_eq_true,Bool.or_eq_true,Bool.and_eq_false_iff,Bool.or_eq_false_iff,decide_eq_true_eq,decide_eq_false_iff_not,Bool.not_eq_true',Bool.not_eq_false',Bool.not_eq_true,Bool.not_eq_false,ne_eq] at hb15p
        refine O.skipB hf rfl rfl rfl hb15 rfl ?_; clear hf a; intro a hf
        refine O.skipB hf rfl rfl rfl hb15 rfl ?_; clear hf a; intro a hf
        refine O.skipB hf rfl rfl rfl hb15 rfl ?_; clear hf a; intro a hf
        refine O.skipB hf rfl rfl rfl hb15 rfl ?_; clear hf a; intro a hf
        refine O.val (v:=.bool (ga.num||gb.num)) hf rfl rfl rfl (RunV.pick rfl rfl rfl (by rw [hb15]; rfl)) ?_; clear hf a; intro a hf
        exact O.nil ⟨rfl,hf.to ⟨rfl,rfl,rfl,rfl,rfl,rfl,rfl,rfl,rfl,rfl,trivial⟩,hS⟩
      · have hb15p:=hb15
        try simp only [Bool.and_eq_true,Bool.or_eq_true,Bool.and_eq_false_iff,Bool.or_eq_false_iff,decide_eq_true_eq,decide_eq_false_iff_not,Bool.not_eq_true',Bool.not_eq_false',Bool.not_eq_true,Bool.not_eq_false,ne_eq] at hb15p
        refine O.gvalB (v:=.pointer (some ⟨gb.blk,0,none⟩)) hf rfl rfl rfl hb15 rfl rfl (RunV.move rfl) ?_
        clear hf a; intro a hf
        refine O.gvalB (v:=.pointer (some ⟨gb.blk,0,none⟩)) hf rfl rfl rfl hb15 rfl rfl (RunV.nilCheck rfl) ?_
        clear hf a; intro a hf
        refine O.gvalB (v:=.pointer (some ⟨gb.blk,1,none⟩)) hf rfl rfl rfl hb15 rfl rfl (RunV.field T_field_95_1 rfl rfl) ?_
        clear hf a; intro a hf
        refine O.gvalB (v:=.bool gb.num) hf rfl rfl rfl hb15 rfl rfl (RunV.load1 T_agg_4 rfl (hS.ptAt (i:=4) rfl) rfl) ?_
        clear hf a; intro a hf
        refine O.val (v:=.bool (ga.num||gb.num)) hf rfl rfl rfl (RunV.pick rfl rfl rfl (by rw [hb15]; rfl)) ?_; clear hf a; intro a hf
        exact O.nil ⟨rfl,hf.to ⟨rfl,rfl,rfl,rfl,rfl,rfl,rfl,rfl,rfl,rfl,trivial⟩,hS⟩
    clear hf hS a; rintro a w ⟨hf,hS⟩
    refine O.val hf rfl rfl rfl (RunV.nilCheck rfl) ?_
    clear hf a; intro a hf
    refine O.val hf rfl rfl rfl (RunV.field T_field_95_1 rfl rfl) ?_
    clear hf a; intro a hf
    refine O.store (j:=2) (cs':=#[ga.v,.bool (ga.num||gb.num)]) (M':=[pt b_c1 (.cells #[.int .u8 c.kind,.int .i64 c.a.num,.int .i64 c.a.yr,.int .u8 c.a.half,.int .u8 c.a.sec,.int .i64 c.a.cyc,.int .i64 c.b.num,.int .i64 c.b.yr,.int .u8 c.b.half,.int .u8 c.b.sec,.int .i64 c.b.cyc,.int .i64 c.n] 26 (0,0)),mp dV bm kvs,pt ga.blk (.cells #[ga.v,.bool (ga.num||gb.num)] 95 (0,0)),sl 24 5 ga.v ga.all.length (encs eD ga.all),pt gb.blk (.cells #[gb.v,.bool gb.num] 95 (0,0)),sl 24 5 gb.v gb.all.length (encs eD gb.all),bigA (rest.map (grA 95 24))]) hf hS rfl rfl rfl T_size_4 rfl rfl rfl (Nat.le_of_ble_eq_true rfl) rfl rfl ?_
    clear hS; intro w hS
    refine O.nil ?_
    refine k_seq ?_
    replace hf:Fr a 89 [] [(0,.map (some bm)),(4,.pointer (some ⟨ga.blk,0,none⟩)),(5,.pointer (some ⟨gb.blk,0,none⟩))]:=hf.to ⟨rfl,rfl,rfl,trivial⟩
    refine W.seq ?_
    refine W.regionL (l:=[0,1,2,3,4,5]) rfl ?_
    refine O.val hf rfl rfl rfl (RunV.move rfl) ?_
    clear hf a; intro a hf
    refine O.val hf rfl rfl rfl (RunV.nilCheck rfl) ?_
    clear hf a; intro a hf
    refine O.val hf rfl rfl rfl (RunV.field T_field_95_0 rfl rfl) ?_
    clear hf a; intro a hf
    refine O.val hf rfl rfl rfl (RunV.load1 T_agg_35 rfl (hS.ptAt (i:=4) rfl) rfl) ?_
    clear hf a; intro a hf
    refine O.val hf rfl rfl rfl (RunV.lenV (e:=24) (by simpa using T_elem_35) rfl (hS.slr (j:=5) rfl)) ?_
    clear hf a; intro a hf
    refine O.val hf rfl rfl rfl (RunV.move rfl) ?_
    clear hf a; intro a hf
    refine O.nil ?_
    have hlm:=(hS.slAt (j:=3) rfl).nle; unfold maxLen at hlm
    have hlm2:=(hS.slAt (j:=5) rfl).nle; unfold maxLen at hlm2
    refine k_seq ?_
    replace hf:Fr a 89 [] [(0,.map (some bm)),(4,.pointer (some ⟨ga.blk,0,none⟩)),(69,gb.v),(70,.int .i64 (gb.all.length:Int)),(71,.int .i64 0)]:=hf.to ⟨rfl,rfl,rfl,rfl,rfl,trivial⟩
    refine W.block ?_
    refine W.loop (G:=(Nat) × (Value)) (fun g a w=>match g with | (j,va)=>Fr a 89 [] [(0,.map (some bm)),(4,.pointer (some ⟨ga.blk,0,none⟩)),(69,gb.v),(70,.int .i64 (gb.all.length:Int)),(71,.int .i64 (j:Int))]∧St w0 w (fun k=>(stA 95 24 bm kvs gs).fp k) [] [pt b_c1 (.cells #[.int .u8 c.kind,.int .i64 c.a.num,.int .i64 c.a.yr,.int .u8 c.a.half,.int .u8 c.a.sec,.int .i64 c.a.cyc,.int .i64 c.b.num,.int .i64 c.b.yr,.int .u8 c.b.half,.int .u8 c.b.sec,.int .i64 c.b.cyc,.int .i64 c.n] 26 (0,0)),mp dV bm (putAll kvs (ptrV ga.blk) (gb.all.take j)),pt ga.blk (.cells #[va,.bool (ga.num||gb.num)] 95 (0,0)),sl 24 5 va ((ga.all++gb.all.take j).length) (encs eD (ga.all++gb.all.take j)),pt gb.blk (.cells #[gb.v,.bool gb.num] 95 (0,0)),sl 24 5 gb.v gb.all.length (encs eD gb.all),bigA (rest.map (grA 95 24))]∧(j≤gb.all.length)) (fun g=>match g with | (j,va)=>gb.all.length-j) (0,ga.v) ?_ ?_
    · refine ⟨hf.to ⟨rfl,rfl,rfl,rfl,(by first | rfl | exact congrArg some (congrArg (Value.int _) (by omega))),trivial⟩,hS.eqM (by simp [putAll]),?_⟩
      · omega
    clear hf hS a
    rintro ⟨j,va⟩ a w ⟨hf,hS,h1⟩
    refine W.seq ?_
    refine W.regionL (l:=[0]) rfl ?_
    refine O.val (v:=.bool (decide ((j:Int)<((gb.all.length:Int):Int)))) hf rfl rfl rfl (RunV.lss rfl rfl) ?_
    clear hf a; intro a hf
    refine O.nil ?_
    refine k_seq ?_
    refine W.seq ?_
    refine W.ifdI hf rfl (fun hj=>?_) (fun hj=>?_)
    · refine W.skip ?_
      refine k_seq ?_
      refine W.seq ?_
      refine W.block ?_
      refine W.seq ?_
      refine W.regionL (l:=[0,1,2,3]) rfl ?_
      refine O.val hf rfl rfl rfl (RunV.ixV (j:=j) (m:=j*5) T_elem_35 T_size_24 rfl rfl (hS.slr (j:=5) rfl) rfl (by omega) rfl) ?_
      clear hf a; intro a hf
      refine O.val hf rfl rfl rfl (RunV.ldG (j:=j) (enc:=eD) (l:=gb.all) (us:=[.int .i64 ((gb.all.getD j default).num),.int .i64 ((gb.all.getD j default).yr),.int .u8 ((gb.all.getD j default).half),.int .u8 ((gb.all.getD j default).sec),.int .i64 ((gb.all.getD j default).cyc)]) T_agg_24 T_size_24 rfl eD_len rfl (hS.slr (j:=5) rfl) (by omega) rfl) ?_
      clear hf a; intro a hf
      refine O.alloc (cs:=#[.int .i64 0,.int .i64 0,.int .u8 0,.int .u8 0,.int .i64 0]) hf hS rfl rfl T_zero_24 rfl ?_
      clear hf hS a; intro b_d17 w a hbb_d17 hS hf
      refine O.store (j:=0) (cs':=#[.int .i64 ((gb.all.getD j default).num),.int .i64 ((gb.all.getD j default).yr),.int .u8 ((gb.all.getD j default).half),.int .u8 ((gb.all.getD j default).sec),.int .i64 ((gb.all.getD j default).cyc)]) (M':=[pt b_d17 (.cells #[.int .i64 ((gb.all.getD j default).num),.int .i64 ((gb.all.getD j default).yr),.int .u8 ((gb.all.getD j default).half),.int .u8 ((gb.all.getD j default).sec),.int .i64 ((gb.all.getD j default).cyc)] 24 (0,0)),pt b_c1 (.cells #[.int .u8 c.kind,.int .i64 c.a.num,.int .i64 c.a.yr,.int .u8 c.a.half,.int .u8 c.a.sec,.int .i64 c.a.cyc,.int .i64 c.b.num,.int .i64 c.b.yr,.int .u8 c.b.half,.int .u8 c.b.sec,.int .i64 c.b.cyc,.int .i64 c.n] 26 (0,0)),mp dV bm (putAll kvs (ptrV ga.blk) (gb.all.take j)),pt ga.blk (.cells #[va,.bool (ga.num||gb.num)] 95 (0,0)),sl 24 5 va ((ga.all++gb.all.take j).length) (encs eD (ga.all++gb.all.take j)),pt gb.blk (.cells #[gb.v,.bool gb.num] 95 (0,0)),sl 24 5 gb.v gb.all.length (encs eD gb.all),bigA (rest.map (grA 95 24))]) hf hS rfl rfl rfl T_size_24 rfl rfl rfl (Nat.le_of_ble_eq_true rfl) rfl rfl ?_
      clear hS; intro w hS
      refine O.nil ?_
      refine k_seq ?_
      replace hf:Fr a 89 [] [(0,.map (some bm)),(4,.pointer (some ⟨ga.blk,0,none⟩)),(7,.pointer (some ⟨b_d17,0,none⟩)),(69,gb.v),(70,.int .i64 (gb.all.length:Int)),(71,.int .i64 (j:Int))]:=hf.to ⟨rfl,rfl,rfl,rfl,rfl,rfl,trivial⟩
      refine W.seq ?_
      refine W.regionL (l:=[0,1,2,3]) rfl ?_
      refine O.val hf rfl rfl rfl (RunV.move rfl) ?_
      clear hf a; intro a hf
      refine O.val hf rfl rfl rfl (RunV.loadN (cs':=#[.int .i64 ((gb.all.getD j default).num),.int .i64 ((gb.all.getD j default).yr),.int .u8 ((gb.all.getD j default).half),.int .u8 ((gb.all.getD j default).sec),.int .i64 ((gb.all.getD j default).cyc)]) T_agg_24 T_size_24 rfl (hS.ptAt (i:=0) rfl) (Nat.le_of_ble_eq_true rfl) rfl) ?_
      clear hf a; intro a hf
      refine O.val hf rfl rfl rfl (RunV.move rfl) ?_
      clear hf a; intro a hf
      refine O.putP (j:=2) (k:=(gb.all.getD j default)) (v:=ptrV ga.blk) (kvs:=(putAll kvs (ptrV ga.blk) (gb.all.take j))) (M':=[pt b_d17 (.cells #[.int .i64 ((gb.all.getD j default).num),.int .i64 ((gb.all.getD j default).yr),.int .u8 ((gb.all.getD j default).half),.int .u8 ((gb.all.getD j default).sec),.int .i64 ((gb.all.getD j default).cyc)] 24 (0,0)),pt b_c1 (.cells #[.int .u8 c.kind,.int .i64 c.a.num,.int .i64 c.a.yr,.int .u8 c.a.half,.int .u8 c.a.sec,.int .i64 c.a.cyc,.int .i64 c.b.num,.int .i64 c.b.yr,.int .u8 c.b.half,.int .u8 c.b.sec,.int .i64 c.b.cyc,.int .i64 c.n] 26 (0,0)),mp dV bm (setP (gb.all.getD j default) (ptrV ga.blk) (putAll kvs (ptrV ga.blk) (gb.all.take j))),pt ga.blk (.cells #[va,.bool (ga.num||gb.num)] 95 (0,0)),sl 24 5 va ((ga.all++gb.all.take j).length) (encs eD (ga.all++gb.all.take j)),pt gb.blk (.cells #[gb.v,.bool gb.num] 95 (0,0)),sl 24 5 gb.v gb.all.length (encs eD gb.all),bigA (rest.map (grA 95 24))]) hf hS rfl T_mapof_71 keyD trivial (fun _ _=>trivial) rfl rfl rfl rfl rfl ?_
      clear hS; intro w hS
      refine O.nil ?_
      refine k_seq ?_
      replace hf:Fr a 89 [] [(0,.map (some bm)),(4,.pointer (some ⟨ga.blk,0,none⟩)),(7,.pointer (some ⟨b_d17,0,none⟩)),(69,gb.v),(70,.int .i64 (gb.all.length:Int)),(71,.int .i64 (j:Int))]:=hf.to ⟨rfl,rfl,rfl,rfl,rfl,rfl,trivial⟩
      replace hf:Fr a 89 [] [(0,.map (some bm)),(4,.pointer (some ⟨ga.blk,0,none⟩)),(7,.pointer (some ⟨b_d17,0,none⟩)),(69,gb.v),(70,.int .i64 (gb.all.length:Int)),(71,.int .i64 (j:Int))]:=hf.to ⟨rfl,rfl,rfl,rfl,rfl,rfl,trivial⟩
      refine W.drawC (γ:=(Nat) × (Value)) (L0:=[(0,.map (some bm)),(4,.pointer (some ⟨ga.blk,0,none⟩)),(7,.pointer (some ⟨b_d17,0,none⟩)),(69,gb.v),(70,.int .i64 (gb.all.length:Int)),(71,.int .i64 (j:Int))]) (L1:=[]) (0,default) [6,7,10] [] [0,1,2,3,4,5,8,9] (fun i_=>match i_ with | 0=>[] | 1=>[] | 2=>[1] | 3=>[2] | 4=>[3] | 5=>[] | 6=>[5] | 7=>[4,6] | 8=>[0,1,2,3,4,5,6,7] | 9=>[0,1,2,3,4,5,6,7,8] | 10=>[0,1,2,3,4,5,6,7,9] | _=>[]) (fun i_=>match i_ with | 0=>[] | 1=>[] | 2=>[] | 3=>[] | 4=>[] | 5=>[] | 6=>[] | 7=>[6] | 8=>[6,7] | 9=>[6,7] | 10=>[6,7] | _=>[]) (fun i_=>match i_ with | 0=>[10] | 1=>[7,10] | 2=>[7,10] | 3=>[7,10] | 4=>[7,10] | 5=>[6,7,10] | 6=>[7,10] | 7=>[10] | 8=>[10] | 9=>[10] | 10=>[] | _=>[]) (fun _=>[]) (fun i_=>match i_ with | 0=>[] | 1=>[] | 2=>[] | 3=>[] | 4=>[] | 5=>[] | 6=>[7,8,9,10] | 7=>[8,9,10] | 8=>[] | 9=>[] | 10=>[] | _=>[]) (fun _=>[]) (fun i_=>match i_ with | 0=>0 | 1=>0 | 2=>0 | 3=>0 | 4=>0 | 5=>0 | 6=>0 | 7=>1 | 8=>2 | 9=>2 | 10=>2 | _=>0) (fun i_=>match i_ with | 0=>2 | 1=>1 | 2=>1 | 3=>1 | 4=>1 | 5=>0 | 6=>1 | 7=>2 | 8=>2 | 9=>2 | 10=>3 | _=>0) (fun (g:(Nat) × (Value)) j_=>match g,j_ with | ⟨b_s18,v19⟩,0=>.pointer (some ⟨ga.blk,0,none⟩) | ⟨b_s18,v19⟩,1=>.pointer (some ⟨ga.blk,0,none⟩) | ⟨b_s18,v19⟩,2=>.pointer (some ⟨ga.blk,0,none⟩) | ⟨b_s18,v19⟩,3=>.pointer (some ⟨ga.blk,0,none⟩) | ⟨b_s18,v19⟩,4=>va | ⟨b_s18,v19⟩,5=>.agg #[.int .i64 ((gb.all.getD j default).num),.int .i64 ((gb.all.getD j default).yr),.int .u8 ((gb.all.getD j default).half),.int .u8 ((gb.all.getD j default).sec),.int .i64 ((gb.all.getD j default).cyc)] | ⟨b_s18,v19⟩,6=>.slice (some ⟨b_s18,0,none⟩) 1 1 | ⟨b_s18,v19⟩,7=>v19 | ⟨b_s18,v19⟩,8=>.pointer (some ⟨ga.blk,0,none⟩) | ⟨b_s18,v19⟩,9=>.pointer (some ⟨ga.blk,0,none⟩) | _,_=>undef) (fun k_ (_:Nat→Bool) (g:(Nat) × (Value)) w=>match k_,g with | 0,⟨b_s18,v19⟩=>St w0 w (fun k=>(stA 95 24 bm kvs gs).fp k) [] [pt b_d17 (.cells #[.int .i64 ((gb.all.getD j default).num),.int .i64 ((gb.all.getD j default).yr),.int .u8 ((gb.all.getD j default).half),.int .u8 ((gb.all.getD j default).sec),.int .i64 ((gb.all.getD j default).cyc)] 24 (0,0)),pt b_c1 (.cells #[.int .u8 c.kind,.int .i64 c.a.num,.int .i64 c.a.yr,.int .u8 c.a.half,.int .u8 c.a.sec,.int .i64 c.a.cyc,.int .i64 c.b.num,.int .i64 c.b.yr,.int .u8 c.b.half,.int .u8 c.b.sec,.int .i64 c.b.cyc,.int .i64 c.n] 26 (0,0)),mp dV bm (setP (gb.all.getD j default) (ptrV ga.blk) (putAll kvs (ptrV ga.blk) (gb.all.take j))),pt ga.blk (.cells #[va,.bool (ga.num||gb.num)] 95 (0,0)),sl 24 5 va ((ga.all++gb.all.take j).length) (encs eD (ga.all++gb.all.take j)),pt gb.blk (.cells #[gb.v,.bool gb.num] 95 (0,0)),sl 24 5 gb.v gb.all.length (encs eD gb.all),bigA (rest.map (grA 95 24))] | 1,⟨b_s18,v19⟩=>St w0 w (fun k=>(stA 95 24 bm kvs gs).fp k) [] [pt b_s18 (.cells #[.int .i64 ((gb.all.getD j default).num),.int .i64 ((gb.all.getD j default).yr),.int .u8 ((gb.all.getD j default).half),.int .u8 ((gb.all.getD j default).sec),.int .i64 ((gb.all.getD j default).cyc)] 24 (0,0)),pt b_d17 (.cells #[.int .i64 ((gb.all.getD j default).num),.int .i64 ((gb.all.getD j default).yr),.int .u8 ((gb.all.getD j default).half),.int .u8 ((gb.all.getD j default).sec),.int .i64 ((gb.all.getD j default).cyc)] 24 (0,0)),pt b_c1 (.cells #[.int .u8 c.kind,.int .i64 c.a.num,.int .i64 c.a.yr,.int .u8 c.a.half,.int .u8 c.a.sec,.int .i64 c.a.cyc,.int .i64 c.b.num,.int .i64 c.b.yr,.int .u8 c.b.half,.int .u8 c.b.sec,.int .i64 c.b.cyc,.int .i64 c.n] 26 (0,0)),mp dV bm (setP (gb.all.getD j default) (ptrV ga.blk) (putAll kvs (ptrV ga.blk) (gb.all.take j))),pt ga.blk (.cells #[va,.bool (ga.num||gb.num)] 95 (0,0)),sl 24 5 va ((ga.all++gb.all.take j).length) (encs eD (ga.all++gb.all.take j)),pt gb.blk (.cells #[gb.v,.bool gb.num] 95 (0,0)),sl 24 5 gb.v gb.all.length (encs eD gb.all),bigA (rest.map (grA 95 24))] | 2,⟨b_s18,v19⟩=>St w0 w (fun k=>(stA 95 24 bm kvs gs).fp k) [] [pt b_s18 (.cells #[.int .i64 ((gb.all.getD j default).num),.int .i64 ((gb.all.getD j default).yr),.int .u8 ((gb.all.getD j default).half),.int .u8 ((gb.all.getD j default).sec),.int .i64 ((gb.all.getD j default).cyc)] 24 (0,0)),pt b_d17 (.cells #[.int .i64 ((gb.all.getD j default).num),.int .i64 ((gb.all.getD j default).yr),.int .u8 ((gb.all.getD j default).half),.int .u8 ((gb.all.getD j default).sec),.int .i64 ((gb.all.getD j default).cyc)] 24 (0,0)),pt b_c1 (.cells #[.int .u8 c.kind,.int .i64 c.a.num,.int .i64 c.a.yr,.int .u8 c.a.half,.int .u8 c.a.sec,.int .i64 c.a.cyc,.int .i64 c.b.num,.int .i64 c.b.yr,.int .u8 c.b.half,.int .u8 c.b.sec,.int .i64 c.b.cyc,.int .i64 c.n] 26 (0,0)),mp dV bm (setP (gb.all.getD j default) (ptrV ga.blk) (putAll kvs (ptrV ga.blk) (gb.all.take j))),pt ga.blk (.cells #[va,.bool (ga.num||gb.num)] 95 (0,0)),sl 24 5 v19 (((ga.all++gb.all.take j)++[(gb.all.getD j default)]).length) (encs eD ((ga.all++gb.all.take j)++[(gb.all.getD j default)])),pt gb.blk (.cells #[gb.v,.bool gb.num] 95 (0,0)),sl 24 5 gb.v gb.all.length (encs eD gb.all),bigA (rest.map (grA 95 24))] | _,⟨b_s18,v19⟩=>St w0 w (fun k=>(stA 95 24 bm kvs gs).fp k) [] [pt b_s18 (.cells #[.int .i64 ((gb.all.getD j default).num),.int .i64 ((gb.all.getD j default).yr),.int .u8 ((gb.all.getD j default).half),.int .u8 ((gb.all.getD j default).sec),.int .i64 ((gb.all.getD j default).cyc)] 24 (0,0)),pt b_d17 (.cells #[.int .i64 ((gb.all.getD j default).num),.int .i64 ((gb.all.getD j default).yr),.int .u8 ((gb.all.getD j default).half),.int .u8 ((gb.all.getD j default).sec),.int .i64 ((gb.all.getD j default).cyc)] 24 (0,0)),pt b_c1 (.cells #[.int .u8 c.kind,.int .i64 c.a.num,.int .i64 c.a.yr,.int .u8 c.a.half,.int .u8 c.a.sec,.int .i64 c.a.cyc,.int .i64 c.b.num,.int .i64 c.b.yr,.int .u8 c.b.half,.int .u8 c.b.sec,.int .i64 c.b.cyc,.int .i64 c.n] 26 (0,0)),mp dV bm (setP (gb.all.getD j default) (ptrV ga.blk) (putAll kvs (ptrV ga.blk) (gb.all.take j))),pt ga.blk (.cells #[v19,.bool (ga.num||gb.num)] 95 (0,0)),sl 24 5 v19 (((ga.all++gb.all.take j)++[(gb.all.getD j default)]).length) (encs eD ((ga.all++gb.all.take j)++[(gb.all.getD j default)])),pt gb.blk (.cells #[gb.v,.bool gb.num] 95 (0,0)),sl 24 5 gb.v gb.all.length (encs eD gb.all),bigA (rest.map (grA 95 24))]) P_mixed (by kernel_rfl) (by kernel_rfl) (by kernel_rfl) hf (hf.to trivial) hS.drew ?_ ?_ trivial ?_
      · clear hf hS
        refine ⟨?_,?_,?_,?_,?_,?_,?_,?_,trivial⟩
        · intro k_ s_ g w hlo hhi _ hD a hf
          obtain ⟨b_s18,v19⟩:=g
          rcases k_ with _ | _ | _ | k_
          · have hS:St w0 w (fun k=>(stA 95 24 bm kvs gs).fp k) [] [pt b_d17 (.cells #[.int .i64 ((gb.all.getD j default).num),.int .i64 ((gb.all.getD j default).yr),.int .u8 ((gb.all.getD j default).half),.int .u8 ((gb.all.getD j default).sec),.int .i64 ((gb.all.getD j default).cyc)] 24 (0,0)),pt b_c1 (.cells #[.int .u8 c.kind,.int .i64 c.a.num,.int .i64 c.a.yr,.int .u8 c.a.half,.int .u8 c.a.sec,.int .i64 c.a.cyc,.int .i64 c.b.num,.int .i64 c.b.yr,.int .u8 c.b.half,.int .u8 c.b.sec,.int .i64 c.b.cyc,.int .i64 c.n] 26 (0,0)),mp dV bm (setP (gb.all.getD j default) (ptrV ga.blk) (putAll kvs (ptrV ga.blk) (gb.all.take j))),pt ga.blk (.cells #[va,.bool (ga.num||gb.num)] 95 (0,0)),sl 24 5 va ((ga.all++gb.all.take j).length) (encs eD (ga.all++gb.all.take j)),pt gb.blk (.cells #[gb.v,.bool gb.num] 95 (0,0)),sl 24 5 gb.v gb.all.length (encs eD gb.all),bigA (rest.map (grA 95 24))]:=hD; clear hD
            replace hf:Fr a 89 [] [(0,.map (some bm)),(4,.pointer (some ⟨ga.blk,0,none⟩)),(7,.pointer (some ⟨b_d17,0,none⟩)),(69,gb.v),(70,.int .i64 (gb.all.length:Int)),(71,.int .i64 (j:Int))]:=hf
            refine O.val hf rfl rfl rfl (RunV.move rfl) ?_
            clear hf a; intro a hf
            exact O.nil ⟨rfl,hf.to trivial,(fun d hd=>by cases (show some 78=some d from hd); exact hf.get _ _ rfl),hS⟩
          · have hS:St w0 w (fun k=>(stA 95 24 bm kvs gs).fp k) [] [pt b_s18 (.cells #[.int .i64 ((gb.all.getD j default).num),.int .i64 ((gb.all.getD j default).yr),.int .u8 ((gb.all.getD j default).half),.int .u8 ((gb.all.getD j default).sec),.int .i64 ((gb.all.getD j default).cyc)] 24 (0,0)),pt b_d17 (.cells #[.int .i64 ((gb.all.getD j default).num),.int .i64 ((gb.all.getD j default).yr),.int .u8 ((gb.all.getD j default).half),.int .u8 ((gb.all.getD j default).sec),.int .i64 ((gb.all.getD j default).cyc)] 24 (0,0)),pt b_c1 (.cells #[.int .u8 c.kind,.int .i64 c.a.num,.int .i64 c.a.yr,.int .u8 c.a.half,.int .u8 c.a.sec,.int .i64 c.a.cyc,.int .i64 c.b.num,.int .i64 c.b.yr,.int .u8 c.b.half,.int .u8 c.b.sec,.int .i64 c.b.cyc,.int .i64 c.n] 26 (0,0)),mp dV bm (setP (gb.all.getD j default) (ptrV ga.blk) (putAll kvs (ptrV ga.blk) (gb.all.take j))),pt ga.blk (.cells #[va,.bool (ga.num||gb.num)] 95 (0,0)),sl 24 5 va ((ga.all++gb.all.take j).length) (encs eD (ga.all++gb.all.take j)),pt gb.blk (.cells #[gb.v,.bool gb.num] 95 (0,0)),sl 24 5 gb.v gb.all.length (encs eD gb.all),bigA (rest.map (grA 95 24))]:=hD; clear hD
            replace hf:Fr a 89 [] [(0,.map (some bm)),(4,.pointer (some ⟨ga.blk,0,none⟩)),(7,.pointer (some ⟨b_d17,0,none⟩)),(69,gb.v),(70,.int .i64 (gb.all.length:Int)),(71,.int .i64 (j:Int))]:=hf
            refine O.val hf rfl rfl rfl (RunV.move rfl) ?_
            clear hf a; intro a hf
            exact O.nil ⟨rfl,hf.to trivial,(fun d hd=>by cases (show some 78=some d from hd); exact hf.get _ _ rfl),hS⟩
          · have hS:St w0 w (fun k=>(stA 95 24 bm kvs gs).fp k) [] [pt b_s18 (.cells #[.int .i64 ((gb.all.getD j default).num),.int .i64 ((gb.all.getD j default).yr),.int .u8 ((gb.all.getD j default).half),.int .u8 ((gb.all.getD j default).sec),.int .i64 ((gb.all.getD j default).cyc)] 24 (0,0)),pt b_d17 (.cells #[.int .i64 ((gb.all.getD j default).num),.int .i64 ((gb.all.getD j default).yr),.int .u8 ((gb.all.getD j default).half),.int .u8 ((gb.all.getD j default).sec),.int .i64 ((gb.all.getD j default).cyc)] 24 (0,0)),pt b_c1 (.cells #[.int .u8 c.kind,.int .i64 c.a.num,.int .i64 c.a.yr,.int .u8 c.a.half,.int .u8 c.a.sec,.int .i64 c.a.cyc,.int .i64 c.b.num,.int .i64 c.b.yr,.int .u8 c.b.half,.int .u8 c.b.sec,.int .i64 c.b.cyc,.int .i64 c.n] 26 (0,0)),mp dV bm (setP (gb.all.getD j default) (ptrV ga.blk) (putAll kvs (ptrV ga.blk) (gb.all.take j))),pt ga.blk (.cells #[va,.bool (ga.num||gb.num)] 95 (0,0)),sl 24 5 v19 (((ga.all++gb.all.take j)++[(gb.all.getD j default)]).length) (encs eD ((ga.all++gb.all.take j)++[(gb.all.getD j default)])),pt gb.blk (.cells #[gb.v,.bool gb.num] 95 (0,0)),sl 24 5 gb.v gb.all.length (encs eD gb.all),bigA (rest.map (grA 95 24))]:=hD; clear hD
            replace hf:Fr a 89 [] [(0,.map (some bm)),(4,.pointer (some ⟨ga.blk,0,none⟩)),(7,.pointer (some ⟨b_d17,0,none⟩)),(69,gb.v),(70,.int .i64 (gb.all.length:Int)),(71,.int .i64 (j:Int))]:=hf
            refine O.val hf rfl rfl rfl (RunV.move rfl) ?_
            clear hf a; intro a hf
            exact O.nil ⟨rfl,hf.to trivial,(fun d hd=>by cases (show some 78=some d from hd); exact hf.get _ _ rfl),hS⟩
          · have hhi:k_+3≤2:=hhi; omega
        · intro k_ s_ g w hlo hhi _ hD a hf
          obtain ⟨b_s18,v19⟩:=g
          rcases k_ with _ | _ | _ | k_
          · have hS:St w0 w (fun k=>(stA 95 24 bm kvs gs).fp k) [] [pt b_d17 (.cells #[.int .i64 ((gb.all.getD j default).num),.int .i64 ((gb.all.getD j default).yr),.int .u8 ((gb.all.getD j default).half),.int .u8 ((gb.all.getD j default).sec),.int .i64 ((gb.all.getD j default).cyc)] 24 (0,0)),pt b_c1 (.cells #[.int .u8 c.kind,.int .i64 c.a.num,.int .i64 c.a.yr,.int .u8 c.a.half,.int .u8 c.a.sec,.int .i64 c.a.cyc,.int .i64 c.b.num,.int .i64 c.b.yr,.int .u8 c.b.half,.int .u8 c.b.sec,.int .i64 c.b.cyc,.int .i64 c.n] 26 (0,0)),mp dV bm (setP (gb.all.getD j default) (ptrV ga.blk) (putAll kvs (ptrV ga.blk) (gb.all.take j))),pt ga.blk (.cells #[va,.bool (ga.num||gb.num)] 95 (0,0)),sl 24 5 va ((ga.all++gb.all.take j).length) (encs eD (ga.all++gb.all.take j)),pt gb.blk (.cells #[gb.v,.bool gb.num] 95 (0,0)),sl 24 5 gb.v gb.all.length (encs eD gb.all),bigA (rest.map (grA 95 24))]:=hD; clear hD
            replace hf:Fr a 89 [] [(0,.map (some bm)),(4,.pointer (some ⟨ga.blk,0,none⟩)),(7,.pointer (some ⟨b_d17,0,none⟩)),(69,gb.v),(70,.int .i64 (gb.all.length:Int)),(71,.int .i64 (j:Int))]:=hf
            refine O.val hf rfl rfl rfl (RunV.move rfl) ?_
            clear hf a; intro a hf
            exact O.nil ⟨rfl,hf.to trivial,(fun d hd=>by cases (show some 79=some d from hd); exact hf.get _ _ rfl),hS⟩
          · have hS:St w0 w (fun k=>(stA 95 24 bm kvs gs).fp k) [] [pt b_s18 (.cells #[.int .i64 ((gb.all.getD j default).num),.int .i64 ((gb.all.getD j default).yr),.int .u8 ((gb.all.getD j default).half),.int .u8 ((gb.all.getD j default).sec),.int .i64 ((gb.all.getD j default).cyc)] 24 (0,0)),pt b_d17 (.cells #[.int .i64 ((gb.all.getD j default).num),.int .i64 ((gb.all.getD j default).yr),.int .u8 ((gb.all.getD j default).half),.int .u8 ((gb.all.getD j default).sec),.int .i64 ((gb.all.getD j default).cyc)] 24 (0,0)),pt b_c1 (.cells #[.int .u8 c.kind,.int .i64 c.a.num,.int .i64 c.a.yr,.int .u8 c.a.half,.int .u8 c.a.sec,.int .i64 c.a.cyc,.int .i64 c.b.num,.int .i64 c.b.yr,.int .u8 c.b.half,.int .u8 c.b.sec,.int .i64 c.b.cyc,.int .i64 c.n] 26 (0,0)),mp dV bm (setP (gb.all.getD j default) (ptrV ga.blk) (putAll kvs (ptrV ga.blk) (gb.all.take j))),pt ga.blk (.cells #[va,.bool (ga.num||gb.num)] 95 (0,0)),sl 24 5 va ((ga.all++gb.all.take j).length) (encs eD (ga.all++gb.all.take j)),pt gb.blk (.cells #[gb.v,.bool gb.num] 95 (0,0)),sl 24 5 gb.v gb.all.length (encs eD gb.all),bigA (rest.map (grA 95 24))]:=hD; clear hD
            replace hf:Fr a 89 [] [(0,.map (some bm)),(4,.pointer (some ⟨ga.blk,0,none⟩)),(7,.pointer (some ⟨b_d17,0,none⟩)),(69,gb.v),(70,.int .i64 (gb.all.length:Int)),(71,.int .i64 (j:Int))]:=hf
            refine O.val hf rfl rfl rfl (RunV.move rfl) ?_
            clear hf a; intro a hf
            exact O.nil ⟨rfl,hf.to trivial,(fun d hd=>by cases (show some 79=some d from hd); exact hf.get _ _ rfl),hS⟩
          · exact absurd hhi (by decide)
          · have hhi:k_+3≤1:=hhi; omega
        · intro k_ s_ g w hlo hhi _ hD a hf
          obtain ⟨b_s18,v19⟩:=g
          rcases k_ with _ | _ | _ | k_
          · have hS:St w0 w (fun k=>(stA 95 24 bm kvs gs).fp k) [] [pt b_d17 (.cells #[.int .i64 ((gb.all.getD j default).num),.int .i64 ((gb.all.getD j default).yr),.int .u8 ((gb.all.getD j default).half),.int .u8 ((gb.all.getD j default).sec),.int .i64 ((gb.all.getD j default).cyc)] 24 (0,0)),pt b_c1 (.cells #[.int .u8 c.kind,.int .i64 c.a.num,.int .i64 c.a.yr,.int .u8 c.a.half,.int .u8 c.a.sec,.int .i64 c.a.cyc,.int .i64 c.b.num,.int .i64 c.b.yr,.int .u8 c.b.half,.int .u8 c.b.sec,.int .i64 c.b.cyc,.int .i64 c.n] 26 (0,0)),mp dV bm (setP (gb.all.getD j default) (ptrV ga.blk) (putAll kvs (ptrV ga.blk) (gb.all.take j))),pt ga.blk (.cells #[va,.bool (ga.num||gb.num)] 95 (0,0)),sl 24 5 va ((ga.all++gb.all.take j).length) (encs eD (ga.all++gb.all.take j)),pt gb.blk (.cells #[gb.v,.bool gb.num] 95 (0,0)),sl 24 5 gb.v gb.all.length (encs eD gb.all),bigA (rest.map (grA 95 24))]:=hD; clear hD
            replace hf:Fr a 89 [] [(79,.pointer (some ⟨ga.blk,0,none⟩)),(0,.map (some bm)),(4,.pointer (some ⟨ga.blk,0,none⟩)),(7,.pointer (some ⟨b_d17,0,none⟩)),(69,gb.v),(70,.int .i64 (gb.all.length:Int)),(71,.int .i64 (j:Int))]:=hf
            refine O.val hf rfl rfl rfl (RunV.nilCheck rfl) ?_
            clear hf a; intro a hf
            exact O.nil ⟨rfl,hf.to trivial,(fun d hd=>by cases (show some 80=some d from hd); exact hf.get _ _ rfl),hS⟩
          · have hS:St w0 w (fun k=>(stA 95 24 bm kvs gs).fp k) [] [pt b_s18 (.cells #[.int .i64 ((gb.all.getD j default).num),.int .i64 ((gb.all.getD j default).yr),.int .u8 ((gb.all.getD j default).half),.int .u8 ((gb.all.getD j default).sec),.int .i64 ((gb.all.getD j default).cyc)] 24 (0,0)),pt b_d17 (.cells #[.int .i64 ((gb.all.getD j default).num),.int .i64 ((gb.all.getD j default).yr),.int .u8 ((gb.all.getD j default).half),.int .u8 ((gb.all.getD j default).sec),.int .i64 ((gb.all.getD j default).cyc)] 24 (0,0)),pt b_c1 (.cells #[.int .u8 c.kind,.int .i64 c.a.num,.int .i64 c.a.yr,.int .u8 c.a.half,.int .u8 c.a.sec,.int .i64 c.a.cyc,.int .i64 c.b.num,.int .i64 c.b.yr,.int .u8 c.b.half,.int .u8 c.b.sec,.int .i64 c.b.cyc,.int .i64 c.n] 26 (0,0)),mp dV bm (setP (gb.all.getD j default) (ptrV ga.blk) (putAll kvs (ptrV ga.blk) (gb.all.take j))),pt ga.blk (.cells #[va,.bool (ga.num||gb.num)] 95 (0,0)),sl 24 5 va ((ga.all++gb.all.take j).length) (encs eD (ga.all++gb.all.take j)),pt gb.blk (.cells #[gb.v,.bool gb.num] 95 (0,0)),sl 24 5 gb.v gb.all.length (encs eD gb.all),bigA (rest.map (grA 95 24))]:=hD; clear hD
            replace hf:Fr a 89 [] [(79,.pointer (some ⟨ga.blk,0,none⟩)),(0,.map (some bm)),(4,.pointer (some ⟨ga.blk,0,none⟩)),(7,.pointer (some ⟨b_d17,0,none⟩)),(69,gb.v),(70,.int .i64 (gb.all.length:Int)),(71,.int .i64 (j:Int))]:=hf
            refine O.val hf rfl rfl rfl (RunV.nilCheck rfl) ?_
            clear hf a; intro a hf
            exact O.nil ⟨rfl,hf.to trivial,(fun d hd=>by cases (show some 80=some d from hd); exact hf.get _ _ rfl),hS⟩
          · exact absurd hhi (by decide)
          · have hhi:k_+3≤1:=hhi; omega
        · intro k_ s_ g w hlo hhi _ hD a hf
          obtain ⟨b_s18,v19⟩:=g
          rcases k_ with _ | _ | _ | k_
          · have hS:St w0 w (fun k=>(stA 95 24 bm kvs gs).fp k) [] [pt b_d17 (.cells #[.int .i64 ((gb.all.getD j default).num),.int .i64 ((gb.all.getD j default).yr),.int .u8 ((gb.all.getD j default).half),.int .u8 ((gb.all.getD j default).sec),.int .i64 ((gb.all.getD j default).cyc)] 24 (0,0)),pt b_c1 (.cells #[.int .u8 c.kind,.int .i64 c.a.num,.int .i64 c.a.yr,.int .u8 c.a.half,.int .u8 c.a.sec,.int .i64 c.a.cyc,.int .i64 c.b.num,.int .i64 c.b.yr,.int .u8 c.b.half,.int .u8 c.b.sec,.int .i64 c.b.cyc,.int .i64 c.n] 26 (0,0)),mp dV bm (setP (gb.all.getD j default) (ptrV ga.blk) (putAll kvs (ptrV ga.blk) (gb.all.take j))),pt ga.blk (.cells #[va,.bool (ga.num||gb.num)] 95 (0,0)),sl 24 5 va ((ga.all++gb.all.take j).length) (encs eD (ga.all++gb.all.take j)),pt gb.blk (.cells #[gb.v,.bool gb.num] 95 (0,0)),sl 24 5 gb.v gb.all.length (encs eD gb.all),bigA (rest.map (grA 95 24))]:=hD; clear hD
            replace hf:Fr a 89 [] [(80,.pointer (some ⟨ga.blk,0,none⟩)),(0,.map (some bm)),(4,.pointer (some ⟨ga.blk,0,none⟩)),(7,.pointer (some ⟨b_d17,0,none⟩)),(69,gb.v),(70,.int .i64 (gb.all.length:Int)),(71,.int .i64 (j:Int))]:=hf
            refine O.val hf rfl rfl rfl (RunV.field T_field_95_0 rfl rfl) ?_
            clear hf a; intro a hf
            exact O.nil ⟨rfl,hf.to trivial,(fun d hd=>by cases (show some 81=some d from hd); exact hf.get _ _ rfl),hS⟩
          · have hS:St w0 w (fun k=>(stA 95 24 bm kvs gs).fp k) [] [pt b_s18 (.cells #[.int .i64 ((gb.all.getD j default).num),.int .i64 ((gb.all.getD j default).yr),.int .u8 ((gb.all.getD j default).half),.int .u8 ((gb.all.getD j default).sec),.int .i64 ((gb.all.getD j default).cyc)] 24 (0,0)),pt b_d17 (.cells #[.int .i64 ((gb.all.getD j default).num),.int .i64 ((gb.all.getD j default).yr),.int .u8 ((gb.all.getD j default).half),.int .u8 ((gb.all.getD j default).sec),.int .i64 ((gb.all.getD j default).cyc)] 24 (0,0)),pt b_c1 (.cells #[.int .u8 c.kind,.int .i64 c.a.num,.int .i64 c.a.yr,.int .u8 c.a.half,.int .u8 c.a.sec,.int .i64 c.a.cyc,.int .i64 c.b.num,.int .i64 c.b.yr,.int .u8 c.b.half,.int .u8 c.b.sec,.int .i64 c.b.cyc,.int .i64 c.n] 26 (0,0)),mp dV bm (setP (gb.all.getD j default) (ptrV ga.blk) (putAll kvs (ptrV ga.blk) (gb.all.take j))),pt ga.blk (.cells #[va,.bool (ga.num||gb.num)] 95 (0,0)),sl 24 5 va ((ga.all++gb.all.take j).length) (encs eD (ga.all++gb.all.take j)),pt gb.blk (.cells #[gb.v,.bool gb.num] 95 (0,0)),sl 24 5 gb.v gb.all.length (encs eD gb.all),bigA (rest.map (grA 95 24))]:=hD; clear hD
            replace hf:Fr a 89 [] [(80,.pointer (some ⟨ga.blk,0,none⟩)),(0,.map (some bm)),(4,.pointer (some ⟨ga.blk,0,none⟩)),(7,.pointer (some ⟨b_d17,0,none⟩)),(69,gb.v),(70,.int .i64 (gb.all.length:Int)),(71,.int .i64 (j:Int))]:=hf
            refine O.val hf rfl rfl rfl (RunV.field T_field_95_0 rfl rfl) ?_
            clear hf a; intro a hf
            exact O.nil ⟨rfl,hf.to trivial,(fun d hd=>by cases (show some 81=some d from hd); exact hf.get _ _ rfl),hS⟩
          · exact absurd hhi (by decide)
          · have hhi:k_+3≤1:=hhi; omega
        · intro k_ s_ g w hlo hhi _ hD a hf
          obtain ⟨b_s18,v19⟩:=g
          rcases k_ with _ | _ | _ | k_
          · have hS:St w0 w (fun k=>(stA 95 24 bm kvs gs).fp k) [] [pt b_d17 (.cells #[.int .i64 ((gb.all.getD j default).num),.int .i64 ((gb.all.getD j default).yr),.int .u8 ((gb.all.getD j default).half),.int .u8 ((gb.all.getD j default).sec),.int .i64 ((gb.all.getD j default).cyc)] 24 (0,0)),pt b_c1 (.cells #[.int .u8 c.kind,.int .i64 c.a.num,.int .i64 c.a.yr,.int .u8 c.a.half,.int .u8 c.a.sec,.int .i64 c.a.cyc,.int .i64 c.b.num,.int .i64 c.b.yr,.int .u8 c.b.half,.int .u8 c.b.sec,.int .i64 c.b.cyc,.int .i64 c.n] 26 (0,0)),mp dV bm (setP (gb.all.getD j default) (ptrV ga.blk) (putAll kvs (ptrV ga.blk) (gb.all.take j))),pt ga.blk (.cells #[va,.bool (ga.num||gb.num)] 95 (0,0)),sl 24 5 va ((ga.all++gb.all.take j).length) (encs eD (ga.all++gb.all.take j)),pt gb.blk (.cells #[gb.v,.bool gb.num] 95 (0,0)),sl 24 5 gb.v gb.all.length (encs eD gb.all),bigA (rest.map (grA 95 24))]:=hD; clear hD
            replace hf:Fr a 89 [] [(81,.pointer (some ⟨ga.blk,0,none⟩)),(0,.map (some bm)),(4,.pointer (some ⟨ga.blk,0,none⟩)),(7,.pointer (some ⟨b_d17,0,none⟩)),(69,gb.v),(70,.int .i64 (gb.all.length:Int)),(71,.int .i64 (j:Int))]:=hf
            refine O.val hf rfl rfl rfl (RunV.load1 T_agg_35 rfl (hS.ptAt (i:=3) rfl) rfl) ?_
            clear hf a; intro a hf
            exact O.nil ⟨rfl,hf.to trivial,(fun d hd=>by cases (show some 82=some d from hd); exact hf.get _ _ rfl),hS⟩
          · have hS:St w0 w (fun k=>(stA 95 24 bm kvs gs).fp k) [] [pt b_s18 (.cells #[.int .i64 ((gb.all.getD j default).num),.int .i64 ((gb.all.getD j default).yr),.int .u8 ((gb.all.getD j default).half),.int .u8 ((gb.all.getD j default).sec),.int .i64 ((gb.all.getD j default).cyc)] 24 (0,0)),pt b_d17 (.cells #[.int .i64 ((gb.all.getD j default).num),.int .i64 ((gb.all.getD j default).yr),.int .u8 ((gb.all.getD j default).half),.int .u8 ((gb.all.getD j default).sec),.int .i64 ((gb.all.getD j default).cyc)] 24 (0,0)),pt b_c1 (.cells #[.int .u8 c.kind,.int .i64 c.a.num,.int .i64 c.a.yr,.int .u8 c.a.half,.int .u8 c.a.sec,.int .i64 c.a.cyc,.int .i64 c.b.num,.int .i64 c.b.yr,.int .u8 c.b.half,.int .u8 c.b.sec,.int .i64 c.b.cyc,.int .i64 c.n] 26 (0,0)),mp dV bm (setP (gb.all.getD j default) (ptrV ga.blk) (putAll kvs (ptrV ga.blk) (gb.all.take j))),pt ga.blk (.cells #[va,.bool (ga.num||gb.num)] 95 (0,0)),sl 24 5 va ((ga.all++gb.all.take j).length) (encs eD (ga.all++gb.all.take j)),pt gb.blk (.cells #[gb.v,.bool gb.num] 95 (0,0)),sl 24 5 gb.v gb.all.length (encs eD gb.all),bigA (rest.map (grA 95 24))]:=hD; clear hD
            replace hf:Fr a 89 [] [(81,.pointer (some ⟨ga.blk,0,none⟩)),(0,.map (some bm)),(4,.pointer (some ⟨ga.blk,0,none⟩)),(7,.pointer (some ⟨b_d17,0,none⟩)),(69,gb.v),(70,.int .i64 (gb.all.length:Int)),(71,.int .i64 (j:Int))]:=hf
            refine O.val hf rfl rfl rfl (RunV.load1 T_agg_35 rfl (hS.ptAt (i:=4) rfl) rfl) ?_
            clear hf a; intro a hf
            exact O.nil ⟨rfl,hf.to trivial,(fun d hd=>by cases (show some 82=some d from hd); exact hf.get _ _ rfl),hS⟩
          · exact absurd hhi (by decide)
          · have hhi:k_+3≤1:=hhi; omega
        · intro k_ s_ g w hlo hhi _ hD a hf
          obtain ⟨b_s18,v19⟩:=g
          rcases k_ with _ | _ | _ | k_
          · have hS:St w0 w (fun k=>(stA 95 24 bm kvs gs).fp k) [] [pt b_d17 (.cells #[.int .i64 ((gb.all.getD j default).num),.int .i64 ((gb.all.getD j default).yr),.int .u8 ((gb.all.getD j default).half),.int .u8 ((gb.all.getD j default).sec),.int .i64 ((gb.all.getD j default).cyc)] 24 (0,0)),pt b_c1 (.cells #[.int .u8 c.kind,.int .i64 c.a.num,.int .i64 c.a.yr,.int .u8 c.a.half,.int .u8 c.a.sec,.int .i64 c.a.cyc,.int .i64 c.b.num,.int .i64 c.b.yr,.int .u8 c.b.half,.int .u8 c.b.sec,.int .i64 c.b.cyc,.int .i64 c.n] 26 (0,0)),mp dV bm (setP (gb.all.getD j default) (ptrV ga.blk) (putAll kvs (ptrV ga.blk) (gb.all.take j))),pt ga.blk (.cells #[va,.bool (ga.num||gb.num)] 95 (0,0)),sl 24 5 va ((ga.all++gb.all.take j).length) (encs eD (ga.all++gb.all.take j)),pt gb.blk (.cells #[gb.v,.bool gb.num] 95 (0,0)),sl 24 5 gb.v gb.all.length (encs eD gb.all),bigA (rest.map (grA 95 24))]:=hD; clear hD
            replace hf:Fr a 89 [] [(0,.map (some bm)),(4,.pointer (some ⟨ga.blk,0,none⟩)),(7,.pointer (some ⟨b_d17,0,none⟩)),(69,gb.v),(70,.int .i64 (gb.all.length:Int)),(71,.int .i64 (j:Int))]:=hf
            refine O.val hf rfl rfl rfl (RunV.loadN (cs':=#[.int .i64 ((gb.all.getD j default).num),.int .i64 ((gb.all.getD j default).yr),.int .u8 ((gb.all.getD j default).half),.int .u8 ((gb.all.getD j default).sec),.int .i64 ((gb.all.getD j default).cyc)]) T_agg_24 T_size_24 rfl (hS.ptAt (i:=0) rfl) (Nat.le_of_ble_eq_true rfl) rfl) ?_
            clear hf a; intro a hf
            exact O.nil ⟨rfl,hf.to trivial,(fun d hd=>by cases (show some 83=some d from hd); exact hf.get _ _ rfl),hS⟩
          · exact absurd hhi (by decide)
          · exact absurd hhi (by decide)
          · have hhi:k_+3≤0:=hhi; omega
        · intro k_ s_ g w hlo hhi _ hD a hf
          obtain ⟨b_s18,v19⟩:=g
          rcases k_ with _ | _ | _ | k_
          · exact absurd hlo (by decide)
          · exact absurd hlo (by decide)
          · have hS:St w0 w (fun k=>(stA 95 24 bm kvs gs).fp k) [] [pt b_s18 (.cells #[.int .i64 ((gb.all.getD j default).num),.int .i64 ((gb.all.getD j default).yr),.int .u8 ((gb.all.getD j default).half),.int .u8 ((gb.all.getD j default).sec),.int .i64 ((gb.all.getD j default).cyc)] 24 (0,0)),pt b_d17 (.cells #[.int .i64 ((gb.all.getD j default).num),.int .i64 ((gb.all.getD j default).yr),.int .u8 ((gb.all.getD j default).half),.int .u8 ((gb.all.getD j default).sec),.int .i64 ((gb.all.getD j default).cyc)] 24 (0,0)),pt b_c1 (.cells #[.int .u8 c.kind,.int .i64 c.a.num,.int .i64 c.a.yr,.int .u8 c.a.half,.int .u8 c.a.sec,.int .i64 c.a.cyc,.int .i64 c.b.num,.int .i64 c.b.yr,.int .u8 c.b.half,.int .u8 c.b.sec,.int .i64 c.b.cyc,.int .i64 c.n] 26 (0,0)),mp dV bm (setP (gb.all.getD j default) (ptrV ga.blk) (putAll kvs (ptrV ga.blk) (gb.all.take j))),pt ga.blk (.cells #[va,.bool (ga.num||gb.num)] 95 (0,0)),sl 24 5 v19 (((ga.all++gb.all.take j)++[(gb.all.getD j default)]).length) (encs eD ((ga.all++gb.all.take j)++[(gb.all.getD j default)])),pt gb.blk (.cells #[gb.v,.bool gb.num] 95 (0,0)),sl 24 5 gb.v gb.all.length (encs eD gb.all),bigA (rest.map (grA 95 24))]:=hD; clear hD
            replace hf:Fr a 89 [] [(78,.pointer (some ⟨ga.blk,0,none⟩)),(79,.pointer (some ⟨ga.blk,0,none⟩)),(80,.pointer (some ⟨ga.blk,0,none⟩)),(81,.pointer (some ⟨ga.blk,0,none⟩)),(82,va),(83,.agg #[.int .i64 ((gb.all.getD j default).num),.int .i64 ((gb.all.getD j default).yr),.int .u8 ((gb.all.getD j default).half),.int .u8 ((gb.all.getD j default).sec),.int .i64 ((gb.all.getD j default).cyc)]),(84,.slice (some ⟨b_s18,0,none⟩) 1 1),(85,v19),(0,.map (some bm)),(4,.pointer (some ⟨ga.blk,0,none⟩)),(7,.pointer (some ⟨b_d17,0,none⟩)),(69,gb.v),(70,.int .i64 (gb.all.length:Int)),(71,.int .i64 (j:Int))]:=hf
            refine O.val hf rfl rfl rfl (RunV.nilCheck rfl) ?_
            clear hf a; intro a hf
            exact O.nil ⟨rfl,hf.to trivial,(fun d hd=>by cases (show some 86=some d from hd); exact hf.get _ _ rfl),hS⟩
          · have hhi:k_+3≤2:=hhi; omega
        · intro k_ s_ g w hlo hhi _ hD a hf
          obtain ⟨b_s18,v19⟩:=g
          rcases k_ with _ | _ | _ | k_
          · exact absurd hlo (by decide)
          · exact absurd hlo (by decide)
          · have hS:St w0 w (fun k=>(stA 95 24 bm kvs gs).fp k) [] [pt b_s18 (.cells #[.int .i64 ((gb.all.getD j default).num),.int .i64 ((gb.all.getD j default).yr),.int .u8 ((gb.all.getD j default).half),.int .u8 ((gb.all.getD j default).sec),.int .i64 ((gb.all.getD j default).cyc)] 24 (0,0)),pt b_d17 (.cells #[.int .i64 ((gb.all.getD j default).num),.int .i64 ((gb.all.getD j default).yr),.int .u8 ((gb.all.getD j default).half),.int .u8 ((gb.all.getD j default).sec),.int .i64 ((gb.all.getD j default).cyc)] 24 (0,0)),pt b_c1 (.cells #[.int .u8 c.kind,.int .i64 c.a.num,.int .i64 c.a.yr,.int .u8 c.a.half,.int .u8 c.a.sec,.int .i64 c.a.cyc,.int .i64 c.b.num,.int .i64 c.b.yr,.int .u8 c.b.half,.int .u8 c.b.sec,.int .i64 c.b.cyc,.int .i64 c.n] 26 (0,0)),mp dV bm (setP (gb.all.getD j default) (ptrV ga.blk) (putAll kvs (ptrV ga.blk) (gb.all.take j))),pt ga.blk (.cells #[va,.bool (ga.num||gb.num)] 95 (0,0)),sl 24 5 v19 (((ga.all++gb.all.take j)++[(gb.all.getD j default)]).length) (encs eD ((ga.all++gb.all.take j)++[(gb.all.getD j default)])),pt gb.blk (.cells #[gb.v,.bool gb.num] 95 (0,0)),sl 24 5 gb.v gb.all.length (encs eD gb.all),bigA (rest.map (grA 95 24))]:=hD; clear hD
            replace hf:Fr a 89 [] [(78,.pointer (some ⟨ga.blk,0,none⟩)),(79,.pointer (some ⟨ga.blk,0,none⟩)),(80,.pointer (some ⟨ga.blk,0,none⟩)),(81,.pointer (some ⟨ga.blk,0,none⟩)),(82,va),(83,.agg #[.int .i64 ((gb.all.getD j default).num),.int .i64 ((gb.all.getD j default).yr),.int .u8 ((gb.all.getD j default).half),.int .u8 ((gb.all.getD j default).sec),.int .i64 ((gb.all.getD j default).cyc)]),(84,.slice (some ⟨b_s18,0,none⟩) 1 1),(85,v19),(86,.pointer (some ⟨ga.blk,0,none⟩)),(0,.map (some bm)),(4,.pointer (some ⟨ga.blk,0,none⟩)),(7,.pointer (some ⟨b_d17,0,none⟩)),(69,gb.v),(70,.int .i64 (gb.all.length:Int)),(71,.int .i64 (j:Int))]:=hf
            refine O.val hf rfl rfl rfl (RunV.field T_field_95_0 rfl rfl) ?_
            clear hf a; intro a hf
            exact O.nil ⟨rfl,hf.to trivial,(fun d hd=>by cases (show some 87=some d from hd); exact hf.get _ _ rfl),hS⟩
          · have hhi:k_+3≤2:=hhi; omega
      · clear hf hS
        refine ⟨?_,?_,?_,trivial⟩
        · intro s_ g w _ hD a hf
          obtain ⟨b_s18,v19⟩:=g
          have hS:St w0 w (fun k=>(stA 95 24 bm kvs gs).fp k) [] [pt b_d17 (.cells #[.int .i64 ((gb.all.getD j default).num),.int .i64 ((gb.all.getD j default).yr),.int .u8 ((gb.all.getD j default).half),.int .u8 ((gb.all.getD j default).sec),.int .i64 ((gb.all.getD j default).cyc)] 24 (0,0)),pt b_c1 (.cells #[.int .u8 c.kind,.int .i64 c.a.num,.int .i64 c.a.yr,.int .u8 c.a.half,.int .u8 c.a.sec,.int .i64 c.a.cyc,.int .i64 c.b.num,.int .i64 c.b.yr,.int .u8 c.b.half,.int .u8 c.b.sec,.int .i64 c.b.cyc,.int .i64 c.n] 26 (0,0)),mp dV bm (setP (gb.all.getD j default) (ptrV ga.blk) (putAll kvs (ptrV ga.blk) (gb.all.take j))),pt ga.blk (.cells #[va,.bool (ga.num||gb.num)] 95 (0,0)),sl 24 5 va ((ga.all++gb.all.take j).length) (encs eD (ga.all++gb.all.take j)),pt gb.blk (.cells #[gb.v,.bool gb.num] 95 (0,0)),sl 24 5 gb.v gb.all.length (encs eD gb.all),bigA (rest.map (grA 95 24))]:=hD; clear hD
          replace hf:Fr a 89 [] [(83,.agg #[.int .i64 ((gb.all.getD j default).num),.int .i64 ((gb.all.getD j default).yr),.int .u8 ((gb.all.getD j default).half),.int .u8 ((gb.all.getD j default).sec),.int .i64 ((gb.all.getD j default).cyc)]),(0,.map (some bm)),(4,.pointer (some ⟨ga.blk,0,none⟩)),(7,.pointer (some ⟨b_d17,0,none⟩)),(69,gb.v),(70,.int .i64 (gb.all.length:Int)),(71,.int .i64 (j:Int))]:=hf
          refine O.buildSlice (cs':=#[.int .i64 ((gb.all.getD j default).num),.int .i64 ((gb.all.getD j default).yr),.int .u8 ((gb.all.getD j default).half),.int .u8 ((gb.all.getD j default).sec),.int .i64 ((gb.all.getD j default).cyc)]) (zs:=#[.int .i64 0,.int .i64 0,.int .u8 0,.int .u8 0,.int .i64 0]) hf hS rfl rfl T_elem_35 T_size_24 T_zero_24 rfl rfl rfl rfl rfl ?_
          clear hf hS a; intro b_s21 w a hbb_s21 hS hf
          exact O.nil ⟨rfl,(b_s21,v19),hf.to trivial,(fun d hd=>by cases (show some 84=some d from hd); exact hf.get _ _ rfl),(fun j_ hj_ ha_=>match j_,hj_,ha_ with | 0,hj_,ha_=>rfl | 1,hj_,ha_=>rfl | 2,hj_,ha_=>rfl | 3,hj_,ha_=>rfl | 4,hj_,ha_=>rfl | 5,hj_,ha_=>rfl | 6,hj_,ha_=>absurd rfl hj_ | 7,hj_,ha_=>absurd ha_ (by decide) | 8,hj_,ha_=>absurd ha_ (by decide) | 9,hj_,ha_=>absurd ha_ (by decide) | 10,hj_,ha_=>absurd ha_ (by decide) | _+11,_,_=>rfl),hS⟩
        · intro s_ g w _ hD a hf
          obtain ⟨b_s18,v19⟩:=g
          have hS:St w0 w (fun k=>(stA 95 24 bm kvs gs).fp k) [] [pt b_s18 (.cells #[.int .i64 ((gb.all.getD j default).num),.int .i64 ((gb.all.getD j default).yr),.int .u8 ((gb.all.getD j default).half),.int .u8 ((gb.all.getD j default).sec),.int .i64 ((gb.all.getD j default).cyc)] 24 (0,0)),pt b_d17 (.cells #[.int .i64 ((gb.all.getD j default).num),.int .i64 ((gb.all.getD j default).yr),.int .u8 ((gb.all.getD j default).half),.int .u8 ((gb.all.getD j default).sec),.int .i64 ((gb.all.getD j default).cyc)] 24 (0,0)),pt b_c1 (.cells #[.int .u8 c.kind,.int .i64 c.a.num,.int .i64 c.a.yr,.int .u8 c.a.half,.int .u8 c.a.sec,.int .i64 c.a.cyc,.int .i64 c.b.num,.int .i64 c.b.yr,.int .u8 c.b.half,.int .u8 c.b.sec,.int .i64 c.b.cyc,.int .i64 c.n] 26 (0,0)),mp dV bm (setP (gb.all.getD j default) (ptrV ga.blk) (putAll kvs (ptrV ga.blk) (gb.all.take j))),pt ga.blk (.cells #[va,.bool (ga.num||gb.num)] 95 (0,0)),sl 24 5 va ((ga.all++gb.all.take j).length) (encs eD (ga.all++gb.all.take j)),pt gb.blk (.cells #[gb.v,.bool gb.num] 95 (0,0)),sl 24 5 gb.v gb.all.length (encs eD gb.all),bigA (rest.map (grA 95 24))]:=hD; clear hD
          replace hf:Fr a 89 [] [(82,va),(84,.slice (some ⟨b_s18,0,none⟩) 1 1),(0,.map (some bm)),(4,.pointer (some ⟨ga.blk,0,none⟩)),(7,.pointer (some ⟨b_d17,0,none⟩)),(69,gb.v),(70,.int .i64 (gb.all.length:Int)),(71,.int .i64 (j:Int))]:=hf
          refine O.append1 (j:=5) (jj:=0) hf hS rfl rfl T_elem_35 T_size_24 T_bytes_24 T_zero_24 rfl rfl rfl rfl rfl rfl rfl rfl (by simp only [List.length_append,List.length_take]; unfold maxLen; omega) (by simp only [List.length_append,List.length_take]; omega) ?_
          clear hf hS a; intro v22 w a hS hf
          replace hS:=hS.eqM (N:=[pt b_s18 (.cells #[.int .i64 ((gb.all.getD j default).num),.int .i64 ((gb.all.getD j default).yr),.int .u8 ((gb.all.getD j default).half),.int .u8 ((gb.all.getD j default).sec),.int .i64 ((gb.all.getD j default).cyc)] 24 (0,0)),pt b_d17 (.cells #[.int .i64 ((gb.all.getD j default).num),.int .i64 ((gb.all.getD j default).yr),.int .u8 ((gb.all.getD j default).half),.int .u8 ((gb.all.getD j default).sec),.int .i64 ((gb.all.getD j default).cyc)] 24 (0,0)),pt b_c1 (.cells #[.int .u8 c.kind,.int .i64 c.a.num,.int .i64 c.a.yr,.int .u8 c.a.half,.int .u8 c.a.sec,.int .i64 c.a.cyc,.int .i64 c.b.num,.int .i64 c.b.yr,.int .u8 c.b.half,.int .u8 c.b.sec,.int .i64 c.b.cyc,.int .i64 c.n] 26 (0,0)),mp dV bm (setP (gb.all.getD j default) (ptrV ga.blk) (putAll kvs (ptrV ga.blk) (gb.all.take j))),pt ga.blk (.cells #[va,.bool (ga.num||gb.num)] 95 (0,0)),sl 24 5 v22 ((ga.all++gb.all.take j).length+1) (encs eD (ga.all++gb.all.take j)++[.int .i64 ((gb.all.getD j default).num),.int .i64 ((gb.all.getD j default).yr),.int .u8 ((gb.all.getD j default).half),.int .u8 ((gb.all.getD j default).sec),.int .i64 ((gb.all.getD j default).cyc)]),pt gb.blk (.cells #[gb.v,.bool gb.num] 95 (0,0)),sl 24 5 gb.v gb.all.length (encs eD gb.all),bigA (rest.map (grA 95 24))]) rfl
          replace hS:=hS.reE (i:=5) (M':=[pt b_s18 (.cells #[.int .i64 ((gb.all.getD j default).num),.int .i64 ((gb.all.getD j default).yr),.int .u8 ((gb.all.getD j default).half),.int .u8 ((gb.all.getD j default).sec),.int .i64 ((gb.all.getD j default).cyc)] 24 (0,0)),pt b_d17 (.cells #[.int .i64 ((gb.all.getD j default).num),.int .i64 ((gb.all.getD j default).yr),.int .u8 ((gb.all.getD j default).half),.int .u8 ((gb.all.getD j default).sec),.int .i64 ((gb.all.getD j default).cyc)] 24 (0,0)),pt b_c1 (.cells #[.int .u8 c.kind,.int .i64 c.a.num,.int .i64 c.a.yr,.int .u8 c.a.half,.int .u8 c.a.sec,.int .i64 c.a.cyc,.int .i64 c.b.num,.int .i64 c.b.yr,.int .u8 c.b.half,.int .u8 c.b.sec,.int .i64 c.b.cyc,.int .i64 c.n] 26 (0,0)),mp dV bm (setP (gb.all.getD j default) (ptrV ga.blk) (putAll kvs (ptrV ga.blk) (gb.all.take j))),pt ga.blk (.cells #[va,.bool (ga.num||gb.num)] 95 (0,0)),sl 24 5 v22 (((ga.all++gb.all.take j)++[(gb.all.getD j default)]).length) (encs eD ((ga.all++gb.all.take j)++[(gb.all.getD j default)])),pt gb.blk (.cells #[gb.v,.bool gb.num] 95 (0,0)),sl 24 5 gb.v gb.all.length (encs eD gb.all),bigA (rest.map (grA 95 24))]) rfl (sl_snoc (enc:=eD) (l:=(ga.all++gb.all.take j)) (x:=(gb.all.getD j default))) rfl
          exact O.nil ⟨rfl,(b_s18,v22),hf.to trivial,(fun d hd=>by cases (show some 85=some d from hd); exact hf.get _ _ rfl),(fun j_ hj_ ha_=>match j_,hj_,ha_ with | 0,hj_,ha_=>rfl | 1,hj_,ha_=>rfl | 2,hj_,ha_=>rfl | 3,hj_,ha_=>rfl | 4,hj_,ha_=>rfl | 5,hj_,ha_=>rfl | 6,hj_,ha_=>rfl | 7,hj_,ha_=>absurd rfl hj_ | 8,hj_,ha_=>absurd ha_ (by decide) | 9,hj_,ha_=>absurd ha_ (by decide) | 10,hj_,ha_=>absurd ha_ (by decide) | _+11,_,_=>rfl),hS⟩
        · intro s_ g w _ hD a hf
          obtain ⟨b_s18,v19⟩:=g
          have hS:St w0 w (fun k=>(stA 95 24 bm kvs gs).fp k) [] [pt b_s18 (.cells #[.int .i64 ((gb.all.getD j default).num),.int .i64 ((gb.all.getD j default).yr),.int .u8 ((gb.all.getD j default).half),.int .u8 ((gb.all.getD j default).sec),.int .i64 ((gb.all.getD j default).cyc)] 24 (0,0)),pt b_d17 (.cells #[.int .i64 ((gb.all.getD j default).num),.int .i64 ((gb.all.getD j default).yr),.int .u8 ((gb.all.getD j default).half),.int .u8 ((gb.all.getD j default).sec),.int .i64 ((gb.all.getD j default).cyc)] 24 (0,0)),pt b_c1 (.cells #[.int .u8 c.kind,.int .i64 c.a.num,.int .i64 c.a.yr,.int .u8 c.a.half,.int .u8 c.a.sec,.int .i64 c.a.cyc,.int .i64 c.b.num,.int .i64 c.b.yr,.int .u8 c.b.half,.int .u8 c.b.sec,.int .i64 c.b.cyc,.int .i64 c.n] 26 (0,0)),mp dV bm (setP (gb.all.getD j default) (ptrV ga.blk) (putAll kvs (ptrV ga.blk) (gb.all.take j))),pt ga.blk (.cells #[va,.bool (ga.num||gb.num)] 95 (0,0)),sl 24 5 v19 (((ga.all++gb.all.take j)++[(gb.all.getD j default)]).length) (encs eD ((ga.all++gb.all.take j)++[(gb.all.getD j default)])),pt gb.blk (.cells #[gb.v,.bool gb.num] 95 (0,0)),sl 24 5 gb.v gb.all.length (encs eD gb.all),bigA (rest.map (grA 95 24))]:=hD; clear hD
          replace hf:Fr a 89 [] [(78,.pointer (some ⟨ga.blk,0,none⟩)),(79,.pointer (some ⟨ga.blk,0,none⟩)),(80,.pointer (some ⟨ga.blk,0,none⟩)),(81,.pointer (some ⟨ga.blk,0,none⟩)),(82,va),(83,.agg #[.int .i64 ((gb.all.getD j default).num),.int .i64 ((gb.all.getD j default).yr),.int .u8 ((gb.all.getD j default).half),.int .u8 ((gb.all.getD j default).sec),.int .i64 ((gb.all.getD j default).cyc)]),(84,.slice (some ⟨b_s18,0,none⟩) 1 1),(85,v19),(87,.pointer (some ⟨ga.blk,0,none⟩)),(0,.map (some bm)),(4,.pointer (some ⟨ga.blk,0,none⟩)),(7,.pointer (some ⟨b_d17,0,none⟩)),(69,gb.v),(70,.int .i64 (gb.all.length:Int)),(71,.int .i64 (j:Int))]:=hf
          have hcl23:=rdOK.cells (hS.slr (j:=5) rfl)
          refine O.store (m:=1) (j:=4) (cs':=#[v19,.bool (ga.num||gb.num)]) (M':=[pt b_s18 (.cells #[.int .i64 ((gb.all.getD j default).num),.int .i64 ((gb.all.getD j default).yr),.int .u8 ((gb.all.getD j default).half),.int .u8 ((gb.all.getD j default).sec),.int .i64 ((gb.all.getD j default).cyc)] 24 (0,0)),pt b_d17 (.cells #[.int .i64 ((gb.all.getD j default).num),.int .i64 ((gb.all.getD j default).yr),.int .u8 ((gb.all.getD j default).half),.int .u8 ((gb.all.getD j default).sec),.int .i64 ((gb.all.getD j default).cyc)] 24 (0,0)),pt b_c1 (.cells #[.int .u8 c.kind,.int .i64 c.a.num,.int .i64 c.a.yr,.int .u8 c.a.half,.int .u8 c.a.sec,.int .i64 c.a.cyc,.int .i64 c.b.num,.int .i64 c.b.yr,.int .u8 c.b.half,.int .u8 c.b.sec,.int .i64 c.b.cyc,.int .i64 c.n] 26 (0,0)),mp dV bm (setP (gb.all.getD j default) (ptrV ga.blk) (putAll kvs (ptrV ga.blk) (gb.all.take j))),pt ga.blk (.cells #[v19,.bool (ga.num||gb.num)] 95 (0,0)),sl 24 5 v19 (((ga.all++gb.all.take j)++[(gb.all.getD j default)]).length) (encs eD ((ga.all++gb.all.take j)++[(gb.all.getD j default)])),pt gb.blk (.cells #[gb.v,.bool gb.num] 95 (0,0)),sl 24 5 gb.v gb.all.length (encs eD gb.all),bigA (rest.map (grA 95 24))]) hf hS rfl rfl rfl T_size_35 (by rw [hcl23.1]; rfl) (by rw [hcl23.1]; exact hcl23.2) rfl (Nat.le_of_ble_eq_true rfl) (by rw [hcl23.1]; rfl) rfl ?_
          clear hS; intro w hS
          exact O.nil ⟨rfl,(b_s18,v19),hf.to trivial,(fun d hd=>by cases (show none=some d from hd)),(fun j_ hj_ ha_=>match j_,hj_,ha_ with | 0,hj_,ha_=>rfl | 1,hj_,ha_=>rfl | 2,hj_,ha_=>rfl | 3,hj_,ha_=>rfl | 4,hj_,ha_=>rfl | 5,hj_,ha_=>rfl | 6,hj_,ha_=>rfl | 7,hj_,ha_=>rfl | 8,hj_,ha_=>rfl | 9,hj_,ha_=>rfl | 10,hj_,ha_=>absurd rfl hj_ | _+11,_,_=>rfl),hS⟩
      clear hf hS; intro s_ g a w _ hf hD
      obtain ⟨b_s18,v19⟩:=g
      have hS:St w0 w (fun k=>(stA 95 24 bm kvs gs).fp k) [] [pt b_s18 (.cells #[.int .i64 ((gb.all.getD j default).num),.int .i64 ((gb.all.getD j default).yr),.int .u8 ((gb.all.getD j default).half),.int .u8 ((gb.all.getD j default).sec),.int .i64 ((gb.all.getD j default).cyc)] 24 (0,0)),pt b_d17 (.cells #[.int .i64 ((gb.all.getD j default).num),.int .i64 ((gb.all.getD j default).yr),.int .u8 ((gb.all.getD j default).half),.int .u8 ((gb.all.getD j default).sec),.int .i64 ((gb.all.getD j default).cyc)] 24 (0,0)),pt b_c1 (.cells #[.int .u8 c.kind,.int .i64 c.a.num,.int .i64 c.a.yr,.int .u8 c.a.half,.int .u8 c.a.sec,.int .i64 c.a.cyc,.int .i64 c.b.num,.int .i64 c.b.yr,.int .u8 c.b.half,.int .u8 c.b.sec,.int .i64 c.b.cyc,.int .i64 c.n] 26 (0,0)),mp dV bm (setP (gb.all.getD j default) (ptrV ga.blk) (putAll kvs (ptrV ga.blk) (gb.all.take j))),pt ga.blk (.cells #[v19,.bool (ga.num||gb.num)] 95 (0,0)),sl 24 5 v19 (((ga.all++gb.all.take j)++[(gb.all.getD j default)]).length) (encs eD ((ga.all++gb.all.take j)++[(gb.all.getD j default)])),pt gb.blk (.cells #[gb.v,.bool gb.num] 95 (0,0)),sl 24 5 gb.v gb.all.length (encs eD gb.all),bigA (rest.map (grA 95 24))]:=hD; clear hD
      replace hf:Fr a 89 [] [(78,.pointer (some ⟨ga.blk,0,none⟩)),(79,.pointer (some ⟨ga.blk,0,none⟩)),(80,.pointer (some ⟨ga.blk,0,none⟩)),(81,.pointer (some ⟨ga.blk,0,none⟩)),(82,va),(83,.agg #[.int .i64 ((gb.all.getD j default).num),.int .i64 ((gb.all.getD j default).yr),.int .u8 ((gb.all.getD j default).half),.int .u8 ((gb.all.getD j default).sec),.int .i64 ((gb.all.getD j default).cyc)]),(84,.slice (some ⟨b_s18,0,none⟩) 1 1),(85,v19),(86,.pointer (some ⟨ga.blk,0,none⟩)),(87,.pointer (some ⟨ga.blk,0,none⟩)),(0,.map (some bm)),(4,.pointer (some ⟨ga.blk,0,none⟩)),(7,.pointer (some ⟨b_d17,0,none⟩)),(69,gb.v),(70,.int .i64 (gb.all.length:Int)),(71,.int .i64 (j:Int))]:=hf
      refine k_blk_normal ?_
      refine k_seq ?_
      replace hf:Fr a 89 [] [(0,.map (some bm)),(4,.pointer (some ⟨ga.blk,0,none⟩)),(7,.pointer (some ⟨b_d17,0,none⟩)),(69,gb.v),(70,.int .i64 (gb.all.length:Int)),(71,.int .i64 (j:Int))]:=hf.to ⟨rfl,rfl,rfl,rfl,rfl,rfl,trivial⟩
      refine W.regionL (l:=[0,1]) rfl ?_
      refine O.val hf rfl rfl rfl (RunV.addI rfl rfl (by omega)) ?_
      clear hf a; intro a hf
      refine O.val hf rfl rfl rfl (RunV.move rfl) ?_
      clear hf a; intro a hf
      refine O.nil ?_
      replace hS:=hS.sub (N:=[pt b_c1 (.cells #[.int .u8 c.kind,.int .i64 c.a.num,.int .i64 c.a.yr,.int .u8 c.a.half,.int .u8 c.a.sec,.int .i64 c.a.cyc,.int .i64 c.b.num,.int .i64 c.b.yr,.int .u8 c.b.half,.int .u8 c.b.sec,.int .i64 c.b.cyc,.int .i64 c.n] 26 (0,0)),mp dV bm (setP (gb.all.getD j default) (ptrV ga.blk) (putAll kvs (ptrV ga.blk) (gb.all.take j))),pt ga.blk (.cells #[v19,.bool (ga.num||gb.num)] 95 (0,0)),sl 24 5 v19 (((ga.all++gb.all.take j)++[(gb.all.getD j default)]).length) (encs eD ((ga.all++gb.all.take j)++[(gb.all.getD j default)])),pt gb.blk (.cells #[gb.v,.bool gb.num] 95 (0,0)),sl 24 5 gb.v gb.all.length (encs eD gb.all),bigA (rest.map (grA 95 24))]) (.cons _ (.cons _ (.cons_cons _ (.cons_cons _ (.cons_cons _ (.cons_cons _ (.cons_cons _ (.cons_cons _ (.cons_cons _ .slnil)))))))))
      refine k_then ⟨(j+1,v19),⟨hf.to ⟨rfl,rfl,rfl,rfl,(by first | rfl | exact congrArg some (congrArg (Value.int _) (by omega))),trivial⟩,?_,?_⟩,?_⟩
      · exact hS.eqM (by rw [take_snoc (by omega)]; simp only [putAll_snoc,List.append_assoc])
      · omega
      · dsimp only; omega
    · refine W.exit ?_
      refine k_then_exit ?_
      refine k_then_exit ?_
      refine k_blk ?_
      refine post_normal ?_
      refine post0 hf rfl  ?_
      have hj2:j=gb.all.length:=by omega
      replace hS:=hS.front (i:=6) (M':=[bigA (rest.map (grA 95 24)),pt b_c1 (.cells #[.int .u8 c.kind,.int .i64 c.a.num,.int .i64 c.a.yr,.int .u8 c.a.half,.int .u8 c.a.sec,.int .i64 c.a.cyc,.int .i64 c.b.num,.int .i64 c.b.yr,.int .u8 c.b.half,.int .u8 c.b.sec,.int .i64 c.b.cyc,.int .i64 c.n] 26 (0,0)),mp dV bm (putAll kvs (ptrV ga.blk) (gb.all.take j)),pt ga.blk (.cells #[va,.bool (ga.num||gb.num)] 95 (0,0)),sl 24 5 va ((ga.all++gb.all.take j).length) (encs eD (ga.all++gb.all.take j)),pt gb.blk (.cells #[gb.v,.bool gb.num] 95 (0,0)),sl 24 5 gb.v gb.all.length (encs eD gb.all)]) rfl rfl
      replace hS:=hS.front (i:=4) (M':=[sl 24 5 va ((ga.all++gb.all.take j).length) (encs eD (ga.all++gb.all.take j)),bigA (rest.map (grA 95 24)),pt b_c1 (.cells #[.int .u8 c.kind,.int .i64 c.a.num,.int .i64 c.a.yr,.int .u8 c.a.half,.int .u8 c.a.sec,.int .i64 c.a.cyc,.int .i64 c.b.num,.int .i64 c.b.yr,.int .u8 c.b.half,.int .u8 c.b.sec,.int .i64 c.b.cyc,.int .i64 c.n] 26 (0,0)),mp dV bm (putAll kvs (ptrV ga.blk) (gb.all.take j)),pt ga.blk (.cells #[va,.bool (ga.num||gb.num)] 95 (0,0)),pt gb.blk (.cells #[gb.v,.bool gb.num] 95 (0,0)),sl 24 5 gb.v gb.all.length (encs eD gb.all)]) rfl rfl
      replace hS:=hS.front (i:=4) (M':=[pt ga.blk (.cells #[va,.bool (ga.num||gb.num)] 95 (0,0)),sl 24 5 va ((ga.all++gb.all.take j).length) (encs eD (ga.all++gb.all.take j)),bigA (rest.map (grA 95 24)),pt b_c1 (.cells #[.int .u8 c.kind,.int .i64 c.a.num,.int .i64 c.a.yr,.int .u8 c.a.half,.int .u8 c.a.sec,.int .i64 c.a.cyc,.int .i64 c.b.num,.int .i64 c.b.yr,.int .u8 c.b.half,.int .u8 c.b.sec,.int .i64 c.b.cyc,.int .i64 c.n] 26 (0,0)),mp dV bm (putAll kvs (ptrV ga.blk) (gb.all.take j)),pt gb.blk (.cells #[gb.v,.bool gb.num] 95 (0,0)),sl 24 5 gb.v gb.all.length (encs eD gb.all)]) rfl rfl
      replace hS:=hS.front (i:=4) (M':=[mp dV bm (putAll kvs (ptrV ga.blk) (gb.all.take j)),pt ga.blk (.cells #[va,.bool (ga.num||gb.num)] 95 (0,0)),sl 24 5 va ((ga.all++gb.all.take j).length) (encs eD (ga.all++gb.all.take j)),bigA (rest.map (grA 95 24)),pt b_c1 (.cells #[.int .u8 c.kind,.int .i64 c.a.num,.int .i64 c.a.yr,.int .u8 c.a.half,.int .u8 c.a.sec,.int .i64 c.a.cyc,.int .i64 c.b.num,.int .i64 c.b.yr,.int .u8 c.b.half,.int .u8 c.b.sec,.int .i64 c.b.cyc,.int .i64 c.n] 26 (0,0)),pt gb.blk (.cells #[gb.v,.bool gb.num] 95 (0,0)),sl 24 5 gb.v gb.all.length (encs eD gb.all)]) rfl rfl
      rw [hj2,List.take_length] at hS
      have hS2:=St.grPut (g:=⟨ga.blk,va,ga.all++gb.all,ga.num||gb.num⟩) hS
      exact ⟨(_,⟨ga.blk,va,ga.all++gb.all,ga.num||gb.num⟩::rest),rfl,(hS2.stClose.sub (List.Sublist.cons_cons _ (List.nil_sublist _))).noB,hL2.join,by simp [absG,merged,show ¬ ga.all.length<gb.all.length by omega]⟩
set_option maxHeartbeats 400000 in
set_option maxRecDepth 4000 in
theorem join_err_a (bm:Nat) (kvs:List (Dg × Value)) (gs:List Grp) (c:Ch) (w0:World) (h0:Lent w0 (stA 95 24 bm kvs gs)) (hL:Look kvs gs) (v:Value) (hl:getP c.a kvs=none) (hv:(getP c.b kvs).getD (.pointer none)=v) :
    RetP Tryd.prog 88 57 #[.map (some bm),.agg #[.int .u8 c.kind,.int .i64 c.a.num,.int .i64 c.a.yr,.int .u8 c.a.half,.int .u8 c.a.sec,.int .i64 c.a.cyc,.int .i64 c.b.num,.int .i64 c.b.yr,.int .u8 c.b.half,.int .u8 c.b.sec,.int .i64 c.b.cyc,.int .i64 c.n]] w0 (G:=Unit) (fun _=>.tuple #[]) (fun _ _=>False) (fun e w=>e=6∧St w0 w (fun k=>(stA 95 24 bm kvs gs).fp k) [] []):=by
  refine retP_of_W (lv:=[.map (some bm),.agg #[.int .u8 c.kind,.int .i64 c.a.num,.int .i64 c.a.yr,.int .u8 c.a.half,.int .u8 c.a.sec,.int .i64 c.a.cyc,.int .i64 c.b.num,.int .i64 c.b.yr,.int .u8 c.b.half,.int .u8 c.b.sec,.int .i64 c.b.cyc,.int .i64 c.n]]) Tryd.func57 rfl rfl rfl (fun a hf=>?_)
  replace hf:Fr a 89 [] [(0,.map (some bm)),(1,.agg #[.int .u8 c.kind,.int .i64 c.a.num,.int .i64 c.a.yr,.int .u8 c.a.half,.int .u8 c.a.sec,.int .i64 c.a.cyc,.int .i64 c.b.num,.int .i64 c.b.yr,.int .u8 c.b.half,.int .u8 c.b.sec,.int .i64 c.b.cyc,.int .i64 c.n])]:=hf
  have hS:St w0 w0 (fun k=>(stA 95 24 bm kvs gs).fp k) [] [mp dV bm kvs,bigA (gs.map (grA 95 24))]:=St.stOpen (St.ownG h0 (by simp) (by simp))
  refine W.seq ?_
  refine W.regionL (l:=[0]) rfl ?_
  refine O.box (cs:=#[.int .u8 c.kind,.int .i64 c.a.num,.int .i64 c.a.yr,.int .u8 c.a.half,.int .u8 c.a.sec,.int .i64 c.a.cyc,.int .i64 c.b.num,.int .i64 c.b.yr,.int .u8 c.b.half,.int .u8 c.b.sec,.int .i64 c.b.cyc,.int .i64 c.n]) hf hS rfl rfl rfl rfl ?_
  clear hf hS a; intro b_c1 w a hbb_c1 hS hf
  refine O.nil ?_
  refine k_seq ?_
  replace hf:Fr a 89 [] [(0,.map (some bm)),(3,.pointer (some ⟨b_c1,0,none⟩))]:=hf.to ⟨rfl,rfl,trivial⟩
  refine W.seq ?_
  refine W.drawQ (fun w=>St w0 w (fun k=>(stA 95 24 bm kvs gs).fp k) [] [pt b_c1 (.cells #[.int .u8 c.kind,.int .i64 c.a.num,.int .i64 c.a.yr,.int .u8 c.a.half,.int .u8 c.a.sec,.int .i64 c.a.cyc,.int .i64 c.b.num,.int .i64 c.b.yr,.int .u8 c.b.half,.int .u8 c.b.sec,.int .i64 c.b.cyc,.int .i64 c.n] 26 (0,0)),mp dV bm kvs,bigA (gs.map (grA 95 24))]) P_mixed rfl (by kernel_rfl) rfl hS.drew ?_
  clear hS
  refine OQ.val (v:=.map (some bm)) hf rfl (fun w hS=>RunV.move rfl) ?_; clear hf a; intro a hf
  refine OQ.val (v:=.pointer (some ⟨b_c1,1,none⟩)) hf rfl (fun w hS=>RunV.field T_field_26_1 rfl rfl) ?_; clear hf a; intro a hf
  refine OQ.val (v:=.agg #[.int .i64 c.a.num,.int .i64 c.a.yr,.int .u8 c.a.half,.int .u8 c.a.sec,.int .i64 c.a.cyc]) hf rfl (fun w hS=>RunV.loadN (cs':=#[.int .i64 c.a.num,.int .i64 c.a.yr,.int .u8 c.a.half,.int .u8 c.a.sec,.int .i64 c.a.cyc]) T_agg_24 T_size_24 rfl (hS.ptAt (i:=0) rfl) (Nat.le_of_ble_eq_true rfl) rfl) ?_; clear hf a; intro a hf
  refine OQ.val (v:=.pointer none) hf rfl (fun w hS=>RunV.lookP (k:=c.a) (kvs:=kvs) T_mapof_71 keyD trivial (fun _ _=>trivial) rfl rfl (hS.mpAt (j:=1) rfl) (by rw [hl] <;> rfl)) ?_; clear hf a; intro a hf
  refine OQ.val (v:=.map (some bm)) hf rfl (fun w hS=>RunV.move rfl) ?_; clear hf a; intro a hf
  refine OQ.val (v:=.pointer (some ⟨b_c1,6,none⟩)) hf rfl (fun w hS=>RunV.field T_field_26_2 rfl rfl) ?_; clear hf a; intro a hf
  refine OQ.val (v:=.agg #[.int .i64 c.b.num,.int .i64 c.b.yr,.int .u8 c.b.half,.int .u8 c.b.sec,.int .i64 c.b.cyc]) hf rfl (fun w hS=>RunV.loadN (cs':=#[.int .i64 c.b.num,.int .i64 c.b.yr,.int .u8 c.b.half,.int .u8 c.b.sec,.int .i64 c.b.cyc]) T_agg_24 T_size_24 rfl (hS.ptAt (i:=0) rfl) (Nat.le_of_ble_eq_true rfl) rfl) ?_; clear hf a; intro a hf
  refine OQ.val (v:=v) hf rfl (fun w hS=>RunV.lookP (k:=c.b) (kvs:=kvs) T_mapof_71 keyD trivial (fun _ _=>trivial) rfl rfl (hS.mpAt (j:=1) rfl) hv) ?_; clear hf a; intro a hf
  refine OQ.val (v:=.pointer none) hf rfl (fun w hS=>RunV.assign rfl) ?_; clear hf a; intro a hf
  refine OQ.val (v:=v) hf rfl (fun w hS=>RunV.assign rfl) ?_; clear hf a; intro a hf
  refine OQ.nil ?_; intro w hS
  refine k_seq ?_
  replace hf:Fr a 89 [] [(0,.map (some bm)),(4,.pointer none),(5,v)]:=hf.to ⟨rfl,rfl,rfl,trivial⟩
  refine W.seq ?_
  refine W.regionL (l:=[0,1,2,3,4,5,6]) rfl ?_
  refine O.val hf rfl rfl rfl (RunV.move rfl) ?_
  clear hf a; intro a hf
  refine O.val hf rfl rfl rfl (RunV.toB (c:=false) (RunV.neNil Tryd.underlying79 rfl rfl) rfl) ?_
  clear hf a; intro a hf
  refine O.val hf rfl rfl rfl (RunV.move rfl) ?_
  clear hf a; intro a hf
  refine O.skipB hf rfl rfl rfl rfl rfl ?_; clear hf a; intro a hf
  refine O.skipB hf rfl rfl rfl rfl rfl ?_; clear hf a; intro a hf
  refine O.val (v:=.bool false) hf rfl rfl rfl (RunV.pick rfl rfl rfl rfl) ?_
  clear hf a; intro a hf
  refine O.callP hf rfl rfl rfl (RunE.call (av:=#[.bool false,.int .i64 6]) C_ok_46 rfl rfl rfl) (need_bad 6 _) ?_ ?_
  · rintro _ _ h _ _; exact h.elim
  · rintro c w1 ⟨rfl,hS1⟩ a hf
    replace hS:=(hS.call hS1).dropN
    refine k_seq_panic ?_
    refine post_panic hf ?_
    exact .inr ⟨_,rfl,rfl,hS.sub (List.nil_sublist _) |>.noB⟩
set_option maxHeartbeats 400000 in
set_option maxRecDepth 4000 in
theorem join_err_b (bm:Nat) (kvs:List (Dg × Value)) (gs:List Grp) (c:Ch) (w0:World) (h0:Lent w0 (stA 95 24 bm kvs gs)) (hL:Look kvs gs) (v:Nat) (hl:getP c.a kvs=some (ptrV v)) (hl2:getP c.b kvs=none) :
    RetP Tryd.prog 88 57 #[.map (some bm),.agg #[.int .u8 c.kind,.int .i64 c.a.num,.int .i64 c.a.yr,.int .u8 c.a.half,.int .u8 c.a.sec,.int .i64 c.a.cyc,.int .i64 c.b.num,.int .i64 c.b.yr,.int .u8 c.b.half,.int .u8 c.b.sec,.int .i64 c.b.cyc,.int .i64 c.n]] w0 (G:=Unit) (fun _=>.tuple #[]) (fun _ _=>False) (fun e w=>e=6∧St w0 w (fun k=>(stA 95 24 bm kvs gs).fp k) [] []):=by
  refine retP_of_W (lv:=[.map (some bm),.agg #[.int .u8 c.kind,.int .i64 c.a.num,.int .i64 c.a.yr,.int .u8 c.a.half,.int .u8 c.a.sec,.int .i64 c.a.cyc,.int .i64 c.b.num,.int .i64 c.b.yr,.int .u8 c.b.half,.int .u8 c.b.sec,.int .i64 c.b.cyc,.int .i64 c.n]]) Tryd.func57 rfl rfl rfl (fun a hf=>?_)
  replace hf:Fr a 89 [] [(0,.map (some bm)),(1,.agg #[.int .u8 c.kind,.int .i64 c.a.num,.int .i64 c.a.yr,.int .u8 c.a.half,.int .u8 c.a.sec,.int .i64 c.a.cyc,.int .i64 c.b.num,.int .i64 c.b.yr,.int .u8 c.b.half,.int .u8 c.b.sec,.int .i64 c.b.cyc,.int .i64 c.n])]:=hf
  have hS:St w0 w0 (fun k=>(stA 95 24 bm kvs gs).fp k) [] [mp dV bm kvs,bigA (gs.map (grA 95 24))]:=St.stOpen (St.ownG h0 (by simp) (by simp))
  refine W.seq ?_
  refine W.regionL (l:=[0]) rfl ?_
  refine O.box (cs:=#[.int .u8 c.kind,.int .i64 c.a.num,.int .i64 c.a.yr,.int .u8 c.a.half,.int .u8 c.a.sec,.int .i64 c.a.cyc,.int .i64 c.b.num,.int .i64 c.b.yr,.int .u8 c.b.half,.int .u8 c.b.sec,.int .i64 c.b.cyc,.int .i64 c.n]) hf hS rfl rfl rfl rfl ?_
  clear hf hS a; intro b_c1 w a hbb_c1 hS hf
  refine O.nil ?_
  refine k_seq ?_
  replace hf:Fr a 89 [] [(0,.map (some bm)),(3,.pointer (some ⟨b_c1,0,none⟩))]:=hf.to ⟨rfl,rfl,trivial⟩
  refine W.seq ?_
  refine W.drawQ (fun w=>St w0 w (fun k=>(stA 95 24 bm kvs gs).fp k) [] [pt b_c1 (.cells #[.int .u8 c.kind,.int .i64 c.a.num,.int .i64 c.a.yr,.int .u8 c.a.half,.int .u8 c.a.sec,.int .i64 c.a.cyc,.int .i64 c.b.num,.int .i64 c.b.yr,.int .u8 c.b.half,.int .u8 c.b.sec,.int .i64 c.b.cyc,.int .i64 c.n] 26 (0,0)),mp dV bm kvs,bigA (gs.map (grA 95 24))]) P_mixed rfl (by kernel_rfl) rfl hS.drew ?_
  clear hS
  refine OQ.val (v:=.map (some bm)) hf rfl (fun w hS=>RunV.move rfl) ?_; clear hf a; intro a hf
  refine OQ.val (v:=.pointer (some ⟨b_c1,1,none⟩)) hf rfl (fun w hS=>RunV.field T_field_26_1 rfl rfl) ?_; clear hf a; intro a hf
  refine OQ.val (v:=.agg #[.int .i64 c.a.num,.int .i64 c.a.yr,.int .u8 c.a.half,.int .u8 c.a.sec,.int .i64 c.a.cyc]) hf rfl (fun w hS=>RunV.loadN (cs':=#[.int .i64 c.a.num,.int .i64 c.a.yr,.int .u8 c.a.half,.int .u8 c.a.sec,.int .i64 c.a.cyc]) T_agg_24 T_size_24 rfl (hS.ptAt (i:=0) rfl) (Nat.le_of_ble_eq_true rfl) rfl) ?_; clear hf a; intro a hf
  refine OQ.val (v:=.pointer (some ⟨v,0,none⟩)) hf rfl (fun w hS=>RunV.lookP (k:=c.a) (kvs:=kvs) T_mapof_71 keyD trivial (fun _ _=>trivial) rfl rfl (hS.mpAt (j:=1) rfl) (by rw [hl] <;> rfl)) ?_; clear hf a; intro a hf
  refine OQ.val (v:=.map (some bm)) hf rfl (fun w hS=>RunV.move rfl) ?_; clear hf a; intro a hf
  refine OQ.val (v:=.pointer (some ⟨b_c1,6,none⟩)) hf rfl (fun w hS=>RunV.field T_field_26_2 rfl rfl) ?_; clear hf a; intro a hf
  refine OQ.val (v:=.agg #[.int .i64 c.b.num,.int .i64 c.b.yr,.int .u8 c.b.half,.int .u8 c.b.sec,.int .i64 c.b.cyc]) hf rfl (fun w hS=>RunV.loadN (cs':=#[.int .i64 c.b.num,.int .i64 c.b.yr,.int .u8 c.b.half,.int .u8 c.b.sec,.int .i64 c.b.cyc]) T_agg_24 T_size_24 rfl (hS.ptAt (i:=0) rfl) (Nat.le_of_ble_eq_true rfl) rfl) ?_; clear hf a; intro a hf
  refine OQ.val (v:=.pointer none) hf rfl (fun w hS=>RunV.lookP (k:=c.b) (kvs:=kvs) T_mapof_71 keyD trivial (fun _ _=>trivial) rfl rfl (hS.mpAt (j:=1) rfl) (by rw [hl2] <;> rfl)) ?_; clear hf a; intro a hf
  refine OQ.val (v:=.pointer (some ⟨v,0,none⟩)) hf rfl (fun w hS=>RunV.assign rfl) ?_; clear hf a; intro a hf
  refine OQ.val (v:=.pointer none) hf rfl (fun w hS=>RunV.assign rfl) ?_; clear hf a; intro a hf
  refine OQ.nil ?_; intro w hS
  refine k_seq ?_
  replace hf:Fr a 89 [] [(0,.map (some bm)),(4,.pointer (some ⟨v,0,none⟩)),(5,.pointer none)]:=hf.to ⟨rfl,rfl,rfl,trivial⟩
  refine W.seq ?_
  refine W.regionL (l:=[0,1,2,3,4,5,6]) rfl ?_
  refine O.val hf rfl rfl rfl (RunV.move rfl) ?_
  clear hf a; intro a hf
  refine O.val hf rfl rfl rfl (RunV.toB (c:=true) (RunV.neNil Tryd.underlying79 rfl rfl) rfl) ?_
  clear hf a; intro a hf
  refine O.val hf rfl rfl rfl (RunV.move rfl) ?_
  clear hf a; intro a hf
  refine O.gvalB (v:=.pointer none) hf rfl rfl rfl rfl rfl rfl (RunV.move rfl) ?_
  clear hf a; intro a hf
  refine O.gvalB (v:=.bool false) hf rfl rfl rfl rfl rfl rfl (RunV.toB (c:=false) (RunV.neNil Tryd.underlying79 rfl rfl) rfl) ?_
  clear hf a; intro a hf
  refine O.val (v:=.bool false) hf rfl rfl rfl (RunV.pick rfl rfl rfl rfl) ?_
  clear hf a; intro a hf
  refine O.callP hf rfl rfl rfl (RunE.call (av:=#[.bool false,.int .i64 6]) C_ok_46 rfl rfl rfl) (need_bad 6 _) ?_ ?_
  · rintro _ _ h _ _; exact h.elim
  · rintro c w1 ⟨rfl,hS1⟩ a hf
    replace hS:=(hS.call hS1).dropN
    refine k_seq_panic ?_
    refine post_panic hf ?_
    exact .inr ⟨_,rfl,rfl,hS.sub (List.nil_sublist _) |>.noB⟩
set_option maxHeartbeats 400000 in
set_option maxRecDepth 4000 in
theorem join_same (bm:Nat) (kvs:List (Dg × Value)) (gs:List Grp) (c:Ch) (w0:World) (h0:Lent w0 (stA 95 24 bm kvs gs)) (hL:Look kvs gs) (ga:Grp) (rest:List Grp) (hp:gs.Perm (ga::rest)) (ha:c.a ∈ ga.all) (hb:c.b ∈ ga.all) :
    RetP Tryd.prog 88 57 #[.map (some bm),.agg #[.int .u8 c.kind,.int .i64 c.a.num,.int .i64 c.a.yr,.int .u8 c.a.half,.int .u8 c.a.sec,.int .i64 c.a.cyc,.int .i64 c.b.num,.int .i64 c.b.yr,.int .u8 c.b.half,.int .u8 c.b.sec,.int .i64 c.b.cyc,.int .i64 c.n]] w0 (G:=Unit) (fun _=>.tuple #[]) (fun _ _=>False) (fun e w=>e=36∧St w0 w (fun k=>(stA 95 24 bm kvs gs).fp k) [] []):=by
  refine retP_of_W (lv:=[.map (some bm),.agg #[.int .u8 c.kind,.int .i64 c.a.num,.int .i64 c.a.yr,.int .u8 c.a.half,.int .u8 c.a.sec,.int .i64 c.a.cyc,.int .i64 c.b.num,.int .i64 c.b.yr,.int .u8 c.b.half,.int .u8 c.b.sec,.int .i64 c.b.cyc,.int .i64 c.n]]) Tryd.func57 rfl rfl rfl (fun a hf=>?_)
  replace hf:Fr a 89 [] [(0,.map (some bm)),(1,.agg #[.int .u8 c.kind,.int .i64 c.a.num,.int .i64 c.a.yr,.int .u8 c.a.half,.int .u8 c.a.sec,.int .i64 c.a.cyc,.int .i64 c.b.num,.int .i64 c.b.yr,.int .u8 c.b.half,.int .u8 c.b.sec,.int .i64 c.b.cyc,.int .i64 c.n])]:=hf
  have hS:St w0 w0 (fun k=>(stA 95 24 bm kvs gs).fp k) [] [mp dV bm kvs,pt ga.blk (.cells #[ga.v,.bool ga.num] 95 (0,0)),sl 24 5 ga.v ga.all.length (encs eD ga.all),bigA (rest.map (grA 95 24))]:=St.grTake (St.stOpen (St.ownG h0 (by simp) (by simp))) hp
  have hA:ga ∈ gs:=hp.mem_iff.2 (by simp)
  have hl1:=hL.hit ga hA c.a ha
  have hL2:=hL.perm hp
  have hl2:=hL.hit ga hA c.b hb
  refine W.seq ?_
  refine W.regionL (l:=[0]) rfl ?_
  refine O.box (cs:=#[.int .u8 c.kind,.int .i64 c.a.num,.int .i64 c.a.yr,.int .u8 c.a.half,.int .u8 c.a.sec,.int .i64 c.a.cyc,.int .i64 c.b.num,.int .i64 c.b.yr,.int .u8 c.b.half,.int .u8 c.b.sec,.int .i64 c.b.cyc,.int .i64 c.n]) hf hS rfl rfl rfl rfl ?_
  clear hf hS a; intro b_c1 w a hbb_c1 hS hf
  refine O.nil ?_
  refine k_seq ?_
  replace hf:Fr a 89 [] [(0,.map (some bm)),(3,.pointer (some ⟨b_c1,0,none⟩))]:=hf.to ⟨rfl,rfl,trivial⟩
  refine W.seq ?_
  refine W.drawQ (fun w=>St w0 w (fun k=>(stA 95 24 bm kvs gs).fp k) [] [pt b_c1 (.cells #[.int .u8 c.kind,.int .i64 c.a.num,.int .i64 c.a.yr,.int .u8 c.a.half,.int .u8 c.a.sec,.int .i64 c.a.cyc,.int .i64 c.b.num,.int .i64 c.b.yr,.int .u8 c.b.half,.int .u8 c.b.sec,.int .i64 c.b.cyc,.int .i64 c.n] 26 (0,0)),mp dV bm kvs,pt ga.blk (.cells #[ga.v,.bool ga.num] 95 (0,0)),sl 24 5 ga.v ga.all.length (encs eD ga.all),bigA (rest.map (grA 95 24))]) P_mixed rfl (by kernel_rfl) rfl hS.drew ?_
  clear hS
  refine OQ.val (v:=.map (some bm)) hf rfl (fun w hS=>RunV.move rfl) ?_; clear hf a; intro a hf
  refine OQ.val (v:=.pointer (some ⟨b_c1,1,none⟩)) hf rfl (fun w hS=>RunV.field T_field_26_1 rfl rfl) ?_; clear hf a; intro a hf
  refine OQ.val (v:=.agg #[.int .i64 c.a.num,.int .i64 c.a.yr,.int .u8 c.a.half,.int .u8 c.a.sec,.int .i64 c.a.cyc]) hf rfl (fun w hS=>RunV.loadN (cs':=#[.int .i64 c.a.num,.int .i64 c.a.yr,.int .u8 c.a.half,.int .u8 c.a.sec,.int .i64 c.a.cyc]) T_agg_24 T_size_24 rfl (hS.ptAt (i:=0) rfl) (Nat.le_of_ble_eq_true rfl) rfl) ?_; clear hf a; intro a hf
  refine OQ.val (v:=.pointer (some ⟨ga.blk,0,none⟩)) hf rfl (fun w hS=>RunV.lookP (k:=c.a) (kvs:=kvs) T_mapof_71 keyD trivial (fun _ _=>trivial) rfl rfl (hS.mpAt (j:=1) rfl) (by rw [hl1] <;> rfl)) ?_; clear hf a; intro a hf
  refine OQ.val (v:=.map (some bm)) hf rfl (fun w hS=>RunV.move rfl) ?_; clear hf a; intro a hf
  refine OQ.val (v:=.pointer (some ⟨b_c1,6,none⟩)) hf rfl (fun w hS=>RunV.field T_field_26_2 rfl rfl) ?_; clear hf a; intro a hf
  refine OQ.val (v:=.agg #[.int .i64 c.b.num,.int .i64 c.b.yr,.int .u8 c.b.half,.int .u8 c.b.sec,.int .i64 c.b.cyc]) hf rfl (fun w hS=>RunV.loadN (cs':=#[.int .i64 c.b.num,.int .i64 c.b.yr,.int .u8 c.b.half,.int .u8 c.b.sec,.int .i64 c.b.cyc]) T_agg_24 T_size_24 rfl (hS.ptAt (i:=0) rfl) (Nat.le_of_ble_eq_true rfl) rfl) ?_; clear hf a; intro a hf
  refine OQ.val (v:=.pointer (some ⟨ga.blk,0,none⟩)) hf rfl (fun w hS=>RunV.lookP (k:=c.b) (kvs:=kvs) T_mapof_71 keyD trivial (fun _ _=>trivial) rfl rfl (hS.mpAt (j:=1) rfl) (by rw [hl2] <;> rfl)) ?_; clear hf a; intro a hf
  refine OQ.val (v:=.pointer (some ⟨ga.blk,0,none⟩)) hf rfl (fun w hS=>RunV.assign rfl) ?_; clear hf a; intro a hf
  refine OQ.val (v:=.pointer (some ⟨ga.blk,0,none⟩)) hf rfl (fun w hS=>RunV.assign rfl) ?_; clear hf a; intro a hf
  refine OQ.nil ?_; intro w hS
  refine k_seq ?_
  replace hf:Fr a 89 [] [(0,.map (some bm)),(4,.pointer (some ⟨ga.blk,0,none⟩)),(5,.pointer (some ⟨ga.blk,0,none⟩))]:=hf.to ⟨rfl,rfl,rfl,trivial⟩
  refine W.seq ?_
  refine W.regionL (l:=[0,1,2,3,4,5,6]) rfl ?_
  refine O.val hf rfl rfl rfl (RunV.move rfl) ?_
  clear hf a; intro a hf
  refine O.val hf rfl rfl rfl (RunV.toB (c:=true) (RunV.neNil Tryd.underlying79 rfl rfl) rfl) ?_
  clear hf a; intro a hf
  refine O.val hf rfl rfl rfl (RunV.move rfl) ?_
  clear hf a; intro a hf
  refine O.gvalB (v:=.pointer (some ⟨ga.blk,0,none⟩)) hf rfl rfl rfl rfl rfl rfl (RunV.move rfl) ?_
  clear hf a; intro a hf
  refine O.gvalB (v:=.bool true) hf rfl rfl rfl rfl rfl rfl (RunV.toB (c:=true) (RunV.neNil Tryd.underlying79 rfl rfl) rfl) ?_
  clear hf a; intro a hf
  refine O.val (v:=.bool true) hf rfl rfl rfl (RunV.pick rfl rfl rfl rfl) ?_
  clear hf a; intro a hf
  refine O.callR hf rfl rfl rfl (RunE.call (av:=#[.bool true,.int .i64 6]) C_ok_46 rfl rfl rfl) (need_ok 6 _) ?_
  clear hf a
  rintro _ w2 hS1 a hf
  replace hf:Fr a _ _ ((22,.tuple #[])::_):=hf
  replace hS:=(hS.call hS1).eqM (N:=[pt b_c1 (.cells #[.int .u8 c.kind,.int .i64 c.a.num,.int .i64 c.a.yr,.int .u8 c.a.half,.int .u8 c.a.sec,.int .i64 c.a.cyc,.int .i64 c.b.num,.int .i64 c.b.yr,.int .u8 c.b.half,.int .u8 c.b.sec,.int .i64 c.b.cyc,.int .i64 c.n] 26 (0,0)),mp dV bm kvs,pt ga.blk (.cells #[ga.v,.bool ga.num] 95 (0,0)),sl 24 5 ga.v ga.all.length (encs eD ga.all),bigA (rest.map (grA 95 24))]) rfl
  clear hS1
  refine O.nil ?_
  refine k_seq ?_
  replace hf:Fr a 89 [] [(0,.map (some bm)),(4,.pointer (some ⟨ga.blk,0,none⟩)),(5,.pointer (some ⟨ga.blk,0,none⟩))]:=hf.to ⟨rfl,rfl,rfl,trivial⟩
  refine W.seq ?_
  refine W.regionL (l:=[0,1,2,3,4,5,6,7,8,9,10,11,12,13,14,15,16]) rfl ?_
  refine O.val hf rfl rfl rfl (RunV.move rfl) ?_
  clear hf a; intro a hf
  refine O.val hf rfl rfl rfl (RunV.move rfl) ?_
  clear hf a; intro a hf
  refine O.val hf rfl rfl rfl (RunV.toB (c:=false) (RunV.nePtr keyG ⟨_,_,hS.ptAt (i:=2) rfl⟩ ⟨_,_,hS.ptAt (i:=2) rfl⟩ rfl rfl) (by simp)) ?_
  clear hf a; intro a hf
  refine O.val hf rfl rfl rfl (RunV.move rfl) ?_
  clear hf a; intro a hf
  refine O.skipB hf rfl rfl rfl rfl rfl ?_; clear hf a; intro a hf
  refine O.skipB hf rfl rfl rfl rfl rfl ?_; clear hf a; intro a hf
  refine O.skipB hf rfl rfl rfl rfl rfl ?_; clear hf a; intro a hf
  refine O.skipB hf rfl rfl rfl rfl rfl ?_; clear hf a; intro a hf
  refine O.skipB hf rfl rfl rfl rfl rfl ?_; clear hf a; intro a hf
  refine O.skipU hf rfl rfl rfl rfl ?_; clear hf a; intro a hf
  refine O.skipU hf rfl rfl rfl rfl ?_; clear hf a; intro a hf
  refine O.skipU hf rfl rfl rfl rfl ?_; clear hf a; intro a hf
  refine O.skipU hf rfl rfl rfl rfl ?_; clear hf a; intro a hf
  refine O.skipB hf rfl rfl rfl rfl rfl ?_; clear hf a; intro a hf
  refine O.skipB hf rfl rfl rfl rfl rfl ?_; clear hf a; intro a hf
  refine O.val (v:=.bool false) hf rfl rfl rfl (RunV.pick rfl rfl rfl rfl) ?_
  clear hf a; intro a hf
  refine O.callP hf rfl rfl rfl (RunE.call (av:=#[.bool false,.int .i64 36]) C_ok_46 rfl rfl rfl) (need_bad 36 _) ?_ ?_
  · rintro _ _ h _ _; exact h.elim
  · rintro c w1 ⟨rfl,hS1⟩ a hf
    replace hS:=(hS.call hS1).dropN
    refine k_seq_panic ?_
    refine post_panic hf ?_
    exact .inr ⟨_,rfl,rfl,hS.sub (List.nil_sublist _) |>.noB⟩
set_option maxHeartbeats 400000 in
set_option maxRecDepth 4000 in
theorem name_none (bm:Nat) (kvs:List (Dg × Value)) (gs:List Grp) (c:Ch) (w0:World) (h0:Lent w0 (stA 95 24 bm kvs gs)) (hL:Look kvs gs) (hl:getP c.a kvs=none) :
    RetP Tryd.prog 88 58 #[.map (some bm),.agg #[.int .u8 c.kind,.int .i64 c.a.num,.int .i64 c.a.yr,.int .u8 c.a.half,.int .u8 c.a.sec,.int .i64 c.a.cyc,.int .i64 c.b.num,.int .i64 c.b.yr,.int .u8 c.b.half,.int .u8 c.b.sec,.int .i64 c.b.cyc,.int .i64 c.n]] w0 (G:=Unit) (fun _=>.tuple #[]) (fun _ _=>False) (fun e w=>e=6∧St w0 w (fun k=>(stA 95 24 bm kvs gs).fp k) [] []):=by
  refine retP_of_W (lv:=[.map (some bm),.agg #[.int .u8 c.kind,.int .i64 c.a.num,.int .i64 c.a.yr,.int .u8 c.a.half,.int .u8 c.a.sec,.int .i64 c.a.cyc,.int .i64 c.b.num,.int .i64 c.b.yr,.int .u8 c.b.half,.int .u8 c.b.sec,.int .i64 c.b.cyc,.int .i64 c.n]]) Tryd.func58 rfl rfl rfl (fun a hf=>?_)
  replace hf:Fr a 42 [] [(0,.map (some bm)),(1,.agg #[.int .u8 c.kind,.int .i64 c.a.num,.int .i64 c.a.yr,.int .u8 c.a.half,.int .u8 c.a.sec,.int .i64 c.a.cyc,.int .i64 c.b.num,.int .i64 c.b.yr,.int .u8 c.b.half,.int .u8 c.b.sec,.int .i64 c.b.cyc,.int .i64 c.n])]:=hf
  have hS:St w0 w0 (fun k=>(stA 95 24 bm kvs gs).fp k) [] [mp dV bm kvs,bigA (gs.map (grA 95 24))]:=St.stOpen (St.ownG h0 (by simp) (by simp))
  refine W.seq ?_
  refine W.regionL (l:=[0]) rfl ?_
  refine O.box (cs:=#[.int .u8 c.kind,.int .i64 c.a.num,.int .i64 c.a.yr,.int .u8 c.a.half,.int .u8 c.a.sec,.int .i64 c.a.cyc,.int .i64 c.b.num,.int .i64 c.b.yr,.int .u8 c.b.half,.int .u8 c.b.sec,.int .i64 c.b.cyc,.int .i64 c.n]) hf hS rfl rfl rfl rfl ?_
  clear hf hS a; intro b_c1 w a hbb_c1 hS hf
  refine O.nil ?_
  refine k_seq ?_
  replace hf:Fr a 42 [] [(0,.map (some bm)),(3,.pointer (some ⟨b_c1,0,none⟩))]:=hf.to ⟨rfl,rfl,trivial⟩
  refine W.seq ?_
  refine W.regionL (l:=[0,1,2,3,4]) rfl ?_
  refine O.val hf rfl rfl rfl (RunV.move rfl) ?_
  clear hf a; intro a hf
  refine O.val hf rfl rfl rfl (RunV.field T_field_26_1 rfl rfl) ?_
  clear hf a; intro a hf
  refine O.val hf rfl rfl rfl (RunV.loadN (cs':=#[.int .i64 c.a.num,.int .i64 c.a.yr,.int .u8 c.a.half,.int .u8 c.a.sec,.int .i64 c.a.cyc]) T_agg_24 T_size_24 rfl (hS.ptAt (i:=0) rfl) (Nat.le_of_ble_eq_true rfl) rfl) ?_
  clear hf a; intro a hf
  refine O.val hf rfl rfl rfl (RunV.lookP (k:=c.a) (kvs:=kvs) T_mapof_71 keyD trivial (fun _ _=>trivial) rfl rfl (hS.mpAt (j:=1) rfl) (by rw [hl] <;> rfl)) ?_
  clear hf a; intro a hf
  refine O.val hf rfl rfl rfl (RunV.assign rfl) ?_
  clear hf a; intro a hf
  refine O.nil ?_
  refine k_seq ?_
  replace hf:Fr a 42 [] [(0,.map (some bm)),(3,.pointer (some ⟨b_c1,0,none⟩)),(4,.pointer none)]:=hf.to ⟨rfl,rfl,rfl,trivial⟩
  refine W.seq ?_
  refine W.regionL (l:=[0,1,2]) rfl ?_
  refine O.val hf rfl rfl rfl (RunV.move rfl) ?_
  clear hf a; intro a hf
  refine O.val hf rfl rfl rfl (RunV.toB (c:=false) (RunV.neNil Tryd.underlying79 rfl rfl) rfl) ?_
  clear hf a; intro a hf
  refine O.callP hf rfl rfl rfl (RunE.call (av:=#[.bool false,.int .i64 6]) C_ok_46 rfl rfl rfl) (need_bad 6 _) ?_ ?_
  · rintro _ _ h _ _; exact h.elim
  · rintro c w1 ⟨rfl,hS1⟩ a hf
    replace hS:=(hS.call hS1).dropN
    refine k_seq_panic ?_
    refine post_panic hf ?_
    exact .inr ⟨_,rfl,rfl,hS.sub (List.nil_sublist _) |>.noB⟩
set_option maxHeartbeats 400000 in
set_option maxRecDepth 4000 in
theorem name_twice (bm:Nat) (kvs:List (Dg × Value)) (gs:List Grp) (c:Ch) (w0:World) (h0:Lent w0 (stA 95 24 bm kvs gs)) (hL:Look kvs gs) (va vb:Nat) (hl:getP c.a kvs=some (ptrV va)) (hl2:getP c.b kvs=some (ptrV vb)) :
    RetP Tryd.prog 88 58 #[.map (some bm),.agg #[.int .u8 c.kind,.int .i64 c.a.num,.int .i64 c.a.yr,.int .u8 c.a.half,.int .u8 c.a.sec,.int .i64 c.a.cyc,.int .i64 c.b.num,.int .i64 c.b.yr,.int .u8 c.b.half,.int .u8 c.b.sec,.int .i64 c.b.cyc,.int .i64 c.n]] w0 (G:=Unit) (fun _=>.tuple #[]) (fun _ _=>False) (fun e w=>e=14∧St w0 w (fun k=>(stA 95 24 bm kvs gs).fp k) [] []):=by
  refine retP_of_W (lv:=[.map (some bm),.agg #[.int .u8 c.kind,.int .i64 c.a.num,.int .i64 c.a.yr,.int .u8 c.a.half,.int .u8 c.a.sec,.int .i64 c.a.cyc,.int .i64 c.b.num,.int .i64 c.b.yr,.int .u8 c.b.half,.int .u8 c.b.sec,.int .i64 c.b.cyc,.int .i64 c.n]]) Tryd.func58 rfl rfl rfl (fun a hf=>?_)
  replace hf:Fr a 42 [] [(0,.map (some bm)),(1,.agg #[.int .u8 c.kind,.int .i64 c.a.num,.int .i64 c.a.yr,.int .u8 c.a.half,.int .u8 c.a.sec,.int .i64 c.a.cyc,.int .i64 c.b.num,.int .i64 c.b.yr,.int .u8 c.b.half,.int .u8 c.b.sec,.int .i64 c.b.cyc,.int .i64 c.n])]:=hf
  have hS:St w0 w0 (fun k=>(stA 95 24 bm kvs gs).fp k) [] [mp dV bm kvs,bigA (gs.map (grA 95 24))]:=St.stOpen (St.ownG h0 (by simp) (by simp))
  refine W.seq ?_
  refine W.regionL (l:=[0]) rfl ?_
  refine O.box (cs:=#[.int .u8 c.kind,.int .i64 c.a.num,.int .i64 c.a.yr,.int .u8 c.a.half,.int .u8 c.a.sec,.int .i64 c.a.cyc,.int .i64 c.b.num,.int .i64 c.b.yr,.int .u8 c.b.half,.int .u8 c.b.sec,.int .i64 c.b.cyc,.int .i64 c.n]) hf hS rfl rfl rfl rfl ?_
  clear hf hS a; intro b_c1 w a hbb_c1 hS hf
  refine O.nil ?_
  refine k_seq ?_
  replace hf:Fr a 42 [] [(0,.map (some bm)),(3,.pointer (some ⟨b_c1,0,none⟩))]:=hf.to ⟨rfl,rfl,trivial⟩
  refine W.seq ?_
  refine W.regionL (l:=[0,1,2,3,4]) rfl ?_
  refine O.val hf rfl rfl rfl (RunV.move rfl) ?_
  clear hf a; intro a hf
  refine O.val hf rfl rfl rfl (RunV.field T_field_26_1 rfl rfl) ?_
  clear hf a; intro a hf
  refine O.val hf rfl rfl rfl (RunV.loadN (cs':=#[.int .i64 c.a.num,.int .i64 c.a.yr,.int .u8 c.a.half,.int .u8 c.a.sec,.int .i64 c.a.cyc]) T_agg_24 T_size_24 rfl (hS.ptAt (i:=0) rfl) (Nat.le_of_ble_eq_true rfl) rfl) ?_
  clear hf a; intro a hf
  refine O.val hf rfl rfl rfl (RunV.lookP (k:=c.a) (kvs:=kvs) T_mapof_71 keyD trivial (fun _ _=>trivial) rfl rfl (hS.mpAt (j:=1) rfl) (by rw [hl] <;> rfl)) ?_
  clear hf a; intro a hf
  refine O.val hf rfl rfl rfl (RunV.assign rfl) ?_
  clear hf a; intro a hf
  refine O.nil ?_
  refine k_seq ?_
  replace hf:Fr a 42 [] [(0,.map (some bm)),(3,.pointer (some ⟨b_c1,0,none⟩)),(4,.pointer (some ⟨va,0,none⟩))]:=hf.to ⟨rfl,rfl,rfl,trivial⟩
  refine W.seq ?_
  refine W.regionL (l:=[0,1,2]) rfl ?_
  refine O.val hf rfl rfl rfl (RunV.move rfl) ?_
  clear hf a; intro a hf
  refine O.val hf rfl rfl rfl (RunV.toB (c:=true) (RunV.neNil Tryd.underlying79 rfl rfl) rfl) ?_
  clear hf a; intro a hf
  refine O.callR hf rfl rfl rfl (RunE.call (av:=#[.bool true,.int .i64 6]) C_ok_46 rfl rfl rfl) (need_ok 6 _) ?_
  clear hf a
  rintro _ w2 hS1 a hf
  replace hf:Fr a _ _ ((11,.tuple #[])::_):=hf
  replace hS:=(hS.call hS1).eqM (N:=[pt b_c1 (.cells #[.int .u8 c.kind,.int .i64 c.a.num,.int .i64 c.a.yr,.int .u8 c.a.half,.int .u8 c.a.sec,.int .i64 c.a.cyc,.int .i64 c.b.num,.int .i64 c.b.yr,.int .u8 c.b.half,.int .u8 c.b.sec,.int .i64 c.b.cyc,.int .i64 c.n] 26 (0,0)),mp dV bm kvs,bigA (gs.map (grA 95 24))]) rfl
  clear hS1
  refine O.nil ?_
  refine k_seq ?_
  replace hf:Fr a 42 [] [(0,.map (some bm)),(3,.pointer (some ⟨b_c1,0,none⟩)),(4,.pointer (some ⟨va,0,none⟩))]:=hf.to ⟨rfl,rfl,rfl,trivial⟩
  refine W.seq ?_
  refine W.regionL (l:=[0,1,2,3,4,5]) rfl ?_
  refine O.val hf rfl rfl rfl (RunV.move rfl) ?_
  clear hf a; intro a hf
  refine O.val hf rfl rfl rfl (RunV.field T_field_26_2 rfl rfl) ?_
  clear hf a; intro a hf
  refine O.val hf rfl rfl rfl (RunV.loadN (cs':=#[.int .i64 c.b.num,.int .i64 c.b.yr,.int .u8 c.b.half,.int .u8 c.b.sec,.int .i64 c.b.cyc]) T_agg_24 T_size_24 rfl (hS.ptAt (i:=0) rfl) (Nat.le_of_ble_eq_true rfl) rfl) ?_
  clear hf a; intro a hf
  refine O.val hf rfl rfl rfl (RunV.lookP (k:=c.b) (kvs:=kvs) T_mapof_71 keyD trivial (fun _ _=>trivial) rfl rfl (hS.mpAt (j:=1) rfl) (by rw [hl2] <;> rfl)) ?_
  clear hf a; intro a hf
  refine O.val hf rfl rfl rfl (RunV.toB (c:=false) (RunV.eqNil Tryd.underlying79 rfl rfl) rfl) ?_
  clear hf a; intro a hf
  refine O.callP hf rfl rfl rfl (RunE.call (av:=#[.bool false,.int .i64 14]) C_ok_46 rfl rfl rfl) (need_bad 14 _) ?_ ?_
  · rintro _ _ h _ _; exact h.elim
  · rintro c w1 ⟨rfl,hS1⟩ a hf
    replace hS:=(hS.call hS1).dropN
    refine k_seq_panic ?_
    refine post_panic hf ?_
    exact .inr ⟨_,rfl,rfl,hS.sub (List.nil_sublist _) |>.noB⟩
set_option maxHeartbeats 400000 in
set_option maxRecDepth 4000 in
theorem name_num (bm:Nat) (kvs:List (Dg × Value)) (gs:List Grp) (c:Ch) (w0:World) (h0:Lent w0 (stA 95 24 bm kvs gs)) (hL:Look kvs gs) (ga:Grp) (rest:List Grp) (hp:gs.Perm (ga::rest)) (ha:c.a ∈ ga.all) (hl2:getP c.b kvs=none) (hn:ga.num=true) :
    RetP Tryd.prog 88 58 #[.map (some bm),.agg #[.int .u8 c.kind,.int .i64 c.a.num,.int .i64 c.a.yr,.int .u8 c.a.half,.int .u8 c.a.sec,.int .i64 c.a.cyc,.int .i64 c.b.num,.int .i64 c.b.yr,.int .u8 c.b.half,.int .u8 c.b.sec,.int .i64 c.b.cyc,.int .i64 c.n]] w0 (G:=Unit) (fun _=>.tuple #[]) (fun _ _=>False) (fun e w=>e=36∧St w0 w (fun k=>(stA 95 24 bm kvs gs).fp k) [] []):=by
  refine retP_of_W (lv:=[.map (some bm),.agg #[.int .u8 c.kind,.int .i64 c.a.num,.int .i64 c.a.yr,.int .u8 c.a.half,.int .u8 c.a.sec,.int .i64 c.a.cyc,.int .i64 c.b.num,.int .i64 c.b.yr,.int .u8 c.b.half,.int .u8 c.b.sec,.int .i64 c.b.cyc,.int .i64 c.n]]) Tryd.func58 rfl rfl rfl (fun a hf=>?_)
  replace hf:Fr a 42 [] [(0,.map (some bm)),(1,.agg #[.int .u8 c.kind,.int .i64 c.a.num,.int .i64 c.a.yr,.int .u8 c.a.half,.int .u8 c.a.sec,.int .i64 c.a.cyc,.int .i64 c.b.num,.int .i64 c.b.yr,.int .u8 c.b.half,.int .u8 c.b.sec,.int .i64 c.b.cyc,.int .i64 c.n])]:=hf
  have hS:St w0 w0 (fun k=>(stA 95 24 bm kvs gs).fp k) [] [mp dV bm kvs,pt ga.blk (.cells #[ga.v,.bool ga.num] 95 (0,0)),sl 24 5 ga.v ga.all.length (encs eD ga.all),bigA (rest.map (grA 95 24))]:=St.grTake (St.stOpen (St.ownG h0 (by simp) (by simp))) hp
  have hA:ga ∈ gs:=hp.mem_iff.2 (by simp)
  have hl1:=hL.hit ga hA c.a ha
  have hL2:=hL.perm hp
  refine W.seq ?_
  refine W.regionL (l:=[0]) rfl ?_
  refine O.box (cs:=#[.int .u8 c.kind,.int .i64 c.a.num,.int .i64 c.a.yr,.int .u8 c.a.half,.int .u8 c.a.sec,.int .i64 c.a.cyc,.int .i64 c.b.num,.int .i64 c.b.yr,.int .u8 c.b.half,.int .u8 c.b.sec,.int .i64 c.b.cyc,.int .i64 c.n]) hf hS rfl rfl rfl rfl ?_
  clear hf hS a; intro b_c1 w a hbb_c1 hS hf
  refine O.nil ?_
  refine k_seq ?_
  replace hf:Fr a 42 [] [(0,.map (some bm)),(3,.pointer (some ⟨b_c1,0,none⟩))]:=hf.to ⟨rfl,rfl,trivial⟩
  refine W.seq ?_
  refine W.regionL (l:=[0,1,2,3,4]) rfl ?_
  refine O.val hf rfl rfl rfl (RunV.move rfl) ?_
  clear hf a; intro a hf
  refine O.val hf rfl rfl rfl (RunV.field T_field_26_1 rfl rfl) ?_
  clear hf a; intro a hf
  refine O.val hf rfl rfl rfl (RunV.loadN (cs':=#[.int .i64 c.a.num,.int .i64 c.a.yr,.int .u8 c.a.half,.int .u8 c.a.sec,.int .i64 c.a.cyc]) T_agg_24 T_size_24 rfl (hS.ptAt (i:=0) rfl) (Nat.le_of_ble_eq_true rfl) rfl) ?_
  clear hf a; intro a hf
  refine O.val hf rfl rfl rfl (RunV.lookP (k:=c.a) (kvs:=kvs) T_mapof_71 keyD trivial (fun _ _=>trivial) rfl rfl (hS.mpAt (j:=1) rfl) (by rw [hl1] <;> rfl)) ?_
  clear hf a; intro a hf
  refine O.val hf rfl rfl rfl (RunV.assign rfl) ?_
  clear hf a; intro a hf
  refine O.nil ?_
  refine k_seq ?_
  replace hf:Fr a 42 [] [(0,.map (some bm)),(3,.pointer (some ⟨b_c1,0,none⟩)),(4,.pointer (some ⟨ga.blk,0,none⟩))]:=hf.to ⟨rfl,rfl,rfl,trivial⟩
  refine W.seq ?_
  refine W.regionL (l:=[0,1,2]) rfl ?_
  refine O.val hf rfl rfl rfl (RunV.move rfl) ?_
  clear hf a; intro a hf
  refine O.val hf rfl rfl rfl (RunV.toB (c:=true) (RunV.neNil Tryd.underlying79 rfl rfl) rfl) ?_
  clear hf a; intro a hf
  refine O.callR hf rfl rfl rfl (RunE.call (av:=#[.bool true,.int .i64 6]) C_ok_46 rfl rfl rfl) (need_ok 6 _) ?_
  clear hf a
  rintro _ w2 hS1 a hf
  replace hf:Fr a _ _ ((11,.tuple #[])::_):=hf
  replace hS:=(hS.call hS1).eqM (N:=[pt b_c1 (.cells #[.int .u8 c.kind,.int .i64 c.a.num,.int .i64 c.a.yr,.int .u8 c.a.half,.int .u8 c.a.sec,.int .i64 c.a.cyc,.int .i64 c.b.num,.int .i64 c.b.yr,.int .u8 c.b.half,.int .u8 c.b.sec,.int .i64 c.b.cyc,.int .i64 c.n] 26 (0,0)),mp dV bm kvs,pt ga.blk (.cells #[ga.v,.bool ga.num] 95 (0,0)),sl 24 5 ga.v ga.all.length (encs eD ga.all),bigA (rest.map (grA 95 24))]) rfl
  clear hS1
  refine O.nil ?_
  refine k_seq ?_
  replace hf:Fr a 42 [] [(0,.map (some bm)),(3,.pointer (some ⟨b_c1,0,none⟩)),(4,.pointer (some ⟨ga.blk,0,none⟩))]:=hf.to ⟨rfl,rfl,rfl,trivial⟩
  refine W.seq ?_
  refine W.regionL (l:=[0,1,2,3,4,5]) rfl ?_
  refine O.val hf rfl rfl rfl (RunV.move rfl) ?_
  clear hf a; intro a hf
  refine O.val hf rfl rfl rfl (RunV.field T_field_26_2 rfl rfl) ?_
  clear hf a; intro a hf
  refine O.val hf rfl rfl rfl (RunV.loadN (cs':=#[.int .i64 c.b.num,.int .i64 c.b.yr,.int .u8 c.b.half,.int .u8 c.b.sec,.int .i64 c.b.cyc]) T_agg_24 T_size_24 rfl (hS.ptAt (i:=0) rfl) (Nat.le_of_ble_eq_true rfl) rfl) ?_
  clear hf a; intro a hf
  refine O.val hf rfl rfl rfl (RunV.lookP (k:=c.b) (kvs:=kvs) T_mapof_71 keyD trivial (fun _ _=>trivial) rfl rfl (hS.mpAt (j:=1) rfl) (by rw [hl2] <;> rfl)) ?_
  clear hf a; intro a hf
  refine O.val hf rfl rfl rfl (RunV.toB (c:=true) (RunV.eqNil Tryd.underlying79 rfl rfl) rfl) ?_
  clear hf a; intro a hf
  refine O.callR hf rfl rfl rfl (RunE.call (av:=#[.bool true,.int .i64 14]) C_ok_46 rfl rfl rfl) (need_ok 14 _) ?_
  clear hf a
  rintro _ w3 hS1 a hf
  replace hf:Fr a _ _ ((17,.tuple #[])::_):=hf
  replace hS:=(hS.call hS1).eqM (N:=[pt b_c1 (.cells #[.int .u8 c.kind,.int .i64 c.a.num,.int .i64 c.a.yr,.int .u8 c.a.half,.int .u8 c.a.sec,.int .i64 c.a.cyc,.int .i64 c.b.num,.int .i64 c.b.yr,.int .u8 c.b.half,.int .u8 c.b.sec,.int .i64 c.b.cyc,.int .i64 c.n] 26 (0,0)),mp dV bm kvs,pt ga.blk (.cells #[ga.v,.bool ga.num] 95 (0,0)),sl 24 5 ga.v ga.all.length (encs eD ga.all),bigA (rest.map (grA 95 24))]) rfl
  clear hS1
  refine O.nil ?_
  refine k_seq ?_
  replace hf:Fr a 42 [] [(0,.map (some bm)),(3,.pointer (some ⟨b_c1,0,none⟩)),(4,.pointer (some ⟨ga.blk,0,none⟩))]:=hf.to ⟨rfl,rfl,rfl,trivial⟩
  refine W.seq ?_
  refine W.regionL (l:=[0,1,2,3,4,5]) rfl ?_
  refine O.val hf rfl rfl rfl (RunV.move rfl) ?_
  clear hf a; intro a hf
  refine O.val hf rfl rfl rfl (RunV.nilCheck rfl) ?_
  clear hf a; intro a hf
  refine O.val hf rfl rfl rfl (RunV.field T_field_95_1 rfl rfl) ?_
  clear hf a; intro a hf
  refine O.val hf rfl rfl rfl (RunV.load1 T_agg_4 rfl (hS.ptAt (i:=2) rfl) rfl) ?_
  clear hf a; intro a hf
  refine O.val (v:=.bool (!ga.num)) hf rfl rfl rfl (RunV.not rfl) ?_
  clear hf a; intro a hf
  rw [show (!ga.num)=false from by rw [hn]; rfl] at hf
  refine O.callP hf rfl rfl rfl (RunE.call (av:=#[.bool false,.int .i64 36]) C_ok_46 rfl rfl rfl) (need_bad 36 _) ?_ ?_
  · rintro _ _ h _ _; exact h.elim
  · rintro c w1 ⟨rfl,hS1⟩ a hf
    replace hS:=(hS.call hS1).dropN
    refine k_seq_panic ?_
    refine post_panic hf ?_
    exact .inr ⟨_,rfl,rfl,hS.sub (List.nil_sublist _) |>.noB⟩
set_option maxHeartbeats 400000 in
set_option maxRecDepth 4000 in
theorem name_ok (bm:Nat) (kvs:List (Dg × Value)) (gs:List Grp) (c:Ch) (w0:World) (h0:Lent w0 (stA 95 24 bm kvs gs)) (hL:Look kvs gs) (ga:Grp) (rest:List Grp) (hp:gs.Perm (ga::rest)) (ha:c.a ∈ ga.all) (hl2:getP c.b kvs=none) (hnb:∀ g ∈ gs,c.b ∉ g.all) (hn:ga.num=false) (hz:ga.all.length≤1000000) :
    Ret Tryd.prog 58 #[.map (some bm),.agg #[.int .u8 c.kind,.int .i64 c.a.num,.int .i64 c.a.yr,.int .u8 c.a.half,.int .u8 c.a.sec,.int .i64 c.a.cyc,.int .i64 c.b.num,.int .i64 c.b.yr,.int .u8 c.b.half,.int .u8 c.b.sec,.int .i64 c.b.cyc,.int .i64 c.n]] w0 (G:=List (Dg × Value) × List Grp) (fun _=>.tuple #[]) (fun g w=>St w0 w (fun k=>(stA 95 24 bm kvs gs).fp k) [] [stA 95 24 bm g.1 g.2]∧Look g.1 g.2∧g.2.map absG=(ga.all++[c.b],true)::rest.map absG):=by
  refine ret_of_W (lv:=[.map (some bm),.agg #[.int .u8 c.kind,.int .i64 c.a.num,.int .i64 c.a.yr,.int .u8 c.a.half,.int .u8 c.a.sec,.int .i64 c.a.cyc,.int .i64 c.b.num,.int .i64 c.b.yr,.int .u8 c.b.half,.int .u8 c.b.sec,.int .i64 c.b.cyc,.int .i64 c.n]]) Tryd.func58 rfl rfl rfl (fun a hf=>?_)
  replace hf:Fr a 42 [] [(0,.map (some bm)),(1,.agg #[.int .u8 c.kind,.int .i64 c.a.num,.int .i64 c.a.yr,.int .u8 c.a.half,.int .u8 c.a.sec,.int .i64 c.a.cyc,.int .i64 c.b.num,.int .i64 c.b.yr,.int .u8 c.b.half,.int .u8 c.b.sec,.int .i64 c.b.cyc,.int .i64 c.n])]:=hf
  have hS:St w0 w0 (fun k=>(stA 95 24 bm kvs gs).fp k) [] [mp dV bm kvs,pt ga.blk (.cells #[ga.v,.bool ga.num] 95 (0,0)),sl 24 5 ga.v ga.all.length (encs eD ga.all),bigA (rest.map (grA 95 24))]:=St.grTake (St.stOpen (St.ownG h0 (by simp) (by simp))) hp
  have hA:ga ∈ gs:=hp.mem_iff.2 (by simp)
  have hl1:=hL.hit ga hA c.a ha
  have hL2:=hL.perm hp
  refine W.seq ?_
  refine W.regionL (l:=[0]) rfl ?_
  refine O.box (cs:=#[.int .u8 c.kind,.int .i64 c.a.num,.int .i64 c.a.yr,.int .u8 c.a.half,.int .u8 c.a.sec,.int .i64 c.a.cyc,.int .i64 c.b.num,.int .i64 c.b.yr,.int .u8 c.b.half,.int .u8 c.b.sec,.int .i64 c.b.cyc,.int .i64 c.n]) hf hS rfl rfl rfl rfl ?_
  clear hf hS a; intro b_c1 w a hbb_c1 hS hf
  refine O.nil ?_
  refine k_seq ?_
  replace hf:Fr a 42 [] [(0,.map (some bm)),(3,.pointer (some ⟨b_c1,0,none⟩))]:=hf.to ⟨rfl,rfl,trivial⟩
  refine W.seq ?_
  refine W.regionL (l:=[0,1,2,3,4]) rfl ?_
  refine O.val hf rfl rfl rfl (RunV.move rfl) ?_
  clear hf a; intro a hf
  refine O.val hf rfl rfl rfl (RunV.field T_field_26_1 rfl rfl) ?_
  clear hf a; intro a hf
  refine O.val hf rfl rfl rfl (RunV.loadN (cs':=#[.int .i64 c.a.num,.int .i64 c.a.yr,.int .u8 c.a.half,.int .u8 c.a.sec,.int .i64 c.a.cyc]) T_agg_24 T_size_24 rfl (hS.ptAt (i:=0) rfl) (Nat.le_of_ble_eq_true rfl) rfl) ?_
  clear hf a; intro a hf
  refine O.val hf rfl rfl rfl (RunV.lookP (k:=c.a) (kvs:=kvs) T_mapof_71 keyD trivial (fun _ _=>trivial) rfl rfl (hS.mpAt (j:=1) rfl) (by rw [hl1] <;> rfl)) ?_
  clear hf a; intro a hf
  refine O.val hf rfl rfl rfl (RunV.assign rfl) ?_
  clear hf a; intro a hf
  refine O.nil ?_
  refine k_seq ?_
  replace hf:Fr a 42 [] [(0,.map (some bm)),(3,.pointer (some ⟨b_c1,0,none⟩)),(4,.pointer (some ⟨ga.blk,0,none⟩))]:=hf.to ⟨rfl,rfl,rfl,trivial⟩
  refine W.seq ?_
  refine W.regionL (l:=[0,1,2]) rfl ?_
  refine O.val hf rfl rfl rfl (RunV.move rfl) ?_
  clear hf a; intro a hf
  refine O.val hf rfl rfl rfl (RunV.toB (c:=true) (RunV.neNil Tryd.underlying79 rfl rfl) rfl) ?_
  clear hf a; intro a hf
  refine O.callR hf rfl rfl rfl (RunE.call (av:=#[.bool true,.int .i64 6]) C_ok_46 rfl rfl rfl) (need_ok 6 _) ?_
  clear hf a
  rintro _ w2 hS1 a hf
  replace hf:Fr a _ _ ((11,.tuple #[])::_):=hf
  replace hS:=(hS.call hS1).eqM (N:=[pt b_c1 (.cells #[.int .u8 c.kind,.int .i64 c.a.num,.int .i64 c.a.yr,.int .u8 c.a.half,.int .u8 c.a.sec,.int .i64 c.a.cyc,.int .i64 c.b.num,.int .i64 c.b.yr,.int .u8 c.b.half,.int .u8 c.b.sec,.int .i64 c.b.cyc,.int .i64 c.n] 26 (0,0)),mp dV bm kvs,pt ga.blk (.cells #[ga.v,.bool ga.num] 95 (0,0)),sl 24 5 ga.v ga.all.length (encs eD ga.all),bigA (rest.map (grA 95 24))]) rfl
  clear hS1
  refine O.nil ?_
  refine k_seq ?_
  replace hf:Fr a 42 [] [(0,.map (some bm)),(3,.pointer (some ⟨b_c1,0,none⟩)),(4,.pointer (some ⟨ga.blk,0,none⟩))]:=hf.to ⟨rfl,rfl,rfl,trivial⟩
  refine W.seq ?_
  refine W.regionL (l:=[0,1,2,3,4,5]) rfl ?_
  refine O.val hf rfl rfl rfl (RunV.move rfl) ?_
  clear hf a; intro a hf
  refine O.val hf rfl rfl rfl (RunV.field T_field_26_2 rfl rfl) ?_
  clear hf a; intro a hf
  refine O.val hf rfl rfl rfl (RunV.loadN (cs':=#[.int .i64 c.b.num,.int .i64 c.b.yr,.int .u8 c.b.half,.int .u8 c.b.sec,.int .i64 c.b.cyc]) T_agg_24 T_size_24 rfl (hS.ptAt (i:=0) rfl) (Nat.le_of_ble_eq_true rfl) rfl) ?_
  clear hf a; intro a hf
  refine O.val hf rfl rfl rfl (RunV.lookP (k:=c.b) (kvs:=kvs) T_mapof_71 keyD trivial (fun _ _=>trivial) rfl rfl (hS.mpAt (j:=1) rfl) (by rw [hl2] <;> rfl)) ?_
  clear hf a; intro a hf
  refine O.val hf rfl rfl rfl (RunV.toB (c:=true) (RunV.eqNil Tryd.underlying79 rfl rfl) rfl) ?_
  clear hf a; intro a hf
  refine O.callR hf rfl rfl rfl (RunE.call (av:=#[.bool true,.int .i64 14]) C_ok_46 rfl rfl rfl) (need_ok 14 _) ?_
  clear hf a
  rintro _ w3 hS1 a hf
  replace hf:Fr a _ _ ((17,.tuple #[])::_):=hf
  replace hS:=(hS.call hS1).eqM (N:=[pt b_c1 (.cells #[.int .u8 c.kind,.int .i64 c.a.num,.int .i64 c.a.yr,.int .u8 c.a.half,.int .u8 c.a.sec,.int .i64 c.a.cyc,.int .i64 c.b.num,.int .i64 c.b.yr,.int .u8 c.b.half,.int .u8 c.b.sec,.int .i64 c.b.cyc,.int .i64 c.n] 26 (0,0)),mp dV bm kvs,pt ga.blk (.cells #[ga.v,.bool ga.num] 95 (0,0)),sl 24 5 ga.v ga.all.length (encs eD ga.all),bigA (rest.map (grA 95 24))]) rfl
  clear hS1
  refine O.nil ?_
  refine k_seq ?_
  replace hf:Fr a 42 [] [(0,.map (some bm)),(3,.pointer (some ⟨b_c1,0,none⟩)),(4,.pointer (some ⟨ga.blk,0,none⟩))]:=hf.to ⟨rfl,rfl,rfl,trivial⟩
  refine W.seq ?_
  refine W.regionL (l:=[0,1,2,3,4,5]) rfl ?_
  refine O.val hf rfl rfl rfl (RunV.move rfl) ?_
  clear hf a; intro a hf
  refine O.val hf rfl rfl rfl (RunV.nilCheck rfl) ?_
  clear hf a; intro a hf
  refine O.val hf rfl rfl rfl (RunV.field T_field_95_1 rfl rfl) ?_
  clear hf a; intro a hf
  refine O.val hf rfl rfl rfl (RunV.load1 T_agg_4 rfl (hS.ptAt (i:=2) rfl) rfl) ?_
  clear hf a; intro a hf
  refine O.val (v:=.bool (!ga.num)) hf rfl rfl rfl (RunV.not rfl) ?_
  clear hf a; intro a hf
  rw [show (!ga.num)=true from by rw [hn]; rfl] at hf
  refine O.callR hf rfl rfl rfl (RunE.call (av:=#[.bool true,.int .i64 36]) C_ok_46 rfl rfl rfl) (need_ok 36 _) ?_
  clear hf a
  rintro _ w4 hS1 a hf
  replace hf:Fr a _ _ ((23,.tuple #[])::_):=hf
  replace hS:=(hS.call hS1).eqM (N:=[pt b_c1 (.cells #[.int .u8 c.kind,.int .i64 c.a.num,.int .i64 c.a.yr,.int .u8 c.a.half,.int .u8 c.a.sec,.int .i64 c.a.cyc,.int .i64 c.b.num,.int .i64 c.b.yr,.int .u8 c.b.half,.int .u8 c.b.sec,.int .i64 c.b.cyc,.int .i64 c.n] 26 (0,0)),mp dV bm kvs,pt ga.blk (.cells #[ga.v,.bool ga.num] 95 (0,0)),sl 24 5 ga.v ga.all.length (encs eD ga.all),bigA (rest.map (grA 95 24))]) rfl
  clear hS1
  refine O.nil ?_
  refine k_seq ?_
  replace hf:Fr a 42 [] [(0,.map (some bm)),(3,.pointer (some ⟨b_c1,0,none⟩)),(4,.pointer (some ⟨ga.blk,0,none⟩))]:=hf.to ⟨rfl,rfl,rfl,trivial⟩
  refine W.seq ?_
  refine W.regionL (l:=[0,1,2,3]) rfl ?_
  refine O.val hf rfl rfl rfl (RunV.move rfl) ?_
  clear hf a; intro a hf
  refine O.val hf rfl rfl rfl (RunV.nilCheck rfl) ?_
  clear hf a; intro a hf
  refine O.val hf rfl rfl rfl (RunV.field T_field_95_1 rfl rfl) ?_
  clear hf a; intro a hf
  refine O.store (j:=2) (cs':=#[ga.v,.bool true]) (M':=[pt b_c1 (.cells #[.int .u8 c.kind,.int .i64 c.a.num,.int .i64 c.a.yr,.int .u8 c.a.half,.int .u8 c.a.sec,.int .i64 c.a.cyc,.int .i64 c.b.num,.int .i64 c.b.yr,.int .u8 c.b.half,.int .u8 c.b.sec,.int .i64 c.b.cyc,.int .i64 c.n] 26 (0,0)),mp dV bm kvs,pt ga.blk (.cells #[ga.v,.bool true] 95 (0,0)),sl 24 5 ga.v ga.all.length (encs eD ga.all),bigA (rest.map (grA 95 24))]) hf hS rfl rfl rfl T_size_4 rfl rfl rfl (Nat.le_of_ble_eq_true rfl) rfl rfl ?_
  clear hS; intro w hS
  refine O.nil ?_
  refine k_seq ?_
  replace hf:Fr a 42 [] [(0,.map (some bm)),(3,.pointer (some ⟨b_c1,0,none⟩)),(4,.pointer (some ⟨ga.blk,0,none⟩))]:=hf.to ⟨rfl,rfl,rfl,trivial⟩
  refine W.seq ?_
  replace hf:Fr a 42 [] [(0,.map (some bm)),(3,.pointer (some ⟨b_c1,0,none⟩)),(4,.pointer (some ⟨ga.blk,0,none⟩))]:=hf.to ⟨rfl,rfl,rfl,trivial⟩
  refine W.drawC (γ:=(Nat) × (Value)) (L0:=[(0,.map (some bm)),(3,.pointer (some ⟨b_c1,0,none⟩)),(4,.pointer (some ⟨ga.blk,0,none⟩))]) (L1:=[]) (0,default) [7,8,11] [] [0,1,2,3,4,5,6,9,10] (fun i_=>match i_ with | 0=>[] | 1=>[] | 2=>[1] | 3=>[2] | 4=>[3] | 5=>[] | 6=>[5] | 7=>[6] | 8=>[4,7] | 9=>[0,1,2,3,4,5,6,7,8] | 10=>[0,1,2,3,4,5,6,7,8,9] | 11=>[0,1,2,3,4,5,6,7,8,10] | _=>[]) (fun i_=>match i_ with | 0=>[] | 1=>[] | 2=>[] | 3=>[] | 4=>[] | 5=>[] | 6=>[] | 7=>[] | 8=>[7] | 9=>[7,8] | 10=>[7,8] | 11=>[7,8] | _=>[]) (fun i_=>match i_ with | 0=>[11] | 1=>[8,11] | 2=>[8,11] | 3=>[8,11] | 4=>[8,11] | 5=>[7,8,11] | 6=>[7,8,11] | 7=>[8,11] | 8=>[11] | 9=>[11] | 10=>[11] | 11=>[] | _=>[]) (fun _=>[]) (fun i_=>match i_ with | 0=>[] | 1=>[] | 2=>[] | 3=>[] | 4=>[] | 5=>[] | 6=>[] | 7=>[8,9,10,11] | 8=>[9,10,11] | 9=>[] | 10=>[] | 11=>[] | _=>[]) (fun _=>[]) (fun i_=>match i_ with | 0=>0 | 1=>0 | 2=>0 | 3=>0 | 4=>0 | 5=>0 | 6=>0 | 7=>0 | 8=>1 | 9=>2 | 10=>2 | 11=>2 | _=>0) (fun i_=>match i_ with | 0=>2 | 1=>1 | 2=>1 | 3=>1 | 4=>1 | 5=>0 | 6=>0 | 7=>1 | 8=>2 | 9=>2 | 10=>2 | 11=>3 | _=>0) (fun (g:(Nat) × (Value)) j_=>match g,j_ with | ⟨b_s5,v6⟩,0=>.pointer (some ⟨ga.blk,0,none⟩) | ⟨b_s5,v6⟩,1=>.pointer (some ⟨ga.blk,0,none⟩) | ⟨b_s5,v6⟩,2=>.pointer (some ⟨ga.blk,0,none⟩) | ⟨b_s5,v6⟩,3=>.pointer (some ⟨ga.blk,0,none⟩) | ⟨b_s5,v6⟩,4=>ga.v | ⟨b_s5,v6⟩,5=>.pointer (some ⟨b_c1,6,none⟩) | ⟨b_s5,v6⟩,6=>.agg #[.int .i64 c.b.num,.int .i64 c.b.yr,.int .u8 c.b.half,.int .u8 c.b.sec,.int .i64 c.b.cyc] | ⟨b_s5,v6⟩,7=>.slice (some ⟨b_s5,0,none⟩) 1 1 | ⟨b_s5,v6⟩,8=>v6 | ⟨b_s5,v6⟩,9=>.pointer (some ⟨ga.blk,0,none⟩) | ⟨b_s5,v6⟩,10=>.pointer (some ⟨ga.blk,0,none⟩) | _,_=>undef) (fun k_ (_:Nat→Bool) (g:(Nat) × (Value)) w=>match k_,g with | 0,⟨b_s5,v6⟩=>St w0 w (fun k=>(stA 95 24 bm kvs gs).fp k) [] [pt b_c1 (.cells #[.int .u8 c.kind,.int .i64 c.a.num,.int .i64 c.a.yr,.int .u8 c.a.half,.int .u8 c.a.sec,.int .i64 c.a.cyc,.int .i64 c.b.num,.int .i64 c.b.yr,.int .u8 c.b.half,.int .u8 c.b.sec,.int .i64 c.b.cyc,.int .i64 c.n] 26 (0,0)),mp dV bm kvs,pt ga.blk (.cells #[ga.v,.bool true] 95 (0,0)),sl 24 5 ga.v ga.all.length (encs eD ga.all),bigA (rest.map (grA 95 24))] | 1,⟨b_s5,v6⟩=>St w0 w (fun k=>(stA 95 24 bm kvs gs).fp k) [] [pt b_s5 (.cells #[.int .i64 c.b.num,.int .i64 c.b.yr,.int .u8 c.b.half,.int .u8 c.b.sec,.int .i64 c.b.cyc] 24 (0,0)),pt b_c1 (.cells #[.int .u8 c.kind,.int .i64 c.a.num,.int .i64 c.a.yr,.int .u8 c.a.half,.int .u8 c.a.sec,.int .i64 c.a.cyc,.int .i64 c.b.num,.int .i64 c.b.yr,.int .u8 c.b.half,.int .u8 c.b.sec,.int .i64 c.b.cyc,.int .i64 c.n] 26 (0,0)),mp dV bm kvs,pt ga.blk (.cells #[ga.v,.bool true] 95 (0,0)),sl 24 5 ga.v ga.all.length (encs eD ga.all),bigA (rest.map (grA 95 24))] | 2,⟨b_s5,v6⟩=>St w0 w (fun k=>(stA 95 24 bm kvs gs).fp k) [] [pt b_s5 (.cells #[.int .i64 c.b.num,.int .i64 c.b.yr,.int .u8 c.b.half,.int .u8 c.b.sec,.int .i64 c.b.cyc] 24 (0,0)),pt b_c1 (.cells #[.int .u8 c.kind,.int .i64 c.a.num,.int .i64 c.a.yr,.int .u8 c.a.half,.int .u8 c.a.sec,.int .i64 c.a.cyc,.int .i64 c.b.num,.int .i64 c.b.yr,.int .u8 c.b.half,.int .u8 c.b.sec,.int .i64 c.b.cyc,.int .i64 c.n] 26 (0,0)),mp dV bm kvs,pt ga.blk (.cells #[ga.v,.bool true] 95 (0,0)),sl 24 5 v6 ((ga.all++[c.b]).length) (encs eD (ga.all++[c.b])),bigA (rest.map (grA 95 24))] | _,⟨b_s5,v6⟩=>St w0 w (fun k=>(stA 95 24 bm kvs gs).fp k) [] [pt b_s5 (.cells #[.int .i64 c.b.num,.int .i64 c.b.yr,.int .u8 c.b.half,.int .u8 c.b.sec,.int .i64 c.b.cyc] 24 (0,0)),pt b_c1 (.cells #[.int .u8 c.kind,.int .i64 c.a.num,.int .i64 c.a.yr,.int .u8 c.a.half,.int .u8 c.a.sec,.int .i64 c.a.cyc,.int .i64 c.b.num,.int .i64 c.b.yr,.int .u8 c.b.half,.int .u8 c.b.sec,.int .i64 c.b.cyc,.int .i64 c.n] 26 (0,0)),mp dV bm kvs,pt ga.blk (.cells #[v6,.bool true] 95 (0,0)),sl 24 5 v6 ((ga.all++[c.b]).length) (encs eD (ga.all++[c.b])),bigA (rest.map (grA 95 24))]) P_mixed (by kernel_rfl) (by kernel_rfl) (by kernel_rfl) hf (hf.to trivial) hS.drew ?_ ?_ trivial ?_
  · clear hf hS
    refine ⟨?_,?_,?_,?_,?_,?_,?_,?_,?_,trivial⟩
    · intro k_ s_ g w hlo hhi _ hD a hf
      obtain ⟨b_s5,v6⟩:=g
      rcases k_ with _ | _ | _ | k_
      · have hS:St w0 w (fun k=>(stA 95 24 bm kvs gs).fp k) [] [pt b_c1 (.cells #[.int .u8 c.kind,.int .i64 c.a.num,.int .i64 c.a.yr,.int .u8 c.a.half,.int .u8 c.a.sec,.int .i64 c.a.cyc,.int .i64 c.b.num,.int .i64 c.b.yr,.int .u8 c.b.half,.int .u8 c.b.sec,.int .i64 c.b.cyc,.int .i64 c.n] 26 (0,0)),mp dV bm kvs,pt ga.blk (.cells #[ga.v,.bool true] 95 (0,0)),sl 24 5 ga.v ga.all.length (encs eD ga.all),bigA (rest.map (grA 95 24))]:=hD; clear hD
        replace hf:Fr a 42 [] [(0,.map (some bm)),(3,.pointer (some ⟨b_c1,0,none⟩)),(4,.pointer (some ⟨ga.blk,0,none⟩))]:=hf
        refine O.val hf rfl rfl rfl (RunV.move rfl) ?_
        clear hf a; intro a hf
        exact O.nil ⟨rfl,hf.to trivial,(fun d hd=>by cases (show some 27=some d from hd); exact hf.get _ _ rfl),hS⟩
      · have hS:St w0 w (fun k=>(stA 95 24 bm kvs gs).fp k) [] [pt b_s5 (.cells #[.int .i64 c.b.num,.int .i64 c.b.yr,.int .u8 c.b.half,.int .u8 c.b.sec,.int .i64 c.b.cyc] 24 (0,0)),pt b_c1 (.cells #[.int .u8 c.kind,.int .i64 c.a.num,.int .i64 c.a.yr,.int .u8 c.a.half,.int .u8 c.a.sec,.int .i64 c.a.cyc,.int .i64 c.b.num,.int .i64 c.b.yr,.int .u8 c.b.half,.int .u8 c.b.sec,.int .i64 c.b.cyc,.int .i64 c.n] 26 (0,0)),mp dV bm kvs,pt ga.blk (.cells #[ga.v,.bool true] 95 (0,0)),sl 24 5 ga.v ga.all.length (encs eD ga.all),bigA (rest.map (grA 95 24))]:=hD; clear hD
        replace hf:Fr a 42 [] [(0,.map (some bm)),(3,.pointer (some ⟨b_c1,0,none⟩)),(4,.pointer (some ⟨ga.blk,0,none⟩))]:=hf
        refine O.val hf rfl rfl rfl (RunV.move rfl) ?_
        clear hf a; intro a hf
        exact O.nil ⟨rfl,hf.to trivial,(fun d hd=>by cases (show some 27=some d from hd); exact hf.get _ _ rfl),hS⟩
      · have hS:St w0 w (fun k=>(stA 95 24 bm kvs gs).fp k) [] [pt b_s5 (.cells #[.int .i64 c.b.num,.int .i64 c.b.yr,.int .u8 c.b.half,.int .u8 c.b.sec,.int .i64 c.b.cyc] 24 (0,0)),pt b_c1 (.cells #[.int .u8 c.kind,.int .i64 c.a.num,.int .i64 c.a.yr,.int .u8 c.a.half,.int .u8 c.a.sec,.int .i64 c.a.cyc,.int .i64 c.b.num,.int .i64 c.b.yr,.int .u8 c.b.half,.int .u8 c.b.sec,.int .i64 c.b.cyc,.int .i64 c.n] 26 (0,0)),mp dV bm kvs,pt ga.blk (.cells #[ga.v,.bool true] 95 (0,0)),sl 24 5 v6 ((ga.all++[c.b]).length) (encs eD (ga.all++[c.b])),bigA (rest.map (grA 95 24))]:=hD; clear hD
        replace hf:Fr a 42 [] [(0,.map (some bm)),(3,.pointer (some ⟨b_c1,0,none⟩)),(4,.pointer (some ⟨ga.blk,0,none⟩))]:=hf
        refine O.val hf rfl rfl rfl (RunV.move rfl) ?_
        clear hf a; intro a hf
        exact O.nil ⟨rfl,hf.to trivial,(fun d hd=>by cases (show some 27=some d from hd); exact hf.get _ _ rfl),hS⟩
      · have hhi:k_+3≤2:=hhi; omega
    · intro k_ s_ g w hlo hhi _ hD a hf
      obtain ⟨b_s5,v6⟩:=g
      rcases k_ with _ | _ | _ | k_
      · have hS:St w0 w (fun k=>(stA 95 24 bm kvs gs).fp k) [] [pt b_c1 (.cells #[.int .u8 c.kind,.int .i64 c.a.num,.int .i64 c.a.yr,.int .u8 c.a.half,.int .u8 c.a.sec,.int .i64 c.a.cyc,.int .i64 c.b.num,.int .i64 c.b.yr,.int .u8 c.b.half,.int .u8 c.b.sec,.int .i64 c.b.cyc,.int .i64 c.n] 26 (0,0)),mp dV bm kvs,pt ga.blk (.cells #[ga.v,.bool true] 95 (0,0)),sl 24 5 ga.v ga.all.length (encs eD ga.all),bigA (rest.map (grA 95 24))]:=hD; clear hD
        replace hf:Fr a 42 [] [(0,.map (some bm)),(3,.pointer (some ⟨b_c1,0,none⟩)),(4,.pointer (some ⟨ga.blk,0,none⟩))]:=hf
        refine O.val hf rfl rfl rfl (RunV.move rfl) ?_
        clear hf a; intro a hf
        exact O.nil ⟨rfl,hf.to trivial,(fun d hd=>by cases (show some 28=some d from hd); exact hf.get _ _ rfl),hS⟩
      · have hS:St w0 w (fun k=>(stA 95 24 bm kvs gs).fp k) [] [pt b_s5 (.cells #[.int .i64 c.b.num,.int .i64 c.b.yr,.int .u8 c.b.half,.int .u8 c.b.sec,.int .i64 c.b.cyc] 24 (0,0)),pt b_c1 (.cells #[.int .u8 c.kind,.int .i64 c.a.num,.int .i64 c.a.yr,.int .u8 c.a.half,.int .u8 c.a.sec,.int .i64 c.a.cyc,.int .i64 c.b.num,.int .i64 c.b.yr,.int .u8 c.b.half,.int .u8 c.b.sec,.int .i64 c.b.cyc,.int .i64 c.n] 26 (0,0)),mp dV bm kvs,pt ga.blk (.cells #[ga.v,.bool true] 95 (0,0)),sl 24 5 ga.v ga.all.length (encs eD ga.all),bigA (rest.map (grA 95 24))]:=hD; clear hD
        replace hf:Fr a 42 [] [(0,.map (some bm)),(3,.pointer (some ⟨b_c1,0,none⟩)),(4,.pointer (some ⟨ga.blk,0,none⟩))]:=hf
        refine O.val hf rfl rfl rfl (RunV.move rfl) ?_
        clear hf a; intro a hf
        exact O.nil ⟨rfl,hf.to trivial,(fun d hd=>by cases (show some 28=some d from hd); exact hf.get _ _ rfl),hS⟩
      · exact absurd hhi (by decide)
      · have hhi:k_+3≤1:=hhi; omega
    · intro k_ s_ g w hlo hhi _ hD a hf
      obtain ⟨b_s5,v6⟩:=g
      rcases k_ with _ | _ | _ | k_
      · have hS:St w0 w (fun k=>(stA 95 24 bm kvs gs).fp k) [] [pt b_c1 (.cells #[.int .u8 c.kind,.int .i64 c.a.num,.int .i64 c.a.yr,.int .u8 c.a.half,.int .u8 c.a.sec,.int .i64 c.a.cyc,.int .i64 c.b.num,.int .i64 c.b.yr,.int .u8 c.b.half,.int .u8 c.b.sec,.int .i64 c.b.cyc,.int .i64 c.n] 26 (0,0)),mp dV bm kvs,pt ga.blk (.cells #[ga.v,.bool true] 95 (0,0)),sl 24 5 ga.v ga.all.length (encs eD ga.all),bigA (rest.map (grA 95 24))]:=hD; clear hD
        replace hf:Fr a 42 [] [(28,.pointer (some ⟨ga.blk,0,none⟩)),(0,.map (some bm)),(3,.pointer (some ⟨b_c1,0,none⟩)),(4,.pointer (some ⟨ga.blk,0,none⟩))]:=hf
        refine O.val hf rfl rfl rfl (RunV.nilCheck rfl) ?_
        clear hf a; intro a hf
        exact O.nil ⟨rfl,hf.to trivial,(fun d hd=>by cases (show some 29=some d from hd); exact hf.get _ _ rfl),hS⟩
      · have hS:St w0 w (fun k=>(stA 95 24 bm kvs gs).fp k) [] [pt b_s5 (.cells #[.int .i64 c.b.num,.int .i64 c.b.yr,.int .u8 c.b.half,.int .u8 c.b.sec,.int .i64 c.b.cyc] 24 (0,0)),pt b_c1 (.cells #[.int .u8 c.kind,.int .i64 c.a.num,.int .i64 c.a.yr,.int .u8 c.a.half,.int .u8 c.a.sec,.int .i64 c.a.cyc,.int .i64 c.b.num,.int .i64 c.b.yr,.int .u8 c.b.half,.int .u8 c.b.sec,.int .i64 c.b.cyc,.int .i64 c.n] 26 (0,0)),mp dV bm kvs,pt ga.blk (.cells #[ga.v,.bool true] 95 (0,0)),sl 24 5 ga.v ga.all.length (encs eD ga.all),bigA (rest.map (grA 95 24))]:=hD; clear hD
        replace hf:Fr a 42 [] [(28,.pointer (some ⟨ga.blk,0,none⟩)),(0,.map (some bm)),(3,.pointer (some ⟨b_c1,0,none⟩)),(4,.pointer (some ⟨ga.blk,0,none⟩))]:=hf
        refine O.val hf rfl rfl rfl (RunV.nilCheck rfl) ?_
        clear hf a; intro a hf
        exact O.nil ⟨rfl,hf.to trivial,(fun d hd=>by cases (show some 29=some d from hd); exact hf.get _ _ rfl),hS⟩
      · exact absurd hhi (by decide)
      · have hhi:k_+3≤1:=hhi; omega
    · intro k_ s_ g w hlo hhi _ hD a hf
      obtain ⟨b_s5,v6⟩:=g
      rcases k_ with _ | _ | _ | k_
      · have hS:St w0 w (fun k=>(stA 95 24 bm kvs gs).fp k) [] [pt b_c1 (.cells #[.int .u8 c.kind,.int .i64 c.a.num,.int .i64 c.a.yr,.int .u8 c.a.half,.int .u8 c.a.sec,.int .i64 c.a.cyc,.int .i64 c.b.num,.int .i64 c.b.yr,.int .u8 c.b.half,.int .u8 c.b.sec,.int .i64 c.b.cyc,.int .i64 c.n] 26 (0,0)),mp dV bm kvs,pt ga.blk (.cells #[ga.v,.bool true] 95 (0,0)),sl 24 5 ga.v ga.all.length (encs eD ga.all),bigA (rest.map (grA 95 24))]:=hD; clear hD
        replace hf:Fr a 42 [] [(29,.pointer (some ⟨ga.blk,0,none⟩)),(0,.map (some bm)),(3,.pointer (some ⟨b_c1,0,none⟩)),(4,.pointer (some ⟨ga.blk,0,none⟩))]:=hf
        refine O.val hf rfl rfl rfl (RunV.field T_field_95_0 rfl rfl) ?_
        clear hf a; intro a hf
        exact O.nil ⟨rfl,hf.to trivial,(fun d hd=>by cases (show some 30=some d from hd); exact hf.get _ _ rfl),hS⟩
      · have hS:St w0 w (fun k=>(stA 95 24 bm kvs gs).fp k) [] [pt b_s5 (.cells #[.int .i64 c.b.num,.int .i64 c.b.yr,.int .u8 c.b.half,.int .u8 c.b.sec,.int .i64 c.b.cyc] 24 (0,0)),pt b_c1 (.cells #[.int .u8 c.kind,.int .i64 c.a.num,.int .i64 c.a.yr,.int .u8 c.a.half,.int .u8 c.a.sec,.int .i64 c.a.cyc,.int .i64 c.b.num,.int .i64 c.b.yr,.int .u8 c.b.half,.int .u8 c.b.sec,.int .i64 c.b.cyc,.int .i64 c.n] 26 (0,0)),mp dV bm kvs,pt ga.blk (.cells #[ga.v,.bool true] 95 (0,0)),sl 24 5 ga.v ga.all.length (encs eD ga.all),bigA (rest.map (grA 95 24))]:=hD; clear hD
        replace hf:Fr a 42 [] [(29,.pointer (some ⟨ga.blk,0,none⟩)),(0,.map (some bm)),(3,.pointer (some ⟨b_c1,0,none⟩)),(4,.pointer (some ⟨ga.blk,0,none⟩))]:=hf
        refine O.val hf rfl rfl rfl (RunV.field T_field_95_0 rfl rfl) ?_
        clear hf a; intro a hf
        exact O.nil ⟨rfl,hf.to trivial,(fun d hd=>by cases (show some 30=some d from hd); exact hf.get _ _ rfl),hS⟩
      · exact absurd hhi (by decide)
      · have hhi:k_+3≤1:=hhi; omega
    · intro k_ s_ g w hlo hhi _ hD a hf
      obtain ⟨b_s5,v6⟩:=g
      rcases k_ with _ | _ | _ | k_
      · have hS:St w0 w (fun k=>(stA 95 24 bm kvs gs).fp k) [] [pt b_c1 (.cells #[.int .u8 c.kind,.int .i64 c.a.num,.int .i64 c.a.yr,.int .u8 c.a.half,.int .u8 c.a.sec,.int .i64 c.a.cyc,.int .i64 c.b.num,.int .i64 c.b.yr,.int .u8 c.b.half,.int .u8 c.b.sec,.int .i64 c.b.cyc,.int .i64 c.n] 26 (0,0)),mp dV bm kvs,pt ga.blk (.cells #[ga.v,.bool true] 95 (0,0)),sl 24 5 ga.v ga.all.length (encs eD ga.all),bigA (rest.map (grA 95 24))]:=hD; clear hD
        replace hf:Fr a 42 [] [(30,.pointer (some ⟨ga.blk,0,none⟩)),(0,.map (some bm)),(3,.pointer (some ⟨b_c1,0,none⟩)),(4,.pointer (some ⟨ga.blk,0,none⟩))]:=hf
        refine O.val hf rfl rfl rfl (RunV.load1 T_agg_35 rfl (hS.ptAt (i:=2) rfl) rfl) ?_
        clear hf a; intro a hf
        exact O.nil ⟨rfl,hf.to trivial,(fun d hd=>by cases (show some 31=some d from hd); exact hf.get _ _ rfl),hS⟩
      · have hS:St w0 w (fun k=>(stA 95 24 bm kvs gs).fp k) [] [pt b_s5 (.cells #[.int .i64 c.b.num,.int .i64 c.b.yr,.int .u8 c.b.half,.int .u8 c.b.sec,.int .i64 c.b.cyc] 24 (0,0)),pt b_c1 (.cells #[.int .u8 c.kind,.int .i64 c.a.num,.int .i64 c.a.yr,.int .u8 c.a.half,.int .u8 c.a.sec,.int .i64 c.a.cyc,.int .i64 c.b.num,.int .i64 c.b.yr,.int .u8 c.b.half,.int .u8 c.b.sec,.int .i64 c.b.cyc,.int .i64 c.n] 26 (0,0)),mp dV bm kvs,pt ga.blk (.cells #[ga.v,.bool true] 95 (0,0)),sl 24 5 ga.v ga.all.length (encs eD ga.all),bigA (rest.map (grA 95 24))]:=hD; clear hD
        replace hf:Fr a 42 [] [(30,.pointer (some ⟨ga.blk,0,none⟩)),(0,.map (some bm)),(3,.pointer (some ⟨b_c1,0,none⟩)),(4,.pointer (some ⟨ga.blk,0,none⟩))]:=hf
        refine O.val hf rfl rfl rfl (RunV.load1 T_agg_35 rfl (hS.ptAt (i:=3) rfl) rfl) ?_
        clear hf a; intro a hf
        exact O.nil ⟨rfl,hf.to trivial,(fun d hd=>by cases (show some 31=some d from hd); exact hf.get _ _ rfl),hS⟩
      · exact absurd hhi (by decide)
      · have hhi:k_+3≤1:=hhi; omega
    · intro k_ s_ g w hlo hhi _ hD a hf
      obtain ⟨b_s5,v6⟩:=g
      rcases k_ with _ | _ | _ | k_
      · have hS:St w0 w (fun k=>(stA 95 24 bm kvs gs).fp k) [] [pt b_c1 (.cells #[.int .u8 c.kind,.int .i64 c.a.num,.int .i64 c.a.yr,.int .u8 c.a.half,.int .u8 c.a.sec,.int .i64 c.a.cyc,.int .i64 c.b.num,.int .i64 c.b.yr,.int .u8 c.b.half,.int .u8 c.b.sec,.int .i64 c.b.cyc,.int .i64 c.n] 26 (0,0)),mp dV bm kvs,pt ga.blk (.cells #[ga.v,.bool true] 95 (0,0)),sl 24 5 ga.v ga.all.length (encs eD ga.all),bigA (rest.map (grA 95 24))]:=hD; clear hD
        replace hf:Fr a 42 [] [(0,.map (some bm)),(3,.pointer (some ⟨b_c1,0,none⟩)),(4,.pointer (some ⟨ga.blk,0,none⟩))]:=hf
        refine O.val hf rfl rfl rfl (RunV.field T_field_26_2 rfl rfl) ?_
        clear hf a; intro a hf
        exact O.nil ⟨rfl,hf.to trivial,(fun d hd=>by cases (show some 32=some d from hd); exact hf.get _ _ rfl),hS⟩
      · exact absurd hhi (by decide)
      · exact absurd hhi (by decide)
      · have hhi:k_+3≤0:=hhi; omega
    · intro k_ s_ g w hlo hhi _ hD a hf
      obtain ⟨b_s5,v6⟩:=g
      rcases k_ with _ | _ | _ | k_
      · have hS:St w0 w (fun k=>(stA 95 24 bm kvs gs).fp k) [] [pt b_c1 (.cells #[.int .u8 c.kind,.int .i64 c.a.num,.int .i64 c.a.yr,.int .u8 c.a.half,.int .u8 c.a.sec,.int .i64 c.a.cyc,.int .i64 c.b.num,.int .i64 c.b.yr,.int .u8 c.b.half,.int .u8 c.b.sec,.int .i64 c.b.cyc,.int .i64 c.n] 26 (0,0)),mp dV bm kvs,pt ga.blk (.cells #[ga.v,.bool true] 95 (0,0)),sl 24 5 ga.v ga.all.length (encs eD ga.all),bigA (rest.map (grA 95 24))]:=hD; clear hD
        replace hf:Fr a 42 [] [(32,.pointer (some ⟨b_c1,6,none⟩)),(0,.map (some bm)),(3,.pointer (some ⟨b_c1,0,none⟩)),(4,.pointer (some ⟨ga.blk,0,none⟩))]:=hf
        refine O.val hf rfl rfl rfl (RunV.loadN (cs':=#[.int .i64 c.b.num,.int .i64 c.b.yr,.int .u8 c.b.half,.int .u8 c.b.sec,.int .i64 c.b.cyc]) T_agg_24 T_size_24 rfl (hS.ptAt (i:=0) rfl) (Nat.le_of_ble_eq_true rfl) rfl) ?_
        clear hf a; intro a hf
        exact O.nil ⟨rfl,hf.to trivial,(fun d hd=>by cases (show some 33=some d from hd); exact hf.get _ _ rfl),hS⟩
      · exact absurd hhi (by decide)
      · exact absurd hhi (by decide)
      · have hhi:k_+3≤0:=hhi; omega
    · intro k_ s_ g w hlo hhi _ hD a hf
      obtain ⟨b_s5,v6⟩:=g
      rcases k_ with _ | _ | _ | k_
      · exact absurd hlo (by decide)
      · exact absurd hlo (by decide)
      · have hS:St w0 w (fun k=>(stA 95 24 bm kvs gs).fp k) [] [pt b_s5 (.cells #[.int .i64 c.b.num,.int .i64 c.b.yr,.int .u8 c.b.half,.int .u8 c.b.sec,.int .i64 c.b.cyc] 24 (0,0)),pt b_c1 (.cells #[.int .u8 c.kind,.int .i64 c.a.num,.int .i64 c.a.yr,.int .u8 c.a.half,.int .u8 c.a.sec,.int .i64 c.a.cyc,.int .i64 c.b.num,.int .i64 c.b.yr,.int .u8 c.b.half,.int .u8 c.b.sec,.int .i64 c.b.cyc,.int .i64 c.n] 26 (0,0)),mp dV bm kvs,pt ga.blk (.cells #[ga.v,.bool true] 95 (0,0)),sl 24 5 v6 ((ga.all++[c.b]).length) (encs eD (ga.all++[c.b])),bigA (rest.map (grA 95 24))]:=hD; clear hD
        replace hf:Fr a 42 [] [(27,.pointer (some ⟨ga.blk,0,none⟩)),(28,.pointer (some ⟨ga.blk,0,none⟩)),(29,.pointer (some ⟨ga.blk,0,none⟩)),(30,.pointer (some ⟨ga.blk,0,none⟩)),(31,ga.v),(32,.pointer (some ⟨b_c1,6,none⟩)),(33,.agg #[.int .i64 c.b.num,.int .i64 c.b.yr,.int .u8 c.b.half,.int .u8 c.b.sec,.int .i64 c.b.cyc]),(34,.slice (some ⟨b_s5,0,none⟩) 1 1),(35,v6),(0,.map (some bm)),(3,.pointer (some ⟨b_c1,0,none⟩)),(4,.pointer (some ⟨ga.blk,0,none⟩))]:=hf
        refine O.val hf rfl rfl rfl (RunV.nilCheck rfl) ?_
        clear hf a; intro a hf
        exact O.nil ⟨rfl,hf.to trivial,(fun d hd=>by cases (show some 36=some d from hd); exact hf.get _ _ rfl),hS⟩
      · have hhi:k_+3≤2:=hhi; omega
    · intro k_ s_ g w hlo hhi _ hD a hf
      obtain ⟨b_s5,v6⟩:=g
      rcases k_ with _ | _ | _ | k_
      · exact absurd hlo (by decide)
      · exact absurd hlo (by decide)
      · have hS:St w0 w (fun k=>(stA 95 24 bm kvs gs).fp k) [] [pt b_s5 (.cells #[.int .i64 c.b.num,.int .i64 c.b.yr,.int .u8 c.b.half,.int .u8 c.b.sec,.int .i64 c.b.cyc] 24 (0,0)),pt b_c1 (.cells #[.int .u8 c.kind,.int .i64 c.a.num,.int .i64 c.a.yr,.int .u8 c.a.half,.int .u8 c.a.sec,.int .i64 c.a.cyc,.int .i64 c.b.num,.int .i64 c.b.yr,.int .u8 c.b.half,.int .u8 c.b.sec,.int .i64 c.b.cyc,.int .i64 c.n] 26 (0,0)),mp dV bm kvs,pt ga.blk (.cells #[ga.v,.bool true] 95 (0,0)),sl 24 5 v6 ((ga.all++[c.b]).length) (encs eD (ga.all++[c.b])),bigA (rest.map (grA 95 24))]:=hD; clear hD
        replace hf:Fr a 42 [] [(27,.pointer (some ⟨ga.blk,0,none⟩)),(28,.pointer (some ⟨ga.blk,0,none⟩)),(29,.pointer (some ⟨ga.blk,0,none⟩)),(30,.pointer (some ⟨ga.blk,0,none⟩)),(31,ga.v),(32,.pointer (some ⟨b_c1,6,none⟩)),(33,.agg #[.int .i64 c.b.num,.int .i64 c.b.yr,.int .u8 c.b.half,.int .u8 c.b.sec,.int .i64 c.b.cyc]),(34,.slice (some ⟨b_s5,0,none⟩) 1 1),(35,v6),(36,.pointer (some ⟨ga.blk,0,none⟩)),(0,.map (some bm)),(3,.pointer (some ⟨b_c1,0,none⟩)),(4,.pointer (some ⟨ga.blk,0,none⟩))]:=hf
        refine O.val hf rfl rfl rfl (RunV.field T_field_95_0 rfl rfl) ?_
        clear hf a; intro a hf
        exact O.nil ⟨rfl,hf.to trivial,(fun d hd=>by cases (show some 37=some d from hd); exact hf.get _ _ rfl),hS⟩
      · have hhi:k_+3≤2:=hhi; omega
  · clear hf hS
    refine ⟨?_,?_,?_,trivial⟩
    · intro s_ g w _ hD a hf
      obtain ⟨b_s5,v6⟩:=g
      have hS:St w0 w (fun k=>(stA 95 24 bm kvs gs).fp k) [] [pt b_c1 (.cells #[.int .u8 c.kind,.int .i64 c.a.num,.int .i64 c.a.yr,.int .u8 c.a.half,.int .u8 c.a.sec,.int .i64 c.a.cyc,.int .i64 c.b.num,.int .i64 c.b.yr,.int .u8 c.b.half,.int .u8 c.b.sec,.int .i64 c.b.cyc,.int .i64 c.n] 26 (0,0)),mp dV bm kvs,pt ga.blk (.cells #[ga.v,.bool true] 95 (0,0)),sl 24 5 ga.v ga.all.length (encs eD ga.all),bigA (rest.map (grA 95 24))]:=hD; clear hD
      replace hf:Fr a 42 [] [(33,.agg #[.int .i64 c.b.num,.int .i64 c.b.yr,.int .u8 c.b.half,.int .u8 c.b.sec,.int .i64 c.b.cyc]),(0,.map (some bm)),(3,.pointer (some ⟨b_c1,0,none⟩)),(4,.pointer (some ⟨ga.blk,0,none⟩))]:=hf
      refine O.buildSlice (cs':=#[.int .i64 c.b.num,.int .i64 c.b.yr,.int .u8 c.b.half,.int .u8 c.b.sec,.int .i64 c.b.cyc]) (zs:=#[.int .i64 0,.int .i64 0,.int .u8 0,.int .u8 0,.int .i64 0]) hf hS rfl rfl T_elem_35 T_size_24 T_zero_24 rfl rfl rfl rfl rfl ?_
      clear hf hS a; intro b_s8 w a hbb_s8 hS hf
      exact O.nil ⟨rfl,(b_s8,v6),hf.to trivial,(fun d hd=>by cases (show some 34=some d from hd); exact hf.get _ _ rfl),(fun j_ hj_ ha_=>match j_,hj_,ha_ with | 0,hj_,ha_=>rfl | 1,hj_,ha_=>rfl | 2,hj_,ha_=>rfl | 3,hj_,ha_=>rfl | 4,hj_,ha_=>rfl | 5,hj_,ha_=>rfl | 6,hj_,ha_=>rfl | 7,hj_,ha_=>absurd rfl hj_ | 8,hj_,ha_=>absurd ha_ (by decide) | 9,hj_,ha_=>absurd ha_ (by decide) | 10,hj_,ha_=>absurd ha_ (by decide) | 11,hj_,ha_=>absurd ha_ (by decide) | _+12,_,_=>rfl),hS⟩
    · intro s_ g w _ hD a hf
      obtain ⟨b_s5,v6⟩:=g
      have hS:St w0 w (fun k=>(stA 95 24 bm kvs gs).fp k) [] [pt b_s5 (.cells #[.int .i64 c.b.num,.int .i64 c.b.yr,.int .u8 c.b.half,.int .u8 c.b.sec,.int .i64 c.b.cyc] 24 (0,0)),pt b_c1 (.cells #[.int .u8 c.kind,.int .i64 c.a.num,.int .i64 c.a.yr,.int .u8 c.a.half,.int .u8 c.a.sec,.int .i64 c.a.cyc,.int .i64 c.b.num,.int .i64 c.b.yr,.int .u8 c.b.half,.int .u8 c.b.sec,.int .i64 c.b.cyc,.int .i64 c.n] 26 (0,0)),mp dV bm kvs,pt ga.blk (.cells #[ga.v,.bool true] 95 (0,0)),sl 24 5 ga.v ga.all.length (encs eD ga.all),bigA (rest.map (grA 95 24))]:=hD; clear hD
      replace hf:Fr a 42 [] [(31,ga.v),(34,.slice (some ⟨b_s5,0,none⟩) 1 1),(0,.map (some bm)),(3,.pointer (some ⟨b_c1,0,none⟩)),(4,.pointer (some ⟨ga.blk,0,none⟩))]:=hf
      refine O.append1 (j:=4) (jj:=0) hf hS rfl rfl T_elem_35 T_size_24 T_bytes_24 T_zero_24 rfl rfl rfl rfl rfl rfl rfl rfl (by unfold maxLen; omega) (by omega) ?_
      clear hf hS a; intro v9 w a hS hf
      replace hS:=hS.eqM (N:=[pt b_s5 (.cells #[.int .i64 c.b.num,.int .i64 c.b.yr,.int .u8 c.b.half,.int .u8 c.b.sec,.int .i64 c.b.cyc] 24 (0,0)),pt b_c1 (.cells #[.int .u8 c.kind,.int .i64 c.a.num,.int .i64 c.a.yr,.int .u8 c.a.half,.int .u8 c.a.sec,.int .i64 c.a.cyc,.int .i64 c.b.num,.int .i64 c.b.yr,.int .u8 c.b.half,.int .u8 c.b.sec,.int .i64 c.b.cyc,.int .i64 c.n] 26 (0,0)),mp dV bm kvs,pt ga.blk (.cells #[ga.v,.bool true] 95 (0,0)),sl 24 5 v9 (ga.all.length+1) (encs eD ga.all++[.int .i64 c.b.num,.int .i64 c.b.yr,.int .u8 c.b.half,.int .u8 c.b.sec,.int .i64 c.b.cyc]),bigA (rest.map (grA 95 24))]) rfl
      replace hS:=hS.reE (i:=4) (M':=[pt b_s5 (.cells #[.int .i64 c.b.num,.int .i64 c.b.yr,.int .u8 c.b.half,.int .u8 c.b.sec,.int .i64 c.b.cyc] 24 (0,0)),pt b_c1 (.cells #[.int .u8 c.kind,.int .i64 c.a.num,.int .i64 c.a.yr,.int .u8 c.a.half,.int .u8 c.a.sec,.int .i64 c.a.cyc,.int .i64 c.b.num,.int .i64 c.b.yr,.int .u8 c.b.half,.int .u8 c.b.sec,.int .i64 c.b.cyc,.int .i64 c.n] 26 (0,0)),mp dV bm kvs,pt ga.blk (.cells #[ga.v,.bool true] 95 (0,0)),sl 24 5 v9 ((ga.all++[c.b]).length) (encs eD (ga.all++[c.b])),bigA (rest.map (grA 95 24))]) rfl (sl_snoc (enc:=eD) (l:=ga.all) (x:=c.b)) rfl
      exact O.nil ⟨rfl,(b_s5,v9),hf.to trivial,(fun d hd=>by cases (show some 35=some d from hd); exact hf.get _ _ rfl),(fun j_ hj_ ha_=>match j_,hj_,ha_ with | 0,hj_,ha_=>rfl | 1,hj_,ha_=>rfl | 2,hj_,ha_=>rfl | 3,hj_,ha_=>rfl | 4,hj_,ha_=>rfl | 5,hj_,ha_=>rfl | 6,hj_,ha_=>rfl | 7,hj_,ha_=>rfl | 8,hj_,ha_=>absurd rfl hj_ | 9,hj_,ha_=>absurd ha_ (by decide) | 10,hj_,ha_=>absurd ha_ (by decide) | 11,hj_,ha_=>absurd ha_ (by decide) | _+12,_,_=>rfl),hS⟩
    · intro s_ g w _ hD a hf
      obtain ⟨b_s5,v6⟩:=g
      have hS:St w0 w (fun k=>(stA 95 24 bm kvs gs).fp k) [] [pt b_s5 (.cells #[.int .i64 c.b.num,.int .i64 c.b.yr,.int .u8 c.b.half,.int .u8 c.b.sec,.int .i64 c.b.cyc] 24 (0,0)),pt b_c1 (.cells #[.int .u8 c.kind,.int .i64 c.a.num,.int .i64 c.a.yr,.int .u8 c.a.half,.int .u8 c.a.sec,.int .i64 c.a.cyc,.int .i64 c.b.num,.int .i64 c.b.yr,.int .u8 c.b.half,.int .u8 c.b.sec,.int .i64 c.b.cyc,.int .i64 c.n] 26 (0,0)),mp dV bm kvs,pt ga.blk (.cells #[ga.v,.bool true] 95 (0,0)),sl 24 5 v6 ((ga.all++[c.b]).length) (encs eD (ga.all++[c.b])),bigA (rest.map (grA 95 24))]:=hD; clear hD
      replace hf:Fr a 42 [] [(27,.pointer (some ⟨ga.blk,0,none⟩)),(28,.pointer (some ⟨ga.blk,0,none⟩)),(29,.pointer (some ⟨ga.blk,0,none⟩)),(30,.pointer (some ⟨ga.blk,0,none⟩)),(31,ga.v),(32,.pointer (some ⟨b_c1,6,none⟩)),(33,.agg #[.int .i64 c.b.num,.int .i64 c.b.yr,.int .u8 c.b.half,.int .u8 c.b.sec,.int .i64 c.b.cyc]),(34,.slice (some ⟨b_s5,0,none⟩) 1 1),(35,v6),(37,.pointer (some ⟨ga.blk,0,none⟩)),(0,.map (some bm)),(3,.pointer (some ⟨b_c1,0,none⟩)),(4,.pointer (some ⟨ga.blk,0,none⟩))]:=hf
      have hcl10:=rdOK.cells (hS.slr (j:=4) rfl)
      refine O.store (m:=1) (j:=3) (cs':=#[v6,.bool true]) (M':=[pt b_s5 (.cells #[.int .i64 c.b.num,.int .i64 c.b.yr,.int .u8 c.b.half,.int .u8 c.b.sec,.int .i64 c.b.cyc] 24 (0,0)),pt b_c1 (.cells #[.int .u8 c.kind,.int .i64 c.a.num,.int .i64 c.a.yr,.int .u8 c.a.half,.int .u8 c.a.sec,.int .i64 c.a.cyc,.int .i64 c.b.num,.int .i64 c.b.yr,.int .u8 c.b.half,.int .u8 c.b.sec,.int .i64 c.b.cyc,.int .i64 c.n] 26 (0,0)),mp dV bm kvs,pt ga.blk (.cells #[v6,.bool true] 95 (0,0)),sl 24 5 v6 ((ga.all++[c.b]).length) (encs eD (ga.all++[c.b])),bigA (rest.map (grA 95 24))]) hf hS rfl rfl rfl T_size_35 (by rw [hcl10.1]; rfl) (by rw [hcl10.1]; exact hcl10.2) rfl (Nat.le_of_ble_eq_true rfl) (by rw [hcl10.1]; rfl) rfl ?_
      clear hS; intro w hS
      exact O.nil ⟨rfl,(b_s5,v6),hf.to trivial,(fun d hd=>by cases (show none=some d from hd)),(fun j_ hj_ ha_=>match j_,hj_,ha_ with | 0,hj_,ha_=>rfl | 1,hj_,ha_=>rfl | 2,hj_,ha_=>rfl | 3,hj_,ha_=>rfl | 4,hj_,ha_=>rfl | 5,hj_,ha_=>rfl | 6,hj_,ha_=>rfl | 7,hj_,ha_=>rfl | 8,hj_,ha_=>rfl | 9,hj_,ha_=>rfl | 10,hj_,ha_=>rfl | 11,hj_,ha_=>absurd rfl hj_ | _+12,_,_=>rfl),hS⟩
  clear hf hS; intro s_ g a w _ hf hD
  obtain ⟨b_s5,v6⟩:=g
  have hS:St w0 w (fun k=>(stA 95 24 bm kvs gs).fp k) [] [pt b_s5 (.cells #[.int .i64 c.b.num,.int .i64 c.b.yr,.int .u8 c.b.half,.int .u8 c.b.sec,.int .i64 c.b.cyc] 24 (0,0)),pt b_c1 (.cells #[.int .u8 c.kind,.int .i64 c.a.num,.int .i64 c.a.yr,.int .u8 c.a.half,.int .u8 c.a.sec,.int .i64 c.a.cyc,.int .i64 c.b.num,.int .i64 c.b.yr,.int .u8 c.b.half,.int .u8 c.b.sec,.int .i64 c.b.cyc,.int .i64 c.n] 26 (0,0)),mp dV bm kvs,pt ga.blk (.cells #[v6,.bool true] 95 (0,0)),sl 24 5 v6 ((ga.all++[c.b]).length) (encs eD (ga.all++[c.b])),bigA (rest.map (grA 95 24))]:=hD; clear hD
  replace hf:Fr a 42 [] [(27,.pointer (some ⟨ga.blk,0,none⟩)),(28,.pointer (some ⟨ga.blk,0,none⟩)),(29,.pointer (some ⟨ga.blk,0,none⟩)),(30,.pointer (some ⟨ga.blk,0,none⟩)),(31,ga.v),(32,.pointer (some ⟨b_c1,6,none⟩)),(33,.agg #[.int .i64 c.b.num,.int .i64 c.b.yr,.int .u8 c.b.half,.int .u8 c.b.sec,.int .i64 c.b.cyc]),(34,.slice (some ⟨b_s5,0,none⟩) 1 1),(35,v6),(36,.pointer (some ⟨ga.blk,0,none⟩)),(37,.pointer (some ⟨ga.blk,0,none⟩)),(0,.map (some bm)),(3,.pointer (some ⟨b_c1,0,none⟩)),(4,.pointer (some ⟨ga.blk,0,none⟩))]:=hf
  refine k_seq ?_
  replace hf:Fr a 42 [] [(0,.map (some bm)),(3,.pointer (some ⟨b_c1,0,none⟩)),(4,.pointer (some ⟨ga.blk,0,none⟩))]:=hf.to ⟨rfl,rfl,rfl,trivial⟩
  refine W.regionL (l:=[0,1,2,3,4]) rfl ?_
  refine O.val hf rfl rfl rfl (RunV.move rfl) ?_
  clear hf a; intro a hf
  refine O.val hf rfl rfl rfl (RunV.field T_field_26_2 rfl rfl) ?_
  clear hf a; intro a hf
  refine O.val hf rfl rfl rfl (RunV.loadN (cs':=#[.int .i64 c.b.num,.int .i64 c.b.yr,.int .u8 c.b.half,.int .u8 c.b.sec,.int .i64 c.b.cyc]) T_agg_24 T_size_24 rfl (hS.ptAt (i:=1) rfl) (Nat.le_of_ble_eq_true rfl) rfl) ?_
  clear hf a; intro a hf
  refine O.val hf rfl rfl rfl (RunV.move rfl) ?_
  clear hf a; intro a hf
  refine O.putP (j:=2) (k:=c.b) (v:=ptrV ga.blk) (kvs:=kvs) (M':=[pt b_s5 (.cells #[.int .i64 c.b.num,.int .i64 c.b.yr,.int .u8 c.b.half,.int .u8 c.b.sec,.int .i64 c.b.cyc] 24 (0,0)),pt b_c1 (.cells #[.int .u8 c.kind,.int .i64 c.a.num,.int .i64 c.a.yr,.int .u8 c.a.half,.int .u8 c.a.sec,.int .i64 c.a.cyc,.int .i64 c.b.num,.int .i64 c.b.yr,.int .u8 c.b.half,.int .u8 c.b.sec,.int .i64 c.b.cyc,.int .i64 c.n] 26 (0,0)),mp dV bm (setP c.b (ptrV ga.blk) kvs),pt ga.blk (.cells #[v6,.bool true] 95 (0,0)),sl 24 5 v6 ((ga.all++[c.b]).length) (encs eD (ga.all++[c.b])),bigA (rest.map (grA 95 24))]) hf hS rfl T_mapof_71 keyD trivial (fun _ _=>trivial) rfl rfl rfl rfl rfl ?_
  clear hS; intro w hS
  refine O.nil ?_
  refine post_normal ?_
  refine post0 hf rfl  ?_
  replace hS:=hS.front (i:=5) (M':=[bigA (rest.map (grA 95 24)),pt b_s5 (.cells #[.int .i64 c.b.num,.int .i64 c.b.yr,.int .u8 c.b.half,.int .u8 c.b.sec,.int .i64 c.b.cyc] 24 (0,0)),pt b_c1 (.cells #[.int .u8 c.kind,.int .i64 c.a.num,.int .i64 c.a.yr,.int .u8 c.a.half,.int .u8 c.a.sec,.int .i64 c.a.cyc,.int .i64 c.b.num,.int .i64 c.b.yr,.int .u8 c.b.half,.int .u8 c.b.sec,.int .i64 c.b.cyc,.int .i64 c.n] 26 (0,0)),mp dV bm (setP c.b (ptrV ga.blk) kvs),pt ga.blk (.cells #[v6,.bool true] 95 (0,0)),sl 24 5 v6 ((ga.all++[c.b]).length) (encs eD (ga.all++[c.b]))]) rfl rfl
  replace hS:=hS.front (i:=5) (M':=[sl 24 5 v6 ((ga.all++[c.b]).length) (encs eD (ga.all++[c.b])),bigA (rest.map (grA 95 24)),pt b_s5 (.cells #[.int .i64 c.b.num,.int .i64 c.b.yr,.int .u8 c.b.half,.int .u8 c.b.sec,.int .i64 c.b.cyc] 24 (0,0)),pt b_c1 (.cells #[.int .u8 c.kind,.int .i64 c.a.num,.int .i64 c.a.yr,.int .u8 c.a.half,.int .u8 c.a.sec,.int .i64 c.a.cyc,.int .i64 c.b.num,.int .i64 c.b.yr,.int .u8 c.b.half,.int .u8 c.b.sec,.int .i64 c.b.cyc,.int .i64 c.n] 26 (0,0)),mp dV bm (setP c.b (ptrV ga.blk) kvs),pt ga.blk (.cells #[v6,.bool true] 95 (0,0))]) rfl rfl
  replace hS:=hS.front (i:=5) (M':=[pt ga.blk (.cells #[v6,.bool true] 95 (0,0)),sl 24 5 v6 ((ga.all++[c.b]).length) (encs eD (ga.all++[c.b])),bigA (rest.map (grA 95 24)),pt b_s5 (.cells #[.int .i64 c.b.num,.int .i64 c.b.yr,.int .u8 c.b.half,.int .u8 c.b.sec,.int .i64 c.b.cyc] 24 (0,0)),pt b_c1 (.cells #[.int .u8 c.kind,.int .i64 c.a.num,.int .i64 c.a.yr,.int .u8 c.a.half,.int .u8 c.a.sec,.int .i64 c.a.cyc,.int .i64 c.b.num,.int .i64 c.b.yr,.int .u8 c.b.half,.int .u8 c.b.sec,.int .i64 c.b.cyc,.int .i64 c.n] 26 (0,0)),mp dV bm (setP c.b (ptrV ga.blk) kvs)]) rfl rfl
  replace hS:=hS.front (i:=5) (M':=[mp dV bm (setP c.b (ptrV ga.blk) kvs),pt ga.blk (.cells #[v6,.bool true] 95 (0,0)),sl 24 5 v6 ((ga.all++[c.b]).length) (encs eD (ga.all++[c.b])),bigA (rest.map (grA 95 24)),pt b_s5 (.cells #[.int .i64 c.b.num,.int .i64 c.b.yr,.int .u8 c.b.half,.int .u8 c.b.sec,.int .i64 c.b.cyc] 24 (0,0)),pt b_c1 (.cells #[.int .u8 c.kind,.int .i64 c.a.num,.int .i64 c.a.yr,.int .u8 c.a.half,.int .u8 c.a.sec,.int .i64 c.a.cyc,.int .i64 c.b.num,.int .i64 c.b.yr,.int .u8 c.b.half,.int .u8 c.b.sec,.int .i64 c.b.cyc,.int .i64 c.n] 26 (0,0))]) rfl rfl
  have hS2:=St.grPut (g:=⟨ga.blk,v6,ga.all++[c.b],true⟩) hS
  exact ⟨(_,⟨ga.blk,v6,ga.all++[c.b],true⟩::rest),rfl,(hS2.stClose.sub (List.Sublist.cons_cons _ (List.nil_sublist _))).noB,hL2.name (fun g hg=>hnb g (hp.mem_iff.2 hg)),rfl⟩
end Go.Proofs.YtgakdmmmljdpjaaDoor
