/- Part of a proof: laws and walks. -/
import Derived.Test.YtgakdmmmljdpjaaDoorTan
import Derived.Test.YtgakdmmmljdpjaaDoorTal
set_option linter.unusedVariables false
set_option linter.unusedSimpArgs false
namespace Go.Proofs.YtgakdmmmljdpjaaDoor
open Go Go.SL
theorem C_ok_16:callOK Tryd.prog 16=true:=by kernel_rfl
theorem C_ok_17:callOK Tryd.prog 17=true:=by kernel_rfl
theorem C_ok_30:callOK Tryd.prog 30=true:=by kernel_rfl
theorem C_ok_31:callOK Tryd.prog 31=true:=by kernel_rfl
set_option maxHeartbeats 4000000 in
set_option maxRecDepth 4000 in
theorem alive_spec (w0:World) (hG:Lent w0 ordA) :
    Ret Tryd.prog 14 #[] w0 (G:=Unit) (fun _=>.bool true) (fun _ w=>St w0 w noX [] []):=by
  refine ret_of_W (lv:=[]) Tryd.func14 rfl rfl rfl (fun a hf=>?_)
  replace hf:Fr a 62 [] []:=hf
  have hS:St w0 w0 noX [ordA] []:=(St.refl w0).lendA hG
  refine W.seq ?_
  refine W.regionL (l:=[0]) rfl ?_
  refine O.val hf rfl rfl rfl (RunV.assign rfl) ?_
  clear hf a; intro a hf
  refine O.nil ?_
  refine k_seq ?_
  refine W.seq ?_
  refine W.regionL (l:=[0,1,2]) rfl ?_
  refine O.val hf rfl rfl rfl (RunV.buildS (cs':=#[.int .i64 700001,.int .i64 0,.int .u8 0,.int .u8 0,.int .i64 0]) T_places_24 T_zero_24 rfl rfl) ?_
  clear hf a; intro a hf
  refine O.alloc (cs:=#[.int .i64 0,.int .i64 0,.int .u8 0,.int .u8 0,.int .i64 0]) hf hS rfl rfl T_zero_24 rfl ?_
  clear hf hS a; intro b_n1 w a hbb_n1 hS hf
  refine O.store (j:=0) (cs':=#[.int .i64 700001,.int .i64 0,.int .u8 0,.int .u8 0,.int .i64 0]) (M':=[pt b_n1 (.cells #[.int .i64 700001,.int .i64 0,.int .u8 0,.int .u8 0,.int .i64 0] 24 (0,0))]) hf hS rfl rfl rfl T_size_24 rfl rfl rfl (Nat.le_of_ble_eq_true rfl) rfl rfl ?_
  clear hS; intro w hS
  refine O.nil ?_
  refine k_seq ?_
  replace hf:Fr a 62 [] [(0,.bool false),(1,.pointer (some ⟨b_n1,0,none⟩))]:=hf.to ⟨rfl,rfl,trivial⟩
  refine W.seq ?_
  refine W.regionL (l:=[0,1,2,3,4,5,6]) rfl ?_
  refine O.callR hf rfl rfl rfl (RunE.call (av:=#[]) C_ok_30 rfl rfl rfl) (given_spec _) ?_
  clear hf a
  rintro gv2 w2 hS1 a hf
  replace hf:Fr a _ _ ((10,gv2)::_):=hf
  replace hS:=(hS.call hS1).eqM (N:=[sl 26 12 gv2 givenL.length (encs eC givenL),pt b_n1 (.cells #[.int .i64 700001,.int .i64 0,.int .u8 0,.int .u8 0,.int .i64 0] 24 (0,0))]) rfl
  clear hS1
  refine O.callR hf rfl rfl rfl (RunE.call (av:=#[gv2]) C_ok_16 rfl rfl rfl) (run_ok gv2 givenL _ (hS.bptO (i:=0) rfl) (hS.slr (j:=0) rfl) (slOK.fit (hS.slAt (j:=0) rfl)) _ _ given_hist) ?_
  clear hf a
  rintro ⟨va1,xs1⟩ w3 ⟨hS1,hxs1⟩ a hf
  replace hf:Fr a _ _ ((11,.tuple #[va1,.int .i64 0])::_):=hf
  replace hS:=(hS.call hS1).eqM (N:=[sl 46 6 va1 xs1.length (encs eO xs1),bigA (xs1.map obA),sl 26 12 gv2 givenL.length (encs eC givenL),pt b_n1 (.cells #[.int .i64 700001,.int .i64 0,.int .u8 0,.int .u8 0,.int .i64 0] 24 (0,0))]) rfl
  clear hS1
  refine O.val hf rfl rfl rfl (RunV.move rfl) ?_
  clear hf a; intro a hf
  refine O.val hf rfl rfl rfl (RunV.extract rfl rfl) ?_
  clear hf a; intro a hf
  refine O.val hf rfl rfl rfl (RunV.extract rfl rfl) ?_
  clear hf a; intro a hf
  refine O.val hf rfl rfl rfl (RunV.assign rfl) ?_
  clear hf a; intro a hf
  refine O.val hf rfl rfl rfl (RunV.assign rfl) ?_
  clear hf a; intro a hf
  refine O.nil ?_
  refine k_seq ?_
  replace hf:Fr a 62 [] [(0,.bool false),(1,.pointer (some ⟨b_n1,0,none⟩)),(2,va1),(3,.int .i64 0)]:=hf.to ⟨rfl,rfl,rfl,rfl,trivial⟩
  refine W.seq ?_
  refine W.regionL (l:=[0,1,2,3,4,5,6,7,8,9]) rfl ?_
  refine O.callR hf rfl rfl rfl (RunE.call (av:=#[]) C_ok_30 rfl rfl rfl) (given_spec _) ?_
  clear hf a
  rintro gv3 w4 hS1 a hf
  replace hf:Fr a _ _ ((15,gv3)::_):=hf
  replace hS:=(hS.call hS1).eqM (N:=[sl 26 12 gv3 givenL.length (encs eC givenL),sl 46 6 va1 xs1.length (encs eO xs1),bigA (xs1.map obA),sl 26 12 gv2 givenL.length (encs eC givenL),pt b_n1 (.cells #[.int .i64 700001,.int .i64 0,.int .u8 0,.int .u8 0,.int .i64 0] 24 (0,0))]) rfl
  clear hS1
  refine O.val hf rfl rfl rfl (RunV.buildS (cs':=#[.int .u8 4,.int .i64 0,.int .i64 0,.int .u8 0,.int .u8 0,.int .i64 0,.int .i64 0,.int .i64 0,.int .u8 0,.int .u8 0,.int .i64 0,.int .i64 2]) T_places_26 T_zero_26 rfl (by kernel_rfl)) ?_
  clear hf a; intro a hf
  refine O.buildSlice (cs':=#[.int .u8 4,.int .i64 0,.int .i64 0,.int .u8 0,.int .u8 0,.int .i64 0,.int .i64 0,.int .i64 0,.int .u8 0,.int .u8 0,.int .i64 0,.int .i64 2]) (zs:=#[.int .u8 0,.int .i64 0,.int .i64 0,.int .u8 0,.int .u8 0,.int .i64 0,.int .i64 0,.int .i64 0,.int .u8 0,.int .u8 0,.int .i64 0,.int .i64 0]) hf hS rfl rfl T_elem_22 T_size_26 T_zero_26 rfl rfl (by kernel_rfl) rfl (by kernel_rfl) ?_
  clear hf hS a; intro b_s5 w a hbb_s5 hS hf
  refine O.append1 (j:=1) (jj:=0) hf hS rfl rfl T_elem_22 T_size_26 T_bytes_26 T_zero_26 rfl rfl rfl rfl rfl rfl rfl rfl (by unfold maxLen; decide) (by decide) ?_
  clear hf hS a; intro v6 w a hS hf
  replace hS:=hS.eqM (N:=[pt b_s5 (.cells #[.int .u8 4,.int .i64 0,.int .i64 0,.int .u8 0,.int .u8 0,.int .i64 0,.int .i64 0,.int .i64 0,.int .u8 0,.int .u8 0,.int .i64 0,.int .i64 2] 26 (0,0)),sl 26 12 v6 (givenL.length+1) (encs eC givenL++[.int .u8 4,.int .i64 0,.int .i64 0,.int .u8 0,.int .u8 0,.int .i64 0,.int .i64 0,.int .i64 0,.int .u8 0,.int .u8 0,.int .i64 0,.int .i64 2]),sl 46 6 va1 xs1.length (encs eO xs1),bigA (xs1.map obA),sl 26 12 gv2 givenL.length (encs eC givenL),pt b_n1 (.cells #[.int .i64 700001,.int .i64 0,.int .u8 0,.int .u8 0,.int .i64 0] 24 (0,0))]) rfl
  replace hS:=hS.reE (i:=1) (M':=[pt b_s5 (.cells #[.int .u8 4,.int .i64 0,.int .i64 0,.int .u8 0,.int .u8 0,.int .i64 0,.int .i64 0,.int .i64 0,.int .u8 0,.int .u8 0,.int .i64 0,.int .i64 2] 26 (0,0)),sl 26 12 v6 ((givenL++[(undoC 2)]).length) (encs eC (givenL++[(undoC 2)])),sl 46 6 va1 xs1.length (encs eO xs1),bigA (xs1.map obA),sl 26 12 gv2 givenL.length (encs eC givenL),pt b_n1 (.cells #[.int .i64 700001,.int .i64 0,.int .u8 0,.int .u8 0,.int .i64 0] 24 (0,0))]) rfl (sl_snoc (enc:=eC) (l:=givenL) (x:=(undoC 2))) rfl
  refine O.callR hf rfl rfl rfl (RunE.call (av:=#[v6]) C_ok_16 rfl rfl rfl) (run_ok v6 (givenL++[undoC 2]) _ (hS.bptO (i:=0) rfl) (hS.slr (j:=1) rfl) (slOK.fit (hS.slAt (j:=1) rfl)) _ _ given_undo2) ?_
  clear hf a
  rintro ⟨va2,xs2⟩ w7 ⟨hS1,hxs2⟩ a hf
  replace hf:Fr a _ _ ((19,.tuple #[va2,.int .i64 0])::_):=hf
  replace hS:=(hS.call hS1).eqM (N:=[sl 46 6 va2 xs2.length (encs eO xs2),bigA (xs2.map obA),pt b_s5 (.cells #[.int .u8 4,.int .i64 0,.int .i64 0,.int .u8 0,.int .u8 0,.int .i64 0,.int .i64 0,.int .i64 0,.int .u8 0,.int .u8 0,.int .i64 0,.int .i64 2] 26 (0,0)),sl 26 12 v6 ((givenL++[(undoC 2)]).length) (encs eC (givenL++[(undoC 2)])),sl 46 6 va1 xs1.length (encs eO xs1),bigA (xs1.map obA),sl 26 12 gv2 givenL.length (encs eC givenL),pt b_n1 (.cells #[.int .i64 700001,.int .i64 0,.int .u8 0,.int .u8 0,.int .i64 0] 24 (0,0))]) rfl
  clear hS1
  refine O.val hf rfl rfl rfl (RunV.move rfl) ?_
  clear hf a; intro a hf
  refine O.val hf rfl rfl rfl (RunV.extract rfl rfl) ?_
  clear hf a; intro a hf
  refine O.val hf rfl rfl rfl (RunV.extract rfl rfl) ?_
  clear hf a; intro a hf
  refine O.val hf rfl rfl rfl (RunV.assign rfl) ?_
  clear hf a; intro a hf
  refine O.val hf rfl rfl rfl (RunV.assign rfl) ?_
  clear hf a; intro a hf
  refine O.nil ?_
  refine k_seq ?_
  replace hf:Fr a 62 [] [(0,.bool false),(1,.pointer (some ⟨b_n1,0,none⟩)),(2,va1),(3,.int .i64 0),(4,va2),(5,.int .i64 0)]:=hf.to ⟨rfl,rfl,rfl,rfl,rfl,rfl,trivial⟩
  refine W.seq ?_
  refine W.regionL (l:=[0,1,2,3,4,5,6,7,8,9]) rfl ?_
  refine O.callR hf rfl rfl rfl (RunE.call (av:=#[]) C_ok_30 rfl rfl rfl) (given_spec _) ?_
  clear hf a
  rintro gv4 w8 hS1 a hf
  replace hf:Fr a _ _ ((23,gv4)::_):=hf
  replace hS:=(hS.call hS1).eqM (N:=[sl 26 12 gv4 givenL.length (encs eC givenL),sl 46 6 va2 xs2.length (encs eO xs2),bigA (xs2.map obA),pt b_s5 (.cells #[.int .u8 4,.int .i64 0,.int .i64 0,.int .u8 0,.int .u8 0,.int .i64 0,.int .i64 0,.int .i64 0,.int .u8 0,.int .u8 0,.int .i64 0,.int .i64 2] 26 (0,0)),sl 26 12 v6 ((givenL++[(undoC 2)]).length) (encs eC (givenL++[(undoC 2)])),sl 46 6 va1 xs1.length (encs eO xs1),bigA (xs1.map obA),sl 26 12 gv2 givenL.length (encs eC givenL),pt b_n1 (.cells #[.int .i64 700001,.int .i64 0,.int .u8 0,.int .u8 0,.int .i64 0] 24 (0,0))]) rfl
  clear hS1
  refine O.val hf rfl rfl rfl (RunV.buildS (cs':=#[.int .u8 4,.int .i64 0,.int .i64 0,.int .u8 0,.int .u8 0,.int .i64 0,.int .i64 0,.int .i64 0,.int .u8 0,.int .u8 0,.int .i64 0,.int .i64 1]) T_places_26 T_zero_26 rfl (by kernel_rfl)) ?_
  clear hf a; intro a hf
  refine O.buildSlice (cs':=#[.int .u8 4,.int .i64 0,.int .i64 0,.int .u8 0,.int .u8 0,.int .i64 0,.int .i64 0,.int .i64 0,.int .u8 0,.int .u8 0,.int .i64 0,.int .i64 1]) (zs:=#[.int .u8 0,.int .i64 0,.int .i64 0,.int .u8 0,.int .u8 0,.int .i64 0,.int .i64 0,.int .i64 0,.int .u8 0,.int .u8 0,.int .i64 0,.int .i64 0]) hf hS rfl rfl T_elem_22 T_size_26 T_zero_26 rfl rfl (by kernel_rfl) rfl (by kernel_rfl) ?_
  clear hf hS a; intro b_s9 w a hbb_s9 hS hf
  refine O.append1 (j:=1) (jj:=0) hf hS rfl rfl T_elem_22 T_size_26 T_bytes_26 T_zero_26 rfl rfl rfl rfl rfl rfl rfl rfl (by unfold maxLen; decide) (by decide) ?_
  clear hf hS a; intro v10 w a hS hf
  replace hS:=hS.eqM (N:=[pt b_s9 (.cells #[.int .u8 4,.int .i64 0,.int .i64 0,.int .u8 0,.int .u8 0,.int .i64 0,.int .i64 0,.int .i64 0,.int .u8 0,.int .u8 0,.int .i64 0,.int .i64 1] 26 (0,0)),sl 26 12 v10 (givenL.length+1) (encs eC givenL++[.int .u8 4,.int .i64 0,.int .i64 0,.int .u8 0,.int .u8 0,.int .i64 0,.int .i64 0,.int .i64 0,.int .u8 0,.int .u8 0,.int .i64 0,.int .i64 1]),sl 46 6 va2 xs2.length (encs eO xs2),bigA (xs2.map obA),pt b_s5 (.cells #[.int .u8 4,.int .i64 0,.int .i64 0,.int .u8 0,.int .u8 0,.int .i64 0,.int .i64 0,.int .i64 0,.int .u8 0,.int .u8 0,.int .i64 0,.int .i64 2] 26 (0,0)),sl 26 12 v6 ((givenL++[(undoC 2)]).length) (encs eC (givenL++[(undoC 2)])),sl 46 6 va1 xs1.length (encs eO xs1),bigA (xs1.map obA),sl 26 12 gv2 givenL.length (encs eC givenL),pt b_n1 (.cells #[.int .i64 700001,.int .i64 0,.int .u8 0,.int .u8 0,.int .i64 0] 24 (0,0))]) rfl
  replace hS:=hS.reE (i:=1) (M':=[pt b_s9 (.cells #[.int .u8 4,.int .i64 0,.int .i64 0,.int .u8 0,.int .u8 0,.int .i64 0,.int .i64 0,.int .i64 0,.int .u8 0,.int .u8 0,.int .i64 0,.int .i64 1] 26 (0,0)),sl 26 12 v10 ((givenL++[(undoC 1)]).length) (encs eC (givenL++[(undoC 1)])),sl 46 6 va2 xs2.length (encs eO xs2),bigA (xs2.map obA),pt b_s5 (.cells #[.int .u8 4,.int .i64 0,.int .i64 0,.int .u8 0,.int .u8 0,.int .i64 0,.int .i64 0,.int .i64 0,.int .u8 0,.int .u8 0,.int .i64 0,.int .i64 2] 26 (0,0)),sl 26 12 v6 ((givenL++[(undoC 2)]).length) (encs eC (givenL++[(undoC 2)])),sl 46 6 va1 xs1.length (encs eO xs1),bigA (xs1.map obA),sl 26 12 gv2 givenL.length (encs eC givenL),pt b_n1 (.cells #[.int .i64 700001,.int .i64 0,.int .u8 0,.int .u8 0,.int .i64 0] 24 (0,0))]) rfl (sl_snoc (enc:=eC) (l:=givenL) (x:=(undoC 1))) rfl
  refine O.callR hf rfl rfl rfl (RunE.call (av:=#[v10]) C_ok_16 rfl rfl rfl) (run_err v10 (givenL++[undoC 1]) _ (hS.bptO (i:=0) rfl) (hS.slr (j:=1) rfl) (slOK.fit (hS.slAt (j:=1) rfl)) 36 given_undo1) ?_
  clear hf a
  rintro _ w11 hS1 a hf
  replace hf:Fr a _ _ ((27,.tuple #[.slice none 0 0,.int .i64 36])::_):=hf
  replace hS:=(hS.call hS1).eqM (N:=[pt b_s9 (.cells #[.int .u8 4,.int .i64 0,.int .i64 0,.int .u8 0,.int .u8 0,.int .i64 0,.int .i64 0,.int .i64 0,.int .u8 0,.int .u8 0,.int .i64 0,.int .i64 1] 26 (0,0)),sl 26 12 v10 ((givenL++[(undoC 1)]).length) (encs eC (givenL++[(undoC 1)])),sl 46 6 va2 xs2.length (encs eO xs2),bigA (xs2.map obA),pt b_s5 (.cells #[.int .u8 4,.int .i64 0,.int .i64 0,.int .u8 0,.int .u8 0,.int .i64 0,.int .i64 0,.int .i64 0,.int .u8 0,.int .u8 0,.int .i64 0,.int .i64 2] 26 (0,0)),sl 26 12 v6 ((givenL++[(undoC 2)]).length) (encs eC (givenL++[(undoC 2)])),sl 46 6 va1 xs1.length (encs eO xs1),bigA (xs1.map obA),sl 26 12 gv2 givenL.length (encs eC givenL),pt b_n1 (.cells #[.int .i64 700001,.int .i64 0,.int .u8 0,.int .u8 0,.int .i64 0] 24 (0,0))]) rfl
  clear hS1
  refine O.val hf rfl rfl rfl (RunV.move rfl) ?_
  clear hf a; intro a hf
  refine O.val hf rfl rfl rfl (RunV.extract rfl rfl) ?_
  clear hf a; intro a hf
  refine O.val hf rfl rfl rfl (RunV.extract rfl rfl) ?_
  clear hf a; intro a hf
  refine O.val hf rfl rfl rfl (RunV.assign rfl) ?_
  clear hf a; intro a hf
  refine O.val hf rfl rfl rfl (RunV.assign rfl) ?_
  clear hf a; intro a hf
  refine O.nil ?_
  refine k_seq ?_
  replace hf:Fr a 62 [] [(0,.bool false),(1,.pointer (some ⟨b_n1,0,none⟩)),(2,va1),(3,.int .i64 0),(4,va2),(5,.int .i64 0),(7,.int .i64 36)]:=hf.to ⟨rfl,rfl,rfl,rfl,rfl,rfl,rfl,trivial⟩
  refine W.seq ?_
  replace hf:Fr a 62 [] [(1,.pointer (some ⟨b_n1,0,none⟩)),(2,va1),(3,.int .i64 0),(4,va2),(5,.int .i64 0),(7,.int .i64 36)]:=hf.to ⟨rfl,rfl,rfl,rfl,rfl,rfl,trivial⟩
  let LZ138:List (Nat × Value):=[(1,.pointer (some ⟨b_n1,0,none⟩)),(2,va1),(3,.int .i64 0),(4,va2),(5,.int .i64 0),(7,.int .i64 36)]
  let MZ138:List Asr:=[pt b_s9 (.cells #[.int .u8 4,.int .i64 0,.int .i64 0,.int .u8 0,.int .u8 0,.int .i64 0,.int .i64 0,.int .i64 0,.int .u8 0,.int .u8 0,.int .i64 0,.int .i64 1] 26 (0,0)),sl 26 12 v10 ((givenL++[(undoC 1)]).length) (encs eC (givenL++[(undoC 1)])),sl 46 6 va2 xs2.length (encs eO xs2),bigA (xs2.map obA),pt b_s5 (.cells #[.int .u8 4,.int .i64 0,.int .i64 0,.int .u8 0,.int .u8 0,.int .i64 0,.int .i64 0,.int .i64 0,.int .u8 0,.int .u8 0,.int .i64 0,.int .i64 2] 26 (0,0)),sl 26 12 v6 ((givenL++[(undoC 2)]).length) (encs eC (givenL++[(undoC 2)])),sl 46 6 va1 xs1.length (encs eO xs1),bigA (xs1.map obA),sl 26 12 gv2 givenL.length (encs eC givenL),pt b_n1 (.cells #[.int .i64 700001,.int .i64 0,.int .u8 0,.int .u8 0,.int .i64 0] 24 (0,0))]
  refine W.drawC (γ:=(Nat) × (Nat) × (Nat) × (Nat) × (Nat)) (L0:=LZ138) (L1:=[]) (0,0,0,0,0) [7,9,20,23,25] [] [0,1,2,3,4,5,6,8,10,11,12,13,14,15,16,17,18,19,21,22,24,26,27,28,29,30,31,32] (fun i_=>match i_ with | 0=>[] | 1=>[0] | 2=>[1] | 3=>[2] | 4=>[2] | 5=>[2] | 6=>[2,5] | 7=>[2,4,5,6] | 8=>[2,6,7] | 9=>[2,8] | 10=>[2,3,8,9] | 11=>[2,10] | 12=>[10,11] | 13=>[12] | 14=>[12,13] | 15=>[12,14] | 16=>[12,15] | 17=>[16] | 18=>[16] | 19=>[16] | 20=>[16,18,19] | 21=>[16,19,20] | 22=>[16,21] | 23=>[16,22] | 24=>[16,22,23] | 25=>[16,21,24] | 26=>[16,17,24,25] | 27=>[16,26] | 28=>[26,27] | 29=>[28] | 30=>[28,29] | 31=>[28,30] | 32=>[0,1,2,3,4,5,6,7,8,9,10,11,12,13,14,15,16,17,18,19,20,21,22,23,24,25,26,27,28,29,30,31] | _=>[]) (fun i_=>match i_ with | 0=>[] | 1=>[] | 2=>[] | 3=>[] | 4=>[] | 5=>[] | 6=>[] | 7=>[] | 8=>[7] | 9=>[7] | 10=>[7,9] | 11=>[7,9] | 12=>[7,9] | 13=>[7,9] | 14=>[7,9] | 15=>[7,9] | 16=>[7,9] | 17=>[7,9] | 18=>[7,9] | 19=>[7,9] | 20=>[7,9] | 21=>[7,9,20] | 22=>[7,9,20] | 23=>[7,9,20] | 24=>[7,9,20,23] | 25=>[7,9,20,23] | 26=>[7,9,20,23,25] | 27=>[7,9,20,23,25] | 28=>[7,9,20,23,25] | 29=>[7,9,20,23,25] | 30=>[7,9,20,23,25] | 31=>[7,9,20,23,25] | 32=>[7,9,20,23,25] | _=>[]) (fun i_=>match i_ with | 0=>[7,9,20,23,25] | 1=>[7,9,20,23,25] | 2=>[7,9,20,23,25] | 3=>[20,23,25] | 4=>[7,9,20,23,25] | 5=>[7,9,20,23,25] | 6=>[7,9,20,23,25] | 7=>[9,20,23,25] | 8=>[9,20,23,25] | 9=>[20,23,25] | 10=>[20,23,25] | 11=>[20,23,25] | 12=>[20,23,25] | 13=>[20,23,25] | 14=>[20,23,25] | 15=>[20,23,25] | 16=>[20,23,25] | 17=>[] | 18=>[20,23,25] | 19=>[20,23,25] | 20=>[23,25] | 21=>[23,25] | 22=>[23,25] | 23=>[25] | 24=>[25] | 25=>[] | 26=>[] | 27=>[] | 28=>[] | 29=>[] | 30=>[] | 31=>[] | 32=>[] | _=>[]) (fun _=>[]) (fun i_=>match i_ with | 0=>[] | 1=>[] | 2=>[] | 3=>[] | 4=>[] | 5=>[] | 6=>[] | 7=>[8,9,10,11,12,13,14,15,16,17,18,19,20,21,22,23,24,25,26,27,28,29,30,31,32] | 8=>[] | 9=>[10,11,12,13,14,15,16,17,18,19,20,21,22,23,24,25,26,27,28,29,30,31,32] | 10=>[] | 11=>[] | 12=>[] | 13=>[] | 14=>[] | 15=>[] | 16=>[] | 17=>[] | 18=>[] | 19=>[] | 20=>[21,22,23,24,25,26,27,28,29,30,31,32] | 21=>[] | 22=>[] | 23=>[24,25,26,27,28,29,30,31,32] | 24=>[] | 25=>[26,27,28,29,30,31,32] | 26=>[] | 27=>[] | 28=>[] | 29=>[] | 30=>[] | 31=>[] | 32=>[] | _=>[]) (fun _=>[]) (fun i_=>match i_ with | 0=>0 | 1=>0 | 2=>0 | 3=>0 | 4=>0 | 5=>0 | 6=>0 | 7=>0 | 8=>1 | 9=>1 | 10=>2 | 11=>2 | 12=>2 | 13=>2 | 14=>2 | 15=>2 | 16=>2 | 17=>2 | 18=>2 | 19=>2 | 20=>2 | 21=>3 | 22=>3 | 23=>3 | 24=>4 | 25=>4 | 26=>5 | 27=>5 | 28=>5 | 29=>5 | 30=>5 | 31=>5 | 32=>5 | _=>0) (fun i_=>match i_ with | 0=>0 | 1=>0 | 2=>0 | 3=>2 | 4=>0 | 5=>0 | 6=>0 | 7=>1 | 8=>1 | 9=>2 | 10=>2 | 11=>2 | 12=>2 | 13=>2 | 14=>2 | 15=>2 | 16=>2 | 17=>5 | 18=>2 | 19=>2 | 20=>3 | 21=>3 | 22=>3 | 23=>4 | 24=>4 | 25=>5 | 26=>5 | 27=>5 | 28=>5 | 29=>5 | 30=>5 | 31=>5 | 32=>5 | _=>0) (fun (g:(Nat) × (Nat) × (Nat) × (Nat) × (Nat)) j_=>match g,j_ with | ⟨b_s14,b_s16,b_s19,b_s22,b_s24⟩,0=>.int .i64 0 | ⟨b_s14,b_s16,b_s19,b_s22,b_s24⟩,1=>.bool true | ⟨b_s14,b_s16,b_s19,b_s22,b_s24⟩,2=>.bool true | ⟨b_s14,b_s16,b_s19,b_s22,b_s24⟩,3=>va1 | ⟨b_s14,b_s16,b_s19,b_s22,b_s24⟩,4=>.agg #[.int .i64 700001,.int .i64 0,.int .u8 0,.int .u8 0,.int .i64 0] | ⟨b_s14,b_s16,b_s19,b_s22,b_s24⟩,5=>.agg #[.int .i64 0,.int .i64 2026,.int .u8 87,.int .u8 65,.int .i64 0] | ⟨b_s14,b_s16,b_s19,b_s22,b_s24⟩,6=>.agg #[.int .i64 0,.int .i64 2026,.int .u8 87,.int .u8 66,.int .i64 0] | ⟨b_s14,b_s16,b_s19,b_s22,b_s24⟩,7=>.slice (some ⟨b_s14,0,none⟩) 3 3 | ⟨b_s14,b_s16,b_s19,b_s22,b_s24⟩,8=>.agg #[.int .i64 700001,.int .i64 0,.int .u8 0,.int .u8 0,.int .i64 0,.slice (some ⟨b_s14,0,none⟩) 3 3] | ⟨b_s14,b_s16,b_s19,b_s22,b_s24⟩,9=>.slice (some ⟨b_s16,0,none⟩) 1 1 | ⟨b_s14,b_s16,b_s19,b_s22,b_s24⟩,10=>.bool true | ⟨b_s14,b_s16,b_s19,b_s22,b_s24⟩,11=>.bool true | ⟨b_s14,b_s16,b_s19,b_s22,b_s24⟩,12=>.bool true | ⟨b_s14,b_s16,b_s19,b_s22,b_s24⟩,13=>.int .i64 0 | ⟨b_s14,b_s16,b_s19,b_s22,b_s24⟩,14=>.bool true | ⟨b_s14,b_s16,b_s19,b_s22,b_s24⟩,15=>.bool true | ⟨b_s14,b_s16,b_s19,b_s22,b_s24⟩,16=>.bool true | ⟨b_s14,b_s16,b_s19,b_s22,b_s24⟩,17=>va2 | ⟨b_s14,b_s16,b_s19,b_s22,b_s24⟩,18=>.agg #[.int .i64 700001,.int .i64 0,.int .u8 0,.int .u8 0,.int .i64 0] | ⟨b_s14,b_s16,b_s19,b_s22,b_s24⟩,19=>.agg #[.int .i64 0,.int .i64 2026,.int .u8 87,.int .u8 66,.int .i64 0] | ⟨b_s14,b_s16,b_s19,b_s22,b_s24⟩,20=>.slice (some ⟨b_s19,0,none⟩) 2 2 | ⟨b_s14,b_s16,b_s19,b_s22,b_s24⟩,21=>.agg #[.int .i64 700001,.int .i64 0,.int .u8 0,.int .u8 0,.int .i64 0,.slice (some ⟨b_s19,0,none⟩) 2 2] | ⟨b_s14,b_s16,b_s19,b_s22,b_s24⟩,22=>.agg #[.int .i64 0,.int .i64 2026,.int .u8 87,.int .u8 65,.int .i64 0] | ⟨b_s14,b_s16,b_s19,b_s22,b_s24⟩,23=>.slice (some ⟨b_s22,0,none⟩) 1 1 | ⟨b_s14,b_s16,b_s19,b_s22,b_s24⟩,24=>.agg #[.int .i64 0,.int .i64 2026,.int .u8 87,.int .u8 65,.int .i64 0,.slice (some ⟨b_s22,0,none⟩) 1 1] | ⟨b_s14,b_s16,b_s19,b_s22,b_s24⟩,25=>.slice (some ⟨b_s24,0,none⟩) 2 2 | ⟨b_s14,b_s16,b_s19,b_s22,b_s24⟩,26=>.bool true | ⟨b_s14,b_s16,b_s19,b_s22,b_s24⟩,27=>.bool true | ⟨b_s14,b_s16,b_s19,b_s22,b_s24⟩,28=>.bool true | ⟨b_s14,b_s16,b_s19,b_s22,b_s24⟩,29=>.int .i64 36 | ⟨b_s14,b_s16,b_s19,b_s22,b_s24⟩,30=>.bool true | ⟨b_s14,b_s16,b_s19,b_s22,b_s24⟩,31=>.bool true | ⟨b_s14,b_s16,b_s19,b_s22,b_s24⟩,32=>.bool true | _,_=>undef) (fun k_ (_:Nat→Bool) (g:(Nat) × (Nat) × (Nat) × (Nat) × (Nat)) w=>match k_,g with | 0,⟨b_s14,b_s16,b_s19,b_s22,b_s24⟩=>St w0 w noX [ordA] MZ138 | 1,⟨b_s14,b_s16,b_s19,b_s22,b_s24⟩=>St w0 w noX [ordA] (pt b_s14 (.cells #[.int .i64 700001,.int .i64 0,.int .u8 0,.int .u8 0,.int .i64 0,.int .i64 0,.int .i64 2026,.int .u8 87,.int .u8 65,.int .i64 0,.int .i64 0,.int .i64 2026,.int .u8 87,.int .u8 66,.int .i64 0] 24 (0,0))::MZ138) | 2,⟨b_s14,b_s16,b_s19,b_s22,b_s24⟩=>St w0 w noX [ordA] (pt b_s16 (.cells #[.int .i64 700001,.int .i64 0,.int .u8 0,.int .u8 0,.int .i64 0,.slice (some ⟨b_s14,0,none⟩) 3 3] 46 (0,0))::pt b_s14 (.cells #[.int .i64 700001,.int .i64 0,.int .u8 0,.int .u8 0,.int .i64 0,.int .i64 0,.int .i64 2026,.int .u8 87,.int .u8 65,.int .i64 0,.int .i64 0,.int .i64 2026,.int .u8 87,.int .u8 66,.int .i64 0] 24 (0,0))::MZ138) | 3,⟨b_s14,b_s16,b_s19,b_s22,b_s24⟩=>St w0 w noX [ordA] (pt b_s19 (.cells #[.int .i64 700001,.int .i64 0,.int .u8 0,.int .u8 0,.int .i64 0,.int .i64 0,.int .i64 2026,.int .u8 87,.int .u8 66,.int .i64 0] 24 (0,0))::pt b_s16 (.cells #[.int .i64 700001,.int .i64 0,.int .u8 0,.int .u8 0,.int .i64 0,.slice (some ⟨b_s14,0,none⟩) 3 3] 46 (0,0))::pt b_s14 (.cells #[.int .i64 700001,.int .i64 0,.int .u8 0,.int .u8 0,.int .i64 0,.int .i64 0,.int .i64 2026,.int .u8 87,.int .u8 65,.int .i64 0,.int .i64 0,.int .i64 2026,.int .u8 87,.int .u8 66,.int .i64 0] 24 (0,0))::MZ138) | 4,⟨b_s14,b_s16,b_s19,b_s22,b_s24⟩=>St w0 w noX [ordA] (pt b_s22 (.cells #[.int .i64 0,.int .i64 2026,.int .u8 87,.int .u8 65,.int .i64 0] 24 (0,0))::pt b_s19 (.cells #[.int .i64 700001,.int .i64 0,.int .u8 0,.int .u8 0,.int .i64 0,.int .i64 0,.int .i64 2026,.int .u8 87,.int .u8 66,.int .i64 0] 24 (0,0))::pt b_s16 (.cells #[.int .i64 700001,.int .i64 0,.int .u8 0,.int .u8 0,.int .i64 0,.slice (some ⟨b_s14,0,none⟩) 3 3] 46 (0,0))::pt b_s14 (.cells #[.int .i64 700001,.int .i64 0,.int .u8 0,.int .u8 0,.int .i64 0,.int .i64 0,.int .i64 2026,.int .u8 87,.int .u8 65,.int .i64 0,.int .i64 0,.int .i64 2026,.int .u8 87,.int .u8 66,.int .i64 0] 24 (0,0))::MZ138) | _,⟨b_s14,b_s16,b_s19,b_s22,b_s24⟩=>St w0 w noX [ordA] (pt b_s24 (.cells #[.int .i64 700001,.int .i64 0,.int .u8 0,.int .u8 0,.int .i64 0,.slice (some ⟨b_s19,0,none⟩) 2 2,.int .i64 0,.int .i64 2026,.int .u8 87,.int .u8 65,.int .i64 0,.slice (some ⟨b_s22,0,none⟩) 1 1] 46 (0,0))::pt b_s22 (.cells #[.int .i64 0,.int .i64 2026,.int .u8 87,.int .u8 65,.int .i64 0] 24 (0,0))::pt b_s19 (.cells #[.int .i64 700001,.int .i64 0,.int .u8 0,.int .u8 0,.int .i64 0,.int .i64 0,.int .i64 2026,.int .u8 87,.int .u8 66,.int .i64 0] 24 (0,0))::pt b_s16 (.cells #[.int .i64 700001,.int .i64 0,.int .u8 0,.int .u8 0,.int .i64 0,.slice (some ⟨b_s14,0,none⟩) 3 3] 46 (0,0))::pt b_s14 (.cells #[.int .i64 700001,.int .i64 0,.int .u8 0,.int .u8 0,.int .i64 0,.int .i64 0,.int .i64 2026,.int .u8 87,.int .u8 65,.int .i64 0,.int .i64 0,.int .i64 2026,.int .u8 87,.int .u8 66,.int .i64 0] 24 (0,0))::MZ138)) P_mixed (by kernel_rfl) (by kernel_rfl) (by kernel_rfl) hf (hf.to trivial) hS.drew ?_ ?_ trivial ?_
  · clear hf hS
    refine ⟨?_,?_,?_,?_,?_,?_,?_,?_,?_,?_,?_,?_,?_,?_,?_,?_,?_,?_,?_,?_,?_,?_,?_,?_,?_,?_,?_,?_,trivial⟩
    · intro k_ s_ g w hlo hhi _ hD a hf
      obtain ⟨b_s14,b_s16,b_s19,b_s22,b_s24⟩:=g
      obtain rfl:k_=0:=Nat.le_antisymm hhi hlo
      have hS:St w0 w noX [ordA] MZ138:=hD; clear hD
      replace hf:Fr a 62 [] LZ138:=hf
      refine O.val hf rfl rfl rfl (RunV.move rfl) ?_
      clear hf a; intro a hf
      exact O.nil ⟨rfl,hf.to trivial,(gt (d:=30) hf rfl rfl),hS⟩
    · intro k_ s_ g w hlo hhi _ hD a hf
      obtain ⟨b_s14,b_s16,b_s19,b_s22,b_s24⟩:=g
      obtain rfl:k_=0:=Nat.le_antisymm hhi hlo
      have hS:St w0 w noX [ordA] MZ138:=hD; clear hD
      replace hf:Fr a 62 [] ((30,.int .i64 0)::LZ138):=hf
      refine O.val hf rfl rfl rfl (RunV.toB (c:=true) (RunV.eql rfl rfl) (by decide)) ?_
      clear hf a; intro a hf
      exact O.nil ⟨rfl,hf.to trivial,(gt (d:=31) hf rfl rfl),hS⟩
    · intro k_ s_ g w hlo hhi _ hD a hf
      obtain ⟨b_s14,b_s16,b_s19,b_s22,b_s24⟩:=g
      obtain rfl:k_=0:=Nat.le_antisymm hhi hlo
      have hS:St w0 w noX [ordA] MZ138:=hD; clear hD
      replace hf:Fr a 62 [] ((31,.bool true)::LZ138):=hf
      refine O.val hf rfl rfl rfl (RunV.move rfl) ?_
      clear hf a; intro a hf
      exact O.nil ⟨rfl,hf.to trivial,(gt (d:=32) hf rfl rfl),hS⟩
    · intro k_ s_ g w hlo hhi _ hD a hf
      obtain ⟨b_s14,b_s16,b_s19,b_s22,b_s24⟩:=g
      rcases k_ with _ | _ | _ | _ | _ | k_
      · have hS:St w0 w noX [ordA] MZ138:=hD; clear hD
        replace hf:Fr a 62 [] ((32,.bool true)::LZ138):=hf
        refine O.gvalB (v:=va1) hf rfl rfl rfl rfl rfl rfl (RunV.move rfl) ?_
        clear hf a; intro a hf
        exact O.nil ⟨rfl,hf.to trivial,(gt (d:=33) hf rfl rfl),hS⟩
      · have hS:St w0 w noX [ordA] (pt b_s14 (.cells #[.int .i64 700001,.int .i64 0,.int .u8 0,.int .u8 0,.int .i64 0,.int .i64 0,.int .i64 2026,.int .u8 87,.int .u8 65,.int .i64 0,.int .i64 0,.int .i64 2026,.int .u8 87,.int .u8 66,.int .i64 0] 24 (0,0))::MZ138):=hD; clear hD
        replace hf:Fr a 62 [] ((32,.bool true)::LZ138):=hf
        refine O.gvalB (v:=va1) hf rfl rfl rfl rfl rfl rfl (RunV.move rfl) ?_
        clear hf a; intro a hf
        exact O.nil ⟨rfl,hf.to trivial,(gt (d:=33) hf rfl rfl),hS⟩
      · have hS:St w0 w noX [ordA] (pt b_s16 (.cells #[.int .i64 700001,.int .i64 0,.int .u8 0,.int .u8 0,.int .i64 0,.slice (some ⟨b_s14,0,none⟩) 3 3] 46 (0,0))::pt b_s14 (.cells #[.int .i64 700001,.int .i64 0,.int .u8 0,.int .u8 0,.int .i64 0,.int .i64 0,.int .i64 2026,.int .u8 87,.int .u8 65,.int .i64 0,.int .i64 0,.int .i64 2026,.int .u8 87,.int .u8 66,.int .i64 0] 24 (0,0))::MZ138):=hD; clear hD
        replace hf:Fr a 62 [] ((32,.bool true)::LZ138):=hf
        refine O.gvalB (v:=va1) hf rfl rfl rfl rfl rfl rfl (RunV.move rfl) ?_
        clear hf a; intro a hf
        exact O.nil ⟨rfl,hf.to trivial,(gt (d:=33) hf rfl rfl),hS⟩
      · exact absurd hhi (by decide)
      · exact absurd hhi (by decide)
      · have hhi:k_+5≤2:=hhi; omega
    · intro k_ s_ g w hlo hhi _ hD a hf
      obtain ⟨b_s14,b_s16,b_s19,b_s22,b_s24⟩:=g
      obtain rfl:k_=0:=Nat.le_antisymm hhi hlo
      have hS:St w0 w noX [ordA] MZ138:=hD; clear hD
      replace hf:Fr a 62 [] ((32,.bool true)::LZ138):=hf
      refine O.gvalB (v:=.agg #[.int .i64 700001,.int .i64 0,.int .u8 0,.int .u8 0,.int .i64 0]) hf rfl rfl rfl rfl rfl rfl (RunV.loadN (cs':=#[.int .i64 700001,.int .i64 0,.int .u8 0,.int .u8 0,.int .i64 0]) T_agg_24 T_size_24 rfl (hS.ptAt (i:=9) rfl) (Nat.le_of_ble_eq_true rfl) rfl) ?_
      clear hf a; intro a hf
      exact O.nil ⟨rfl,hf.to trivial,(gt (d:=34) hf rfl rfl),hS⟩
    · intro k_ s_ g w hlo hhi _ hD a hf
      obtain ⟨b_s14,b_s16,b_s19,b_s22,b_s24⟩:=g
      obtain rfl:k_=0:=Nat.le_antisymm hhi hlo
      have hS:St w0 w noX [ordA] MZ138:=hD; clear hD
      replace hf:Fr a 62 [] ((32,.bool true)::LZ138):=hf
      refine O.gcallR hf rfl rfl rfl rfl rfl rfl (RunE.call (av:=#[.int .u8 65]) C_ok_28 rfl rfl rfl) (named_spec 65 _) ?_
      clear hf a
      rintro _ w26 hS1 a hf
      replace hf:Fr a _ _ ((35,.agg #[.int .i64 0,.int .i64 2026,.int .u8 87,.int .u8 65,.int .i64 0])::_):=hf
      replace hS:=(hS.call hS1).eqM (N:=MZ138) rfl
      clear hS1
      exact O.nil ⟨rfl,hf.to trivial,(gt (d:=35) hf rfl rfl),hS⟩
    · intro k_ s_ g w hlo hhi _ hD a hf
      obtain ⟨b_s14,b_s16,b_s19,b_s22,b_s24⟩:=g
      obtain rfl:k_=0:=Nat.le_antisymm hhi hlo
      have hS:St w0 w noX [ordA] MZ138:=hD; clear hD
      replace hf:Fr a 62 [] ((32,.bool true)::(35,.agg #[.int .i64 0,.int .i64 2026,.int .u8 87,.int .u8 65,.int .i64 0])::LZ138):=hf
      refine O.gcallR hf rfl rfl rfl rfl rfl rfl (RunE.call (av:=#[.int .u8 66]) C_ok_28 rfl rfl rfl) (named_spec 66 _) ?_
      clear hf a
      rintro _ w27 hS1 a hf
      replace hf:Fr a _ _ ((36,.agg #[.int .i64 0,.int .i64 2026,.int .u8 87,.int .u8 66,.int .i64 0])::_):=hf
      replace hS:=(hS.call hS1).eqM (N:=MZ138) rfl
      clear hS1
      exact O.nil ⟨rfl,hf.to trivial,(gt (d:=36) hf rfl rfl),hS⟩
    · intro k_ s_ g w hlo hhi _ hD a hf
      obtain ⟨b_s14,b_s16,b_s19,b_s22,b_s24⟩:=g
      obtain rfl:k_=1:=Nat.le_antisymm hhi hlo
      have hS:St w0 w noX [ordA] (pt b_s14 (.cells #[.int .i64 700001,.int .i64 0,.int .u8 0,.int .u8 0,.int .i64 0,.int .i64 0,.int .i64 2026,.int .u8 87,.int .u8 65,.int .i64 0,.int .i64 0,.int .i64 2026,.int .u8 87,.int .u8 66,.int .i64 0] 24 (0,0))::MZ138):=hD; clear hD
      replace hf:Fr a 62 [] ((32,.bool true)::(36,.agg #[.int .i64 0,.int .i64 2026,.int .u8 87,.int .u8 66,.int .i64 0])::(37,.slice (some ⟨b_s14,0,none⟩) 3 3)::LZ138):=hf
      refine O.gcallR hf rfl rfl rfl rfl rfl rfl (RunE.call (av:=#[.slice (some ⟨b_s14,0,none⟩) 3 3]) C_ok_31 rfl rfl rfl) (one_spec (some ⟨b_s14,0,none⟩) 3 [numD,nameD 65,nameD 66] _ (hS.rdPt (j:=0) (n:=3) (sz:=5) (xs:=encs eD [numD,nameD 65,nameD 66]) rfl (by unfold maxLen; decide) rfl rfl) (by decide)) ?_
      clear hf a
      rintro _ w28 hS1 a hf
      replace hf:Fr a _ _ ((38,.agg #[.int .i64 700001,.int .i64 0,.int .u8 0,.int .u8 0,.int .i64 0,.slice (some ⟨b_s14,0,none⟩) 3 3])::_):=hf
      replace hS:=(hS.call hS1).eqM (N:=(pt b_s14 (.cells #[.int .i64 700001,.int .i64 0,.int .u8 0,.int .u8 0,.int .i64 0,.int .i64 0,.int .i64 2026,.int .u8 87,.int .u8 65,.int .i64 0,.int .i64 0,.int .i64 2026,.int .u8 87,.int .u8 66,.int .i64 0] 24 (0,0))::MZ138)) rfl
      clear hS1
      exact O.nil ⟨rfl,hf.to trivial,(gt (d:=38) hf rfl rfl),hS⟩
    · intro k_ s_ g w hlo hhi _ hD a hf
      obtain ⟨b_s14,b_s16,b_s19,b_s22,b_s24⟩:=g
      obtain rfl:k_=2:=Nat.le_antisymm hhi hlo
      have hS:St w0 w noX [ordA] (pt b_s16 (.cells #[.int .i64 700001,.int .i64 0,.int .u8 0,.int .u8 0,.int .i64 0,.slice (some ⟨b_s14,0,none⟩) 3 3] 46 (0,0))::pt b_s14 (.cells #[.int .i64 700001,.int .i64 0,.int .u8 0,.int .u8 0,.int .i64 0,.int .i64 0,.int .i64 2026,.int .u8 87,.int .u8 65,.int .i64 0,.int .i64 0,.int .i64 2026,.int .u8 87,.int .u8 66,.int .i64 0] 24 (0,0))::MZ138):=hD; clear hD
      replace hf:Fr a 62 [] ((32,.bool true)::(33,va1)::(38,.agg #[.int .i64 700001,.int .i64 0,.int .u8 0,.int .u8 0,.int .i64 0,.slice (some ⟨b_s14,0,none⟩) 3 3])::(39,.slice (some ⟨b_s16,0,none⟩) 1 1)::LZ138):=hf
      refine O.gcallR hf rfl rfl rfl rfl rfl rfl (RunE.call (av:=#[va1,.slice (some ⟨b_s16,0,none⟩) 1 1]) C_ok_17 rfl rfl rfl) (same_true va1 xs1 (.slice (some ⟨b_s16,0,none⟩) 1 1) [⟨numD,some ⟨b_s14,0,none⟩,3,3,[numD,nameD 65,nameD 66]⟩] _ (hS.slr (j:=8) rfl) (hS.rdPt (j:=0) (n:=1) (sz:=6) (xs:=encs eO [⟨numD,some ⟨b_s14,0,none⟩,3,3,[numD,nameD 65,nameD 66]⟩]) rfl (by unfold maxLen; decide) rfl rfl) (hS.obOwn (i:=9) rfl) (obsRd.cons (hS.rdPt (j:=1) (n:=3) (sz:=5) (xs:=encs eD [numD,nameD 65,nameD 66]) rfl (by unfold maxLen; decide) rfl rfl) obsRd.nil) (hxs1.trans objs_given)) ?_
      clear hf a
      rintro _ w29 hS1 a hf
      replace hf:Fr a _ _ ((40,.bool true)::_):=hf
      replace hS:=(hS.call hS1).eqM (N:=(pt b_s16 (.cells #[.int .i64 700001,.int .i64 0,.int .u8 0,.int .u8 0,.int .i64 0,.slice (some ⟨b_s14,0,none⟩) 3 3] 46 (0,0))::pt b_s14 (.cells #[.int .i64 700001,.int .i64 0,.int .u8 0,.int .u8 0,.int .i64 0,.int .i64 0,.int .i64 2026,.int .u8 87,.int .u8 65,.int .i64 0,.int .i64 0,.int .i64 2026,.int .u8 87,.int .u8 66,.int .i64 0] 24 (0,0))::MZ138)) rfl
      clear hS1
      exact O.nil ⟨rfl,hf.to trivial,(gt (d:=40) hf rfl rfl),hS⟩
    · intro k_ s_ g w hlo hhi _ hD a hf
      obtain ⟨b_s14,b_s16,b_s19,b_s22,b_s24⟩:=g
      obtain rfl:k_=2:=Nat.le_antisymm hhi hlo
      have hS:St w0 w noX [ordA] (pt b_s16 (.cells #[.int .i64 700001,.int .i64 0,.int .u8 0,.int .u8 0,.int .i64 0,.slice (some ⟨b_s14,0,none⟩) 3 3] 46 (0,0))::pt b_s14 (.cells #[.int .i64 700001,.int .i64 0,.int .u8 0,.int .u8 0,.int .i64 0,.int .i64 0,.int .i64 2026,.int .u8 87,.int .u8 65,.int .i64 0,.int .i64 0,.int .i64 2026,.int .u8 87,.int .u8 66,.int .i64 0] 24 (0,0))::MZ138):=hD; clear hD
      replace hf:Fr a 62 [] ((32,.bool true)::(40,.bool true)::LZ138):=hf
      refine O.val (v:=.bool true) hf rfl rfl rfl (RunV.pick rfl rfl rfl rfl) ?_
      clear hf a; intro a hf
      exact O.nil ⟨rfl,hf.to trivial,(gt (d:=41) hf rfl rfl),hS⟩
    · intro k_ s_ g w hlo hhi _ hD a hf
      obtain ⟨b_s14,b_s16,b_s19,b_s22,b_s24⟩:=g
      obtain rfl:k_=2:=Nat.le_antisymm hhi hlo
      have hS:St w0 w noX [ordA] (pt b_s16 (.cells #[.int .i64 700001,.int .i64 0,.int .u8 0,.int .u8 0,.int .i64 0,.slice (some ⟨b_s14,0,none⟩) 3 3] 46 (0,0))::pt b_s14 (.cells #[.int .i64 700001,.int .i64 0,.int .u8 0,.int .u8 0,.int .i64 0,.int .i64 0,.int .i64 2026,.int .u8 87,.int .u8 65,.int .i64 0,.int .i64 0,.int .i64 2026,.int .u8 87,.int .u8 66,.int .i64 0] 24 (0,0))::MZ138):=hD; clear hD
      replace hf:Fr a 62 [] ((40,.bool true)::(41,.bool true)::LZ138):=hf
      refine O.val hf rfl rfl rfl (RunV.move rfl) ?_
      clear hf a; intro a hf
      exact O.nil ⟨rfl,hf.to trivial,(gt (d:=42) hf rfl rfl),hS⟩
    · intro k_ s_ g w hlo hhi _ hD a hf
      obtain ⟨b_s14,b_s16,b_s19,b_s22,b_s24⟩:=g
      obtain rfl:k_=2:=Nat.le_antisymm hhi hlo
      have hS:St w0 w noX [ordA] (pt b_s16 (.cells #[.int .i64 700001,.int .i64 0,.int .u8 0,.int .u8 0,.int .i64 0,.slice (some ⟨b_s14,0,none⟩) 3 3] 46 (0,0))::pt b_s14 (.cells #[.int .i64 700001,.int .i64 0,.int .u8 0,.int .u8 0,.int .i64 0,.int .i64 0,.int .i64 2026,.int .u8 87,.int .u8 65,.int .i64 0,.int .i64 0,.int .i64 2026,.int .u8 87,.int .u8 66,.int .i64 0] 24 (0,0))::MZ138):=hD; clear hD
      replace hf:Fr a 62 [] ((42,.bool true)::LZ138):=hf
      refine O.gvalB (v:=.int .i64 0) hf rfl rfl rfl rfl rfl rfl (RunV.move rfl) ?_
      clear hf a; intro a hf
      exact O.nil ⟨rfl,hf.to trivial,(gt (d:=43) hf rfl rfl),hS⟩
    · intro k_ s_ g w hlo hhi _ hD a hf
      obtain ⟨b_s14,b_s16,b_s19,b_s22,b_s24⟩:=g
      obtain rfl:k_=2:=Nat.le_antisymm hhi hlo
      have hS:St w0 w noX [ordA] (pt b_s16 (.cells #[.int .i64 700001,.int .i64 0,.int .u8 0,.int .u8 0,.int .i64 0,.slice (some ⟨b_s14,0,none⟩) 3 3] 46 (0,0))::pt b_s14 (.cells #[.int .i64 700001,.int .i64 0,.int .u8 0,.int .u8 0,.int .i64 0,.int .i64 0,.int .i64 2026,.int .u8 87,.int .u8 65,.int .i64 0,.int .i64 0,.int .i64 2026,.int .u8 87,.int .u8 66,.int .i64 0] 24 (0,0))::MZ138):=hD; clear hD
      replace hf:Fr a 62 [] ((42,.bool true)::(43,.int .i64 0)::LZ138):=hf
      refine O.gvalB (v:=.bool true) hf rfl rfl rfl rfl rfl rfl (RunV.toB (c:=true) (RunV.eql rfl rfl) (by decide)) ?_
      clear hf a; intro a hf
      exact O.nil ⟨rfl,hf.to trivial,(gt (d:=44) hf rfl rfl),hS⟩
    · intro k_ s_ g w hlo hhi _ hD a hf
      obtain ⟨b_s14,b_s16,b_s19,b_s22,b_s24⟩:=g
      obtain rfl:k_=2:=Nat.le_antisymm hhi hlo
      have hS:St w0 w noX [ordA] (pt b_s16 (.cells #[.int .i64 700001,.int .i64 0,.int .u8 0,.int .u8 0,.int .i64 0,.slice (some ⟨b_s14,0,none⟩) 3 3] 46 (0,0))::pt b_s14 (.cells #[.int .i64 700001,.int .i64 0,.int .u8 0,.int .u8 0,.int .i64 0,.int .i64 0,.int .i64 2026,.int .u8 87,.int .u8 65,.int .i64 0,.int .i64 0,.int .i64 2026,.int .u8 87,.int .u8 66,.int .i64 0] 24 (0,0))::MZ138):=hD; clear hD
      replace hf:Fr a 62 [] ((42,.bool true)::(44,.bool true)::LZ138):=hf
      refine O.val (v:=.bool true) hf rfl rfl rfl (RunV.pick rfl rfl rfl rfl) ?_
      clear hf a; intro a hf
      exact O.nil ⟨rfl,hf.to trivial,(gt (d:=45) hf rfl rfl),hS⟩
    · intro k_ s_ g w hlo hhi _ hD a hf
      obtain ⟨b_s14,b_s16,b_s19,b_s22,b_s24⟩:=g
      obtain rfl:k_=2:=Nat.le_antisymm hhi hlo
      have hS:St w0 w noX [ordA] (pt b_s16 (.cells #[.int .i64 700001,.int .i64 0,.int .u8 0,.int .u8 0,.int .i64 0,.slice (some ⟨b_s14,0,none⟩) 3 3] 46 (0,0))::pt b_s14 (.cells #[.int .i64 700001,.int .i64 0,.int .u8 0,.int .u8 0,.int .i64 0,.int .i64 0,.int .i64 2026,.int .u8 87,.int .u8 65,.int .i64 0,.int .i64 0,.int .i64 2026,.int .u8 87,.int .u8 66,.int .i64 0] 24 (0,0))::MZ138):=hD; clear hD
      replace hf:Fr a 62 [] ((42,.bool true)::(45,.bool true)::LZ138):=hf
      refine O.val hf rfl rfl rfl (RunV.move rfl) ?_
      clear hf a; intro a hf
      exact O.nil ⟨rfl,hf.to trivial,(gt (d:=46) hf rfl rfl),hS⟩
    · intro k_ s_ g w hlo hhi _ hD a hf
      obtain ⟨b_s14,b_s16,b_s19,b_s22,b_s24⟩:=g
      rcases k_ with _ | _ | _ | _ | _ | k_
      · exact absurd hlo (by decide)
      · exact absurd hlo (by decide)
      · have hS:St w0 w noX [ordA] (pt b_s16 (.cells #[.int .i64 700001,.int .i64 0,.int .u8 0,.int .u8 0,.int .i64 0,.slice (some ⟨b_s14,0,none⟩) 3 3] 46 (0,0))::pt b_s14 (.cells #[.int .i64 700001,.int .i64 0,.int .u8 0,.int .u8 0,.int .i64 0,.int .i64 0,.int .i64 2026,.int .u8 87,.int .u8 65,.int .i64 0,.int .i64 0,.int .i64 2026,.int .u8 87,.int .u8 66,.int .i64 0] 24 (0,0))::MZ138):=hD; clear hD
        replace hf:Fr a 62 [] ((46,.bool true)::LZ138):=hf
        refine O.gvalB (v:=va2) hf rfl rfl rfl rfl rfl rfl (RunV.move rfl) ?_
        clear hf a; intro a hf
        exact O.nil ⟨rfl,hf.to trivial,(gt (d:=47) hf rfl rfl),hS⟩
      · have hS:St w0 w noX [ordA] (pt b_s19 (.cells #[.int .i64 700001,.int .i64 0,.int .u8 0,.int .u8 0,.int .i64 0,.int .i64 0,.int .i64 2026,.int .u8 87,.int .u8 66,.int .i64 0] 24 (0,0))::pt b_s16 (.cells #[.int .i64 700001,.int .i64 0,.int .u8 0,.int .u8 0,.int .i64 0,.slice (some ⟨b_s14,0,none⟩) 3 3] 46 (0,0))::pt b_s14 (.cells #[.int .i64 700001,.int .i64 0,.int .u8 0,.int .u8 0,.int .i64 0,.int .i64 0,.int .i64 2026,.int .u8 87,.int .u8 65,.int .i64 0,.int .i64 0,.int .i64 2026,.int .u8 87,.int .u8 66,.int .i64 0] 24 (0,0))::MZ138):=hD; clear hD
        replace hf:Fr a 62 [] ((46,.bool true)::LZ138):=hf
        refine O.gvalB (v:=va2) hf rfl rfl rfl rfl rfl rfl (RunV.move rfl) ?_
        clear hf a; intro a hf
        exact O.nil ⟨rfl,hf.to trivial,(gt (d:=47) hf rfl rfl),hS⟩
      · have hS:St w0 w noX [ordA] (pt b_s22 (.cells #[.int .i64 0,.int .i64 2026,.int .u8 87,.int .u8 65,.int .i64 0] 24 (0,0))::pt b_s19 (.cells #[.int .i64 700001,.int .i64 0,.int .u8 0,.int .u8 0,.int .i64 0,.int .i64 0,.int .i64 2026,.int .u8 87,.int .u8 66,.int .i64 0] 24 (0,0))::pt b_s16 (.cells #[.int .i64 700001,.int .i64 0,.int .u8 0,.int .u8 0,.int .i64 0,.slice (some ⟨b_s14,0,none⟩) 3 3] 46 (0,0))::pt b_s14 (.cells #[.int .i64 700001,.int .i64 0,.int .u8 0,.int .u8 0,.int .i64 0,.int .i64 0,.int .i64 2026,.int .u8 87,.int .u8 65,.int .i64 0,.int .i64 0,.int .i64 2026,.int .u8 87,.int .u8 66,.int .i64 0] 24 (0,0))::MZ138):=hD; clear hD
        replace hf:Fr a 62 [] ((46,.bool true)::LZ138):=hf
        refine O.gvalB (v:=va2) hf rfl rfl rfl rfl rfl rfl (RunV.move rfl) ?_
        clear hf a; intro a hf
        exact O.nil ⟨rfl,hf.to trivial,(gt (d:=47) hf rfl rfl),hS⟩
      · have hS:St w0 w noX [ordA] (pt b_s24 (.cells #[.int .i64 700001,.int .i64 0,.int .u8 0,.int .u8 0,.int .i64 0,.slice (some ⟨b_s19,0,none⟩) 2 2,.int .i64 0,.int .i64 2026,.int .u8 87,.int .u8 65,.int .i64 0,.slice (some ⟨b_s22,0,none⟩) 1 1] 46 (0,0))::pt b_s22 (.cells #[.int .i64 0,.int .i64 2026,.int .u8 87,.int .u8 65,.int .i64 0] 24 (0,0))::pt b_s19 (.cells #[.int .i64 700001,.int .i64 0,.int .u8 0,.int .u8 0,.int .i64 0,.int .i64 0,.int .i64 2026,.int .u8 87,.int .u8 66,.int .i64 0] 24 (0,0))::pt b_s16 (.cells #[.int .i64 700001,.int .i64 0,.int .u8 0,.int .u8 0,.int .i64 0,.slice (some ⟨b_s14,0,none⟩) 3 3] 46 (0,0))::pt b_s14 (.cells #[.int .i64 700001,.int .i64 0,.int .u8 0,.int .u8 0,.int .i64 0,.int .i64 0,.int .i64 2026,.int .u8 87,.int .u8 65,.int .i64 0,.int .i64 0,.int .i64 2026,.int .u8 87,.int .u8 66,.int .i64 0] 24 (0,0))::MZ138):=hD; clear hD
        replace hf:Fr a 62 [] ((46,.bool true)::LZ138):=hf
        refine O.gvalB (v:=va2) hf rfl rfl rfl rfl rfl rfl (RunV.move rfl) ?_
        clear hf a; intro a hf
        exact O.nil ⟨rfl,hf.to trivial,(gt (d:=47) hf rfl rfl),hS⟩
    · intro k_ s_ g w hlo hhi _ hD a hf
      obtain ⟨b_s14,b_s16,b_s19,b_s22,b_s24⟩:=g
      obtain rfl:k_=2:=Nat.le_antisymm hhi hlo
      have hS:St w0 w noX [ordA] (pt b_s16 (.cells #[.int .i64 700001,.int .i64 0,.int .u8 0,.int .u8 0,.int .i64 0,.slice (some ⟨b_s14,0,none⟩) 3 3] 46 (0,0))::pt b_s14 (.cells #[.int .i64 700001,.int .i64 0,.int .u8 0,.int .u8 0,.int .i64 0,.int .i64 0,.int .i64 2026,.int .u8 87,.int .u8 65,.int .i64 0,.int .i64 0,.int .i64 2026,.int .u8 87,.int .u8 66,.int .i64 0] 24 (0,0))::MZ138):=hD; clear hD
      replace hf:Fr a 62 [] ((46,.bool true)::LZ138):=hf
      refine O.gvalB (v:=.agg #[.int .i64 700001,.int .i64 0,.int .u8 0,.int .u8 0,.int .i64 0]) hf rfl rfl rfl rfl rfl rfl (RunV.loadN (cs':=#[.int .i64 700001,.int .i64 0,.int .u8 0,.int .u8 0,.int .i64 0]) T_agg_24 T_size_24 rfl (hS.ptAt (i:=11) rfl) (Nat.le_of_ble_eq_true rfl) rfl) ?_
      clear hf a; intro a hf
      exact O.nil ⟨rfl,hf.to trivial,(gt (d:=48) hf rfl rfl),hS⟩
    · intro k_ s_ g w hlo hhi _ hD a hf
      obtain ⟨b_s14,b_s16,b_s19,b_s22,b_s24⟩:=g
      obtain rfl:k_=2:=Nat.le_antisymm hhi hlo
      have hS:St w0 w noX [ordA] (pt b_s16 (.cells #[.int .i64 700001,.int .i64 0,.int .u8 0,.int .u8 0,.int .i64 0,.slice (some ⟨b_s14,0,none⟩) 3 3] 46 (0,0))::pt b_s14 (.cells #[.int .i64 700001,.int .i64 0,.int .u8 0,.int .u8 0,.int .i64 0,.int .i64 0,.int .i64 2026,.int .u8 87,.int .u8 65,.int .i64 0,.int .i64 0,.int .i64 2026,.int .u8 87,.int .u8 66,.int .i64 0] 24 (0,0))::MZ138):=hD; clear hD
      replace hf:Fr a 62 [] ((46,.bool true)::LZ138):=hf
      refine O.gcallR hf rfl rfl rfl rfl rfl rfl (RunE.call (av:=#[.int .u8 66]) C_ok_28 rfl rfl rfl) (named_spec 66 _) ?_
      clear hf a
      rintro _ w30 hS1 a hf
      replace hf:Fr a _ _ ((49,.agg #[.int .i64 0,.int .i64 2026,.int .u8 87,.int .u8 66,.int .i64 0])::_):=hf
      replace hS:=(hS.call hS1).eqM (N:=(pt b_s16 (.cells #[.int .i64 700001,.int .i64 0,.int .u8 0,.int .u8 0,.int .i64 0,.slice (some ⟨b_s14,0,none⟩) 3 3] 46 (0,0))::pt b_s14 (.cells #[.int .i64 700001,.int .i64 0,.int .u8 0,.int .u8 0,.int .i64 0,.int .i64 0,.int .i64 2026,.int .u8 87,.int .u8 65,.int .i64 0,.int .i64 0,.int .i64 2026,.int .u8 87,.int .u8 66,.int .i64 0] 24 (0,0))::MZ138)) rfl
      clear hS1
      exact O.nil ⟨rfl,hf.to trivial,(gt (d:=49) hf rfl rfl),hS⟩
    · intro k_ s_ g w hlo hhi _ hD a hf
      obtain ⟨b_s14,b_s16,b_s19,b_s22,b_s24⟩:=g
      obtain rfl:k_=3:=Nat.le_antisymm hhi hlo
      have hS:St w0 w noX [ordA] (pt b_s19 (.cells #[.int .i64 700001,.int .i64 0,.int .u8 0,.int .u8 0,.int .i64 0,.int .i64 0,.int .i64 2026,.int .u8 87,.int .u8 66,.int .i64 0] 24 (0,0))::pt b_s16 (.cells #[.int .i64 700001,.int .i64 0,.int .u8 0,.int .u8 0,.int .i64 0,.slice (some ⟨b_s14,0,none⟩) 3 3] 46 (0,0))::pt b_s14 (.cells #[.int .i64 700001,.int .i64 0,.int .u8 0,.int .u8 0,.int .i64 0,.int .i64 0,.int .i64 2026,.int .u8 87,.int .u8 65,.int .i64 0,.int .i64 0,.int .i64 2026,.int .u8 87,.int .u8 66,.int .i64 0] 24 (0,0))::MZ138):=hD; clear hD
      replace hf:Fr a 62 [] ((46,.bool true)::(49,.agg #[.int .i64 0,.int .i64 2026,.int .u8 87,.int .u8 66,.int .i64 0])::(50,.slice (some ⟨b_s19,0,none⟩) 2 2)::LZ138):=hf
      refine O.gcallR hf rfl rfl rfl rfl rfl rfl (RunE.call (av:=#[.slice (some ⟨b_s19,0,none⟩) 2 2]) C_ok_31 rfl rfl rfl) (one_spec (some ⟨b_s19,0,none⟩) 2 [numD,nameD 66] _ (hS.rdPt (j:=0) (n:=2) (sz:=5) (xs:=encs eD [numD,nameD 66]) rfl (by unfold maxLen; decide) rfl rfl) (by decide)) ?_
      clear hf a
      rintro _ w31 hS1 a hf
      replace hf:Fr a _ _ ((51,.agg #[.int .i64 700001,.int .i64 0,.int .u8 0,.int .u8 0,.int .i64 0,.slice (some ⟨b_s19,0,none⟩) 2 2])::_):=hf
      replace hS:=(hS.call hS1).eqM (N:=(pt b_s19 (.cells #[.int .i64 700001,.int .i64 0,.int .u8 0,.int .u8 0,.int .i64 0,.int .i64 0,.int .i64 2026,.int .u8 87,.int .u8 66,.int .i64 0] 24 (0,0))::pt b_s16 (.cells #[.int .i64 700001,.int .i64 0,.int .u8 0,.int .u8 0,.int .i64 0,.slice (some ⟨b_s14,0,none⟩) 3 3] 46 (0,0))::pt b_s14 (.cells #[.int .i64 700001,.int .i64 0,.int .u8 0,.int .u8 0,.int .i64 0,.int .i64 0,.int .i64 2026,.int .u8 87,.int .u8 65,.int .i64 0,.int .i64 0,.int .i64 2026,.int .u8 87,.int .u8 66,.int .i64 0] 24 (0,0))::MZ138)) rfl
      clear hS1
      exact O.nil ⟨rfl,hf.to trivial,(gt (d:=51) hf rfl rfl),hS⟩
    · intro k_ s_ g w hlo hhi _ hD a hf
      obtain ⟨b_s14,b_s16,b_s19,b_s22,b_s24⟩:=g
      obtain rfl:k_=3:=Nat.le_antisymm hhi hlo
      have hS:St w0 w noX [ordA] (pt b_s19 (.cells #[.int .i64 700001,.int .i64 0,.int .u8 0,.int .u8 0,.int .i64 0,.int .i64 0,.int .i64 2026,.int .u8 87,.int .u8 66,.int .i64 0] 24 (0,0))::pt b_s16 (.cells #[.int .i64 700001,.int .i64 0,.int .u8 0,.int .u8 0,.int .i64 0,.slice (some ⟨b_s14,0,none⟩) 3 3] 46 (0,0))::pt b_s14 (.cells #[.int .i64 700001,.int .i64 0,.int .u8 0,.int .u8 0,.int .i64 0,.int .i64 0,.int .i64 2026,.int .u8 87,.int .u8 65,.int .i64 0,.int .i64 0,.int .i64 2026,.int .u8 87,.int .u8 66,.int .i64 0] 24 (0,0))::MZ138):=hD; clear hD
      replace hf:Fr a 62 [] ((46,.bool true)::(51,.agg #[.int .i64 700001,.int .i64 0,.int .u8 0,.int .u8 0,.int .i64 0,.slice (some ⟨b_s19,0,none⟩) 2 2])::LZ138):=hf
      refine O.gcallR hf rfl rfl rfl rfl rfl rfl (RunE.call (av:=#[.int .u8 65]) C_ok_28 rfl rfl rfl) (named_spec 65 _) ?_
      clear hf a
      rintro _ w32 hS1 a hf
      replace hf:Fr a _ _ ((52,.agg #[.int .i64 0,.int .i64 2026,.int .u8 87,.int .u8 65,.int .i64 0])::_):=hf
      replace hS:=(hS.call hS1).eqM (N:=(pt b_s19 (.cells #[.int .i64 700001,.int .i64 0,.int .u8 0,.int .u8 0,.int .i64 0,.int .i64 0,.int .i64 2026,.int .u8 87,.int .u8 66,.int .i64 0] 24 (0,0))::pt b_s16 (.cells #[.int .i64 700001,.int .i64 0,.int .u8 0,.int .u8 0,.int .i64 0,.slice (some ⟨b_s14,0,none⟩) 3 3] 46 (0,0))::pt b_s14 (.cells #[.int .i64 700001,.int .i64 0,.int .u8 0,.int .u8 0,.int .i64 0,.int .i64 0,.int .i64 2026,.int .u8 87,.int .u8 65,.int .i64 0,.int .i64 0,.int .i64 2026,.int .u8 87,.int .u8 66,.int .i64 0] 24 (0,0))::MZ138)) rfl
      clear hS1
      exact O.nil ⟨rfl,hf.to trivial,(gt (d:=52) hf rfl rfl),hS⟩
    · intro k_ s_ g w hlo hhi _ hD a hf
      obtain ⟨b_s14,b_s16,b_s19,b_s22,b_s24⟩:=g
      obtain rfl:k_=4:=Nat.le_antisymm hhi hlo
      have hS:St w0 w noX [ordA] (pt b_s22 (.cells #[.int .i64 0,.int .i64 2026,.int .u8 87,.int .u8 65,.int .i64 0] 24 (0,0))::pt b_s19 (.cells #[.int .i64 700001,.int .i64 0,.int .u8 0,.int .u8 0,.int .i64 0,.int .i64 0,.int .i64 2026,.int .u8 87,.int .u8 66,.int .i64 0] 24 (0,0))::pt b_s16 (.cells #[.int .i64 700001,.int .i64 0,.int .u8 0,.int .u8 0,.int .i64 0,.slice (some ⟨b_s14,0,none⟩) 3 3] 46 (0,0))::pt b_s14 (.cells #[.int .i64 700001,.int .i64 0,.int .u8 0,.int .u8 0,.int .i64 0,.int .i64 0,.int .i64 2026,.int .u8 87,.int .u8 65,.int .i64 0,.int .i64 0,.int .i64 2026,.int .u8 87,.int .u8 66,.int .i64 0] 24 (0,0))::MZ138):=hD; clear hD
      replace hf:Fr a 62 [] ((46,.bool true)::(52,.agg #[.int .i64 0,.int .i64 2026,.int .u8 87,.int .u8 65,.int .i64 0])::(53,.slice (some ⟨b_s22,0,none⟩) 1 1)::LZ138):=hf
      refine O.gcallR hf rfl rfl rfl rfl rfl rfl (RunE.call (av:=#[.slice (some ⟨b_s22,0,none⟩) 1 1]) C_ok_31 rfl rfl rfl) (one_spec (some ⟨b_s22,0,none⟩) 1 [nameD 65] _ (hS.rdPt (j:=0) (n:=1) (sz:=5) (xs:=encs eD [nameD 65]) rfl (by unfold maxLen; decide) rfl rfl) (by decide)) ?_
      clear hf a
      rintro _ w33 hS1 a hf
      replace hf:Fr a _ _ ((54,.agg #[.int .i64 0,.int .i64 2026,.int .u8 87,.int .u8 65,.int .i64 0,.slice (some ⟨b_s22,0,none⟩) 1 1])::_):=hf
      replace hS:=(hS.call hS1).eqM (N:=(pt b_s22 (.cells #[.int .i64 0,.int .i64 2026,.int .u8 87,.int .u8 65,.int .i64 0] 24 (0,0))::pt b_s19 (.cells #[.int .i64 700001,.int .i64 0,.int .u8 0,.int .u8 0,.int .i64 0,.int .i64 0,.int .i64 2026,.int .u8 87,.int .u8 66,.int .i64 0] 24 (0,0))::pt b_s16 (.cells #[.int .i64 700001,.int .i64 0,.int .u8 0,.int .u8 0,.int .i64 0,.slice (some ⟨b_s14,0,none⟩) 3 3] 46 (0,0))::pt b_s14 (.cells #[.int .i64 700001,.int .i64 0,.int .u8 0,.int .u8 0,.int .i64 0,.int .i64 0,.int .i64 2026,.int .u8 87,.int .u8 65,.int .i64 0,.int .i64 0,.int .i64 2026,.int .u8 87,.int .u8 66,.int .i64 0] 24 (0,0))::MZ138)) rfl
      clear hS1
      exact O.nil ⟨rfl,hf.to trivial,(gt (d:=54) hf rfl rfl),hS⟩
    · intro k_ s_ g w hlo hhi _ hD a hf
      obtain ⟨b_s14,b_s16,b_s19,b_s22,b_s24⟩:=g
      obtain rfl:k_=5:=Nat.le_antisymm hhi hlo
      have hS:St w0 w noX [ordA] (pt b_s24 (.cells #[.int .i64 700001,.int .i64 0,.int .u8 0,.int .u8 0,.int .i64 0,.slice (some ⟨b_s19,0,none⟩) 2 2,.int .i64 0,.int .i64 2026,.int .u8 87,.int .u8 65,.int .i64 0,.slice (some ⟨b_s22,0,none⟩) 1 1] 46 (0,0))::pt b_s22 (.cells #[.int .i64 0,.int .i64 2026,.int .u8 87,.int .u8 65,.int .i64 0] 24 (0,0))::pt b_s19 (.cells #[.int .i64 700001,.int .i64 0,.int .u8 0,.int .u8 0,.int .i64 0,.int .i64 0,.int .i64 2026,.int .u8 87,.int .u8 66,.int .i64 0] 24 (0,0))::pt b_s16 (.cells #[.int .i64 700001,.int .i64 0,.int .u8 0,.int .u8 0,.int .i64 0,.slice (some ⟨b_s14,0,none⟩) 3 3] 46 (0,0))::pt b_s14 (.cells #[.int .i64 700001,.int .i64 0,.int .u8 0,.int .u8 0,.int .i64 0,.int .i64 0,.int .i64 2026,.int .u8 87,.int .u8 65,.int .i64 0,.int .i64 0,.int .i64 2026,.int .u8 87,.int .u8 66,.int .i64 0] 24 (0,0))::MZ138):=hD; clear hD
      replace hf:Fr a 62 [] ((46,.bool true)::(47,va2)::(54,.agg #[.int .i64 0,.int .i64 2026,.int .u8 87,.int .u8 65,.int .i64 0,.slice (some ⟨b_s22,0,none⟩) 1 1])::(55,.slice (some ⟨b_s24,0,none⟩) 2 2)::LZ138):=hf
      refine O.gcallR hf rfl rfl rfl rfl rfl rfl (RunE.call (av:=#[va2,.slice (some ⟨b_s24,0,none⟩) 2 2]) C_ok_17 rfl rfl rfl) (same_true va2 xs2 (.slice (some ⟨b_s24,0,none⟩) 2 2) [⟨numD,some ⟨b_s19,0,none⟩,2,2,[numD,nameD 66]⟩,⟨nameD 65,some ⟨b_s22,0,none⟩,1,1,[nameD 65]⟩] _ (hS.slr (j:=7) rfl) (hS.rdPt (j:=0) (n:=2) (sz:=6) (xs:=encs eO [⟨numD,some ⟨b_s19,0,none⟩,2,2,[numD,nameD 66]⟩,⟨nameD 65,some ⟨b_s22,0,none⟩,1,1,[nameD 65]⟩]) rfl (by unfold maxLen; decide) rfl rfl) (hS.obOwn (i:=8) rfl) (obsRd.cons (hS.rdPt (j:=2) (n:=2) (sz:=5) (xs:=encs eD [numD,nameD 66]) rfl (by unfold maxLen; decide) rfl rfl) (obsRd.cons (hS.rdPt (j:=1) (n:=1) (sz:=5) (xs:=encs eD [nameD 65]) rfl (by unfold maxLen; decide) rfl rfl) obsRd.nil)) (hxs2.trans objs_given2)) ?_
      clear hf a
      rintro _ w34 hS1 a hf
      replace hf:Fr a _ _ ((56,.bool true)::_):=hf
      replace hS:=(hS.call hS1).eqM (N:=(pt b_s24 (.cells #[.int .i64 700001,.int .i64 0,.int .u8 0,.int .u8 0,.int .i64 0,.slice (some ⟨b_s19,0,none⟩) 2 2,.int .i64 0,.int .i64 2026,.int .u8 87,.int .u8 65,.int .i64 0,.slice (some ⟨b_s22,0,none⟩) 1 1] 46 (0,0))::pt b_s22 (.cells #[.int .i64 0,.int .i64 2026,.int .u8 87,.int .u8 65,.int .i64 0] 24 (0,0))::pt b_s19 (.cells #[.int .i64 700001,.int .i64 0,.int .u8 0,.int .u8 0,.int .i64 0,.int .i64 0,.int .i64 2026,.int .u8 87,.int .u8 66,.int .i64 0] 24 (0,0))::pt b_s16 (.cells #[.int .i64 700001,.int .i64 0,.int .u8 0,.int .u8 0,.int .i64 0,.slice (some ⟨b_s14,0,none⟩) 3 3] 46 (0,0))::pt b_s14 (.cells #[.int .i64 700001,.int .i64 0,.int .u8 0,.int .u8 0,.int .i64 0,.int .i64 0,.int .i64 2026,.int .u8 87,.int .u8 65,.int .i64 0,.int .i64 0,.int .i64 2026,.int .u8 87,.int .u8 66,.int .i64 0] 24 (0,0))::MZ138)) rfl
      clear hS1
      exact O.nil ⟨rfl,hf.to trivial,(gt (d:=56) hf rfl rfl),hS⟩
    · intro k_ s_ g w hlo hhi _ hD a hf
      obtain ⟨b_s14,b_s16,b_s19,b_s22,b_s24⟩:=g
      obtain rfl:k_=5:=Nat.le_antisymm hhi hlo
      have hS:St w0 w noX [ordA] (pt b_s24 (.cells #[.int .i64 700001,.int .i64 0,.int .u8 0,.int .u8 0,.int .i64 0,.slice (some ⟨b_s19,0,none⟩) 2 2,.int .i64 0,.int .i64 2026,.int .u8 87,.int .u8 65,.int .i64 0,.slice (some ⟨b_s22,0,none⟩) 1 1] 46 (0,0))::pt b_s22 (.cells #[.int .i64 0,.int .i64 2026,.int .u8 87,.int .u8 65,.int .i64 0] 24 (0,0))::pt b_s19 (.cells #[.int .i64 700001,.int .i64 0,.int .u8 0,.int .u8 0,.int .i64 0,.int .i64 0,.int .i64 2026,.int .u8 87,.int .u8 66,.int .i64 0] 24 (0,0))::pt b_s16 (.cells #[.int .i64 700001,.int .i64 0,.int .u8 0,.int .u8 0,.int .i64 0,.slice (some ⟨b_s14,0,none⟩) 3 3] 46 (0,0))::pt b_s14 (.cells #[.int .i64 700001,.int .i64 0,.int .u8 0,.int .u8 0,.int .i64 0,.int .i64 0,.int .i64 2026,.int .u8 87,.int .u8 65,.int .i64 0,.int .i64 0,.int .i64 2026,.int .u8 87,.int .u8 66,.int .i64 0] 24 (0,0))::MZ138):=hD; clear hD
      replace hf:Fr a 62 [] ((46,.bool true)::(56,.bool true)::LZ138):=hf
      refine O.val (v:=.bool true) hf rfl rfl rfl (RunV.pick rfl rfl rfl rfl) ?_
      clear hf a; intro a hf
      exact O.nil ⟨rfl,hf.to trivial,(gt (d:=57) hf rfl rfl),hS⟩
    · intro k_ s_ g w hlo hhi _ hD a hf
      obtain ⟨b_s14,b_s16,b_s19,b_s22,b_s24⟩:=g
      obtain rfl:k_=5:=Nat.le_antisymm hhi hlo
      have hS:St w0 w noX [ordA] (pt b_s24 (.cells #[.int .i64 700001,.int .i64 0,.int .u8 0,.int .u8 0,.int .i64 0,.slice (some ⟨b_s19,0,none⟩) 2 2,.int .i64 0,.int .i64 2026,.int .u8 87,.int .u8 65,.int .i64 0,.slice (some ⟨b_s22,0,none⟩) 1 1] 46 (0,0))::pt b_s22 (.cells #[.int .i64 0,.int .i64 2026,.int .u8 87,.int .u8 65,.int .i64 0] 24 (0,0))::pt b_s19 (.cells #[.int .i64 700001,.int .i64 0,.int .u8 0,.int .u8 0,.int .i64 0,.int .i64 0,.int .i64 2026,.int .u8 87,.int .u8 66,.int .i64 0] 24 (0,0))::pt b_s16 (.cells #[.int .i64 700001,.int .i64 0,.int .u8 0,.int .u8 0,.int .i64 0,.slice (some ⟨b_s14,0,none⟩) 3 3] 46 (0,0))::pt b_s14 (.cells #[.int .i64 700001,.int .i64 0,.int .u8 0,.int .u8 0,.int .i64 0,.int .i64 0,.int .i64 2026,.int .u8 87,.int .u8 65,.int .i64 0,.int .i64 0,.int .i64 2026,.int .u8 87,.int .u8 66,.int .i64 0] 24 (0,0))::MZ138):=hD; clear hD
      replace hf:Fr a 62 [] ((56,.bool true)::(57,.bool true)::LZ138):=hf
      refine O.val hf rfl rfl rfl (RunV.move rfl) ?_
      clear hf a; intro a hf
      exact O.nil ⟨rfl,hf.to trivial,(gt (d:=58) hf rfl rfl),hS⟩
    · intro k_ s_ g w hlo hhi _ hD a hf
      obtain ⟨b_s14,b_s16,b_s19,b_s22,b_s24⟩:=g
      obtain rfl:k_=5:=Nat.le_antisymm hhi hlo
      have hS:St w0 w noX [ordA] (pt b_s24 (.cells #[.int .i64 700001,.int .i64 0,.int .u8 0,.int .u8 0,.int .i64 0,.slice (some ⟨b_s19,0,none⟩) 2 2,.int .i64 0,.int .i64 2026,.int .u8 87,.int .u8 65,.int .i64 0,.slice (some ⟨b_s22,0,none⟩) 1 1] 46 (0,0))::pt b_s22 (.cells #[.int .i64 0,.int .i64 2026,.int .u8 87,.int .u8 65,.int .i64 0] 24 (0,0))::pt b_s19 (.cells #[.int .i64 700001,.int .i64 0,.int .u8 0,.int .u8 0,.int .i64 0,.int .i64 0,.int .i64 2026,.int .u8 87,.int .u8 66,.int .i64 0] 24 (0,0))::pt b_s16 (.cells #[.int .i64 700001,.int .i64 0,.int .u8 0,.int .u8 0,.int .i64 0,.slice (some ⟨b_s14,0,none⟩) 3 3] 46 (0,0))::pt b_s14 (.cells #[.int .i64 700001,.int .i64 0,.int .u8 0,.int .u8 0,.int .i64 0,.int .i64 0,.int .i64 2026,.int .u8 87,.int .u8 65,.int .i64 0,.int .i64 0,.int .i64 2026,.int .u8 87,.int .u8 66,.int .i64 0] 24 (0,0))::MZ138):=hD; clear hD
      replace hf:Fr a 62 [] ((58,.bool true)::LZ138):=hf
      refine O.gvalB (v:=.int .i64 36) hf rfl rfl rfl rfl rfl rfl (RunV.move rfl) ?_
      clear hf a; intro a hf
      exact O.nil ⟨rfl,hf.to trivial,(gt (d:=59) hf rfl rfl),hS⟩
    · intro k_ s_ g w hlo hhi _ hD a hf
      obtain ⟨b_s14,b_s16,b_s19,b_s22,b_s24⟩:=g
      obtain rfl:k_=5:=Nat.le_antisymm hhi hlo
      have hS:St w0 w noX [ordA] (pt b_s24 (.cells #[.int .i64 700001,.int .i64 0,.int .u8 0,.int .u8 0,.int .i64 0,.slice (some ⟨b_s19,0,none⟩) 2 2,.int .i64 0,.int .i64 2026,.int .u8 87,.int .u8 65,.int .i64 0,.slice (some ⟨b_s22,0,none⟩) 1 1] 46 (0,0))::pt b_s22 (.cells #[.int .i64 0,.int .i64 2026,.int .u8 87,.int .u8 65,.int .i64 0] 24 (0,0))::pt b_s19 (.cells #[.int .i64 700001,.int .i64 0,.int .u8 0,.int .u8 0,.int .i64 0,.int .i64 0,.int .i64 2026,.int .u8 87,.int .u8 66,.int .i64 0] 24 (0,0))::pt b_s16 (.cells #[.int .i64 700001,.int .i64 0,.int .u8 0,.int .u8 0,.int .i64 0,.slice (some ⟨b_s14,0,none⟩) 3 3] 46 (0,0))::pt b_s14 (.cells #[.int .i64 700001,.int .i64 0,.int .u8 0,.int .u8 0,.int .i64 0,.int .i64 0,.int .i64 2026,.int .u8 87,.int .u8 65,.int .i64 0,.int .i64 0,.int .i64 2026,.int .u8 87,.int .u8 66,.int .i64 0] 24 (0,0))::MZ138):=hD; clear hD
      replace hf:Fr a 62 [] ((58,.bool true)::(59,.int .i64 36)::LZ138):=hf
      refine O.gvalB (v:=.bool true) hf rfl rfl rfl rfl rfl rfl (RunV.toB (c:=true) (RunV.eql rfl rfl) (by decide)) ?_
      clear hf a; intro a hf
      exact O.nil ⟨rfl,hf.to trivial,(gt (d:=60) hf rfl rfl),hS⟩
    · intro k_ s_ g w hlo hhi _ hD a hf
      obtain ⟨b_s14,b_s16,b_s19,b_s22,b_s24⟩:=g
      obtain rfl:k_=5:=Nat.le_antisymm hhi hlo
      have hS:St w0 w noX [ordA] (pt b_s24 (.cells #[.int .i64 700001,.int .i64 0,.int .u8 0,.int .u8 0,.int .i64 0,.slice (some ⟨b_s19,0,none⟩) 2 2,.int .i64 0,.int .i64 2026,.int .u8 87,.int .u8 65,.int .i64 0,.slice (some ⟨b_s22,0,none⟩) 1 1] 46 (0,0))::pt b_s22 (.cells #[.int .i64 0,.int .i64 2026,.int .u8 87,.int .u8 65,.int .i64 0] 24 (0,0))::pt b_s19 (.cells #[.int .i64 700001,.int .i64 0,.int .u8 0,.int .u8 0,.int .i64 0,.int .i64 0,.int .i64 2026,.int .u8 87,.int .u8 66,.int .i64 0] 24 (0,0))::pt b_s16 (.cells #[.int .i64 700001,.int .i64 0,.int .u8 0,.int .u8 0,.int .i64 0,.slice (some ⟨b_s14,0,none⟩) 3 3] 46 (0,0))::pt b_s14 (.cells #[.int .i64 700001,.int .i64 0,.int .u8 0,.int .u8 0,.int .i64 0,.int .i64 0,.int .i64 2026,.int .u8 87,.int .u8 65,.int .i64 0,.int .i64 0,.int .i64 2026,.int .u8 87,.int .u8 66,.int .i64 0] 24 (0,0))::MZ138):=hD; clear hD
      replace hf:Fr a 62 [] ((58,.bool true)::(60,.bool true)::LZ138):=hf
      refine O.val (v:=.bool true) hf rfl rfl rfl (RunV.pick rfl rfl rfl rfl) ?_
      clear hf a; intro a hf
      exact O.nil ⟨rfl,hf.to trivial,(gt (d:=61) hf rfl rfl),hS⟩
    · intro k_ s_ g w hlo hhi _ hD a hf
      obtain ⟨b_s14,b_s16,b_s19,b_s22,b_s24⟩:=g
      obtain rfl:k_=5:=Nat.le_antisymm hhi hlo
      have hS:St w0 w noX [ordA] (pt b_s24 (.cells #[.int .i64 700001,.int .i64 0,.int .u8 0,.int .u8 0,.int .i64 0,.slice (some ⟨b_s19,0,none⟩) 2 2,.int .i64 0,.int .i64 2026,.int .u8 87,.int .u8 65,.int .i64 0,.slice (some ⟨b_s22,0,none⟩) 1 1] 46 (0,0))::pt b_s22 (.cells #[.int .i64 0,.int .i64 2026,.int .u8 87,.int .u8 65,.int .i64 0] 24 (0,0))::pt b_s19 (.cells #[.int .i64 700001,.int .i64 0,.int .u8 0,.int .u8 0,.int .i64 0,.int .i64 0,.int .i64 2026,.int .u8 87,.int .u8 66,.int .i64 0] 24 (0,0))::pt b_s16 (.cells #[.int .i64 700001,.int .i64 0,.int .u8 0,.int .u8 0,.int .i64 0,.slice (some ⟨b_s14,0,none⟩) 3 3] 46 (0,0))::pt b_s14 (.cells #[.int .i64 700001,.int .i64 0,.int .u8 0,.int .u8 0,.int .i64 0,.int .i64 0,.int .i64 2026,.int .u8 87,.int .u8 65,.int .i64 0,.int .i64 0,.int .i64 2026,.int .u8 87,.int .u8 66,.int .i64 0] 24 (0,0))::MZ138):=hD; clear hD
      replace hf:Fr a 62 [] ((30,.int .i64 0)::(31,.bool true)::(32,.bool true)::(33,va1)::(34,.agg #[.int .i64 700001,.int .i64 0,.int .u8 0,.int .u8 0,.int .i64 0])::(35,.agg #[.int .i64 0,.int .i64 2026,.int .u8 87,.int .u8 65,.int .i64 0])::(36,.agg #[.int .i64 0,.int .i64 2026,.int .u8 87,.int .u8 66,.int .i64 0])::(37,.slice (some ⟨b_s14,0,none⟩) 3 3)::(38,.agg #[.int .i64 700001,.int .i64 0,.int .u8 0,.int .u8 0,.int .i64 0,.slice (some ⟨b_s14,0,none⟩) 3 3])::(39,.slice (some ⟨b_s16,0,none⟩) 1 1)::(40,.bool true)::(41,.bool true)::(42,.bool true)::(43,.int .i64 0)::(44,.bool true)::(45,.bool true)::(46,.bool true)::(47,va2)::(48,.agg #[.int .i64 700001,.int .i64 0,.int .u8 0,.int .u8 0,.int .i64 0])::(49,.agg #[.int .i64 0,.int .i64 2026,.int .u8 87,.int .u8 66,.int .i64 0])::(50,.slice (some ⟨b_s19,0,none⟩) 2 2)::(51,.agg #[.int .i64 700001,.int .i64 0,.int .u8 0,.int .u8 0,.int .i64 0,.slice (some ⟨b_s19,0,none⟩) 2 2])::(52,.agg #[.int .i64 0,.int .i64 2026,.int .u8 87,.int .u8 65,.int .i64 0])::(53,.slice (some ⟨b_s22,0,none⟩) 1 1)::(54,.agg #[.int .i64 0,.int .i64 2026,.int .u8 87,.int .u8 65,.int .i64 0,.slice (some ⟨b_s22,0,none⟩) 1 1])::(55,.slice (some ⟨b_s24,0,none⟩) 2 2)::(56,.bool true)::(57,.bool true)::(58,.bool true)::(59,.int .i64 36)::(60,.bool true)::(61,.bool true)::LZ138):=hf
      refine O.val hf rfl rfl rfl (RunV.assign rfl) ?_
      clear hf a; intro a hf
      exact O.nil ⟨rfl,hf.to trivial,(gt (d:=0) hf rfl rfl),hS⟩
  · clear hf hS
    refine ⟨?_,?_,?_,?_,?_,trivial⟩
    · intro s_ g w _ hD a hf
      obtain ⟨b_s14,b_s16,b_s19,b_s22,b_s24⟩:=g
      have hS:St w0 w noX [ordA] MZ138:=hD; clear hD
      replace hf:Fr a 62 [] ((32,.bool true)::(34,.agg #[.int .i64 700001,.int .i64 0,.int .u8 0,.int .u8 0,.int .i64 0])::(35,.agg #[.int .i64 0,.int .i64 2026,.int .u8 87,.int .u8 65,.int .i64 0])::(36,.agg #[.int .i64 0,.int .i64 2026,.int .u8 87,.int .u8 66,.int .i64 0])::LZ138):=hf
      refine O.unguard hf rfl rfl rfl rfl ?_
      refine O.buildSlice (cs':=#[.int .i64 700001,.int .i64 0,.int .u8 0,.int .u8 0,.int .i64 0,.int .i64 0,.int .i64 2026,.int .u8 87,.int .u8 65,.int .i64 0,.int .i64 0,.int .i64 2026,.int .u8 87,.int .u8 66,.int .i64 0]) (zs:=#[.int .i64 0,.int .i64 0,.int .u8 0,.int .u8 0,.int .i64 0,.int .i64 0,.int .i64 0,.int .u8 0,.int .u8 0,.int .i64 0,.int .i64 0,.int .i64 0,.int .u8 0,.int .u8 0,.int .i64 0]) hf hS rfl rfl T_elem_35 T_size_24 T_zero_24 rfl rfl (by kernel_rfl) rfl (by kernel_rfl) ?_
      clear hf hS a; intro b_s35 w a hbb_s35 hS hf
      refine O.nil ⟨rfl,?_⟩
      exact O.nil ⟨rfl,(b_s35,b_s16,b_s19,b_s22,b_s24),hf.to trivial,(gt (d:=37) hf rfl rfl),(fun j_ hj_ ha_=>match j_,hj_,ha_ with | 0,hj_,ha_=>rfl | 1,hj_,ha_=>rfl | 2,hj_,ha_=>rfl | 3,hj_,ha_=>rfl | 4,hj_,ha_=>rfl | 5,hj_,ha_=>rfl | 6,hj_,ha_=>rfl | 7,hj_,ha_=>absurd rfl hj_ | 8,hj_,ha_=>absurd ha_ (by decide) | 9,hj_,ha_=>absurd ha_ (by decide) | 10,hj_,ha_=>absurd ha_ (by decide) | 11,hj_,ha_=>absurd ha_ (by decide) | 12,hj_,ha_=>absurd ha_ (by decide) | 13,hj_,ha_=>absurd ha_ (by decide) | 14,hj_,ha_=>absurd ha_ (by decide) | 15,hj_,ha_=>absurd ha_ (by decide) | 16,hj_,ha_=>absurd ha_ (by decide) | 17,hj_,ha_=>absurd ha_ (by decide) | 18,hj_,ha_=>absurd ha_ (by decide) | 19,hj_,ha_=>absurd ha_ (by decide) | 20,hj_,ha_=>absurd ha_ (by decide) | 21,hj_,ha_=>absurd ha_ (by decide) | 22,hj_,ha_=>absurd ha_ (by decide) | 23,hj_,ha_=>absurd ha_ (by decide) | 24,hj_,ha_=>absurd ha_ (by decide) | 25,hj_,ha_=>absurd ha_ (by decide) | 26,hj_,ha_=>absurd ha_ (by decide) | 27,hj_,ha_=>absurd ha_ (by decide) | 28,hj_,ha_=>absurd ha_ (by decide) | 29,hj_,ha_=>absurd ha_ (by decide) | 30,hj_,ha_=>absurd ha_ (by decide) | 31,hj_,ha_=>absurd ha_ (by decide) | 32,hj_,ha_=>absurd ha_ (by decide) | _+33,_,_=>rfl),hS⟩
    · intro s_ g w _ hD a hf
      obtain ⟨b_s14,b_s16,b_s19,b_s22,b_s24⟩:=g
      have hS:St w0 w noX [ordA] (pt b_s14 (.cells #[.int .i64 700001,.int .i64 0,.int .u8 0,.int .u8 0,.int .i64 0,.int .i64 0,.int .i64 2026,.int .u8 87,.int .u8 65,.int .i64 0,.int .i64 0,.int .i64 2026,.int .u8 87,.int .u8 66,.int .i64 0] 24 (0,0))::MZ138):=hD; clear hD
      replace hf:Fr a 62 [] ((32,.bool true)::(38,.agg #[.int .i64 700001,.int .i64 0,.int .u8 0,.int .u8 0,.int .i64 0,.slice (some ⟨b_s14,0,none⟩) 3 3])::LZ138):=hf
      refine O.unguard hf rfl rfl rfl rfl ?_
      refine O.buildSlice (cs':=#[.int .i64 700001,.int .i64 0,.int .u8 0,.int .u8 0,.int .i64 0,.slice (some ⟨b_s14,0,none⟩) 3 3]) (zs:=#[.int .i64 0,.int .i64 0,.int .u8 0,.int .u8 0,.int .i64 0,.slice none 0 0]) hf hS rfl rfl T_elem_39 T_size_46 T_zero_46 rfl rfl rfl rfl rfl ?_
      clear hf hS a; intro b_s36 w a hbb_s36 hS hf
      refine O.nil ⟨rfl,?_⟩
      exact O.nil ⟨rfl,(b_s14,b_s36,b_s19,b_s22,b_s24),hf.to trivial,(gt (d:=39) hf rfl rfl),(fun j_ hj_ ha_=>match j_,hj_,ha_ with | 0,hj_,ha_=>rfl | 1,hj_,ha_=>rfl | 2,hj_,ha_=>rfl | 3,hj_,ha_=>rfl | 4,hj_,ha_=>rfl | 5,hj_,ha_=>rfl | 6,hj_,ha_=>rfl | 7,hj_,ha_=>rfl | 8,hj_,ha_=>rfl | 9,hj_,ha_=>absurd rfl hj_ | 10,hj_,ha_=>absurd ha_ (by decide) | 11,hj_,ha_=>absurd ha_ (by decide) | 12,hj_,ha_=>absurd ha_ (by decide) | 13,hj_,ha_=>absurd ha_ (by decide) | 14,hj_,ha_=>absurd ha_ (by decide) | 15,hj_,ha_=>absurd ha_ (by decide) | 16,hj_,ha_=>absurd ha_ (by decide) | 17,hj_,ha_=>absurd ha_ (by decide) | 18,hj_,ha_=>absurd ha_ (by decide) | 19,hj_,ha_=>absurd ha_ (by decide) | 20,hj_,ha_=>absurd ha_ (by decide) | 21,hj_,ha_=>absurd ha_ (by decide) | 22,hj_,ha_=>absurd ha_ (by decide) | 23,hj_,ha_=>absurd ha_ (by decide) | 24,hj_,ha_=>absurd ha_ (by decide) | 25,hj_,ha_=>absurd ha_ (by decide) | 26,hj_,ha_=>absurd ha_ (by decide) | 27,hj_,ha_=>absurd ha_ (by decide) | 28,hj_,ha_=>absurd ha_ (by decide) | 29,hj_,ha_=>absurd ha_ (by decide) | 30,hj_,ha_=>absurd ha_ (by decide) | 31,hj_,ha_=>absurd ha_ (by decide) | 32,hj_,ha_=>absurd ha_ (by decide) | _+33,_,_=>rfl),hS⟩
    · intro s_ g w _ hD a hf
      obtain ⟨b_s14,b_s16,b_s19,b_s22,b_s24⟩:=g
      have hS:St w0 w noX [ordA] (pt b_s16 (.cells #[.int .i64 700001,.int .i64 0,.int .u8 0,.int .u8 0,.int .i64 0,.slice (some ⟨b_s14,0,none⟩) 3 3] 46 (0,0))::pt b_s14 (.cells #[.int .i64 700001,.int .i64 0,.int .u8 0,.int .u8 0,.int .i64 0,.int .i64 0,.int .i64 2026,.int .u8 87,.int .u8 65,.int .i64 0,.int .i64 0,.int .i64 2026,.int .u8 87,.int .u8 66,.int .i64 0] 24 (0,0))::MZ138):=hD; clear hD
      replace hf:Fr a 62 [] ((46,.bool true)::(48,.agg #[.int .i64 700001,.int .i64 0,.int .u8 0,.int .u8 0,.int .i64 0])::(49,.agg #[.int .i64 0,.int .i64 2026,.int .u8 87,.int .u8 66,.int .i64 0])::LZ138):=hf
      refine O.unguard hf rfl rfl rfl rfl ?_
      refine O.buildSlice (cs':=#[.int .i64 700001,.int .i64 0,.int .u8 0,.int .u8 0,.int .i64 0,.int .i64 0,.int .i64 2026,.int .u8 87,.int .u8 66,.int .i64 0]) (zs:=#[.int .i64 0,.int .i64 0,.int .u8 0,.int .u8 0,.int .i64 0,.int .i64 0,.int .i64 0,.int .u8 0,.int .u8 0,.int .i64 0]) hf hS rfl rfl T_elem_35 T_size_24 T_zero_24 rfl rfl rfl rfl rfl ?_
      clear hf hS a; intro b_s37 w a hbb_s37 hS hf
      refine O.nil ⟨rfl,?_⟩
      exact O.nil ⟨rfl,(b_s14,b_s16,b_s37,b_s22,b_s24),hf.to trivial,(gt (d:=50) hf rfl rfl),(fun j_ hj_ ha_=>match j_,hj_,ha_ with | 0,hj_,ha_=>rfl | 1,hj_,ha_=>rfl | 2,hj_,ha_=>rfl | 3,hj_,ha_=>rfl | 4,hj_,ha_=>rfl | 5,hj_,ha_=>rfl | 6,hj_,ha_=>rfl | 7,hj_,ha_=>rfl | 8,hj_,ha_=>rfl | 9,hj_,ha_=>rfl | 10,hj_,ha_=>rfl | 11,hj_,ha_=>rfl | 12,hj_,ha_=>rfl | 13,hj_,ha_=>rfl | 14,hj_,ha_=>rfl | 15,hj_,ha_=>rfl | 16,hj_,ha_=>rfl | 17,hj_,ha_=>rfl | 18,hj_,ha_=>rfl | 19,hj_,ha_=>rfl | 20,hj_,ha_=>absurd rfl hj_ | 21,hj_,ha_=>absurd ha_ (by decide) | 22,hj_,ha_=>absurd ha_ (by decide) | 23,hj_,ha_=>absurd ha_ (by decide) | 24,hj_,ha_=>absurd ha_ (by decide) | 25,hj_,ha_=>absurd ha_ (by decide) | 26,hj_,ha_=>absurd ha_ (by decide) | 27,hj_,ha_=>absurd ha_ (by decide) | 28,hj_,ha_=>absurd ha_ (by decide) | 29,hj_,ha_=>absurd ha_ (by decide) | 30,hj_,ha_=>absurd ha_ (by decide) | 31,hj_,ha_=>absurd ha_ (by decide) | 32,hj_,ha_=>absurd ha_ (by decide) | _+33,_,_=>rfl),hS⟩
    · intro s_ g w _ hD a hf
      obtain ⟨b_s14,b_s16,b_s19,b_s22,b_s24⟩:=g
      have hS:St w0 w noX [ordA] (pt b_s19 (.cells #[.int .i64 700001,.int .i64 0,.int .u8 0,.int .u8 0,.int .i64 0,.int .i64 0,.int .i64 2026,.int .u8 87,.int .u8 66,.int .i64 0] 24 (0,0))::pt b_s16 (.cells #[.int .i64 700001,.int .i64 0,.int .u8 0,.int .u8 0,.int .i64 0,.slice (some ⟨b_s14,0,none⟩) 3 3] 46 (0,0))::pt b_s14 (.cells #[.int .i64 700001,.int .i64 0,.int .u8 0,.int .u8 0,.int .i64 0,.int .i64 0,.int .i64 2026,.int .u8 87,.int .u8 65,.int .i64 0,.int .i64 0,.int .i64 2026,.int .u8 87,.int .u8 66,.int .i64 0] 24 (0,0))::MZ138):=hD; clear hD
      replace hf:Fr a 62 [] ((46,.bool true)::(52,.agg #[.int .i64 0,.int .i64 2026,.int .u8 87,.int .u8 65,.int .i64 0])::LZ138):=hf
      refine O.unguard hf rfl rfl rfl rfl ?_
      refine O.buildSlice (cs':=#[.int .i64 0,.int .i64 2026,.int .u8 87,.int .u8 65,.int .i64 0]) (zs:=#[.int .i64 0,.int .i64 0,.int .u8 0,.int .u8 0,.int .i64 0]) hf hS rfl rfl T_elem_35 T_size_24 T_zero_24 rfl rfl rfl rfl rfl ?_
      clear hf hS a; intro b_s38 w a hbb_s38 hS hf
      refine O.nil ⟨rfl,?_⟩
      exact O.nil ⟨rfl,(b_s14,b_s16,b_s19,b_s38,b_s24),hf.to trivial,(gt (d:=53) hf rfl rfl),(fun j_ hj_ ha_=>match j_,hj_,ha_ with | 0,hj_,ha_=>rfl | 1,hj_,ha_=>rfl | 2,hj_,ha_=>rfl | 3,hj_,ha_=>rfl | 4,hj_,ha_=>rfl | 5,hj_,ha_=>rfl | 6,hj_,ha_=>rfl | 7,hj_,ha_=>rfl | 8,hj_,ha_=>rfl | 9,hj_,ha_=>rfl | 10,hj_,ha_=>rfl | 11,hj_,ha_=>rfl | 12,hj_,ha_=>rfl | 13,hj_,ha_=>rfl | 14,hj_,ha_=>rfl | 15,hj_,ha_=>rfl | 16,hj_,ha_=>rfl | 17,hj_,ha_=>rfl | 18,hj_,ha_=>rfl | 19,hj_,ha_=>rfl | 20,hj_,ha_=>rfl | 21,hj_,ha_=>rfl | 22,hj_,ha_=>rfl | 23,hj_,ha_=>absurd rfl hj_ | 24,hj_,ha_=>absurd ha_ (by decide) | 25,hj_,ha_=>absurd ha_ (by decide) | 26,hj_,ha_=>absurd ha_ (by decide) | 27,hj_,ha_=>absurd ha_ (by decide) | 28,hj_,ha_=>absurd ha_ (by decide) | 29,hj_,ha_=>absurd ha_ (by decide) | 30,hj_,ha_=>absurd ha_ (by decide) | 31,hj_,ha_=>absurd ha_ (by decide) | 32,hj_,ha_=>absurd ha_ (by decide) | _+33,_,_=>rfl),hS⟩
    · intro s_ g w _ hD a hf
      obtain ⟨b_s14,b_s16,b_s19,b_s22,b_s24⟩:=g
      have hS:St w0 w noX [ordA] (pt b_s22 (.cells #[.int .i64 0,.int .i64 2026,.int .u8 87,.int .u8 65,.int .i64 0] 24 (0,0))::pt b_s19 (.cells #[.int .i64 700001,.int .i64 0,.int .u8 0,.int .u8 0,.int .i64 0,.int .i64 0,.int .i64 2026,.int .u8 87,.int .u8 66,.int .i64 0] 24 (0,0))::pt b_s16 (.cells #[.int .i64 700001,.int .i64 0,.int .u8 0,.int .u8 0,.int .i64 0,.slice (some ⟨b_s14,0,none⟩) 3 3] 46 (0,0))::pt b_s14 (.cells #[.int .i64 700001,.int .i64 0,.int .u8 0,.int .u8 0,.int .i64 0,.int .i64 0,.int .i64 2026,.int .u8 87,.int .u8 65,.int .i64 0,.int .i64 0,.int .i64 2026,.int .u8 87,.int .u8 66,.int .i64 0] 24 (0,0))::MZ138):=hD; clear hD
      replace hf:Fr a 62 [] ((46,.bool true)::(51,.agg #[.int .i64 700001,.int .i64 0,.int .u8 0,.int .u8 0,.int .i64 0,.slice (some ⟨b_s19,0,none⟩) 2 2])::(54,.agg #[.int .i64 0,.int .i64 2026,.int .u8 87,.int .u8 65,.int .i64 0,.slice (some ⟨b_s22,0,none⟩) 1 1])::LZ138):=hf
      refine O.unguard hf rfl rfl rfl rfl ?_
      refine O.buildSlice (cs':=#[.int .i64 700001,.int .i64 0,.int .u8 0,.int .u8 0,.int .i64 0,.slice (some ⟨b_s19,0,none⟩) 2 2,.int .i64 0,.int .i64 2026,.int .u8 87,.int .u8 65,.int .i64 0,.slice (some ⟨b_s22,0,none⟩) 1 1]) (zs:=#[.int .i64 0,.int .i64 0,.int .u8 0,.int .u8 0,.int .i64 0,.slice none 0 0,.int .i64 0,.int .i64 0,.int .u8 0,.int .u8 0,.int .i64 0,.slice none 0 0]) hf hS rfl rfl T_elem_39 T_size_46 T_zero_46 rfl rfl (by kernel_rfl) rfl (by kernel_rfl) ?_
      clear hf hS a; intro b_s39 w a hbb_s39 hS hf
      refine O.nil ⟨rfl,?_⟩
      exact O.nil ⟨rfl,(b_s14,b_s16,b_s19,b_s22,b_s39),hf.to trivial,(gt (d:=55) hf rfl rfl),(fun j_ hj_ ha_=>match j_,hj_,ha_ with | 0,hj_,ha_=>rfl | 1,hj_,ha_=>rfl | 2,hj_,ha_=>rfl | 3,hj_,ha_=>rfl | 4,hj_,ha_=>rfl | 5,hj_,ha_=>rfl | 6,hj_,ha_=>rfl | 7,hj_,ha_=>rfl | 8,hj_,ha_=>rfl | 9,hj_,ha_=>rfl | 10,hj_,ha_=>rfl | 11,hj_,ha_=>rfl | 12,hj_,ha_=>rfl | 13,hj_,ha_=>rfl | 14,hj_,ha_=>rfl | 15,hj_,ha_=>rfl | 16,hj_,ha_=>rfl | 17,hj_,ha_=>rfl | 18,hj_,ha_=>rfl | 19,hj_,ha_=>rfl | 20,hj_,ha_=>rfl | 21,hj_,ha_=>rfl | 22,hj_,ha_=>rfl | 23,hj_,ha_=>rfl | 24,hj_,ha_=>rfl | 25,hj_,ha_=>absurd rfl hj_ | 26,hj_,ha_=>absurd ha_ (by decide) | 27,hj_,ha_=>absurd ha_ (by decide) | 28,hj_,ha_=>absurd ha_ (by decide) | 29,hj_,ha_=>absurd ha_ (by decide) | 30,hj_,ha_=>absurd ha_ (by decide) | 31,hj_,ha_=>absurd ha_ (by decide) | 32,hj_,ha_=>absurd ha_ (by decide) | _+33,_,_=>rfl),hS⟩
  clear hf hS; intro s_ g a w _ hf hD
  obtain ⟨b_s14,b_s16,b_s19,b_s22,b_s24⟩:=g
  have hS:St w0 w noX [ordA] (pt b_s24 (.cells #[.int .i64 700001,.int .i64 0,.int .u8 0,.int .u8 0,.int .i64 0,.slice (some ⟨b_s19,0,none⟩) 2 2,.int .i64 0,.int .i64 2026,.int .u8 87,.int .u8 65,.int .i64 0,.slice (some ⟨b_s22,0,none⟩) 1 1] 46 (0,0))::pt b_s22 (.cells #[.int .i64 0,.int .i64 2026,.int .u8 87,.int .u8 65,.int .i64 0] 24 (0,0))::pt b_s19 (.cells #[.int .i64 700001,.int .i64 0,.int .u8 0,.int .u8 0,.int .i64 0,.int .i64 0,.int .i64 2026,.int .u8 87,.int .u8 66,.int .i64 0] 24 (0,0))::pt b_s16 (.cells #[.int .i64 700001,.int .i64 0,.int .u8 0,.int .u8 0,.int .i64 0,.slice (some ⟨b_s14,0,none⟩) 3 3] 46 (0,0))::pt b_s14 (.cells #[.int .i64 700001,.int .i64 0,.int .u8 0,.int .u8 0,.int .i64 0,.int .i64 0,.int .i64 2026,.int .u8 87,.int .u8 65,.int .i64 0,.int .i64 0,.int .i64 2026,.int .u8 87,.int .u8 66,.int .i64 0] 24 (0,0))::MZ138):=hD; clear hD
  replace hf:Fr a 62 [] ((30,.int .i64 0)::(31,.bool true)::(32,.bool true)::(33,va1)::(34,.agg #[.int .i64 700001,.int .i64 0,.int .u8 0,.int .u8 0,.int .i64 0])::(35,.agg #[.int .i64 0,.int .i64 2026,.int .u8 87,.int .u8 65,.int .i64 0])::(36,.agg #[.int .i64 0,.int .i64 2026,.int .u8 87,.int .u8 66,.int .i64 0])::(37,.slice (some ⟨b_s14,0,none⟩) 3 3)::(38,.agg #[.int .i64 700001,.int .i64 0,.int .u8 0,.int .u8 0,.int .i64 0,.slice (some ⟨b_s14,0,none⟩) 3 3])::(39,.slice (some ⟨b_s16,0,none⟩) 1 1)::(40,.bool true)::(41,.bool true)::(42,.bool true)::(43,.int .i64 0)::(44,.bool true)::(45,.bool true)::(46,.bool true)::(47,va2)::(48,.agg #[.int .i64 700001,.int .i64 0,.int .u8 0,.int .u8 0,.int .i64 0])::(49,.agg #[.int .i64 0,.int .i64 2026,.int .u8 87,.int .u8 66,.int .i64 0])::(50,.slice (some ⟨b_s19,0,none⟩) 2 2)::(51,.agg #[.int .i64 700001,.int .i64 0,.int .u8 0,.int .u8 0,.int .i64 0,.slice (some ⟨b_s19,0,none⟩) 2 2])::(52,.agg #[.int .i64 0,.int .i64 2026,.int .u8 87,.int .u8 65,.int .i64 0])::(53,.slice (some ⟨b_s22,0,none⟩) 1 1)::(54,.agg #[.int .i64 0,.int .i64 2026,.int .u8 87,.int .u8 65,.int .i64 0,.slice (some ⟨b_s22,0,none⟩) 1 1])::(55,.slice (some ⟨b_s24,0,none⟩) 2 2)::(56,.bool true)::(57,.bool true)::(58,.bool true)::(59,.int .i64 36)::(60,.bool true)::(61,.bool true)::(0,.bool true)::LZ138):=hf
  refine k_seq ?_
  replace hf:Fr a 62 [] [(0,.bool true)]:=hf.to ⟨rfl,trivial⟩
  refine W.ret ?_
  refine post1 hf rfl (ResOK.tmp rfl) ?_
  exact ⟨(),rfl,hS.sub (List.nil_sublist _) |>.noB⟩
set_option maxHeartbeats 400000 in
set_option maxRecDepth 4000 in
theorem fails_true (e:Int) (vm:Value) (ml:List Ch) (w0:World) (hG:Lent w0 ordA) (hl:rdOK (hp w0) 12 vm ml.length (encs eC ml)) (hfit:vfit vm) (hz:ml.length≤100) (hm:histM (givenL++ml)=.error e) :
    Ret Tryd.prog 29 #[.int .i64 e,vm] w0 (G:=Unit) (fun _=>.bool true) (fun _ w=>St w0 w noX [] []):=by
  refine ret_of_W (lv:=[.int .i64 e,vm]) Tryd.func29 rfl rfl rfl (fun a hf=>?_)
  replace hf:Fr a 22 [] [(0,.int .i64 e),(1,vm)]:=hf
  have hS:St w0 w0 noX [ordA,rdv 12 vm ml.length (encs eC ml)] []:=((St.refl w0).lend0 hl).lendA hG
  refine W.seq ?_
  refine W.regionL (l:=[0]) rfl ?_
  refine O.val hf rfl rfl rfl (RunV.assign rfl) ?_
  clear hf a; intro a hf
  refine O.nil ?_
  refine k_seq ?_
  refine W.seq ?_
  refine W.regionL (l:=[0,1,2,3,4,5,6,7,8]) rfl ?_
  refine O.callR hf rfl rfl rfl (RunE.call (av:=#[]) C_ok_30 rfl rfl rfl) (given_spec _) ?_
  clear hf a
  rintro gv1 w1 hS1 a hf
  replace hf:Fr a _ _ ((8,gv1)::_):=hf
  replace hS:=(hS.call hS1).eqM (N:=[sl 26 12 gv1 givenL.length (encs eC givenL)]) rfl
  clear hS1
  refine O.val hf rfl rfl rfl (RunV.move rfl) ?_
  clear hf a; intro a hf
  replace hS:St w0 _ noX [ordA,rdv 12 vm ml.length (encs eC ml)] [slE 26 12 eC gv1 givenL]:=hS
  refine O.appendEV (j:=0) (enc:=eC) (l:=givenL) (m:=ml) (l':=givenL++ml) hf hS rfl rfl T_elem_22 T_size_26 T_bytes_26 T_zero_26 rfl rfl rfl rfl rfl ⟨hS.rdAt (j:=1) rfl,hfit⟩ (fun _=>rfl) (by decide) (by omega) rfl rfl ?_
  clear hf hS a; intro v2 w a hS hf
  replace hS:St w0 _ noX [ordA,rdv 12 vm ml.length (encs eC ml)] [sl 26 12 v2 ((givenL++ml).length) (encs eC (givenL++ml))]:=hS
  refine O.callR hf rfl rfl rfl (RunE.call (av:=#[v2]) C_ok_16 rfl rfl rfl) (run_err v2 (givenL++ml) _ (hS.bptO (i:=0) rfl) (hS.slr (j:=0) rfl) (slOK.fit (hS.slAt (j:=0) rfl)) e hm) ?_
  clear hf a
  rintro _ w3 hS1 a hf
  replace hf:Fr a _ _ ((11,.tuple #[.slice none 0 0,.int .i64 e])::_):=hf
  replace hS:=(hS.call hS1).eqM (N:=[sl 26 12 v2 ((givenL++ml).length) (encs eC (givenL++ml))]) rfl
  clear hS1
  refine O.val hf rfl rfl rfl (RunV.move rfl) ?_
  clear hf a; intro a hf
  refine O.val hf rfl rfl rfl (RunV.extract rfl rfl) ?_
  clear hf a; intro a hf
  refine O.val hf rfl rfl rfl (RunV.extract rfl rfl) ?_
  clear hf a; intro a hf
  refine O.val hf rfl rfl rfl (RunV.assign rfl) ?_
  clear hf a; intro a hf
  refine O.val hf rfl rfl rfl (RunV.assign rfl) ?_
  clear hf a; intro a hf
  refine O.nil ?_
  refine k_seq ?_
  replace hf:Fr a 22 [] [(0,.int .i64 e),(4,.bool false),(5,.slice none 0 0),(6,.int .i64 e)]:=hf.to ⟨rfl,rfl,rfl,rfl,trivial⟩
  refine W.seq ?_
  refine W.regionL (l:=[0,1,2,3,4,5,6,7,8]) rfl ?_
  refine O.val hf rfl rfl rfl (RunV.move rfl) ?_
  clear hf a; intro a hf
  refine O.val hf rfl rfl rfl (RunV.move rfl) ?_
  clear hf a; intro a hf
  refine O.val (v:=.bool (decide (e=(e:Int)))) hf rfl rfl rfl (RunV.eql rfl rfl) ?_
  clear hf a; intro a hf
  refine O.val hf rfl rfl rfl (RunV.move rfl) ?_
  clear hf a; intro a hf
  have hbg:(decide (e=(e:Int)))=true:=decide_eq_true rfl
  simp only [hbg] at hf; clear hbg
  refine O.gvalB (v:=.slice none 0 0) hf rfl rfl rfl rfl rfl rfl (RunV.move rfl) ?_
  clear hf a; intro a hf
  refine O.gvalB (v:=.int .i64 0) hf rfl rfl rfl rfl rfl rfl (RunV.len (e:=46) (by simpa using T_elem_39) rfl) ?_
  clear hf a; intro a hf
  refine O.gvalB (v:=.bool true) hf rfl rfl rfl rfl rfl rfl (RunV.toB (c:=true) (RunV.eql rfl rfl) (by decide)) ?_
  clear hf a; intro a hf
  refine O.val (v:=.bool true) hf rfl rfl rfl (RunV.pick rfl rfl rfl rfl) ?_
  clear hf a; intro a hf
  refine O.val hf rfl rfl rfl (RunV.assign rfl) ?_
  clear hf a; intro a hf
  refine O.nil ?_
  refine k_seq ?_
  replace hf:Fr a 22 [] [(4,.bool true)]:=hf.to ⟨rfl,trivial⟩
  refine W.ret ?_
  refine post1 hf rfl (ResOK.tmp rfl) ?_
  exact ⟨(),rfl,hS.sub (List.nil_sublist _) |>.noB⟩
end Go.Proofs.YtgakdmmmljdpjaaDoor

namespace Go.SL
open Go
section
variable {T:Type} [Inhabited T] {P:Program} {w:World} {n:Nat} {ds:List Deferred} {L:List (Nat × Value)} {ty t:TypeId} {x:Operand} {v u:Value} {enc:T→List Value} {l:List T} {sz q j o:Nat}
end
section
variable {l:List Ch} {S S2:List PG} {us:List Bool} {n k:Nat} {e:Int}
end
end Go.SL

namespace Go.Proofs.YtgakdmmmljdpjaaDoor
open Go Go.SL
end Go.Proofs.YtgakdmmmljdpjaaDoor

namespace Go.Proofs.YtgakdmmmljdpjaaDoor
open Go Go.SL
theorem C_ok_11:callOK Tryd.prog 11=true:=by kernel_rfl
theorem C_ok_14:callOK Tryd.prog 14=true:=by kernel_rfl
theorem C_ok_21:callOK Tryd.prog 21=true:=by kernel_rfl
end Go.Proofs.YtgakdmmmljdpjaaDoor

namespace Go.SL
open Go
def whoM (l:List Ch) (d:Dg):Except Int PG :=
  match histM l with
  | .error e=>.error e
  | .ok (S,_)=>if okD d=true then (match findG S d with | none=>.error 6 | some p=>.ok p) else .error 8
def appM (l:List Ch) (c:Ch):Except Int (List PG × List Bool) :=
  match histM l with
  | .error e=>.error e
  | .ok _=>if okC c=true then histM (l++[c]) else .error 8
section
variable {l:List Ch} {d a b:Dg} {c:Ch} {e:Int} {p x y:PG} {S S2:List PG} {us us2:List Bool}
theorem whoM_ok (h:whoM l d=.ok p):∃ S us,histM l=.ok (S,us)∧okD d=true∧findG S d=some p:=by
  unfold whoM at h
  cases hm:histM l with
  | error e'=>rw [hm] at h; cases h
  | ok r =>
    obtain ⟨S,us⟩:=r
    rw [hm] at h
    simp only at h
    split at h
    · rename_i hd
      cases hf:findG S d with
      | none=>rw [hf] at h; cases h
      | some q=>rw [hf] at h; cases h; exact ⟨S,us,rfl,hd,hf⟩
    · cases h
theorem appM_ok (h:appM l c=.ok (S2,us2)):∃ S us,histM l=.ok (S,us)∧okC c=true∧histM (l++[c])=.ok (S2,us2):=by
  unfold appM at h
  cases hm:histM l with
  | error e'=>rw [hm] at h; cases h
  | ok r =>
    obtain ⟨S,us⟩:=r
    rw [hm] at h
    simp only at h
    split at h
    · rename_i hc; exact ⟨S,us,rfl,hc,h⟩
    · cases h
def joinC (a b:Dg):Ch:=⟨2,a,b,0⟩
def sameP (x y:PG):Prop:=objP x=objP y∨(0<(objP x).1.num∧0<(objP y).1.num)
def cntC (As Bs:List PO):Nat:=(As.map fun x=>Bs.count x).sum
structure JoinedR (l:List Ch) (a b:Dg) (S S2:List PG) (x y z:PG):Prop where
  wz:whoM (l++[joinC a b]) a=.ok z
  wv:whoM (l++[joinC a b]) b=.ok z
  len:(sortDs z.1).length=(sortDs x.1).length+(sortDs y.1).length
  siz:S2.length+1=S.length
  cnt:cntC (objsM S) (objsM S2)+1=S2.length
end
end Go.SL

namespace Go.Proofs.YtgakdmmmljdpjaaDoor
open Go Go.SL
section
variable (vl:Value) (l:List Ch) (d:Dg) (c:Ch) (w0:World) (hG:Lent w0 ordA) (hl:rdOK (hp w0) 12 vl l.length (encs eC l)) (hfit:vfit vl)
include hG hl hfit
theorem whoE (e:Int) (h:whoM l d=.error e):Ret Tryd.prog 19 #[vl,dV d] w0 (G:=Unit) (fun _=>.tuple #[oV ⟨0,0,0,0,0⟩ (.slice none 0 0),.int .i64 e]) (fun _ w=>St w0 w noX [] []):=by
  unfold whoM at h
  cases hm:histM l with
  | error e'=>rw [hm] at h; cases h; exact who_err vl l d w0 hG hl hfit e hm
  | ok r =>
    obtain ⟨S,us⟩:=r
    rw [hm] at h
    simp only at h
    cases hd:okD d with
    | false =>
      rw [hd,if_neg (by decide)] at h
      cases h
      exact who_bad vl l d w0 hG hl hfit S us hm hd
    | true =>
      rw [hd,if_pos rfl] at h
      cases hf:findG S d with
      | none =>
        rw [hf] at h
        cases h
        exact who_none vl l d w0 hG hl hfit S us hm hd hf
      | some p=>rw [hf] at h; cases h
theorem whoO (p:PG) (h:whoM l d=.ok p):Ret Tryd.prog 19 #[vl,dV d] w0 (G:=Value) (fun g=>.tuple #[oV ((sortDs p.1).getD 0 default) g,.int .i64 0]) (fun g w=>St w0 w noX [] [slE 24 5 eD g (sortDs p.1)]):=by
  obtain ⟨S,us,hm,hd,hf⟩:=whoM_ok h
  have h1:=okS_hist hm p (findG_mem hf).1
  have h2:=tot_mem (findG_mem hf).1
  have h3:=tot_hist hm
  exact who_ok vl l d w0 hG hl hfit S us hm hd p hf h1.2 (by omega) h1.1
theorem applyE (hz:l.length≤1000) (e:Int) (h:appM l c=.error e):Ret Tryd.prog 11 #[vl,cV c] w0 (G:=Unit) (fun _=>.tuple #[.slice none 0 0,.int .i64 e]) (fun _ w=>St w0 w noX [] []):=by
  unfold appM at h
  cases hm:histM l with
  | error e'=>rw [hm] at h; cases h; exact apply_err vl l c w0 hG hl hfit e hm
  | ok r =>
    obtain ⟨S,us⟩:=r
    rw [hm] at h
    simp only at h
    cases hc:okC c with
    | false =>
      rw [hc,if_neg (by decide)] at h
      cases h
      exact apply_bad vl l c w0 hG hl hfit S us hm hc
    | true =>
      rw [hc,if_pos rfl] at h
      exact apply_err2 vl l c w0 hG hl hfit hz S us hm hc e h
theorem applyO (hz:l.length≤1000) (S2:List PG) (us2:List Bool) (h:appM l c=.ok (S2,us2)):Ret Tryd.prog 11 #[vl,cV c] w0 (G:=Value) (fun g=>.tuple #[g,.int .i64 0]) (fun g w=>St w0 w noX [] [slE 26 12 eC g (l++[c])]):=by
  obtain ⟨S,us,hm,hc,hm2⟩:=appM_ok h
  exact apply_ok vl l c w0 hG hl hfit hz S us hm hc S2 us2 hm2
end
end Go.Proofs.YtgakdmmmljdpjaaDoor
namespace Go.SL
open Go
def cntP (As Bs:List PO) (p:Nat):Nat:=cntC (As.take p) Bs
end Go.SL

namespace Go.SL
open Go
def n1:Dg:=⟨1,0,0,0,0⟩
def plusC:Ch:=⟨1,nameD 67,default,0⟩
theorem nm1:histM (givenL++[⟨1,nameD 65,default,0⟩])=.error 14:=by decide +kernel
theorem nm2:histM (givenL++[⟨2,nameD 67,nameD 65,0⟩])=.error 6:=by decide +kernel
theorem nm3:histM (givenL++[⟨2,numD,nameD 65,0⟩])=.error 36:=by decide +kernel
theorem nm4:histM (givenL++[⟨3,nameD 67,n1,0⟩])=.error 6:=by decide +kernel
theorem nm5:histM (givenL++[plusC,⟨3,nameD 67,numD,0⟩])=.error 14:=by decide +kernel
theorem nm6:histM (givenL++[⟨3,nameD 65,n1,0⟩])=.error 36:=by decide +kernel
theorem nm7:histM (givenL++[undoC 4])=.error 6:=by decide +kernel
theorem nm8:histM (givenL++[undoC 2,undoC 2])=.error 36:=by decide +kernel
theorem nm9:histM (givenL++[undoC 2,undoC 4])=.error 36:=by decide +kernel
theorem nm10:histM (givenL++[plusC,⟨3,nameD 67,n1,0⟩,⟨2,nameD 67,numD,0⟩])=.error 36:=by decide +kernel
theorem nm11:histM (List.replicate 501 (default:Ch))=.error 4:=by
  unfold histM
  rw [if_pos (by rw [List.length_replicate]; decide)]
theorem nm12:histM (List.replicate 1 (default:Ch))=.error 8:=by decide +kernel
theorem nm13:whoM givenL (nameD 67)=.error 6:=by decide +kernel
theorem nm14:whoM givenL default=.error 8:=by decide +kernel
theorem nm15:whoM givenL (nameD 66)=.ok ([nameD 65,nameD 66,numD],true):=by decide +kernel
theorem nm16:appM givenL plusC=.ok ([([nameD 67],false),([nameD 65,nameD 66,numD],true)],[false,false,false,false,false]):=by decide +kernel
theorem nm17:appM givenL default=.error 8:=by decide +kernel
def firstL:List Ch:=[⟨1,nameD 65,default,0⟩,⟨1,nameD 66,default,0⟩,undoC 0,⟨1,nameD 65,default,0⟩]
theorem nm18:histM firstL=.ok ([([nameD 65],false),([nameD 66],false)],[true,false,false,false]):=by decide +kernel
theorem nm19:objsM [([nameD 65],false),([nameD 66],false)]=[(nameD 65,[nameD 65]),(nameD 66,[nameD 66])]:=by
  unfold objsM
  rw [List.map_cons,List.map_cons,List.map_nil]
  unfold objP
  rw [sort_one,sort_one]
  exact sorted_eq (by decide +kernel) (List.Perm.refl _) (by decide +kernel)
theorem sb_1 {us vs:List Bool} (h:¬ (us.length:Int)=(vs.length:Int)):decide (us=vs)=false:=decide_eq_false fun e=>h (by rw [e])
theorem sb_2 {us vs:List Bool} {k:Nat} (hk:k<us.length) (h:(!(us.getD k false == vs.getD k false))=true):decide (us=vs)=false:=decide_eq_false fun e=>by
  subst e; simp at h
theorem sb_3 {us vs:List Bool} (hl:us.length=vs.length) (h:∀ j,j<us.length→us.getD j false=vs.getD j false):decide (us=vs)=true:=decide_eq_true (by
  apply List.ext_getElem hl
  intro i h1 h2
  have:=h i h1
  simpa [List.getD_eq_getElem?_getD,List.getElem?_eq_getElem h1,List.getElem?_eq_getElem h2] using this)
end Go.SL
namespace Go.Proofs.YtgakdmmmljdpjaaDoor
open Go Go.SL
theorem who_given (vl:Value) (w0:World) (hG:Lent w0 ordA) (hl:rdOK (hp w0) 12 vl givenL.length (encs eC givenL)) (hfit:vfit vl) :
    Ret Tryd.prog 19 #[vl,dV (nameD 66)] w0 (G:=Value) (fun g=>.tuple #[oV numD g,.int .i64 0]) (fun g w=>St w0 w noX [] [slE 24 5 eD g [numD,nameD 65,nameD 66]]):=by
  have h:=whoO vl givenL (nameD 66) w0 hG hl hfit _ nm15
  simp only [sort_given] at h
  exact h
theorem apply_given (vl:Value) (w0:World) (hG:Lent w0 ordA) (hl:rdOK (hp w0) 12 vl givenL.length (encs eC givenL)) (hfit:vfit vl) :
    Ret Tryd.prog 11 #[vl,cV plusC] w0 (G:=Value) (fun g=>.tuple #[g,.int .i64 0]) (fun g w=>St w0 w noX [] [slE 26 12 eC g (givenL++[plusC])]):=by
  exact applyO vl givenL plusC w0 hG hl hfit (by decide) _ _ nm16
end Go.Proofs.YtgakdmmmljdpjaaDoor
