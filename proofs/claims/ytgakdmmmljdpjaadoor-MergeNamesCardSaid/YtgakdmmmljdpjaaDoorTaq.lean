/- Part of a proof: laws and walks. -/
import Derived.Test.YtgakdmmmljdpjaaDoorTap
set_option linter.unusedVariables false
set_option linter.unusedSimpArgs false
namespace Go.Proofs.YtgakdmmmljdpjaaDoor
open Go Go.SL
theorem C_ok_19:callOK Tryd.prog 19=true:=by kernel_rfl
theorem C_ok_27:callOK Tryd.prog 27=true:=by kernel_rfl
theorem C_ok_29:callOK Tryd.prog 29=true:=by kernel_rfl
set_option maxHeartbeats 8000000 in
set_option maxRecDepth 4000 in
theorem names_spec (w0:World) (hG:Lent w0 ordA) :
    Ret Tryd.prog 9 #[] w0 (G:=Unit) (fun _=>.bool true) (fun _ w=>St w0 w noX [] []):=by
  refine ret_of_W (lv:=[]) Tryd.func9 rfl rfl rfl (fun a hf=>?_)
  replace hf:Fr a 273 [] []:=hf
  have hS:St w0 w0 noX [ordA] []:=(St.refl w0).lendA hG
  refine W.seq ?_
  refine W.regionL (l:=[0]) rfl ?_
  refine O.val hf rfl rfl rfl (RunV.assign rfl) ?_
  clear hf a; intro a hf
  refine O.nil ?_
  refine k_seq ?_
  refine W.seq ?_
  refine W.regionL (l:=[0,1,2,3,4,5]) rfl ?_
  refine O.val hf rfl rfl rfl (RunV.buildS (cs':=#[.int .i64 700001,.int .i64 0,.int .u8 0,.int .u8 0,.int .i64 0]) T_places_24 T_zero_24 rfl rfl) ?_
  clear hf a; intro a hf
  refine O.callR hf rfl rfl rfl (RunE.call (av:=#[.int .u8 67]) C_ok_28 rfl rfl rfl) (named_spec 67 _) ?_
  clear hf a
  rintro _ w1 hS1 a hf
  replace hf:Fr a _ _ ((28,.agg #[.int .i64 0,.int .i64 2026,.int .u8 87,.int .u8 67,.int .i64 0])::_):=hf
  replace hS:=(hS.call hS1).eqM (N:=[]) rfl
  clear hS1
  refine O.alloc (cs:=#[.int .i64 0,.int .i64 0,.int .u8 0,.int .u8 0,.int .i64 0]) hf hS rfl rfl T_zero_24 rfl ?_
  clear hf hS a; intro b_n2 w a hbb_n2 hS hf
  refine O.alloc (cs:=#[.int .i64 0,.int .i64 0,.int .u8 0,.int .u8 0,.int .i64 0]) hf hS rfl rfl T_zero_24 rfl ?_
  clear hf hS a; intro b_c3 w a hbb_c3 hS hf
  refine O.store (j:=1) (cs':=#[.int .i64 700001,.int .i64 0,.int .u8 0,.int .u8 0,.int .i64 0]) (M':=[pt b_c3 (.cells #[.int .i64 0,.int .i64 0,.int .u8 0,.int .u8 0,.int .i64 0] 24 (0,0)),pt b_n2 (.cells #[.int .i64 700001,.int .i64 0,.int .u8 0,.int .u8 0,.int .i64 0] 24 (0,0))]) hf hS rfl rfl rfl T_size_24 rfl rfl rfl (Nat.le_of_ble_eq_true rfl) rfl rfl ?_
  clear hS; intro w hS
  refine O.store (j:=0) (cs':=#[.int .i64 0,.int .i64 2026,.int .u8 87,.int .u8 67,.int .i64 0]) (M':=[pt b_c3 (.cells #[.int .i64 0,.int .i64 2026,.int .u8 87,.int .u8 67,.int .i64 0] 24 (0,0)),pt b_n2 (.cells #[.int .i64 700001,.int .i64 0,.int .u8 0,.int .u8 0,.int .i64 0] 24 (0,0))]) hf hS rfl rfl rfl T_size_24 rfl rfl rfl (Nat.le_of_ble_eq_true rfl) rfl rfl ?_
  clear hS; intro w hS
  refine O.nil ?_
  refine k_seq ?_
  replace hf:Fr a 273 [] [(0,.bool false),(1,.pointer (some ⟨b_n2,0,none⟩)),(2,.pointer (some ⟨b_c3,0,none⟩))]:=hf.to ⟨rfl,rfl,rfl,trivial⟩
  refine W.seq ?_
  refine W.regionL (l:=[0,1,2,3]) rfl ?_
  refine O.val hf rfl rfl rfl (RunV.loadN (cs':=#[.int .i64 0,.int .i64 2026,.int .u8 87,.int .u8 67,.int .i64 0]) T_agg_24 T_size_24 rfl (hS.ptAt (i:=0) rfl) (Nat.le_of_ble_eq_true rfl) rfl) ?_
  clear hf a; intro a hf
  refine O.val hf rfl rfl rfl (RunV.buildS (cs':=#[.int .u8 1,.int .i64 0,.int .i64 2026,.int .u8 87,.int .u8 67,.int .i64 0,.int .i64 0,.int .i64 0,.int .u8 0,.int .u8 0,.int .i64 0,.int .i64 0]) T_places_26 T_zero_26 rfl (by kernel_rfl)) ?_
  clear hf a; intro a hf
  refine O.alloc (cs:=#[.int .u8 0,.int .i64 0,.int .i64 0,.int .u8 0,.int .u8 0,.int .i64 0,.int .i64 0,.int .i64 0,.int .u8 0,.int .u8 0,.int .i64 0,.int .i64 0]) hf hS rfl rfl T_zero_26 rfl ?_
  clear hf hS a; intro b_plus4 w a hbb_plus4 hS hf
  refine O.store (j:=0) (v:=.agg #[.int .u8 1,.int .i64 0,.int .i64 2026,.int .u8 87,.int .u8 67,.int .i64 0,.int .i64 0,.int .i64 0,.int .u8 0,.int .u8 0,.int .i64 0,.int .i64 0]) (cs':=#[.int .u8 1,.int .i64 0,.int .i64 2026,.int .u8 87,.int .u8 67,.int .i64 0,.int .i64 0,.int .i64 0,.int .u8 0,.int .u8 0,.int .i64 0,.int .i64 0]) (M':=[pt b_plus4 (.cells #[.int .u8 1,.int .i64 0,.int .i64 2026,.int .u8 87,.int .u8 67,.int .i64 0,.int .i64 0,.int .i64 0,.int .u8 0,.int .u8 0,.int .i64 0,.int .i64 0] 26 (0,0)),pt b_c3 (.cells #[.int .i64 0,.int .i64 2026,.int .u8 87,.int .u8 67,.int .i64 0] 24 (0,0)),pt b_n2 (.cells #[.int .i64 700001,.int .i64 0,.int .u8 0,.int .u8 0,.int .i64 0] 24 (0,0))]) hf hS rfl rfl rfl T_size_26 (by kernel_rfl) (by kernel_rfl) rfl (Nat.le_of_ble_eq_true rfl) (by kernel_rfl) rfl ?_
  clear hS; intro w hS
  refine O.nil ?_
  refine k_seq ?_
  replace hf:Fr a 273 [] [(0,.bool false),(1,.pointer (some ⟨b_n2,0,none⟩)),(2,.pointer (some ⟨b_c3,0,none⟩)),(3,.pointer (some ⟨b_plus4,0,none⟩))]:=hf.to ⟨rfl,rfl,rfl,rfl,trivial⟩
  refine W.seq ?_
  refine W.regionL (l:=[0,1,2]) rfl ?_
  refine O.val hf rfl rfl rfl (RunV.buildS (cs':=#[.int .u8 4,.int .i64 0,.int .i64 0,.int .u8 0,.int .u8 0,.int .i64 0,.int .i64 0,.int .i64 0,.int .u8 0,.int .u8 0,.int .i64 0,.int .i64 2]) T_places_26 T_zero_26 rfl (by kernel_rfl)) ?_
  clear hf a; intro a hf
  refine O.alloc (cs:=#[.int .u8 0,.int .i64 0,.int .i64 0,.int .u8 0,.int .u8 0,.int .i64 0,.int .i64 0,.int .i64 0,.int .u8 0,.int .u8 0,.int .i64 0,.int .i64 0]) hf hS rfl rfl T_zero_26 rfl ?_
  clear hf hS a; intro b_undo5 w a hbb_undo5 hS hf
  refine O.store (j:=0) (v:=.agg #[.int .u8 4,.int .i64 0,.int .i64 0,.int .u8 0,.int .u8 0,.int .i64 0,.int .i64 0,.int .i64 0,.int .u8 0,.int .u8 0,.int .i64 0,.int .i64 2]) (cs':=#[.int .u8 4,.int .i64 0,.int .i64 0,.int .u8 0,.int .u8 0,.int .i64 0,.int .i64 0,.int .i64 0,.int .u8 0,.int .u8 0,.int .i64 0,.int .i64 2]) (M':=[pt b_undo5 (.cells #[.int .u8 4,.int .i64 0,.int .i64 0,.int .u8 0,.int .u8 0,.int .i64 0,.int .i64 0,.int .i64 0,.int .u8 0,.int .u8 0,.int .i64 0,.int .i64 2] 26 (0,0)),pt b_plus4 (.cells #[.int .u8 1,.int .i64 0,.int .i64 2026,.int .u8 87,.int .u8 67,.int .i64 0,.int .i64 0,.int .i64 0,.int .u8 0,.int .u8 0,.int .i64 0,.int .i64 0] 26 (0,0)),pt b_c3 (.cells #[.int .i64 0,.int .i64 2026,.int .u8 87,.int .u8 67,.int .i64 0] 24 (0,0)),pt b_n2 (.cells #[.int .i64 700001,.int .i64 0,.int .u8 0,.int .u8 0,.int .i64 0] 24 (0,0))]) hf hS rfl rfl rfl T_size_26 (by kernel_rfl) (by kernel_rfl) rfl (Nat.le_of_ble_eq_true rfl) (by kernel_rfl) rfl ?_
  clear hS; intro w hS
  refine O.nil ?_
  refine k_seq ?_
  replace hf:Fr a 273 [] [(0,.bool false),(1,.pointer (some ⟨b_n2,0,none⟩)),(2,.pointer (some ⟨b_c3,0,none⟩)),(3,.pointer (some ⟨b_plus4,0,none⟩)),(4,.pointer (some ⟨b_undo5,0,none⟩))]:=hf.to ⟨rfl,rfl,rfl,rfl,rfl,trivial⟩
  refine W.seq ?_
  replace hf:Fr a 273 [] [(0,.bool false),(1,.pointer (some ⟨b_n2,0,none⟩)),(2,.pointer (some ⟨b_c3,0,none⟩)),(3,.pointer (some ⟨b_plus4,0,none⟩)),(4,.pointer (some ⟨b_undo5,0,none⟩))]:=hf.to ⟨rfl,rfl,rfl,rfl,rfl,trivial⟩
  let LZ73:List (Nat × Value):=[(0,.bool false),(1,.pointer (some ⟨b_n2,0,none⟩)),(2,.pointer (some ⟨b_c3,0,none⟩)),(3,.pointer (some ⟨b_plus4,0,none⟩)),(4,.pointer (some ⟨b_undo5,0,none⟩))]
  let MZ73:List Asr:=[pt b_undo5 (.cells #[.int .u8 4,.int .i64 0,.int .i64 0,.int .u8 0,.int .u8 0,.int .i64 0,.int .i64 0,.int .i64 0,.int .u8 0,.int .u8 0,.int .i64 0,.int .i64 2] 26 (0,0)),pt b_plus4 (.cells #[.int .u8 1,.int .i64 0,.int .i64 2026,.int .u8 87,.int .u8 67,.int .i64 0,.int .i64 0,.int .i64 0,.int .u8 0,.int .u8 0,.int .i64 0,.int .i64 0] 26 (0,0)),pt b_c3 (.cells #[.int .i64 0,.int .i64 2026,.int .u8 87,.int .u8 67,.int .i64 0] 24 (0,0)),pt b_n2 (.cells #[.int .i64 700001,.int .i64 0,.int .u8 0,.int .u8 0,.int .i64 0] 24 (0,0))]
  refine W.drawC (γ:=(Nat) × (Nat) × (Nat) × (Nat) × (Nat) × (Nat) × (Nat) × (Nat) × (Nat) × (Nat)) (L0:=LZ73) (L1:=[]) (0,0,0,0,0,0,0,0,0,0) [2,8,15,22,30,37,42,48,54,65] [] [0,1,3,4,5,6,7,9,10,11,12,13,14,16,17,18,19,20,21,23,24,25,26,27,28,29,31,32,33,34,35,36,38,39,40,41,43,44,45,46,47,49,50,51,52,53,55,56,57,58,59,60,61,62,63,64,66,67,68] (fun i_=>match i_ with | 0=>[] | 1=>[0] | 2=>[1] | 3=>[0,2] | 4=>[3] | 5=>[4] | 6=>[4] | 7=>[4,5,6] | 8=>[4,7] | 9=>[4,6,8] | 10=>[4,9] | 11=>[9,10] | 12=>[11] | 13=>[11] | 14=>[11,12,13] | 15=>[11,14] | 16=>[11,13,15] | 17=>[11,16] | 18=>[16,17] | 19=>[18] | 20=>[18] | 21=>[18,19,20] | 22=>[18,21] | 23=>[18,22] | 24=>[18,23] | 25=>[23,24] | 26=>[25] | 27=>[25] | 28=>[25] | 29=>[25,27,28] | 30=>[25,26,29] | 31=>[25,30] | 32=>[25,31] | 33=>[31,32] | 34=>[33] | 35=>[33] | 36=>[33,34,35] | 37=>[33,36] | 38=>[33,34,37] | 39=>[33,38] | 40=>[38,39] | 41=>[40] | 42=>[40,41] | 43=>[40,42] | 44=>[40,43] | 45=>[43,44] | 46=>[45] | 47=>[45] | 48=>[45,46,47] | 49=>[45,48] | 50=>[45,49] | 51=>[49,50] | 52=>[51] | 53=>[51] | 54=>[51,52,53] | 55=>[51,54] | 56=>[51,55] | 57=>[55,56] | 58=>[57] | 59=>[57] | 60=>[57] | 61=>[57,59,60] | 62=>[57] | 63=>[57] | 64=>[57,62,63] | 65=>[57,58,61,64] | 66=>[57,65] | 67=>[57,66] | 68=>[0,1,2,3,4,5,6,7,8,9,10,11,12,13,14,15,16,17,18,19,20,21,22,23,24,25,26,27,28,29,30,31,32,33,34,35,36,37,38,39,40,41,42,43,44,45,46,47,48,49,50,51,52,53,54,55,56,57,58,59,60,61,62,63,64,65,66,67] | _=>[]) (fun i_=>match i_ with | 0=>[] | 1=>[] | 2=>[] | 3=>[2] | 4=>[2] | 5=>[2] | 6=>[2] | 7=>[2] | 8=>[2] | 9=>[2,8] | 10=>[2,8] | 11=>[2,8] | 12=>[2,8] | 13=>[2,8] | 14=>[2,8] | 15=>[2,8] | 16=>[2,8,15] | 17=>[2,8,15] | 18=>[2,8,15] | 19=>[2,8,15] | 20=>[2,8,15] | 21=>[2,8,15] | 22=>[2,8,15] | 23=>[2,8,15,22] | 24=>[2,8,15,22] | 25=>[2,8,15,22] | 26=>[2,8,15,22] | 27=>[2,8,15,22] | 28=>[2,8,15,22] | 29=>[2,8,15,22] | 30=>[2,8,15,22] | 31=>[2,8,15,22,30] | 32=>[2,8,15,22,30] | 33=>[2,8,15,22,30] | 34=>[2,8,15,22,30] | 35=>[2,8,15,22,30] | 36=>[2,8,15,22,30] | 37=>[2,8,15,22,30] | 38=>[2,8,15,22,30,37] | 39=>[2,8,15,22,30,37] | 40=>[2,8,15,22,30,37] | 41=>[2,8,15,22,30,37] | 42=>[2,8,15,22,30,37] | 43=>[2,8,15,22,30,37,42] | 44=>[2,8,15,22,30,37,42] | 45=>[2,8,15,22,30,37,42] | 46=>[2,8,15,22,30,37,42] | 47=>[2,8,15,22,30,37,42] | 48=>[2,8,15,22,30,37,42] | 49=>[2,8,15,22,30,37,42,48] | 50=>[2,8,15,22,30,37,42,48] | 51=>[2,8,15,22,30,37,42,48] | 52=>[2,8,15,22,30,37,42,48] | 53=>[2,8,15,22,30,37,42,48] | 54=>[2,8,15,22,30,37,42,48] | 55=>[2,8,15,22,30,37,42,48,54] | 56=>[2,8,15,22,30,37,42,48,54] | 57=>[2,8,15,22,30,37,42,48,54] | 58=>[2,8,15,22,30,37,42,48,54] | 59=>[2,8,15,22,30,37,42,48,54] | 60=>[2,8,15,22,30,37,42,48,54] | 61=>[2,8,15,22,30,37,42,48,54] | 62=>[2,8,15,22,30,37,42,48,54] | 63=>[2,8,15,22,30,37,42,48,54] | 64=>[2,8,15,22,30,37,42,48,54] | 65=>[2,8,15,22,30,37,42,48,54] | 66=>[2,8,15,22,30,37,42,48,54,65] | 67=>[2,8,15,22,30,37,42,48,54,65] | 68=>[2,8,15,22,30,37,42,48,54,65] | _=>[]) (fun i_=>match i_ with | 0=>[2,8,15,22,30,37,42,48,54,65] | 1=>[2,8,15,22,30,37,42,48,54,65] | 2=>[8,15,22,30,37,42,48,54,65] | 3=>[8,15,22,30,37,42,48,54,65] | 4=>[8,15,22,30,37,42,48,54,65] | 5=>[8,15,22,30,37,42,48,54,65] | 6=>[8,15,22,30,37,42,48,54,65] | 7=>[8,15,22,30,37,42,48,54,65] | 8=>[15,22,30,37,42,48,54,65] | 9=>[15,22,30,37,42,48,54,65] | 10=>[15,22,30,37,42,48,54,65] | 11=>[15,22,30,37,42,48,54,65] | 12=>[15,22,30,37,42,48,54,65] | 13=>[15,22,30,37,42,48,54,65] | 14=>[15,22,30,37,42,48,54,65] | 15=>[22,30,37,42,48,54,65] | 16=>[22,30,37,42,48,54,65] | 17=>[22,30,37,42,48,54,65] | 18=>[22,30,37,42,48,54,65] | 19=>[22,30,37,42,48,54,65] | 20=>[22,30,37,42,48,54,65] | 21=>[22,30,37,42,48,54,65] | 22=>[30,37,42,48,54,65] | 23=>[30,37,42,48,54,65] | 24=>[30,37,42,48,54,65] | 25=>[30,37,42,48,54,65] | 26=>[30,37,42,48,54,65] | 27=>[30,37,42,48,54,65] | 28=>[30,37,42,48,54,65] | 29=>[30,37,42,48,54,65] | 30=>[37,42,48,54,65] | 31=>[37,42,48,54,65] | 32=>[37,42,48,54,65] | 33=>[37,42,48,54,65] | 34=>[37,42,48,54,65] | 35=>[37,42,48,54,65] | 36=>[37,42,48,54,65] | 37=>[42,48,54,65] | 38=>[42,48,54,65] | 39=>[42,48,54,65] | 40=>[42,48,54,65] | 41=>[42,48,54,65] | 42=>[48,54,65] | 43=>[48,54,65] | 44=>[48,54,65] | 45=>[48,54,65] | 46=>[48,54,65] | 47=>[48,54,65] | 48=>[54,65] | 49=>[54,65] | 50=>[54,65] | 51=>[54,65] | 52=>[54,65] | 53=>[54,65] | 54=>[65] | 55=>[65] | 56=>[65] | 57=>[65] | 58=>[65] | 59=>[65] | 60=>[65] | 61=>[65] | 62=>[65] | 63=>[65] | 64=>[65] | 65=>[] | 66=>[] | 67=>[] | 68=>[] | _=>[]) (fun _=>[]) (fun i_=>match i_ with | 0=>[] | 1=>[] | 2=>[3,4,5,6,7,8,9,10,11,12,13,14,15,16,17,18,19,20,21,22,23,24,25,26,27,28,29,30,31,32,33,34,35,36,37,38,39,40,41,42,43,44,45,46,47,48,49,50,51,52,53,54,55,56,57,58,59,60,61,62,63,64,65,66,67,68] | 3=>[] | 4=>[] | 5=>[] | 6=>[] | 7=>[] | 8=>[9,10,11,12,13,14,15,16,17,18,19,20,21,22,23,24,25,26,27,28,29,30,31,32,33,34,35,36,37,38,39,40,41,42,43,44,45,46,47,48,49,50,51,52,53,54,55,56,57,58,59,60,61,62,63,64,65,66,67,68] | 9=>[] | 10=>[] | 11=>[] | 12=>[] | 13=>[] | 14=>[] | 15=>[16,17,18,19,20,21,22,23,24,25,26,27,28,29,30,31,32,33,34,35,36,37,38,39,40,41,42,43,44,45,46,47,48,49,50,51,52,53,54,55,56,57,58,59,60,61,62,63,64,65,66,67,68] | 16=>[] | 17=>[] | 18=>[] | 19=>[] | 20=>[] | 21=>[] | 22=>[23,24,25,26,27,28,29,30,31,32,33,34,35,36,37,38,39,40,41,42,43,44,45,46,47,48,49,50,51,52,53,54,55,56,57,58,59,60,61,62,63,64,65,66,67,68] | 23=>[] | 24=>[] | 25=>[] | 26=>[] | 27=>[] | 28=>[] | 29=>[] | 30=>[31,32,33,34,35,36,37,38,39,40,41,42,43,44,45,46,47,48,49,50,51,52,53,54,55,56,57,58,59,60,61,62,63,64,65,66,67,68] | 31=>[] | 32=>[] | 33=>[] | 34=>[] | 35=>[] | 36=>[] | 37=>[38,39,40,41,42,43,44,45,46,47,48,49,50,51,52,53,54,55,56,57,58,59,60,61,62,63,64,65,66,67,68] | 38=>[] | 39=>[] | 40=>[] | 41=>[] | 42=>[43,44,45,46,47,48,49,50,51,52,53,54,55,56,57,58,59,60,61,62,63,64,65,66,67,68] | 43=>[] | 44=>[] | 45=>[] | 46=>[] | 47=>[] | 48=>[49,50,51,52,53,54,55,56,57,58,59,60,61,62,63,64,65,66,67,68] | 49=>[] | 50=>[] | 51=>[] | 52=>[] | 53=>[] | 54=>[55,56,57,58,59,60,61,62,63,64,65,66,67,68] | 55=>[] | 56=>[] | 57=>[] | 58=>[] | 59=>[] | 60=>[] | 61=>[] | 62=>[] | 63=>[] | 64=>[] | 65=>[66,67,68] | 66=>[] | 67=>[] | 68=>[] | _=>[]) (fun _=>[]) (fun i_=>match i_ with | 0=>0 | 1=>0 | 2=>0 | 3=>1 | 4=>1 | 5=>1 | 6=>1 | 7=>1 | 8=>1 | 9=>2 | 10=>2 | 11=>2 | 12=>2 | 13=>2 | 14=>2 | 15=>2 | 16=>3 | 17=>3 | 18=>3 | 19=>3 | 20=>3 | 21=>3 | 22=>3 | 23=>4 | 24=>4 | 25=>4 | 26=>4 | 27=>4 | 28=>4 | 29=>4 | 30=>4 | 31=>5 | 32=>5 | 33=>5 | 34=>5 | 35=>5 | 36=>5 | 37=>5 | 38=>6 | 39=>6 | 40=>6 | 41=>6 | 42=>6 | 43=>7 | 44=>7 | 45=>7 | 46=>7 | 47=>7 | 48=>7 | 49=>8 | 50=>8 | 51=>8 | 52=>8 | 53=>8 | 54=>8 | 55=>9 | 56=>9 | 57=>9 | 58=>9 | 59=>9 | 60=>9 | 61=>9 | 62=>9 | 63=>9 | 64=>9 | 65=>9 | 66=>10 | 67=>10 | 68=>10 | _=>0) (fun i_=>match i_ with | 0=>0 | 1=>0 | 2=>1 | 3=>1 | 4=>1 | 5=>1 | 6=>1 | 7=>1 | 8=>2 | 9=>2 | 10=>2 | 11=>2 | 12=>2 | 13=>2 | 14=>2 | 15=>3 | 16=>3 | 17=>3 | 18=>3 | 19=>3 | 20=>3 | 21=>3 | 22=>4 | 23=>4 | 24=>4 | 25=>4 | 26=>4 | 27=>4 | 28=>4 | 29=>4 | 30=>5 | 31=>5 | 32=>5 | 33=>5 | 34=>5 | 35=>5 | 36=>5 | 37=>6 | 38=>6 | 39=>6 | 40=>6 | 41=>6 | 42=>7 | 43=>7 | 44=>7 | 45=>7 | 46=>7 | 47=>7 | 48=>8 | 49=>8 | 50=>8 | 51=>8 | 52=>8 | 53=>8 | 54=>9 | 55=>9 | 56=>9 | 57=>9 | 58=>9 | 59=>9 | 60=>9 | 61=>9 | 62=>9 | 63=>9 | 64=>9 | 65=>10 | 66=>10 | 67=>10 | 68=>10 | _=>0) (fun (g:(Nat) × (Nat) × (Nat) × (Nat) × (Nat) × (Nat) × (Nat) × (Nat) × (Nat) × (Nat)) j_=>match g,j_ with | ⟨s7,s10,s13,s15,s17,s20,s22,s24,s26,s28⟩,0=>.agg #[.int .i64 0,.int .i64 2026,.int .u8 87,.int .u8 65,.int .i64 0] | ⟨s7,s10,s13,s15,s17,s20,s22,s24,s26,s28⟩,1=>.agg #[.int .u8 1,.int .i64 0,.int .i64 2026,.int .u8 87,.int .u8 65,.int .i64 0,.int .i64 0,.int .i64 0,.int .u8 0,.int .u8 0,.int .i64 0,.int .i64 0] | ⟨s7,s10,s13,s15,s17,s20,s22,s24,s26,s28⟩,2=>.slice (some ⟨s7,0,none⟩) 1 1 | ⟨s7,s10,s13,s15,s17,s20,s22,s24,s26,s28⟩,3=>.bool true | ⟨s7,s10,s13,s15,s17,s20,s22,s24,s26,s28⟩,4=>.bool true | ⟨s7,s10,s13,s15,s17,s20,s22,s24,s26,s28⟩,5=>.agg #[.int .i64 0,.int .i64 2026,.int .u8 87,.int .u8 67,.int .i64 0] | ⟨s7,s10,s13,s15,s17,s20,s22,s24,s26,s28⟩,6=>.agg #[.int .i64 0,.int .i64 2026,.int .u8 87,.int .u8 65,.int .i64 0] | ⟨s7,s10,s13,s15,s17,s20,s22,s24,s26,s28⟩,7=>.agg #[.int .u8 2,.int .i64 0,.int .i64 2026,.int .u8 87,.int .u8 67,.int .i64 0,.int .i64 0,.int .i64 2026,.int .u8 87,.int .u8 65,.int .i64 0,.int .i64 0] | ⟨s7,s10,s13,s15,s17,s20,s22,s24,s26,s28⟩,8=>.slice (some ⟨s10,0,none⟩) 1 1 | ⟨s7,s10,s13,s15,s17,s20,s22,s24,s26,s28⟩,9=>.bool true | ⟨s7,s10,s13,s15,s17,s20,s22,s24,s26,s28⟩,10=>.bool true | ⟨s7,s10,s13,s15,s17,s20,s22,s24,s26,s28⟩,11=>.bool true | ⟨s7,s10,s13,s15,s17,s20,s22,s24,s26,s28⟩,12=>.agg #[.int .i64 700001,.int .i64 0,.int .u8 0,.int .u8 0,.int .i64 0] | ⟨s7,s10,s13,s15,s17,s20,s22,s24,s26,s28⟩,13=>.agg #[.int .i64 0,.int .i64 2026,.int .u8 87,.int .u8 65,.int .i64 0] | ⟨s7,s10,s13,s15,s17,s20,s22,s24,s26,s28⟩,14=>.agg #[.int .u8 2,.int .i64 700001,.int .i64 0,.int .u8 0,.int .u8 0,.int .i64 0,.int .i64 0,.int .i64 2026,.int .u8 87,.int .u8 65,.int .i64 0,.int .i64 0] | ⟨s7,s10,s13,s15,s17,s20,s22,s24,s26,s28⟩,15=>.slice (some ⟨s13,0,none⟩) 1 1 | ⟨s7,s10,s13,s15,s17,s20,s22,s24,s26,s28⟩,16=>.bool true | ⟨s7,s10,s13,s15,s17,s20,s22,s24,s26,s28⟩,17=>.bool true | ⟨s7,s10,s13,s15,s17,s20,s22,s24,s26,s28⟩,18=>.bool true | ⟨s7,s10,s13,s15,s17,s20,s22,s24,s26,s28⟩,19=>.agg #[.int .i64 0,.int .i64 2026,.int .u8 87,.int .u8 67,.int .i64 0] | ⟨s7,s10,s13,s15,s17,s20,s22,s24,s26,s28⟩,20=>.agg #[.int .i64 1,.int .i64 0,.int .u8 0,.int .u8 0,.int .i64 0] | ⟨s7,s10,s13,s15,s17,s20,s22,s24,s26,s28⟩,21=>.agg #[.int .u8 3,.int .i64 0,.int .i64 2026,.int .u8 87,.int .u8 67,.int .i64 0,.int .i64 1,.int .i64 0,.int .u8 0,.int .u8 0,.int .i64 0,.int .i64 0] | ⟨s7,s10,s13,s15,s17,s20,s22,s24,s26,s28⟩,22=>.slice (some ⟨s15,0,none⟩) 1 1 | ⟨s7,s10,s13,s15,s17,s20,s22,s24,s26,s28⟩,23=>.bool true | ⟨s7,s10,s13,s15,s17,s20,s22,s24,s26,s28⟩,24=>.bool true | ⟨s7,s10,s13,s15,s17,s20,s22,s24,s26,s28⟩,25=>.bool true | ⟨s7,s10,s13,s15,s17,s20,s22,s24,s26,s28⟩,26=>.agg #[.int .u8 1,.int .i64 0,.int .i64 2026,.int .u8 87,.int .u8 67,.int .i64 0,.int .i64 0,.int .i64 0,.int .u8 0,.int .u8 0,.int .i64 0,.int .i64 0] | ⟨s7,s10,s13,s15,s17,s20,s22,s24,s26,s28⟩,27=>.agg #[.int .i64 0,.int .i64 2026,.int .u8 87,.int .u8 67,.int .i64 0] | ⟨s7,s10,s13,s15,s17,s20,s22,s24,s26,s28⟩,28=>.agg #[.int .i64 700001,.int .i64 0,.int .u8 0,.int .u8 0,.int .i64 0] | ⟨s7,s10,s13,s15,s17,s20,s22,s24,s26,s28⟩,29=>.agg #[.int .u8 3,.int .i64 0,.int .i64 2026,.int .u8 87,.int .u8 67,.int .i64 0,.int .i64 700001,.int .i64 0,.int .u8 0,.int .u8 0,.int .i64 0,.int .i64 0] | ⟨s7,s10,s13,s15,s17,s20,s22,s24,s26,s28⟩,30=>.slice (some ⟨s17,0,none⟩) 2 2 | ⟨s7,s10,s13,s15,s17,s20,s22,s24,s26,s28⟩,31=>.bool true | ⟨s7,s10,s13,s15,s17,s20,s22,s24,s26,s28⟩,32=>.bool true | ⟨s7,s10,s13,s15,s17,s20,s22,s24,s26,s28⟩,33=>.bool true | ⟨s7,s10,s13,s15,s17,s20,s22,s24,s26,s28⟩,34=>.agg #[.int .i64 0,.int .i64 2026,.int .u8 87,.int .u8 65,.int .i64 0] | ⟨s7,s10,s13,s15,s17,s20,s22,s24,s26,s28⟩,35=>.agg #[.int .i64 1,.int .i64 0,.int .u8 0,.int .u8 0,.int .i64 0] | ⟨s7,s10,s13,s15,s17,s20,s22,s24,s26,s28⟩,36=>.agg #[.int .u8 3,.int .i64 0,.int .i64 2026,.int .u8 87,.int .u8 65,.int .i64 0,.int .i64 1,.int .i64 0,.int .u8 0,.int .u8 0,.int .i64 0,.int .i64 0] | ⟨s7,s10,s13,s15,s17,s20,s22,s24,s26,s28⟩,37=>.slice (some ⟨s20,0,none⟩) 1 1 | ⟨s7,s10,s13,s15,s17,s20,s22,s24,s26,s28⟩,38=>.bool true | ⟨s7,s10,s13,s15,s17,s20,s22,s24,s26,s28⟩,39=>.bool true | ⟨s7,s10,s13,s15,s17,s20,s22,s24,s26,s28⟩,40=>.bool true | ⟨s7,s10,s13,s15,s17,s20,s22,s24,s26,s28⟩,41=>.agg #[.int .u8 4,.int .i64 0,.int .i64 0,.int .u8 0,.int .u8 0,.int .i64 0,.int .i64 0,.int .i64 0,.int .u8 0,.int .u8 0,.int .i64 0,.int .i64 4] | ⟨s7,s10,s13,s15,s17,s20,s22,s24,s26,s28⟩,42=>.slice (some ⟨s22,0,none⟩) 1 1 | ⟨s7,s10,s13,s15,s17,s20,s22,s24,s26,s28⟩,43=>.bool true | ⟨s7,s10,s13,s15,s17,s20,s22,s24,s26,s28⟩,44=>.bool true | ⟨s7,s10,s13,s15,s17,s20,s22,s24,s26,s28⟩,45=>.bool true | ⟨s7,s10,s13,s15,s17,s20,s22,s24,s26,s28⟩,46=>.agg #[.int .u8 4,.int .i64 0,.int .i64 0,.int .u8 0,.int .u8 0,.int .i64 0,.int .i64 0,.int .i64 0,.int .u8 0,.int .u8 0,.int .i64 0,.int .i64 2] | ⟨s7,s10,s13,s15,s17,s20,s22,s24,s26,s28⟩,47=>.agg #[.int .u8 4,.int .i64 0,.int .i64 0,.int .u8 0,.int .u8 0,.int .i64 0,.int .i64 0,.int .i64 0,.int .u8 0,.int .u8 0,.int .i64 0,.int .i64 2] | ⟨s7,s10,s13,s15,s17,s20,s22,s24,s26,s28⟩,48=>.slice (some ⟨s24,0,none⟩) 2 2 | ⟨s7,s10,s13,s15,s17,s20,s22,s24,s26,s28⟩,49=>.bool true | ⟨s7,s10,s13,s15,s17,s20,s22,s24,s26,s28⟩,50=>.bool true | ⟨s7,s10,s13,s15,s17,s20,s22,s24,s26,s28⟩,51=>.bool true | ⟨s7,s10,s13,s15,s17,s20,s22,s24,s26,s28⟩,52=>.agg #[.int .u8 4,.int .i64 0,.int .i64 0,.int .u8 0,.int .u8 0,.int .i64 0,.int .i64 0,.int .i64 0,.int .u8 0,.int .u8 0,.int .i64 0,.int .i64 2] | ⟨s7,s10,s13,s15,s17,s20,s22,s24,s26,s28⟩,53=>.agg #[.int .u8 4,.int .i64 0,.int .i64 0,.int .u8 0,.int .u8 0,.int .i64 0,.int .i64 0,.int .i64 0,.int .u8 0,.int .u8 0,.int .i64 0,.int .i64 4] | ⟨s7,s10,s13,s15,s17,s20,s22,s24,s26,s28⟩,54=>.slice (some ⟨s26,0,none⟩) 2 2 | ⟨s7,s10,s13,s15,s17,s20,s22,s24,s26,s28⟩,55=>.bool true | ⟨s7,s10,s13,s15,s17,s20,s22,s24,s26,s28⟩,56=>.bool true | ⟨s7,s10,s13,s15,s17,s20,s22,s24,s26,s28⟩,57=>.bool true | ⟨s7,s10,s13,s15,s17,s20,s22,s24,s26,s28⟩,58=>.agg #[.int .u8 1,.int .i64 0,.int .i64 2026,.int .u8 87,.int .u8 67,.int .i64 0,.int .i64 0,.int .i64 0,.int .u8 0,.int .u8 0,.int .i64 0,.int .i64 0] | ⟨s7,s10,s13,s15,s17,s20,s22,s24,s26,s28⟩,59=>.agg #[.int .i64 0,.int .i64 2026,.int .u8 87,.int .u8 67,.int .i64 0] | ⟨s7,s10,s13,s15,s17,s20,s22,s24,s26,s28⟩,60=>.agg #[.int .i64 1,.int .i64 0,.int .u8 0,.int .u8 0,.int .i64 0] | ⟨s7,s10,s13,s15,s17,s20,s22,s24,s26,s28⟩,61=>.agg #[.int .u8 3,.int .i64 0,.int .i64 2026,.int .u8 87,.int .u8 67,.int .i64 0,.int .i64 1,.int .i64 0,.int .u8 0,.int .u8 0,.int .i64 0,.int .i64 0] | ⟨s7,s10,s13,s15,s17,s20,s22,s24,s26,s28⟩,62=>.agg #[.int .i64 0,.int .i64 2026,.int .u8 87,.int .u8 67,.int .i64 0] | ⟨s7,s10,s13,s15,s17,s20,s22,s24,s26,s28⟩,63=>.agg #[.int .i64 700001,.int .i64 0,.int .u8 0,.int .u8 0,.int .i64 0] | ⟨s7,s10,s13,s15,s17,s20,s22,s24,s26,s28⟩,64=>.agg #[.int .u8 2,.int .i64 0,.int .i64 2026,.int .u8 87,.int .u8 67,.int .i64 0,.int .i64 700001,.int .i64 0,.int .u8 0,.int .u8 0,.int .i64 0,.int .i64 0] | ⟨s7,s10,s13,s15,s17,s20,s22,s24,s26,s28⟩,65=>.slice (some ⟨s28,0,none⟩) 3 3 | ⟨s7,s10,s13,s15,s17,s20,s22,s24,s26,s28⟩,66=>.bool true | ⟨s7,s10,s13,s15,s17,s20,s22,s24,s26,s28⟩,67=>.bool true | ⟨s7,s10,s13,s15,s17,s20,s22,s24,s26,s28⟩,68=>.bool true | _,_=>undef) (fun k_ (_:Nat→Bool) (g:(Nat) × (Nat) × (Nat) × (Nat) × (Nat) × (Nat) × (Nat) × (Nat) × (Nat) × (Nat)) w=>match k_,g with | 0,⟨s7,s10,s13,s15,s17,s20,s22,s24,s26,s28⟩=>St w0 w noX [ordA] MZ73 | 1,⟨s7,s10,s13,s15,s17,s20,s22,s24,s26,s28⟩=>St w0 w noX [ordA] (pt s7 (.cells #[.int .u8 1,.int .i64 0,.int .i64 2026,.int .u8 87,.int .u8 65,.int .i64 0,.int .i64 0,.int .i64 0,.int .u8 0,.int .u8 0,.int .i64 0,.int .i64 0] 26 (0,0))::MZ73) | 2,⟨s7,s10,s13,s15,s17,s20,s22,s24,s26,s28⟩=>St w0 w noX [ordA] (pt s10 (.cells #[.int .u8 2,.int .i64 0,.int .i64 2026,.int .u8 87,.int .u8 67,.int .i64 0,.int .i64 0,.int .i64 2026,.int .u8 87,.int .u8 65,.int .i64 0,.int .i64 0] 26 (0,0))::MZ73) | 3,⟨s7,s10,s13,s15,s17,s20,s22,s24,s26,s28⟩=>St w0 w noX [ordA] (pt s13 (.cells #[.int .u8 2,.int .i64 700001,.int .i64 0,.int .u8 0,.int .u8 0,.int .i64 0,.int .i64 0,.int .i64 2026,.int .u8 87,.int .u8 65,.int .i64 0,.int .i64 0] 26 (0,0))::MZ73) | 4,⟨s7,s10,s13,s15,s17,s20,s22,s24,s26,s28⟩=>St w0 w noX [ordA] (pt s15 (.cells #[.int .u8 3,.int .i64 0,.int .i64 2026,.int .u8 87,.int .u8 67,.int .i64 0,.int .i64 1,.int .i64 0,.int .u8 0,.int .u8 0,.int .i64 0,.int .i64 0] 26 (0,0))::MZ73) | 5,⟨s7,s10,s13,s15,s17,s20,s22,s24,s26,s28⟩=>St w0 w noX [ordA] (pt s17 (.cells #[.int .u8 1,.int .i64 0,.int .i64 2026,.int .u8 87,.int .u8 67,.int .i64 0,.int .i64 0,.int .i64 0,.int .u8 0,.int .u8 0,.int .i64 0,.int .i64 0,.int .u8 3,.int .i64 0,.int .i64 2026,.int .u8 87,.int .u8 67,.int .i64 0,.int .i64 700001,.int .i64 0,.int .u8 0,.int .u8 0,.int .i64 0,.int .i64 0] 26 (0,0))::MZ73) | 6,⟨s7,s10,s13,s15,s17,s20,s22,s24,s26,s28⟩=>St w0 w noX [ordA] (pt s20 (.cells #[.int .u8 3,.int .i64 0,.int .i64 2026,.int .u8 87,.int .u8 65,.int .i64 0,.int .i64 1,.int .i64 0,.int .u8 0,.int .u8 0,.int .i64 0,.int .i64 0] 26 (0,0))::MZ73) | 7,⟨s7,s10,s13,s15,s17,s20,s22,s24,s26,s28⟩=>St w0 w noX [ordA] (pt s22 (.cells #[.int .u8 4,.int .i64 0,.int .i64 0,.int .u8 0,.int .u8 0,.int .i64 0,.int .i64 0,.int .i64 0,.int .u8 0,.int .u8 0,.int .i64 0,.int .i64 4] 26 (0,0))::MZ73) | 8,⟨s7,s10,s13,s15,s17,s20,s22,s24,s26,s28⟩=>St w0 w noX [ordA] (pt s24 (.cells #[.int .u8 4,.int .i64 0,.int .i64 0,.int .u8 0,.int .u8 0,.int .i64 0,.int .i64 0,.int .i64 0,.int .u8 0,.int .u8 0,.int .i64 0,.int .i64 2,.int .u8 4,.int .i64 0,.int .i64 0,.int .u8 0,.int .u8 0,.int .i64 0,.int .i64 0,.int .i64 0,.int .u8 0,.int .u8 0,.int .i64 0,.int .i64 2] 26 (0,0))::MZ73) | 9,⟨s7,s10,s13,s15,s17,s20,s22,s24,s26,s28⟩=>St w0 w noX [ordA] (pt s26 (.cells #[.int .u8 4,.int .i64 0,.int .i64 0,.int .u8 0,.int .u8 0,.int .i64 0,.int .i64 0,.int .i64 0,.int .u8 0,.int .u8 0,.int .i64 0,.int .i64 2,.int .u8 4,.int .i64 0,.int .i64 0,.int .u8 0,.int .u8 0,.int .i64 0,.int .i64 0,.int .i64 0,.int .u8 0,.int .u8 0,.int .i64 0,.int .i64 4] 26 (0,0))::MZ73) | _,⟨s7,s10,s13,s15,s17,s20,s22,s24,s26,s28⟩=>St w0 w noX [ordA] (pt s28 (.cells #[.int .u8 1,.int .i64 0,.int .i64 2026,.int .u8 87,.int .u8 67,.int .i64 0,.int .i64 0,.int .i64 0,.int .u8 0,.int .u8 0,.int .i64 0,.int .i64 0,.int .u8 3,.int .i64 0,.int .i64 2026,.int .u8 87,.int .u8 67,.int .i64 0,.int .i64 1,.int .i64 0,.int .u8 0,.int .u8 0,.int .i64 0,.int .i64 0,.int .u8 2,.int .i64 0,.int .i64 2026,.int .u8 87,.int .u8 67,.int .i64 0,.int .i64 700001,.int .i64 0,.int .u8 0,.int .u8 0,.int .i64 0,.int .i64 0] 26 (0,0))::MZ73)) P_mixed (by kernel_rfl) (by kernel_rfl) (by kernel_rfl) hf (hf.to trivial) hS.drew ?_ ?_ trivial ?_
  · clear hf hS
    refine ⟨?_,?_,?_,?_,?_,?_,?_,?_,?_,?_,?_,?_,?_,?_,?_,?_,?_,?_,?_,?_,?_,?_,?_,?_,?_,?_,?_,?_,?_,?_,?_,?_,?_,?_,?_,?_,?_,?_,?_,?_,?_,?_,?_,?_,?_,?_,?_,?_,?_,?_,?_,?_,?_,?_,?_,?_,?_,?_,?_,trivial⟩
    · intro k_ s_ g w hlo hhi _ hD a hf
      obtain ⟨s7,s10,s13,s15,s17,s20,s22,s24,s26,s28⟩:=g
      obtain rfl:k_=0:=Nat.le_antisymm hhi hlo
      have hS:St w0 w noX [ordA] MZ73:=hD; clear hD
      replace hf:Fr a 273 [] LZ73:=hf
      refine O.callR hf rfl rfl rfl (RunE.call (av:=#[.int .u8 65]) C_ok_28 rfl rfl rfl) (named_spec 65 _) ?_
      clear hf a
      rintro _ w30 hS1 a hf
      replace hf:Fr a _ _ ((32,.agg #[.int .i64 0,.int .i64 2026,.int .u8 87,.int .u8 65,.int .i64 0])::_):=hf
      replace hS:=(hS.call hS1).eqM (N:=MZ73) rfl
      clear hS1
      exact nD hf ⟨gt (d:=32) hf rfl rfl,hS⟩
    · intro k_ s_ g w hlo hhi _ hD a hf
      obtain ⟨s7,s10,s13,s15,s17,s20,s22,s24,s26,s28⟩:=g
      obtain rfl:k_=0:=Nat.le_antisymm hhi hlo
      have hS:St w0 w noX [ordA] MZ73:=hD; clear hD
      replace hf:Fr a 273 [] ((32,.agg #[.int .i64 0,.int .i64 2026,.int .u8 87,.int .u8 65,.int .i64 0])::LZ73):=hf
      refine O.val hf rfl rfl rfl (RunV.buildS (cs':=#[.int .u8 1,.int .i64 0,.int .i64 2026,.int .u8 87,.int .u8 65,.int .i64 0,.int .i64 0,.int .i64 0,.int .u8 0,.int .u8 0,.int .i64 0,.int .i64 0]) T_places_26 T_zero_26 rfl (by kernel_rfl)) ?_
      clear hf a; intro a hf
      exact nD hf ⟨gt (d:=33) hf rfl rfl,hS⟩
    · intro k_ s_ g w hlo hhi _ hD a hf
      obtain ⟨s7,s10,s13,s15,s17,s20,s22,s24,s26,s28⟩:=g
      obtain rfl:k_=1:=Nat.le_antisymm hhi hlo
      have hS:St w0 w noX [ordA] (pt s7 (.cells #[.int .u8 1,.int .i64 0,.int .i64 2026,.int .u8 87,.int .u8 65,.int .i64 0,.int .i64 0,.int .i64 0,.int .u8 0,.int .u8 0,.int .i64 0,.int .i64 0] 26 (0,0))::MZ73):=hD; clear hD
      replace hf:Fr a 273 [] ((32,.agg #[.int .i64 0,.int .i64 2026,.int .u8 87,.int .u8 65,.int .i64 0])::(34,.slice (some ⟨s7,0,none⟩) 1 1)::LZ73):=hf
      refine O.callR hf rfl rfl rfl (RunE.call (av:=#[.int .i64 14,.slice (some ⟨s7,0,none⟩) 1 1]) C_ok_29 rfl rfl rfl) (fails_true 14 (.slice (some ⟨s7,0,none⟩) 1 1) [⟨1,nameD 65,default,0⟩] _ (hS.bptO (i:=0) rfl) (hS.rdPt (j:=0) (n:=1) (sz:=12) (xs:=encs eC [⟨1,nameD 65,default,0⟩]) rfl (by unfold maxLen; decide) rfl rfl) (Nat.le_refl _) (by decide) nm1) ?_
      clear hf a
      rintro _ w31 hS1 a hf
      replace hf:Fr a _ _ ((35,.bool true)::_):=hf
      replace hS:=(hS.call hS1).eqM (N:=(pt s7 (.cells #[.int .u8 1,.int .i64 0,.int .i64 2026,.int .u8 87,.int .u8 65,.int .i64 0,.int .i64 0,.int .i64 0,.int .u8 0,.int .u8 0,.int .i64 0,.int .i64 0] 26 (0,0))::MZ73)) rfl
      clear hS1
      exact nD hf ⟨gt (d:=35) hf rfl rfl,hS⟩
    · intro k_ s_ g w hlo hhi _ hD a hf
      obtain ⟨s7,s10,s13,s15,s17,s20,s22,s24,s26,s28⟩:=g
      obtain rfl:k_=1:=Nat.le_antisymm hhi hlo
      have hS:St w0 w noX [ordA] (pt s7 (.cells #[.int .u8 1,.int .i64 0,.int .i64 2026,.int .u8 87,.int .u8 65,.int .i64 0,.int .i64 0,.int .i64 0,.int .u8 0,.int .u8 0,.int .i64 0,.int .i64 0] 26 (0,0))::MZ73):=hD; clear hD
      replace hf:Fr a 273 [] ((35,.bool true)::LZ73):=hf
      refine O.val hf rfl rfl rfl (RunV.move rfl) ?_
      clear hf a; intro a hf
      exact nD hf ⟨gt (d:=36) hf rfl rfl,hS⟩
    · intro k_ s_ g w hlo hhi _ hD a hf
      obtain ⟨s7,s10,s13,s15,s17,s20,s22,s24,s26,s28⟩:=g
      obtain rfl:k_=1:=Nat.le_antisymm hhi hlo
      have hS:St w0 w noX [ordA] (pt s7 (.cells #[.int .u8 1,.int .i64 0,.int .i64 2026,.int .u8 87,.int .u8 65,.int .i64 0,.int .i64 0,.int .i64 0,.int .u8 0,.int .u8 0,.int .i64 0,.int .i64 0] 26 (0,0))::MZ73):=hD; clear hD
      replace hf:Fr a 273 [] ((36,.bool true)::LZ73):=hf
      refine O.gvalB (v:=.agg #[.int .i64 0,.int .i64 2026,.int .u8 87,.int .u8 67,.int .i64 0]) hf rfl rfl rfl rfl rfl rfl (RunV.loadN (cs':=#[.int .i64 0,.int .i64 2026,.int .u8 87,.int .u8 67,.int .i64 0]) T_agg_24 T_size_24 rfl (hS.ptAt (i:=3) rfl) (Nat.le_of_ble_eq_true rfl) rfl) ?_
      clear hf a; intro a hf
      exact nD hf ⟨gt (d:=37) hf rfl rfl,hS⟩
    · intro k_ s_ g w hlo hhi _ hD a hf
      obtain ⟨s7,s10,s13,s15,s17,s20,s22,s24,s26,s28⟩:=g
      obtain rfl:k_=1:=Nat.le_antisymm hhi hlo
      have hS:St w0 w noX [ordA] (pt s7 (.cells #[.int .u8 1,.int .i64 0,.int .i64 2026,.int .u8 87,.int .u8 65,.int .i64 0,.int .i64 0,.int .i64 0,.int .u8 0,.int .u8 0,.int .i64 0,.int .i64 0] 26 (0,0))::MZ73):=hD; clear hD
      replace hf:Fr a 273 [] ((36,.bool true)::LZ73):=hf
      refine O.gcallR hf rfl rfl rfl rfl rfl rfl (RunE.call (av:=#[.int .u8 65]) C_ok_28 rfl rfl rfl) (named_spec 65 _) ?_
      clear hf a
      rintro _ w32 hS1 a hf
      replace hf:Fr a _ _ ((38,.agg #[.int .i64 0,.int .i64 2026,.int .u8 87,.int .u8 65,.int .i64 0])::_):=hf
      replace hS:=(hS.call hS1).eqM (N:=(pt s7 (.cells #[.int .u8 1,.int .i64 0,.int .i64 2026,.int .u8 87,.int .u8 65,.int .i64 0,.int .i64 0,.int .i64 0,.int .u8 0,.int .u8 0,.int .i64 0,.int .i64 0] 26 (0,0))::MZ73)) rfl
      clear hS1
      exact nD hf ⟨gt (d:=38) hf rfl rfl,hS⟩
    · intro k_ s_ g w hlo hhi _ hD a hf
      obtain ⟨s7,s10,s13,s15,s17,s20,s22,s24,s26,s28⟩:=g
      obtain rfl:k_=1:=Nat.le_antisymm hhi hlo
      have hS:St w0 w noX [ordA] (pt s7 (.cells #[.int .u8 1,.int .i64 0,.int .i64 2026,.int .u8 87,.int .u8 65,.int .i64 0,.int .i64 0,.int .i64 0,.int .u8 0,.int .u8 0,.int .i64 0,.int .i64 0] 26 (0,0))::MZ73):=hD; clear hD
      replace hf:Fr a 273 [] ((36,.bool true)::(37,.agg #[.int .i64 0,.int .i64 2026,.int .u8 87,.int .u8 67,.int .i64 0])::(38,.agg #[.int .i64 0,.int .i64 2026,.int .u8 87,.int .u8 65,.int .i64 0])::LZ73):=hf
      refine O.gvalB (v:=.agg #[.int .u8 2,.int .i64 0,.int .i64 2026,.int .u8 87,.int .u8 67,.int .i64 0,.int .i64 0,.int .i64 2026,.int .u8 87,.int .u8 65,.int .i64 0,.int .i64 0]) hf rfl rfl rfl rfl rfl rfl (RunV.buildS (cs':=#[.int .u8 2,.int .i64 0,.int .i64 2026,.int .u8 87,.int .u8 67,.int .i64 0,.int .i64 0,.int .i64 2026,.int .u8 87,.int .u8 65,.int .i64 0,.int .i64 0]) T_places_26 T_zero_26 rfl (by kernel_rfl)) ?_
      clear hf a; intro a hf
      exact nD hf ⟨gt (d:=39) hf rfl rfl,hS⟩
    · intro k_ s_ g w hlo hhi _ hD a hf
      obtain ⟨s7,s10,s13,s15,s17,s20,s22,s24,s26,s28⟩:=g
      obtain rfl:k_=2:=Nat.le_antisymm hhi hlo
      have hS:St w0 w noX [ordA] (pt s10 (.cells #[.int .u8 2,.int .i64 0,.int .i64 2026,.int .u8 87,.int .u8 67,.int .i64 0,.int .i64 0,.int .i64 2026,.int .u8 87,.int .u8 65,.int .i64 0,.int .i64 0] 26 (0,0))::MZ73):=hD; clear hD
      replace hf:Fr a 273 [] ((36,.bool true)::(38,.agg #[.int .i64 0,.int .i64 2026,.int .u8 87,.int .u8 65,.int .i64 0])::(40,.slice (some ⟨s10,0,none⟩) 1 1)::LZ73):=hf
      refine O.gcallR hf rfl rfl rfl rfl rfl rfl (RunE.call (av:=#[.int .i64 6,.slice (some ⟨s10,0,none⟩) 1 1]) C_ok_29 rfl rfl rfl) (fails_true 6 (.slice (some ⟨s10,0,none⟩) 1 1) [⟨2,nameD 67,nameD 65,0⟩] _ (hS.bptO (i:=0) rfl) (hS.rdPt (j:=0) (n:=1) (sz:=12) (xs:=encs eC [⟨2,nameD 67,nameD 65,0⟩]) rfl (by unfold maxLen; decide) rfl rfl) (Nat.le_refl _) (by decide) nm2) ?_
      clear hf a
      rintro _ w33 hS1 a hf
      replace hf:Fr a _ _ ((41,.bool true)::_):=hf
      replace hS:=(hS.call hS1).eqM (N:=(pt s10 (.cells #[.int .u8 2,.int .i64 0,.int .i64 2026,.int .u8 87,.int .u8 67,.int .i64 0,.int .i64 0,.int .i64 2026,.int .u8 87,.int .u8 65,.int .i64 0,.int .i64 0] 26 (0,0))::MZ73)) rfl
      clear hS1
      exact nD hf ⟨gt (d:=41) hf rfl rfl,hS⟩
    · intro k_ s_ g w hlo hhi _ hD a hf
      obtain ⟨s7,s10,s13,s15,s17,s20,s22,s24,s26,s28⟩:=g
      obtain rfl:k_=2:=Nat.le_antisymm hhi hlo
      have hS:St w0 w noX [ordA] (pt s10 (.cells #[.int .u8 2,.int .i64 0,.int .i64 2026,.int .u8 87,.int .u8 67,.int .i64 0,.int .i64 0,.int .i64 2026,.int .u8 87,.int .u8 65,.int .i64 0,.int .i64 0] 26 (0,0))::MZ73):=hD; clear hD
      replace hf:Fr a 273 [] ((36,.bool true)::(41,.bool true)::LZ73):=hf
      refine O.val (v:=.bool true) hf rfl rfl rfl (RunV.pick rfl rfl rfl rfl) ?_
      clear hf a; intro a hf
      exact nD hf ⟨gt (d:=42) hf rfl rfl,hS⟩
    · intro k_ s_ g w hlo hhi _ hD a hf
      obtain ⟨s7,s10,s13,s15,s17,s20,s22,s24,s26,s28⟩:=g
      obtain rfl:k_=2:=Nat.le_antisymm hhi hlo
      have hS:St w0 w noX [ordA] (pt s10 (.cells #[.int .u8 2,.int .i64 0,.int .i64 2026,.int .u8 87,.int .u8 67,.int .i64 0,.int .i64 0,.int .i64 2026,.int .u8 87,.int .u8 65,.int .i64 0,.int .i64 0] 26 (0,0))::MZ73):=hD; clear hD
      replace hf:Fr a 273 [] ((41,.bool true)::(42,.bool true)::LZ73):=hf
      refine O.val hf rfl rfl rfl (RunV.move rfl) ?_
      clear hf a; intro a hf
      exact nD hf ⟨gt (d:=43) hf rfl rfl,hS⟩
    · intro k_ s_ g w hlo hhi _ hD a hf
      obtain ⟨s7,s10,s13,s15,s17,s20,s22,s24,s26,s28⟩:=g
      obtain rfl:k_=2:=Nat.le_antisymm hhi hlo
      have hS:St w0 w noX [ordA] (pt s10 (.cells #[.int .u8 2,.int .i64 0,.int .i64 2026,.int .u8 87,.int .u8 67,.int .i64 0,.int .i64 0,.int .i64 2026,.int .u8 87,.int .u8 65,.int .i64 0,.int .i64 0] 26 (0,0))::MZ73):=hD; clear hD
      replace hf:Fr a 273 [] ((43,.bool true)::LZ73):=hf
      refine O.gvalB (v:=.agg #[.int .i64 700001,.int .i64 0,.int .u8 0,.int .u8 0,.int .i64 0]) hf rfl rfl rfl rfl rfl rfl (RunV.loadN (cs':=#[.int .i64 700001,.int .i64 0,.int .u8 0,.int .u8 0,.int .i64 0]) T_agg_24 T_size_24 rfl (hS.ptAt (i:=4) rfl) (Nat.le_of_ble_eq_true rfl) rfl) ?_
      clear hf a; intro a hf
      exact nD hf ⟨gt (d:=44) hf rfl rfl,hS⟩
    · intro k_ s_ g w hlo hhi _ hD a hf
      obtain ⟨s7,s10,s13,s15,s17,s20,s22,s24,s26,s28⟩:=g
      obtain rfl:k_=2:=Nat.le_antisymm hhi hlo
      have hS:St w0 w noX [ordA] (pt s10 (.cells #[.int .u8 2,.int .i64 0,.int .i64 2026,.int .u8 87,.int .u8 67,.int .i64 0,.int .i64 0,.int .i64 2026,.int .u8 87,.int .u8 65,.int .i64 0,.int .i64 0] 26 (0,0))::MZ73):=hD; clear hD
      replace hf:Fr a 273 [] ((43,.bool true)::LZ73):=hf
      refine O.gcallR hf rfl rfl rfl rfl rfl rfl (RunE.call (av:=#[.int .u8 65]) C_ok_28 rfl rfl rfl) (named_spec 65 _) ?_
      clear hf a
      rintro _ w34 hS1 a hf
      replace hf:Fr a _ _ ((45,.agg #[.int .i64 0,.int .i64 2026,.int .u8 87,.int .u8 65,.int .i64 0])::_):=hf
      replace hS:=(hS.call hS1).eqM (N:=(pt s10 (.cells #[.int .u8 2,.int .i64 0,.int .i64 2026,.int .u8 87,.int .u8 67,.int .i64 0,.int .i64 0,.int .i64 2026,.int .u8 87,.int .u8 65,.int .i64 0,.int .i64 0] 26 (0,0))::MZ73)) rfl
      clear hS1
      exact nD hf ⟨gt (d:=45) hf rfl rfl,hS⟩
    · intro k_ s_ g w hlo hhi _ hD a hf
      obtain ⟨s7,s10,s13,s15,s17,s20,s22,s24,s26,s28⟩:=g
      obtain rfl:k_=2:=Nat.le_antisymm hhi hlo
      have hS:St w0 w noX [ordA] (pt s10 (.cells #[.int .u8 2,.int .i64 0,.int .i64 2026,.int .u8 87,.int .u8 67,.int .i64 0,.int .i64 0,.int .i64 2026,.int .u8 87,.int .u8 65,.int .i64 0,.int .i64 0] 26 (0,0))::MZ73):=hD; clear hD
      replace hf:Fr a 273 [] ((43,.bool true)::(44,.agg #[.int .i64 700001,.int .i64 0,.int .u8 0,.int .u8 0,.int .i64 0])::(45,.agg #[.int .i64 0,.int .i64 2026,.int .u8 87,.int .u8 65,.int .i64 0])::LZ73):=hf
      refine O.gvalB (v:=.agg #[.int .u8 2,.int .i64 700001,.int .i64 0,.int .u8 0,.int .u8 0,.int .i64 0,.int .i64 0,.int .i64 2026,.int .u8 87,.int .u8 65,.int .i64 0,.int .i64 0]) hf rfl rfl rfl rfl rfl rfl (RunV.buildS (cs':=#[.int .u8 2,.int .i64 700001,.int .i64 0,.int .u8 0,.int .u8 0,.int .i64 0,.int .i64 0,.int .i64 2026,.int .u8 87,.int .u8 65,.int .i64 0,.int .i64 0]) T_places_26 T_zero_26 rfl (by kernel_rfl)) ?_
      clear hf a; intro a hf
      exact nD hf ⟨gt (d:=46) hf rfl rfl,hS⟩
    · intro k_ s_ g w hlo hhi _ hD a hf
      obtain ⟨s7,s10,s13,s15,s17,s20,s22,s24,s26,s28⟩:=g
      obtain rfl:k_=3:=Nat.le_antisymm hhi hlo
      have hS:St w0 w noX [ordA] (pt s13 (.cells #[.int .u8 2,.int .i64 700001,.int .i64 0,.int .u8 0,.int .u8 0,.int .i64 0,.int .i64 0,.int .i64 2026,.int .u8 87,.int .u8 65,.int .i64 0,.int .i64 0] 26 (0,0))::MZ73):=hD; clear hD
      replace hf:Fr a 273 [] ((43,.bool true)::(45,.agg #[.int .i64 0,.int .i64 2026,.int .u8 87,.int .u8 65,.int .i64 0])::(47,.slice (some ⟨s13,0,none⟩) 1 1)::LZ73):=hf
      refine O.gcallR hf rfl rfl rfl rfl rfl rfl (RunE.call (av:=#[.int .i64 36,.slice (some ⟨s13,0,none⟩) 1 1]) C_ok_29 rfl rfl rfl) (fails_true 36 (.slice (some ⟨s13,0,none⟩) 1 1) [⟨2,numD,nameD 65,0⟩] _ (hS.bptO (i:=0) rfl) (hS.rdPt (j:=0) (n:=1) (sz:=12) (xs:=encs eC [⟨2,numD,nameD 65,0⟩]) rfl (by unfold maxLen; decide) rfl rfl) (Nat.le_refl _) (by decide) nm3) ?_
      clear hf a
      rintro _ w35 hS1 a hf
      replace hf:Fr a _ _ ((48,.bool true)::_):=hf
      replace hS:=(hS.call hS1).eqM (N:=(pt s13 (.cells #[.int .u8 2,.int .i64 700001,.int .i64 0,.int .u8 0,.int .u8 0,.int .i64 0,.int .i64 0,.int .i64 2026,.int .u8 87,.int .u8 65,.int .i64 0,.int .i64 0] 26 (0,0))::MZ73)) rfl
      clear hS1
      exact nD hf ⟨gt (d:=48) hf rfl rfl,hS⟩
    · intro k_ s_ g w hlo hhi _ hD a hf
      obtain ⟨s7,s10,s13,s15,s17,s20,s22,s24,s26,s28⟩:=g
      obtain rfl:k_=3:=Nat.le_antisymm hhi hlo
      have hS:St w0 w noX [ordA] (pt s13 (.cells #[.int .u8 2,.int .i64 700001,.int .i64 0,.int .u8 0,.int .u8 0,.int .i64 0,.int .i64 0,.int .i64 2026,.int .u8 87,.int .u8 65,.int .i64 0,.int .i64 0] 26 (0,0))::MZ73):=hD; clear hD
      replace hf:Fr a 273 [] ((43,.bool true)::(48,.bool true)::LZ73):=hf
      refine O.val (v:=.bool true) hf rfl rfl rfl (RunV.pick rfl rfl rfl rfl) ?_
      clear hf a; intro a hf
      exact nD hf ⟨gt (d:=49) hf rfl rfl,hS⟩
    · intro k_ s_ g w hlo hhi _ hD a hf
      obtain ⟨s7,s10,s13,s15,s17,s20,s22,s24,s26,s28⟩:=g
      obtain rfl:k_=3:=Nat.le_antisymm hhi hlo
      have hS:St w0 w noX [ordA] (pt s13 (.cells #[.int .u8 2,.int .i64 700001,.int .i64 0,.int .u8 0,.int .u8 0,.int .i64 0,.int .i64 0,.int .i64 2026,.int .u8 87,.int .u8 65,.int .i64 0,.int .i64 0] 26 (0,0))::MZ73):=hD; clear hD
      replace hf:Fr a 273 [] ((48,.bool true)::(49,.bool true)::LZ73):=hf
      refine O.val hf rfl rfl rfl (RunV.move rfl) ?_
      clear hf a; intro a hf
      exact nD hf ⟨gt (d:=50) hf rfl rfl,hS⟩
    · intro k_ s_ g w hlo hhi _ hD a hf
      obtain ⟨s7,s10,s13,s15,s17,s20,s22,s24,s26,s28⟩:=g
      obtain rfl:k_=3:=Nat.le_antisymm hhi hlo
      have hS:St w0 w noX [ordA] (pt s13 (.cells #[.int .u8 2,.int .i64 700001,.int .i64 0,.int .u8 0,.int .u8 0,.int .i64 0,.int .i64 0,.int .i64 2026,.int .u8 87,.int .u8 65,.int .i64 0,.int .i64 0] 26 (0,0))::MZ73):=hD; clear hD
      replace hf:Fr a 273 [] ((50,.bool true)::LZ73):=hf
      refine O.gvalB (v:=.agg #[.int .i64 0,.int .i64 2026,.int .u8 87,.int .u8 67,.int .i64 0]) hf rfl rfl rfl rfl rfl rfl (RunV.loadN (cs':=#[.int .i64 0,.int .i64 2026,.int .u8 87,.int .u8 67,.int .i64 0]) T_agg_24 T_size_24 rfl (hS.ptAt (i:=3) rfl) (Nat.le_of_ble_eq_true rfl) rfl) ?_
      clear hf a; intro a hf
      exact nD hf ⟨gt (d:=51) hf rfl rfl,hS⟩
    · intro k_ s_ g w hlo hhi _ hD a hf
      obtain ⟨s7,s10,s13,s15,s17,s20,s22,s24,s26,s28⟩:=g
      obtain rfl:k_=3:=Nat.le_antisymm hhi hlo
      have hS:St w0 w noX [ordA] (pt s13 (.cells #[.int .u8 2,.int .i64 700001,.int .i64 0,.int .u8 0,.int .u8 0,.int .i64 0,.int .i64 0,.int .i64 2026,.int .u8 87,.int .u8 65,.int .i64 0,.int .i64 0] 26 (0,0))::MZ73):=hD; clear hD
      replace hf:Fr a 273 [] ((50,.bool true)::LZ73):=hf
      refine O.gvalB (v:=.agg #[.int .i64 1,.int .i64 0,.int .u8 0,.int .u8 0,.int .i64 0]) hf rfl rfl rfl rfl rfl rfl (RunV.buildS (cs':=#[.int .i64 1,.int .i64 0,.int .u8 0,.int .u8 0,.int .i64 0]) T_places_24 T_zero_24 rfl rfl) ?_
      clear hf a; intro a hf
      exact nD hf ⟨gt (d:=52) hf rfl rfl,hS⟩
    · intro k_ s_ g w hlo hhi _ hD a hf
      obtain ⟨s7,s10,s13,s15,s17,s20,s22,s24,s26,s28⟩:=g
      obtain rfl:k_=3:=Nat.le_antisymm hhi hlo
      have hS:St w0 w noX [ordA] (pt s13 (.cells #[.int .u8 2,.int .i64 700001,.int .i64 0,.int .u8 0,.int .u8 0,.int .i64 0,.int .i64 0,.int .i64 2026,.int .u8 87,.int .u8 65,.int .i64 0,.int .i64 0] 26 (0,0))::MZ73):=hD; clear hD
      replace hf:Fr a 273 [] ((50,.bool true)::(51,.agg #[.int .i64 0,.int .i64 2026,.int .u8 87,.int .u8 67,.int .i64 0])::(52,.agg #[.int .i64 1,.int .i64 0,.int .u8 0,.int .u8 0,.int .i64 0])::LZ73):=hf
      refine O.gvalB (v:=.agg #[.int .u8 3,.int .i64 0,.int .i64 2026,.int .u8 87,.int .u8 67,.int .i64 0,.int .i64 1,.int .i64 0,.int .u8 0,.int .u8 0,.int .i64 0,.int .i64 0]) hf rfl rfl rfl rfl rfl rfl (RunV.buildS (cs':=#[.int .u8 3,.int .i64 0,.int .i64 2026,.int .u8 87,.int .u8 67,.int .i64 0,.int .i64 1,.int .i64 0,.int .u8 0,.int .u8 0,.int .i64 0,.int .i64 0]) T_places_26 T_zero_26 rfl (by kernel_rfl)) ?_
      clear hf a; intro a hf
      exact nD hf ⟨gt (d:=53) hf rfl rfl,hS⟩
    · intro k_ s_ g w hlo hhi _ hD a hf
      obtain ⟨s7,s10,s13,s15,s17,s20,s22,s24,s26,s28⟩:=g
      obtain rfl:k_=4:=Nat.le_antisymm hhi hlo
      have hS:St w0 w noX [ordA] (pt s15 (.cells #[.int .u8 3,.int .i64 0,.int .i64 2026,.int .u8 87,.int .u8 67,.int .i64 0,.int .i64 1,.int .i64 0,.int .u8 0,.int .u8 0,.int .i64 0,.int .i64 0] 26 (0,0))::MZ73):=hD; clear hD
      replace hf:Fr a 273 [] ((50,.bool true)::(54,.slice (some ⟨s15,0,none⟩) 1 1)::LZ73):=hf
      refine O.gcallR hf rfl rfl rfl rfl rfl rfl (RunE.call (av:=#[.int .i64 6,.slice (some ⟨s15,0,none⟩) 1 1]) C_ok_29 rfl rfl rfl) (fails_true 6 (.slice (some ⟨s15,0,none⟩) 1 1) [⟨3,nameD 67,n1,0⟩] _ (hS.bptO (i:=0) rfl) (hS.rdPt (j:=0) (n:=1) (sz:=12) (xs:=encs eC [⟨3,nameD 67,n1,0⟩]) rfl (by unfold maxLen; decide) rfl rfl) (Nat.le_refl _) (by decide) nm4) ?_
      clear hf a
      rintro _ w36 hS1 a hf
      replace hf:Fr a _ _ ((55,.bool true)::_):=hf
      replace hS:=(hS.call hS1).eqM (N:=(pt s15 (.cells #[.int .u8 3,.int .i64 0,.int .i64 2026,.int .u8 87,.int .u8 67,.int .i64 0,.int .i64 1,.int .i64 0,.int .u8 0,.int .u8 0,.int .i64 0,.int .i64 0] 26 (0,0))::MZ73)) rfl
      clear hS1
      exact nD hf ⟨gt (d:=55) hf rfl rfl,hS⟩
    · intro k_ s_ g w hlo hhi _ hD a hf
      obtain ⟨s7,s10,s13,s15,s17,s20,s22,s24,s26,s28⟩:=g
      obtain rfl:k_=4:=Nat.le_antisymm hhi hlo
      have hS:St w0 w noX [ordA] (pt s15 (.cells #[.int .u8 3,.int .i64 0,.int .i64 2026,.int .u8 87,.int .u8 67,.int .i64 0,.int .i64 1,.int .i64 0,.int .u8 0,.int .u8 0,.int .i64 0,.int .i64 0] 26 (0,0))::MZ73):=hD; clear hD
      replace hf:Fr a 273 [] ((50,.bool true)::(55,.bool true)::LZ73):=hf
      refine O.val (v:=.bool true) hf rfl rfl rfl (RunV.pick rfl rfl rfl rfl) ?_
      clear hf a; intro a hf
      exact nD hf ⟨gt (d:=56) hf rfl rfl,hS⟩
    · intro k_ s_ g w hlo hhi _ hD a hf
      obtain ⟨s7,s10,s13,s15,s17,s20,s22,s24,s26,s28⟩:=g
      obtain rfl:k_=4:=Nat.le_antisymm hhi hlo
      have hS:St w0 w noX [ordA] (pt s15 (.cells #[.int .u8 3,.int .i64 0,.int .i64 2026,.int .u8 87,.int .u8 67,.int .i64 0,.int .i64 1,.int .i64 0,.int .u8 0,.int .u8 0,.int .i64 0,.int .i64 0] 26 (0,0))::MZ73):=hD; clear hD
      replace hf:Fr a 273 [] ((55,.bool true)::(56,.bool true)::LZ73):=hf
      refine O.val hf rfl rfl rfl (RunV.move rfl) ?_
      clear hf a; intro a hf
      exact nD hf ⟨gt (d:=57) hf rfl rfl,hS⟩
    · intro k_ s_ g w hlo hhi _ hD a hf
      obtain ⟨s7,s10,s13,s15,s17,s20,s22,s24,s26,s28⟩:=g
      obtain rfl:k_=4:=Nat.le_antisymm hhi hlo
      have hS:St w0 w noX [ordA] (pt s15 (.cells #[.int .u8 3,.int .i64 0,.int .i64 2026,.int .u8 87,.int .u8 67,.int .i64 0,.int .i64 1,.int .i64 0,.int .u8 0,.int .u8 0,.int .i64 0,.int .i64 0] 26 (0,0))::MZ73):=hD; clear hD
      replace hf:Fr a 273 [] ((57,.bool true)::LZ73):=hf
      refine O.gvalB (v:=.agg #[.int .u8 1,.int .i64 0,.int .i64 2026,.int .u8 87,.int .u8 67,.int .i64 0,.int .i64 0,.int .i64 0,.int .u8 0,.int .u8 0,.int .i64 0,.int .i64 0]) hf rfl rfl rfl rfl rfl rfl (RunV.loadN (cs':=#[.int .u8 1,.int .i64 0,.int .i64 2026,.int .u8 87,.int .u8 67,.int .i64 0,.int .i64 0,.int .i64 0,.int .u8 0,.int .u8 0,.int .i64 0,.int .i64 0]) T_agg_26 T_size_26 rfl (hS.ptAt (i:=2) rfl) (Nat.le_of_ble_eq_true rfl) rfl) ?_
      clear hf a; intro a hf
      exact nD hf ⟨gt (d:=58) hf rfl rfl,hS⟩
    · intro k_ s_ g w hlo hhi _ hD a hf
      obtain ⟨s7,s10,s13,s15,s17,s20,s22,s24,s26,s28⟩:=g
      obtain rfl:k_=4:=Nat.le_antisymm hhi hlo
      have hS:St w0 w noX [ordA] (pt s15 (.cells #[.int .u8 3,.int .i64 0,.int .i64 2026,.int .u8 87,.int .u8 67,.int .i64 0,.int .i64 1,.int .i64 0,.int .u8 0,.int .u8 0,.int .i64 0,.int .i64 0] 26 (0,0))::MZ73):=hD; clear hD
      replace hf:Fr a 273 [] ((57,.bool true)::LZ73):=hf
      refine O.gvalB (v:=.agg #[.int .i64 0,.int .i64 2026,.int .u8 87,.int .u8 67,.int .i64 0]) hf rfl rfl rfl rfl rfl rfl (RunV.loadN (cs':=#[.int .i64 0,.int .i64 2026,.int .u8 87,.int .u8 67,.int .i64 0]) T_agg_24 T_size_24 rfl (hS.ptAt (i:=3) rfl) (Nat.le_of_ble_eq_true rfl) rfl) ?_
      clear hf a; intro a hf
      exact nD hf ⟨gt (d:=59) hf rfl rfl,hS⟩
    · intro k_ s_ g w hlo hhi _ hD a hf
      obtain ⟨s7,s10,s13,s15,s17,s20,s22,s24,s26,s28⟩:=g
      obtain rfl:k_=4:=Nat.le_antisymm hhi hlo
      have hS:St w0 w noX [ordA] (pt s15 (.cells #[.int .u8 3,.int .i64 0,.int .i64 2026,.int .u8 87,.int .u8 67,.int .i64 0,.int .i64 1,.int .i64 0,.int .u8 0,.int .u8 0,.int .i64 0,.int .i64 0] 26 (0,0))::MZ73):=hD; clear hD
      replace hf:Fr a 273 [] ((57,.bool true)::LZ73):=hf
      refine O.gvalB (v:=.agg #[.int .i64 700001,.int .i64 0,.int .u8 0,.int .u8 0,.int .i64 0]) hf rfl rfl rfl rfl rfl rfl (RunV.loadN (cs':=#[.int .i64 700001,.int .i64 0,.int .u8 0,.int .u8 0,.int .i64 0]) T_agg_24 T_size_24 rfl (hS.ptAt (i:=4) rfl) (Nat.le_of_ble_eq_true rfl) rfl) ?_
      clear hf a; intro a hf
      exact nD hf ⟨gt (d:=60) hf rfl rfl,hS⟩
    · intro k_ s_ g w hlo hhi _ hD a hf
      obtain ⟨s7,s10,s13,s15,s17,s20,s22,s24,s26,s28⟩:=g
      obtain rfl:k_=4:=Nat.le_antisymm hhi hlo
      have hS:St w0 w noX [ordA] (pt s15 (.cells #[.int .u8 3,.int .i64 0,.int .i64 2026,.int .u8 87,.int .u8 67,.int .i64 0,.int .i64 1,.int .i64 0,.int .u8 0,.int .u8 0,.int .i64 0,.int .i64 0] 26 (0,0))::MZ73):=hD; clear hD
      replace hf:Fr a 273 [] ((57,.bool true)::(59,.agg #[.int .i64 0,.int .i64 2026,.int .u8 87,.int .u8 67,.int .i64 0])::(60,.agg #[.int .i64 700001,.int .i64 0,.int .u8 0,.int .u8 0,.int .i64 0])::LZ73):=hf
      refine O.gvalB (v:=.agg #[.int .u8 3,.int .i64 0,.int .i64 2026,.int .u8 87,.int .u8 67,.int .i64 0,.int .i64 700001,.int .i64 0,.int .u8 0,.int .u8 0,.int .i64 0,.int .i64 0]) hf rfl rfl rfl rfl rfl rfl (RunV.buildS (cs':=#[.int .u8 3,.int .i64 0,.int .i64 2026,.int .u8 87,.int .u8 67,.int .i64 0,.int .i64 700001,.int .i64 0,.int .u8 0,.int .u8 0,.int .i64 0,.int .i64 0]) T_places_26 T_zero_26 rfl (by kernel_rfl)) ?_
      clear hf a; intro a hf
      exact nD hf ⟨gt (d:=61) hf rfl rfl,hS⟩
    · intro k_ s_ g w hlo hhi _ hD a hf
      obtain ⟨s7,s10,s13,s15,s17,s20,s22,s24,s26,s28⟩:=g
      obtain rfl:k_=5:=Nat.le_antisymm hhi hlo
      have hS:St w0 w noX [ordA] (pt s17 (.cells #[.int .u8 1,.int .i64 0,.int .i64 2026,.int .u8 87,.int .u8 67,.int .i64 0,.int .i64 0,.int .i64 0,.int .u8 0,.int .u8 0,.int .i64 0,.int .i64 0,.int .u8 3,.int .i64 0,.int .i64 2026,.int .u8 87,.int .u8 67,.int .i64 0,.int .i64 700001,.int .i64 0,.int .u8 0,.int .u8 0,.int .i64 0,.int .i64 0] 26 (0,0))::MZ73):=hD; clear hD
      replace hf:Fr a 273 [] ((57,.bool true)::(62,.slice (some ⟨s17,0,none⟩) 2 2)::LZ73):=hf
      refine O.gcallR hf rfl rfl rfl rfl rfl rfl (RunE.call (av:=#[.int .i64 14,.slice (some ⟨s17,0,none⟩) 2 2]) C_ok_29 rfl rfl rfl) (fails_true 14 (.slice (some ⟨s17,0,none⟩) 2 2) [plusC,⟨3,nameD 67,numD,0⟩] _ (hS.bptO (i:=0) rfl) (hS.rdPt (j:=0) (n:=2) (sz:=12) (xs:=encs eC [plusC,⟨3,nameD 67,numD,0⟩]) rfl (by unfold maxLen; decide) rfl rfl) (Nat.le_refl _) (by decide) nm5) ?_
      clear hf a
      rintro _ w37 hS1 a hf
      replace hf:Fr a _ _ ((63,.bool true)::_):=hf
      replace hS:=(hS.call hS1).eqM (N:=(pt s17 (.cells #[.int .u8 1,.int .i64 0,.int .i64 2026,.int .u8 87,.int .u8 67,.int .i64 0,.int .i64 0,.int .i64 0,.int .u8 0,.int .u8 0,.int .i64 0,.int .i64 0,.int .u8 3,.int .i64 0,.int .i64 2026,.int .u8 87,.int .u8 67,.int .i64 0,.int .i64 700001,.int .i64 0,.int .u8 0,.int .u8 0,.int .i64 0,.int .i64 0] 26 (0,0))::MZ73)) rfl
      clear hS1
      exact nD hf ⟨gt (d:=63) hf rfl rfl,hS⟩
    · intro k_ s_ g w hlo hhi _ hD a hf
      obtain ⟨s7,s10,s13,s15,s17,s20,s22,s24,s26,s28⟩:=g
      obtain rfl:k_=5:=Nat.le_antisymm hhi hlo
      have hS:St w0 w noX [ordA] (pt s17 (.cells #[.int .u8 1,.int .i64 0,.int .i64 2026,.int .u8 87,.int .u8 67,.int .i64 0,.int .i64 0,.int .i64 0,.int .u8 0,.int .u8 0,.int .i64 0,.int .i64 0,.int .u8 3,.int .i64 0,.int .i64 2026,.int .u8 87,.int .u8 67,.int .i64 0,.int .i64 700001,.int .i64 0,.int .u8 0,.int .u8 0,.int .i64 0,.int .i64 0] 26 (0,0))::MZ73):=hD; clear hD
      replace hf:Fr a 273 [] ((57,.bool true)::(63,.bool true)::LZ73):=hf
      refine O.val (v:=.bool true) hf rfl rfl rfl (RunV.pick rfl rfl rfl rfl) ?_
      clear hf a; intro a hf
      exact nD hf ⟨gt (d:=64) hf rfl rfl,hS⟩
    · intro k_ s_ g w hlo hhi _ hD a hf
      obtain ⟨s7,s10,s13,s15,s17,s20,s22,s24,s26,s28⟩:=g
      obtain rfl:k_=5:=Nat.le_antisymm hhi hlo
      have hS:St w0 w noX [ordA] (pt s17 (.cells #[.int .u8 1,.int .i64 0,.int .i64 2026,.int .u8 87,.int .u8 67,.int .i64 0,.int .i64 0,.int .i64 0,.int .u8 0,.int .u8 0,.int .i64 0,.int .i64 0,.int .u8 3,.int .i64 0,.int .i64 2026,.int .u8 87,.int .u8 67,.int .i64 0,.int .i64 700001,.int .i64 0,.int .u8 0,.int .u8 0,.int .i64 0,.int .i64 0] 26 (0,0))::MZ73):=hD; clear hD
      replace hf:Fr a 273 [] ((63,.bool true)::(64,.bool true)::LZ73):=hf
      refine O.val hf rfl rfl rfl (RunV.move rfl) ?_
      clear hf a; intro a hf
      exact nD hf ⟨gt (d:=65) hf rfl rfl,hS⟩
    · intro k_ s_ g w hlo hhi _ hD a hf
      obtain ⟨s7,s10,s13,s15,s17,s20,s22,s24,s26,s28⟩:=g
      obtain rfl:k_=5:=Nat.le_antisymm hhi hlo
      have hS:St w0 w noX [ordA] (pt s17 (.cells #[.int .u8 1,.int .i64 0,.int .i64 2026,.int .u8 87,.int .u8 67,.int .i64 0,.int .i64 0,.int .i64 0,.int .u8 0,.int .u8 0,.int .i64 0,.int .i64 0,.int .u8 3,.int .i64 0,.int .i64 2026,.int .u8 87,.int .u8 67,.int .i64 0,.int .i64 700001,.int .i64 0,.int .u8 0,.int .u8 0,.int .i64 0,.int .i64 0] 26 (0,0))::MZ73):=hD; clear hD
      replace hf:Fr a 273 [] ((65,.bool true)::LZ73):=hf
      refine O.gcallR hf rfl rfl rfl rfl rfl rfl (RunE.call (av:=#[.int .u8 65]) C_ok_28 rfl rfl rfl) (named_spec 65 _) ?_
      clear hf a
      rintro _ w38 hS1 a hf
      replace hf:Fr a _ _ ((66,.agg #[.int .i64 0,.int .i64 2026,.int .u8 87,.int .u8 65,.int .i64 0])::_):=hf
      replace hS:=(hS.call hS1).eqM (N:=(pt s17 (.cells #[.int .u8 1,.int .i64 0,.int .i64 2026,.int .u8 87,.int .u8 67,.int .i64 0,.int .i64 0,.int .i64 0,.int .u8 0,.int .u8 0,.int .i64 0,.int .i64 0,.int .u8 3,.int .i64 0,.int .i64 2026,.int .u8 87,.int .u8 67,.int .i64 0,.int .i64 700001,.int .i64 0,.int .u8 0,.int .u8 0,.int .i64 0,.int .i64 0] 26 (0,0))::MZ73)) rfl
      clear hS1
      exact nD hf ⟨gt (d:=66) hf rfl rfl,hS⟩
    · intro k_ s_ g w hlo hhi _ hD a hf
      obtain ⟨s7,s10,s13,s15,s17,s20,s22,s24,s26,s28⟩:=g
      obtain rfl:k_=5:=Nat.le_antisymm hhi hlo
      have hS:St w0 w noX [ordA] (pt s17 (.cells #[.int .u8 1,.int .i64 0,.int .i64 2026,.int .u8 87,.int .u8 67,.int .i64 0,.int .i64 0,.int .i64 0,.int .u8 0,.int .u8 0,.int .i64 0,.int .i64 0,.int .u8 3,.int .i64 0,.int .i64 2026,.int .u8 87,.int .u8 67,.int .i64 0,.int .i64 700001,.int .i64 0,.int .u8 0,.int .u8 0,.int .i64 0,.int .i64 0] 26 (0,0))::MZ73):=hD; clear hD
      replace hf:Fr a 273 [] ((65,.bool true)::LZ73):=hf
      refine O.gvalB (v:=.agg #[.int .i64 1,.int .i64 0,.int .u8 0,.int .u8 0,.int .i64 0]) hf rfl rfl rfl rfl rfl rfl (RunV.buildS (cs':=#[.int .i64 1,.int .i64 0,.int .u8 0,.int .u8 0,.int .i64 0]) T_places_24 T_zero_24 rfl rfl) ?_
      clear hf a; intro a hf
      exact nD hf ⟨gt (d:=67) hf rfl rfl,hS⟩
    · intro k_ s_ g w hlo hhi _ hD a hf
      obtain ⟨s7,s10,s13,s15,s17,s20,s22,s24,s26,s28⟩:=g
      obtain rfl:k_=5:=Nat.le_antisymm hhi hlo
      have hS:St w0 w noX [ordA] (pt s17 (.cells #[.int .u8 1,.int .i64 0,.int .i64 2026,.int .u8 87,.int .u8 67,.int .i64 0,.int .i64 0,.int .i64 0,.int .u8 0,.int .u8 0,.int .i64 0,.int .i64 0,.int .u8 3,.int .i64 0,.int .i64 2026,.int .u8 87,.int .u8 67,.int .i64 0,.int .i64 700001,.int .i64 0,.int .u8 0,.int .u8 0,.int .i64 0,.int .i64 0] 26 (0,0))::MZ73):=hD; clear hD
      replace hf:Fr a 273 [] ((65,.bool true)::(66,.agg #[.int .i64 0,.int .i64 2026,.int .u8 87,.int .u8 65,.int .i64 0])::(67,.agg #[.int .i64 1,.int .i64 0,.int .u8 0,.int .u8 0,.int .i64 0])::LZ73):=hf
      refine O.gvalB (v:=.agg #[.int .u8 3,.int .i64 0,.int .i64 2026,.int .u8 87,.int .u8 65,.int .i64 0,.int .i64 1,.int .i64 0,.int .u8 0,.int .u8 0,.int .i64 0,.int .i64 0]) hf rfl rfl rfl rfl rfl rfl (RunV.buildS (cs':=#[.int .u8 3,.int .i64 0,.int .i64 2026,.int .u8 87,.int .u8 65,.int .i64 0,.int .i64 1,.int .i64 0,.int .u8 0,.int .u8 0,.int .i64 0,.int .i64 0]) T_places_26 T_zero_26 rfl (by kernel_rfl)) ?_
      clear hf a; intro a hf
      exact nD hf ⟨gt (d:=68) hf rfl rfl,hS⟩
    · intro k_ s_ g w hlo hhi _ hD a hf
      obtain ⟨s7,s10,s13,s15,s17,s20,s22,s24,s26,s28⟩:=g
      obtain rfl:k_=6:=Nat.le_antisymm hhi hlo
      have hS:St w0 w noX [ordA] (pt s20 (.cells #[.int .u8 3,.int .i64 0,.int .i64 2026,.int .u8 87,.int .u8 65,.int .i64 0,.int .i64 1,.int .i64 0,.int .u8 0,.int .u8 0,.int .i64 0,.int .i64 0] 26 (0,0))::MZ73):=hD; clear hD
      replace hf:Fr a 273 [] ((65,.bool true)::(66,.agg #[.int .i64 0,.int .i64 2026,.int .u8 87,.int .u8 65,.int .i64 0])::(69,.slice (some ⟨s20,0,none⟩) 1 1)::LZ73):=hf
      refine O.gcallR hf rfl rfl rfl rfl rfl rfl (RunE.call (av:=#[.int .i64 36,.slice (some ⟨s20,0,none⟩) 1 1]) C_ok_29 rfl rfl rfl) (fails_true 36 (.slice (some ⟨s20,0,none⟩) 1 1) [⟨3,nameD 65,n1,0⟩] _ (hS.bptO (i:=0) rfl) (hS.rdPt (j:=0) (n:=1) (sz:=12) (xs:=encs eC [⟨3,nameD 65,n1,0⟩]) rfl (by unfold maxLen; decide) rfl rfl) (Nat.le_refl _) (by decide) nm6) ?_
      clear hf a
      rintro _ w39 hS1 a hf
      replace hf:Fr a _ _ ((70,.bool true)::_):=hf
      replace hS:=(hS.call hS1).eqM (N:=(pt s20 (.cells #[.int .u8 3,.int .i64 0,.int .i64 2026,.int .u8 87,.int .u8 65,.int .i64 0,.int .i64 1,.int .i64 0,.int .u8 0,.int .u8 0,.int .i64 0,.int .i64 0] 26 (0,0))::MZ73)) rfl
      clear hS1
      exact nD hf ⟨gt (d:=70) hf rfl rfl,hS⟩
    · intro k_ s_ g w hlo hhi _ hD a hf
      obtain ⟨s7,s10,s13,s15,s17,s20,s22,s24,s26,s28⟩:=g
      obtain rfl:k_=6:=Nat.le_antisymm hhi hlo
      have hS:St w0 w noX [ordA] (pt s20 (.cells #[.int .u8 3,.int .i64 0,.int .i64 2026,.int .u8 87,.int .u8 65,.int .i64 0,.int .i64 1,.int .i64 0,.int .u8 0,.int .u8 0,.int .i64 0,.int .i64 0] 26 (0,0))::MZ73):=hD; clear hD
      replace hf:Fr a 273 [] ((65,.bool true)::(70,.bool true)::LZ73):=hf
      refine O.val (v:=.bool true) hf rfl rfl rfl (RunV.pick rfl rfl rfl rfl) ?_
      clear hf a; intro a hf
      exact nD hf ⟨gt (d:=71) hf rfl rfl,hS⟩
    · intro k_ s_ g w hlo hhi _ hD a hf
      obtain ⟨s7,s10,s13,s15,s17,s20,s22,s24,s26,s28⟩:=g
      obtain rfl:k_=6:=Nat.le_antisymm hhi hlo
      have hS:St w0 w noX [ordA] (pt s20 (.cells #[.int .u8 3,.int .i64 0,.int .i64 2026,.int .u8 87,.int .u8 65,.int .i64 0,.int .i64 1,.int .i64 0,.int .u8 0,.int .u8 0,.int .i64 0,.int .i64 0] 26 (0,0))::MZ73):=hD; clear hD
      replace hf:Fr a 273 [] ((70,.bool true)::(71,.bool true)::LZ73):=hf
      refine O.val hf rfl rfl rfl (RunV.move rfl) ?_
      clear hf a; intro a hf
      exact nD hf ⟨gt (d:=72) hf rfl rfl,hS⟩
    · intro k_ s_ g w hlo hhi _ hD a hf
      obtain ⟨s7,s10,s13,s15,s17,s20,s22,s24,s26,s28⟩:=g
      obtain rfl:k_=6:=Nat.le_antisymm hhi hlo
      have hS:St w0 w noX [ordA] (pt s20 (.cells #[.int .u8 3,.int .i64 0,.int .i64 2026,.int .u8 87,.int .u8 65,.int .i64 0,.int .i64 1,.int .i64 0,.int .u8 0,.int .u8 0,.int .i64 0,.int .i64 0] 26 (0,0))::MZ73):=hD; clear hD
      replace hf:Fr a 273 [] ((72,.bool true)::LZ73):=hf
      refine O.gvalB (v:=.agg #[.int .u8 4,.int .i64 0,.int .i64 0,.int .u8 0,.int .u8 0,.int .i64 0,.int .i64 0,.int .i64 0,.int .u8 0,.int .u8 0,.int .i64 0,.int .i64 4]) hf rfl rfl rfl rfl rfl rfl (RunV.buildS (cs':=#[.int .u8 4,.int .i64 0,.int .i64 0,.int .u8 0,.int .u8 0,.int .i64 0,.int .i64 0,.int .i64 0,.int .u8 0,.int .u8 0,.int .i64 0,.int .i64 4]) T_places_26 T_zero_26 rfl (by kernel_rfl)) ?_
      clear hf a; intro a hf
      exact nD hf ⟨gt (d:=73) hf rfl rfl,hS⟩
    · intro k_ s_ g w hlo hhi _ hD a hf
      obtain ⟨s7,s10,s13,s15,s17,s20,s22,s24,s26,s28⟩:=g
      obtain rfl:k_=7:=Nat.le_antisymm hhi hlo
      have hS:St w0 w noX [ordA] (pt s22 (.cells #[.int .u8 4,.int .i64 0,.int .i64 0,.int .u8 0,.int .u8 0,.int .i64 0,.int .i64 0,.int .i64 0,.int .u8 0,.int .u8 0,.int .i64 0,.int .i64 4] 26 (0,0))::MZ73):=hD; clear hD
      replace hf:Fr a 273 [] ((72,.bool true)::(74,.slice (some ⟨s22,0,none⟩) 1 1)::LZ73):=hf
      refine O.gcallR hf rfl rfl rfl rfl rfl rfl (RunE.call (av:=#[.int .i64 6,.slice (some ⟨s22,0,none⟩) 1 1]) C_ok_29 rfl rfl rfl) (fails_true 6 (.slice (some ⟨s22,0,none⟩) 1 1) [undoC 4] _ (hS.bptO (i:=0) rfl) (hS.rdPt (j:=0) (n:=1) (sz:=12) (xs:=encs eC [undoC 4]) rfl (by unfold maxLen; decide) rfl rfl) (Nat.le_refl _) (by decide) nm7) ?_
      clear hf a
      rintro _ w40 hS1 a hf
      replace hf:Fr a _ _ ((75,.bool true)::_):=hf
      replace hS:=(hS.call hS1).eqM (N:=(pt s22 (.cells #[.int .u8 4,.int .i64 0,.int .i64 0,.int .u8 0,.int .u8 0,.int .i64 0,.int .i64 0,.int .i64 0,.int .u8 0,.int .u8 0,.int .i64 0,.int .i64 4] 26 (0,0))::MZ73)) rfl
      clear hS1
      exact nD hf ⟨gt (d:=75) hf rfl rfl,hS⟩
    · intro k_ s_ g w hlo hhi _ hD a hf
      obtain ⟨s7,s10,s13,s15,s17,s20,s22,s24,s26,s28⟩:=g
      obtain rfl:k_=7:=Nat.le_antisymm hhi hlo
      have hS:St w0 w noX [ordA] (pt s22 (.cells #[.int .u8 4,.int .i64 0,.int .i64 0,.int .u8 0,.int .u8 0,.int .i64 0,.int .i64 0,.int .i64 0,.int .u8 0,.int .u8 0,.int .i64 0,.int .i64 4] 26 (0,0))::MZ73):=hD; clear hD
      replace hf:Fr a 273 [] ((72,.bool true)::(75,.bool true)::LZ73):=hf
      refine O.val (v:=.bool true) hf rfl rfl rfl (RunV.pick rfl rfl rfl rfl) ?_
      clear hf a; intro a hf
      exact nD hf ⟨gt (d:=76) hf rfl rfl,hS⟩
    · intro k_ s_ g w hlo hhi _ hD a hf
      obtain ⟨s7,s10,s13,s15,s17,s20,s22,s24,s26,s28⟩:=g
      obtain rfl:k_=7:=Nat.le_antisymm hhi hlo
      have hS:St w0 w noX [ordA] (pt s22 (.cells #[.int .u8 4,.int .i64 0,.int .i64 0,.int .u8 0,.int .u8 0,.int .i64 0,.int .i64 0,.int .i64 0,.int .u8 0,.int .u8 0,.int .i64 0,.int .i64 4] 26 (0,0))::MZ73):=hD; clear hD
      replace hf:Fr a 273 [] ((75,.bool true)::(76,.bool true)::LZ73):=hf
      refine O.val hf rfl rfl rfl (RunV.move rfl) ?_
      clear hf a; intro a hf
      exact nD hf ⟨gt (d:=77) hf rfl rfl,hS⟩
    · intro k_ s_ g w hlo hhi _ hD a hf
      obtain ⟨s7,s10,s13,s15,s17,s20,s22,s24,s26,s28⟩:=g
      obtain rfl:k_=7:=Nat.le_antisymm hhi hlo
      have hS:St w0 w noX [ordA] (pt s22 (.cells #[.int .u8 4,.int .i64 0,.int .i64 0,.int .u8 0,.int .u8 0,.int .i64 0,.int .i64 0,.int .i64 0,.int .u8 0,.int .u8 0,.int .i64 0,.int .i64 4] 26 (0,0))::MZ73):=hD; clear hD
      replace hf:Fr a 273 [] ((77,.bool true)::LZ73):=hf
      refine O.gvalB (v:=.agg #[.int .u8 4,.int .i64 0,.int .i64 0,.int .u8 0,.int .u8 0,.int .i64 0,.int .i64 0,.int .i64 0,.int .u8 0,.int .u8 0,.int .i64 0,.int .i64 2]) hf rfl rfl rfl rfl rfl rfl (RunV.loadN (cs':=#[.int .u8 4,.int .i64 0,.int .i64 0,.int .u8 0,.int .u8 0,.int .i64 0,.int .i64 0,.int .i64 0,.int .u8 0,.int .u8 0,.int .i64 0,.int .i64 2]) T_agg_26 T_size_26 rfl (hS.ptAt (i:=1) rfl) (Nat.le_of_ble_eq_true rfl) rfl) ?_
      clear hf a; intro a hf
      exact nD hf ⟨gt (d:=78) hf rfl rfl,hS⟩
    · intro k_ s_ g w hlo hhi _ hD a hf
      obtain ⟨s7,s10,s13,s15,s17,s20,s22,s24,s26,s28⟩:=g
      obtain rfl:k_=7:=Nat.le_antisymm hhi hlo
      have hS:St w0 w noX [ordA] (pt s22 (.cells #[.int .u8 4,.int .i64 0,.int .i64 0,.int .u8 0,.int .u8 0,.int .i64 0,.int .i64 0,.int .i64 0,.int .u8 0,.int .u8 0,.int .i64 0,.int .i64 4] 26 (0,0))::MZ73):=hD; clear hD
      replace hf:Fr a 273 [] ((77,.bool true)::LZ73):=hf
      refine O.gvalB (v:=.agg #[.int .u8 4,.int .i64 0,.int .i64 0,.int .u8 0,.int .u8 0,.int .i64 0,.int .i64 0,.int .i64 0,.int .u8 0,.int .u8 0,.int .i64 0,.int .i64 2]) hf rfl rfl rfl rfl rfl rfl (RunV.loadN (cs':=#[.int .u8 4,.int .i64 0,.int .i64 0,.int .u8 0,.int .u8 0,.int .i64 0,.int .i64 0,.int .i64 0,.int .u8 0,.int .u8 0,.int .i64 0,.int .i64 2]) T_agg_26 T_size_26 rfl (hS.ptAt (i:=1) rfl) (Nat.le_of_ble_eq_true rfl) rfl) ?_
      clear hf a; intro a hf
      exact nD hf ⟨gt (d:=79) hf rfl rfl,hS⟩
    · intro k_ s_ g w hlo hhi _ hD a hf
      obtain ⟨s7,s10,s13,s15,s17,s20,s22,s24,s26,s28⟩:=g
      obtain rfl:k_=8:=Nat.le_antisymm hhi hlo
      have hS:St w0 w noX [ordA] (pt s24 (.cells #[.int .u8 4,.int .i64 0,.int .i64 0,.int .u8 0,.int .u8 0,.int .i64 0,.int .i64 0,.int .i64 0,.int .u8 0,.int .u8 0,.int .i64 0,.int .i64 2,.int .u8 4,.int .i64 0,.int .i64 0,.int .u8 0,.int .u8 0,.int .i64 0,.int .i64 0,.int .i64 0,.int .u8 0,.int .u8 0,.int .i64 0,.int .i64 2] 26 (0,0))::MZ73):=hD; clear hD
      replace hf:Fr a 273 [] ((77,.bool true)::(80,.slice (some ⟨s24,0,none⟩) 2 2)::LZ73):=hf
      refine O.gcallR hf rfl rfl rfl rfl rfl rfl (RunE.call (av:=#[.int .i64 36,.slice (some ⟨s24,0,none⟩) 2 2]) C_ok_29 rfl rfl rfl) (fails_true 36 (.slice (some ⟨s24,0,none⟩) 2 2) [undoC 2,undoC 2] _ (hS.bptO (i:=0) rfl) (hS.rdPt (j:=0) (n:=2) (sz:=12) (xs:=encs eC [undoC 2,undoC 2]) rfl (by unfold maxLen; decide) rfl rfl) (Nat.le_refl _) (by decide) nm8) ?_
      clear hf a
      rintro _ w41 hS1 a hf
      replace hf:Fr a _ _ ((81,.bool true)::_):=hf
      replace hS:=(hS.call hS1).eqM (N:=(pt s24 (.cells #[.int .u8 4,.int .i64 0,.int .i64 0,.int .u8 0,.int .u8 0,.int .i64 0,.int .i64 0,.int .i64 0,.int .u8 0,.int .u8 0,.int .i64 0,.int .i64 2,.int .u8 4,.int .i64 0,.int .i64 0,.int .u8 0,.int .u8 0,.int .i64 0,.int .i64 0,.int .i64 0,.int .u8 0,.int .u8 0,.int .i64 0,.int .i64 2] 26 (0,0))::MZ73)) rfl
      clear hS1
      exact nD hf ⟨gt (d:=81) hf rfl rfl,hS⟩
    · intro k_ s_ g w hlo hhi _ hD a hf
      obtain ⟨s7,s10,s13,s15,s17,s20,s22,s24,s26,s28⟩:=g
      obtain rfl:k_=8:=Nat.le_antisymm hhi hlo
      have hS:St w0 w noX [ordA] (pt s24 (.cells #[.int .u8 4,.int .i64 0,.int .i64 0,.int .u8 0,.int .u8 0,.int .i64 0,.int .i64 0,.int .i64 0,.int .u8 0,.int .u8 0,.int .i64 0,.int .i64 2,.int .u8 4,.int .i64 0,.int .i64 0,.int .u8 0,.int .u8 0,.int .i64 0,.int .i64 0,.int .i64 0,.int .u8 0,.int .u8 0,.int .i64 0,.int .i64 2] 26 (0,0))::MZ73):=hD; clear hD
      replace hf:Fr a 273 [] ((77,.bool true)::(81,.bool true)::LZ73):=hf
      refine O.val (v:=.bool true) hf rfl rfl rfl (RunV.pick rfl rfl rfl rfl) ?_
      clear hf a; intro a hf
      exact nD hf ⟨gt (d:=82) hf rfl rfl,hS⟩
    · intro k_ s_ g w hlo hhi _ hD a hf
      obtain ⟨s7,s10,s13,s15,s17,s20,s22,s24,s26,s28⟩:=g
      obtain rfl:k_=8:=Nat.le_antisymm hhi hlo
      have hS:St w0 w noX [ordA] (pt s24 (.cells #[.int .u8 4,.int .i64 0,.int .i64 0,.int .u8 0,.int .u8 0,.int .i64 0,.int .i64 0,.int .i64 0,.int .u8 0,.int .u8 0,.int .i64 0,.int .i64 2,.int .u8 4,.int .i64 0,.int .i64 0,.int .u8 0,.int .u8 0,.int .i64 0,.int .i64 0,.int .i64 0,.int .u8 0,.int .u8 0,.int .i64 0,.int .i64 2] 26 (0,0))::MZ73):=hD; clear hD
      replace hf:Fr a 273 [] ((81,.bool true)::(82,.bool true)::LZ73):=hf
      refine O.val hf rfl rfl rfl (RunV.move rfl) ?_
      clear hf a; intro a hf
      exact nD hf ⟨gt (d:=83) hf rfl rfl,hS⟩
    · intro k_ s_ g w hlo hhi _ hD a hf
      obtain ⟨s7,s10,s13,s15,s17,s20,s22,s24,s26,s28⟩:=g
      obtain rfl:k_=8:=Nat.le_antisymm hhi hlo
      have hS:St w0 w noX [ordA] (pt s24 (.cells #[.int .u8 4,.int .i64 0,.int .i64 0,.int .u8 0,.int .u8 0,.int .i64 0,.int .i64 0,.int .i64 0,.int .u8 0,.int .u8 0,.int .i64 0,.int .i64 2,.int .u8 4,.int .i64 0,.int .i64 0,.int .u8 0,.int .u8 0,.int .i64 0,.int .i64 0,.int .i64 0,.int .u8 0,.int .u8 0,.int .i64 0,.int .i64 2] 26 (0,0))::MZ73):=hD; clear hD
      replace hf:Fr a 273 [] ((83,.bool true)::LZ73):=hf
      refine O.gvalB (v:=.agg #[.int .u8 4,.int .i64 0,.int .i64 0,.int .u8 0,.int .u8 0,.int .i64 0,.int .i64 0,.int .i64 0,.int .u8 0,.int .u8 0,.int .i64 0,.int .i64 2]) hf rfl rfl rfl rfl rfl rfl (RunV.loadN (cs':=#[.int .u8 4,.int .i64 0,.int .i64 0,.int .u8 0,.int .u8 0,.int .i64 0,.int .i64 0,.int .i64 0,.int .u8 0,.int .u8 0,.int .i64 0,.int .i64 2]) T_agg_26 T_size_26 rfl (hS.ptAt (i:=1) rfl) (Nat.le_of_ble_eq_true rfl) rfl) ?_
      clear hf a; intro a hf
      exact nD hf ⟨gt (d:=84) hf rfl rfl,hS⟩
    · intro k_ s_ g w hlo hhi _ hD a hf
      obtain ⟨s7,s10,s13,s15,s17,s20,s22,s24,s26,s28⟩:=g
      obtain rfl:k_=8:=Nat.le_antisymm hhi hlo
      have hS:St w0 w noX [ordA] (pt s24 (.cells #[.int .u8 4,.int .i64 0,.int .i64 0,.int .u8 0,.int .u8 0,.int .i64 0,.int .i64 0,.int .i64 0,.int .u8 0,.int .u8 0,.int .i64 0,.int .i64 2,.int .u8 4,.int .i64 0,.int .i64 0,.int .u8 0,.int .u8 0,.int .i64 0,.int .i64 0,.int .i64 0,.int .u8 0,.int .u8 0,.int .i64 0,.int .i64 2] 26 (0,0))::MZ73):=hD; clear hD
      replace hf:Fr a 273 [] ((83,.bool true)::LZ73):=hf
      refine O.gvalB (v:=.agg #[.int .u8 4,.int .i64 0,.int .i64 0,.int .u8 0,.int .u8 0,.int .i64 0,.int .i64 0,.int .i64 0,.int .u8 0,.int .u8 0,.int .i64 0,.int .i64 4]) hf rfl rfl rfl rfl rfl rfl (RunV.buildS (cs':=#[.int .u8 4,.int .i64 0,.int .i64 0,.int .u8 0,.int .u8 0,.int .i64 0,.int .i64 0,.int .i64 0,.int .u8 0,.int .u8 0,.int .i64 0,.int .i64 4]) T_places_26 T_zero_26 rfl (by kernel_rfl)) ?_
      clear hf a; intro a hf
      exact nD hf ⟨gt (d:=85) hf rfl rfl,hS⟩
    · intro k_ s_ g w hlo hhi _ hD a hf
      obtain ⟨s7,s10,s13,s15,s17,s20,s22,s24,s26,s28⟩:=g
      obtain rfl:k_=9:=Nat.le_antisymm hhi hlo
      have hS:St w0 w noX [ordA] (pt s26 (.cells #[.int .u8 4,.int .i64 0,.int .i64 0,.int .u8 0,.int .u8 0,.int .i64 0,.int .i64 0,.int .i64 0,.int .u8 0,.int .u8 0,.int .i64 0,.int .i64 2,.int .u8 4,.int .i64 0,.int .i64 0,.int .u8 0,.int .u8 0,.int .i64 0,.int .i64 0,.int .i64 0,.int .u8 0,.int .u8 0,.int .i64 0,.int .i64 4] 26 (0,0))::MZ73):=hD; clear hD
      replace hf:Fr a 273 [] ((83,.bool true)::(86,.slice (some ⟨s26,0,none⟩) 2 2)::LZ73):=hf
      refine O.gcallR hf rfl rfl rfl rfl rfl rfl (RunE.call (av:=#[.int .i64 36,.slice (some ⟨s26,0,none⟩) 2 2]) C_ok_29 rfl rfl rfl) (fails_true 36 (.slice (some ⟨s26,0,none⟩) 2 2) [undoC 2,undoC 4] _ (hS.bptO (i:=0) rfl) (hS.rdPt (j:=0) (n:=2) (sz:=12) (xs:=encs eC [undoC 2,undoC 4]) rfl (by unfold maxLen; decide) rfl rfl) (Nat.le_refl _) (by decide) nm9) ?_
      clear hf a
      rintro _ w42 hS1 a hf
      replace hf:Fr a _ _ ((87,.bool true)::_):=hf
      replace hS:=(hS.call hS1).eqM (N:=(pt s26 (.cells #[.int .u8 4,.int .i64 0,.int .i64 0,.int .u8 0,.int .u8 0,.int .i64 0,.int .i64 0,.int .i64 0,.int .u8 0,.int .u8 0,.int .i64 0,.int .i64 2,.int .u8 4,.int .i64 0,.int .i64 0,.int .u8 0,.int .u8 0,.int .i64 0,.int .i64 0,.int .i64 0,.int .u8 0,.int .u8 0,.int .i64 0,.int .i64 4] 26 (0,0))::MZ73)) rfl
      clear hS1
      exact nD hf ⟨gt (d:=87) hf rfl rfl,hS⟩
    · intro k_ s_ g w hlo hhi _ hD a hf
      obtain ⟨s7,s10,s13,s15,s17,s20,s22,s24,s26,s28⟩:=g
      obtain rfl:k_=9:=Nat.le_antisymm hhi hlo
      have hS:St w0 w noX [ordA] (pt s26 (.cells #[.int .u8 4,.int .i64 0,.int .i64 0,.int .u8 0,.int .u8 0,.int .i64 0,.int .i64 0,.int .i64 0,.int .u8 0,.int .u8 0,.int .i64 0,.int .i64 2,.int .u8 4,.int .i64 0,.int .i64 0,.int .u8 0,.int .u8 0,.int .i64 0,.int .i64 0,.int .i64 0,.int .u8 0,.int .u8 0,.int .i64 0,.int .i64 4] 26 (0,0))::MZ73):=hD; clear hD
      replace hf:Fr a 273 [] ((83,.bool true)::(87,.bool true)::LZ73):=hf
      refine O.val (v:=.bool true) hf rfl rfl rfl (RunV.pick rfl rfl rfl rfl) ?_
      clear hf a; intro a hf
      exact nD hf ⟨gt (d:=88) hf rfl rfl,hS⟩
    · intro k_ s_ g w hlo hhi _ hD a hf
      obtain ⟨s7,s10,s13,s15,s17,s20,s22,s24,s26,s28⟩:=g
      obtain rfl:k_=9:=Nat.le_antisymm hhi hlo
      have hS:St w0 w noX [ordA] (pt s26 (.cells #[.int .u8 4,.int .i64 0,.int .i64 0,.int .u8 0,.int .u8 0,.int .i64 0,.int .i64 0,.int .i64 0,.int .u8 0,.int .u8 0,.int .i64 0,.int .i64 2,.int .u8 4,.int .i64 0,.int .i64 0,.int .u8 0,.int .u8 0,.int .i64 0,.int .i64 0,.int .i64 0,.int .u8 0,.int .u8 0,.int .i64 0,.int .i64 4] 26 (0,0))::MZ73):=hD; clear hD
      replace hf:Fr a 273 [] ((87,.bool true)::(88,.bool true)::LZ73):=hf
      refine O.val hf rfl rfl rfl (RunV.move rfl) ?_
      clear hf a; intro a hf
      exact nD hf ⟨gt (d:=89) hf rfl rfl,hS⟩
    · intro k_ s_ g w hlo hhi _ hD a hf
      obtain ⟨s7,s10,s13,s15,s17,s20,s22,s24,s26,s28⟩:=g
      obtain rfl:k_=9:=Nat.le_antisymm hhi hlo
      have hS:St w0 w noX [ordA] (pt s26 (.cells #[.int .u8 4,.int .i64 0,.int .i64 0,.int .u8 0,.int .u8 0,.int .i64 0,.int .i64 0,.int .i64 0,.int .u8 0,.int .u8 0,.int .i64 0,.int .i64 2,.int .u8 4,.int .i64 0,.int .i64 0,.int .u8 0,.int .u8 0,.int .i64 0,.int .i64 0,.int .i64 0,.int .u8 0,.int .u8 0,.int .i64 0,.int .i64 4] 26 (0,0))::MZ73):=hD; clear hD
      replace hf:Fr a 273 [] ((89,.bool true)::LZ73):=hf
      refine O.gvalB (v:=.agg #[.int .u8 1,.int .i64 0,.int .i64 2026,.int .u8 87,.int .u8 67,.int .i64 0,.int .i64 0,.int .i64 0,.int .u8 0,.int .u8 0,.int .i64 0,.int .i64 0]) hf rfl rfl rfl rfl rfl rfl (RunV.loadN (cs':=#[.int .u8 1,.int .i64 0,.int .i64 2026,.int .u8 87,.int .u8 67,.int .i64 0,.int .i64 0,.int .i64 0,.int .u8 0,.int .u8 0,.int .i64 0,.int .i64 0]) T_agg_26 T_size_26 rfl (hS.ptAt (i:=2) rfl) (Nat.le_of_ble_eq_true rfl) rfl) ?_
      clear hf a; intro a hf
      exact nD hf ⟨gt (d:=90) hf rfl rfl,hS⟩
    · intro k_ s_ g w hlo hhi _ hD a hf
      obtain ⟨s7,s10,s13,s15,s17,s20,s22,s24,s26,s28⟩:=g
      obtain rfl:k_=9:=Nat.le_antisymm hhi hlo
      have hS:St w0 w noX [ordA] (pt s26 (.cells #[.int .u8 4,.int .i64 0,.int .i64 0,.int .u8 0,.int .u8 0,.int .i64 0,.int .i64 0,.int .i64 0,.int .u8 0,.int .u8 0,.int .i64 0,.int .i64 2,.int .u8 4,.int .i64 0,.int .i64 0,.int .u8 0,.int .u8 0,.int .i64 0,.int .i64 0,.int .i64 0,.int .u8 0,.int .u8 0,.int .i64 0,.int .i64 4] 26 (0,0))::MZ73):=hD; clear hD
      replace hf:Fr a 273 [] ((89,.bool true)::LZ73):=hf
      refine O.gvalB (v:=.agg #[.int .i64 0,.int .i64 2026,.int .u8 87,.int .u8 67,.int .i64 0]) hf rfl rfl rfl rfl rfl rfl (RunV.loadN (cs':=#[.int .i64 0,.int .i64 2026,.int .u8 87,.int .u8 67,.int .i64 0]) T_agg_24 T_size_24 rfl (hS.ptAt (i:=3) rfl) (Nat.le_of_ble_eq_true rfl) rfl) ?_
      clear hf a; intro a hf
      exact nD hf ⟨gt (d:=91) hf rfl rfl,hS⟩
    · intro k_ s_ g w hlo hhi _ hD a hf
      obtain ⟨s7,s10,s13,s15,s17,s20,s22,s24,s26,s28⟩:=g
      obtain rfl:k_=9:=Nat.le_antisymm hhi hlo
      have hS:St w0 w noX [ordA] (pt s26 (.cells #[.int .u8 4,.int .i64 0,.int .i64 0,.int .u8 0,.int .u8 0,.int .i64 0,.int .i64 0,.int .i64 0,.int .u8 0,.int .u8 0,.int .i64 0,.int .i64 2,.int .u8 4,.int .i64 0,.int .i64 0,.int .u8 0,.int .u8 0,.int .i64 0,.int .i64 0,.int .i64 0,.int .u8 0,.int .u8 0,.int .i64 0,.int .i64 4] 26 (0,0))::MZ73):=hD; clear hD
      replace hf:Fr a 273 [] ((89,.bool true)::LZ73):=hf
      refine O.gvalB (v:=.agg #[.int .i64 1,.int .i64 0,.int .u8 0,.int .u8 0,.int .i64 0]) hf rfl rfl rfl rfl rfl rfl (RunV.buildS (cs':=#[.int .i64 1,.int .i64 0,.int .u8 0,.int .u8 0,.int .i64 0]) T_places_24 T_zero_24 rfl rfl) ?_
      clear hf a; intro a hf
      exact nD hf ⟨gt (d:=92) hf rfl rfl,hS⟩
    · intro k_ s_ g w hlo hhi _ hD a hf
      obtain ⟨s7,s10,s13,s15,s17,s20,s22,s24,s26,s28⟩:=g
      obtain rfl:k_=9:=Nat.le_antisymm hhi hlo
      have hS:St w0 w noX [ordA] (pt s26 (.cells #[.int .u8 4,.int .i64 0,.int .i64 0,.int .u8 0,.int .u8 0,.int .i64 0,.int .i64 0,.int .i64 0,.int .u8 0,.int .u8 0,.int .i64 0,.int .i64 2,.int .u8 4,.int .i64 0,.int .i64 0,.int .u8 0,.int .u8 0,.int .i64 0,.int .i64 0,.int .i64 0,.int .u8 0,.int .u8 0,.int .i64 0,.int .i64 4] 26 (0,0))::MZ73):=hD; clear hD
      replace hf:Fr a 273 [] ((89,.bool true)::(91,.agg #[.int .i64 0,.int .i64 2026,.int .u8 87,.int .u8 67,.int .i64 0])::(92,.agg #[.int .i64 1,.int .i64 0,.int .u8 0,.int .u8 0,.int .i64 0])::LZ73):=hf
      refine O.gvalB (v:=.agg #[.int .u8 3,.int .i64 0,.int .i64 2026,.int .u8 87,.int .u8 67,.int .i64 0,.int .i64 1,.int .i64 0,.int .u8 0,.int .u8 0,.int .i64 0,.int .i64 0]) hf rfl rfl rfl rfl rfl rfl (RunV.buildS (cs':=#[.int .u8 3,.int .i64 0,.int .i64 2026,.int .u8 87,.int .u8 67,.int .i64 0,.int .i64 1,.int .i64 0,.int .u8 0,.int .u8 0,.int .i64 0,.int .i64 0]) T_places_26 T_zero_26 rfl (by kernel_rfl)) ?_
      clear hf a; intro a hf
      exact nD hf ⟨gt (d:=93) hf rfl rfl,hS⟩
    · intro k_ s_ g w hlo hhi _ hD a hf
      obtain ⟨s7,s10,s13,s15,s17,s20,s22,s24,s26,s28⟩:=g
      obtain rfl:k_=9:=Nat.le_antisymm hhi hlo
      have hS:St w0 w noX [ordA] (pt s26 (.cells #[.int .u8 4,.int .i64 0,.int .i64 0,.int .u8 0,.int .u8 0,.int .i64 0,.int .i64 0,.int .i64 0,.int .u8 0,.int .u8 0,.int .i64 0,.int .i64 2,.int .u8 4,.int .i64 0,.int .i64 0,.int .u8 0,.int .u8 0,.int .i64 0,.int .i64 0,.int .i64 0,.int .u8 0,.int .u8 0,.int .i64 0,.int .i64 4] 26 (0,0))::MZ73):=hD; clear hD
      replace hf:Fr a 273 [] ((89,.bool true)::LZ73):=hf
      refine O.gvalB (v:=.agg #[.int .i64 0,.int .i64 2026,.int .u8 87,.int .u8 67,.int .i64 0]) hf rfl rfl rfl rfl rfl rfl (RunV.loadN (cs':=#[.int .i64 0,.int .i64 2026,.int .u8 87,.int .u8 67,.int .i64 0]) T_agg_24 T_size_24 rfl (hS.ptAt (i:=3) rfl) (Nat.le_of_ble_eq_true rfl) rfl) ?_
      clear hf a; intro a hf
      exact nD hf ⟨gt (d:=94) hf rfl rfl,hS⟩
    · intro k_ s_ g w hlo hhi _ hD a hf
      obtain ⟨s7,s10,s13,s15,s17,s20,s22,s24,s26,s28⟩:=g
      obtain rfl:k_=9:=Nat.le_antisymm hhi hlo
      have hS:St w0 w noX [ordA] (pt s26 (.cells #[.int .u8 4,.int .i64 0,.int .i64 0,.int .u8 0,.int .u8 0,.int .i64 0,.int .i64 0,.int .i64 0,.int .u8 0,.int .u8 0,.int .i64 0,.int .i64 2,.int .u8 4,.int .i64 0,.int .i64 0,.int .u8 0,.int .u8 0,.int .i64 0,.int .i64 0,.int .i64 0,.int .u8 0,.int .u8 0,.int .i64 0,.int .i64 4] 26 (0,0))::MZ73):=hD; clear hD
      replace hf:Fr a 273 [] ((89,.bool true)::LZ73):=hf
      refine O.gvalB (v:=.agg #[.int .i64 700001,.int .i64 0,.int .u8 0,.int .u8 0,.int .i64 0]) hf rfl rfl rfl rfl rfl rfl (RunV.loadN (cs':=#[.int .i64 700001,.int .i64 0,.int .u8 0,.int .u8 0,.int .i64 0]) T_agg_24 T_size_24 rfl (hS.ptAt (i:=4) rfl) (Nat.le_of_ble_eq_true rfl) rfl) ?_
      clear hf a; intro a hf
      exact nD hf ⟨gt (d:=95) hf rfl rfl,hS⟩
    · intro k_ s_ g w hlo hhi _ hD a hf
      obtain ⟨s7,s10,s13,s15,s17,s20,s22,s24,s26,s28⟩:=g
      obtain rfl:k_=9:=Nat.le_antisymm hhi hlo
      have hS:St w0 w noX [ordA] (pt s26 (.cells #[.int .u8 4,.int .i64 0,.int .i64 0,.int .u8 0,.int .u8 0,.int .i64 0,.int .i64 0,.int .i64 0,.int .u8 0,.int .u8 0,.int .i64 0,.int .i64 2,.int .u8 4,.int .i64 0,.int .i64 0,.int .u8 0,.int .u8 0,.int .i64 0,.int .i64 0,.int .i64 0,.int .u8 0,.int .u8 0,.int .i64 0,.int .i64 4] 26 (0,0))::MZ73):=hD; clear hD
      replace hf:Fr a 273 [] ((89,.bool true)::(94,.agg #[.int .i64 0,.int .i64 2026,.int .u8 87,.int .u8 67,.int .i64 0])::(95,.agg #[.int .i64 700001,.int .i64 0,.int .u8 0,.int .u8 0,.int .i64 0])::LZ73):=hf
      refine O.gvalB (v:=.agg #[.int .u8 2,.int .i64 0,.int .i64 2026,.int .u8 87,.int .u8 67,.int .i64 0,.int .i64 700001,.int .i64 0,.int .u8 0,.int .u8 0,.int .i64 0,.int .i64 0]) hf rfl rfl rfl rfl rfl rfl (RunV.buildS (cs':=#[.int .u8 2,.int .i64 0,.int .i64 2026,.int .u8 87,.int .u8 67,.int .i64 0,.int .i64 700001,.int .i64 0,.int .u8 0,.int .u8 0,.int .i64 0,.int .i64 0]) T_places_26 T_zero_26 rfl (by kernel_rfl)) ?_
      clear hf a; intro a hf
      exact nD hf ⟨gt (d:=96) hf rfl rfl,hS⟩
    · intro k_ s_ g w hlo hhi _ hD a hf
      obtain ⟨s7,s10,s13,s15,s17,s20,s22,s24,s26,s28⟩:=g
      obtain rfl:k_=10:=Nat.le_antisymm hhi hlo
      have hS:St w0 w noX [ordA] (pt s28 (.cells #[.int .u8 1,.int .i64 0,.int .i64 2026,.int .u8 87,.int .u8 67,.int .i64 0,.int .i64 0,.int .i64 0,.int .u8 0,.int .u8 0,.int .i64 0,.int .i64 0,.int .u8 3,.int .i64 0,.int .i64 2026,.int .u8 87,.int .u8 67,.int .i64 0,.int .i64 1,.int .i64 0,.int .u8 0,.int .u8 0,.int .i64 0,.int .i64 0,.int .u8 2,.int .i64 0,.int .i64 2026,.int .u8 87,.int .u8 67,.int .i64 0,.int .i64 700001,.int .i64 0,.int .u8 0,.int .u8 0,.int .i64 0,.int .i64 0] 26 (0,0))::MZ73):=hD; clear hD
      replace hf:Fr a 273 [] ((89,.bool true)::(97,.slice (some ⟨s28,0,none⟩) 3 3)::LZ73):=hf
      refine O.gcallR hf rfl rfl rfl rfl rfl rfl (RunE.call (av:=#[.int .i64 36,.slice (some ⟨s28,0,none⟩) 3 3]) C_ok_29 rfl rfl rfl) (fails_true 36 (.slice (some ⟨s28,0,none⟩) 3 3) [plusC,⟨3,nameD 67,n1,0⟩,⟨2,nameD 67,numD,0⟩] _ (hS.bptO (i:=0) rfl) (hS.rdPt (j:=0) (n:=3) (sz:=12) (xs:=encs eC [plusC,⟨3,nameD 67,n1,0⟩,⟨2,nameD 67,numD,0⟩]) rfl (by unfold maxLen; decide) rfl rfl) (Nat.le_refl _) (by decide) nm10) ?_
      clear hf a
      rintro _ w43 hS1 a hf
      replace hf:Fr a _ _ ((98,.bool true)::_):=hf
      replace hS:=(hS.call hS1).eqM (N:=(pt s28 (.cells #[.int .u8 1,.int .i64 0,.int .i64 2026,.int .u8 87,.int .u8 67,.int .i64 0,.int .i64 0,.int .i64 0,.int .u8 0,.int .u8 0,.int .i64 0,.int .i64 0,.int .u8 3,.int .i64 0,.int .i64 2026,.int .u8 87,.int .u8 67,.int .i64 0,.int .i64 1,.int .i64 0,.int .u8 0,.int .u8 0,.int .i64 0,.int .i64 0,.int .u8 2,.int .i64 0,.int .i64 2026,.int .u8 87,.int .u8 67,.int .i64 0,.int .i64 700001,.int .i64 0,.int .u8 0,.int .u8 0,.int .i64 0,.int .i64 0] 26 (0,0))::MZ73)) rfl
      clear hS1
      exact nD hf ⟨gt (d:=98) hf rfl rfl,hS⟩
    · intro k_ s_ g w hlo hhi _ hD a hf
      obtain ⟨s7,s10,s13,s15,s17,s20,s22,s24,s26,s28⟩:=g
      obtain rfl:k_=10:=Nat.le_antisymm hhi hlo
      have hS:St w0 w noX [ordA] (pt s28 (.cells #[.int .u8 1,.int .i64 0,.int .i64 2026,.int .u8 87,.int .u8 67,.int .i64 0,.int .i64 0,.int .i64 0,.int .u8 0,.int .u8 0,.int .i64 0,.int .i64 0,.int .u8 3,.int .i64 0,.int .i64 2026,.int .u8 87,.int .u8 67,.int .i64 0,.int .i64 1,.int .i64 0,.int .u8 0,.int .u8 0,.int .i64 0,.int .i64 0,.int .u8 2,.int .i64 0,.int .i64 2026,.int .u8 87,.int .u8 67,.int .i64 0,.int .i64 700001,.int .i64 0,.int .u8 0,.int .u8 0,.int .i64 0,.int .i64 0] 26 (0,0))::MZ73):=hD; clear hD
      replace hf:Fr a 273 [] ((89,.bool true)::(98,.bool true)::LZ73):=hf
      refine O.val (v:=.bool true) hf rfl rfl rfl (RunV.pick rfl rfl rfl rfl) ?_
      clear hf a; intro a hf
      exact nD hf ⟨gt (d:=99) hf rfl rfl,hS⟩
    · intro k_ s_ g w hlo hhi _ hD a hf
      obtain ⟨s7,s10,s13,s15,s17,s20,s22,s24,s26,s28⟩:=g
      obtain rfl:k_=10:=Nat.le_antisymm hhi hlo
      have hS:St w0 w noX [ordA] (pt s28 (.cells #[.int .u8 1,.int .i64 0,.int .i64 2026,.int .u8 87,.int .u8 67,.int .i64 0,.int .i64 0,.int .i64 0,.int .u8 0,.int .u8 0,.int .i64 0,.int .i64 0,.int .u8 3,.int .i64 0,.int .i64 2026,.int .u8 87,.int .u8 67,.int .i64 0,.int .i64 1,.int .i64 0,.int .u8 0,.int .u8 0,.int .i64 0,.int .i64 0,.int .u8 2,.int .i64 0,.int .i64 2026,.int .u8 87,.int .u8 67,.int .i64 0,.int .i64 700001,.int .i64 0,.int .u8 0,.int .u8 0,.int .i64 0,.int .i64 0] 26 (0,0))::MZ73):=hD; clear hD
      replace hf:Fr a 273 [] ((32,.agg #[.int .i64 0,.int .i64 2026,.int .u8 87,.int .u8 65,.int .i64 0])::(33,.agg #[.int .u8 1,.int .i64 0,.int .i64 2026,.int .u8 87,.int .u8 65,.int .i64 0,.int .i64 0,.int .i64 0,.int .u8 0,.int .u8 0,.int .i64 0,.int .i64 0])::(34,.slice (some ⟨s7,0,none⟩) 1 1)::(35,.bool true)::(36,.bool true)::(37,.agg #[.int .i64 0,.int .i64 2026,.int .u8 87,.int .u8 67,.int .i64 0])::(38,.agg #[.int .i64 0,.int .i64 2026,.int .u8 87,.int .u8 65,.int .i64 0])::(39,.agg #[.int .u8 2,.int .i64 0,.int .i64 2026,.int .u8 87,.int .u8 67,.int .i64 0,.int .i64 0,.int .i64 2026,.int .u8 87,.int .u8 65,.int .i64 0,.int .i64 0])::(40,.slice (some ⟨s10,0,none⟩) 1 1)::(41,.bool true)::(42,.bool true)::(43,.bool true)::(44,.agg #[.int .i64 700001,.int .i64 0,.int .u8 0,.int .u8 0,.int .i64 0])::(45,.agg #[.int .i64 0,.int .i64 2026,.int .u8 87,.int .u8 65,.int .i64 0])::(46,.agg #[.int .u8 2,.int .i64 700001,.int .i64 0,.int .u8 0,.int .u8 0,.int .i64 0,.int .i64 0,.int .i64 2026,.int .u8 87,.int .u8 65,.int .i64 0,.int .i64 0])::(47,.slice (some ⟨s13,0,none⟩) 1 1)::(48,.bool true)::(49,.bool true)::(50,.bool true)::(51,.agg #[.int .i64 0,.int .i64 2026,.int .u8 87,.int .u8 67,.int .i64 0])::(52,.agg #[.int .i64 1,.int .i64 0,.int .u8 0,.int .u8 0,.int .i64 0])::(53,.agg #[.int .u8 3,.int .i64 0,.int .i64 2026,.int .u8 87,.int .u8 67,.int .i64 0,.int .i64 1,.int .i64 0,.int .u8 0,.int .u8 0,.int .i64 0,.int .i64 0])::(54,.slice (some ⟨s15,0,none⟩) 1 1)::(55,.bool true)::(56,.bool true)::(57,.bool true)::(58,.agg #[.int .u8 1,.int .i64 0,.int .i64 2026,.int .u8 87,.int .u8 67,.int .i64 0,.int .i64 0,.int .i64 0,.int .u8 0,.int .u8 0,.int .i64 0,.int .i64 0])::(59,.agg #[.int .i64 0,.int .i64 2026,.int .u8 87,.int .u8 67,.int .i64 0])::(60,.agg #[.int .i64 700001,.int .i64 0,.int .u8 0,.int .u8 0,.int .i64 0])::(61,.agg #[.int .u8 3,.int .i64 0,.int .i64 2026,.int .u8 87,.int .u8 67,.int .i64 0,.int .i64 700001,.int .i64 0,.int .u8 0,.int .u8 0,.int .i64 0,.int .i64 0])::(62,.slice (some ⟨s17,0,none⟩) 2 2)::(63,.bool true)::(64,.bool true)::(65,.bool true)::(66,.agg #[.int .i64 0,.int .i64 2026,.int .u8 87,.int .u8 65,.int .i64 0])::(67,.agg #[.int .i64 1,.int .i64 0,.int .u8 0,.int .u8 0,.int .i64 0])::(68,.agg #[.int .u8 3,.int .i64 0,.int .i64 2026,.int .u8 87,.int .u8 65,.int .i64 0,.int .i64 1,.int .i64 0,.int .u8 0,.int .u8 0,.int .i64 0,.int .i64 0])::(69,.slice (some ⟨s20,0,none⟩) 1 1)::(70,.bool true)::(71,.bool true)::(72,.bool true)::(73,.agg #[.int .u8 4,.int .i64 0,.int .i64 0,.int .u8 0,.int .u8 0,.int .i64 0,.int .i64 0,.int .i64 0,.int .u8 0,.int .u8 0,.int .i64 0,.int .i64 4])::(74,.slice (some ⟨s22,0,none⟩) 1 1)::(75,.bool true)::(76,.bool true)::(77,.bool true)::(78,.agg #[.int .u8 4,.int .i64 0,.int .i64 0,.int .u8 0,.int .u8 0,.int .i64 0,.int .i64 0,.int .i64 0,.int .u8 0,.int .u8 0,.int .i64 0,.int .i64 2])::(79,.agg #[.int .u8 4,.int .i64 0,.int .i64 0,.int .u8 0,.int .u8 0,.int .i64 0,.int .i64 0,.int .i64 0,.int .u8 0,.int .u8 0,.int .i64 0,.int .i64 2])::(80,.slice (some ⟨s24,0,none⟩) 2 2)::(81,.bool true)::(82,.bool true)::(83,.bool true)::(84,.agg #[.int .u8 4,.int .i64 0,.int .i64 0,.int .u8 0,.int .u8 0,.int .i64 0,.int .i64 0,.int .i64 0,.int .u8 0,.int .u8 0,.int .i64 0,.int .i64 2])::(85,.agg #[.int .u8 4,.int .i64 0,.int .i64 0,.int .u8 0,.int .u8 0,.int .i64 0,.int .i64 0,.int .i64 0,.int .u8 0,.int .u8 0,.int .i64 0,.int .i64 4])::(86,.slice (some ⟨s26,0,none⟩) 2 2)::(87,.bool true)::(88,.bool true)::(89,.bool true)::(90,.agg #[.int .u8 1,.int .i64 0,.int .i64 2026,.int .u8 87,.int .u8 67,.int .i64 0,.int .i64 0,.int .i64 0,.int .u8 0,.int .u8 0,.int .i64 0,.int .i64 0])::(91,.agg #[.int .i64 0,.int .i64 2026,.int .u8 87,.int .u8 67,.int .i64 0])::(92,.agg #[.int .i64 1,.int .i64 0,.int .u8 0,.int .u8 0,.int .i64 0])::(93,.agg #[.int .u8 3,.int .i64 0,.int .i64 2026,.int .u8 87,.int .u8 67,.int .i64 0,.int .i64 1,.int .i64 0,.int .u8 0,.int .u8 0,.int .i64 0,.int .i64 0])::(94,.agg #[.int .i64 0,.int .i64 2026,.int .u8 87,.int .u8 67,.int .i64 0])::(95,.agg #[.int .i64 700001,.int .i64 0,.int .u8 0,.int .u8 0,.int .i64 0])::(96,.agg #[.int .u8 2,.int .i64 0,.int .i64 2026,.int .u8 87,.int .u8 67,.int .i64 0,.int .i64 700001,.int .i64 0,.int .u8 0,.int .u8 0,.int .i64 0,.int .i64 0])::(97,.slice (some ⟨s28,0,none⟩) 3 3)::(98,.bool true)::(99,.bool true)::LZ73):=hf
      refine O.val hf rfl rfl rfl (RunV.assign rfl) ?_
      clear hf a; intro a hf
      exact nD hf ⟨gt (d:=5) hf rfl rfl,hS⟩
  · clear hf hS
    refine ⟨?_,?_,?_,?_,?_,?_,?_,?_,?_,?_,trivial⟩
    · intro s_ g w _ hD a hf
      obtain ⟨s7,s10,s13,s15,s17,s20,s22,s24,s26,s28⟩:=g
      have hS:St w0 w noX [ordA] MZ73:=hD; clear hD
      replace hf:Fr a 273 [] ((33,.agg #[.int .u8 1,.int .i64 0,.int .i64 2026,.int .u8 87,.int .u8 65,.int .i64 0,.int .i64 0,.int .i64 0,.int .u8 0,.int .u8 0,.int .i64 0,.int .i64 0])::LZ73):=hf
      refine O.buildSlice (cs':=#[.int .u8 1,.int .i64 0,.int .i64 2026,.int .u8 87,.int .u8 65,.int .i64 0,.int .i64 0,.int .i64 0,.int .u8 0,.int .u8 0,.int .i64 0,.int .i64 0]) (zs:=#[.int .u8 0,.int .i64 0,.int .i64 0,.int .u8 0,.int .u8 0,.int .i64 0,.int .i64 0,.int .i64 0,.int .u8 0,.int .u8 0,.int .i64 0,.int .i64 0]) hf hS rfl rfl T_elem_22 T_size_26 T_zero_26 rfl rfl (by kernel_rfl) rfl (by kernel_rfl) ?_
      clear hf hS a; intro s44 w a hbb_s44 hS hf
      exact O.nil ⟨rfl,(s44,s10,s13,s15,s17,s20,s22,s24,s26,s28),hf.to trivial,(gt (d:=34) hf rfl rfl),(fun j_ hj_ ha_=>match j_,hj_,ha_ with | 0,hj_,ha_=>rfl | 1,hj_,ha_=>rfl | 2,hj_,ha_=>absurd rfl hj_ | 3,hj_,ha_=>absurd ha_ (by decide) | 4,hj_,ha_=>absurd ha_ (by decide) | 5,hj_,ha_=>absurd ha_ (by decide) | 6,hj_,ha_=>absurd ha_ (by decide) | 7,hj_,ha_=>absurd ha_ (by decide) | 8,hj_,ha_=>absurd ha_ (by decide) | 9,hj_,ha_=>absurd ha_ (by decide) | 10,hj_,ha_=>absurd ha_ (by decide) | 11,hj_,ha_=>absurd ha_ (by decide) | 12,hj_,ha_=>absurd ha_ (by decide) | 13,hj_,ha_=>absurd ha_ (by decide) | 14,hj_,ha_=>absurd ha_ (by decide) | 15,hj_,ha_=>absurd ha_ (by decide) | 16,hj_,ha_=>absurd ha_ (by decide) | 17,hj_,ha_=>absurd ha_ (by decide) | 18,hj_,ha_=>absurd ha_ (by decide) | 19,hj_,ha_=>absurd ha_ (by decide) | 20,hj_,ha_=>absurd ha_ (by decide) | 21,hj_,ha_=>absurd ha_ (by decide) | 22,hj_,ha_=>absurd ha_ (by decide) | 23,hj_,ha_=>absurd ha_ (by decide) | 24,hj_,ha_=>absurd ha_ (by decide) | 25,hj_,ha_=>absurd ha_ (by decide) | 26,hj_,ha_=>absurd ha_ (by decide) | 27,hj_,ha_=>absurd ha_ (by decide) | 28,hj_,ha_=>absurd ha_ (by decide) | 29,hj_,ha_=>absurd ha_ (by decide) | 30,hj_,ha_=>absurd ha_ (by decide) | 31,hj_,ha_=>absurd ha_ (by decide) | 32,hj_,ha_=>absurd ha_ (by decide) | 33,hj_,ha_=>absurd ha_ (by decide) | 34,hj_,ha_=>absurd ha_ (by decide) | 35,hj_,ha_=>absurd ha_ (by decide) | 36,hj_,ha_=>absurd ha_ (by decide) | 37,hj_,ha_=>absurd ha_ (by decide) | 38,hj_,ha_=>absurd ha_ (by decide) | 39,hj_,ha_=>absurd ha_ (by decide) | 40,hj_,ha_=>absurd ha_ (by decide) | 41,hj_,ha_=>absurd ha_ (by decide) | 42,hj_,ha_=>absurd ha_ (by decide) | 43,hj_,ha_=>absurd ha_ (by decide) | 44,hj_,ha_=>absurd ha_ (by decide) | 45,hj_,ha_=>absurd ha_ (by decide) | 46,hj_,ha_=>absurd ha_ (by decide) | 47,hj_,ha_=>absurd ha_ (by decide) | 48,hj_,ha_=>absurd ha_ (by decide) | 49,hj_,ha_=>absurd ha_ (by decide) | 50,hj_,ha_=>absurd ha_ (by decide) | 51,hj_,ha_=>absurd ha_ (by decide) | 52,hj_,ha_=>absurd ha_ (by decide) | 53,hj_,ha_=>absurd ha_ (by decide) | 54,hj_,ha_=>absurd ha_ (by decide) | 55,hj_,ha_=>absurd ha_ (by decide) | 56,hj_,ha_=>absurd ha_ (by decide) | 57,hj_,ha_=>absurd ha_ (by decide) | 58,hj_,ha_=>absurd ha_ (by decide) | 59,hj_,ha_=>absurd ha_ (by decide) | 60,hj_,ha_=>absurd ha_ (by decide) | 61,hj_,ha_=>absurd ha_ (by decide) | 62,hj_,ha_=>absurd ha_ (by decide) | 63,hj_,ha_=>absurd ha_ (by decide) | 64,hj_,ha_=>absurd ha_ (by decide) | 65,hj_,ha_=>absurd ha_ (by decide) | 66,hj_,ha_=>absurd ha_ (by decide) | 67,hj_,ha_=>absurd ha_ (by decide) | 68,hj_,ha_=>absurd ha_ (by decide) | _+69,_,_=>rfl),hS⟩
    · intro s_ g w _ hD a hf
      obtain ⟨s7,s10,s13,s15,s17,s20,s22,s24,s26,s28⟩:=g
      have hS:St w0 w noX [ordA] (pt s7 (.cells #[.int .u8 1,.int .i64 0,.int .i64 2026,.int .u8 87,.int .u8 65,.int .i64 0,.int .i64 0,.int .i64 0,.int .u8 0,.int .u8 0,.int .i64 0,.int .i64 0] 26 (0,0))::MZ73):=hD; clear hD
      replace hf:Fr a 273 [] ((36,.bool true)::(39,.agg #[.int .u8 2,.int .i64 0,.int .i64 2026,.int .u8 87,.int .u8 67,.int .i64 0,.int .i64 0,.int .i64 2026,.int .u8 87,.int .u8 65,.int .i64 0,.int .i64 0])::LZ73):=hf
      refine O.unguard hf rfl rfl rfl rfl ?_
      refine O.buildSlice (cs':=#[.int .u8 2,.int .i64 0,.int .i64 2026,.int .u8 87,.int .u8 67,.int .i64 0,.int .i64 0,.int .i64 2026,.int .u8 87,.int .u8 65,.int .i64 0,.int .i64 0]) (zs:=#[.int .u8 0,.int .i64 0,.int .i64 0,.int .u8 0,.int .u8 0,.int .i64 0,.int .i64 0,.int .i64 0,.int .u8 0,.int .u8 0,.int .i64 0,.int .i64 0]) hf hS rfl rfl T_elem_22 T_size_26 T_zero_26 rfl rfl (by kernel_rfl) rfl (by kernel_rfl) ?_
      clear hf hS a; intro s45 w a hbb_s45 hS hf
      refine O.nil ⟨rfl,?_⟩
      replace hS:=hS.sub (N:=(pt s45 (.cells #[.int .u8 2,.int .i64 0,.int .i64 2026,.int .u8 87,.int .u8 67,.int .i64 0,.int .i64 0,.int .i64 2026,.int .u8 87,.int .u8 65,.int .i64 0,.int .i64 0] 26 (0,0))::MZ73)) (.cons_cons _ (.cons _ (.cons_cons _ (.cons_cons _ (.cons_cons _ (.cons_cons _ .slnil))))))
      exact O.nil ⟨rfl,(s7,s45,s13,s15,s17,s20,s22,s24,s26,s28),hf.to trivial,(gt (d:=40) hf rfl rfl),(fun j_ hj_ ha_=>match j_,hj_,ha_ with | 0,hj_,ha_=>rfl | 1,hj_,ha_=>rfl | 2,hj_,ha_=>rfl | 3,hj_,ha_=>rfl | 4,hj_,ha_=>rfl | 5,hj_,ha_=>rfl | 6,hj_,ha_=>rfl | 7,hj_,ha_=>rfl | 8,hj_,ha_=>absurd rfl hj_ | 9,hj_,ha_=>absurd ha_ (by decide) | 10,hj_,ha_=>absurd ha_ (by decide) | 11,hj_,ha_=>absurd ha_ (by decide) | 12,hj_,ha_=>absurd ha_ (by decide) | 13,hj_,ha_=>absurd ha_ (by decide) | 14,hj_,ha_=>absurd ha_ (by decide) | 15,hj_,ha_=>absurd ha_ (by decide) | 16,hj_,ha_=>absurd ha_ (by decide) | 17,hj_,ha_=>absurd ha_ (by decide) | 18,hj_,ha_=>absurd ha_ (by decide) | 19,hj_,ha_=>absurd ha_ (by decide) | 20,hj_,ha_=>absurd ha_ (by decide) | 21,hj_,ha_=>absurd ha_ (by decide) | 22,hj_,ha_=>absurd ha_ (by decide) | 23,hj_,ha_=>absurd ha_ (by decide) | 24,hj_,ha_=>absurd ha_ (by decide) | 25,hj_,ha_=>absurd ha_ (by decide) | 26,hj_,ha_=>absurd ha_ (by decide) | 27,hj_,ha_=>absurd ha_ (by decide) | 28,hj_,ha_=>absurd ha_ (by decide) | 29,hj_,ha_=>absurd ha_ (by decide) | 30,hj_,ha_=>absurd ha_ (by decide) | 31,hj_,ha_=>absurd ha_ (by decide) | 32,hj_,ha_=>absurd ha_ (by decide) | 33,hj_,ha_=>absurd ha_ (by decide) | 34,hj_,ha_=>absurd ha_ (by decide) | 35,hj_,ha_=>absurd ha_ (by decide) | 36,hj_,ha_=>absurd ha_ (by decide) | 37,hj_,ha_=>absurd ha_ (by decide) | 38,hj_,ha_=>absurd ha_ (by decide) | 39,hj_,ha_=>absurd ha_ (by decide) | 40,hj_,ha_=>absurd ha_ (by decide) | 41,hj_,ha_=>absurd ha_ (by decide) | 42,hj_,ha_=>absurd ha_ (by decide) | 43,hj_,ha_=>absurd ha_ (by decide) | 44,hj_,ha_=>absurd ha_ (by decide) | 45,hj_,ha_=>absurd ha_ (by decide) | 46,hj_,ha_=>absurd ha_ (by decide) | 47,hj_,ha_=>absurd ha_ (by decide) | 48,hj_,ha_=>absurd ha_ (by decide) | 49,hj_,ha_=>absurd ha_ (by decide) | 50,hj_,ha_=>absurd ha_ (by decide) | 51,hj_,ha_=>absurd ha_ (by decide) | 52,hj_,ha_=>absurd ha_ (by decide) | 53,hj_,ha_=>absurd ha_ (by decide) | 54,hj_,ha_=>absurd ha_ (by decide) | 55,hj_,ha_=>absurd ha_ (by decide) | 56,hj_,ha_=>absurd ha_ (by decide) | 57,hj_,ha_=>absurd ha_ (by decide) | 58,hj_,ha_=>absurd ha_ (by decide) | 59,hj_,ha_=>absurd ha_ (by decide) | 60,hj_,ha_=>absurd ha_ (by decide) | 61,hj_,ha_=>absurd ha_ (by decide) | 62,hj_,ha_=>absurd ha_ (by decide) | 63,hj_,ha_=>absurd ha_ (by decide) | 64,hj_,ha_=>absurd ha_ (by decide) | 65,hj_,ha_=>absurd ha_ (by decide) | 66,hj_,ha_=>absurd ha_ (by decide) | 67,hj_,ha_=>absurd ha_ (by decide) | 68,hj_,ha_=>absurd ha_ (by decide) | _+69,_,_=>rfl),hS⟩
    · intro s_ g w _ hD a hf
      obtain ⟨s7,s10,s13,s15,s17,s20,s22,s24,s26,s28⟩:=g
      have hS:St w0 w noX [ordA] (pt s10 (.cells #[.int .u8 2,.int .i64 0,.int .i64 2026,.int .u8 87,.int .u8 67,.int .i64 0,.int .i64 0,.int .i64 2026,.int .u8 87,.int .u8 65,.int .i64 0,.int .i64 0] 26 (0,0))::MZ73):=hD; clear hD
      replace hf:Fr a 273 [] ((43,.bool true)::(46,.agg #[.int .u8 2,.int .i64 700001,.int .i64 0,.int .u8 0,.int .u8 0,.int .i64 0,.int .i64 0,.int .i64 2026,.int .u8 87,.int .u8 65,.int .i64 0,.int .i64 0])::LZ73):=hf
      refine O.unguard hf rfl rfl rfl rfl ?_
      refine O.buildSlice (cs':=#[.int .u8 2,.int .i64 700001,.int .i64 0,.int .u8 0,.int .u8 0,.int .i64 0,.int .i64 0,.int .i64 2026,.int .u8 87,.int .u8 65,.int .i64 0,.int .i64 0]) (zs:=#[.int .u8 0,.int .i64 0,.int .i64 0,.int .u8 0,.int .u8 0,.int .i64 0,.int .i64 0,.int .i64 0,.int .u8 0,.int .u8 0,.int .i64 0,.int .i64 0]) hf hS rfl rfl T_elem_22 T_size_26 T_zero_26 rfl rfl (by kernel_rfl) rfl (by kernel_rfl) ?_
      clear hf hS a; intro s46 w a hbb_s46 hS hf
      refine O.nil ⟨rfl,?_⟩
      replace hS:=hS.sub (N:=(pt s46 (.cells #[.int .u8 2,.int .i64 700001,.int .i64 0,.int .u8 0,.int .u8 0,.int .i64 0,.int .i64 0,.int .i64 2026,.int .u8 87,.int .u8 65,.int .i64 0,.int .i64 0] 26 (0,0))::MZ73)) (.cons_cons _ (.cons _ (.cons_cons _ (.cons_cons _ (.cons_cons _ (.cons_cons _ .slnil))))))
      exact O.nil ⟨rfl,(s7,s10,s46,s15,s17,s20,s22,s24,s26,s28),hf.to trivial,(gt (d:=47) hf rfl rfl),(fun j_ hj_ ha_=>match j_,hj_,ha_ with | 0,hj_,ha_=>rfl | 1,hj_,ha_=>rfl | 2,hj_,ha_=>rfl | 3,hj_,ha_=>rfl | 4,hj_,ha_=>rfl | 5,hj_,ha_=>rfl | 6,hj_,ha_=>rfl | 7,hj_,ha_=>rfl | 8,hj_,ha_=>rfl | 9,hj_,ha_=>rfl | 10,hj_,ha_=>rfl | 11,hj_,ha_=>rfl | 12,hj_,ha_=>rfl | 13,hj_,ha_=>rfl | 14,hj_,ha_=>rfl | 15,hj_,ha_=>absurd rfl hj_ | 16,hj_,ha_=>absurd ha_ (by decide) | 17,hj_,ha_=>absurd ha_ (by decide) | 18,hj_,ha_=>absurd ha_ (by decide) | 19,hj_,ha_=>absurd ha_ (by decide) | 20,hj_,ha_=>absurd ha_ (by decide) | 21,hj_,ha_=>absurd ha_ (by decide) | 22,hj_,ha_=>absurd ha_ (by decide) | 23,hj_,ha_=>absurd ha_ (by decide) | 24,hj_,ha_=>absurd ha_ (by decide) | 25,hj_,ha_=>absurd ha_ (by decide) | 26,hj_,ha_=>absurd ha_ (by decide) | 27,hj_,ha_=>absurd ha_ (by decide) | 28,hj_,ha_=>absurd ha_ (by decide) | 29,hj_,ha_=>absurd ha_ (by decide) | 30,hj_,ha_=>absurd ha_ (by decide) | 31,hj_,ha_=>absurd ha_ (by decide) | 32,hj_,ha_=>absurd ha_ (by decide) | 33,hj_,ha_=>absurd ha_ (by decide) | 34,hj_,ha_=>absurd ha_ (by decide) | 35,hj_,ha_=>absurd ha_ (by decide) | 36,hj_,ha_=>absurd ha_ (by decide) | 37,hj_,ha_=>absurd ha_ (by decide) | 38,hj_,ha_=>absurd ha_ (by decide) | 39,hj_,ha_=>absurd ha_ (by decide) | 40,hj_,ha_=>absurd ha_ (by decide) | 41,hj_,ha_=>absurd ha_ (by decide) | 42,hj_,ha_=>absurd ha_ (by decide) | 43,hj_,ha_=>absurd ha_ (by decide) | 44,hj_,ha_=>absurd ha_ (by decide) | 45,hj_,ha_=>absurd ha_ (by decide) | 46,hj_,ha_=>absurd ha_ (by decide) | 47,hj_,ha_=>absurd ha_ (by decide) | 48,hj_,ha_=>absurd ha_ (by decide) | 49,hj_,ha_=>absurd ha_ (by decide) | 50,hj_,ha_=>absurd ha_ (by decide) | 51,hj_,ha_=>absurd ha_ (by decide) | 52,hj_,ha_=>absurd ha_ (by decide) | 53,hj_,ha_=>absurd ha_ (by decide) | 54,hj_,ha_=>absurd ha_ (by decide) | 55,hj_,ha_=>absurd ha_ (by decide) | 56,hj_,ha_=>absurd ha_ (by decide) | 57,hj_,ha_=>absurd ha_ (by decide) | 58,hj_,ha_=>absurd ha_ (by decide) | 59,hj_,ha_=>absurd ha_ (by decide) | 60,hj_,ha_=>absurd ha_ (by decide) | 61,hj_,ha_=>absurd ha_ (by decide) | 62,hj_,ha_=>absurd ha_ (by decide) | 63,hj_,ha_=>absurd ha_ (by decide) | 64,hj_,ha_=>absurd ha_ (by decide) | 65,hj_,ha_=>absurd ha_ (by decide) | 66,hj_,ha_=>absurd ha_ (by decide) | 67,hj_,ha_=>absurd ha_ (by decide) | 68,hj_,ha_=>absurd ha_ (by decide) | _+69,_,_=>rfl),hS⟩
    · intro s_ g w _ hD a hf
      obtain ⟨s7,s10,s13,s15,s17,s20,s22,s24,s26,s28⟩:=g
      have hS:St w0 w noX [ordA] (pt s13 (.cells #[.int .u8 2,.int .i64 700001,.int .i64 0,.int .u8 0,.int .u8 0,.int .i64 0,.int .i64 0,.int .i64 2026,.int .u8 87,.int .u8 65,.int .i64 0,.int .i64 0] 26 (0,0))::MZ73):=hD; clear hD
      replace hf:Fr a 273 [] ((50,.bool true)::(53,.agg #[.int .u8 3,.int .i64 0,.int .i64 2026,.int .u8 87,.int .u8 67,.int .i64 0,.int .i64 1,.int .i64 0,.int .u8 0,.int .u8 0,.int .i64 0,.int .i64 0])::LZ73):=hf
      refine O.unguard hf rfl rfl rfl rfl ?_
      refine O.buildSlice (cs':=#[.int .u8 3,.int .i64 0,.int .i64 2026,.int .u8 87,.int .u8 67,.int .i64 0,.int .i64 1,.int .i64 0,.int .u8 0,.int .u8 0,.int .i64 0,.int .i64 0]) (zs:=#[.int .u8 0,.int .i64 0,.int .i64 0,.int .u8 0,.int .u8 0,.int .i64 0,.int .i64 0,.int .i64 0,.int .u8 0,.int .u8 0,.int .i64 0,.int .i64 0]) hf hS rfl rfl T_elem_22 T_size_26 T_zero_26 rfl rfl (by kernel_rfl) rfl (by kernel_rfl) ?_
      clear hf hS a; intro s47 w a hbb_s47 hS hf
      refine O.nil ⟨rfl,?_⟩
      replace hS:=hS.sub (N:=(pt s47 (.cells #[.int .u8 3,.int .i64 0,.int .i64 2026,.int .u8 87,.int .u8 67,.int .i64 0,.int .i64 1,.int .i64 0,.int .u8 0,.int .u8 0,.int .i64 0,.int .i64 0] 26 (0,0))::MZ73)) (.cons_cons _ (.cons _ (.cons_cons _ (.cons_cons _ (.cons_cons _ (.cons_cons _ .slnil))))))
      exact O.nil ⟨rfl,(s7,s10,s13,s47,s17,s20,s22,s24,s26,s28),hf.to trivial,(gt (d:=54) hf rfl rfl),(fun j_ hj_ ha_=>match j_,hj_,ha_ with | 0,hj_,ha_=>rfl | 1,hj_,ha_=>rfl | 2,hj_,ha_=>rfl | 3,hj_,ha_=>rfl | 4,hj_,ha_=>rfl | 5,hj_,ha_=>rfl | 6,hj_,ha_=>rfl | 7,hj_,ha_=>rfl | 8,hj_,ha_=>rfl | 9,hj_,ha_=>rfl | 10,hj_,ha_=>rfl | 11,hj_,ha_=>rfl | 12,hj_,ha_=>rfl | 13,hj_,ha_=>rfl | 14,hj_,ha_=>rfl | 15,hj_,ha_=>rfl | 16,hj_,ha_=>rfl | 17,hj_,ha_=>rfl | 18,hj_,ha_=>rfl | 19,hj_,ha_=>rfl | 20,hj_,ha_=>rfl | 21,hj_,ha_=>rfl | 22,hj_,ha_=>absurd rfl hj_ | 23,hj_,ha_=>absurd ha_ (by decide) | 24,hj_,ha_=>absurd ha_ (by decide) | 25,hj_,ha_=>absurd ha_ (by decide) | 26,hj_,ha_=>absurd ha_ (by decide) | 27,hj_,ha_=>absurd ha_ (by decide) | 28,hj_,ha_=>absurd ha_ (by decide) | 29,hj_,ha_=>absurd ha_ (by decide) | 30,hj_,ha_=>absurd ha_ (by decide) | 31,hj_,ha_=>absurd ha_ (by decide) | 32,hj_,ha_=>absurd ha_ (by decide) | 33,hj_,ha_=>absurd ha_ (by decide) | 34,hj_,ha_=>absurd ha_ (by decide) | 35,hj_,ha_=>absurd ha_ (by decide) | 36,hj_,ha_=>absurd ha_ (by decide) | 37,hj_,ha_=>absurd ha_ (by decide) | 38,hj_,ha_=>absurd ha_ (by decide) | 39,hj_,ha_=>absurd ha_ (by decide) | 40,hj_,ha_=>absurd ha_ (by decide) | 41,hj_,ha_=>absurd ha_ (by decide) | 42,hj_,ha_=>absurd ha_ (by decide) | 43,hj_,ha_=>absurd ha_ (by decide) | 44,hj_,ha_=>absurd ha_ (by decide) | 45,hj_,ha_=>absurd ha_ (by decide) | 46,hj_,ha_=>absurd ha_ (by decide) | 47,hj_,ha_=>absurd ha_ (by decide) | 48,hj_,ha_=>absurd ha_ (by decide) | 49,hj_,ha_=>absurd ha_ (by decide) | 50,hj_,ha_=>absurd ha_ (by decide) | 51,hj_,ha_=>absurd ha_ (by decide) | 52,hj_,ha_=>absurd ha_ (by decide) | 53,hj_,ha_=>absurd ha_ (by decide) | 54,hj_,ha_=>absurd ha_ (by decide) | 55,hj_,ha_=>absurd ha_ (by decide) | 56,hj_,ha_=>absurd ha_ (by decide) | 57,hj_,ha_=>absurd ha_ (by decide) | 58,hj_,ha_=>absurd ha_ (by decide) | 59,hj_,ha_=>absurd ha_ (by decide) | 60,hj_,ha_=>absurd ha_ (by decide) | 61,hj_,ha_=>absurd ha_ (by decide) | 62,hj_,ha_=>absurd ha_ (by decide) | 63,hj_,ha_=>absurd ha_ (by decide) | 64,hj_,ha_=>absurd ha_ (by decide) | 65,hj_,ha_=>absurd ha_ (by decide) | 66,hj_,ha_=>absurd ha_ (by decide) | 67,hj_,ha_=>absurd ha_ (by decide) | 68,hj_,ha_=>absurd ha_ (by decide) | _+69,_,_=>rfl),hS⟩
    · intro s_ g w _ hD a hf
      obtain ⟨s7,s10,s13,s15,s17,s20,s22,s24,s26,s28⟩:=g
      have hS:St w0 w noX [ordA] (pt s15 (.cells #[.int .u8 3,.int .i64 0,.int .i64 2026,.int .u8 87,.int .u8 67,.int .i64 0,.int .i64 1,.int .i64 0,.int .u8 0,.int .u8 0,.int .i64 0,.int .i64 0] 26 (0,0))::MZ73):=hD; clear hD
      replace hf:Fr a 273 [] ((57,.bool true)::(58,.agg #[.int .u8 1,.int .i64 0,.int .i64 2026,.int .u8 87,.int .u8 67,.int .i64 0,.int .i64 0,.int .i64 0,.int .u8 0,.int .u8 0,.int .i64 0,.int .i64 0])::(61,.agg #[.int .u8 3,.int .i64 0,.int .i64 2026,.int .u8 87,.int .u8 67,.int .i64 0,.int .i64 700001,.int .i64 0,.int .u8 0,.int .u8 0,.int .i64 0,.int .i64 0])::LZ73):=hf
      refine O.unguard hf rfl rfl rfl rfl ?_
      refine O.buildSlice (cs':=#[.int .u8 1,.int .i64 0,.int .i64 2026,.int .u8 87,.int .u8 67,.int .i64 0,.int .i64 0,.int .i64 0,.int .u8 0,.int .u8 0,.int .i64 0,.int .i64 0,.int .u8 3,.int .i64 0,.int .i64 2026,.int .u8 87,.int .u8 67,.int .i64 0,.int .i64 700001,.int .i64 0,.int .u8 0,.int .u8 0,.int .i64 0,.int .i64 0]) (zs:=#[.int .u8 0,.int .i64 0,.int .i64 0,.int .u8 0,.int .u8 0,.int .i64 0,.int .i64 0,.int .i64 0,.int .u8 0,.int .u8 0,.int .i64 0,.int .i64 0,.int .u8 0,.int .i64 0,.int .i64 0,.int .u8 0,.int .u8 0,.int .i64 0,.int .i64 0,.int .i64 0,.int .u8 0,.int .u8 0,.int .i64 0,.int .i64 0]) hf hS rfl rfl T_elem_22 T_size_26 T_zero_26 rfl rfl (by kernel_rfl) rfl (by kernel_rfl) ?_
      clear hf hS a; intro s48 w a hbb_s48 hS hf
      refine O.nil ⟨rfl,?_⟩
      replace hS:=hS.sub (N:=(pt s48 (.cells #[.int .u8 1,.int .i64 0,.int .i64 2026,.int .u8 87,.int .u8 67,.int .i64 0,.int .i64 0,.int .i64 0,.int .u8 0,.int .u8 0,.int .i64 0,.int .i64 0,.int .u8 3,.int .i64 0,.int .i64 2026,.int .u8 87,.int .u8 67,.int .i64 0,.int .i64 700001,.int .i64 0,.int .u8 0,.int .u8 0,.int .i64 0,.int .i64 0] 26 (0,0))::MZ73)) (.cons_cons _ (.cons _ (.cons_cons _ (.cons_cons _ (.cons_cons _ (.cons_cons _ .slnil))))))
      exact O.nil ⟨rfl,(s7,s10,s13,s15,s48,s20,s22,s24,s26,s28),hf.to trivial,(gt (d:=62) hf rfl rfl),(fun j_ hj_ ha_=>match j_,hj_,ha_ with | 0,hj_,ha_=>rfl | 1,hj_,ha_=>rfl | 2,hj_,ha_=>rfl | 3,hj_,ha_=>rfl | 4,hj_,ha_=>rfl | 5,hj_,ha_=>rfl | 6,hj_,ha_=>rfl | 7,hj_,ha_=>rfl | 8,hj_,ha_=>rfl | 9,hj_,ha_=>rfl | 10,hj_,ha_=>rfl | 11,hj_,ha_=>rfl | 12,hj_,ha_=>rfl | 13,hj_,ha_=>rfl | 14,hj_,ha_=>rfl | 15,hj_,ha_=>rfl | 16,hj_,ha_=>rfl | 17,hj_,ha_=>rfl | 18,hj_,ha_=>rfl | 19,hj_,ha_=>rfl | 20,hj_,ha_=>rfl | 21,hj_,ha_=>rfl | 22,hj_,ha_=>rfl | 23,hj_,ha_=>rfl | 24,hj_,ha_=>rfl | 25,hj_,ha_=>rfl | 26,hj_,ha_=>rfl | 27,hj_,ha_=>rfl | 28,hj_,ha_=>rfl | 29,hj_,ha_=>rfl | 30,hj_,ha_=>absurd rfl hj_ | 31,hj_,ha_=>absurd ha_ (by decide) | 32,hj_,ha_=>absurd ha_ (by decide) | 33,hj_,ha_=>absurd ha_ (by decide) | 34,hj_,ha_=>absurd ha_ (by decide) | 35,hj_,ha_=>absurd ha_ (by decide) | 36,hj_,ha_=>absurd ha_ (by decide) | 37,hj_,ha_=>absurd ha_ (by decide) | 38,hj_,ha_=>absurd ha_ (by decide) | 39,hj_,ha_=>absurd ha_ (by decide) | 40,hj_,ha_=>absurd ha_ (by decide) | 41,hj_,ha_=>absurd ha_ (by decide) | 42,hj_,ha_=>absurd ha_ (by decide) | 43,hj_,ha_=>absurd ha_ (by decide) | 44,hj_,ha_=>absurd ha_ (by decide) | 45,hj_,ha_=>absurd ha_ (by decide) | 46,hj_,ha_=>absurd ha_ (by decide) | 47,hj_,ha_=>absurd ha_ (by decide) | 48,hj_,ha_=>absurd ha_ (by decide) | 49,hj_,ha_=>absurd ha_ (by decide) | 50,hj_,ha_=>absurd ha_ (by decide) | 51,hj_,ha_=>absurd ha_ (by decide) | 52,hj_,ha_=>absurd ha_ (by decide) | 53,hj_,ha_=>absurd ha_ (by decide) | 54,hj_,ha_=>absurd ha_ (by decide) | 55,hj_,ha_=>absurd ha_ (by decide) | 56,hj_,ha_=>absurd ha_ (by decide) | 57,hj_,ha_=>absurd ha_ (by decide) | 58,hj_,ha_=>absurd ha_ (by decide) | 59,hj_,ha_=>absurd ha_ (by decide) | 60,hj_,ha_=>absurd ha_ (by decide) | 61,hj_,ha_=>absurd ha_ (by decide) | 62,hj_,ha_=>absurd ha_ (by decide) | 63,hj_,ha_=>absurd ha_ (by decide) | 64,hj_,ha_=>absurd ha_ (by decide) | 65,hj_,ha_=>absurd ha_ (by decide) | 66,hj_,ha_=>absurd ha_ (by decide) | 67,hj_,ha_=>absurd ha_ (by decide) | 68,hj_,ha_=>absurd ha_ (by decide) | _+69,_,_=>rfl),hS⟩
    · intro s_ g w _ hD a hf
      obtain ⟨s7,s10,s13,s15,s17,s20,s22,s24,s26,s28⟩:=g
      have hS:St w0 w noX [ordA] (pt s17 (.cells #[.int .u8 1,.int .i64 0,.int .i64 2026,.int .u8 87,.int .u8 67,.int .i64 0,.int .i64 0,.int .i64 0,.int .u8 0,.int .u8 0,.int .i64 0,.int .i64 0,.int .u8 3,.int .i64 0,.int .i64 2026,.int .u8 87,.int .u8 67,.int .i64 0,.int .i64 700001,.int .i64 0,.int .u8 0,.int .u8 0,.int .i64 0,.int .i64 0] 26 (0,0))::MZ73):=hD; clear hD
      replace hf:Fr a 273 [] ((65,.bool true)::(68,.agg #[.int .u8 3,.int .i64 0,.int .i64 2026,.int .u8 87,.int .u8 65,.int .i64 0,.int .i64 1,.int .i64 0,.int .u8 0,.int .u8 0,.int .i64 0,.int .i64 0])::LZ73):=hf
      refine O.unguard hf rfl rfl rfl rfl ?_
      refine O.buildSlice (cs':=#[.int .u8 3,.int .i64 0,.int .i64 2026,.int .u8 87,.int .u8 65,.int .i64 0,.int .i64 1,.int .i64 0,.int .u8 0,.int .u8 0,.int .i64 0,.int .i64 0]) (zs:=#[.int .u8 0,.int .i64 0,.int .i64 0,.int .u8 0,.int .u8 0,.int .i64 0,.int .i64 0,.int .i64 0,.int .u8 0,.int .u8 0,.int .i64 0,.int .i64 0]) hf hS rfl rfl T_elem_22 T_size_26 T_zero_26 rfl rfl (by kernel_rfl) rfl (by kernel_rfl) ?_
      clear hf hS a; intro s49 w a hbb_s49 hS hf
      refine O.nil ⟨rfl,?_⟩
      replace hS:=hS.sub (N:=(pt s49 (.cells #[.int .u8 3,.int .i64 0,.int .i64 2026,.int .u8 87,.int .u8 65,.int .i64 0,.int .i64 1,.int .i64 0,.int .u8 0,.int .u8 0,.int .i64 0,.int .i64 0] 26 (0,0))::MZ73)) (.cons_cons _ (.cons _ (.cons_cons _ (.cons_cons _ (.cons_cons _ (.cons_cons _ .slnil))))))
      exact O.nil ⟨rfl,(s7,s10,s13,s15,s17,s49,s22,s24,s26,s28),hf.to trivial,(gt (d:=69) hf rfl rfl),(fun j_ hj_ ha_=>match j_,hj_,ha_ with | 0,hj_,ha_=>rfl | 1,hj_,ha_=>rfl | 2,hj_,ha_=>rfl | 3,hj_,ha_=>rfl | 4,hj_,ha_=>rfl | 5,hj_,ha_=>rfl | 6,hj_,ha_=>rfl | 7,hj_,ha_=>rfl | 8,hj_,ha_=>rfl | 9,hj_,ha_=>rfl | 10,hj_,ha_=>rfl | 11,hj_,ha_=>rfl | 12,hj_,ha_=>rfl | 13,hj_,ha_=>rfl | 14,hj_,ha_=>rfl | 15,hj_,ha_=>rfl | 16,hj_,ha_=>rfl | 17,hj_,ha_=>rfl | 18,hj_,ha_=>rfl | 19,hj_,ha_=>rfl | 20,hj_,ha_=>rfl | 21,hj_,ha_=>rfl | 22,hj_,ha_=>rfl | 23,hj_,ha_=>rfl | 24,hj_,ha_=>rfl | 25,hj_,ha_=>rfl | 26,hj_,ha_=>rfl | 27,hj_,ha_=>rfl | 28,hj_,ha_=>rfl | 29,hj_,ha_=>rfl | 30,hj_,ha_=>rfl | 31,hj_,ha_=>rfl | 32,hj_,ha_=>rfl | 33,hj_,ha_=>rfl | 34,hj_,ha_=>rfl | 35,hj_,ha_=>rfl | 36,hj_,ha_=>rfl | 37,hj_,ha_=>absurd rfl hj_ | 38,hj_,ha_=>absurd ha_ (by decide) | 39,hj_,ha_=>absurd ha_ (by decide) | 40,hj_,ha_=>absurd ha_ (by decide) | 41,hj_,ha_=>absurd ha_ (by decide) | 42,hj_,ha_=>absurd ha_ (by decide) | 43,hj_,ha_=>absurd ha_ (by decide) | 44,hj_,ha_=>absurd ha_ (by decide) | 45,hj_,ha_=>absurd ha_ (by decide) | 46,hj_,ha_=>absurd ha_ (by decide) | 47,hj_,ha_=>absurd ha_ (by decide) | 48,hj_,ha_=>absurd ha_ (by decide) | 49,hj_,ha_=>absurd ha_ (by decide) | 50,hj_,ha_=>absurd ha_ (by decide) | 51,hj_,ha_=>absurd ha_ (by decide) | 52,hj_,ha_=>absurd ha_ (by decide) | 53,hj_,ha_=>absurd ha_ (by decide) | 54,hj_,ha_=>absurd ha_ (by decide) | 55,hj_,ha_=>absurd ha_ (by decide) | 56,hj_,ha_=>absurd ha_ (by decide) | 57,hj_,ha_=>absurd ha_ (by decide) | 58,hj_,ha_=>absurd ha_ (by decide) | 59,hj_,ha_=>absurd ha_ (by decide) | 60,hj_,ha_=>absurd ha_ (by decide) | 61,hj_,ha_=>absurd ha_ (by decide) | 62,hj_,ha_=>absurd ha_ (by decide) | 63,hj_,ha_=>absurd ha_ (by decide) | 64,hj_,ha_=>absurd ha_ (by decide) | 65,hj_,ha_=>absurd ha_ (by decide) | 66,hj_,ha_=>absurd ha_ (by decide) | 67,hj_,ha_=>absurd ha_ (by decide) | 68,hj_,ha_=>absurd ha_ (by decide) | _+69,_,_=>rfl),hS⟩
    · intro s_ g w _ hD a hf
      obtain ⟨s7,s10,s13,s15,s17,s20,s22,s24,s26,s28⟩:=g
      have hS:St w0 w noX [ordA] (pt s20 (.cells #[.int .u8 3,.int .i64 0,.int .i64 2026,.int .u8 87,.int .u8 65,.int .i64 0,.int .i64 1,.int .i64 0,.int .u8 0,.int .u8 0,.int .i64 0,.int .i64 0] 26 (0,0))::MZ73):=hD; clear hD
      replace hf:Fr a 273 [] ((72,.bool true)::(73,.agg #[.int .u8 4,.int .i64 0,.int .i64 0,.int .u8 0,.int .u8 0,.int .i64 0,.int .i64 0,.int .i64 0,.int .u8 0,.int .u8 0,.int .i64 0,.int .i64 4])::LZ73):=hf
      refine O.unguard hf rfl rfl rfl rfl ?_
      refine O.buildSlice (cs':=#[.int .u8 4,.int .i64 0,.int .i64 0,.int .u8 0,.int .u8 0,.int .i64 0,.int .i64 0,.int .i64 0,.int .u8 0,.int .u8 0,.int .i64 0,.int .i64 4]) (zs:=#[.int .u8 0,.int .i64 0,.int .i64 0,.int .u8 0,.int .u8 0,.int .i64 0,.int .i64 0,.int .i64 0,.int .u8 0,.int .u8 0,.int .i64 0,.int .i64 0]) hf hS rfl rfl T_elem_22 T_size_26 T_zero_26 rfl rfl (by kernel_rfl) rfl (by kernel_rfl) ?_
      clear hf hS a; intro s50 w a hbb_s50 hS hf
      refine O.nil ⟨rfl,?_⟩
      replace hS:=hS.sub (N:=(pt s50 (.cells #[.int .u8 4,.int .i64 0,.int .i64 0,.int .u8 0,.int .u8 0,.int .i64 0,.int .i64 0,.int .i64 0,.int .u8 0,.int .u8 0,.int .i64 0,.int .i64 4] 26 (0,0))::MZ73)) (.cons_cons _ (.cons _ (.cons_cons _ (.cons_cons _ (.cons_cons _ (.cons_cons _ .slnil))))))
      exact O.nil ⟨rfl,(s7,s10,s13,s15,s17,s20,s50,s24,s26,s28),hf.to trivial,(gt (d:=74) hf rfl rfl),(fun j_ hj_ ha_=>match j_,hj_,ha_ with | 0,hj_,ha_=>rfl | 1,hj_,ha_=>rfl | 2,hj_,ha_=>rfl | 3,hj_,ha_=>rfl | 4,hj_,ha_=>rfl | 5,hj_,ha_=>rfl | 6,hj_,ha_=>rfl | 7,hj_,ha_=>rfl | 8,hj_,ha_=>rfl | 9,hj_,ha_=>rfl | 10,hj_,ha_=>rfl | 11,hj_,ha_=>rfl | 12,hj_,ha_=>rfl | 13,hj_,ha_=>rfl | 14,hj_,ha_=>rfl | 15,hj_,ha_=>rfl | 16,hj_,ha_=>rfl | 17,hj_,ha_=>rfl | 18,hj_,ha_=>rfl | 19,hj_,ha_=>rfl | 20,hj_,ha_=>rfl | 21,hj_,ha_=>rfl | 22,hj_,ha_=>rfl | 23,hj_,ha_=>rfl | 24,hj_,ha_=>rfl | 25,hj_,ha_=>rfl | 26,hj_,ha_=>rfl | 27,hj_,ha_=>rfl | 28,hj_,ha_=>rfl | 29,hj_,ha_=>rfl | 30,hj_,ha_=>rfl | 31,hj_,ha_=>rfl | 32,hj_,ha_=>rfl | 33,hj_,ha_=>rfl | 34,hj_,ha_=>rfl | 35,hj_,ha_=>rfl | 36,hj_,ha_=>rfl | 37,hj_,ha_=>rfl | 38,hj_,ha_=>rfl | 39,hj_,ha_=>rfl | 40,hj_,ha_=>rfl | 41,hj_,ha_=>rfl | 42,hj_,ha_=>absurd rfl hj_ | 43,hj_,ha_=>absurd ha_ (by decide) | 44,hj_,ha_=>absurd ha_ (by decide) | 45,hj_,ha_=>absurd ha_ (by decide) | 46,hj_,ha_=>absurd ha_ (by decide) | 47,hj_,ha_=>absurd ha_ (by decide) | 48,hj_,ha_=>absurd ha_ (by decide) | 49,hj_,ha_=>absurd ha_ (by decide) | 50,hj_,ha_=>absurd ha_ (by decide) | 51,hj_,ha_=>absurd ha_ (by decide) | 52,hj_,ha_=>absurd ha_ (by decide) | 53,hj_,ha_=>absurd ha_ (by decide) | 54,hj_,ha_=>absurd ha_ (by decide) | 55,hj_,ha_=>absurd ha_ (by decide) | 56,hj_,ha_=>absurd ha_ (by decide) | 57,hj_,ha_=>absurd ha_ (by decide) | 58,hj_,ha_=>absurd ha_ (by decide) | 59,hj_,ha_=>absurd ha_ (by decide) | 60,hj_,ha_=>absurd ha_ (by decide) | 61,hj_,ha_=>absurd ha_ (by decide) | 62,hj_,ha_=>absurd ha_ (by decide) | 63,hj_,ha_=>absurd ha_ (by decide) | 64,hj_,ha_=>absurd ha_ (by decide) | 65,hj_,ha_=>absurd ha_ (by decide) | 66,hj_,ha_=>absurd ha_ (by decide) | 67,hj_,ha_=>absurd ha_ (by decide) | 68,hj_,ha_=>absurd ha_ (by decide) | _+69,_,_=>rfl),hS⟩
    · intro s_ g w _ hD a hf
      obtain ⟨s7,s10,s13,s15,s17,s20,s22,s24,s26,s28⟩:=g
      have hS:St w0 w noX [ordA] (pt s22 (.cells #[.int .u8 4,.int .i64 0,.int .i64 0,.int .u8 0,.int .u8 0,.int .i64 0,.int .i64 0,.int .i64 0,.int .u8 0,.int .u8 0,.int .i64 0,.int .i64 4] 26 (0,0))::MZ73):=hD; clear hD
      replace hf:Fr a 273 [] ((77,.bool true)::(78,.agg #[.int .u8 4,.int .i64 0,.int .i64 0,.int .u8 0,.int .u8 0,.int .i64 0,.int .i64 0,.int .i64 0,.int .u8 0,.int .u8 0,.int .i64 0,.int .i64 2])::(79,.agg #[.int .u8 4,.int .i64 0,.int .i64 0,.int .u8 0,.int .u8 0,.int .i64 0,.int .i64 0,.int .i64 0,.int .u8 0,.int .u8 0,.int .i64 0,.int .i64 2])::LZ73):=hf
      refine O.unguard hf rfl rfl rfl rfl ?_
      refine O.buildSlice (cs':=#[.int .u8 4,.int .i64 0,.int .i64 0,.int .u8 0,.int .u8 0,.int .i64 0,.int .i64 0,.int .i64 0,.int .u8 0,.int .u8 0,.int .i64 0,.int .i64 2,.int .u8 4,.int .i64 0,.int .i64 0,.int .u8 0,.int .u8 0,.int .i64 0,.int .i64 0,.int .i64 0,.int .u8 0,.int .u8 0,.int .i64 0,.int .i64 2]) (zs:=#[.int .u8 0,.int .i64 0,.int .i64 0,.int .u8 0,.int .u8 0,.int .i64 0,.int .i64 0,.int .i64 0,.int .u8 0,.int .u8 0,.int .i64 0,.int .i64 0,.int .u8 0,.int .i64 0,.int .i64 0,.int .u8 0,.int .u8 0,.int .i64 0,.int .i64 0,.int .i64 0,.int .u8 0,.int .u8 0,.int .i64 0,.int .i64 0]) hf hS rfl rfl T_elem_22 T_size_26 T_zero_26 rfl rfl (by kernel_rfl) rfl (by kernel_rfl) ?_
      clear hf hS a; intro s51 w a hbb_s51 hS hf
      refine O.nil ⟨rfl,?_⟩
      replace hS:=hS.sub (N:=(pt s51 (.cells #[.int .u8 4,.int .i64 0,.int .i64 0,.int .u8 0,.int .u8 0,.int .i64 0,.int .i64 0,.int .i64 0,.int .u8 0,.int .u8 0,.int .i64 0,.int .i64 2,.int .u8 4,.int .i64 0,.int .i64 0,.int .u8 0,.int .u8 0,.int .i64 0,.int .i64 0,.int .i64 0,.int .u8 0,.int .u8 0,.int .i64 0,.int .i64 2] 26 (0,0))::MZ73)) (.cons_cons _ (.cons _ (.cons_cons _ (.cons_cons _ (.cons_cons _ (.cons_cons _ .slnil))))))
      exact O.nil ⟨rfl,(s7,s10,s13,s15,s17,s20,s22,s51,s26,s28),hf.to trivial,(gt (d:=80) hf rfl rfl),(fun j_ hj_ ha_=>match j_,hj_,ha_ with | 0,hj_,ha_=>rfl | 1,hj_,ha_=>rfl | 2,hj_,ha_=>rfl | 3,hj_,ha_=>rfl | 4,hj_,ha_=>rfl | 5,hj_,ha_=>rfl | 6,hj_,ha_=>rfl | 7,hj_,ha_=>rfl | 8,hj_,ha_=>rfl | 9,hj_,ha_=>rfl | 10,hj_,ha_=>rfl | 11,hj_,ha_=>rfl | 12,hj_,ha_=>rfl | 13,hj_,ha_=>rfl | 14,hj_,ha_=>rfl | 15,hj_,ha_=>rfl | 16,hj_,ha_=>rfl | 17,hj_,ha_=>rfl | 18,hj_,ha_=>rfl | 19,hj_,ha_=>rfl | 20,hj_,ha_=>rfl | 21,hj_,ha_=>rfl | 22,hj_,ha_=>rfl | 23,hj_,ha_=>rfl | 24,hj_,ha_=>rfl | 25,hj_,ha_=>rfl | 26,hj_,ha_=>rfl | 27,hj_,ha_=>rfl | 28,hj_,ha_=>rfl | 29,hj_,ha_=>rfl | 30,hj_,ha_=>rfl | 31,hj_,ha_=>rfl | 32,hj_,ha_=>rfl | 33,hj_,ha_=>rfl | 34,hj_,ha_=>rfl | 35,hj_,ha_=>rfl | 36,hj_,ha_=>rfl | 37,hj_,ha_=>rfl | 38,hj_,ha_=>rfl | 39,hj_,ha_=>rfl | 40,hj_,ha_=>rfl | 41,hj_,ha_=>rfl | 42,hj_,ha_=>rfl | 43,hj_,ha_=>rfl | 44,hj_,ha_=>rfl | 45,hj_,ha_=>rfl | 46,hj_,ha_=>rfl | 47,hj_,ha_=>rfl | 48,hj_,ha_=>absurd rfl hj_ | 49,hj_,ha_=>absurd ha_ (by decide) | 50,hj_,ha_=>absurd ha_ (by decide) | 51,hj_,ha_=>absurd ha_ (by decide) | 52,hj_,ha_=>absurd ha_ (by decide) | 53,hj_,ha_=>absurd ha_ (by decide) | 54,hj_,ha_=>absurd ha_ (by decide) | 55,hj_,ha_=>absurd ha_ (by decide) | 56,hj_,ha_=>absurd ha_ (by decide) | 57,hj_,ha_=>absurd ha_ (by decide) | 58,hj_,ha_=>absurd ha_ (by decide) | 59,hj_,ha_=>absurd ha_ (by decide) | 60,hj_,ha_=>absurd ha_ (by decide) | 61,hj_,ha_=>absurd ha_ (by decide) | 62,hj_,ha_=>absurd ha_ (by decide) | 63,hj_,ha_=>absurd ha_ (by decide) | 64,hj_,ha_=>absurd ha_ (by decide) | 65,hj_,ha_=>absurd ha_ (by decide) | 66,hj_,ha_=>absurd ha_ (by decide) | 67,hj_,ha_=>absurd ha_ (by decide) | 68,hj_,ha_=>absurd ha_ (by decide) | _+69,_,_=>rfl),hS⟩
    · intro s_ g w _ hD a hf
      obtain ⟨s7,s10,s13,s15,s17,s20,s22,s24,s26,s28⟩:=g
      have hS:St w0 w noX [ordA] (pt s24 (.cells #[.int .u8 4,.int .i64 0,.int .i64 0,.int .u8 0,.int .u8 0,.int .i64 0,.int .i64 0,.int .i64 0,.int .u8 0,.int .u8 0,.int .i64 0,.int .i64 2,.int .u8 4,.int .i64 0,.int .i64 0,.int .u8 0,.int .u8 0,.int .i64 0,.int .i64 0,.int .i64 0,.int .u8 0,.int .u8 0,.int .i64 0,.int .i64 2] 26 (0,0))::MZ73):=hD; clear hD
      replace hf:Fr a 273 [] ((83,.bool true)::(84,.agg #[.int .u8 4,.int .i64 0,.int .i64 0,.int .u8 0,.int .u8 0,.int .i64 0,.int .i64 0,.int .i64 0,.int .u8 0,.int .u8 0,.int .i64 0,.int .i64 2])::(85,.agg #[.int .u8 4,.int .i64 0,.int .i64 0,.int .u8 0,.int .u8 0,.int .i64 0,.int .i64 0,.int .i64 0,.int .u8 0,.int .u8 0,.int .i64 0,.int .i64 4])::LZ73):=hf
      refine O.unguard hf rfl rfl rfl rfl ?_
      refine O.buildSlice (cs':=#[.int .u8 4,.int .i64 0,.int .i64 0,.int .u8 0,.int .u8 0,.int .i64 0,.int .i64 0,.int .i64 0,.int .u8 0,.int .u8 0,.int .i64 0,.int .i64 2,.int .u8 4,.int .i64 0,.int .i64 0,.int .u8 0,.int .u8 0,.int .i64 0,.int .i64 0,.int .i64 0,.int .u8 0,.int .u8 0,.int .i64 0,.int .i64 4]) (zs:=#[.int .u8 0,.int .i64 0,.int .i64 0,.int .u8 0,.int .u8 0,.int .i64 0,.int .i64 0,.int .i64 0,.int .u8 0,.int .u8 0,.int .i64 0,.int .i64 0,.int .u8 0,.int .i64 0,.int .i64 0,.int .u8 0,.int .u8 0,.int .i64 0,.int .i64 0,.int .i64 0,.int .u8 0,.int .u8 0,.int .i64 0,.int .i64 0]) hf hS rfl rfl T_elem_22 T_size_26 T_zero_26 rfl rfl (by kernel_rfl) rfl (by kernel_rfl) ?_
      clear hf hS a; intro s52 w a hbb_s52 hS hf
      refine O.nil ⟨rfl,?_⟩
      replace hS:=hS.sub (N:=(pt s52 (.cells #[.int .u8 4,.int .i64 0,.int .i64 0,.int .u8 0,.int .u8 0,.int .i64 0,.int .i64 0,.int .i64 0,.int .u8 0,.int .u8 0,.int .i64 0,.int .i64 2,.int .u8 4,.int .i64 0,.int .i64 0,.int .u8 0,.int .u8 0,.int .i64 0,.int .i64 0,.int .i64 0,.int .u8 0,.int .u8 0,.int .i64 0,.int .i64 4] 26 (0,0))::MZ73)) (.cons_cons _ (.cons _ (.cons_cons _ (.cons_cons _ (.cons_cons _ (.cons_cons _ .slnil))))))
      exact O.nil ⟨rfl,(s7,s10,s13,s15,s17,s20,s22,s24,s52,s28),hf.to trivial,(gt (d:=86) hf rfl rfl),(fun j_ hj_ ha_=>match j_,hj_,ha_ with | 0,hj_,ha_=>rfl | 1,hj_,ha_=>rfl | 2,hj_,ha_=>rfl | 3,hj_,ha_=>rfl | 4,hj_,ha_=>rfl | 5,hj_,ha_=>rfl | 6,hj_,ha_=>rfl | 7,hj_,ha_=>rfl | 8,hj_,ha_=>rfl | 9,hj_,ha_=>rfl | 10,hj_,ha_=>rfl | 11,hj_,ha_=>rfl | 12,hj_,ha_=>rfl | 13,hj_,ha_=>rfl | 14,hj_,ha_=>rfl | 15,hj_,ha_=>rfl | 16,hj_,ha_=>rfl | 17,hj_,ha_=>rfl | 18,hj_,ha_=>rfl | 19,hj_,ha_=>rfl | 20,hj_,ha_=>rfl | 21,hj_,ha_=>rfl | 22,hj_,ha_=>rfl | 23,hj_,ha_=>rfl | 24,hj_,ha_=>rfl | 25,hj_,ha_=>rfl | 26,hj_,ha_=>rfl | 27,hj_,ha_=>rfl | 28,hj_,ha_=>rfl | 29,hj_,ha_=>rfl | 30,hj_,ha_=>rfl | 31,hj_,ha_=>rfl | 32,hj_,ha_=>rfl | 33,hj_,ha_=>rfl | 34,hj_,ha_=>rfl | 35,hj_,ha_=>rfl | 36,hj_,ha_=>rfl | 37,hj_,ha_=>rfl | 38,hj_,ha_=>rfl | 39,hj_,ha_=>rfl | 40,hj_,ha_=>rfl | 41,hj_,ha_=>rfl | 42,hj_,ha_=>rfl | 43,hj_,ha_=>rfl | 44,hj_,ha_=>rfl | 45,hj_,ha_=>rfl | 46,hj_,ha_=>rfl | 47,hj_,ha_=>rfl | 48,hj_,ha_=>rfl | 49,hj_,ha_=>rfl | 50,hj_,ha_=>rfl | 51,hj_,ha_=>rfl | 52,hj_,ha_=>rfl | 53,hj_,ha_=>rfl | 54,hj_,ha_=>absurd rfl hj_ | 55,hj_,ha_=>absurd ha_ (by decide) | 56,hj_,ha_=>absurd ha_ (by decide) | 57,hj_,ha_=>absurd ha_ (by decide) | 58,hj_,ha_=>absurd ha_ (by decide) | 59,hj_,ha_=>absurd ha_ (by decide) | 60,hj_,ha_=>absurd ha_ (by decide) | 61,hj_,ha_=>absurd ha_ (by decide) | 62,hj_,ha_=>absurd ha_ (by decide) | 63,hj_,ha_=>absurd ha_ (by decide) | 64,hj_,ha_=>absurd ha_ (by decide) | 65,hj_,ha_=>absurd ha_ (by decide) | 66,hj_,ha_=>absurd ha_ (by decide) | 67,hj_,ha_=>absurd ha_ (by decide) | 68,hj_,ha_=>absurd ha_ (by decide) | _+69,_,_=>rfl),hS⟩
    · intro s_ g w _ hD a hf
      obtain ⟨s7,s10,s13,s15,s17,s20,s22,s24,s26,s28⟩:=g
      have hS:St w0 w noX [ordA] (pt s26 (.cells #[.int .u8 4,.int .i64 0,.int .i64 0,.int .u8 0,.int .u8 0,.int .i64 0,.int .i64 0,.int .i64 0,.int .u8 0,.int .u8 0,.int .i64 0,.int .i64 2,.int .u8 4,.int .i64 0,.int .i64 0,.int .u8 0,.int .u8 0,.int .i64 0,.int .i64 0,.int .i64 0,.int .u8 0,.int .u8 0,.int .i64 0,.int .i64 4] 26 (0,0))::MZ73):=hD; clear hD
      replace hf:Fr a 273 [] ((89,.bool true)::(90,.agg #[.int .u8 1,.int .i64 0,.int .i64 2026,.int .u8 87,.int .u8 67,.int .i64 0,.int .i64 0,.int .i64 0,.int .u8 0,.int .u8 0,.int .i64 0,.int .i64 0])::(93,.agg #[.int .u8 3,.int .i64 0,.int .i64 2026,.int .u8 87,.int .u8 67,.int .i64 0,.int .i64 1,.int .i64 0,.int .u8 0,.int .u8 0,.int .i64 0,.int .i64 0])::(96,.agg #[.int .u8 2,.int .i64 0,.int .i64 2026,.int .u8 87,.int .u8 67,.int .i64 0,.int .i64 700001,.int .i64 0,.int .u8 0,.int .u8 0,.int .i64 0,.int .i64 0])::LZ73):=hf
      refine O.unguard hf rfl rfl rfl rfl ?_
      refine O.buildSlice (cs':=#[.int .u8 1,.int .i64 0,.int .i64 2026,.int .u8 87,.int .u8 67,.int .i64 0,.int .i64 0,.int .i64 0,.int .u8 0,.int .u8 0,.int .i64 0,.int .i64 0,.int .u8 3,.int .i64 0,.int .i64 2026,.int .u8 87,.int .u8 67,.int .i64 0,.int .i64 1,.int .i64 0,.int .u8 0,.int .u8 0,.int .i64 0,.int .i64 0,.int .u8 2,.int .i64 0,.int .i64 2026,.int .u8 87,.int .u8 67,.int .i64 0,.int .i64 700001,.int .i64 0,.int .u8 0,.int .u8 0,.int .i64 0,.int .i64 0]) (zs:=#[.int .u8 0,.int .i64 0,.int .i64 0,.int .u8 0,.int .u8 0,.int .i64 0,.int .i64 0,.int .i64 0,.int .u8 0,.int .u8 0,.int .i64 0,.int .i64 0,.int .u8 0,.int .i64 0,.int .i64 0,.int .u8 0,.int .u8 0,.int .i64 0,.int .i64 0,.int .i64 0,.int .u8 0,.int .u8 0,.int .i64 0,.int .i64 0,.int .u8 0,.int .i64 0,.int .i64 0,.int .u8 0,.int .u8 0,.int .i64 0,.int .i64 0,.int .i64 0,.int .u8 0,.int .u8 0,.int .i64 0,.int .i64 0]) hf hS rfl rfl T_elem_22 T_size_26 T_zero_26 rfl rfl (by kernel_rfl) rfl (by kernel_rfl) ?_
      clear hf hS a; intro s53 w a hbb_s53 hS hf
      refine O.nil ⟨rfl,?_⟩
      replace hS:=hS.sub (N:=(pt s53 (.cells #[.int .u8 1,.int .i64 0,.int .i64 2026,.int .u8 87,.int .u8 67,.int .i64 0,.int .i64 0,.int .i64 0,.int .u8 0,.int .u8 0,.int .i64 0,.int .i64 0,.int .u8 3,.int .i64 0,.int .i64 2026,.int .u8 87,.int .u8 67,.int .i64 0,.int .i64 1,.int .i64 0,.int .u8 0,.int .u8 0,.int .i64 0,.int .i64 0,.int .u8 2,.int .i64 0,.int .i64 2026,.int .u8 87,.int .u8 67,.int .i64 0,.int .i64 700001,.int .i64 0,.int .u8 0,.int .u8 0,.int .i64 0,.int .i64 0] 26 (0,0))::MZ73)) (.cons_cons _ (.cons _ (.cons_cons _ (.cons_cons _ (.cons_cons _ (.cons_cons _ .slnil))))))
      exact O.nil ⟨rfl,(s7,s10,s13,s15,s17,s20,s22,s24,s26,s53),hf.to trivial,(gt (d:=97) hf rfl rfl),(fun j_ hj_ ha_=>match j_,hj_,ha_ with | 0,hj_,ha_=>rfl | 1,hj_,ha_=>rfl | 2,hj_,ha_=>rfl | 3,hj_,ha_=>rfl | 4,hj_,ha_=>rfl | 5,hj_,ha_=>rfl | 6,hj_,ha_=>rfl | 7,hj_,ha_=>rfl | 8,hj_,ha_=>rfl | 9,hj_,ha_=>rfl | 10,hj_,ha_=>rfl | 11,hj_,ha_=>rfl | 12,hj_,ha_=>rfl | 13,hj_,ha_=>rfl | 14,hj_,ha_=>rfl | 15,hj_,ha_=>rfl | 16,hj_,ha_=>rfl | 17,hj_,ha_=>rfl | 18,hj_,ha_=>rfl | 19,hj_,ha_=>rfl | 20,hj_,ha_=>rfl | 21,hj_,ha_=>rfl | 22,hj_,ha_=>rfl | 23,hj_,ha_=>rfl | 24,hj_,ha_=>rfl | 25,hj_,ha_=>rfl | 26,hj_,ha_=>rfl | 27,hj_,ha_=>rfl | 28,hj_,ha_=>rfl | 29,hj_,ha_=>rfl | 30,hj_,ha_=>rfl | 31,hj_,ha_=>rfl | 32,hj_,ha_=>rfl | 33,hj_,ha_=>rfl | 34,hj_,ha_=>rfl | 35,hj_,ha_=>rfl | 36,hj_,ha_=>rfl | 37,hj_,ha_=>rfl | 38,hj_,ha_=>rfl | 39,hj_,ha_=>rfl | 40,hj_,ha_=>rfl | 41,hj_,ha_=>rfl | 42,hj_,ha_=>rfl | 43,hj_,ha_=>rfl | 44,hj_,ha_=>rfl | 45,hj_,ha_=>rfl | 46,hj_,ha_=>rfl | 47,hj_,ha_=>rfl | 48,hj_,ha_=>rfl | 49,hj_,ha_=>rfl | 50,hj_,ha_=>rfl | 51,hj_,ha_=>rfl | 52,hj_,ha_=>rfl | 53,hj_,ha_=>rfl | 54,hj_,ha_=>rfl | 55,hj_,ha_=>rfl | 56,hj_,ha_=>rfl | 57,hj_,ha_=>rfl | 58,hj_,ha_=>rfl | 59,hj_,ha_=>rfl | 60,hj_,ha_=>rfl | 61,hj_,ha_=>rfl | 62,hj_,ha_=>rfl | 63,hj_,ha_=>rfl | 64,hj_,ha_=>rfl | 65,hj_,ha_=>absurd rfl hj_ | 66,hj_,ha_=>absurd ha_ (by decide) | 67,hj_,ha_=>absurd ha_ (by decide) | 68,hj_,ha_=>absurd ha_ (by decide) | _+69,_,_=>rfl),hS⟩
  clear hf hS; intro s_ g a w _ hf hD
  obtain ⟨s7,s10,s13,s15,s17,s20,s22,s24,s26,s28⟩:=g
  have hS:St w0 w noX [ordA] (pt s28 (.cells #[.int .u8 1,.int .i64 0,.int .i64 2026,.int .u8 87,.int .u8 67,.int .i64 0,.int .i64 0,.int .i64 0,.int .u8 0,.int .u8 0,.int .i64 0,.int .i64 0,.int .u8 3,.int .i64 0,.int .i64 2026,.int .u8 87,.int .u8 67,.int .i64 0,.int .i64 1,.int .i64 0,.int .u8 0,.int .u8 0,.int .i64 0,.int .i64 0,.int .u8 2,.int .i64 0,.int .i64 2026,.int .u8 87,.int .u8 67,.int .i64 0,.int .i64 700001,.int .i64 0,.int .u8 0,.int .u8 0,.int .i64 0,.int .i64 0] 26 (0,0))::MZ73):=hD; clear hD
  replace hf:Fr a 273 [] ((32,.agg #[.int .i64 0,.int .i64 2026,.int .u8 87,.int .u8 65,.int .i64 0])::(33,.agg #[.int .u8 1,.int .i64 0,.int .i64 2026,.int .u8 87,.int .u8 65,.int .i64 0,.int .i64 0,.int .i64 0,.int .u8 0,.int .u8 0,.int .i64 0,.int .i64 0])::(34,.slice (some ⟨s7,0,none⟩) 1 1)::(35,.bool true)::(36,.bool true)::(37,.agg #[.int .i64 0,.int .i64 2026,.int .u8 87,.int .u8 67,.int .i64 0])::(38,.agg #[.int .i64 0,.int .i64 2026,.int .u8 87,.int .u8 65,.int .i64 0])::(39,.agg #[.int .u8 2,.int .i64 0,.int .i64 2026,.int .u8 87,.int .u8 67,.int .i64 0,.int .i64 0,.int .i64 2026,.int .u8 87,.int .u8 65,.int .i64 0,.int .i64 0])::(40,.slice (some ⟨s10,0,none⟩) 1 1)::(41,.bool true)::(42,.bool true)::(43,.bool true)::(44,.agg #[.int .i64 700001,.int .i64 0,.int .u8 0,.int .u8 0,.int .i64 0])::(45,.agg #[.int .i64 0,.int .i64 2026,.int .u8 87,.int .u8 65,.int .i64 0])::(46,.agg #[.int .u8 2,.int .i64 700001,.int .i64 0,.int .u8 0,.int .u8 0,.int .i64 0,.int .i64 0,.int .i64 2026,.int .u8 87,.int .u8 65,.int .i64 0,.int .i64 0])::(47,.slice (some ⟨s13,0,none⟩) 1 1)::(48,.bool true)::(49,.bool true)::(50,.bool true)::(51,.agg #[.int .i64 0,.int .i64 2026,.int .u8 87,.int .u8 67,.int .i64 0])::(52,.agg #[.int .i64 1,.int .i64 0,.int .u8 0,.int .u8 0,.int .i64 0])::(53,.agg #[.int .u8 3,.int .i64 0,.int .i64 2026,.int .u8 87,.int .u8 67,.int .i64 0,.int .i64 1,.int .i64 0,.int .u8 0,.int .u8 0,.int .i64 0,.int .i64 0])::(54,.slice (some ⟨s15,0,none⟩) 1 1)::(55,.bool true)::(56,.bool true)::(57,.bool true)::(58,.agg #[.int .u8 1,.int .i64 0,.int .i64 2026,.int .u8 87,.int .u8 67,.int .i64 0,.int .i64 0,.int .i64 0,.int .u8 0,.int .u8 0,.int .i64 0,.int .i64 0])::(59,.agg #[.int .i64 0,.int .i64 2026,.int .u8 87,.int .u8 67,.int .i64 0])::(60,.agg #[.int .i64 700001,.int .i64 0,.int .u8 0,.int .u8 0,.int .i64 0])::(61,.agg #[.int .u8 3,.int .i64 0,.int .i64 2026,.int .u8 87,.int .u8 67,.int .i64 0,.int .i64 700001,.int .i64 0,.int .u8 0,.int .u8 0,.int .i64 0,.int .i64 0])::(62,.slice (some ⟨s17,0,none⟩) 2 2)::(63,.bool true)::(64,.bool true)::(65,.bool true)::(66,.agg #[.int .i64 0,.int .i64 2026,.int .u8 87,.int .u8 65,.int .i64 0])::(67,.agg #[.int .i64 1,.int .i64 0,.int .u8 0,.int .u8 0,.int .i64 0])::(68,.agg #[.int .u8 3,.int .i64 0,.int .i64 2026,.int .u8 87,.int .u8 65,.int .i64 0,.int .i64 1,.int .i64 0,.int .u8 0,.int .u8 0,.int .i64 0,.int .i64 0])::(69,.slice (some ⟨s20,0,none⟩) 1 1)::(70,.bool true)::(71,.bool true)::(72,.bool true)::(73,.agg #[.int .u8 4,.int .i64 0,.int .i64 0,.int .u8 0,.int .u8 0,.int .i64 0,.int .i64 0,.int .i64 0,.int .u8 0,.int .u8 0,.int .i64 0,.int .i64 4])::(74,.slice (some ⟨s22,0,none⟩) 1 1)::(75,.bool true)::(76,.bool true)::(77,.bool true)::(78,.agg #[.int .u8 4,.int .i64 0,.int .i64 0,.int .u8 0,.int .u8 0,.int .i64 0,.int .i64 0,.int .i64 0,.int .u8 0,.int .u8 0,.int .i64 0,.int .i64 2])::(79,.agg #[.int .u8 4,.int .i64 0,.int .i64 0,.int .u8 0,.int .u8 0,.int .i64 0,.int .i64 0,.int .i64 0,.int .u8 0,.int .u8 0,.int .i64 0,.int .i64 2])::(80,.slice (some ⟨s24,0,none⟩) 2 2)::(81,.bool true)::(82,.bool true)::(83,.bool true)::(84,.agg #[.int .u8 4,.int .i64 0,.int .i64 0,.int .u8 0,.int .u8 0,.int .i64 0,.int .i64 0,.int .i64 0,.int .u8 0,.int .u8 0,.int .i64 0,.int .i64 2])::(85,.agg #[.int .u8 4,.int .i64 0,.int .i64 0,.int .u8 0,.int .u8 0,.int .i64 0,.int .i64 0,.int .i64 0,.int .u8 0,.int .u8 0,.int .i64 0,.int .i64 4])::(86,.slice (some ⟨s26,0,none⟩) 2 2)::(87,.bool true)::(88,.bool true)::(89,.bool true)::(90,.agg #[.int .u8 1,.int .i64 0,.int .i64 2026,.int .u8 87,.int .u8 67,.int .i64 0,.int .i64 0,.int .i64 0,.int .u8 0,.int .u8 0,.int .i64 0,.int .i64 0])::(91,.agg #[.int .i64 0,.int .i64 2026,.int .u8 87,.int .u8 67,.int .i64 0])::(92,.agg #[.int .i64 1,.int .i64 0,.int .u8 0,.int .u8 0,.int .i64 0])::(93,.agg #[.int .u8 3,.int .i64 0,.int .i64 2026,.int .u8 87,.int .u8 67,.int .i64 0,.int .i64 1,.int .i64 0,.int .u8 0,.int .u8 0,.int .i64 0,.int .i64 0])::(94,.agg #[.int .i64 0,.int .i64 2026,.int .u8 87,.int .u8 67,.int .i64 0])::(95,.agg #[.int .i64 700001,.int .i64 0,.int .u8 0,.int .u8 0,.int .i64 0])::(96,.agg #[.int .u8 2,.int .i64 0,.int .i64 2026,.int .u8 87,.int .u8 67,.int .i64 0,.int .i64 700001,.int .i64 0,.int .u8 0,.int .u8 0,.int .i64 0,.int .i64 0])::(97,.slice (some ⟨s28,0,none⟩) 3 3)::(98,.bool true)::(99,.bool true)::(5,.bool true)::LZ73):=hf
  refine k_seq ?_
  replace hf:Fr a 273 [] [(0,.bool false),(1,.pointer (some ⟨b_n2,0,none⟩)),(2,.pointer (some ⟨b_c3,0,none⟩)),(3,.pointer (some ⟨b_plus4,0,none⟩)),(4,.pointer (some ⟨b_undo5,0,none⟩)),(5,.bool true)]:=hf.to ⟨rfl,rfl,rfl,rfl,rfl,rfl,trivial⟩
  refine W.seq ?_
  refine W.regionL (l:=[0,1,2,3,4,5,6,7,8,9,10,11,12,13,14,15,16,17,18,19,20,21,22,23,24,25,26,27,28,29,30,31,32,33,34,35,36,37,38,39,40]) rfl ?_
  refine O.val hf rfl rfl rfl (RunV.buildS (cs':=#[.int .u8 0,.int .i64 0,.int .i64 0,.int .u8 0,.int .u8 0,.int .i64 0,.int .i64 0,.int .i64 0,.int .u8 0,.int .u8 0,.int .i64 0,.int .i64 0]) T_places_26 T_zero_26 rfl (by kernel_rfl)) ?_
  clear hf a; intro a hf
  refine O.callR hf rfl rfl rfl (RunE.call (av:=#[cV default]) C_ok_25 rfl rfl rfl) (checkC_bad default _ (hS.bptO (i:=0) rfl) (by decide +kernel)) ?_
  clear hf a
  rintro _ w54 hS1 a hf
  replace hf:Fr a _ _ ((101,.int .i64 8)::_):=hf
  replace hS:=(hS.call hS1).eqM (N:=(pt s28 (.cells #[.int .u8 1,.int .i64 0,.int .i64 2026,.int .u8 87,.int .u8 67,.int .i64 0,.int .i64 0,.int .i64 0,.int .u8 0,.int .u8 0,.int .i64 0,.int .i64 0,.int .u8 3,.int .i64 0,.int .i64 2026,.int .u8 87,.int .u8 67,.int .i64 0,.int .i64 1,.int .i64 0,.int .u8 0,.int .u8 0,.int .i64 0,.int .i64 0,.int .u8 2,.int .i64 0,.int .i64 2026,.int .u8 87,.int .u8 67,.int .i64 0,.int .i64 700001,.int .i64 0,.int .u8 0,.int .u8 0,.int .i64 0,.int .i64 0] 26 (0,0))::MZ73)) rfl
  clear hS1
  refine O.val hf rfl rfl rfl (RunV.toB (c:=true) (RunV.eql rfl rfl) (by decide)) ?_
  clear hf a; intro a hf
  refine O.val hf rfl rfl rfl (RunV.move rfl) ?_
  clear hf a; intro a hf
  refine O.gvalB (v:=.agg #[.int .i64 700001,.int .i64 0,.int .u8 0,.int .u8 0,.int .i64 0]) hf rfl rfl rfl rfl rfl rfl (RunV.loadN (cs':=#[.int .i64 700001,.int .i64 0,.int .u8 0,.int .u8 0,.int .i64 0]) T_agg_24 T_size_24 rfl (hS.ptAt (i:=4) rfl) (Nat.le_of_ble_eq_true rfl) rfl) ?_
  clear hf a; intro a hf
  refine O.gvalB (v:=.agg #[.int .u8 1,.int .i64 700001,.int .i64 0,.int .u8 0,.int .u8 0,.int .i64 0,.int .i64 0,.int .i64 0,.int .u8 0,.int .u8 0,.int .i64 0,.int .i64 0]) hf rfl rfl rfl rfl rfl rfl (RunV.buildS (cs':=#[.int .u8 1,.int .i64 700001,.int .i64 0,.int .u8 0,.int .u8 0,.int .i64 0,.int .i64 0,.int .i64 0,.int .u8 0,.int .u8 0,.int .i64 0,.int .i64 0]) T_places_26 T_zero_26 rfl (by kernel_rfl)) ?_
  clear hf a; intro a hf
  refine O.gcallR hf rfl rfl rfl rfl rfl rfl (RunE.call (av:=#[cV ⟨1,numD,default,0⟩]) C_ok_25 rfl rfl rfl) (checkC_bad ⟨1,numD,default,0⟩ _ (hS.bptO (i:=0) rfl) (by decide +kernel)) ?_
  clear hf a
  rintro _ w55 hS1 a hf
  replace hf:Fr a _ _ ((106,.int .i64 8)::_):=hf
  replace hS:=(hS.call hS1).eqM (N:=(pt s28 (.cells #[.int .u8 1,.int .i64 0,.int .i64 2026,.int .u8 87,.int .u8 67,.int .i64 0,.int .i64 0,.int .i64 0,.int .u8 0,.int .u8 0,.int .i64 0,.int .i64 0,.int .u8 3,.int .i64 0,.int .i64 2026,.int .u8 87,.int .u8 67,.int .i64 0,.int .i64 1,.int .i64 0,.int .u8 0,.int .u8 0,.int .i64 0,.int .i64 0,.int .u8 2,.int .i64 0,.int .i64 2026,.int .u8 87,.int .u8 67,.int .i64 0,.int .i64 700001,.int .i64 0,.int .u8 0,.int .u8 0,.int .i64 0,.int .i64 0] 26 (0,0))::MZ73)) rfl
  clear hS1
  refine O.gvalB (v:=.bool true) hf rfl rfl rfl rfl rfl rfl (RunV.toB (c:=true) (RunV.eql rfl rfl) (by decide)) ?_
  clear hf a; intro a hf
  refine O.val (v:=.bool true) hf rfl rfl rfl (RunV.pick rfl rfl rfl rfl) ?_
  clear hf a; intro a hf
  refine O.val hf rfl rfl rfl (RunV.move rfl) ?_
  clear hf a; intro a hf
  refine O.gvalB (v:=.agg #[.int .i64 0,.int .i64 2026,.int .u8 87,.int .u8 67,.int .i64 0]) hf rfl rfl rfl rfl rfl rfl (RunV.loadN (cs':=#[.int .i64 0,.int .i64 2026,.int .u8 87,.int .u8 67,.int .i64 0]) T_agg_24 T_size_24 rfl (hS.ptAt (i:=3) rfl) (Nat.le_of_ble_eq_true rfl) rfl) ?_
  clear hf a; intro a hf
  refine O.gvalB (v:=.agg #[.int .u8 1,.int .i64 0,.int .i64 2026,.int .u8 87,.int .u8 67,.int .i64 0,.int .i64 0,.int .i64 0,.int .u8 0,.int .u8 0,.int .i64 0,.int .i64 1]) hf rfl rfl rfl rfl rfl rfl (RunV.buildS (cs':=#[.int .u8 1,.int .i64 0,.int .i64 2026,.int .u8 87,.int .u8 67,.int .i64 0,.int .i64 0,.int .i64 0,.int .u8 0,.int .u8 0,.int .i64 0,.int .i64 1]) T_places_26 T_zero_26 rfl (by kernel_rfl)) ?_
  clear hf a; intro a hf
  refine O.gcallR hf rfl rfl rfl rfl rfl rfl (RunE.call (av:=#[cV ⟨1,nameD 67,default,1⟩]) C_ok_25 rfl rfl rfl) (checkC_bad ⟨1,nameD 67,default,1⟩ _ (hS.bptO (i:=0) rfl) (by decide +kernel)) ?_
  clear hf a
  rintro _ w56 hS1 a hf
  replace hf:Fr a _ _ ((112,.int .i64 8)::_):=hf
  replace hS:=(hS.call hS1).eqM (N:=(pt s28 (.cells #[.int .u8 1,.int .i64 0,.int .i64 2026,.int .u8 87,.int .u8 67,.int .i64 0,.int .i64 0,.int .i64 0,.int .u8 0,.int .u8 0,.int .i64 0,.int .i64 0,.int .u8 3,.int .i64 0,.int .i64 2026,.int .u8 87,.int .u8 67,.int .i64 0,.int .i64 1,.int .i64 0,.int .u8 0,.int .u8 0,.int .i64 0,.int .i64 0,.int .u8 2,.int .i64 0,.int .i64 2026,.int .u8 87,.int .u8 67,.int .i64 0,.int .i64 700001,.int .i64 0,.int .u8 0,.int .u8 0,.int .i64 0,.int .i64 0] 26 (0,0))::MZ73)) rfl
  clear hS1
  refine O.gvalB (v:=.bool true) hf rfl rfl rfl rfl rfl rfl (RunV.toB (c:=true) (RunV.eql rfl rfl) (by decide)) ?_
  clear hf a; intro a hf
  refine O.val (v:=.bool true) hf rfl rfl rfl (RunV.pick rfl rfl rfl rfl) ?_
  clear hf a; intro a hf
  refine O.val hf rfl rfl rfl (RunV.move rfl) ?_
  clear hf a; intro a hf
  refine O.gvalB (v:=.agg #[.int .i64 0,.int .i64 2026,.int .u8 87,.int .u8 67,.int .i64 0]) hf rfl rfl rfl rfl rfl rfl (RunV.loadN (cs':=#[.int .i64 0,.int .i64 2026,.int .u8 87,.int .u8 67,.int .i64 0]) T_agg_24 T_size_24 rfl (hS.ptAt (i:=3) rfl) (Nat.le_of_ble_eq_true rfl) rfl) ?_
  clear hf a; intro a hf
  refine O.gvalB (v:=.agg #[.int .i64 0,.int .i64 2026,.int .u8 87,.int .u8 67,.int .i64 0]) hf rfl rfl rfl rfl rfl rfl (RunV.loadN (cs':=#[.int .i64 0,.int .i64 2026,.int .u8 87,.int .u8 67,.int .i64 0]) T_agg_24 T_size_24 rfl (hS.ptAt (i:=3) rfl) (Nat.le_of_ble_eq_true rfl) rfl) ?_
  clear hf a; intro a hf
  refine O.gvalB (v:=.agg #[.int .u8 2,.int .i64 0,.int .i64 2026,.int .u8 87,.int .u8 67,.int .i64 0,.int .i64 0,.int .i64 2026,.int .u8 87,.int .u8 67,.int .i64 0,.int .i64 0]) hf rfl rfl rfl rfl rfl rfl (RunV.buildS (cs':=#[.int .u8 2,.int .i64 0,.int .i64 2026,.int .u8 87,.int .u8 67,.int .i64 0,.int .i64 0,.int .i64 2026,.int .u8 87,.int .u8 67,.int .i64 0,.int .i64 0]) T_places_26 T_zero_26 rfl (by kernel_rfl)) ?_
  clear hf a; intro a hf
  refine O.gcallR hf rfl rfl rfl rfl rfl rfl (RunE.call (av:=#[cV ⟨2,nameD 67,nameD 67,0⟩]) C_ok_25 rfl rfl rfl) (checkC_bad ⟨2,nameD 67,nameD 67,0⟩ _ (hS.bptO (i:=0) rfl) (by decide +kernel)) ?_
  clear hf a
  rintro _ w57 hS1 a hf
  replace hf:Fr a _ _ ((119,.int .i64 8)::_):=hf
  replace hS:=(hS.call hS1).eqM (N:=(pt s28 (.cells #[.int .u8 1,.int .i64 0,.int .i64 2026,.int .u8 87,.int .u8 67,.int .i64 0,.int .i64 0,.int .i64 0,.int .u8 0,.int .u8 0,.int .i64 0,.int .i64 0,.int .u8 3,.int .i64 0,.int .i64 2026,.int .u8 87,.int .u8 67,.int .i64 0,.int .i64 1,.int .i64 0,.int .u8 0,.int .u8 0,.int .i64 0,.int .i64 0,.int .u8 2,.int .i64 0,.int .i64 2026,.int .u8 87,.int .u8 67,.int .i64 0,.int .i64 700001,.int .i64 0,.int .u8 0,.int .u8 0,.int .i64 0,.int .i64 0] 26 (0,0))::MZ73)) rfl
  clear hS1
  refine O.gvalB (v:=.bool true) hf rfl rfl rfl rfl rfl rfl (RunV.toB (c:=true) (RunV.eql rfl rfl) (by decide)) ?_
  clear hf a; intro a hf
  refine O.val (v:=.bool true) hf rfl rfl rfl (RunV.pick rfl rfl rfl rfl) ?_
  clear hf a; intro a hf
  refine O.val hf rfl rfl rfl (RunV.move rfl) ?_
  clear hf a; intro a hf
  refine O.gvalB (v:=.agg #[.int .i64 700001,.int .i64 0,.int .u8 0,.int .u8 0,.int .i64 0]) hf rfl rfl rfl rfl rfl rfl (RunV.loadN (cs':=#[.int .i64 700001,.int .i64 0,.int .u8 0,.int .u8 0,.int .i64 0]) T_agg_24 T_size_24 rfl (hS.ptAt (i:=4) rfl) (Nat.le_of_ble_eq_true rfl) rfl) ?_
  clear hf a; intro a hf
  refine O.gvalB (v:=.agg #[.int .i64 0,.int .i64 2026,.int .u8 87,.int .u8 67,.int .i64 0]) hf rfl rfl rfl rfl rfl rfl (RunV.loadN (cs':=#[.int .i64 0,.int .i64 2026,.int .u8 87,.int .u8 67,.int .i64 0]) T_agg_24 T_size_24 rfl (hS.ptAt (i:=3) rfl) (Nat.le_of_ble_eq_true rfl) rfl) ?_
  clear hf a; intro a hf
  refine O.gvalB (v:=.agg #[.int .u8 3,.int .i64 700001,.int .i64 0,.int .u8 0,.int .u8 0,.int .i64 0,.int .i64 0,.int .i64 2026,.int .u8 87,.int .u8 67,.int .i64 0,.int .i64 0]) hf rfl rfl rfl rfl rfl rfl (RunV.buildS (cs':=#[.int .u8 3,.int .i64 700001,.int .i64 0,.int .u8 0,.int .u8 0,.int .i64 0,.int .i64 0,.int .i64 2026,.int .u8 87,.int .u8 67,.int .i64 0,.int .i64 0]) T_places_26 T_zero_26 rfl (by kernel_rfl)) ?_
  clear hf a; intro a hf
  refine O.gcallR hf rfl rfl rfl rfl rfl rfl (RunE.call (av:=#[cV ⟨3,numD,nameD 67,0⟩]) C_ok_25 rfl rfl rfl) (checkC_bad ⟨3,numD,nameD 67,0⟩ _ (hS.bptO (i:=0) rfl) (by decide +kernel)) ?_
  clear hf a
  rintro _ w58 hS1 a hf
  replace hf:Fr a _ _ ((126,.int .i64 8)::_):=hf
  replace hS:=(hS.call hS1).eqM (N:=(pt s28 (.cells #[.int .u8 1,.int .i64 0,.int .i64 2026,.int .u8 87,.int .u8 67,.int .i64 0,.int .i64 0,.int .i64 0,.int .u8 0,.int .u8 0,.int .i64 0,.int .i64 0,.int .u8 3,.int .i64 0,.int .i64 2026,.int .u8 87,.int .u8 67,.int .i64 0,.int .i64 1,.int .i64 0,.int .u8 0,.int .u8 0,.int .i64 0,.int .i64 0,.int .u8 2,.int .i64 0,.int .i64 2026,.int .u8 87,.int .u8 67,.int .i64 0,.int .i64 700001,.int .i64 0,.int .u8 0,.int .u8 0,.int .i64 0,.int .i64 0] 26 (0,0))::MZ73)) rfl
  clear hS1
  refine O.gvalB (v:=.bool true) hf rfl rfl rfl rfl rfl rfl (RunV.toB (c:=true) (RunV.eql rfl rfl) (by decide)) ?_
  clear hf a; intro a hf
  refine O.val (v:=.bool true) hf rfl rfl rfl (RunV.pick rfl rfl rfl rfl) ?_
  clear hf a; intro a hf
  refine O.val hf rfl rfl rfl (RunV.move rfl) ?_
  clear hf a; intro a hf
  refine O.gvalB (v:=.agg #[.int .u8 4,.int .i64 0,.int .i64 0,.int .u8 0,.int .u8 0,.int .i64 0,.int .i64 0,.int .i64 0,.int .u8 0,.int .u8 0,.int .i64 0,.int .i64 (-1)]) hf rfl rfl rfl rfl rfl rfl (RunV.buildS (cs':=#[.int .u8 4,.int .i64 0,.int .i64 0,.int .u8 0,.int .u8 0,.int .i64 0,.int .i64 0,.int .i64 0,.int .u8 0,.int .u8 0,.int .i64 0,.int .i64 (-1)]) T_places_26 T_zero_26 rfl (by kernel_rfl)) ?_
  clear hf a; intro a hf
  refine O.gcallR hf rfl rfl rfl rfl rfl rfl (RunE.call (av:=#[cV ⟨4,default,default,-1⟩]) C_ok_25 rfl rfl rfl) (checkC_bad ⟨4,default,default,-1⟩ _ (hS.bptO (i:=0) rfl) (by decide +kernel)) ?_
  clear hf a
  rintro _ w59 hS1 a hf
  replace hf:Fr a _ _ ((131,.int .i64 8)::_):=hf
  replace hS:=(hS.call hS1).eqM (N:=(pt s28 (.cells #[.int .u8 1,.int .i64 0,.int .i64 2026,.int .u8 87,.int .u8 67,.int .i64 0,.int .i64 0,.int .i64 0,.int .u8 0,.int .u8 0,.int .i64 0,.int .i64 0,.int .u8 3,.int .i64 0,.int .i64 2026,.int .u8 87,.int .u8 67,.int .i64 0,.int .i64 1,.int .i64 0,.int .u8 0,.int .u8 0,.int .i64 0,.int .i64 0,.int .u8 2,.int .i64 0,.int .i64 2026,.int .u8 87,.int .u8 67,.int .i64 0,.int .i64 700001,.int .i64 0,.int .u8 0,.int .u8 0,.int .i64 0,.int .i64 0] 26 (0,0))::MZ73)) rfl
  clear hS1
  refine O.gvalB (v:=.bool true) hf rfl rfl rfl rfl rfl rfl (RunV.toB (c:=true) (RunV.eql rfl rfl) (by decide)) ?_
  clear hf a; intro a hf
  refine O.val (v:=.bool true) hf rfl rfl rfl (RunV.pick rfl rfl rfl rfl) ?_
  clear hf a; intro a hf
  refine O.val hf rfl rfl rfl (RunV.move rfl) ?_
  clear hf a; intro a hf
  refine O.gvalB (v:=.agg #[.int .i64 0,.int .i64 2026,.int .u8 87,.int .u8 67,.int .i64 0]) hf rfl rfl rfl rfl rfl rfl (RunV.loadN (cs':=#[.int .i64 0,.int .i64 2026,.int .u8 87,.int .u8 67,.int .i64 0]) T_agg_24 T_size_24 rfl (hS.ptAt (i:=3) rfl) (Nat.le_of_ble_eq_true rfl) rfl) ?_
  clear hf a; intro a hf
  refine O.gvalB (v:=.agg #[.int .u8 4,.int .i64 0,.int .i64 2026,.int .u8 87,.int .u8 67,.int .i64 0,.int .i64 0,.int .i64 0,.int .u8 0,.int .u8 0,.int .i64 0,.int .i64 0]) hf rfl rfl rfl rfl rfl rfl (RunV.buildS (cs':=#[.int .u8 4,.int .i64 0,.int .i64 2026,.int .u8 87,.int .u8 67,.int .i64 0,.int .i64 0,.int .i64 0,.int .u8 0,.int .u8 0,.int .i64 0,.int .i64 0]) T_places_26 T_zero_26 rfl (by kernel_rfl)) ?_
  clear hf a; intro a hf
  refine O.gcallR hf rfl rfl rfl rfl rfl rfl (RunE.call (av:=#[cV ⟨4,nameD 67,default,0⟩]) C_ok_25 rfl rfl rfl) (checkC_bad ⟨4,nameD 67,default,0⟩ _ (hS.bptO (i:=0) rfl) (by decide +kernel)) ?_
  clear hf a
  rintro _ w60 hS1 a hf
  replace hf:Fr a _ _ ((137,.int .i64 8)::_):=hf
  replace hS:=(hS.call hS1).eqM (N:=(pt s28 (.cells #[.int .u8 1,.int .i64 0,.int .i64 2026,.int .u8 87,.int .u8 67,.int .i64 0,.int .i64 0,.int .i64 0,.int .u8 0,.int .u8 0,.int .i64 0,.int .i64 0,.int .u8 3,.int .i64 0,.int .i64 2026,.int .u8 87,.int .u8 67,.int .i64 0,.int .i64 1,.int .i64 0,.int .u8 0,.int .u8 0,.int .i64 0,.int .i64 0,.int .u8 2,.int .i64 0,.int .i64 2026,.int .u8 87,.int .u8 67,.int .i64 0,.int .i64 700001,.int .i64 0,.int .u8 0,.int .u8 0,.int .i64 0,.int .i64 0] 26 (0,0))::MZ73)) rfl
  clear hS1
  refine O.gvalB (v:=.bool true) hf rfl rfl rfl rfl rfl rfl (RunV.toB (c:=true) (RunV.eql rfl rfl) (by decide)) ?_
  clear hf a; intro a hf
  refine O.val (v:=.bool true) hf rfl rfl rfl (RunV.pick rfl rfl rfl rfl) ?_
  clear hf a; intro a hf
  refine O.val hf rfl rfl rfl (RunV.assign rfl) ?_
  clear hf a; intro a hf
  refine O.nil ?_
  refine k_seq ?_
  replace hf:Fr a 273 [] [(0,.bool false),(1,.pointer (some ⟨b_n2,0,none⟩)),(2,.pointer (some ⟨b_c3,0,none⟩)),(3,.pointer (some ⟨b_plus4,0,none⟩)),(4,.pointer (some ⟨b_undo5,0,none⟩)),(5,.bool true),(6,.bool true)]:=hf.to ⟨rfl,rfl,rfl,rfl,rfl,rfl,rfl,trivial⟩
  refine W.seq ?_
  refine W.regionL (l:=[0,1,2,3,4,5,6]) rfl ?_
  refine O.makeE (p:=501) (x0:=(default:Ch)) (enc:=eC) hf hS rfl rfl T_elem_22 T_size_26 T_bytes_26 T_zero_26 rfl rfl rfl ⟨by decide,by decide⟩ rfl eC_len rfl ?_
  clear hf hS a; intro v61 w a hS hf
  replace hS:St w0 w noX [ordA] (sl 26 12 v61 ((List.replicate 501 (default:Ch)).length) (encs eC (List.replicate 501 (default:Ch)))::pt s28 (.cells #[.int .u8 1,.int .i64 0,.int .i64 2026,.int .u8 87,.int .u8 67,.int .i64 0,.int .i64 0,.int .i64 0,.int .u8 0,.int .u8 0,.int .i64 0,.int .i64 0,.int .u8 3,.int .i64 0,.int .i64 2026,.int .u8 87,.int .u8 67,.int .i64 0,.int .i64 1,.int .i64 0,.int .u8 0,.int .u8 0,.int .i64 0,.int .i64 0,.int .u8 2,.int .i64 0,.int .i64 2026,.int .u8 87,.int .u8 67,.int .i64 0,.int .i64 700001,.int .i64 0,.int .u8 0,.int .u8 0,.int .i64 0,.int .i64 0] 26 (0,0))::MZ73):=hS
  refine O.callR hf rfl rfl rfl (RunE.call (av:=#[v61]) C_ok_16 rfl rfl rfl) (run_err v61 (List.replicate 501 (default:Ch)) _ (hS.bptO (i:=0) rfl) (hS.slr (j:=0) rfl) (slOK.fit (hS.slAt (j:=0) rfl)) 4 nm11) ?_
  clear hf a
  rintro _ w62 hS1 a hf
  replace hf:Fr a _ _ ((142,.tuple #[.slice none 0 0,.int .i64 4])::_):=hf
  replace hS:=(hS.call hS1).eqM (N:=(sl 26 12 v61 ((List.replicate 501 (default:Ch)).length) (encs eC (List.replicate 501 (default:Ch)))::pt s28 (.cells #[.int .u8 1,.int .i64 0,.int .i64 2026,.int .u8 87,.int .u8 67,.int .i64 0,.int .i64 0,.int .i64 0,.int .u8 0,.int .u8 0,.int .i64 0,.int .i64 0,.int .u8 3,.int .i64 0,.int .i64 2026,.int .u8 87,.int .u8 67,.int .i64 0,.int .i64 1,.int .i64 0,.int .u8 0,.int .u8 0,.int .i64 0,.int .i64 0,.int .u8 2,.int .i64 0,.int .i64 2026,.int .u8 87,.int .u8 67,.int .i64 0,.int .i64 700001,.int .i64 0,.int .u8 0,.int .u8 0,.int .i64 0,.int .i64 0] 26 (0,0))::MZ73)) rfl
  clear hS1
  refine O.val hf rfl rfl rfl (RunV.move rfl) ?_
  clear hf a; intro a hf
  refine O.val hf rfl rfl rfl (RunV.extract rfl rfl) ?_
  clear hf a; intro a hf
  refine O.val hf rfl rfl rfl (RunV.extract rfl rfl) ?_
  clear hf a; intro a hf
  refine O.val hf rfl rfl rfl (RunV.assign rfl) ?_
  clear hf a; intro a hf
  refine O.val hf rfl rfl rfl (RunV.assign rfl) ?_
  clear hf a; intro a hf
  refine O.nil ?_
  refine k_seq ?_
  replace hf:Fr a 273 [] [(0,.bool false),(1,.pointer (some ⟨b_n2,0,none⟩)),(2,.pointer (some ⟨b_c3,0,none⟩)),(3,.pointer (some ⟨b_plus4,0,none⟩)),(4,.pointer (some ⟨b_undo5,0,none⟩)),(5,.bool true),(6,.bool true),(8,.int .i64 4)]:=hf.to ⟨rfl,rfl,rfl,rfl,rfl,rfl,rfl,rfl,trivial⟩
  refine W.seq ?_
  refine W.regionL (l:=[0,1,2,3,4,5,6]) rfl ?_
  refine O.makeE (p:=1) (x0:=(default:Ch)) (enc:=eC) hf hS rfl rfl T_elem_22 T_size_26 T_bytes_26 T_zero_26 rfl rfl rfl ⟨by decide,by decide⟩ rfl eC_len rfl ?_
  clear hf hS a; intro v63 w a hS hf
  replace hS:St w0 w noX [ordA] (sl 26 12 v63 ((List.replicate 1 (default:Ch)).length) (encs eC (List.replicate 1 (default:Ch)))::sl 26 12 v61 ((List.replicate 501 (default:Ch)).length) (encs eC (List.replicate 501 (default:Ch)))::pt s28 (.cells #[.int .u8 1,.int .i64 0,.int .i64 2026,.int .u8 87,.int .u8 67,.int .i64 0,.int .i64 0,.int .i64 0,.int .u8 0,.int .u8 0,.int .i64 0,.int .i64 0,.int .u8 3,.int .i64 0,.int .i64 2026,.int .u8 87,.int .u8 67,.int .i64 0,.int .i64 1,.int .i64 0,.int .u8 0,.int .u8 0,.int .i64 0,.int .i64 0,.int .u8 2,.int .i64 0,.int .i64 2026,.int .u8 87,.int .u8 67,.int .i64 0,.int .i64 700001,.int .i64 0,.int .u8 0,.int .u8 0,.int .i64 0,.int .i64 0] 26 (0,0))::MZ73):=hS
  refine O.callR hf rfl rfl rfl (RunE.call (av:=#[v63]) C_ok_16 rfl rfl rfl) (run_err v63 (List.replicate 1 (default:Ch)) _ (hS.bptO (i:=0) rfl) (hS.slr (j:=0) rfl) (slOK.fit (hS.slAt (j:=0) rfl)) 8 nm12) ?_
  clear hf a
  rintro _ w64 hS1 a hf
  replace hf:Fr a _ _ ((147,.tuple #[.slice none 0 0,.int .i64 8])::_):=hf
  replace hS:=(hS.call hS1).eqM (N:=(sl 26 12 v63 ((List.replicate 1 (default:Ch)).length) (encs eC (List.replicate 1 (default:Ch)))::sl 26 12 v61 ((List.replicate 501 (default:Ch)).length) (encs eC (List.replicate 501 (default:Ch)))::pt s28 (.cells #[.int .u8 1,.int .i64 0,.int .i64 2026,.int .u8 87,.int .u8 67,.int .i64 0,.int .i64 0,.int .i64 0,.int .u8 0,.int .u8 0,.int .i64 0,.int .i64 0,.int .u8 3,.int .i64 0,.int .i64 2026,.int .u8 87,.int .u8 67,.int .i64 0,.int .i64 1,.int .i64 0,.int .u8 0,.int .u8 0,.int .i64 0,.int .i64 0,.int .u8 2,.int .i64 0,.int .i64 2026,.int .u8 87,.int .u8 67,.int .i64 0,.int .i64 700001,.int .i64 0,.int .u8 0,.int .u8 0,.int .i64 0,.int .i64 0] 26 (0,0))::MZ73)) rfl
  clear hS1
  refine O.val hf rfl rfl rfl (RunV.move rfl) ?_
  clear hf a; intro a hf
  refine O.val hf rfl rfl rfl (RunV.extract rfl rfl) ?_
  clear hf a; intro a hf
  refine O.val hf rfl rfl rfl (RunV.extract rfl rfl) ?_
  clear hf a; intro a hf
  refine O.val hf rfl rfl rfl (RunV.assign rfl) ?_
  clear hf a; intro a hf
  refine O.val hf rfl rfl rfl (RunV.assign rfl) ?_
  clear hf a; intro a hf
  refine O.nil ?_
  refine k_seq ?_
  replace hf:Fr a 273 [] [(0,.bool false),(1,.pointer (some ⟨b_n2,0,none⟩)),(2,.pointer (some ⟨b_c3,0,none⟩)),(3,.pointer (some ⟨b_plus4,0,none⟩)),(4,.pointer (some ⟨b_undo5,0,none⟩)),(5,.bool true),(6,.bool true),(8,.int .i64 4),(10,.int .i64 8)]:=hf.to ⟨rfl,rfl,rfl,rfl,rfl,rfl,rfl,rfl,rfl,trivial⟩
  refine W.seq ?_
  have hf1:Fr a 273 [] []:=hf.to trivial
  replace hf:Fr a 273 [] [(0,.bool false),(1,.pointer (some ⟨b_n2,0,none⟩)),(2,.pointer (some ⟨b_c3,0,none⟩)),(3,.pointer (some ⟨b_plus4,0,none⟩)),(4,.pointer (some ⟨b_undo5,0,none⟩)),(5,.bool true),(6,.bool true),(8,.int .i64 4),(10,.int .i64 8)]:=hf.to ⟨rfl,rfl,rfl,rfl,rfl,rfl,rfl,rfl,rfl,trivial⟩
  replace hS:=hS.drew
  replace hS:=hS.emp
  let LZ881:List (Nat × Value):=[(0,.bool false),(1,.pointer (some ⟨b_n2,0,none⟩)),(2,.pointer (some ⟨b_c3,0,none⟩)),(3,.pointer (some ⟨b_plus4,0,none⟩)),(4,.pointer (some ⟨b_undo5,0,none⟩)),(5,.bool true),(6,.bool true),(8,.int .i64 4),(10,.int .i64 8)]
  let MZ881:List Asr:=(sl 26 12 v63 ((List.replicate 1 (default:Ch)).length) (encs eC (List.replicate 1 (default:Ch)))::sl 26 12 v61 ((List.replicate 501 (default:Ch)).length) (encs eC (List.replicate 501 (default:Ch)))::pt s28 (.cells #[.int .u8 1,.int .i64 0,.int .i64 2026,.int .u8 87,.int .u8 67,.int .i64 0,.int .i64 0,.int .i64 0,.int .u8 0,.int .u8 0,.int .i64 0,.int .i64 0,.int .u8 3,.int .i64 0,.int .i64 2026,.int .u8 87,.int .u8 67,.int .i64 0,.int .i64 1,.int .i64 0,.int .u8 0,.int .u8 0,.int .i64 0,.int .i64 0,.int .u8 2,.int .i64 0,.int .i64 2026,.int .u8 87,.int .u8 67,.int .i64 0,.int .i64 700001,.int .i64 0,.int .u8 0,.int .u8 0,.int .i64 0,.int .i64 0] 26 (0,0))::MZ73)
  refine W.drawC (γ:=(Nat) × (Value)) (L0:=LZ881) (L1:=[]) (0,default) [0,7] [6] [1,2,3,4,5,8] (fun i=>match i with | 2=>[0,1] | 3=>[2] | 4=>[3] | 5=>[3] | 7=>[0,1,2,3,4,6] | 8=>[0,1,2,3,4,5,6,7] | _=>[]) (fun i=>match i with | 2=>[0] | 3=>[0] | 4=>[0] | 5=>[0] | 7=>[0,6] | 8=>[0,7,6] | _=>[]) (fun i=>match i with | 0=>[7] | 1=>[7] | 2=>[7] | 3=>[7] | 4=>[7] | 6=>[7] | _=>[]) (fun i=>match i with | 7=>[6] | 8=>[6] | _=>[]) (fun i=>match i with | 0=>[2,3,4,5,7,8] | 6=>[7,8] | 7=>[8] | _=>[]) (fun _=>[]) (fun i=>match i with | 2=>1 | 3=>1 | 4=>1 | 5=>1 | 7=>1 | 8=>2 | _=>0) (fun i=>match i with | 0=>1 | 1=>1 | 2=>1 | 3=>1 | 4=>1 | 5=>2 | 6=>1 | 7=>2 | 8=>2 | _=>0) (fun (g:(Nat) × (Value)) j=>match g,j with | ⟨u65,gv8⟩,0=>gv8 | ⟨u65,gv8⟩,1=>.agg #[.int .i64 0,.int .i64 2026,.int .u8 87,.int .u8 67,.int .i64 0] | ⟨u65,gv8⟩,2=>.tuple #[.agg #[.int .i64 0,.int .i64 0,.int .u8 0,.int .u8 0,.int .i64 0,.slice none 0 0],.int .i64 6] | ⟨u65,gv8⟩,3=>.tuple #[.agg #[.int .i64 0,.int .i64 0,.int .u8 0,.int .u8 0,.int .i64 0,.slice none 0 0],.int .i64 6] | ⟨u65,gv8⟩,4=>.agg #[.int .i64 0,.int .i64 0,.int .u8 0,.int .u8 0,.int .i64 0,.slice none 0 0] | ⟨u65,gv8⟩,5=>.int .i64 6 | ⟨u65,gv8⟩,6=>.pointer (some ⟨u65,0,none⟩) | ⟨u65,gv8⟩,8=>.int .i64 6 | _,_=>undef) (fun k s (g:(Nat) × (Value)) w=>match k,g with | 0,⟨u65,gv8⟩=>St w0 w noX [ordA] (condA (s 6) (pt u65 (.cells #[.int .i64 0,.int .i64 0,.int .u8 0,.int .u8 0,.int .i64 0,.slice none 0 0] 46 (0,0)))::MZ881) | 1,⟨u65,gv8⟩=>St w0 w noX [ordA] (sl 26 12 gv8 givenL.length (encs eC givenL)::condA (s 6) (pt u65 (.cells #[.int .i64 0,.int .i64 0,.int .u8 0,.int .u8 0,.int .i64 0,.slice none 0 0] 46 (0,0)))::MZ881) | _,⟨u65,gv8⟩=>St w0 w noX [ordA] (sl 26 12 gv8 givenL.length (encs eC givenL)::pt u65 (.cells #[.int .i64 0,.int .i64 0,.int .u8 0,.int .u8 0,.int .i64 0,.slice none 0 0] 46 (0,0))::MZ881)) P_mixed (by kernel_rfl) (by kernel_rfl) (by kernel_rfl) hf hf1 hS ?_ ?_ ?_ ?_
  · clear hf hf1 hS
    refine ⟨?_,?_,?_,?_,?_,?_,trivial⟩
    · intro k s g w h1_ h2_ hsp hD a hf
      obtain ⟨u65,gv8⟩:=g
      rcases k with _ | _ | k
      · have hS:St w0 w noX [ordA] (condA (s 6) (pt u65 (.cells #[.int .i64 0,.int .i64 0,.int .u8 0,.int .u8 0,.int .i64 0,.slice none 0 0] 46 (0,0)))::MZ881):=hD;
        replace hf:Fr a 273 [] LZ881:=hf
        refine O.val hf rfl rfl rfl (RunV.loadN (cs':=#[.int .i64 0,.int .i64 2026,.int .u8 87,.int .u8 67,.int .i64 0]) T_agg_24 T_size_24 rfl (hS.ptAt (i:=6) rfl) (Nat.le_of_ble_eq_true rfl) rfl) ?_
        clear hf a; intro a hf
        exact nD hf ⟨gt (d:=152) hf rfl rfl,hD⟩
      · have hS:St w0 w noX [ordA] (sl 26 12 gv8 givenL.length (encs eC givenL)::condA (s 6) (pt u65 (.cells #[.int .i64 0,.int .i64 0,.int .u8 0,.int .u8 0,.int .i64 0,.slice none 0 0] 46 (0,0)))::MZ881):=hD;
        replace hf:Fr a 273 [] LZ881:=hf
        refine O.val hf rfl rfl rfl (RunV.loadN (cs':=#[.int .i64 0,.int .i64 2026,.int .u8 87,.int .u8 67,.int .i64 0]) T_agg_24 T_size_24 rfl (hS.ptAt (i:=7) rfl) (Nat.le_of_ble_eq_true rfl) rfl) ?_
        clear hf a; intro a hf
        exact nD hf ⟨gt (d:=152) hf rfl rfl,hD⟩
      · exact absurd h2_ (by simp)
    · intro k s g w h1_ h2_ hsp hD a hf
      obtain ⟨u65,gv8⟩:=g
      rcases k with _ | _ | k
      · exact absurd h1_ (by decide)
      · have hS:St w0 w noX [ordA] (sl 26 12 gv8 givenL.length (encs eC givenL)::condA (s 6) (pt u65 (.cells #[.int .i64 0,.int .i64 0,.int .u8 0,.int .u8 0,.int .i64 0,.slice none 0 0] 46 (0,0)))::MZ881):=hD;
        replace hf:Fr a 273 [] ((151,gv8)::(152,.agg #[.int .i64 0,.int .i64 2026,.int .u8 87,.int .u8 67,.int .i64 0])::LZ881):=hf
        refine O.callR hf rfl rfl rfl (RunE.call (av:=#[gv8,dV (nameD 67)]) C_ok_19 rfl rfl rfl) (whoE gv8 givenL (nameD 67) _ (hS.bptO (i:=0) rfl) (hS.slr (j:=0) rfl) (slOK.fit (hS.slAt (j:=0) rfl)) 6 nm13) ?_
        clear hf a
        rintro _ w68 hS1 a hf
        replace hf:Fr a _ _ ((153,.tuple #[.agg #[.int .i64 0,.int .i64 0,.int .u8 0,.int .u8 0,.int .i64 0,.slice none 0 0],.int .i64 6])::_):=hf
        replace hS:=(hS.call hS1).eqM (N:=(sl 26 12 gv8 givenL.length (encs eC givenL)::condA (s 6) (pt u65 (.cells #[.int .i64 0,.int .i64 0,.int .u8 0,.int .u8 0,.int .i64 0,.slice none 0 0] 46 (0,0)))::MZ881)) rfl
        clear hS1
        exact nD hf ⟨gt (d:=153) hf rfl rfl,hS⟩
      · exact absurd h2_ (by simp)
    · intro k s g w h1_ h2_ hsp hD a hf
      obtain ⟨u65,gv8⟩:=g
      rcases k with _ | _ | k
      · exact absurd h1_ (by decide)
      · have hS:St w0 w noX [ordA] (sl 26 12 gv8 givenL.length (encs eC givenL)::condA (s 6) (pt u65 (.cells #[.int .i64 0,.int .i64 0,.int .u8 0,.int .u8 0,.int .i64 0,.slice none 0 0] 46 (0,0)))::MZ881):=hD;
        replace hf:Fr a 273 [] ((153,.tuple #[.agg #[.int .i64 0,.int .i64 0,.int .u8 0,.int .u8 0,.int .i64 0,.slice none 0 0],.int .i64 6])::LZ881):=hf
        refine O.val hf rfl rfl rfl (RunV.move rfl) ?_
        clear hf a; intro a hf
        exact nD hf ⟨gt (d:=150) hf rfl rfl,hD⟩
      · exact absurd h2_ (by simp)
    · intro k s g w h1_ h2_ hsp hD a hf
      obtain ⟨u65,gv8⟩:=g
      rcases k with _ | _ | k
      · exact absurd h1_ (by decide)
      · have hS:St w0 w noX [ordA] (sl 26 12 gv8 givenL.length (encs eC givenL)::condA (s 6) (pt u65 (.cells #[.int .i64 0,.int .i64 0,.int .u8 0,.int .u8 0,.int .i64 0,.slice none 0 0] 46 (0,0)))::MZ881):=hD;
        replace hf:Fr a 273 [] ((150,.tuple #[.agg #[.int .i64 0,.int .i64 0,.int .u8 0,.int .u8 0,.int .i64 0,.slice none 0 0],.int .i64 6])::LZ881):=hf
        refine O.val hf rfl rfl rfl (RunV.extract rfl rfl) ?_
        clear hf a; intro a hf
        exact nD hf ⟨gt (d:=154) hf rfl rfl,hD⟩
      · exact absurd h2_ (by simp)
    · intro k s g w h1_ h2_ hsp hD a hf
      obtain ⟨u65,gv8⟩:=g
      rcases k with _ | _ | _ | k
      · exact absurd h1_ (by decide)
      · have hS:St w0 w noX [ordA] (sl 26 12 gv8 givenL.length (encs eC givenL)::condA (s 6) (pt u65 (.cells #[.int .i64 0,.int .i64 0,.int .u8 0,.int .u8 0,.int .i64 0,.slice none 0 0] 46 (0,0)))::MZ881):=hD;
        replace hf:Fr a 273 [] ((150,.tuple #[.agg #[.int .i64 0,.int .i64 0,.int .u8 0,.int .u8 0,.int .i64 0,.slice none 0 0],.int .i64 6])::LZ881):=hf
        refine O.val hf rfl rfl rfl (RunV.extract rfl rfl) ?_
        clear hf a; intro a hf
        exact nD hf ⟨gt (d:=155) hf rfl rfl,hD⟩
      · have hS:St w0 w noX [ordA] (sl 26 12 gv8 givenL.length (encs eC givenL)::pt u65 (.cells #[.int .i64 0,.int .i64 0,.int .u8 0,.int .u8 0,.int .i64 0,.slice none 0 0] 46 (0,0))::MZ881):=hD;
        replace hf:Fr a 273 [] ((150,.tuple #[.agg #[.int .i64 0,.int .i64 0,.int .u8 0,.int .u8 0,.int .i64 0,.slice none 0 0],.int .i64 6])::LZ881):=hf
        refine O.val hf rfl rfl rfl (RunV.extract rfl rfl) ?_
        clear hf a; intro a hf
        exact nD hf ⟨gt (d:=155) hf rfl rfl,hD⟩
      · exact absurd h2_ (by simp)
    · intro k s g w h1_ h2_ hsp hD a hf
      obtain ⟨u65,gv8⟩:=g
      rcases k with _ | _ | _ | k
      · exact absurd h1_ (by decide)
      · exact absurd h1_ (by decide)
      · have ha_:s 6=true:=hsp 6 (by simp)
        have hS:St w0 w noX [ordA] (sl 26 12 gv8 givenL.length (encs eC givenL)::pt u65 (.cells #[.int .i64 0,.int .i64 0,.int .u8 0,.int .u8 0,.int .i64 0,.slice none 0 0] 46 (0,0))::MZ881):=hD;
        replace hS:St w0 w noX [ordA] (sl 26 12 gv8 givenL.length (encs eC givenL)::pt u65 (.cells #[.int .i64 0,.int .i64 0,.int .u8 0,.int .u8 0,.int .i64 0,.slice none 0 0] 46 (0,0))::MZ881):=hS
        replace hf:Fr a 273 [] ((151,gv8)::(152,.agg #[.int .i64 0,.int .i64 2026,.int .u8 87,.int .u8 67,.int .i64 0])::(153,.tuple #[.agg #[.int .i64 0,.int .i64 0,.int .u8 0,.int .u8 0,.int .i64 0,.slice none 0 0],.int .i64 6])::(150,.tuple #[.agg #[.int .i64 0,.int .i64 0,.int .u8 0,.int .u8 0,.int .i64 0,.slice none 0 0],.int .i64 6])::(154,.agg #[.int .i64 0,.int .i64 0,.int .u8 0,.int .u8 0,.int .i64 0,.slice none 0 0])::(155,.int .i64 6)::(11,.pointer (some ⟨u65,0,none⟩))::LZ881):=hf
        refine O.val hf rfl rfl rfl (RunV.assign rfl) ?_
        clear hf a; intro a hf
        exact nD hf ⟨gt (d:=12) hf rfl rfl,hD⟩
      · exact absurd h2_ (by simp)
  · clear hf hf1 hS
    refine ⟨?_,?_,trivial⟩
    · intro s g w hsp hD a hf
      obtain ⟨u65,gv8⟩:=g
      have hS:St w0 w noX [ordA] (condA (s 6) (pt u65 (.cells #[.int .i64 0,.int .i64 0,.int .u8 0,.int .u8 0,.int .i64 0,.slice none 0 0] 46 (0,0)))::MZ881):=hD;
      replace hf:Fr a 273 [] LZ881:=hf
      clear hD
      refine O.callR hf rfl rfl rfl (RunE.call (av:=#[]) C_ok_30 rfl rfl rfl) (given_spec _) ?_
      clear hf a
      rintro gv8 w69 hS1 a hf
      replace hf:Fr a _ _ ((151,gv8)::_):=hf
      replace hS:=(hS.call hS1).eqM (N:=(sl 26 12 gv8 givenL.length (encs eC givenL)::condA (s 6) (pt u65 (.cells #[.int .i64 0,.int .i64 0,.int .u8 0,.int .u8 0,.int .i64 0,.slice none 0 0] 46 (0,0)))::MZ881)) rfl
      clear hS1
      exact O.nil ⟨rfl,(u65,gv8),hf.to trivial,(gt (d:=151) hf rfl rfl),(fun j_ hj_ ha_=>match j_,hj_,ha_ with | 0,hj_,ha_=>absurd rfl hj_ | 1,hj_,ha_=>rfl | 2,hj_,ha_=>absurd ha_ (by decide) | 3,hj_,ha_=>absurd ha_ (by decide) | 4,hj_,ha_=>absurd ha_ (by decide) | 5,hj_,ha_=>absurd ha_ (by decide) | 6,hj_,ha_=>rfl | 7,hj_,ha_=>absurd ha_ (by decide) | 8,hj_,ha_=>absurd ha_ (by decide) | _+9,_,_=>rfl),hS⟩
    · intro s g w hsp hD a hf
      obtain ⟨u65,gv8⟩:=g
      have ha_:s 6=true:=hsp 6 (by simp)
      have hS:St w0 w noX [ordA] (sl 26 12 gv8 givenL.length (encs eC givenL)::condA (s 6) (pt u65 (.cells #[.int .i64 0,.int .i64 0,.int .u8 0,.int .u8 0,.int .i64 0,.slice none 0 0] 46 (0,0)))::MZ881):=hD; rw [ha_] at hS
      replace hS:St w0 w noX [ordA] (sl 26 12 gv8 givenL.length (encs eC givenL)::pt u65 (.cells #[.int .i64 0,.int .i64 0,.int .u8 0,.int .u8 0,.int .i64 0,.slice none 0 0] 46 (0,0))::MZ881):=hS
      replace hf:Fr a 273 [] ((151,gv8)::(152,.agg #[.int .i64 0,.int .i64 2026,.int .u8 87,.int .u8 67,.int .i64 0])::(153,.tuple #[.agg #[.int .i64 0,.int .i64 0,.int .u8 0,.int .u8 0,.int .i64 0,.slice none 0 0],.int .i64 6])::(150,.tuple #[.agg #[.int .i64 0,.int .i64 0,.int .u8 0,.int .u8 0,.int .i64 0,.slice none 0 0],.int .i64 6])::(154,.agg #[.int .i64 0,.int .i64 0,.int .u8 0,.int .u8 0,.int .i64 0,.slice none 0 0])::(11,.pointer (some ⟨u65,0,none⟩))::LZ881):=hf
      clear hD
      refine O.store (j:=1) (cs':=#[.int .i64 0,.int .i64 0,.int .u8 0,.int .u8 0,.int .i64 0,.slice none 0 0]) (M':=(sl 26 12 gv8 givenL.length (encs eC givenL)::pt u65 (.cells #[.int .i64 0,.int .i64 0,.int .u8 0,.int .u8 0,.int .i64 0,.slice none 0 0] 46 (0,0))::MZ881)) hf hS rfl rfl rfl T_size_46 rfl rfl rfl (Nat.le_of_ble_eq_true rfl) rfl rfl ?_
      clear hS; intro w hS
      exact O.nil ⟨rfl,(u65,gv8),hf.to trivial,(fun d hd=>by cases (show none=some d from hd)),(fun j_ hj_ ha_=>match j_,hj_,ha_ with | 0,hj_,ha_=>rfl | 1,hj_,ha_=>rfl | 2,hj_,ha_=>rfl | 3,hj_,ha_=>rfl | 4,hj_,ha_=>rfl | 5,hj_,ha_=>rfl | 6,hj_,ha_=>rfl | 7,hj_,ha_=>absurd rfl hj_ | 8,hj_,ha_=>absurd ha_ (by decide) | _+9,_,_=>rfl),hS⟩
  · clear hf hf1 hS
    refine ⟨?_,trivial⟩
    intro k s g w h1_ h2_ hs0 hD a hf
    obtain ⟨u65,gv8⟩:=g
    rcases k with _ | _ | k
    · have hS:St w0 w noX [ordA] (condA (s 6) (pt u65 (.cells #[.int .i64 0,.int .i64 0,.int .u8 0,.int .u8 0,.int .i64 0,.slice none 0 0] 46 (0,0)))::MZ881):=hD; clear hD
      replace hf:Fr a 273 [] LZ881:=hf
      refine O.allocC (j:=0) (cs:=#[.int .i64 0,.int .i64 0,.int .u8 0,.int .u8 0,.int .i64 0,.slice none 0 0]) hf hS rfl hs0 rfl rfl T_zero_46 rfl ?_; clear hf hS a; intro s70 w a hS hf
      exact O.nil ⟨rfl,(s70,gv8),hf.to trivial,(gt (d:=11) hf rfl rfl),(fun j_ hj_ ha_=>match j_,hj_,ha_ with | 0,hj_,ha_=>rfl | 1,hj_,ha_=>rfl | 2,hj_,ha_=>rfl | 3,hj_,ha_=>rfl | 4,hj_,ha_=>rfl | 5,hj_,ha_=>rfl | 6,hj_,ha_=>absurd rfl hj_ | 7,hj_,ha_=>absurd ha_ (by decide) | 8,hj_,ha_=>absurd ha_ (by decide) | _+9,_,_=>rfl),hS⟩
    · have hS:St w0 w noX [ordA] (sl 26 12 gv8 givenL.length (encs eC givenL)::condA (s 6) (pt u65 (.cells #[.int .i64 0,.int .i64 0,.int .u8 0,.int .u8 0,.int .i64 0,.slice none 0 0] 46 (0,0)))::MZ881):=hD; clear hD
      replace hf:Fr a 273 [] LZ881:=hf
      refine O.allocC (j:=1) (cs:=#[.int .i64 0,.int .i64 0,.int .u8 0,.int .u8 0,.int .i64 0,.slice none 0 0]) hf hS rfl hs0 rfl rfl T_zero_46 rfl ?_; clear hf hS a; intro s71 w a hS hf
      exact O.nil ⟨rfl,(s71,gv8),hf.to trivial,(gt (d:=11) hf rfl rfl),(fun j_ hj_ ha_=>match j_,hj_,ha_ with | 0,hj_,ha_=>rfl | 1,hj_,ha_=>rfl | 2,hj_,ha_=>rfl | 3,hj_,ha_=>rfl | 4,hj_,ha_=>rfl | 5,hj_,ha_=>rfl | 6,hj_,ha_=>absurd rfl hj_ | 7,hj_,ha_=>absurd ha_ (by decide) | 8,hj_,ha_=>absurd ha_ (by decide) | _+9,_,_=>rfl),hS⟩
    · exact absurd h2_ (by simp)
  clear hf hf1 hS; intro s g a w hs_ hf hD
  obtain ⟨u65,gv8⟩:=g
  have ha_:s 6=true:=hs_ 6 (by simp)
  have hS:St w0 w noX [ordA] (sl 26 12 gv8 givenL.length (encs eC givenL)::pt u65 (.cells #[.int .i64 0,.int .i64 0,.int .u8 0,.int .u8 0,.int .i64 0,.slice none 0 0] 46 (0,0))::MZ881):=hD; clear hD
  replace hf:Fr a 273 [] ((151,gv8)::(152,.agg #[.int .i64 0,.int .i64 2026,.int .u8 87,.int .u8 67,.int .i64 0])::(153,.tuple #[.agg #[.int .i64 0,.int .i64 0,.int .u8 0,.int .u8 0,.int .i64 0,.slice none 0 0],.int .i64 6])::(150,.tuple #[.agg #[.int .i64 0,.int .i64 0,.int .u8 0,.int .u8 0,.int .i64 0,.slice none 0 0],.int .i64 6])::(154,.agg #[.int .i64 0,.int .i64 0,.int .u8 0,.int .u8 0,.int .i64 0,.slice none 0 0])::(155,.int .i64 6)::(11,.pointer (some ⟨u65,0,none⟩))::(12,.int .i64 6)::LZ881):=hf
  refine k_seq ?_
  replace hf:Fr a 273 [] [(0,.bool false),(1,.pointer (some ⟨b_n2,0,none⟩)),(3,.pointer (some ⟨b_plus4,0,none⟩)),(4,.pointer (some ⟨b_undo5,0,none⟩)),(5,.bool true),(6,.bool true),(8,.int .i64 4),(10,.int .i64 8),(12,.int .i64 6)]:=hf.to ⟨rfl,rfl,rfl,rfl,rfl,rfl,rfl,rfl,rfl,trivial⟩
  refine W.seq ?_
  refine W.regionL (l:=[0,1,2,3,4,5,6,7,8]) rfl ?_
  refine O.callR hf rfl rfl rfl (RunE.call (av:=#[]) C_ok_30 rfl rfl rfl) (given_spec _) ?_
  clear hf a
  rintro gv9 w72 hS1 a hf
  replace hf:Fr a _ _ ((157,gv9)::_):=hf
  replace hS:=(hS.call hS1).eqM (N:=(sl 26 12 gv9 givenL.length (encs eC givenL)::sl 26 12 gv8 givenL.length (encs eC givenL)::pt u65 (.cells #[.int .i64 0,.int .i64 0,.int .u8 0,.int .u8 0,.int .i64 0,.slice none 0 0] 46 (0,0))::MZ881)) rfl
  clear hS1
  refine O.val hf rfl rfl rfl (RunV.buildS (cs':=#[.int .i64 0,.int .i64 0,.int .u8 0,.int .u8 0,.int .i64 0]) T_places_24 T_zero_24 rfl rfl) ?_
  clear hf a; intro a hf
  refine O.callR hf rfl rfl rfl (RunE.call (av:=#[gv9,dV default]) C_ok_19 rfl rfl rfl) (whoE gv9 givenL default _ (hS.bptO (i:=0) rfl) (hS.slr (j:=0) rfl) (slOK.fit (hS.slAt (j:=0) rfl)) 8 nm14) ?_
  clear hf a
  rintro _ w73 hS1 a hf
  replace hf:Fr a _ _ ((159,.tuple #[.agg #[.int .i64 0,.int .i64 0,.int .u8 0,.int .u8 0,.int .i64 0,.slice none 0 0],.int .i64 8])::_):=hf
  replace hS:=(hS.call hS1).eqM (N:=(sl 26 12 gv9 givenL.length (encs eC givenL)::sl 26 12 gv8 givenL.length (encs eC givenL)::pt u65 (.cells #[.int .i64 0,.int .i64 0,.int .u8 0,.int .u8 0,.int .i64 0,.slice none 0 0] 46 (0,0))::MZ881)) rfl
  clear hS1
  refine O.val hf rfl rfl rfl (RunV.move rfl) ?_
  clear hf a; intro a hf
  refine O.val hf rfl rfl rfl (RunV.extract rfl rfl) ?_
  clear hf a; intro a hf
  refine O.val hf rfl rfl rfl (RunV.extract rfl rfl) ?_
  clear hf a; intro a hf
  refine O.alloc (cs:=#[.int .i64 0,.int .i64 0,.int .u8 0,.int .u8 0,.int .i64 0,.slice none 0 0]) hf hS rfl rfl T_zero_46 rfl ?_
  clear hf hS a; intro u74 w a hbb__74 hS hf
  refine O.store (j:=0) (cs':=#[.int .i64 0,.int .i64 0,.int .u8 0,.int .u8 0,.int .i64 0,.slice none 0 0]) (M':=(pt u74 (.cells #[.int .i64 0,.int .i64 0,.int .u8 0,.int .u8 0,.int .i64 0,.slice none 0 0] 46 (0,0))::sl 26 12 gv9 givenL.length (encs eC givenL)::sl 26 12 gv8 givenL.length (encs eC givenL)::pt u65 (.cells #[.int .i64 0,.int .i64 0,.int .u8 0,.int .u8 0,.int .i64 0,.slice none 0 0] 46 (0,0))::MZ881)) hf hS rfl rfl rfl T_size_46 rfl rfl rfl (Nat.le_of_ble_eq_true rfl) rfl rfl ?_
  clear hS; intro w hS
  refine O.val hf rfl rfl rfl (RunV.assign rfl) ?_
  clear hf a; intro a hf
  refine O.nil ?_
  refine k_seq ?_
  replace hf:Fr a 273 [] [(0,.bool false),(1,.pointer (some ⟨b_n2,0,none⟩)),(3,.pointer (some ⟨b_plus4,0,none⟩)),(4,.pointer (some ⟨b_undo5,0,none⟩)),(5,.bool true),(6,.bool true),(8,.int .i64 4),(10,.int .i64 8),(12,.int .i64 6),(14,.int .i64 8)]:=hf.to ⟨rfl,rfl,rfl,rfl,rfl,rfl,rfl,rfl,rfl,rfl,trivial⟩
  refine W.seq ?_
  refine W.regionL (l:=[0,1,2,3,4,5,6,7,8]) rfl ?_
  refine O.callR hf rfl rfl rfl (RunE.call (av:=#[]) C_ok_30 rfl rfl rfl) (given_spec _) ?_
  clear hf a
  rintro gv10 w75 hS1 a hf
  replace hf:Fr a _ _ ((163,gv10)::_):=hf
  replace hS:=(hS.call hS1).eqM (N:=(sl 26 12 gv10 givenL.length (encs eC givenL)::pt u74 (.cells #[.int .i64 0,.int .i64 0,.int .u8 0,.int .u8 0,.int .i64 0,.slice none 0 0] 46 (0,0))::sl 26 12 gv9 givenL.length (encs eC givenL)::sl 26 12 gv8 givenL.length (encs eC givenL)::pt u65 (.cells #[.int .i64 0,.int .i64 0,.int .u8 0,.int .u8 0,.int .i64 0,.slice none 0 0] 46 (0,0))::MZ881)) rfl
  clear hS1
  refine O.callR hf rfl rfl rfl (RunE.call (av:=#[.int .u8 66]) C_ok_28 rfl rfl rfl) (named_spec 66 _) ?_
  clear hf a
  rintro _ w76 hS1 a hf
  replace hf:Fr a _ _ ((164,.agg #[.int .i64 0,.int .i64 2026,.int .u8 87,.int .u8 66,.int .i64 0])::_):=hf
  replace hS:=(hS.call hS1).eqM (N:=(sl 26 12 gv10 givenL.length (encs eC givenL)::pt u74 (.cells #[.int .i64 0,.int .i64 0,.int .u8 0,.int .u8 0,.int .i64 0,.slice none 0 0] 46 (0,0))::sl 26 12 gv9 givenL.length (encs eC givenL)::sl 26 12 gv8 givenL.length (encs eC givenL)::pt u65 (.cells #[.int .i64 0,.int .i64 0,.int .u8 0,.int .u8 0,.int .i64 0,.slice none 0 0] 46 (0,0))::MZ881)) rfl
  clear hS1
  refine O.callR hf rfl rfl rfl (RunE.call (av:=#[gv10,dV (nameD 66)]) C_ok_19 rfl rfl rfl) (who_given gv10 _ (hS.bptO (i:=0) rfl) (hS.slr (j:=0) rfl) (slOK.fit (hS.slAt (j:=0) rfl))) ?_
  clear hf a
  rintro wv w77 hS1 a hf
  replace hf:Fr a _ _ ((165,.tuple #[.agg #[.int .i64 numD.num,.int .i64 numD.yr,.int .u8 numD.half,.int .u8 numD.sec,.int .i64 numD.cyc,wv],.int .i64 0])::_):=hf
  replace hS:=(hS.call hS1).eqM (N:=(sl 24 5 wv ([numD,nameD 65,nameD 66].length) (encs eD [numD,nameD 65,nameD 66])::sl 26 12 gv10 givenL.length (encs eC givenL)::pt u74 (.cells #[.int .i64 0,.int .i64 0,.int .u8 0,.int .u8 0,.int .i64 0,.slice none 0 0] 46 (0,0))::sl 26 12 gv9 givenL.length (encs eC givenL)::sl 26 12 gv8 givenL.length (encs eC givenL)::pt u65 (.cells #[.int .i64 0,.int .i64 0,.int .u8 0,.int .u8 0,.int .i64 0,.slice none 0 0] 46 (0,0))::MZ881)) rfl
  clear hS1
  refine O.val hf rfl rfl rfl (RunV.move rfl) ?_
  clear hf a; intro a hf
  refine O.val hf rfl rfl rfl (RunV.extract rfl rfl) ?_
  clear hf a; intro a hf
  refine O.val hf rfl rfl rfl (RunV.extract rfl rfl) ?_
  clear hf a; intro a hf
  refine O.alloc (cs:=#[.int .i64 0,.int .i64 0,.int .u8 0,.int .u8 0,.int .i64 0,.slice none 0 0]) hf hS rfl rfl T_zero_46 rfl ?_
  clear hf hS a; intro b_o78 w a hbb_o78 hS hf
  have hcl79:=rdOK.cells (hS.slr (j:=1) rfl)
  refine O.store (j:=0) (cs':=#[.int .i64 numD.num,.int .i64 numD.yr,.int .u8 numD.half,.int .u8 numD.sec,.int .i64 numD.cyc,wv]) (M':=(pt b_o78 (.cells #[.int .i64 numD.num,.int .i64 numD.yr,.int .u8 numD.half,.int .u8 numD.sec,.int .i64 numD.cyc,wv] 46 (0,0))::sl 24 5 wv ([numD,nameD 65,nameD 66].length) (encs eD [numD,nameD 65,nameD 66])::sl 26 12 gv10 givenL.length (encs eC givenL)::pt u74 (.cells #[.int .i64 0,.int .i64 0,.int .u8 0,.int .u8 0,.int .i64 0,.slice none 0 0] 46 (0,0))::sl 26 12 gv9 givenL.length (encs eC givenL)::sl 26 12 gv8 givenL.length (encs eC givenL)::pt u65 (.cells #[.int .i64 0,.int .i64 0,.int .u8 0,.int .u8 0,.int .i64 0,.slice none 0 0] 46 (0,0))::MZ881)) hf hS rfl rfl rfl T_size_46 rfl (oneCells_cc rfl (oneCells_cc rfl (oneCells_cc rfl (oneCells_cc rfl (oneCells_cc rfl (oneCells_cc hcl79.2 rfl)))))) rfl (Nat.le_of_ble_eq_true rfl) rfl rfl ?_
  clear hS; intro w hS
  refine O.val hf rfl rfl rfl (RunV.assign rfl) ?_
  clear hf a; intro a hf
  refine O.nil ?_
  refine k_seq ?_
  replace hf:Fr a 273 [] [(0,.bool false),(1,.pointer (some ⟨b_n2,0,none⟩)),(3,.pointer (some ⟨b_plus4,0,none⟩)),(4,.pointer (some ⟨b_undo5,0,none⟩)),(5,.bool true),(6,.bool true),(8,.int .i64 4),(10,.int .i64 8),(12,.int .i64 6),(14,.int .i64 8),(15,.pointer (some ⟨b_o78,0,none⟩)),(16,.int .i64 0)]:=hf.to ⟨rfl,rfl,rfl,rfl,rfl,rfl,rfl,rfl,rfl,rfl,rfl,rfl,trivial⟩
  refine W.seq ?_
  have hf1:Fr a 273 [] []:=hf.to trivial
  replace hf:Fr a 273 [] [(0,.bool false),(1,.pointer (some ⟨b_n2,0,none⟩)),(3,.pointer (some ⟨b_plus4,0,none⟩)),(4,.pointer (some ⟨b_undo5,0,none⟩)),(5,.bool true),(6,.bool true),(8,.int .i64 4),(10,.int .i64 8),(12,.int .i64 6),(14,.int .i64 8),(15,.pointer (some ⟨b_o78,0,none⟩)),(16,.int .i64 0)]:=hf.to ⟨rfl,rfl,rfl,rfl,rfl,rfl,rfl,rfl,rfl,rfl,rfl,rfl,trivial⟩
  replace hS:=hS.drew
  replace hS:=hS.emp
  let LZ1080:List (Nat × Value):=[(0,.bool false),(1,.pointer (some ⟨b_n2,0,none⟩)),(3,.pointer (some ⟨b_plus4,0,none⟩)),(4,.pointer (some ⟨b_undo5,0,none⟩)),(5,.bool true),(6,.bool true),(8,.int .i64 4),(10,.int .i64 8),(12,.int .i64 6),(14,.int .i64 8),(15,.pointer (some ⟨b_o78,0,none⟩)),(16,.int .i64 0)]
  let MZ1080:List Asr:=(pt b_o78 (.cells #[.int .i64 numD.num,.int .i64 numD.yr,.int .u8 numD.half,.int .u8 numD.sec,.int .i64 numD.cyc,wv] 46 (0,0))::sl 24 5 wv ([numD,nameD 65,nameD 66].length) (encs eD [numD,nameD 65,nameD 66])::sl 26 12 gv10 givenL.length (encs eC givenL)::pt u74 (.cells #[.int .i64 0,.int .i64 0,.int .u8 0,.int .u8 0,.int .i64 0,.slice none 0 0] 46 (0,0))::sl 26 12 gv9 givenL.length (encs eC givenL)::sl 26 12 gv8 givenL.length (encs eC givenL)::pt u65 (.cells #[.int .i64 0,.int .i64 0,.int .u8 0,.int .u8 0,.int .i64 0,.slice none 0 0] 46 (0,0))::MZ881)
  refine W.drawC (γ:=(Nat) × (Value) × (Value) × (Value)) (L0:=LZ1080) (L1:=[]) (0,default,default,default) [0,3,4] [2] [1,5,6,7,8,9] (fun i=>match i with | 2=>[1] | 3=>[0,2] | 4=>[3] | 5=>[4] | 6=>[5] | 7=>[5] | 8=>[0,1,2,3,4,5,6] | 9=>[0,1,2,3,4,5,6,7,8] | _=>[]) (fun i=>match i with | 3=>[0,2] | 4=>[0,3,2] | 5=>[0,3,4,2] | 6=>[0,3,4,2] | 7=>[0,3,4,2] | 8=>[0,3,4,2] | 9=>[0,3,4,2] | _=>[]) (fun i=>match i with | 0=>[3,4] | 1=>[3,4] | 2=>[3,4] | 3=>[4] | _=>[]) (fun i=>match i with | 3=>[2] | 4=>[2] | 5=>[2] | 6=>[2] | 7=>[2] | 8=>[2] | 9=>[2] | _=>[]) (fun i=>match i with | 0=>[3,4,5,6,7,8,9] | 2=>[3,4,5,6,7,8,9] | 3=>[4,5,6,7,8,9] | 4=>[5,6,7,8,9] | _=>[]) (fun _=>[]) (fun i=>match i with | 3=>1 | 4=>2 | 5=>3 | 6=>3 | 7=>3 | 8=>3 | 9=>3 | _=>0) (fun i=>match i with | 0=>1 | 1=>1 | 2=>1 | 3=>2 | 4=>3 | 5=>3 | 6=>3 | 7=>3 | 8=>3 | 9=>3 | _=>0) (fun (g:(Nat) × (Value) × (Value) × (Value)) j=>match g,j with | ⟨s80,gv11,v82,uv⟩,0=>gv11 | ⟨s80,gv11,v82,uv⟩,1=>.agg #[.int .u8 4,.int .i64 0,.int .i64 0,.int .u8 0,.int .u8 0,.int .i64 0,.int .i64 0,.int .i64 0,.int .u8 0,.int .u8 0,.int .i64 0,.int .i64 2] | ⟨s80,gv11,v82,uv⟩,2=>.slice (some ⟨s80,0,none⟩) 1 1 | ⟨s80,gv11,v82,uv⟩,3=>v82 | ⟨s80,gv11,v82,uv⟩,4=>.tuple #[uv,.int .i64 0] | ⟨s80,gv11,v82,uv⟩,5=>.tuple #[uv,.int .i64 0] | ⟨s80,gv11,v82,uv⟩,6=>uv | ⟨s80,gv11,v82,uv⟩,7=>.int .i64 0 | ⟨s80,gv11,v82,uv⟩,8=>uv | ⟨s80,gv11,v82,uv⟩,9=>.int .i64 0 | _,_=>undef) (fun k s (g:(Nat) × (Value) × (Value) × (Value)) w=>match k,g with | 0,⟨s80,gv11,v82,uv⟩=>St w0 w noX [ordA] (condA (s 2) (pt s80 (.cells #[.int .u8 4,.int .i64 0,.int .i64 0,.int .u8 0,.int .u8 0,.int .i64 0,.int .i64 0,.int .i64 0,.int .u8 0,.int .u8 0,.int .i64 0,.int .i64 2] 26 (0,0)))::MZ1080) | 1,⟨s80,gv11,v82,uv⟩=>St w0 w noX [ordA] (sl 26 12 gv11 givenL.length (encs eC givenL)::condA (s 2) (pt s80 (.cells #[.int .u8 4,.int .i64 0,.int .i64 0,.int .u8 0,.int .u8 0,.int .i64 0,.int .i64 0,.int .i64 0,.int .u8 0,.int .u8 0,.int .i64 0,.int .i64 2] 26 (0,0)))::MZ1080) | 2,⟨s80,gv11,v82,uv⟩=>St w0 w noX [ordA] (sl 26 12 v82 ((givenL++[(undoC 2)]).length) (encs eC (givenL++[(undoC 2)]))::pt s80 (.cells #[.int .u8 4,.int .i64 0,.int .i64 0,.int .u8 0,.int .u8 0,.int .i64 0,.int .i64 0,.int .i64 0,.int .u8 0,.int .u8 0,.int .i64 0,.int .i64 2] 26 (0,0))::MZ1080) | _,⟨s80,gv11,v82,uv⟩=>St w0 w noX [ordA] (sl 4 1 uv ([false,false,true,false,false].length) (bools [false,false,true,false,false])::sl 26 12 v82 ((givenL++[(undoC 2)]).length) (encs eC (givenL++[(undoC 2)]))::pt s80 (.cells #[.int .u8 4,.int .i64 0,.int .i64 0,.int .u8 0,.int .u8 0,.int .i64 0,.int .i64 0,.int .i64 0,.int .u8 0,.int .u8 0,.int .i64 0,.int .i64 2] 26 (0,0))::MZ1080)) P_mixed (by kernel_rfl) (by kernel_rfl) (by kernel_rfl) hf hf1 hS ?_ ?_ ?_ ?_
  · clear hf hf1 hS
    refine ⟨?_,?_,?_,?_,?_,?_,trivial⟩
    · intro k s g w h1_ h2_ hsp hD a hf
      obtain ⟨s80,gv11,v82,uv⟩:=g
      rcases k with _ | _ | k
      · have hS:St w0 w noX [ordA] (condA (s 2) (pt s80 (.cells #[.int .u8 4,.int .i64 0,.int .i64 0,.int .u8 0,.int .u8 0,.int .i64 0,.int .i64 0,.int .i64 0,.int .u8 0,.int .u8 0,.int .i64 0,.int .i64 2] 26 (0,0)))::MZ1080):=hD;
        replace hf:Fr a 273 [] LZ1080:=hf
        refine O.val hf rfl rfl rfl (RunV.loadN (cs':=#[.int .u8 4,.int .i64 0,.int .i64 0,.int .u8 0,.int .u8 0,.int .i64 0,.int .i64 0,.int .i64 0,.int .u8 0,.int .u8 0,.int .i64 0,.int .i64 2]) T_agg_26 T_size_26 rfl (hS.ptAt (i:=11) rfl) (Nat.le_of_ble_eq_true rfl) rfl) ?_
        clear hf a; intro a hf
        exact nD hf ⟨gt (d:=170) hf rfl rfl,hD⟩
      · have hS:St w0 w noX [ordA] (sl 26 12 gv11 givenL.length (encs eC givenL)::condA (s 2) (pt s80 (.cells #[.int .u8 4,.int .i64 0,.int .i64 0,.int .u8 0,.int .u8 0,.int .i64 0,.int .i64 0,.int .i64 0,.int .u8 0,.int .u8 0,.int .i64 0,.int .i64 2] 26 (0,0)))::MZ1080):=hD;
        replace hf:Fr a 273 [] LZ1080:=hf
        refine O.val hf rfl rfl rfl (RunV.loadN (cs':=#[.int .u8 4,.int .i64 0,.int .i64 0,.int .u8 0,.int .u8 0,.int .i64 0,.int .i64 0,.int .i64 0,.int .u8 0,.int .u8 0,.int .i64 0,.int .i64 2]) T_agg_26 T_size_26 rfl (hS.ptAt (i:=12) rfl) (Nat.le_of_ble_eq_true rfl) rfl) ?_
        clear hf a; intro a hf
        exact nD hf ⟨gt (d:=170) hf rfl rfl,hD⟩
      · exact absurd h2_ (by simp)
    · intro k s g w h1_ h2_ hsp hD a hf
      obtain ⟨s80,gv11,v82,uv⟩:=g
      rcases k with _ | _ | _ | _ | k
      · exact absurd h1_ (by decide)
      · exact absurd h1_ (by decide)
      · exact absurd h1_ (by decide)
      · have ha_:s 2=true:=hsp 2 (by simp)
        have hS:St w0 w noX [ordA] (sl 4 1 uv ([false,false,true,false,false].length) (bools [false,false,true,false,false])::sl 26 12 v82 ((givenL++[(undoC 2)]).length) (encs eC (givenL++[(undoC 2)]))::pt s80 (.cells #[.int .u8 4,.int .i64 0,.int .i64 0,.int .u8 0,.int .u8 0,.int .i64 0,.int .i64 0,.int .i64 0,.int .u8 0,.int .u8 0,.int .i64 0,.int .i64 2] 26 (0,0))::MZ1080):=hD;
        replace hS:St w0 w noX [ordA] (sl 4 1 uv ([false,false,true,false,false].length) (bools [false,false,true,false,false])::sl 26 12 v82 ((givenL++[(undoC 2)]).length) (encs eC (givenL++[(undoC 2)]))::pt s80 (.cells #[.int .u8 4,.int .i64 0,.int .i64 0,.int .u8 0,.int .u8 0,.int .i64 0,.int .i64 0,.int .i64 0,.int .u8 0,.int .u8 0,.int .i64 0,.int .i64 2] 26 (0,0))::MZ1080):=hS
        replace hf:Fr a 273 [] ((173,.tuple #[uv,.int .i64 0])::LZ1080):=hf
        refine O.val hf rfl rfl rfl (RunV.move rfl) ?_
        clear hf a; intro a hf
        exact nD hf ⟨gt (d:=168) hf rfl rfl,hD⟩
      · exact absurd h2_ (by simp)
    · intro k s g w h1_ h2_ hsp hD a hf
      obtain ⟨s80,gv11,v82,uv⟩:=g
      rcases k with _ | _ | _ | _ | k
      · exact absurd h1_ (by decide)
      · exact absurd h1_ (by decide)
      · exact absurd h1_ (by decide)
      · have ha_:s 2=true:=hsp 2 (by simp)
        have hS:St w0 w noX [ordA] (sl 4 1 uv ([false,false,true,false,false].length) (bools [false,false,true,false,false])::sl 26 12 v82 ((givenL++[(undoC 2)]).length) (encs eC (givenL++[(undoC 2)]))::pt s80 (.cells #[.int .u8 4,.int .i64 0,.int .i64 0,.int .u8 0,.int .u8 0,.int .i64 0,.int .i64 0,.int .i64 0,.int .u8 0,.int .u8 0,.int .i64 0,.int .i64 2] 26 (0,0))::MZ1080):=hD;
        replace hS:St w0 w noX [ordA] (sl 4 1 uv ([false,false,true,false,false].length) (bools [false,false,true,false,false])::sl 26 12 v82 ((givenL++[(undoC 2)]).length) (encs eC (givenL++[(undoC 2)]))::pt s80 (.cells #[.int .u8 4,.int .i64 0,.int .i64 0,.int .u8 0,.int .u8 0,.int .i64 0,.int .i64 0,.int .i64 0,.int .u8 0,.int .u8 0,.int .i64 0,.int .i64 2] 26 (0,0))::MZ1080):=hS
        replace hf:Fr a 273 [] ((168,.tuple #[uv,.int .i64 0])::LZ1080):=hf
        refine O.val hf rfl rfl rfl (RunV.extract rfl rfl) ?_
        clear hf a; intro a hf
        exact nD hf ⟨gt (d:=174) hf rfl rfl,hD⟩
      · exact absurd h2_ (by simp)
    · intro k s g w h1_ h2_ hsp hD a hf
      obtain ⟨s80,gv11,v82,uv⟩:=g
      rcases k with _ | _ | _ | _ | k
      · exact absurd h1_ (by decide)
      · exact absurd h1_ (by decide)
      · exact absurd h1_ (by decide)
      · have ha_:s 2=true:=hsp 2 (by simp)
        have hS:St w0 w noX [ordA] (sl 4 1 uv ([false,false,true,false,false].length) (bools [false,false,true,false,false])::sl 26 12 v82 ((givenL++[(undoC 2)]).length) (encs eC (givenL++[(undoC 2)]))::pt s80 (.cells #[.int .u8 4,.int .i64 0,.int .i64 0,.int .u8 0,.int .u8 0,.int .i64 0,.int .i64 0,.int .i64 0,.int .u8 0,.int .u8 0,.int .i64 0,.int .i64 2] 26 (0,0))::MZ1080):=hD;
        replace hS:St w0 w noX [ordA] (sl 4 1 uv ([false,false,true,false,false].length) (bools [false,false,true,false,false])::sl 26 12 v82 ((givenL++[(undoC 2)]).length) (encs eC (givenL++[(undoC 2)]))::pt s80 (.cells #[.int .u8 4,.int .i64 0,.int .i64 0,.int .u8 0,.int .u8 0,.int .i64 0,.int .i64 0,.int .i64 0,.int .u8 0,.int .u8 0,.int .i64 0,.int .i64 2] 26 (0,0))::MZ1080):=hS
        replace hf:Fr a 273 [] ((168,.tuple #[uv,.int .i64 0])::LZ1080):=hf
        refine O.val hf rfl rfl rfl (RunV.extract rfl rfl) ?_
        clear hf a; intro a hf
        exact nD hf ⟨gt (d:=175) hf rfl rfl,hD⟩
      · exact absurd h2_ (by simp)
    · intro k s g w h1_ h2_ hsp hD a hf
      obtain ⟨s80,gv11,v82,uv⟩:=g
      rcases k with _ | _ | _ | _ | k
      · exact absurd h1_ (by decide)
      · exact absurd h1_ (by decide)
      · exact absurd h1_ (by decide)
      · have ha_:s 2=true:=hsp 2 (by simp)
        have hS:St w0 w noX [ordA] (sl 4 1 uv ([false,false,true,false,false].length) (bools [false,false,true,false,false])::sl 26 12 v82 ((givenL++[(undoC 2)]).length) (encs eC (givenL++[(undoC 2)]))::pt s80 (.cells #[.int .u8 4,.int .i64 0,.int .i64 0,.int .u8 0,.int .u8 0,.int .i64 0,.int .i64 0,.int .i64 0,.int .u8 0,.int .u8 0,.int .i64 0,.int .i64 2] 26 (0,0))::MZ1080):=hD;
        replace hS:St w0 w noX [ordA] (sl 4 1 uv ([false,false,true,false,false].length) (bools [false,false,true,false,false])::sl 26 12 v82 ((givenL++[(undoC 2)]).length) (encs eC (givenL++[(undoC 2)]))::pt s80 (.cells #[.int .u8 4,.int .i64 0,.int .i64 0,.int .u8 0,.int .u8 0,.int .i64 0,.int .i64 0,.int .i64 0,.int .u8 0,.int .u8 0,.int .i64 0,.int .i64 2] 26 (0,0))::MZ1080):=hS
        replace hf:Fr a 273 [] ((169,gv11)::(170,.agg #[.int .u8 4,.int .i64 0,.int .i64 0,.int .u8 0,.int .u8 0,.int .i64 0,.int .i64 0,.int .i64 0,.int .u8 0,.int .u8 0,.int .i64 0,.int .i64 2])::(171,.slice (some ⟨s80,0,none⟩) 1 1)::(172,v82)::(173,.tuple #[uv,.int .i64 0])::(168,.tuple #[uv,.int .i64 0])::(174,uv)::LZ1080):=hf
        refine O.val hf rfl rfl rfl (RunV.assign rfl) ?_
        clear hf a; intro a hf
        exact nD hf ⟨gt (d:=17) hf rfl rfl,hD⟩
      · exact absurd h2_ (by simp)
    · intro k s g w h1_ h2_ hsp hD a hf
      obtain ⟨s80,gv11,v82,uv⟩:=g
      rcases k with _ | _ | _ | _ | k
      · exact absurd h1_ (by decide)
      · exact absurd h1_ (by decide)
      · exact absurd h1_ (by decide)
      · have ha_:s 2=true:=hsp 2 (by simp)
        have hS:St w0 w noX [ordA] (sl 4 1 uv ([false,false,true,false,false].length) (bools [false,false,true,false,false])::sl 26 12 v82 ((givenL++[(undoC 2)]).length) (encs eC (givenL++[(undoC 2)]))::pt s80 (.cells #[.int .u8 4,.int .i64 0,.int .i64 0,.int .u8 0,.int .u8 0,.int .i64 0,.int .i64 0,.int .i64 0,.int .u8 0,.int .u8 0,.int .i64 0,.int .i64 2] 26 (0,0))::MZ1080):=hD;
        replace hS:St w0 w noX [ordA] (sl 4 1 uv ([false,false,true,false,false].length) (bools [false,false,true,false,false])::sl 26 12 v82 ((givenL++[(undoC 2)]).length) (encs eC (givenL++[(undoC 2)]))::pt s80 (.cells #[.int .u8 4,.int .i64 0,.int .i64 0,.int .u8 0,.int .u8 0,.int .i64 0,.int .i64 0,.int .i64 0,.int .u8 0,.int .u8 0,.int .i64 0,.int .i64 2] 26 (0,0))::MZ1080):=hS
        replace hf:Fr a 273 [] ((169,gv11)::(170,.agg #[.int .u8 4,.int .i64 0,.int .i64 0,.int .u8 0,.int .u8 0,.int .i64 0,.int .i64 0,.int .i64 0,.int .u8 0,.int .u8 0,.int .i64 0,.int .i64 2])::(171,.slice (some ⟨s80,0,none⟩) 1 1)::(172,v82)::(173,.tuple #[uv,.int .i64 0])::(168,.tuple #[uv,.int .i64 0])::(174,uv)::(175,.int .i64 0)::(17,uv)::LZ1080):=hf
        refine O.val hf rfl rfl rfl (RunV.assign rfl) ?_
        clear hf a; intro a hf
        exact nD hf ⟨gt (d:=18) hf rfl rfl,hD⟩
      · exact absurd h2_ (by simp)
  · clear hf hf1 hS
    refine ⟨?_,?_,?_,trivial⟩
    · intro s g w hsp hD a hf
      obtain ⟨s80,gv11,v82,uv⟩:=g
      have hS:St w0 w noX [ordA] (condA (s 2) (pt s80 (.cells #[.int .u8 4,.int .i64 0,.int .i64 0,.int .u8 0,.int .u8 0,.int .i64 0,.int .i64 0,.int .i64 0,.int .u8 0,.int .u8 0,.int .i64 0,.int .i64 2] 26 (0,0)))::MZ1080):=hD;
      replace hf:Fr a 273 [] LZ1080:=hf
      clear hD
      refine O.callR hf rfl rfl rfl (RunE.call (av:=#[]) C_ok_30 rfl rfl rfl) (given_spec _) ?_
      clear hf a
      rintro gv11 w84 hS1 a hf
      replace hf:Fr a _ _ ((169,gv11)::_):=hf
      replace hS:=(hS.call hS1).eqM (N:=(sl 26 12 gv11 givenL.length (encs eC givenL)::condA (s 2) (pt s80 (.cells #[.int .u8 4,.int .i64 0,.int .i64 0,.int .u8 0,.int .u8 0,.int .i64 0,.int .i64 0,.int .i64 0,.int .u8 0,.int .u8 0,.int .i64 0,.int .i64 2] 26 (0,0)))::MZ1080)) rfl
      clear hS1
      exact O.nil ⟨rfl,(s80,gv11,v82,uv),hf.to trivial,(gt (d:=169) hf rfl rfl),(fun j_ hj_ ha_=>match j_,hj_,ha_ with | 0,hj_,ha_=>absurd rfl hj_ | 1,hj_,ha_=>rfl | 2,hj_,ha_=>rfl | 3,hj_,ha_=>absurd ha_ (by decide) | 4,hj_,ha_=>absurd ha_ (by decide) | 5,hj_,ha_=>absurd ha_ (by decide) | 6,hj_,ha_=>absurd ha_ (by decide) | 7,hj_,ha_=>absurd ha_ (by decide) | 8,hj_,ha_=>absurd ha_ (by decide) | 9,hj_,ha_=>absurd ha_ (by decide) | _+10,_,_=>rfl),hS⟩
    · intro s g w hsp hD a hf
      obtain ⟨s80,gv11,v82,uv⟩:=g
      have ha_:s 2=true:=hsp 2 (by simp)
      have hS:St w0 w noX [ordA] (sl 26 12 gv11 givenL.length (encs eC givenL)::condA (s 2) (pt s80 (.cells #[.int .u8 4,.int .i64 0,.int .i64 0,.int .u8 0,.int .u8 0,.int .i64 0,.int .i64 0,.int .i64 0,.int .u8 0,.int .u8 0,.int .i64 0,.int .i64 2] 26 (0,0)))::MZ1080):=hD; rw [ha_] at hS
      replace hS:St w0 w noX [ordA] (sl 26 12 gv11 givenL.length (encs eC givenL)::pt s80 (.cells #[.int .u8 4,.int .i64 0,.int .i64 0,.int .u8 0,.int .u8 0,.int .i64 0,.int .i64 0,.int .i64 0,.int .u8 0,.int .u8 0,.int .i64 0,.int .i64 2] 26 (0,0))::MZ1080):=hS
      replace hf:Fr a 273 [] ((169,gv11)::(171,.slice (some ⟨s80,0,none⟩) 1 1)::LZ1080):=hf
      clear hD
      refine O.append1 (j:=0) (jj:=1) hf hS rfl rfl T_elem_22 T_size_26 T_bytes_26 T_zero_26 rfl rfl rfl rfl rfl rfl rfl rfl (by unfold maxLen; decide) (by decide) ?_
      clear hf hS a; intro v85 w a hS hf
      replace hS:=hS.eqM (N:=(sl 26 12 v85 (givenL.length+1) (encs eC givenL++[.int .u8 4,.int .i64 0,.int .i64 0,.int .u8 0,.int .u8 0,.int .i64 0,.int .i64 0,.int .i64 0,.int .u8 0,.int .u8 0,.int .i64 0,.int .i64 2])::pt s80 (.cells #[.int .u8 4,.int .i64 0,.int .i64 0,.int .u8 0,.int .u8 0,.int .i64 0,.int .i64 0,.int .i64 0,.int .u8 0,.int .u8 0,.int .i64 0,.int .i64 2] 26 (0,0))::MZ1080)) rfl
      replace hS:=hS.reE (i:=0) (M':=(sl 26 12 v85 ((givenL++[(undoC 2)]).length) (encs eC (givenL++[(undoC 2)]))::pt s80 (.cells #[.int .u8 4,.int .i64 0,.int .i64 0,.int .u8 0,.int .u8 0,.int .i64 0,.int .i64 0,.int .i64 0,.int .u8 0,.int .u8 0,.int .i64 0,.int .i64 2] 26 (0,0))::MZ1080)) rfl (sl_snoc (enc:=eC) (l:=givenL) (x:=(undoC 2))) rfl
      exact O.nil ⟨rfl,(s80,gv11,v85,uv),hf.to trivial,(gt (d:=172) hf rfl rfl),(fun j_ hj_ ha_=>match j_,hj_,ha_ with | 0,hj_,ha_=>rfl | 1,hj_,ha_=>rfl | 2,hj_,ha_=>rfl | 3,hj_,ha_=>absurd rfl hj_ | 4,hj_,ha_=>absurd ha_ (by decide) | 5,hj_,ha_=>absurd ha_ (by decide) | 6,hj_,ha_=>absurd ha_ (by decide) | 7,hj_,ha_=>absurd ha_ (by decide) | 8,hj_,ha_=>absurd ha_ (by decide) | 9,hj_,ha_=>absurd ha_ (by decide) | _+10,_,_=>rfl),hS⟩
    · intro s g w hsp hD a hf
      obtain ⟨s80,gv11,v82,uv⟩:=g
      have ha_:s 2=true:=hsp 2 (by simp)
      have hS:St w0 w noX [ordA] (sl 26 12 v82 ((givenL++[(undoC 2)]).length) (encs eC (givenL++[(undoC 2)]))::pt s80 (.cells #[.int .u8 4,.int .i64 0,.int .i64 0,.int .u8 0,.int .u8 0,.int .i64 0,.int .i64 0,.int .i64 0,.int .u8 0,.int .u8 0,.int .i64 0,.int .i64 2] 26 (0,0))::MZ1080):=hD;
      replace hS:St w0 w noX [ordA] (sl 26 12 v82 ((givenL++[(undoC 2)]).length) (encs eC (givenL++[(undoC 2)]))::pt s80 (.cells #[.int .u8 4,.int .i64 0,.int .i64 0,.int .u8 0,.int .u8 0,.int .i64 0,.int .i64 0,.int .i64 0,.int .u8 0,.int .u8 0,.int .i64 0,.int .i64 2] 26 (0,0))::MZ1080):=hS
      replace hf:Fr a 273 [] ((172,v82)::LZ1080):=hf
      clear hD
      refine O.callR hf rfl rfl rfl (RunE.call (av:=#[v82]) C_ok_21 rfl rfl rfl) (undone_ok v82 (givenL++[undoC 2]) _ (hS.bptO (i:=0) rfl) (hS.slr (j:=0) rfl) (slOK.fit (hS.slAt (j:=0) rfl)) _ [false,false,true,false,false] given_undo2) ?_
      clear hf a
      rintro uv w86 hS1 a hf
      replace hf:Fr a _ _ ((173,.tuple #[uv,.int .i64 0])::_):=hf
      replace hS:=(hS.call hS1).eqM (N:=(sl 4 1 uv ([false,false,true,false,false].length) (bools [false,false,true,false,false])::sl 26 12 v82 ((givenL++[(undoC 2)]).length) (encs eC (givenL++[(undoC 2)]))::pt s80 (.cells #[.int .u8 4,.int .i64 0,.int .i64 0,.int .u8 0,.int .u8 0,.int .i64 0,.int .i64 0,.int .i64 0,.int .u8 0,.int .u8 0,.int .i64 0,.int .i64 2] 26 (0,0))::MZ1080)) rfl
      clear hS1
      exact O.nil ⟨rfl,(s80,gv11,v82,uv),hf.to trivial,(gt (d:=173) hf rfl rfl),(fun j_ hj_ ha_=>match j_,hj_,ha_ with | 0,hj_,ha_=>rfl | 1,hj_,ha_=>rfl | 2,hj_,ha_=>rfl | 3,hj_,ha_=>rfl | 4,hj_,ha_=>absurd rfl hj_ | 5,hj_,ha_=>absurd ha_ (by decide) | 6,hj_,ha_=>absurd ha_ (by decide) | 7,hj_,ha_=>absurd ha_ (by decide) | 8,hj_,ha_=>absurd ha_ (by decide) | 9,hj_,ha_=>absurd ha_ (by decide) | _+10,_,_=>rfl),hS⟩
  · clear hf hf1 hS
    refine ⟨?_,trivial⟩
    intro k s g w h1_ h2_ hs0 hD a hf
    obtain ⟨s80,gv11,v82,uv⟩:=g
    rcases k with _ | _ | k
    · have hS:St w0 w noX [ordA] (condA (s 2) (pt s80 (.cells #[.int .u8 4,.int .i64 0,.int .i64 0,.int .u8 0,.int .u8 0,.int .i64 0,.int .i64 0,.int .i64 0,.int .u8 0,.int .u8 0,.int .i64 0,.int .i64 2] 26 (0,0)))::MZ1080):=hD; clear hD
      replace hf:Fr a 273 [] ((170,.agg #[.int .u8 4,.int .i64 0,.int .i64 0,.int .u8 0,.int .u8 0,.int .i64 0,.int .i64 0,.int .i64 0,.int .u8 0,.int .u8 0,.int .i64 0,.int .i64 2])::LZ1080):=hf
      refine O.buildC (j:=0) (cs':=#[.int .u8 4,.int .i64 0,.int .i64 0,.int .u8 0,.int .u8 0,.int .i64 0,.int .i64 0,.int .i64 0,.int .u8 0,.int .u8 0,.int .i64 0,.int .i64 2]) (zs:=#[.int .u8 0,.int .i64 0,.int .i64 0,.int .u8 0,.int .u8 0,.int .i64 0,.int .i64 0,.int .i64 0,.int .u8 0,.int .u8 0,.int .i64 0,.int .i64 0]) hf hS rfl hs0 rfl rfl T_elem_22 T_size_26 T_zero_26 rfl rfl (by kernel_rfl) rfl (by kernel_rfl) ?_; clear hf hS a; intro s87 w a hS hf
      exact O.nil ⟨rfl,(s87,gv11,v82,uv),hf.to trivial,(gt (d:=171) hf rfl rfl),(fun j_ hj_ ha_=>match j_,hj_,ha_ with | 0,hj_,ha_=>rfl | 1,hj_,ha_=>rfl | 2,hj_,ha_=>absurd rfl hj_ | 3,hj_,ha_=>absurd ha_ (by decide) | 4,hj_,ha_=>absurd ha_ (by decide) | 5,hj_,ha_=>absurd ha_ (by decide) | 6,hj_,ha_=>absurd ha_ (by decide) | 7,hj_,ha_=>absurd ha_ (by decide) | 8,hj_,ha_=>absurd ha_ (by decide) | 9,hj_,ha_=>absurd ha_ (by decide) | _+10,_,_=>rfl),hS⟩
    · have hS:St w0 w noX [ordA] (sl 26 12 gv11 givenL.length (encs eC givenL)::condA (s 2) (pt s80 (.cells #[.int .u8 4,.int .i64 0,.int .i64 0,.int .u8 0,.int .u8 0,.int .i64 0,.int .i64 0,.int .i64 0,.int .u8 0,.int .u8 0,.int .i64 0,.int .i64 2] 26 (0,0)))::MZ1080):=hD; clear hD
      replace hf:Fr a 273 [] ((170,.agg #[.int .u8 4,.int .i64 0,.int .i64 0,.int .u8 0,.int .u8 0,.int .i64 0,.int .i64 0,.int .i64 0,.int .u8 0,.int .u8 0,.int .i64 0,.int .i64 2])::LZ1080):=hf
      refine O.buildC (j:=1) (cs':=#[.int .u8 4,.int .i64 0,.int .i64 0,.int .u8 0,.int .u8 0,.int .i64 0,.int .i64 0,.int .i64 0,.int .u8 0,.int .u8 0,.int .i64 0,.int .i64 2]) (zs:=#[.int .u8 0,.int .i64 0,.int .i64 0,.int .u8 0,.int .u8 0,.int .i64 0,.int .i64 0,.int .i64 0,.int .u8 0,.int .u8 0,.int .i64 0,.int .i64 0]) hf hS rfl hs0 rfl rfl T_elem_22 T_size_26 T_zero_26 rfl rfl (by kernel_rfl) rfl (by kernel_rfl) ?_; clear hf hS a; intro s88 w a hS hf
      exact O.nil ⟨rfl,(s88,gv11,v82,uv),hf.to trivial,(gt (d:=171) hf rfl rfl),(fun j_ hj_ ha_=>match j_,hj_,ha_ with | 0,hj_,ha_=>rfl | 1,hj_,ha_=>rfl | 2,hj_,ha_=>absurd rfl hj_ | 3,hj_,ha_=>absurd ha_ (by decide) | 4,hj_,ha_=>absurd ha_ (by decide) | 5,hj_,ha_=>absurd ha_ (by decide) | 6,hj_,ha_=>absurd ha_ (by decide) | 7,hj_,ha_=>absurd ha_ (by decide) | 8,hj_,ha_=>absurd ha_ (by decide) | 9,hj_,ha_=>absurd ha_ (by decide) | _+10,_,_=>rfl),hS⟩
    · exact absurd h2_ (by simp)
  clear hf hf1 hS; intro s g a w hs_ hf hD
  obtain ⟨s80,gv11,v82,uv⟩:=g
  have ha_:s 2=true:=hs_ 2 (by simp)
  have hS:St w0 w noX [ordA] (sl 4 1 uv ([false,false,true,false,false].length) (bools [false,false,true,false,false])::sl 26 12 v82 ((givenL++[(undoC 2)]).length) (encs eC (givenL++[(undoC 2)]))::pt s80 (.cells #[.int .u8 4,.int .i64 0,.int .i64 0,.int .u8 0,.int .u8 0,.int .i64 0,.int .i64 0,.int .i64 0,.int .u8 0,.int .u8 0,.int .i64 0,.int .i64 2] 26 (0,0))::MZ1080):=hD; clear hD
  replace hf:Fr a 273 [] ((169,gv11)::(170,.agg #[.int .u8 4,.int .i64 0,.int .i64 0,.int .u8 0,.int .u8 0,.int .i64 0,.int .i64 0,.int .i64 0,.int .u8 0,.int .u8 0,.int .i64 0,.int .i64 2])::(171,.slice (some ⟨s80,0,none⟩) 1 1)::(172,v82)::(173,.tuple #[uv,.int .i64 0])::(168,.tuple #[uv,.int .i64 0])::(174,uv)::(175,.int .i64 0)::(17,uv)::(18,.int .i64 0)::LZ1080):=hf
  refine k_seq ?_
  replace hf:Fr a 273 [] [(0,.bool false),(1,.pointer (some ⟨b_n2,0,none⟩)),(3,.pointer (some ⟨b_plus4,0,none⟩)),(5,.bool true),(6,.bool true),(8,.int .i64 4),(10,.int .i64 8),(12,.int .i64 6),(14,.int .i64 8),(15,.pointer (some ⟨b_o78,0,none⟩)),(16,.int .i64 0),(17,uv),(18,.int .i64 0)]:=hf.to ⟨rfl,rfl,rfl,rfl,rfl,rfl,rfl,rfl,rfl,rfl,rfl,rfl,rfl,trivial⟩
  refine W.seq ?_
  replace hf:Fr a 273 [] [(0,.bool false),(1,.pointer (some ⟨b_n2,0,none⟩)),(3,.pointer (some ⟨b_plus4,0,none⟩)),(5,.bool true),(6,.bool true),(8,.int .i64 4),(10,.int .i64 8),(12,.int .i64 6),(14,.int .i64 8),(15,.pointer (some ⟨b_o78,0,none⟩)),(16,.int .i64 0),(17,uv),(18,.int .i64 0)]:=hf.to ⟨rfl,rfl,rfl,rfl,rfl,rfl,rfl,rfl,rfl,rfl,rfl,rfl,rfl,trivial⟩
  let LZ1231:List (Nat × Value):=[(0,.bool false),(1,.pointer (some ⟨b_n2,0,none⟩)),(3,.pointer (some ⟨b_plus4,0,none⟩)),(5,.bool true),(6,.bool true),(8,.int .i64 4),(10,.int .i64 8),(12,.int .i64 6),(14,.int .i64 8),(15,.pointer (some ⟨b_o78,0,none⟩)),(16,.int .i64 0),(17,uv),(18,.int .i64 0)]
  let MZ1231:List Asr:=(sl 4 1 uv ([false,false,true,false,false].length) (bools [false,false,true,false,false])::sl 26 12 v82 ((givenL++[(undoC 2)]).length) (encs eC (givenL++[(undoC 2)]))::pt s80 (.cells #[.int .u8 4,.int .i64 0,.int .i64 0,.int .u8 0,.int .u8 0,.int .i64 0,.int .i64 0,.int .i64 0,.int .u8 0,.int .u8 0,.int .i64 0,.int .i64 2] 26 (0,0))::MZ1080)
  refine W.drawC (γ:=(Value) × (Value)) (L0:=LZ1231) (L1:=[]) (default,default) [0,2] [] [1,3,4,5,6,7] (fun i_=>match i_ with | 0=>[] | 1=>[] | 2=>[0,1] | 3=>[2] | 4=>[3] | 5=>[3] | 6=>[0,1,2,3,4] | 7=>[0,1,2,3,4,5,6] | _=>[]) (fun i_=>match i_ with | 0=>[] | 1=>[] | 2=>[0] | 3=>[0,2] | 4=>[0,2] | 5=>[0,2] | 6=>[0,2] | 7=>[0,2] | _=>[]) (fun i_=>match i_ with | 0=>[2] | 1=>[2] | 2=>[] | 3=>[] | 4=>[] | 5=>[] | 6=>[] | 7=>[] | _=>[]) (fun _=>[]) (fun i_=>match i_ with | 0=>[2,3,4,5,6,7] | 1=>[] | 2=>[3,4,5,6,7] | 3=>[] | 4=>[] | 5=>[] | 6=>[] | 7=>[] | _=>[]) (fun _=>[]) (fun i_=>match i_ with | 0=>0 | 1=>0 | 2=>1 | 3=>2 | 4=>2 | 5=>2 | 6=>2 | 7=>2 | _=>0) (fun i_=>match i_ with | 0=>1 | 1=>1 | 2=>2 | 3=>2 | 4=>2 | 5=>2 | 6=>2 | 7=>2 | _=>0) (fun (g:(Value) × (Value)) j_=>match g,j_ with | ⟨gv12,apv⟩,0=>gv12 | ⟨gv12,apv⟩,1=>.agg #[.int .u8 1,.int .i64 0,.int .i64 2026,.int .u8 87,.int .u8 67,.int .i64 0,.int .i64 0,.int .i64 0,.int .u8 0,.int .u8 0,.int .i64 0,.int .i64 0] | ⟨gv12,apv⟩,2=>.tuple #[apv,.int .i64 0] | ⟨gv12,apv⟩,3=>.tuple #[apv,.int .i64 0] | ⟨gv12,apv⟩,4=>apv | ⟨gv12,apv⟩,5=>.int .i64 0 | ⟨gv12,apv⟩,6=>apv | ⟨gv12,apv⟩,7=>.int .i64 0 | _,_=>undef) (fun k_ (_:Nat→Bool) (g:(Value) × (Value)) w=>match k_,g with | 0,⟨gv12,apv⟩=>St w0 w noX [ordA] MZ1231 | 1,⟨gv12,apv⟩=>St w0 w noX [ordA] (sl 26 12 gv12 givenL.length (encs eC givenL)::MZ1231) | _,⟨gv12,apv⟩=>St w0 w noX [ordA] (sl 26 12 apv ((givenL++[plusC]).length) (encs eC (givenL++[plusC]))::sl 26 12 gv12 givenL.length (encs eC givenL)::MZ1231)) P_mixed (by kernel_rfl) (by kernel_rfl) (by kernel_rfl) hf (hf.to trivial) hS.drew ?_ ?_ trivial ?_
  · clear hf hS
    refine ⟨?_,?_,?_,?_,?_,?_,trivial⟩
    · intro k_ s_ g w hlo hhi _ hD a hf
      obtain ⟨gv12,apv⟩:=g
      rcases k_ with _ | _ | k_
      · have hS:St w0 w noX [ordA] MZ1231:=hD; clear hD
        replace hf:Fr a 273 [] LZ1231:=hf
        refine O.val hf rfl rfl rfl (RunV.loadN (cs':=#[.int .u8 1,.int .i64 0,.int .i64 2026,.int .u8 87,.int .u8 67,.int .i64 0,.int .i64 0,.int .i64 0,.int .u8 0,.int .u8 0,.int .i64 0,.int .i64 0]) T_agg_26 T_size_26 rfl (hS.ptAt (i:=14) rfl) (Nat.le_of_ble_eq_true rfl) rfl) ?_
        clear hf a; intro a hf
        exact nD hf ⟨gt (d:=178) hf rfl rfl,hS⟩
      · have hS:St w0 w noX [ordA] (sl 26 12 gv12 givenL.length (encs eC givenL)::MZ1231):=hD; clear hD
        replace hf:Fr a 273 [] LZ1231:=hf
        refine O.val hf rfl rfl rfl (RunV.loadN (cs':=#[.int .u8 1,.int .i64 0,.int .i64 2026,.int .u8 87,.int .u8 67,.int .i64 0,.int .i64 0,.int .i64 0,.int .u8 0,.int .u8 0,.int .i64 0,.int .i64 0]) T_agg_26 T_size_26 rfl (hS.ptAt (i:=15) rfl) (Nat.le_of_ble_eq_true rfl) rfl) ?_
        clear hf a; intro a hf
        exact nD hf ⟨gt (d:=178) hf rfl rfl,hS⟩
      · have hhi:k_+2≤1:=hhi; omega
    · intro k_ s_ g w hlo hhi _ hD a hf
      obtain ⟨gv12,apv⟩:=g
      obtain rfl:k_=2:=Nat.le_antisymm hhi hlo
      have hS:St w0 w noX [ordA] (sl 26 12 apv ((givenL++[plusC]).length) (encs eC (givenL++[plusC]))::sl 26 12 gv12 givenL.length (encs eC givenL)::MZ1231):=hD; clear hD
      replace hf:Fr a 273 [] ((179,.tuple #[apv,.int .i64 0])::LZ1231):=hf
      refine O.val hf rfl rfl rfl (RunV.move rfl) ?_
      clear hf a; intro a hf
      exact nD hf ⟨gt (d:=176) hf rfl rfl,hS⟩
    · intro k_ s_ g w hlo hhi _ hD a hf
      obtain ⟨gv12,apv⟩:=g
      obtain rfl:k_=2:=Nat.le_antisymm hhi hlo
      have hS:St w0 w noX [ordA] (sl 26 12 apv ((givenL++[plusC]).length) (encs eC (givenL++[plusC]))::sl 26 12 gv12 givenL.length (encs eC givenL)::MZ1231):=hD; clear hD
      replace hf:Fr a 273 [] ((176,.tuple #[apv,.int .i64 0])::LZ1231):=hf
      refine O.val hf rfl rfl rfl (RunV.extract rfl rfl) ?_
      clear hf a; intro a hf
      exact nD hf ⟨gt (d:=180) hf rfl rfl,hS⟩
    · intro k_ s_ g w hlo hhi _ hD a hf
      obtain ⟨gv12,apv⟩:=g
      obtain rfl:k_=2:=Nat.le_antisymm hhi hlo
      have hS:St w0 w noX [ordA] (sl 26 12 apv ((givenL++[plusC]).length) (encs eC (givenL++[plusC]))::sl 26 12 gv12 givenL.length (encs eC givenL)::MZ1231):=hD; clear hD
      replace hf:Fr a 273 [] ((176,.tuple #[apv,.int .i64 0])::LZ1231):=hf
      refine O.val hf rfl rfl rfl (RunV.extract rfl rfl) ?_
      clear hf a; intro a hf
      exact nD hf ⟨gt (d:=181) hf rfl rfl,hS⟩
    · intro k_ s_ g w hlo hhi _ hD a hf
      obtain ⟨gv12,apv⟩:=g
      obtain rfl:k_=2:=Nat.le_antisymm hhi hlo
      have hS:St w0 w noX [ordA] (sl 26 12 apv ((givenL++[plusC]).length) (encs eC (givenL++[plusC]))::sl 26 12 gv12 givenL.length (encs eC givenL)::MZ1231):=hD; clear hD
      replace hf:Fr a 273 [] ((177,gv12)::(178,.agg #[.int .u8 1,.int .i64 0,.int .i64 2026,.int .u8 87,.int .u8 67,.int .i64 0,.int .i64 0,.int .i64 0,.int .u8 0,.int .u8 0,.int .i64 0,.int .i64 0])::(179,.tuple #[apv,.int .i64 0])::(176,.tuple #[apv,.int .i64 0])::(180,apv)::LZ1231):=hf
      refine O.val hf rfl rfl rfl (RunV.assign rfl) ?_
      clear hf a; intro a hf
      exact nD hf ⟨gt (d:=19) hf rfl rfl,hS⟩
    · intro k_ s_ g w hlo hhi _ hD a hf
      obtain ⟨gv12,apv⟩:=g
      obtain rfl:k_=2:=Nat.le_antisymm hhi hlo
      have hS:St w0 w noX [ordA] (sl 26 12 apv ((givenL++[plusC]).length) (encs eC (givenL++[plusC]))::sl 26 12 gv12 givenL.length (encs eC givenL)::MZ1231):=hD; clear hD
      replace hf:Fr a 273 [] ((177,gv12)::(178,.agg #[.int .u8 1,.int .i64 0,.int .i64 2026,.int .u8 87,.int .u8 67,.int .i64 0,.int .i64 0,.int .i64 0,.int .u8 0,.int .u8 0,.int .i64 0,.int .i64 0])::(179,.tuple #[apv,.int .i64 0])::(176,.tuple #[apv,.int .i64 0])::(180,apv)::(181,.int .i64 0)::(19,apv)::LZ1231):=hf
      refine O.val hf rfl rfl rfl (RunV.assign rfl) ?_
      clear hf a; intro a hf
      exact nD hf ⟨gt (d:=20) hf rfl rfl,hS⟩
  · clear hf hS
    refine ⟨?_,?_,trivial⟩
    · intro s_ g w _ hD a hf
      obtain ⟨gv12,apv⟩:=g
      have hS:St w0 w noX [ordA] MZ1231:=hD; clear hD
      replace hf:Fr a 273 [] LZ1231:=hf
      refine O.callR hf rfl rfl rfl (RunE.call (av:=#[]) C_ok_30 rfl rfl rfl) (given_spec _) ?_
      clear hf a
      rintro gv12 w91 hS1 a hf
      replace hf:Fr a _ _ ((177,gv12)::_):=hf
      replace hS:=(hS.call hS1).eqM (N:=(sl 26 12 gv12 givenL.length (encs eC givenL)::MZ1231)) rfl
      clear hS1
      exact O.nil ⟨rfl,(gv12,apv),hf.to trivial,(gt (d:=177) hf rfl rfl),(fun j_ hj_ ha_=>match j_,hj_,ha_ with | 0,hj_,ha_=>absurd rfl hj_ | 1,hj_,ha_=>rfl | 2,hj_,ha_=>absurd ha_ (by decide) | 3,hj_,ha_=>absurd ha_ (by decide) | 4,hj_,ha_=>absurd ha_ (by decide) | 5,hj_,ha_=>absurd ha_ (by decide) | 6,hj_,ha_=>absurd ha_ (by decide) | 7,hj_,ha_=>absurd ha_ (by decide) | _+8,_,_=>rfl),hS⟩
    · intro s_ g w _ hD a hf
      obtain ⟨gv12,apv⟩:=g
      have hS:St w0 w noX [ordA] (sl 26 12 gv12 givenL.length (encs eC givenL)::MZ1231):=hD; clear hD
      replace hf:Fr a 273 [] ((177,gv12)::(178,.agg #[.int .u8 1,.int .i64 0,.int .i64 2026,.int .u8 87,.int .u8 67,.int .i64 0,.int .i64 0,.int .i64 0,.int .u8 0,.int .u8 0,.int .i64 0,.int .i64 0])::LZ1231):=hf
      refine O.callR hf rfl rfl rfl (RunE.call (av:=#[gv12,cV plusC]) C_ok_11 rfl rfl rfl) (apply_given gv12 _ (hS.bptO (i:=0) rfl) (hS.slr (j:=0) rfl) (slOK.fit (hS.slAt (j:=0) rfl))) ?_
      clear hf a
      rintro apv w92 hS1 a hf
      replace hf:Fr a _ _ ((179,.tuple #[apv,.int .i64 0])::_):=hf
      replace hS:=(hS.call hS1).eqM (N:=(sl 26 12 apv ((givenL++[plusC]).length) (encs eC (givenL++[plusC]))::sl 26 12 gv12 givenL.length (encs eC givenL)::MZ1231)) rfl
      clear hS1
      exact O.nil ⟨rfl,(gv12,apv),hf.to trivial,(gt (d:=179) hf rfl rfl),(fun j_ hj_ ha_=>match j_,hj_,ha_ with | 0,hj_,ha_=>rfl | 1,hj_,ha_=>rfl | 2,hj_,ha_=>absurd rfl hj_ | 3,hj_,ha_=>absurd ha_ (by decide) | 4,hj_,ha_=>absurd ha_ (by decide) | 5,hj_,ha_=>absurd ha_ (by decide) | 6,hj_,ha_=>absurd ha_ (by decide) | 7,hj_,ha_=>absurd ha_ (by decide) | _+8,_,_=>rfl),hS⟩
  clear hf hS; intro s_ g a w _ hf hD
  obtain ⟨gv12,apv⟩:=g
  have hS:St w0 w noX [ordA] (sl 26 12 apv ((givenL++[plusC]).length) (encs eC (givenL++[plusC]))::sl 26 12 gv12 givenL.length (encs eC givenL)::MZ1231):=hD; clear hD
  replace hf:Fr a 273 [] ((177,gv12)::(178,.agg #[.int .u8 1,.int .i64 0,.int .i64 2026,.int .u8 87,.int .u8 67,.int .i64 0,.int .i64 0,.int .i64 0,.int .u8 0,.int .u8 0,.int .i64 0,.int .i64 0])::(179,.tuple #[apv,.int .i64 0])::(176,.tuple #[apv,.int .i64 0])::(180,apv)::(181,.int .i64 0)::(19,apv)::(20,.int .i64 0)::LZ1231):=hf
  refine k_seq ?_
  replace hf:Fr a 273 [] [(0,.bool false),(1,.pointer (some ⟨b_n2,0,none⟩)),(5,.bool true),(6,.bool true),(8,.int .i64 4),(10,.int .i64 8),(12,.int .i64 6),(14,.int .i64 8),(15,.pointer (some ⟨b_o78,0,none⟩)),(16,.int .i64 0),(17,uv),(18,.int .i64 0),(19,apv),(20,.int .i64 0)]:=hf.to ⟨rfl,rfl,rfl,rfl,rfl,rfl,rfl,rfl,rfl,rfl,rfl,rfl,rfl,rfl,trivial⟩
  refine W.seq ?_
  refine W.regionL (l:=[0,1,2,3,4,5,6,7]) rfl ?_
  refine O.callR hf rfl rfl rfl (RunE.call (av:=#[]) C_ok_30 rfl rfl rfl) (given_spec _) ?_
  clear hf a
  rintro gv13 w93 hS1 a hf
  replace hf:Fr a _ _ ((183,gv13)::_):=hf
  replace hS:=(hS.call hS1).eqM (N:=(sl 26 12 gv13 givenL.length (encs eC givenL)::sl 26 12 apv ((givenL++[plusC]).length) (encs eC (givenL++[plusC]))::sl 26 12 gv12 givenL.length (encs eC givenL)::MZ1231)) rfl
  clear hS1
  refine O.val hf rfl rfl rfl (RunV.buildS (cs':=#[.int .u8 0,.int .i64 0,.int .i64 0,.int .u8 0,.int .u8 0,.int .i64 0,.int .i64 0,.int .i64 0,.int .u8 0,.int .u8 0,.int .i64 0,.int .i64 0]) T_places_26 T_zero_26 rfl (by kernel_rfl)) ?_
  clear hf a; intro a hf
  refine O.callR hf rfl rfl rfl (RunE.call (av:=#[gv13,cV default]) C_ok_11 rfl rfl rfl) (applyE gv13 givenL default _ (hS.bptO (i:=0) rfl) (hS.slr (j:=0) rfl) (slOK.fit (hS.slAt (j:=0) rfl)) (by decide) 8 nm17) ?_
  clear hf a
  rintro _ w94 hS1 a hf
  replace hf:Fr a _ _ ((185,.tuple #[.slice none 0 0,.int .i64 8])::_):=hf
  replace hS:=(hS.call hS1).eqM (N:=(sl 26 12 gv13 givenL.length (encs eC givenL)::sl 26 12 apv ((givenL++[plusC]).length) (encs eC (givenL++[plusC]))::sl 26 12 gv12 givenL.length (encs eC givenL)::MZ1231)) rfl
  clear hS1
  refine O.val hf rfl rfl rfl (RunV.move rfl) ?_
  clear hf a; intro a hf
  refine O.val hf rfl rfl rfl (RunV.extract rfl rfl) ?_
  clear hf a; intro a hf
  refine O.val hf rfl rfl rfl (RunV.extract rfl rfl) ?_
  clear hf a; intro a hf
  refine O.val hf rfl rfl rfl (RunV.assign rfl) ?_
  clear hf a; intro a hf
  refine O.val hf rfl rfl rfl (RunV.assign rfl) ?_
  clear hf a; intro a hf
  refine O.nil ?_
  refine k_seq ?_
  replace hf:Fr a 273 [] [(0,.bool false),(1,.pointer (some ⟨b_n2,0,none⟩)),(5,.bool true),(6,.bool true),(8,.int .i64 4),(10,.int .i64 8),(12,.int .i64 6),(14,.int .i64 8),(15,.pointer (some ⟨b_o78,0,none⟩)),(16,.int .i64 0),(17,uv),(18,.int .i64 0),(19,apv),(20,.int .i64 0),(22,.int .i64 8)]:=hf.to ⟨rfl,rfl,rfl,rfl,rfl,rfl,rfl,rfl,rfl,rfl,rfl,rfl,rfl,rfl,rfl,trivial⟩
  refine W.seq ?_
  replace hf:Fr a 273 [] [(0,.bool false),(1,.pointer (some ⟨b_n2,0,none⟩)),(5,.bool true),(6,.bool true),(8,.int .i64 4),(10,.int .i64 8),(12,.int .i64 6),(14,.int .i64 8),(15,.pointer (some ⟨b_o78,0,none⟩)),(16,.int .i64 0),(17,uv),(18,.int .i64 0),(19,apv),(20,.int .i64 0),(22,.int .i64 8)]:=hf.to ⟨rfl,rfl,rfl,rfl,rfl,rfl,rfl,rfl,rfl,rfl,rfl,rfl,rfl,rfl,rfl,trivial⟩
  let LZ1351:List (Nat × Value):=[(0,.bool false),(1,.pointer (some ⟨b_n2,0,none⟩)),(5,.bool true),(6,.bool true),(8,.int .i64 4),(10,.int .i64 8),(12,.int .i64 6),(14,.int .i64 8),(15,.pointer (some ⟨b_o78,0,none⟩)),(16,.int .i64 0),(17,uv),(18,.int .i64 0),(19,apv),(20,.int .i64 0),(22,.int .i64 8)]
  let MZ1351:List Asr:=(sl 26 12 gv13 givenL.length (encs eC givenL)::sl 26 12 apv ((givenL++[plusC]).length) (encs eC (givenL++[plusC]))::sl 26 12 gv12 givenL.length (encs eC givenL)::MZ1231)
  refine W.drawC (γ:=(Value) × (Nat) × (Value)) (L0:=LZ1351) (L1:=[]) (default,0,default) [0,5,6] [] [1,2,3,4,7] (fun i_=>match i_ with | 0=>[] | 1=>[0] | 2=>[] | 3=>[0] | 4=>[3] | 5=>[2,4] | 6=>[1,3,5] | 7=>[0,1,2,3,4,5,6] | _=>[]) (fun i_=>match i_ with | 0=>[] | 1=>[0] | 2=>[] | 3=>[0] | 4=>[0] | 5=>[0] | 6=>[0,5] | 7=>[0,5,6] | _=>[]) (fun i_=>match i_ with | 0=>[5,6] | 1=>[6] | 2=>[5,6] | 3=>[5,6] | 4=>[5,6] | 5=>[6] | 6=>[] | 7=>[] | _=>[]) (fun _=>[]) (fun i_=>match i_ with | 0=>[1,3,4,5,6,7] | 1=>[] | 2=>[] | 3=>[] | 4=>[] | 5=>[6,7] | 6=>[7] | 7=>[] | _=>[]) (fun _=>[]) (fun i_=>match i_ with | 0=>0 | 1=>1 | 2=>0 | 3=>1 | 4=>1 | 5=>1 | 6=>2 | 7=>3 | _=>0) (fun i_=>match i_ with | 0=>1 | 1=>2 | 2=>1 | 3=>1 | 4=>1 | 5=>2 | 6=>3 | 7=>3 | _=>0) (fun (g:(Value) × (Nat) × (Value)) j_=>match g,j_ with | ⟨gv14,s97,v98⟩,0=>gv14 | ⟨gv14,s97,v98⟩,1=>(vsub 12 gv14 0 2) | ⟨gv14,s97,v98⟩,2=>.agg #[.int .u8 4,.int .i64 0,.int .i64 0,.int .u8 0,.int .u8 0,.int .i64 0,.int .i64 0,.int .i64 0,.int .u8 0,.int .u8 0,.int .i64 0,.int .i64 0] | ⟨gv14,s97,v98⟩,3=>.agg #[.int .i64 0,.int .i64 2026,.int .u8 87,.int .u8 65,.int .i64 0] | ⟨gv14,s97,v98⟩,4=>.agg #[.int .u8 1,.int .i64 0,.int .i64 2026,.int .u8 87,.int .u8 65,.int .i64 0,.int .i64 0,.int .i64 0,.int .u8 0,.int .u8 0,.int .i64 0,.int .i64 0] | ⟨gv14,s97,v98⟩,5=>.slice (some ⟨s97,0,none⟩) 2 2 | ⟨gv14,s97,v98⟩,6=>v98 | ⟨gv14,s97,v98⟩,7=>v98 | _,_=>undef) (fun k_ (_:Nat→Bool) (g:(Value) × (Nat) × (Value)) w=>match k_,g with | 0,⟨gv14,s97,v98⟩=>St w0 w noX [ordA] MZ1351 | 1,⟨gv14,s97,v98⟩=>St w0 w noX [ordA] (sl 26 12 gv14 givenL.length (encs eC givenL)::MZ1351) | 2,⟨gv14,s97,v98⟩=>St w0 w noX [ordA] (pt s97 (.cells #[.int .u8 4,.int .i64 0,.int .i64 0,.int .u8 0,.int .u8 0,.int .i64 0,.int .i64 0,.int .i64 0,.int .u8 0,.int .u8 0,.int .i64 0,.int .i64 0,.int .u8 1,.int .i64 0,.int .i64 2026,.int .u8 87,.int .u8 65,.int .i64 0,.int .i64 0,.int .i64 0,.int .u8 0,.int .u8 0,.int .i64 0,.int .i64 0] 26 (0,0))::sl 26 12 gv14 givenL.length (encs eC givenL)::MZ1351) | _,⟨gv14,s97,v98⟩=>St w0 w noX [ordA] (pt s97 (.cells #[.int .u8 4,.int .i64 0,.int .i64 0,.int .u8 0,.int .u8 0,.int .i64 0,.int .i64 0,.int .i64 0,.int .u8 0,.int .u8 0,.int .i64 0,.int .i64 0,.int .u8 1,.int .i64 0,.int .i64 2026,.int .u8 87,.int .u8 65,.int .i64 0,.int .i64 0,.int .i64 0,.int .u8 0,.int .u8 0,.int .i64 0,.int .i64 0] 26 (0,0))::sl 26 12 v98 firstL.length (encs eC firstL)::MZ1351)) P_mixed (by kernel_rfl) (by kernel_rfl) (by kernel_rfl) hf (hf.to trivial) hS.drew ?_ ?_ trivial ?_
  · clear hf hS
    refine ⟨?_,?_,?_,?_,?_,trivial⟩
    · intro k_ s_ g w hlo hhi _ hD a hf
      obtain ⟨gv14,s97,v98⟩:=g
      rcases k_ with _ | _ | _ | k_
      · exact absurd hlo (by decide)
      · have hS:St w0 w noX [ordA] (sl 26 12 gv14 givenL.length (encs eC givenL)::MZ1351):=hD; clear hD
        replace hf:Fr a 273 [] ((188,gv14)::LZ1351):=hf
        refine O.val (v:=(vsub 12 gv14 0 2)) hf rfl rfl rfl (RunV.sliceH T_elem_22 T_size_26 rfl rfl (enc:=eC) (l:=givenL) ⟨hS.slr (j:=0) rfl,slOK.fit (hS.slAt (j:=0) rfl)⟩ ⟨by decide,by decide,by decide⟩) ?_
        clear hf a; intro a hf
        exact nD hf ⟨gt (d:=189) hf rfl rfl,hS⟩
      · have hS:St w0 w noX [ordA] (pt s97 (.cells #[.int .u8 4,.int .i64 0,.int .i64 0,.int .u8 0,.int .u8 0,.int .i64 0,.int .i64 0,.int .i64 0,.int .u8 0,.int .u8 0,.int .i64 0,.int .i64 0,.int .u8 1,.int .i64 0,.int .i64 2026,.int .u8 87,.int .u8 65,.int .i64 0,.int .i64 0,.int .i64 0,.int .u8 0,.int .u8 0,.int .i64 0,.int .i64 0] 26 (0,0))::sl 26 12 gv14 givenL.length (encs eC givenL)::MZ1351):=hD; clear hD
        replace hf:Fr a 273 [] ((188,gv14)::LZ1351):=hf
        refine O.val (v:=(vsub 12 gv14 0 2)) hf rfl rfl rfl (RunV.sliceH T_elem_22 T_size_26 rfl rfl (enc:=eC) (l:=givenL) ⟨hS.slr (j:=1) rfl,slOK.fit (hS.slAt (j:=1) rfl)⟩ ⟨by decide,by decide,by decide⟩) ?_
        clear hf a; intro a hf
        exact nD hf ⟨gt (d:=189) hf rfl rfl,hS⟩
      · have hhi:k_+3≤2:=hhi; omega
    · intro k_ s_ g w hlo hhi _ hD a hf
      obtain ⟨gv14,s97,v98⟩:=g
      rcases k_ with _ | _ | _ | k_
      · have hS:St w0 w noX [ordA] MZ1351:=hD; clear hD
        replace hf:Fr a 273 [] LZ1351:=hf
        refine O.val hf rfl rfl rfl (RunV.buildS (cs':=#[.int .u8 4,.int .i64 0,.int .i64 0,.int .u8 0,.int .u8 0,.int .i64 0,.int .i64 0,.int .i64 0,.int .u8 0,.int .u8 0,.int .i64 0,.int .i64 0]) T_places_26 T_zero_26 rfl (by kernel_rfl)) ?_
        clear hf a; intro a hf
        exact nD hf ⟨gt (d:=190) hf rfl rfl,hS⟩
      · have hS:St w0 w noX [ordA] (sl 26 12 gv14 givenL.length (encs eC givenL)::MZ1351):=hD; clear hD
        replace hf:Fr a 273 [] LZ1351:=hf
        refine O.val hf rfl rfl rfl (RunV.buildS (cs':=#[.int .u8 4,.int .i64 0,.int .i64 0,.int .u8 0,.int .u8 0,.int .i64 0,.int .i64 0,.int .i64 0,.int .u8 0,.int .u8 0,.int .i64 0,.int .i64 0]) T_places_26 T_zero_26 rfl (by kernel_rfl)) ?_
        clear hf a; intro a hf
        exact nD hf ⟨gt (d:=190) hf rfl rfl,hS⟩
      · exact absurd hhi (by decide)
      · have hhi:k_+3≤1:=hhi; omega
    · intro k_ s_ g w hlo hhi _ hD a hf
      obtain ⟨gv14,s97,v98⟩:=g
      obtain rfl:k_=1:=Nat.le_antisymm hhi hlo
      have hS:St w0 w noX [ordA] (sl 26 12 gv14 givenL.length (encs eC givenL)::MZ1351):=hD; clear hD
      replace hf:Fr a 273 [] ((188,gv14)::LZ1351):=hf
      refine O.callR hf rfl rfl rfl (RunE.call (av:=#[.int .u8 65]) C_ok_28 rfl rfl rfl) (named_spec 65 _) ?_
      clear hf a
      rintro _ w99 hS1 a hf
      replace hf:Fr a _ _ ((191,.agg #[.int .i64 0,.int .i64 2026,.int .u8 87,.int .u8 65,.int .i64 0])::_):=hf
      replace hS:=(hS.call hS1).eqM (N:=(sl 26 12 gv14 givenL.length (encs eC givenL)::MZ1351)) rfl
      clear hS1
      exact nD hf ⟨gt (d:=191) hf rfl rfl,hS⟩
    · intro k_ s_ g w hlo hhi _ hD a hf
      obtain ⟨gv14,s97,v98⟩:=g
      obtain rfl:k_=1:=Nat.le_antisymm hhi hlo
      have hS:St w0 w noX [ordA] (sl 26 12 gv14 givenL.length (encs eC givenL)::MZ1351):=hD; clear hD
      replace hf:Fr a 273 [] ((191,.agg #[.int .i64 0,.int .i64 2026,.int .u8 87,.int .u8 65,.int .i64 0])::LZ1351):=hf
      refine O.val hf rfl rfl rfl (RunV.buildS (cs':=#[.int .u8 1,.int .i64 0,.int .i64 2026,.int .u8 87,.int .u8 65,.int .i64 0,.int .i64 0,.int .i64 0,.int .u8 0,.int .u8 0,.int .i64 0,.int .i64 0]) T_places_26 T_zero_26 rfl (by kernel_rfl)) ?_
      clear hf a; intro a hf
      exact nD hf ⟨gt (d:=192) hf rfl rfl,hS⟩
    · intro k_ s_ g w hlo hhi _ hD a hf
      obtain ⟨gv14,s97,v98⟩:=g
      obtain rfl:k_=3:=Nat.le_antisymm hhi hlo
      have hS:St w0 w noX [ordA] (pt s97 (.cells #[.int .u8 4,.int .i64 0,.int .i64 0,.int .u8 0,.int .u8 0,.int .i64 0,.int .i64 0,.int .i64 0,.int .u8 0,.int .u8 0,.int .i64 0,.int .i64 0,.int .u8 1,.int .i64 0,.int .i64 2026,.int .u8 87,.int .u8 65,.int .i64 0,.int .i64 0,.int .i64 0,.int .u8 0,.int .u8 0,.int .i64 0,.int .i64 0] 26 (0,0))::sl 26 12 v98 firstL.length (encs eC firstL)::MZ1351):=hD; clear hD
      replace hf:Fr a 273 [] ((188,gv14)::(189,(vsub 12 gv14 0 2))::(190,.agg #[.int .u8 4,.int .i64 0,.int .i64 0,.int .u8 0,.int .u8 0,.int .i64 0,.int .i64 0,.int .i64 0,.int .u8 0,.int .u8 0,.int .i64 0,.int .i64 0])::(191,.agg #[.int .i64 0,.int .i64 2026,.int .u8 87,.int .u8 65,.int .i64 0])::(192,.agg #[.int .u8 1,.int .i64 0,.int .i64 2026,.int .u8 87,.int .u8 65,.int .i64 0,.int .i64 0,.int .i64 0,.int .u8 0,.int .u8 0,.int .i64 0,.int .i64 0])::(193,.slice (some ⟨s97,0,none⟩) 2 2)::(194,v98)::LZ1351):=hf
      refine O.val hf rfl rfl rfl (RunV.assign rfl) ?_
      clear hf a; intro a hf
      exact nD hf ⟨gt (d:=23) hf rfl rfl,hS⟩
  · clear hf hS
    refine ⟨?_,?_,?_,trivial⟩
    · intro s_ g w _ hD a hf
      obtain ⟨gv14,s97,v98⟩:=g
      have hS:St w0 w noX [ordA] MZ1351:=hD; clear hD
      replace hf:Fr a 273 [] LZ1351:=hf
      refine O.callR hf rfl rfl rfl (RunE.call (av:=#[]) C_ok_30 rfl rfl rfl) (given_spec _) ?_
      clear hf a
      rintro gv14 w100 hS1 a hf
      replace hf:Fr a _ _ ((188,gv14)::_):=hf
      replace hS:=(hS.call hS1).eqM (N:=(sl 26 12 gv14 givenL.length (encs eC givenL)::MZ1351)) rfl
      clear hS1
      exact O.nil ⟨rfl,(gv14,s97,v98),hf.to trivial,(gt (d:=188) hf rfl rfl),(fun j_ hj_ ha_=>match j_,hj_,ha_ with | 0,hj_,ha_=>absurd rfl hj_ | 1,hj_,ha_=>absurd ha_ (by decide) | 2,hj_,ha_=>rfl | 3,hj_,ha_=>absurd ha_ (by decide) | 4,hj_,ha_=>absurd ha_ (by decide) | 5,hj_,ha_=>absurd ha_ (by decide) | 6,hj_,ha_=>absurd ha_ (by decide) | 7,hj_,ha_=>absurd ha_ (by decide) | _+8,_,_=>rfl),hS⟩
    · intro s_ g w _ hD a hf
      obtain ⟨gv14,s97,v98⟩:=g
      have hS:St w0 w noX [ordA] (sl 26 12 gv14 givenL.length (encs eC givenL)::MZ1351):=hD; clear hD
      replace hf:Fr a 273 [] ((190,.agg #[.int .u8 4,.int .i64 0,.int .i64 0,.int .u8 0,.int .u8 0,.int .i64 0,.int .i64 0,.int .i64 0,.int .u8 0,.int .u8 0,.int .i64 0,.int .i64 0])::(192,.agg #[.int .u8 1,.int .i64 0,.int .i64 2026,.int .u8 87,.int .u8 65,.int .i64 0,.int .i64 0,.int .i64 0,.int .u8 0,.int .u8 0,.int .i64 0,.int .i64 0])::LZ1351):=hf
      refine O.buildSlice (cs':=#[.int .u8 4,.int .i64 0,.int .i64 0,.int .u8 0,.int .u8 0,.int .i64 0,.int .i64 0,.int .i64 0,.int .u8 0,.int .u8 0,.int .i64 0,.int .i64 0,.int .u8 1,.int .i64 0,.int .i64 2026,.int .u8 87,.int .u8 65,.int .i64 0,.int .i64 0,.int .i64 0,.int .u8 0,.int .u8 0,.int .i64 0,.int .i64 0]) (zs:=#[.int .u8 0,.int .i64 0,.int .i64 0,.int .u8 0,.int .u8 0,.int .i64 0,.int .i64 0,.int .i64 0,.int .u8 0,.int .u8 0,.int .i64 0,.int .i64 0,.int .u8 0,.int .i64 0,.int .i64 0,.int .u8 0,.int .u8 0,.int .i64 0,.int .i64 0,.int .i64 0,.int .u8 0,.int .u8 0,.int .i64 0,.int .i64 0]) hf hS rfl rfl T_elem_22 T_size_26 T_zero_26 rfl rfl (by kernel_rfl) rfl (by kernel_rfl) ?_
      clear hf hS a; intro s101 w a hbb_s101 hS hf
      exact O.nil ⟨rfl,(gv14,s101,v98),hf.to trivial,(gt (d:=193) hf rfl rfl),(fun j_ hj_ ha_=>match j_,hj_,ha_ with | 0,hj_,ha_=>rfl | 1,hj_,ha_=>rfl | 2,hj_,ha_=>rfl | 3,hj_,ha_=>rfl | 4,hj_,ha_=>rfl | 5,hj_,ha_=>absurd rfl hj_ | 6,hj_,ha_=>absurd ha_ (by decide) | 7,hj_,ha_=>absurd ha_ (by decide) | _+8,_,_=>rfl),hS⟩
    · intro s_ g w _ hD a hf
      obtain ⟨gv14,s97,v98⟩:=g
      have hS:St w0 w noX [ordA] (pt s97 (.cells #[.int .u8 4,.int .i64 0,.int .i64 0,.int .u8 0,.int .u8 0,.int .i64 0,.int .i64 0,.int .i64 0,.int .u8 0,.int .u8 0,.int .i64 0,.int .i64 0,.int .u8 1,.int .i64 0,.int .i64 2026,.int .u8 87,.int .u8 65,.int .i64 0,.int .i64 0,.int .i64 0,.int .u8 0,.int .u8 0,.int .i64 0,.int .i64 0] 26 (0,0))::sl 26 12 gv14 givenL.length (encs eC givenL)::MZ1351):=hD; clear hD
      replace hf:Fr a 273 [] ((189,(vsub 12 gv14 0 2))::(191,.agg #[.int .i64 0,.int .i64 2026,.int .u8 87,.int .u8 65,.int .i64 0])::(193,.slice (some ⟨s97,0,none⟩) 2 2)::LZ1351):=hf
      replace hS:=St.takeS (j:=1) (enc:=eC) (l:=givenL) (q:=2) (M':=(pt s97 (.cells #[.int .u8 4,.int .i64 0,.int .i64 0,.int .u8 0,.int .u8 0,.int .i64 0,.int .i64 0,.int .i64 0,.int .u8 0,.int .u8 0,.int .i64 0,.int .i64 0,.int .u8 1,.int .i64 0,.int .i64 2026,.int .u8 87,.int .u8 65,.int .i64 0,.int .i64 0,.int .i64 0,.int .u8 0,.int .u8 0,.int .i64 0,.int .i64 0] 26 (0,0))::slE 26 12 eC (vsub 12 gv14 0 2) (lsub givenL 0 2)::MZ1351)) hS rfl eC_len ⟨by decide,by decide,by decide⟩ rfl
      refine O.appendE1 (j:=1) (jj:=0) (enc:=eC) (l:=(lsub givenL 0 2)) (m:=[undoC 0,⟨1,nameD 65,default,0⟩]) (l':=firstL) hf hS rfl rfl T_elem_22 T_size_26 T_bytes_26 T_zero_26 rfl rfl rfl rfl rfl rfl rfl rfl rfl rfl (by decide) rfl rfl rfl ?_
      clear hf hS a; intro v102 w a hS hf
      replace hS:St w0 w noX [ordA] (pt s97 (.cells #[.int .u8 4,.int .i64 0,.int .i64 0,.int .u8 0,.int .u8 0,.int .i64 0,.int .i64 0,.int .i64 0,.int .u8 0,.int .u8 0,.int .i64 0,.int .i64 0,.int .u8 1,.int .i64 0,.int .i64 2026,.int .u8 87,.int .u8 65,.int .i64 0,.int .i64 0,.int .i64 0,.int .u8 0,.int .u8 0,.int .i64 0,.int .i64 0] 26 (0,0))::sl 26 12 v102 firstL.length (encs eC firstL)::MZ1351):=hS
      exact O.nil ⟨rfl,(gv14,s97,v102),hf.to trivial,(gt (d:=194) hf rfl rfl),(fun j_ hj_ ha_=>match j_,hj_,ha_ with | 0,hj_,ha_=>rfl | 1,hj_,ha_=>rfl | 2,hj_,ha_=>rfl | 3,hj_,ha_=>rfl | 4,hj_,ha_=>rfl | 5,hj_,ha_=>rfl | 6,hj_,ha_=>absurd rfl hj_ | 7,hj_,ha_=>absurd ha_ (by decide) | _+8,_,_=>rfl),hS⟩
  clear hf hS; intro s_ g a w _ hf hD
  obtain ⟨gv14,s97,v98⟩:=g
  have hS:St w0 w noX [ordA] (pt s97 (.cells #[.int .u8 4,.int .i64 0,.int .i64 0,.int .u8 0,.int .u8 0,.int .i64 0,.int .i64 0,.int .i64 0,.int .u8 0,.int .u8 0,.int .i64 0,.int .i64 0,.int .u8 1,.int .i64 0,.int .i64 2026,.int .u8 87,.int .u8 65,.int .i64 0,.int .i64 0,.int .i64 0,.int .u8 0,.int .u8 0,.int .i64 0,.int .i64 0] 26 (0,0))::sl 26 12 v98 firstL.length (encs eC firstL)::MZ1351):=hD; clear hD
  replace hf:Fr a 273 [] ((188,gv14)::(189,(vsub 12 gv14 0 2))::(190,.agg #[.int .u8 4,.int .i64 0,.int .i64 0,.int .u8 0,.int .u8 0,.int .i64 0,.int .i64 0,.int .i64 0,.int .u8 0,.int .u8 0,.int .i64 0,.int .i64 0])::(191,.agg #[.int .i64 0,.int .i64 2026,.int .u8 87,.int .u8 65,.int .i64 0])::(192,.agg #[.int .u8 1,.int .i64 0,.int .i64 2026,.int .u8 87,.int .u8 65,.int .i64 0,.int .i64 0,.int .i64 0,.int .u8 0,.int .u8 0,.int .i64 0,.int .i64 0])::(193,.slice (some ⟨s97,0,none⟩) 2 2)::(194,v98)::(23,v98)::LZ1351):=hf
  refine k_seq ?_
  replace hf:Fr a 273 [] [(0,.bool false),(1,.pointer (some ⟨b_n2,0,none⟩)),(5,.bool true),(6,.bool true),(8,.int .i64 4),(10,.int .i64 8),(12,.int .i64 6),(14,.int .i64 8),(15,.pointer (some ⟨b_o78,0,none⟩)),(16,.int .i64 0),(17,uv),(18,.int .i64 0),(19,apv),(20,.int .i64 0),(22,.int .i64 8),(23,v98)]:=hf.to ⟨rfl,rfl,rfl,rfl,rfl,rfl,rfl,rfl,rfl,rfl,rfl,rfl,rfl,rfl,rfl,rfl,trivial⟩
  refine W.seq ?_
  refine W.regionL (l:=[0,1,2,3,4,5,6]) rfl ?_
  refine O.val hf rfl rfl rfl (RunV.move rfl) ?_
  clear hf a; intro a hf
  refine O.callR hf rfl rfl rfl (RunE.call (av:=#[v98]) C_ok_16 rfl rfl rfl) (run_ok v98 firstL _ (hS.bptO (i:=0) rfl) (hS.slr (j:=1) rfl) (slOK.fit (hS.slAt (j:=1) rfl)) _ _ nm18) ?_
  clear hf a
  rintro ⟨va9,xs9⟩ w103 ⟨hS1,hxs9⟩ a hf
  replace hf:Fr a _ _ ((197,.tuple #[va9,.int .i64 0])::_):=hf
  replace hS:=(hS.call hS1).eqM (N:=(sl 46 6 va9 xs9.length (encs eO xs9)::bigA (xs9.map obA)::pt s97 (.cells #[.int .u8 4,.int .i64 0,.int .i64 0,.int .u8 0,.int .u8 0,.int .i64 0,.int .i64 0,.int .i64 0,.int .u8 0,.int .u8 0,.int .i64 0,.int .i64 0,.int .u8 1,.int .i64 0,.int .i64 2026,.int .u8 87,.int .u8 65,.int .i64 0,.int .i64 0,.int .i64 0,.int .u8 0,.int .u8 0,.int .i64 0,.int .i64 0] 26 (0,0))::sl 26 12 v98 firstL.length (encs eC firstL)::MZ1351)) rfl
  clear hS1
  refine O.val hf rfl rfl rfl (RunV.move rfl) ?_
  clear hf a; intro a hf
  refine O.val hf rfl rfl rfl (RunV.extract rfl rfl) ?_
  clear hf a; intro a hf
  refine O.val hf rfl rfl rfl (RunV.extract rfl rfl) ?_
  clear hf a; intro a hf
  refine O.val hf rfl rfl rfl (RunV.assign rfl) ?_
  clear hf a; intro a hf
  refine O.val hf rfl rfl rfl (RunV.assign rfl) ?_
  clear hf a; intro a hf
  refine O.nil ?_
  refine k_seq ?_
  replace hf:Fr a 273 [] [(0,.bool false),(1,.pointer (some ⟨b_n2,0,none⟩)),(5,.bool true),(6,.bool true),(8,.int .i64 4),(10,.int .i64 8),(12,.int .i64 6),(14,.int .i64 8),(15,.pointer (some ⟨b_o78,0,none⟩)),(16,.int .i64 0),(17,uv),(18,.int .i64 0),(19,apv),(20,.int .i64 0),(22,.int .i64 8),(24,va9),(25,.int .i64 0)]:=hf.to ⟨rfl,rfl,rfl,rfl,rfl,rfl,rfl,rfl,rfl,rfl,rfl,rfl,rfl,rfl,rfl,rfl,rfl,trivial⟩
  refine W.seq ?_
  refine W.regionL (l:=[0,1,2,3,4,5,6,7,8,9,10,11,12,13,14,15,16,17,18,19,20,21,22,23,24,25,26,27,28,29,30,31,32,33,34,35,36,37,38,39,40,41,42,43,44,45,46,47,48,49,50,51,52,53,54,55,56,57,58,59,60,61]) rfl ?_
  refine O.val hf rfl rfl rfl (RunV.move rfl) ?_
  clear hf a; intro a hf
  refine O.val hf rfl rfl rfl (RunV.toB (c:=true) (RunV.eql rfl rfl) (by decide)) ?_
  clear hf a; intro a hf
  refine O.val hf rfl rfl rfl (RunV.move rfl) ?_
  clear hf a; intro a hf
  refine O.gvalB (v:=.int .i64 8) hf rfl rfl rfl rfl rfl rfl (RunV.move rfl) ?_
  clear hf a; intro a hf
  refine O.gvalB (v:=.bool true) hf rfl rfl rfl rfl rfl rfl (RunV.toB (c:=true) (RunV.eql rfl rfl) (by decide)) ?_
  clear hf a; intro a hf
  refine O.val (v:=.bool true) hf rfl rfl rfl (RunV.pick rfl rfl rfl rfl) ?_
  clear hf a; intro a hf
  refine O.val hf rfl rfl rfl (RunV.move rfl) ?_
  clear hf a; intro a hf
  refine O.gvalB (v:=.int .i64 6) hf rfl rfl rfl rfl rfl rfl (RunV.move rfl) ?_
  clear hf a; intro a hf
  refine O.gvalB (v:=.bool true) hf rfl rfl rfl rfl rfl rfl (RunV.toB (c:=true) (RunV.eql rfl rfl) (by decide)) ?_
  clear hf a; intro a hf
  refine O.val (v:=.bool true) hf rfl rfl rfl (RunV.pick rfl rfl rfl rfl) ?_
  clear hf a; intro a hf
  refine O.val hf rfl rfl rfl (RunV.move rfl) ?_
  clear hf a; intro a hf
  refine O.gvalB (v:=.int .i64 8) hf rfl rfl rfl rfl rfl rfl (RunV.move rfl) ?_
  clear hf a; intro a hf
  refine O.gvalB (v:=.bool true) hf rfl rfl rfl rfl rfl rfl (RunV.toB (c:=true) (RunV.eql rfl rfl) (by decide)) ?_
  clear hf a; intro a hf
  refine O.val (v:=.bool true) hf rfl rfl rfl (RunV.pick rfl rfl rfl rfl) ?_
  clear hf a; intro a hf
  refine O.val hf rfl rfl rfl (RunV.move rfl) ?_
  clear hf a; intro a hf
  refine O.gvalB (v:=.int .i64 0) hf rfl rfl rfl rfl rfl rfl (RunV.move rfl) ?_
  clear hf a; intro a hf
  refine O.gvalB (v:=.bool true) hf rfl rfl rfl rfl rfl rfl (RunV.toB (c:=true) (RunV.eql rfl rfl) (by decide)) ?_
  clear hf a; intro a hf
  refine O.val (v:=.bool true) hf rfl rfl rfl (RunV.pick rfl rfl rfl rfl) ?_
  clear hf a; intro a hf
  refine O.val hf rfl rfl rfl (RunV.move rfl) ?_
  clear hf a; intro a hf
  refine O.gvalB (v:=.pointer (some ⟨b_o78,0,none⟩)) hf rfl rfl rfl rfl rfl rfl (RunV.field T_field_46_0 rfl rfl) ?_
  clear hf a; intro a hf
  refine O.gvalB (v:=.agg #[.int .i64 numD.num,.int .i64 numD.yr,.int .u8 numD.half,.int .u8 numD.sec,.int .i64 numD.cyc]) hf rfl rfl rfl rfl rfl rfl (RunV.loadN (cs':=#[.int .i64 numD.num,.int .i64 numD.yr,.int .u8 numD.half,.int .u8 numD.sec,.int .i64 numD.cyc]) T_agg_24 T_size_24 rfl (hS.ptAt (i:=10) rfl) (Nat.le_of_ble_eq_true rfl) rfl) ?_
  clear hf a; intro a hf
  refine O.gvalB (v:=.agg #[.int .i64 700001,.int .i64 0,.int .u8 0,.int .u8 0,.int .i64 0]) hf rfl rfl rfl rfl rfl rfl (RunV.loadN (cs':=#[.int .i64 700001,.int .i64 0,.int .u8 0,.int .u8 0,.int .i64 0]) T_agg_24 T_size_24 rfl (hS.ptAt (i:=23) rfl) (Nat.le_of_ble_eq_true rfl) rfl) ?_
  clear hf a; intro a hf
  refine O.gvalB (v:=.bool (decide (numD=⟨700001,0,0,0,0⟩))) hf rfl rfl rfl rfl rfl rfl (eqD rfl numD ⟨700001,0,0,0,0⟩ eqGuard24 rfl rfl) ?_
  clear hf a; intro a hf
  refine O.val (v:=.bool (decide (numD=⟨700001,0,0,0,0⟩))) hf rfl rfl rfl (RunV.pick rfl rfl rfl rfl) ?_
  clear hf a; intro a hf
  refine O.val hf rfl rfl rfl (RunV.move rfl) ?_
  clear hf a; intro a hf
  have hbg:(decide (numD=⟨700001,0,0,0,0⟩))=true:=(by decide)
  simp only [hbg] at hf; clear hbg
  refine O.gvalB (v:=.int .i64 0) hf rfl rfl rfl rfl rfl rfl (RunV.move rfl) ?_
  clear hf a; intro a hf
  refine O.gvalB (v:=.bool true) hf rfl rfl rfl rfl rfl rfl (RunV.toB (c:=true) (RunV.eql rfl rfl) (by decide)) ?_
  clear hf a; intro a hf
  refine O.val (v:=.bool true) hf rfl rfl rfl (RunV.pick rfl rfl rfl rfl) ?_
  clear hf a; intro a hf
  refine O.val hf rfl rfl rfl (RunV.move rfl) ?_
  clear hf a; intro a hf
  refine O.gvalB (v:=uv) hf rfl rfl rfl rfl rfl rfl (RunV.move rfl) ?_
  clear hf a; intro a hf
  refine O.unguard hf rfl rfl rfl rfl ?_
  refine O.buildSlice (cs':=#[.bool false,.bool false,.bool true,.bool false,.bool false]) (zs:=#[.bool false,.bool false,.bool false,.bool false,.bool false]) hf hS rfl rfl T_elem_51 T_size_4 T_zero_4 rfl rfl rfl rfl rfl ?_
  clear hf hS a; intro s104 w a hbb_s104 hS hf
  refine O.nil ⟨rfl,?_⟩
  refine O.gcallR hf rfl rfl rfl rfl rfl rfl (RunE.call (av:=#[uv,.slice (some ⟨s104,0,none⟩) 5 5]) C_ok_27 rfl rfl rfl) (sameBools_true uv [false,false,true,false,false] (.slice (some ⟨s104,0,none⟩) 5 5) [false,false,true,false,false] _ (hS.slr (j:=8) rfl) (hS.rdPt (j:=0) (n:=5) (sz:=1) (xs:=bools [false,false,true,false,false]) rfl (by unfold maxLen; decide) rfl rfl) rfl) ?_
  clear hf a
  rintro _ w105 hS1 a hf
  replace hf:Fr a _ _ ((231,.bool true)::_):=hf
  replace hS:=(hS.call hS1).eqM (N:=(pt s104 (.cells #[.bool false,.bool false,.bool true,.bool false,.bool false] 4 (0,0))::sl 46 6 va9 xs9.length (encs eO xs9)::bigA (xs9.map obA)::pt s97 (.cells #[.int .u8 4,.int .i64 0,.int .i64 0,.int .u8 0,.int .u8 0,.int .i64 0,.int .i64 0,.int .i64 0,.int .u8 0,.int .u8 0,.int .i64 0,.int .i64 0,.int .u8 1,.int .i64 0,.int .i64 2026,.int .u8 87,.int .u8 65,.int .i64 0,.int .i64 0,.int .i64 0,.int .u8 0,.int .u8 0,.int .i64 0,.int .i64 0] 26 (0,0))::sl 26 12 v98 firstL.length (encs eC firstL)::MZ1351)) rfl
  clear hS1
  refine O.val (v:=.bool true) hf rfl rfl rfl (RunV.pick rfl rfl rfl rfl) ?_
  clear hf a; intro a hf
  refine O.val hf rfl rfl rfl (RunV.move rfl) ?_
  clear hf a; intro a hf
  refine O.gvalB (v:=.int .i64 0) hf rfl rfl rfl rfl rfl rfl (RunV.move rfl) ?_
  clear hf a; intro a hf
  refine O.gvalB (v:=.bool true) hf rfl rfl rfl rfl rfl rfl (RunV.toB (c:=true) (RunV.eql rfl rfl) (by decide)) ?_
  clear hf a; intro a hf
  refine O.val (v:=.bool true) hf rfl rfl rfl (RunV.pick rfl rfl rfl rfl) ?_
  clear hf a; intro a hf
  refine O.val hf rfl rfl rfl (RunV.move rfl) ?_
  clear hf a; intro a hf
  refine O.gvalB (v:=apv) hf rfl rfl rfl rfl rfl rfl (RunV.move rfl) ?_
  clear hf a; intro a hf
  refine O.gvalB (v:=.int .i64 ((givenL++[plusC]).length:Int)) hf rfl rfl rfl rfl rfl rfl (RunV.lenV (e:=26) (by simpa using T_elem_22) rfl (hS.slr (j:=6) rfl)) ?_
  clear hf a; intro a hf
  refine O.gvalB (v:=.bool (decide (((givenL++[plusC]).length:Int)=(5:Int)))) hf rfl rfl rfl rfl rfl rfl (RunV.eql rfl rfl) ?_
  clear hf a; intro a hf
  refine O.val (v:=.bool (decide (((givenL++[plusC]).length:Int)=(5:Int)))) hf rfl rfl rfl (RunV.pick rfl rfl rfl rfl) ?_
  clear hf a; intro a hf
  refine O.val hf rfl rfl rfl (RunV.move rfl) ?_
  clear hf a; intro a hf
  have hbg:(decide (((givenL++[plusC]).length:Int)=(5:Int)))=true:=(by decide)
  simp only [hbg] at hf; clear hbg
  refine O.gvalB (v:=.int .i64 8) hf rfl rfl rfl rfl rfl rfl (RunV.move rfl) ?_
  clear hf a; intro a hf
  refine O.gvalB (v:=.bool true) hf rfl rfl rfl rfl rfl rfl (RunV.toB (c:=true) (RunV.eql rfl rfl) (by decide)) ?_
  clear hf a; intro a hf
  refine O.val (v:=.bool true) hf rfl rfl rfl (RunV.pick rfl rfl rfl rfl) ?_
  clear hf a; intro a hf
  refine O.val hf rfl rfl rfl (RunV.move rfl) ?_
  clear hf a; intro a hf
  refine O.gvalB (v:=.int .i64 0) hf rfl rfl rfl rfl rfl rfl (RunV.move rfl) ?_
  clear hf a; intro a hf
  refine O.gvalB (v:=.bool true) hf rfl rfl rfl rfl rfl rfl (RunV.toB (c:=true) (RunV.eql rfl rfl) (by decide)) ?_
  clear hf a; intro a hf
  refine O.val (v:=.bool true) hf rfl rfl rfl (RunV.pick rfl rfl rfl rfl) ?_
  clear hf a; intro a hf
  refine O.val hf rfl rfl rfl (RunV.move rfl) ?_
  clear hf a; intro a hf
  refine O.gvalB (v:=va9) hf rfl rfl rfl rfl rfl rfl (RunV.move rfl) ?_
  clear hf a; intro a hf
  refine O.gcallR hf rfl rfl rfl rfl rfl rfl (RunE.call (av:=#[.int .u8 65]) C_ok_28 rfl rfl rfl) (named_spec 65 _) ?_
  clear hf a
  rintro _ w106 hS1 a hf
  replace hf:Fr a _ _ ((252,.agg #[.int .i64 0,.int .i64 2026,.int .u8 87,.int .u8 65,.int .i64 0])::_):=hf
  replace hS:=(hS.call hS1).eqM (N:=(pt s104 (.cells #[.bool false,.bool false,.bool true,.bool false,.bool false] 4 (0,0))::sl 46 6 va9 xs9.length (encs eO xs9)::bigA (xs9.map obA)::pt s97 (.cells #[.int .u8 4,.int .i64 0,.int .i64 0,.int .u8 0,.int .u8 0,.int .i64 0,.int .i64 0,.int .i64 0,.int .u8 0,.int .u8 0,.int .i64 0,.int .i64 0,.int .u8 1,.int .i64 0,.int .i64 2026,.int .u8 87,.int .u8 65,.int .i64 0,.int .i64 0,.int .i64 0,.int .u8 0,.int .u8 0,.int .i64 0,.int .i64 0] 26 (0,0))::sl 26 12 v98 firstL.length (encs eC firstL)::MZ1351)) rfl
  clear hS1
  refine O.unguard hf rfl rfl rfl rfl ?_
  refine O.buildSlice (cs':=#[.int .i64 0,.int .i64 2026,.int .u8 87,.int .u8 65,.int .i64 0]) (zs:=#[.int .i64 0,.int .i64 0,.int .u8 0,.int .u8 0,.int .i64 0]) hf hS rfl rfl T_elem_35 T_size_24 T_zero_24 rfl rfl rfl rfl rfl ?_
  clear hf hS a; intro s107 w a hbb_s107 hS hf
  refine O.nil ⟨rfl,?_⟩
  refine O.gcallR hf rfl rfl rfl rfl rfl rfl (RunE.call (av:=#[.slice (some ⟨s107,0,none⟩) 1 1]) C_ok_31 rfl rfl rfl) (one_spec (some ⟨s107,0,none⟩) 1 [nameD 65] _ (hS.rdPt (j:=0) (n:=1) (sz:=5) (xs:=encs eD [nameD 65]) rfl (by unfold maxLen; decide) rfl rfl) (by decide)) ?_
  clear hf a
  rintro _ w108 hS1 a hf
  replace hf:Fr a _ _ ((254,.agg #[.int .i64 0,.int .i64 2026,.int .u8 87,.int .u8 65,.int .i64 0,.slice (some ⟨s107,0,none⟩) 1 1])::_):=hf
  replace hS:=(hS.call hS1).eqM (N:=(pt s107 (.cells #[.int .i64 0,.int .i64 2026,.int .u8 87,.int .u8 65,.int .i64 0] 24 (0,0))::pt s104 (.cells #[.bool false,.bool false,.bool true,.bool false,.bool false] 4 (0,0))::sl 46 6 va9 xs9.length (encs eO xs9)::bigA (xs9.map obA)::pt s97 (.cells #[.int .u8 4,.int .i64 0,.int .i64 0,.int .u8 0,.int .u8 0,.int .i64 0,.int .i64 0,.int .i64 0,.int .u8 0,.int .u8 0,.int .i64 0,.int .i64 0,.int .u8 1,.int .i64 0,.int .i64 2026,.int .u8 87,.int .u8 65,.int .i64 0,.int .i64 0,.int .i64 0,.int .u8 0,.int .u8 0,.int .i64 0,.int .i64 0] 26 (0,0))::sl 26 12 v98 firstL.length (encs eC firstL)::MZ1351)) rfl
  clear hS1
  refine O.gcallR hf rfl rfl rfl rfl rfl rfl (RunE.call (av:=#[.int .u8 66]) C_ok_28 rfl rfl rfl) (named_spec 66 _) ?_
  clear hf a
  rintro _ w109 hS1 a hf
  replace hf:Fr a _ _ ((255,.agg #[.int .i64 0,.int .i64 2026,.int .u8 87,.int .u8 66,.int .i64 0])::_):=hf
  replace hS:=(hS.call hS1).eqM (N:=(pt s107 (.cells #[.int .i64 0,.int .i64 2026,.int .u8 87,.int .u8 65,.int .i64 0] 24 (0,0))::pt s104 (.cells #[.bool false,.bool false,.bool true,.bool false,.bool false] 4 (0,0))::sl 46 6 va9 xs9.length (encs eO xs9)::bigA (xs9.map obA)::pt s97 (.cells #[.int .u8 4,.int .i64 0,.int .i64 0,.int .u8 0,.int .u8 0,.int .i64 0,.int .i64 0,.int .i64 0,.int .u8 0,.int .u8 0,.int .i64 0,.int .i64 0,.int .u8 1,.int .i64 0,.int .i64 2026,.int .u8 87,.int .u8 65,.int .i64 0,.int .i64 0,.int .i64 0,.int .u8 0,.int .u8 0,.int .i64 0,.int .i64 0] 26 (0,0))::sl 26 12 v98 firstL.length (encs eC firstL)::MZ1351)) rfl
  clear hS1
  refine O.unguard hf rfl rfl rfl rfl ?_
  refine O.buildSlice (cs':=#[.int .i64 0,.int .i64 2026,.int .u8 87,.int .u8 66,.int .i64 0]) (zs:=#[.int .i64 0,.int .i64 0,.int .u8 0,.int .u8 0,.int .i64 0]) hf hS rfl rfl T_elem_35 T_size_24 T_zero_24 rfl rfl rfl rfl rfl ?_
  clear hf hS a; intro s110 w a hbb_s110 hS hf
  refine O.nil ⟨rfl,?_⟩
  refine O.gcallR hf rfl rfl rfl rfl rfl rfl (RunE.call (av:=#[.slice (some ⟨s110,0,none⟩) 1 1]) C_ok_31 rfl rfl rfl) (one_spec (some ⟨s110,0,none⟩) 1 [nameD 66] _ (hS.rdPt (j:=0) (n:=1) (sz:=5) (xs:=encs eD [nameD 66]) rfl (by unfold maxLen; decide) rfl rfl) (by decide)) ?_
  clear hf a
  rintro _ w111 hS1 a hf
  replace hf:Fr a _ _ ((257,.agg #[.int .i64 0,.int .i64 2026,.int .u8 87,.int .u8 66,.int .i64 0,.slice (some ⟨s110,0,none⟩) 1 1])::_):=hf
  replace hS:=(hS.call hS1).eqM (N:=(pt s110 (.cells #[.int .i64 0,.int .i64 2026,.int .u8 87,.int .u8 66,.int .i64 0] 24 (0,0))::pt s107 (.cells #[.int .i64 0,.int .i64 2026,.int .u8 87,.int .u8 65,.int .i64 0] 24 (0,0))::pt s104 (.cells #[.bool false,.bool false,.bool true,.bool false,.bool false] 4 (0,0))::sl 46 6 va9 xs9.length (encs eO xs9)::bigA (xs9.map obA)::pt s97 (.cells #[.int .u8 4,.int .i64 0,.int .i64 0,.int .u8 0,.int .u8 0,.int .i64 0,.int .i64 0,.int .i64 0,.int .u8 0,.int .u8 0,.int .i64 0,.int .i64 0,.int .u8 1,.int .i64 0,.int .i64 2026,.int .u8 87,.int .u8 65,.int .i64 0,.int .i64 0,.int .i64 0,.int .u8 0,.int .u8 0,.int .i64 0,.int .i64 0] 26 (0,0))::sl 26 12 v98 firstL.length (encs eC firstL)::MZ1351)) rfl
  clear hS1
  refine O.unguard hf rfl rfl rfl rfl ?_
  refine O.buildSlice (cs':=#[.int .i64 0,.int .i64 2026,.int .u8 87,.int .u8 65,.int .i64 0,.slice (some ⟨s107,0,none⟩) 1 1,.int .i64 0,.int .i64 2026,.int .u8 87,.int .u8 66,.int .i64 0,.slice (some ⟨s110,0,none⟩) 1 1]) (zs:=#[.int .i64 0,.int .i64 0,.int .u8 0,.int .u8 0,.int .i64 0,.slice none 0 0,.int .i64 0,.int .i64 0,.int .u8 0,.int .u8 0,.int .i64 0,.slice none 0 0]) hf hS rfl rfl T_elem_39 T_size_46 T_zero_46 rfl rfl (by kernel_rfl) rfl (by kernel_rfl) ?_
  clear hf hS a; intro s112 w a hbb_s112 hS hf
  refine O.nil ⟨rfl,?_⟩
  refine O.gcallR hf rfl rfl rfl rfl rfl rfl (RunE.call (av:=#[va9,.slice (some ⟨s112,0,none⟩) 2 2]) C_ok_17 rfl rfl rfl) (same_true va9 xs9 (.slice (some ⟨s112,0,none⟩) 2 2) [⟨nameD 65,some ⟨s107,0,none⟩,1,1,[nameD 65]⟩,⟨nameD 66,some ⟨s110,0,none⟩,1,1,[nameD 66]⟩] _ (hS.slr (j:=4) rfl) (hS.rdPt (j:=0) (n:=2) (sz:=6) (xs:=encs eO [⟨nameD 65,some ⟨s107,0,none⟩,1,1,[nameD 65]⟩,⟨nameD 66,some ⟨s110,0,none⟩,1,1,[nameD 66]⟩]) rfl (by unfold maxLen; decide) rfl rfl) (hS.obOwn (i:=5) rfl) (obsRd.cons (hS.rdPt (j:=2) (n:=1) (sz:=5) (xs:=encs eD [nameD 65]) rfl (by unfold maxLen; decide) rfl rfl) (obsRd.cons (hS.rdPt (j:=1) (n:=1) (sz:=5) (xs:=encs eD [nameD 66]) rfl (by unfold maxLen; decide) rfl rfl) obsRd.nil)) (hxs9.trans nm19)) ?_
  clear hf a
  rintro _ w113 hS1 a hf
  replace hf:Fr a _ _ ((259,.bool true)::_):=hf
  replace hS:=(hS.call hS1).eqM (N:=(pt s112 (.cells #[.int .i64 0,.int .i64 2026,.int .u8 87,.int .u8 65,.int .i64 0,.slice (some ⟨s107,0,none⟩) 1 1,.int .i64 0,.int .i64 2026,.int .u8 87,.int .u8 66,.int .i64 0,.slice (some ⟨s110,0,none⟩) 1 1] 46 (0,0))::pt s110 (.cells #[.int .i64 0,.int .i64 2026,.int .u8 87,.int .u8 66,.int .i64 0] 24 (0,0))::pt s107 (.cells #[.int .i64 0,.int .i64 2026,.int .u8 87,.int .u8 65,.int .i64 0] 24 (0,0))::pt s104 (.cells #[.bool false,.bool false,.bool true,.bool false,.bool false] 4 (0,0))::sl 46 6 va9 xs9.length (encs eO xs9)::bigA (xs9.map obA)::pt s97 (.cells #[.int .u8 4,.int .i64 0,.int .i64 0,.int .u8 0,.int .u8 0,.int .i64 0,.int .i64 0,.int .i64 0,.int .u8 0,.int .u8 0,.int .i64 0,.int .i64 0,.int .u8 1,.int .i64 0,.int .i64 2026,.int .u8 87,.int .u8 65,.int .i64 0,.int .i64 0,.int .i64 0,.int .u8 0,.int .u8 0,.int .i64 0,.int .i64 0] 26 (0,0))::sl 26 12 v98 firstL.length (encs eC firstL)::MZ1351)) rfl
  clear hS1
  refine O.val (v:=.bool true) hf rfl rfl rfl (RunV.pick rfl rfl rfl rfl) ?_
  clear hf a; intro a hf
  refine O.val hf rfl rfl rfl (RunV.assign rfl) ?_
  clear hf a; intro a hf
  refine O.nil ?_
  refine k_seq ?_
  replace hf:Fr a 273 [] [(0,.bool false),(5,.bool true),(6,.bool true),(26,.bool true)]:=hf.to ⟨rfl,rfl,rfl,rfl,trivial⟩
  refine W.seq ?_
  refine W.regionL (l:=[0,1,2,3,4,5,6,7,8,9,10,11,12]) rfl ?_
  refine O.val hf rfl rfl rfl (RunV.move rfl) ?_
  clear hf a; intro a hf
  refine O.gvalB (v:=.bool true) hf rfl rfl rfl rfl rfl rfl (RunV.move rfl) ?_
  clear hf a; intro a hf
  refine O.val (v:=.bool true) hf rfl rfl rfl (RunV.pick rfl rfl rfl rfl) ?_
  clear hf a; intro a hf
  refine O.val hf rfl rfl rfl (RunV.move rfl) ?_
  clear hf a; intro a hf
  refine O.gvalB (v:=.bool true) hf rfl rfl rfl rfl rfl rfl (RunV.move rfl) ?_
  clear hf a; intro a hf
  refine O.val (v:=.bool true) hf rfl rfl rfl (RunV.pick rfl rfl rfl rfl) ?_
  clear hf a; intro a hf
  refine O.val hf rfl rfl rfl (RunV.move rfl) ?_
  clear hf a; intro a hf
  refine O.gvalB (v:=.bool true) hf rfl rfl rfl rfl rfl rfl (RunV.move rfl) ?_
  clear hf a; intro a hf
  refine O.val (v:=.bool true) hf rfl rfl rfl (RunV.pick rfl rfl rfl rfl) ?_
  clear hf a; intro a hf
  refine O.val hf rfl rfl rfl (RunV.move rfl) ?_
  clear hf a; intro a hf
  refine O.gcallR hf rfl rfl rfl rfl rfl rfl (RunE.call (av:=#[]) C_ok_14 rfl rfl rfl) (alive_spec _ (hS.bptO (i:=0) rfl)) ?_
  clear hf a
  rintro _ w114 hS1 a hf
  replace hf:Fr a _ _ ((271,.bool true)::_):=hf
  replace hS:=(hS.call hS1).eqM (N:=(pt s112 (.cells #[.int .i64 0,.int .i64 2026,.int .u8 87,.int .u8 65,.int .i64 0,.slice (some ⟨s107,0,none⟩) 1 1,.int .i64 0,.int .i64 2026,.int .u8 87,.int .u8 66,.int .i64 0,.slice (some ⟨s110,0,none⟩) 1 1] 46 (0,0))::pt s110 (.cells #[.int .i64 0,.int .i64 2026,.int .u8 87,.int .u8 66,.int .i64 0] 24 (0,0))::pt s107 (.cells #[.int .i64 0,.int .i64 2026,.int .u8 87,.int .u8 65,.int .i64 0] 24 (0,0))::pt s104 (.cells #[.bool false,.bool false,.bool true,.bool false,.bool false] 4 (0,0))::sl 46 6 va9 xs9.length (encs eO xs9)::bigA (xs9.map obA)::pt s97 (.cells #[.int .u8 4,.int .i64 0,.int .i64 0,.int .u8 0,.int .u8 0,.int .i64 0,.int .i64 0,.int .i64 0,.int .u8 0,.int .u8 0,.int .i64 0,.int .i64 0,.int .u8 1,.int .i64 0,.int .i64 2026,.int .u8 87,.int .u8 65,.int .i64 0,.int .i64 0,.int .i64 0,.int .u8 0,.int .u8 0,.int .i64 0,.int .i64 0] 26 (0,0))::sl 26 12 v98 firstL.length (encs eC firstL)::MZ1351)) rfl
  clear hS1
  refine O.val (v:=.bool true) hf rfl rfl rfl (RunV.pick rfl rfl rfl rfl) ?_
  clear hf a; intro a hf
  refine O.val hf rfl rfl rfl (RunV.assign rfl) ?_
  clear hf a; intro a hf
  refine O.nil ?_
  refine k_seq ?_
  replace hf:Fr a 273 [] [(0,.bool true)]:=hf.to ⟨rfl,trivial⟩
  refine W.ret ?_
  refine post1 hf rfl (ResOK.tmp rfl) ?_
  exact ⟨(),rfl,hS.sub (List.nil_sublist _) |>.noB⟩
end Go.Proofs.YtgakdmmmljdpjaaDoor
