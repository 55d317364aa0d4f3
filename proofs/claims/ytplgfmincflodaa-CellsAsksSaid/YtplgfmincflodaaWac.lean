/- Part of a proof: walks printed by a program. -/
import Derived.Test.YtplgfmincflodaaWab
set_option linter.unusedVariables false
set_option linter.unusedSimpArgs false
namespace Go.Proofs.Ytplgfmincflodaa
open Go Go.SL
set_option maxHeartbeats 1000000 in
set_option maxRecDepth 8000 in
theorem m_cells_Ahead_ok (F : Nat)   (x1 : Int) (x2 : Int) (x3 : Int) (x4 : Int) (x5 : Int) (x6 : Int) (x7 : Int) (x8 : Int) (x9 : Int) (x10 : Int) (x11 : Int) (x12 : Int) (x13 : Int) (x14 : Int) (x15 : Int) (w0 : World)  (r : Int × Int × Int × Int × Int × Int × Int) (hm : m_cells_Ahead F x1 x2 x3 x4 x5 x6 x7 x8 x9 x10 x11 x12 x13 x14 x15 = some r) :
    Ret Try.prog 6 #[.agg #[Iv x1, Iv x2, Iv x3, Iv x4, Iv x5, Iv x6], .agg #[Iv x7, Iv x8, Iv x9, Iv x10, Iv x11, Iv x12], Iv x13, .agg #[Iv x14, Iv x15]] w0 (G := Unit) (fun _ => .tuple #[.agg #[Iv r.1, Iv r.2.1, Iv r.2.2.1, Iv r.2.2.2.1, Iv r.2.2.2.2.1, Iv r.2.2.2.2.2.1], Iv r.2.2.2.2.2.2]) (fun _ w => St w0 w noX [] []) := by
 unfold m_cells_Ahead at hm
 refine ret_of_W (lv := [.agg #[Iv x1, Iv x2, Iv x3, Iv x4, Iv x5, Iv x6], .agg #[Iv x7, Iv x8, Iv x9, Iv x10, Iv x11, Iv x12], Iv x13, .agg #[Iv x14, Iv x15]]) Try.func6 rfl rfl rfl (fun a hf => ?_)
 replace hf : Fr a 119 [] [(0, .agg #[Iv x1, Iv x2, Iv x3, Iv x4, Iv x5, Iv x6]), (1, .agg #[Iv x7, Iv x8, Iv x9, Iv x10, Iv x11, Iv x12]), (2, Iv x13), (3, .agg #[Iv x14, Iv x15])] := hf
 have hS : St w0 w0 noX [] [] := St.borrow lendAll_nil
 refine W.seq ?_
 -- region 0
 refine W.regionL (l := [0, 1, 2, 3, 4]) rfl ?_
 refine O.box (cs := #[Iv x1, Iv x2, Iv x3, Iv x4, Iv x5, Iv x6]) hf hS rfl rfl rfl rfl ?_
 clear hf hS a; intro b16 w a hb16 hS hf
 refine O.box (cs := #[Iv x7, Iv x8, Iv x9, Iv x10, Iv x11, Iv x12]) hf hS rfl rfl rfl rfl ?_
 clear hf hS a; intro b17 w a hb17 hS hf
 refine O.box (cs := #[Iv x14, Iv x15]) hf hS rfl rfl rfl rfl ?_
 clear hf hS a; intro b18 w a hb18 hS hf
 refine O.alloc (cs := #[Iv 0, Iv 0, Iv 0, Iv 0, Iv 0, Iv 0]) hf hS rfl rfl T_zero_25 rfl ?_
 clear hf hS a; intro b19 w a hb19 hS hf
 refine O.val hf rfl rfl rfl (RunV.assign rfl) ?_; clear hf a; intro a hf
 refine O.nil ?_
 refine k_seq ?_
 replace hf : Fr a 119 [] [(2, Iv x13), (4, Pv b16 0), (5, Pv b17 0), (7, Pv b18 0), (8, Pv b19 0), (9, Iv 0)] := hf.to ⟨rfl, rfl, rfl, rfl, rfl, rfl, trivial⟩
 refine W.seqR (fun a w => Fr a 119 [] [(2, Iv x13), (4, Pv b16 0), (5, Pv b17 0), (7, Pv b18 0), (8, Pv b19 0), (9, Iv 0)] ∧ St w0 w noX [] [pt b16 (Cs #[Iv x1, Iv x2, Iv x3, Iv x4, Iv x5, Iv x6] 25), pt b17 (Cs #[Iv x7, Iv x8, Iv x9, Iv x10, Iv x11, Iv x12] 25), pt b18 (Cs #[Iv x14, Iv x15] 23), pt b19 (Cs #[Iv 0, Iv 0, Iv 0, Iv 0, Iv 0, Iv 0] 25)] ∧ m_cells_Ahead_j3 F x14 x15 x7 x8 x13 x1 x2 x9 x10 x3 x4 x11 x12 x5 x6 = some r) ?_ ?_
 ·refine W.seq ?_
  -- region 1
  refine W.regionL (l := [0, 1, 2, 3]) rfl ?_
  refine O.val hf rfl rfl rfl (RunV.loadN (cs' := #[Iv x1, Iv x2, Iv x3, Iv x4, Iv x5, Iv x6]) T_agg_25 T_size_25 rfl (hS.ptAt (i := 3) rfl) (Nat.le_of_ble_eq_true rfl) rfl) ?_; clear hf a; intro a hf
  refine O.val hf rfl rfl rfl (RunV.loadN (cs' := #[Iv x7, Iv x8, Iv x9, Iv x10, Iv x11, Iv x12]) T_agg_25 T_size_25 rfl (hS.ptAt (i := 2) rfl) (Nat.le_of_ble_eq_true rfl) rfl) ?_; clear hf a; intro a hf
  refine O.val (v := .agg #[Iv x1, Iv x2, Iv x3, Iv x4, Iv x5, Iv x6, Iv x7, Iv x8, Iv x9, Iv x10, Iv x11, Iv x12]) hf rfl rfl rfl (RunV.buildA (cs' := #[Iv x1, Iv x2, Iv x3, Iv x4, Iv x5, Iv x6, Iv x7, Iv x8, Iv x9, Iv x10, Iv x11, Iv x12]) T_arr_40 T_size_25 T_zero_40 rfl (by kernel_rfl)) ?_; clear hf a; intro a hf
  refine O.val hf rfl rfl rfl (RunV.move rfl) ?_; clear hf a; intro a hf
  refine O.nil ?_
  refine k_seq ?_
  replace hf : Fr a 119 [] [(2, Iv x13), (4, Pv b16 0), (5, Pv b17 0), (7, Pv b18 0), (8, Pv b19 0), (9, Iv 0), (21, .agg #[Iv x1, Iv x2, Iv x3, Iv x4, Iv x5, Iv x6, Iv x7, Iv x8, Iv x9, Iv x10, Iv x11, Iv x12]), (22, Iv 0)] := hf.to ⟨rfl, rfl, rfl, rfl, rfl, rfl, rfl, rfl, trivial⟩
  refine W.block ?_
  refine W.loopH (LH.step ?_)
  refine W.seq ?_
  -- region 2
  refine W.regionL (l := [0]) rfl ?_
  refine O.val (v := Bv true) hf rfl rfl rfl (RunV.lss (p := 0) (q := 2) rfl rfl) ?_; clear hf a; intro a hf
  refine O.nil ?_
  refine k_seq ?_
  refine W.seq ?_
  refine W.if_tt hf rfl ?_
  refine W.skip ?_
  refine k_seq ?_
  refine W.seq ?_
  refine W.block ?_
  refine W.seq ?_
  -- region 3
  refine W.regionL (l := [0, 1, 2]) rfl ?_
  refine O.val hf rfl rfl rfl (RunV.indexN (j := 0) (cs' := #[Iv x1, Iv x2, Iv x3, Iv x4, Iv x5, Iv x6]) T_arr_40 T_agg_25 T_size_25 rfl rfl rfl (by decide) rfl) ?_; clear hf a; intro a hf
  refine O.alloc (cs := #[Iv 0, Iv 0, Iv 0, Iv 0, Iv 0, Iv 0]) hf hS rfl rfl T_zero_25 rfl ?_
  clear hf hS a; intro b63 w a hb63 hS hf
  refine O.store (j := 0) (cs' := #[Iv x1, Iv x2, Iv x3, Iv x4, Iv x5, Iv x6]) (M' := [pt b63 (Cs #[Iv x1, Iv x2, Iv x3, Iv x4, Iv x5, Iv x6] 25), pt b19 (Cs #[Iv 0, Iv 0, Iv 0, Iv 0, Iv 0, Iv 0] 25), pt b18 (Cs #[Iv x14, Iv x15] 23), pt b17 (Cs #[Iv x7, Iv x8, Iv x9, Iv x10, Iv x11, Iv x12] 25), pt b16 (Cs #[Iv x1, Iv x2, Iv x3, Iv x4, Iv x5, Iv x6] 25)]) hf hS rfl rfl rfl T_size_25 rfl rfl rfl (Nat.le_of_ble_eq_true rfl) rfl rfl ?_
  clear hS; intro w hS
  refine O.nil ?_
  refine k_seq ?_
  refine W.seq ?_
  -- region 4
  refine W.regionL (l := [0, 1, 2]) rfl ?_
  refine O.val hf rfl rfl rfl (RunV.loadN (cs' := #[Iv x1, Iv x2, Iv x3, Iv x4, Iv x5, Iv x6]) T_agg_25 T_size_25 rfl (hS.ptAt (i := 0) rfl) (Nat.le_of_ble_eq_true rfl) rfl) ?_; clear hf a; intro a hf
  obtain ⟨x64, hx64, hm⟩ := hm_b hm
  refine O.callR hf rfl rfl rfl (RunE.call (av := #[.agg #[Iv x1, Iv x2, Iv x3, Iv x4, Iv x5, Iv x6]]) C_ok_10 rfl rfl rfl) (m_sphere_Check_ok F x1 x2 x3 x4 x5 x6 _ x64 hx64) ?_
  clear hf a; rintro _ w hS1 a hf
  replace hf : Fr a _ _ ((26, Iv x64) :: _) := hf
  replace hS := (hS.call hS1).eqM (N := [pt b63 (Cs #[Iv x1, Iv x2, Iv x3, Iv x4, Iv x5, Iv x6] 25), pt b19 (Cs #[Iv 0, Iv 0, Iv 0, Iv 0, Iv 0, Iv 0] 25), pt b18 (Cs #[Iv x14, Iv x15] 23), pt b17 (Cs #[Iv x7, Iv x8, Iv x9, Iv x10, Iv x11, Iv x12] 25), pt b16 (Cs #[Iv x1, Iv x2, Iv x3, Iv x4, Iv x5, Iv x6] 25)]) rfl
  clear hS1
  refine O.val hf rfl rfl rfl (RunV.assign rfl) ?_; clear hf a; intro a hf
  refine O.nil ?_
  refine k_seq ?_
  refine W.seq ?_
  -- region 5
  refine W.regionL (l := [0, 1]) rfl ?_
  refine O.val hf rfl rfl rfl (RunV.move rfl) ?_; clear hf a; intro a hf
  refine O.val (v := Bv (decide (x64 ≠ (0 : Int)))) hf rfl rfl rfl (RunV.neq rfl rfl) ?_; clear hf a; intro a hf
  refine O.nil ?_
  refine k_seq ?_
  refine W.ifdI hf rfl (fun hc65 => ?_) (fun hc65 => ?_)
  ·replace hm := hm_p hm hc65
   refine W.seq ?_
   -- region 6
   refine W.regionL (l := [0, 1, 2, 3]) rfl ?_
   refine O.val (v := .agg #[Iv 0, Iv 0, Iv 0, Iv 0, Iv 0, Iv 0]) hf rfl rfl rfl (RunV.buildA (cs' := #[Iv 0, Iv 0, Iv 0, Iv 0, Iv 0, Iv 0]) T_arr_25 T_size_23 T_zero_25 rfl (by kernel_rfl)) ?_; clear hf a; intro a hf
   refine O.val hf rfl rfl rfl (RunV.move rfl) ?_; clear hf a; intro a hf
   refine O.store (j := 1) (cs' := #[Iv 0, Iv 0, Iv 0, Iv 0, Iv 0, Iv 0]) (M' := [pt b63 (Cs #[Iv x1, Iv x2, Iv x3, Iv x4, Iv x5, Iv x6] 25), pt b19 (Cs #[Iv 0, Iv 0, Iv 0, Iv 0, Iv 0, Iv 0] 25), pt b18 (Cs #[Iv x14, Iv x15] 23), pt b17 (Cs #[Iv x7, Iv x8, Iv x9, Iv x10, Iv x11, Iv x12] 25), pt b16 (Cs #[Iv x1, Iv x2, Iv x3, Iv x4, Iv x5, Iv x6] 25)]) hf hS rfl rfl rfl T_size_25 rfl rfl rfl (Nat.le_of_ble_eq_true rfl) rfl rfl ?_
   clear hS; intro w hS
   refine O.val hf rfl rfl rfl (RunV.assign rfl) ?_; clear hf a; intro a hf
   refine O.nil ?_
   refine k_seq ?_
   refine W.ret ?_
   refine k_blk_ret ?_
   refine k_then_ret ?_
   refine k_then_ret ?_
   refine k_blk_ret ?_
   refine k_then_ret ?_
   obtain rfl := Option.some.inj hm
   refine post2 hf rfl (ResOK.cellN (cs' := #[Iv 0, Iv 0, Iv 0, Iv 0, Iv 0, Iv 0]) rfl T_agg_25 T_size_25 (hS.ptAt (i := 1) rfl) (Nat.le_of_ble_eq_true rfl) rfl) (ResOK.tmp rfl) ?_
   replace hS := hS.sub (N := []) (.cons _ (.cons _ (.cons _ (.cons _ (.cons _ .slnil)))))
   exact ⟨(), rfl, hS.noB⟩
  ·replace hm := hm_n hm hc65
   refine W.skip ?_
   refine k_blk_normal ?_
   refine k_seq ?_
   -- region 7
   refine W.regionL (l := [0, 1]) rfl ?_
   refine O.val (v := Iv 1) hf rfl rfl rfl (RunV.add (p := 0) (q := 1) rfl rfl) ?_; clear hf a; intro a hf
   refine O.val hf rfl rfl rfl (RunV.move rfl) ?_; clear hf a; intro a hf
   refine O.nil ?_
   refine k_then (LH.step ?_)
   refine W.seq ?_
   -- region 2
   refine W.regionL (l := [0]) rfl ?_
   refine O.val (v := Bv true) hf rfl rfl rfl (RunV.lss (p := 1) (q := 2) rfl rfl) ?_; clear hf a; intro a hf
   refine O.nil ?_
   refine k_seq ?_
   refine W.seq ?_
   refine W.if_tt hf rfl ?_
   refine W.skip ?_
   refine k_seq ?_
   refine W.seq ?_
   refine W.block ?_
   refine W.seq ?_
   -- region 3
   refine W.regionL (l := [0, 1, 2]) rfl ?_
   refine O.val hf rfl rfl rfl (RunV.indexN (j := 1) (cs' := #[Iv x7, Iv x8, Iv x9, Iv x10, Iv x11, Iv x12]) T_arr_40 T_agg_25 T_size_25 rfl rfl rfl (by decide) rfl) ?_; clear hf a; intro a hf
   refine O.alloc (cs := #[Iv 0, Iv 0, Iv 0, Iv 0, Iv 0, Iv 0]) hf hS rfl rfl T_zero_25 rfl ?_
   clear hf hS a; intro b66 w a hb66 hS hf
   refine O.store (j := 0) (cs' := #[Iv x7, Iv x8, Iv x9, Iv x10, Iv x11, Iv x12]) (M' := [pt b66 (Cs #[Iv x7, Iv x8, Iv x9, Iv x10, Iv x11, Iv x12] 25), pt b63 (Cs #[Iv x1, Iv x2, Iv x3, Iv x4, Iv x5, Iv x6] 25), pt b19 (Cs #[Iv 0, Iv 0, Iv 0, Iv 0, Iv 0, Iv 0] 25), pt b18 (Cs #[Iv x14, Iv x15] 23), pt b17 (Cs #[Iv x7, Iv x8, Iv x9, Iv x10, Iv x11, Iv x12] 25), pt b16 (Cs #[Iv x1, Iv x2, Iv x3, Iv x4, Iv x5, Iv x6] 25)]) hf hS rfl rfl rfl T_size_25 rfl rfl rfl (Nat.le_of_ble_eq_true rfl) rfl rfl ?_
   clear hS; intro w hS
   refine O.nil ?_
   refine k_seq ?_
   refine W.seq ?_
   -- region 4
   refine W.regionL (l := [0, 1, 2]) rfl ?_
   refine O.val hf rfl rfl rfl (RunV.loadN (cs' := #[Iv x7, Iv x8, Iv x9, Iv x10, Iv x11, Iv x12]) T_agg_25 T_size_25 rfl (hS.ptAt (i := 0) rfl) (Nat.le_of_ble_eq_true rfl) rfl) ?_; clear hf a; intro a hf
   obtain ⟨x67, hx67, hm⟩ := hm_b hm
   refine O.callR hf rfl rfl rfl (RunE.call (av := #[.agg #[Iv x7, Iv x8, Iv x9, Iv x10, Iv x11, Iv x12]]) C_ok_10 rfl rfl rfl) (m_sphere_Check_ok F x7 x8 x9 x10 x11 x12 _ x67 hx67) ?_
   clear hf a; rintro _ w hS1 a hf
   replace hf : Fr a _ _ ((26, Iv x67) :: _) := hf
   replace hS := (hS.call hS1).eqM (N := [pt b66 (Cs #[Iv x7, Iv x8, Iv x9, Iv x10, Iv x11, Iv x12] 25), pt b63 (Cs #[Iv x1, Iv x2, Iv x3, Iv x4, Iv x5, Iv x6] 25), pt b19 (Cs #[Iv 0, Iv 0, Iv 0, Iv 0, Iv 0, Iv 0] 25), pt b18 (Cs #[Iv x14, Iv x15] 23), pt b17 (Cs #[Iv x7, Iv x8, Iv x9, Iv x10, Iv x11, Iv x12] 25), pt b16 (Cs #[Iv x1, Iv x2, Iv x3, Iv x4, Iv x5, Iv x6] 25)]) rfl
   clear hS1
   refine O.val hf rfl rfl rfl (RunV.assign rfl) ?_; clear hf a; intro a hf
   refine O.nil ?_
   refine k_seq ?_
   refine W.seq ?_
   -- region 5
   refine W.regionL (l := [0, 1]) rfl ?_
   refine O.val hf rfl rfl rfl (RunV.move rfl) ?_; clear hf a; intro a hf
   refine O.val (v := Bv (decide (x67 ≠ (0 : Int)))) hf rfl rfl rfl (RunV.neq rfl rfl) ?_; clear hf a; intro a hf
   refine O.nil ?_
   refine k_seq ?_
   refine W.ifdI hf rfl (fun hc68 => ?_) (fun hc68 => ?_)
   ·replace hm := hm_p hm hc68
    refine W.seq ?_
    -- region 6
    refine W.regionL (l := [0, 1, 2, 3]) rfl ?_
    refine O.val (v := .agg #[Iv 0, Iv 0, Iv 0, Iv 0, Iv 0, Iv 0]) hf rfl rfl rfl (RunV.buildA (cs' := #[Iv 0, Iv 0, Iv 0, Iv 0, Iv 0, Iv 0]) T_arr_25 T_size_23 T_zero_25 rfl (by kernel_rfl)) ?_; clear hf a; intro a hf
    refine O.val hf rfl rfl rfl (RunV.move rfl) ?_; clear hf a; intro a hf
    refine O.store (j := 2) (cs' := #[Iv 0, Iv 0, Iv 0, Iv 0, Iv 0, Iv 0]) (M' := [pt b66 (Cs #[Iv x7, Iv x8, Iv x9, Iv x10, Iv x11, Iv x12] 25), pt b63 (Cs #[Iv x1, Iv x2, Iv x3, Iv x4, Iv x5, Iv x6] 25), pt b19 (Cs #[Iv 0, Iv 0, Iv 0, Iv 0, Iv 0, Iv 0] 25), pt b18 (Cs #[Iv x14, Iv x15] 23), pt b17 (Cs #[Iv x7, Iv x8, Iv x9, Iv x10, Iv x11, Iv x12] 25), pt b16 (Cs #[Iv x1, Iv x2, Iv x3, Iv x4, Iv x5, Iv x6] 25)]) hf hS rfl rfl rfl T_size_25 rfl rfl rfl (Nat.le_of_ble_eq_true rfl) rfl rfl ?_
    clear hS; intro w hS
    refine O.val hf rfl rfl rfl (RunV.assign rfl) ?_; clear hf a; intro a hf
    refine O.nil ?_
    refine k_seq ?_
    refine W.ret ?_
    refine k_blk_ret ?_
    refine k_then_ret ?_
    refine k_then_ret ?_
    refine k_blk_ret ?_
    refine k_then_ret ?_
    obtain rfl := Option.some.inj hm
    refine post2 hf rfl (ResOK.cellN (cs' := #[Iv 0, Iv 0, Iv 0, Iv 0, Iv 0, Iv 0]) rfl T_agg_25 T_size_25 (hS.ptAt (i := 2) rfl) (Nat.le_of_ble_eq_true rfl) rfl) (ResOK.tmp rfl) ?_
    replace hS := hS.sub (N := []) (.cons _ (.cons _ (.cons _ (.cons _ (.cons _ (.cons _ .slnil))))))
    exact ⟨(), rfl, hS.noB⟩
   ·replace hm := hm_n hm hc68
    refine W.skip ?_
    refine k_blk_normal ?_
    refine k_seq ?_
    -- region 7
    refine W.regionL (l := [0, 1]) rfl ?_
    refine O.val (v := Iv 2) hf rfl rfl rfl (RunV.add (p := 1) (q := 1) rfl rfl) ?_; clear hf a; intro a hf
    refine O.val hf rfl rfl rfl (RunV.move rfl) ?_; clear hf a; intro a hf
    refine O.nil ?_
    refine k_then (LH.step ?_)
    refine W.seq ?_
    -- region 2
    refine W.regionL (l := [0]) rfl ?_
    refine O.val (v := Bv false) hf rfl rfl rfl (RunV.lss (p := 2) (q := 2) rfl rfl) ?_; clear hf a; intro a hf
    refine O.nil ?_
    refine k_seq ?_
    refine W.seq ?_
    refine W.if_ff hf rfl ?_
    refine W.exit ?_
    refine k_then_exit ?_
    refine k_then_exit ?_
    refine k_blk ?_
    replace hS := hS.front (i := 2) (M' := [pt b19 (Cs #[Iv 0, Iv 0, Iv 0, Iv 0, Iv 0, Iv 0] 25), pt b66 (Cs #[Iv x7, Iv x8, Iv x9, Iv x10, Iv x11, Iv x12] 25), pt b63 (Cs #[Iv x1, Iv x2, Iv x3, Iv x4, Iv x5, Iv x6] 25), pt b18 (Cs #[Iv x14, Iv x15] 23), pt b17 (Cs #[Iv x7, Iv x8, Iv x9, Iv x10, Iv x11, Iv x12] 25), pt b16 (Cs #[Iv x1, Iv x2, Iv x3, Iv x4, Iv x5, Iv x6] 25)]) rfl rfl
    replace hS := hS.front (i := 3) (M' := [pt b18 (Cs #[Iv x14, Iv x15] 23), pt b19 (Cs #[Iv 0, Iv 0, Iv 0, Iv 0, Iv 0, Iv 0] 25), pt b66 (Cs #[Iv x7, Iv x8, Iv x9, Iv x10, Iv x11, Iv x12] 25), pt b63 (Cs #[Iv x1, Iv x2, Iv x3, Iv x4, Iv x5, Iv x6] 25), pt b17 (Cs #[Iv x7, Iv x8, Iv x9, Iv x10, Iv x11, Iv x12] 25), pt b16 (Cs #[Iv x1, Iv x2, Iv x3, Iv x4, Iv x5, Iv x6] 25)]) rfl rfl
    replace hS := hS.front (i := 4) (M' := [pt b17 (Cs #[Iv x7, Iv x8, Iv x9, Iv x10, Iv x11, Iv x12] 25), pt b18 (Cs #[Iv x14, Iv x15] 23), pt b19 (Cs #[Iv 0, Iv 0, Iv 0, Iv 0, Iv 0, Iv 0] 25), pt b66 (Cs #[Iv x7, Iv x8, Iv x9, Iv x10, Iv x11, Iv x12] 25), pt b63 (Cs #[Iv x1, Iv x2, Iv x3, Iv x4, Iv x5, Iv x6] 25), pt b16 (Cs #[Iv x1, Iv x2, Iv x3, Iv x4, Iv x5, Iv x6] 25)]) rfl rfl
    replace hS := hS.front (i := 5) (M' := [pt b16 (Cs #[Iv x1, Iv x2, Iv x3, Iv x4, Iv x5, Iv x6] 25), pt b17 (Cs #[Iv x7, Iv x8, Iv x9, Iv x10, Iv x11, Iv x12] 25), pt b18 (Cs #[Iv x14, Iv x15] 23), pt b19 (Cs #[Iv 0, Iv 0, Iv 0, Iv 0, Iv 0, Iv 0] 25), pt b66 (Cs #[Iv x7, Iv x8, Iv x9, Iv x10, Iv x11, Iv x12] 25), pt b63 (Cs #[Iv x1, Iv x2, Iv x3, Iv x4, Iv x5, Iv x6] 25)]) rfl rfl
    replace hS := hS.sub (N := [pt b16 (Cs #[Iv x1, Iv x2, Iv x3, Iv x4, Iv x5, Iv x6] 25), pt b17 (Cs #[Iv x7, Iv x8, Iv x9, Iv x10, Iv x11, Iv x12] 25), pt b18 (Cs #[Iv x14, Iv x15] 23), pt b19 (Cs #[Iv 0, Iv 0, Iv 0, Iv 0, Iv 0, Iv 0] 25)]) (.cons_cons _ (.cons_cons _ (.cons_cons _ (.cons_cons _ (.cons _ (.cons _ .slnil))))))
    exact k_then ⟨hf.to ⟨rfl, rfl, rfl, rfl, rfl, rfl, trivial⟩, hS, hm⟩
 ·clear hf hS hm a; try clear w
  rintro a w ⟨hf, hS, hm⟩
  unfold m_cells_Ahead_j3 at hm
  refine W.seq ?_
  refine W.seq ?_
  -- region 8
  refine W.regionL (l := [0, 1, 2]) rfl ?_
  refine O.val hf rfl rfl rfl (RunV.loadN (cs' := #[Iv x14, Iv x15]) T_agg_23 T_size_23 rfl (hS.ptAt (i := 2) rfl) (Nat.le_of_ble_eq_true rfl) rfl) ?_; clear hf a; intro a hf
  obtain ⟨x20, hx20, hm⟩ := hm_b hm
  refine O.callR hf rfl rfl rfl (RunE.call (av := #[.agg #[Iv x14, Iv x15]]) C_ok_11 rfl rfl rfl) (m_span_Check_ok F x14 x15 _ x20 hx20) ?_
  clear hf a; rintro _ w hS1 a hf
  replace hf : Fr a _ _ ((33, Iv x20) :: _) := hf
  replace hS := (hS.call hS1).eqM (N := [pt b16 (Cs #[Iv x1, Iv x2, Iv x3, Iv x4, Iv x5, Iv x6] 25), pt b17 (Cs #[Iv x7, Iv x8, Iv x9, Iv x10, Iv x11, Iv x12] 25), pt b18 (Cs #[Iv x14, Iv x15] 23), pt b19 (Cs #[Iv 0, Iv 0, Iv 0, Iv 0, Iv 0, Iv 0] 25)]) rfl
  clear hS1
  refine O.val hf rfl rfl rfl (RunV.assign rfl) ?_; clear hf a; intro a hf
  refine O.nil ?_
  refine k_seq ?_
  replace hf : Fr a 119 [] [(2, Iv x13), (4, Pv b16 0), (5, Pv b17 0), (7, Pv b18 0), (8, Pv b19 0), (9, Iv 0), (13, Iv x20)] := hf.to ⟨rfl, rfl, rfl, rfl, rfl, rfl, rfl, trivial⟩
  refine W.seq ?_
  -- region 9
  refine W.regionL (l := [0, 1]) rfl ?_
  refine O.val hf rfl rfl rfl (RunV.move rfl) ?_; clear hf a; intro a hf
  refine O.val (v := Bv (decide (x20 ≠ (0 : Int)))) hf rfl rfl rfl (RunV.neq rfl rfl) ?_; clear hf a; intro a hf
  refine O.nil ?_
  refine k_seq ?_
  replace hf : Fr a 119 [] [(2, Iv x13), (4, Pv b16 0), (5, Pv b17 0), (7, Pv b18 0), (8, Pv b19 0), (9, Iv 0), (13, Iv x20), (35, Bv (decide (x20 ≠ (0 : Int))))] := hf.to ⟨rfl, rfl, rfl, rfl, rfl, rfl, rfl, rfl, trivial⟩
  refine W.ifdI hf rfl (fun hc21 => ?_) (fun hc21 => ?_)
  ·replace hm := hm_p hm hc21
   refine W.seq ?_
   -- region 10
   refine W.regionL (l := [0, 1, 2, 3]) rfl ?_
   refine O.val (v := .agg #[Iv 0, Iv 0, Iv 0, Iv 0, Iv 0, Iv 0]) hf rfl rfl rfl (RunV.buildA (cs' := #[Iv 0, Iv 0, Iv 0, Iv 0, Iv 0, Iv 0]) T_arr_25 T_size_23 T_zero_25 rfl (by kernel_rfl)) ?_; clear hf a; intro a hf
   refine O.val hf rfl rfl rfl (RunV.move rfl) ?_; clear hf a; intro a hf
   refine O.store (j := 3) (cs' := #[Iv 0, Iv 0, Iv 0, Iv 0, Iv 0, Iv 0]) (M' := [pt b16 (Cs #[Iv x1, Iv x2, Iv x3, Iv x4, Iv x5, Iv x6] 25), pt b17 (Cs #[Iv x7, Iv x8, Iv x9, Iv x10, Iv x11, Iv x12] 25), pt b18 (Cs #[Iv x14, Iv x15] 23), pt b19 (Cs #[Iv 0, Iv 0, Iv 0, Iv 0, Iv 0, Iv 0] 25)]) hf hS rfl rfl rfl T_size_25 rfl rfl rfl (Nat.le_of_ble_eq_true rfl) rfl rfl ?_
   clear hS; intro w hS
   refine O.val hf rfl rfl rfl (RunV.assign rfl) ?_; clear hf a; intro a hf
   refine O.nil ?_
   refine k_seq ?_
   replace hf : Fr a 119 [] [(2, Iv x13), (4, Pv b16 0), (5, Pv b17 0), (7, Pv b18 0), (8, Pv b19 0), (9, Iv x20)] := hf.to ⟨rfl, rfl, rfl, rfl, rfl, rfl, trivial⟩
   refine W.ret ?_
   refine k_then_ret ?_
   obtain rfl := Option.some.inj hm
   refine post2 hf rfl (ResOK.cellN (cs' := #[Iv 0, Iv 0, Iv 0, Iv 0, Iv 0, Iv 0]) rfl T_agg_25 T_size_25 (hS.ptAt (i := 3) rfl) (Nat.le_of_ble_eq_true rfl) rfl) (ResOK.tmp rfl) ?_
   replace hS := hS.sub (N := []) (.cons _ (.cons _ (.cons _ (.cons _ .slnil))))
   exact ⟨(), rfl, hS.noB⟩
  ·replace hm := hm_n hm hc21
   refine W.skip ?_
   refine k_seq ?_
   replace hf : Fr a 119 [] [(2, Iv x13), (4, Pv b16 0), (5, Pv b17 0), (7, Pv b18 0), (8, Pv b19 0), (9, Iv 0)] := hf.to ⟨rfl, rfl, rfl, rfl, rfl, rfl, trivial⟩
   refine W.seq ?_
   refine W.seq ?_
   -- region 11
   refine W.regionL (l := [0, 1, 2]) rfl ?_
   refine O.val hf rfl rfl rfl (RunV.field T_field_23_0 rfl rfl) ?_; clear hf a; intro a hf
   refine O.val hf rfl rfl rfl (RunV.load1 T_agg_2 rfl (hS.ptAt (i := 2) rfl) rfl) ?_; clear hf a; intro a hf
   refine O.val (v := Bv (decide (x14 < (0 : Int)))) hf rfl rfl rfl (RunV.lss rfl rfl) ?_; clear hf a; intro a hf
   refine O.nil ?_
   refine k_seq ?_
   replace hf : Fr a 119 [] [(2, Iv x13), (4, Pv b16 0), (5, Pv b17 0), (7, Pv b18 0), (8, Pv b19 0), (9, Iv 0), (40, Bv (decide (x14 < (0 : Int))))] := hf.to ⟨rfl, rfl, rfl, rfl, rfl, rfl, rfl, trivial⟩
   refine W.ifdI hf rfl (fun hc22 => ?_) (fun hc22 => ?_)
   ·replace hm := hm_p hm hc22
    refine W.seq ?_
    -- region 12
    refine W.regionL (l := [0, 1, 2]) rfl ?_
    refine O.val (v := .agg #[Iv 0, Iv 0, Iv 0, Iv 0, Iv 0, Iv 0]) hf rfl rfl rfl (RunV.buildA (cs' := #[Iv 0, Iv 0, Iv 0, Iv 0, Iv 0, Iv 0]) T_arr_25 T_size_23 T_zero_25 rfl (by kernel_rfl)) ?_; clear hf a; intro a hf
    refine O.store (j := 3) (cs' := #[Iv 0, Iv 0, Iv 0, Iv 0, Iv 0, Iv 0]) (M' := [pt b16 (Cs #[Iv x1, Iv x2, Iv x3, Iv x4, Iv x5, Iv x6] 25), pt b17 (Cs #[Iv x7, Iv x8, Iv x9, Iv x10, Iv x11, Iv x12] 25), pt b18 (Cs #[Iv x14, Iv x15] 23), pt b19 (Cs #[Iv 0, Iv 0, Iv 0, Iv 0, Iv 0, Iv 0] 25)]) hf hS rfl rfl rfl T_size_25 rfl rfl rfl (Nat.le_of_ble_eq_true rfl) rfl rfl ?_
    clear hS; intro w hS
    refine O.val hf rfl rfl rfl (RunV.assign rfl) ?_; clear hf a; intro a hf
    refine O.nil ?_
    refine k_seq ?_
    replace hf : Fr a 119 [] [(2, Iv x13), (4, Pv b16 0), (5, Pv b17 0), (7, Pv b18 0), (8, Pv b19 0), (9, Iv 2)] := hf.to ⟨rfl, rfl, rfl, rfl, rfl, rfl, trivial⟩
    refine W.ret ?_
    refine k_then_ret ?_
    obtain rfl := Option.some.inj hm
    refine post2 hf rfl (ResOK.cellN (cs' := #[Iv 0, Iv 0, Iv 0, Iv 0, Iv 0, Iv 0]) rfl T_agg_25 T_size_25 (hS.ptAt (i := 3) rfl) (Nat.le_of_ble_eq_true rfl) rfl) (ResOK.tmp rfl) ?_
    replace hS := hS.sub (N := []) (.cons _ (.cons _ (.cons _ (.cons _ .slnil))))
    exact ⟨(), rfl, hS.noB⟩
   ·replace hm := hm_n hm hc22
    refine W.skip ?_
    refine k_seq ?_
    replace hf : Fr a 119 [] [(2, Iv x13), (4, Pv b16 0), (5, Pv b17 0), (7, Pv b18 0), (8, Pv b19 0), (9, Iv 0)] := hf.to ⟨rfl, rfl, rfl, rfl, rfl, rfl, trivial⟩
    refine W.seq ?_
    -- region 13
    refine W.regionL (l := [0, 1]) rfl ?_
    obtain ⟨x23, hx23, hm⟩ := hm_b hm
    refine O.callR hf rfl rfl rfl (RunE.call (av := #[]) C_ok_12 rfl rfl rfl) (m_cells_begin_ok F _ x23 hx23) ?_
    clear hf a; rintro b24 w hS1 a hf
    replace hf : Fr a _ _ ((42, Pv b24 0) :: _) := hf
    replace hS := (hS.call hS1).eqM (N := [pt b24 (Cs #[.func (.func 22) #[] #[], .func (.func 23) #[] #[], .func (.func 24) #[] #[], .func (.func 25) #[] #[], Iv 0] 48), pt b16 (Cs #[Iv x1, Iv x2, Iv x3, Iv x4, Iv x5, Iv x6] 25), pt b17 (Cs #[Iv x7, Iv x8, Iv x9, Iv x10, Iv x11, Iv x12] 25), pt b18 (Cs #[Iv x14, Iv x15] 23), pt b19 (Cs #[Iv 0, Iv 0, Iv 0, Iv 0, Iv 0, Iv 0] 25)]) rfl
    clear hS1
    refine O.val hf rfl rfl rfl (RunV.assign rfl) ?_; clear hf a; intro a hf
    refine O.nil ?_
    refine k_seq ?_
    replace hf : Fr a 119 [] [(2, Iv x13), (4, Pv b16 0), (5, Pv b17 0), (7, Pv b18 0), (8, Pv b19 0), (9, Iv 0), (14, Pv b24 0)] := hf.to ⟨rfl, rfl, rfl, rfl, rfl, rfl, rfl, trivial⟩
    refine W.seq ?_
    -- region 14
    refine W.regionL (l := [0]) rfl ?_
    refine O.alloc (cs := #[Iv 0, Iv 0, Iv 0, Iv 0, Iv 0, Iv 0]) hf hS rfl rfl T_zero_25 rfl ?_
    clear hf hS a; intro b25 w a hb25 hS hf
    refine O.nil ?_
    refine k_seq ?_
    refine W.seqR (fun a w => ∃ (x26 : Int) (x27 : Int) (x28 : Int) (x29 : Int) (x30 : Int) (x31 : Int) (x32 : Int), Fr a 119 [] [(2, Iv x13), (7, Pv b18 0), (8, Pv b19 0), (9, Iv 0), (14, Pv b24 0), (15, Pv b25 0)] ∧ St w0 w noX [] [pt b18 (Cs #[Iv x14, Iv x15] 23), pt b19 (Cs #[Iv 0, Iv 0, Iv 0, Iv 0, Iv 0, Iv 0] 25), pt b24 (Cs #[.func (.func 22) #[] #[], .func (.func 23) #[] #[], .func (.func 24) #[] #[], .func (.func 25) #[] #[], Iv x26] 48), pt b25 (Cs #[Iv x27, Iv x28, Iv x29, Iv x30, Iv x31, Iv x32] 25)] ∧ m_cells_Ahead_j2 F x14 x15 x13 x26 x27 x28 x29 x30 x31 x32 = some r) ?_ ?_
    ·refine W.seq ?_
     -- region 15
     refine W.regionL (l := [0]) rfl ?_
     refine O.val hf rfl rfl rfl (RunV.move rfl) ?_; clear hf a; intro a hf
     refine O.nil ?_
     refine k_seq ?_
     refine W.block ?_
     refine W.loopH (LH.step ?_)
     refine W.seq ?_
     -- region 16
     refine W.regionL (l := [0]) rfl ?_
     refine O.val (v := Bv true) hf rfl rfl rfl (RunV.lss (p := 0) (q := 3) rfl rfl) ?_; clear hf a; intro a hf
     refine O.nil ?_
     refine k_seq ?_
     refine W.seq ?_
     refine W.if_tt hf rfl ?_
     refine W.skip ?_
     refine k_seq ?_
     refine W.seq ?_
     refine W.block ?_
     refine W.seq ?_
     -- region 17
     refine W.regionL (l := [0, 1]) rfl ?_
     refine O.val hf rfl rfl rfl (RunV.move rfl) ?_; clear hf a; intro a hf
     refine O.val hf rfl rfl rfl (RunV.assign rfl) ?_; clear hf a; intro a hf
     refine O.nil ?_
     refine k_seq ?_
     -- region 18, which draws its order
     -- [17, 18, 20] turn memory
     have hf1 : Fr a 119 [] [] := hf.to trivial
     replace hf : Fr a 119 [] [(2, Iv x13), (4, Pv b16 0), (5, Pv b17 0), (7, Pv b18 0), (8, Pv b19 0), (9, Iv 0), (14, Pv b24 0), (15, Pv b25 0), (16, Iv 0), (43, Iv 0), (44, Bv true), (45, Iv 0)] := hf.to ⟨rfl, rfl, rfl, rfl, rfl, rfl, rfl, rfl, rfl, rfl, rfl, rfl, trivial⟩
     obtain ⟨x54, hx54, hm⟩ := hm_b hm
     obtain ⟨x55, hx55, hm⟩ := hm_b hm
     obtain ⟨x56, hx56, hm⟩ := hm_b hm
     refine W.drawP (γ := Unit) (L0 := [(2, Iv x13), (4, Pv b16 0), (5, Pv b17 0), (7, Pv b18 0), (8, Pv b19 0), (9, Iv 0), (14, Pv b24 0), (15, Pv b25 0), (16, Iv 0), (43, Iv 0), (44, Bv true), (45, Iv 0)]) (L1 := []) () [17, 18, 20] [0, 1, 2, 3, 4, 5, 6, 7, 8, 9, 10, 11, 12, 13, 14, 15, 16, 19] (fun i => match i with | 0 => [] | 1 => [] | 2 => [] | 3 => [2] | 4 => [3] | 5 => [4] | 6 => [] | 7 => [6] | 8 => [7] | 9 => [] | 10 => [] | 11 => [10] | 12 => [11] | 13 => [] | 14 => [12, 13] | 15 => [14] | 16 => [14] | 17 => [9, 14, 15, 16] | 18 => [1, 5, 8, 17] | 19 => [0, 1, 2, 3, 4, 5, 6, 7, 8, 9, 10, 11, 12, 13, 14, 15, 16, 17, 18] | 20 => [0, 1, 2, 3, 4, 5, 6, 7, 8, 9, 10, 11, 12, 13, 14, 15, 16, 17, 18, 19] | _ => []) (fun i => match i with | 18 => [17] | 19 => [17, 18] | 20 => [17, 18] | _ => []) (fun i => match i with | 0 => [20] | 1 => [18, 20] | 2 => [18, 20] | 3 => [18, 20] | 4 => [18, 20] | 5 => [18, 20] | 6 => [18, 20] | 7 => [18, 20] | 8 => [18, 20] | 9 => [17, 18, 20] | 10 => [17, 18, 20] | 11 => [17, 18, 20] | 12 => [17, 18, 20] | 13 => [17, 18, 20] | 14 => [17, 18, 20] | 15 => [17, 18, 20] | 16 => [17, 18, 20] | 17 => [18, 20] | 18 => [20] | 19 => [20] | _ => []) (fun i => match i with | 17 => [18, 19, 20] | 18 => [19, 20] | 20 => [] | _ => []) (fun _ => []) (fun (g : Unit) j => match g, j with | _, 0 => Iv 0 | _, 1 => Pv b24 0 | _, 2 => Pv b24 0 | _, 3 => Pv b24 0 | _, 4 => Pv b24 0 | _, 5 => .func (.func 22) #[] #[] | _, 6 => Iv 0 | _, 7 => Pv b16 0 | _, 8 => .agg #[Iv x1, Iv x2] | _, 9 => Pv b24 0 | _, 10 => Iv 0 | _, 11 => Pv b17 0 | _, 12 => .agg #[Iv x7, Iv x8] | _, 13 => Iv x13 | _, 14 => .tuple #[.agg #[Iv x54.1, Iv x54.2.1], Iv x54.2.2] | _, 15 => .agg #[Iv x54.1, Iv x54.2.1] | _, 16 => Iv x54.2.2 | _, 17 => .agg #[Iv x55.1, Iv x55.2.1] | _, 18 => .agg #[Iv x56.1, Iv x56.2.1] | _, 19 => Pv b25 0 | _, _ => undef) (fun s (g : Unit) w => match g with | _ => (s 17 = false ∧ s 18 = false ∧ s 20 = false ∧ St w0 w noX [] [pt b25 (Cs #[Iv 0, Iv 0, Iv 0, Iv 0, Iv 0, Iv 0] 25), pt b24 (Cs #[.func (.func 22) #[] #[], .func (.func 23) #[] #[], .func (.func 24) #[] #[], .func (.func 25) #[] #[], Iv 0] 48), pt b16 (Cs #[Iv x1, Iv x2, Iv x3, Iv x4, Iv x5, Iv x6] 25), pt b17 (Cs #[Iv x7, Iv x8, Iv x9, Iv x10, Iv x11, Iv x12] 25), pt b18 (Cs #[Iv x14, Iv x15] 23), pt b19 (Cs #[Iv 0, Iv 0, Iv 0, Iv 0, Iv 0, Iv 0] 25)]) ∨ (s 17 = true ∧ s 18 = false ∧ s 20 = false ∧ St w0 w noX [] [pt b24 (Cs #[.func (.func 22) #[] #[], .func (.func 23) #[] #[], .func (.func 24) #[] #[], .func (.func 25) #[] #[], Iv x55.2.2] 48), pt b25 (Cs #[Iv 0, Iv 0, Iv 0, Iv 0, Iv 0, Iv 0] 25), pt b16 (Cs #[Iv x1, Iv x2, Iv x3, Iv x4, Iv x5, Iv x6] 25), pt b17 (Cs #[Iv x7, Iv x8, Iv x9, Iv x10, Iv x11, Iv x12] 25), pt b18 (Cs #[Iv x14, Iv x15] 23), pt b19 (Cs #[Iv 0, Iv 0, Iv 0, Iv 0, Iv 0, Iv 0] 25)]) ∨ (s 17 = true ∧ s 18 = true ∧ s 20 = false ∧ St w0 w noX [] [pt b24 (Cs #[.func (.func 22) #[] #[], .func (.func 23) #[] #[], .func (.func 24) #[] #[], .func (.func 25) #[] #[], Iv x56.2.2] 48), pt b25 (Cs #[Iv 0, Iv 0, Iv 0, Iv 0, Iv 0, Iv 0] 25), pt b16 (Cs #[Iv x1, Iv x2, Iv x3, Iv x4, Iv x5, Iv x6] 25), pt b17 (Cs #[Iv x7, Iv x8, Iv x9, Iv x10, Iv x11, Iv x12] 25), pt b18 (Cs #[Iv x14, Iv x15] 23), pt b19 (Cs #[Iv 0, Iv 0, Iv 0, Iv 0, Iv 0, Iv 0] 25)]) ∨ (s 17 = true ∧ s 18 = true ∧ s 20 = true ∧ St w0 w noX [] [pt b24 (Cs #[.func (.func 22) #[] #[], .func (.func 23) #[] #[], .func (.func 24) #[] #[], .func (.func 25) #[] #[], Iv x56.2.2] 48), pt b25 (Cs #[Iv x56.1, Iv x56.2.1, Iv 0, Iv 0, Iv 0, Iv 0] 25), pt b16 (Cs #[Iv x1, Iv x2, Iv x3, Iv x4, Iv x5, Iv x6] 25), pt b17 (Cs #[Iv x7, Iv x8, Iv x9, Iv x10, Iv x11, Iv x12] 25), pt b18 (Cs #[Iv x14, Iv x15] 23), pt b19 (Cs #[Iv 0, Iv 0, Iv 0, Iv 0, Iv 0, Iv 0] 25)])) P_mixed (by kernel_rfl) hf hf1 (Or.inl ⟨rfl, rfl, rfl, hS.drew⟩) ?_ ?_ ?_
     ·clear hf hf1 hS
      refine ⟨?_, ?_, ?_, ?_, ?_, ?_, ?_, ?_, ?_, ?_, ?_, ?_, ?_, ?_, ?_, ?_, ?_, ?_, trivial⟩
      ·intro s g w hsp hsb hD a hf
       rcases hD with (⟨h17_, h18_, h20_, hD⟩ | ⟨h17_, h18_, h20_, hD⟩ | ⟨h17_, h18_, h20_, hD⟩ | ⟨h17_, h18_, h20_, hD⟩)
       ·have hS : St w0 w noX [] [pt b25 (Cs #[Iv 0, Iv 0, Iv 0, Iv 0, Iv 0, Iv 0] 25), pt b24 (Cs #[.func (.func 22) #[] #[], .func (.func 23) #[] #[], .func (.func 24) #[] #[], .func (.func 25) #[] #[], Iv 0] 48), pt b16 (Cs #[Iv x1, Iv x2, Iv x3, Iv x4, Iv x5, Iv x6] 25), pt b17 (Cs #[Iv x7, Iv x8, Iv x9, Iv x10, Iv x11, Iv x12] 25), pt b18 (Cs #[Iv x14, Iv x15] 23), pt b19 (Cs #[Iv 0, Iv 0, Iv 0, Iv 0, Iv 0, Iv 0] 25)] := hD; clear hD
        replace hf : Fr a 119 [] [(2, Iv x13), (4, Pv b16 0), (5, Pv b17 0), (7, Pv b18 0), (8, Pv b19 0), (9, Iv 0), (14, Pv b24 0), (15, Pv b25 0), (16, Iv 0), (43, Iv 0), (44, Bv true), (45, Iv 0)] := hf
        refine O.val hf rfl rfl rfl (RunV.move rfl) ?_; clear hf a; intro a hf
        exact O.nil ⟨rfl, hf.to trivial, (fun d hd => by cases (show some 46 = some d from hd); exact hf.get _ _ rfl), (Or.inl ⟨h17_, h18_, h20_, hS⟩)⟩
       ·have hS : St w0 w noX [] [pt b24 (Cs #[.func (.func 22) #[] #[], .func (.func 23) #[] #[], .func (.func 24) #[] #[], .func (.func 25) #[] #[], Iv x55.2.2] 48), pt b25 (Cs #[Iv 0, Iv 0, Iv 0, Iv 0, Iv 0, Iv 0] 25), pt b16 (Cs #[Iv x1, Iv x2, Iv x3, Iv x4, Iv x5, Iv x6] 25), pt b17 (Cs #[Iv x7, Iv x8, Iv x9, Iv x10, Iv x11, Iv x12] 25), pt b18 (Cs #[Iv x14, Iv x15] 23), pt b19 (Cs #[Iv 0, Iv 0, Iv 0, Iv 0, Iv 0, Iv 0] 25)] := hD; clear hD
        replace hf : Fr a 119 [] [(2, Iv x13), (4, Pv b16 0), (5, Pv b17 0), (7, Pv b18 0), (8, Pv b19 0), (9, Iv 0), (14, Pv b24 0), (15, Pv b25 0), (16, Iv 0), (43, Iv 0), (44, Bv true), (45, Iv 0)] := hf
        refine O.val hf rfl rfl rfl (RunV.move rfl) ?_; clear hf a; intro a hf
        exact O.nil ⟨rfl, hf.to trivial, (fun d hd => by cases (show some 46 = some d from hd); exact hf.get _ _ rfl), (Or.inr (Or.inl ⟨h17_, h18_, h20_, hS⟩))⟩
       ·have hS : St w0 w noX [] [pt b24 (Cs #[.func (.func 22) #[] #[], .func (.func 23) #[] #[], .func (.func 24) #[] #[], .func (.func 25) #[] #[], Iv x56.2.2] 48), pt b25 (Cs #[Iv 0, Iv 0, Iv 0, Iv 0, Iv 0, Iv 0] 25), pt b16 (Cs #[Iv x1, Iv x2, Iv x3, Iv x4, Iv x5, Iv x6] 25), pt b17 (Cs #[Iv x7, Iv x8, Iv x9, Iv x10, Iv x11, Iv x12] 25), pt b18 (Cs #[Iv x14, Iv x15] 23), pt b19 (Cs #[Iv 0, Iv 0, Iv 0, Iv 0, Iv 0, Iv 0] 25)] := hD; clear hD
        replace hf : Fr a 119 [] [(2, Iv x13), (4, Pv b16 0), (5, Pv b17 0), (7, Pv b18 0), (8, Pv b19 0), (9, Iv 0), (14, Pv b24 0), (15, Pv b25 0), (16, Iv 0), (43, Iv 0), (44, Bv true), (45, Iv 0)] := hf
        refine O.val hf rfl rfl rfl (RunV.move rfl) ?_; clear hf a; intro a hf
        exact O.nil ⟨rfl, hf.to trivial, (fun d hd => by cases (show some 46 = some d from hd); exact hf.get _ _ rfl), (Or.inr (Or.inr (Or.inl ⟨h17_, h18_, h20_, hS⟩)))⟩
       ·exact absurd ((hsb 20 (by simp)).symm.trans h20_) (by decide)
      ·intro s g w hsp hsb hD a hf
       rcases hD with (⟨h17_, h18_, h20_, hD⟩ | ⟨h17_, h18_, h20_, hD⟩ | ⟨h17_, h18_, h20_, hD⟩ | ⟨h17_, h18_, h20_, hD⟩)
       ·have hS : St w0 w noX [] [pt b25 (Cs #[Iv 0, Iv 0, Iv 0, Iv 0, Iv 0, Iv 0] 25), pt b24 (Cs #[.func (.func 22) #[] #[], .func (.func 23) #[] #[], .func (.func 24) #[] #[], .func (.func 25) #[] #[], Iv 0] 48), pt b16 (Cs #[Iv x1, Iv x2, Iv x3, Iv x4, Iv x5, Iv x6] 25), pt b17 (Cs #[Iv x7, Iv x8, Iv x9, Iv x10, Iv x11, Iv x12] 25), pt b18 (Cs #[Iv x14, Iv x15] 23), pt b19 (Cs #[Iv 0, Iv 0, Iv 0, Iv 0, Iv 0, Iv 0] 25)] := hD; clear hD
        replace hf : Fr a 119 [] [(2, Iv x13), (4, Pv b16 0), (5, Pv b17 0), (7, Pv b18 0), (8, Pv b19 0), (9, Iv 0), (14, Pv b24 0), (15, Pv b25 0), (16, Iv 0), (43, Iv 0), (44, Bv true), (45, Iv 0)] := hf
        refine O.val hf rfl rfl rfl (RunV.move rfl) ?_; clear hf a; intro a hf
        exact O.nil ⟨rfl, hf.to trivial, (fun d hd => by cases (show some 47 = some d from hd); exact hf.get _ _ rfl), (Or.inl ⟨h17_, h18_, h20_, hS⟩)⟩
       ·have hS : St w0 w noX [] [pt b24 (Cs #[.func (.func 22) #[] #[], .func (.func 23) #[] #[], .func (.func 24) #[] #[], .func (.func 25) #[] #[], Iv x55.2.2] 48), pt b25 (Cs #[Iv 0, Iv 0, Iv 0, Iv 0, Iv 0, Iv 0] 25), pt b16 (Cs #[Iv x1, Iv x2, Iv x3, Iv x4, Iv x5, Iv x6] 25), pt b17 (Cs #[Iv x7, Iv x8, Iv x9, Iv x10, Iv x11, Iv x12] 25), pt b18 (Cs #[Iv x14, Iv x15] 23), pt b19 (Cs #[Iv 0, Iv 0, Iv 0, Iv 0, Iv 0, Iv 0] 25)] := hD; clear hD
        replace hf : Fr a 119 [] [(2, Iv x13), (4, Pv b16 0), (5, Pv b17 0), (7, Pv b18 0), (8, Pv b19 0), (9, Iv 0), (14, Pv b24 0), (15, Pv b25 0), (16, Iv 0), (43, Iv 0), (44, Bv true), (45, Iv 0)] := hf
        refine O.val hf rfl rfl rfl (RunV.move rfl) ?_; clear hf a; intro a hf
        exact O.nil ⟨rfl, hf.to trivial, (fun d hd => by cases (show some 47 = some d from hd); exact hf.get _ _ rfl), (Or.inr (Or.inl ⟨h17_, h18_, h20_, hS⟩))⟩
       ·exact absurd ((hsb 18 (by simp)).symm.trans h18_) (by decide)
       ·exact absurd ((hsb 18 (by simp)).symm.trans h18_) (by decide)
      ·intro s g w hsp hsb hD a hf
       rcases hD with (⟨h17_, h18_, h20_, hD⟩ | ⟨h17_, h18_, h20_, hD⟩ | ⟨h17_, h18_, h20_, hD⟩ | ⟨h17_, h18_, h20_, hD⟩)
       ·have hS : St w0 w noX [] [pt b25 (Cs #[Iv 0, Iv 0, Iv 0, Iv 0, Iv 0, Iv 0] 25), pt b24 (Cs #[.func (.func 22) #[] #[], .func (.func 23) #[] #[], .func (.func 24) #[] #[], .func (.func 25) #[] #[], Iv 0] 48), pt b16 (Cs #[Iv x1, Iv x2, Iv x3, Iv x4, Iv x5, Iv x6] 25), pt b17 (Cs #[Iv x7, Iv x8, Iv x9, Iv x10, Iv x11, Iv x12] 25), pt b18 (Cs #[Iv x14, Iv x15] 23), pt b19 (Cs #[Iv 0, Iv 0, Iv 0, Iv 0, Iv 0, Iv 0] 25)] := hD; clear hD
        replace hf : Fr a 119 [] [(2, Iv x13), (4, Pv b16 0), (5, Pv b17 0), (7, Pv b18 0), (8, Pv b19 0), (9, Iv 0), (14, Pv b24 0), (15, Pv b25 0), (16, Iv 0), (43, Iv 0), (44, Bv true), (45, Iv 0)] := hf
        refine O.val hf rfl rfl rfl (RunV.move rfl) ?_; clear hf a; intro a hf
        exact O.nil ⟨rfl, hf.to trivial, (fun d hd => by cases (show some 48 = some d from hd); exact hf.get _ _ rfl), (Or.inl ⟨h17_, h18_, h20_, hS⟩)⟩
       ·have hS : St w0 w noX [] [pt b24 (Cs #[.func (.func 22) #[] #[], .func (.func 23) #[] #[], .func (.func 24) #[] #[], .func (.func 25) #[] #[], Iv x55.2.2] 48), pt b25 (Cs #[Iv 0, Iv 0, Iv 0, Iv 0, Iv 0, Iv 0] 25), pt b16 (Cs #[Iv x1, Iv x2, Iv x3, Iv x4, Iv x5, Iv x6] 25), pt b17 (Cs #[Iv x7, Iv x8, Iv x9, Iv x10, Iv x11, Iv x12] 25), pt b18 (Cs #[Iv x14, Iv x15] 23), pt b19 (Cs #[Iv 0, Iv 0, Iv 0, Iv 0, Iv 0, Iv 0] 25)] := hD; clear hD
        replace hf : Fr a 119 [] [(2, Iv x13), (4, Pv b16 0), (5, Pv b17 0), (7, Pv b18 0), (8, Pv b19 0), (9, Iv 0), (14, Pv b24 0), (15, Pv b25 0), (16, Iv 0), (43, Iv 0), (44, Bv true), (45, Iv 0)] := hf
        refine O.val hf rfl rfl rfl (RunV.move rfl) ?_; clear hf a; intro a hf
        exact O.nil ⟨rfl, hf.to trivial, (fun d hd => by cases (show some 48 = some d from hd); exact hf.get _ _ rfl), (Or.inr (Or.inl ⟨h17_, h18_, h20_, hS⟩))⟩
       ·exact absurd ((hsb 18 (by simp)).symm.trans h18_) (by decide)
       ·exact absurd ((hsb 18 (by simp)).symm.trans h18_) (by decide)
      ·intro s g w hsp hsb hD a hf
       rcases hD with (⟨h17_, h18_, h20_, hD⟩ | ⟨h17_, h18_, h20_, hD⟩ | ⟨h17_, h18_, h20_, hD⟩ | ⟨h17_, h18_, h20_, hD⟩)
       ·have hS : St w0 w noX [] [pt b25 (Cs #[Iv 0, Iv 0, Iv 0, Iv 0, Iv 0, Iv 0] 25), pt b24 (Cs #[.func (.func 22) #[] #[], .func (.func 23) #[] #[], .func (.func 24) #[] #[], .func (.func 25) #[] #[], Iv 0] 48), pt b16 (Cs #[Iv x1, Iv x2, Iv x3, Iv x4, Iv x5, Iv x6] 25), pt b17 (Cs #[Iv x7, Iv x8, Iv x9, Iv x10, Iv x11, Iv x12] 25), pt b18 (Cs #[Iv x14, Iv x15] 23), pt b19 (Cs #[Iv 0, Iv 0, Iv 0, Iv 0, Iv 0, Iv 0] 25)] := hD; clear hD
        replace hf : Fr a 119 [] [(48, Pv b24 0), (2, Iv x13), (4, Pv b16 0), (5, Pv b17 0), (7, Pv b18 0), (8, Pv b19 0), (9, Iv 0), (14, Pv b24 0), (15, Pv b25 0), (16, Iv 0), (43, Iv 0), (44, Bv true), (45, Iv 0)] := hf
        refine O.val hf rfl rfl rfl (RunV.nilCheck rfl) ?_; clear hf a; intro a hf
        exact O.nil ⟨rfl, hf.to trivial, (fun d hd => by cases (show some 49 = some d from hd); exact hf.get _ _ rfl), (Or.inl ⟨h17_, h18_, h20_, hS⟩)⟩
       ·have hS : St w0 w noX [] [pt b24 (Cs #[.func (.func 22) #[] #[], .func (.func 23) #[] #[], .func (.func 24) #[] #[], .func (.func 25) #[] #[], Iv x55.2.2] 48), pt b25 (Cs #[Iv 0, Iv 0, Iv 0, Iv 0, Iv 0, Iv 0] 25), pt b16 (Cs #[Iv x1, Iv x2, Iv x3, Iv x4, Iv x5, Iv x6] 25), pt b17 (Cs #[Iv x7, Iv x8, Iv x9, Iv x10, Iv x11, Iv x12] 25), pt b18 (Cs #[Iv x14, Iv x15] 23), pt b19 (Cs #[Iv 0, Iv 0, Iv 0, Iv 0, Iv 0, Iv 0] 25)] := hD; clear hD
        replace hf : Fr a 119 [] [(48, Pv b24 0), (2, Iv x13), (4, Pv b16 0), (5, Pv b17 0), (7, Pv b18 0), (8, Pv b19 0), (9, Iv 0), (14, Pv b24 0), (15, Pv b25 0), (16, Iv 0), (43, Iv 0), (44, Bv true), (45, Iv 0)] := hf
        refine O.val hf rfl rfl rfl (RunV.nilCheck rfl) ?_; clear hf a; intro a hf
        exact O.nil ⟨rfl, hf.to trivial, (fun d hd => by cases (show some 49 = some d from hd); exact hf.get _ _ rfl), (Or.inr (Or.inl ⟨h17_, h18_, h20_, hS⟩))⟩
       ·exact absurd ((hsb 18 (by simp)).symm.trans h18_) (by decide)
       ·exact absurd ((hsb 18 (by simp)).symm.trans h18_) (by decide)
      ·intro s g w hsp hsb hD a hf
       rcases hD with (⟨h17_, h18_, h20_, hD⟩ | ⟨h17_, h18_, h20_, hD⟩ | ⟨h17_, h18_, h20_, hD⟩ | ⟨h17_, h18_, h20_, hD⟩)
       ·have hS : St w0 w noX [] [pt b25 (Cs #[Iv 0, Iv 0, Iv 0, Iv 0, Iv 0, Iv 0] 25), pt b24 (Cs #[.func (.func 22) #[] #[], .func (.func 23) #[] #[], .func (.func 24) #[] #[], .func (.func 25) #[] #[], Iv 0] 48), pt b16 (Cs #[Iv x1, Iv x2, Iv x3, Iv x4, Iv x5, Iv x6] 25), pt b17 (Cs #[Iv x7, Iv x8, Iv x9, Iv x10, Iv x11, Iv x12] 25), pt b18 (Cs #[Iv x14, Iv x15] 23), pt b19 (Cs #[Iv 0, Iv 0, Iv 0, Iv 0, Iv 0, Iv 0] 25)] := hD; clear hD
        replace hf : Fr a 119 [] [(49, Pv b24 0), (2, Iv x13), (4, Pv b16 0), (5, Pv b17 0), (7, Pv b18 0), (8, Pv b19 0), (9, Iv 0), (14, Pv b24 0), (15, Pv b25 0), (16, Iv 0), (43, Iv 0), (44, Bv true), (45, Iv 0)] := hf
        refine O.val hf rfl rfl rfl (RunV.field T_field_48_0 rfl rfl) ?_; clear hf a; intro a hf
        exact O.nil ⟨rfl, hf.to trivial, (fun d hd => by cases (show some 50 = some d from hd); exact hf.get _ _ rfl), (Or.inl ⟨h17_, h18_, h20_, hS⟩)⟩
       ·have hS : St w0 w noX [] [pt b24 (Cs #[.func (.func 22) #[] #[], .func (.func 23) #[] #[], .func (.func 24) #[] #[], .func (.func 25) #[] #[], Iv x55.2.2] 48), pt b25 (Cs #[Iv 0, Iv 0, Iv 0, Iv 0, Iv 0, Iv 0] 25), pt b16 (Cs #[Iv x1, Iv x2, Iv x3, Iv x4, Iv x5, Iv x6] 25), pt b17 (Cs #[Iv x7, Iv x8, Iv x9, Iv x10, Iv x11, Iv x12] 25), pt b18 (Cs #[Iv x14, Iv x15] 23), pt b19 (Cs #[Iv 0, Iv 0, Iv 0, Iv 0, Iv 0, Iv 0] 25)] := hD; clear hD
        replace hf : Fr a 119 [] [(49, Pv b24 0), (2, Iv x13), (4, Pv b16 0), (5, Pv b17 0), (7, Pv b18 0), (8, Pv b19 0), (9, Iv 0), (14, Pv b24 0), (15, Pv b25 0), (16, Iv 0), (43, Iv 0), (44, Bv true), (45, Iv 0)] := hf
        refine O.val hf rfl rfl rfl (RunV.field T_field_48_0 rfl rfl) ?_; clear hf a; intro a hf
        exact O.nil ⟨rfl, hf.to trivial, (fun d hd => by cases (show some 50 = some d from hd); exact hf.get _ _ rfl), (Or.inr (Or.inl ⟨h17_, h18_, h20_, hS⟩))⟩
       ·exact absurd ((hsb 18 (by simp)).symm.trans h18_) (by decide)
       ·exact absurd ((hsb 18 (by simp)).symm.trans h18_) (by decide)
      ·intro s g w hsp hsb hD a hf
       rcases hD with (⟨h17_, h18_, h20_, hD⟩ | ⟨h17_, h18_, h20_, hD⟩ | ⟨h17_, h18_, h20_, hD⟩ | ⟨h17_, h18_, h20_, hD⟩)
       ·have hS : St w0 w noX [] [pt b25 (Cs #[Iv 0, Iv 0, Iv 0, Iv 0, Iv 0, Iv 0] 25), pt b24 (Cs #[.func (.func 22) #[] #[], .func (.func 23) #[] #[], .func (.func 24) #[] #[], .func (.func 25) #[] #[], Iv 0] 48), pt b16 (Cs #[Iv x1, Iv x2, Iv x3, Iv x4, Iv x5, Iv x6] 25), pt b17 (Cs #[Iv x7, Iv x8, Iv x9, Iv x10, Iv x11, Iv x12] 25), pt b18 (Cs #[Iv x14, Iv x15] 23), pt b19 (Cs #[Iv 0, Iv 0, Iv 0, Iv 0, Iv 0, Iv 0] 25)] := hD; clear hD
        replace hf : Fr a 119 [] [(50, Pv b24 0), (2, Iv x13), (4, Pv b16 0), (5, Pv b17 0), (7, Pv b18 0), (8, Pv b19 0), (9, Iv 0), (14, Pv b24 0), (15, Pv b25 0), (16, Iv 0), (43, Iv 0), (44, Bv true), (45, Iv 0)] := hf
        refine O.val hf rfl rfl rfl (RunV.load1 T_agg_46 rfl (hS.ptAt (i := 1) rfl) rfl) ?_; clear hf a; intro a hf
        exact O.nil ⟨rfl, hf.to trivial, (fun d hd => by cases (show some 51 = some d from hd); exact hf.get _ _ rfl), (Or.inl ⟨h17_, h18_, h20_, hS⟩)⟩
       ·have hS : St w0 w noX [] [pt b24 (Cs #[.func (.func 22) #[] #[], .func (.func 23) #[] #[], .func (.func 24) #[] #[], .func (.func 25) #[] #[], Iv x55.2.2] 48), pt b25 (Cs #[Iv 0, Iv 0, Iv 0, Iv 0, Iv 0, Iv 0] 25), pt b16 (Cs #[Iv x1, Iv x2, Iv x3, Iv x4, Iv x5, Iv x6] 25), pt b17 (Cs #[Iv x7, Iv x8, Iv x9, Iv x10, Iv x11, Iv x12] 25), pt b18 (Cs #[Iv x14, Iv x15] 23), pt b19 (Cs #[Iv 0, Iv 0, Iv 0, Iv 0, Iv 0, Iv 0] 25)] := hD; clear hD
        replace hf : Fr a 119 [] [(50, Pv b24 0), (2, Iv x13), (4, Pv b16 0), (5, Pv b17 0), (7, Pv b18 0), (8, Pv b19 0), (9, Iv 0), (14, Pv b24 0), (15, Pv b25 0), (16, Iv 0), (43, Iv 0), (44, Bv true), (45, Iv 0)] := hf
        refine O.val hf rfl rfl rfl (RunV.load1 T_agg_46 rfl (hS.ptAt (i := 0) rfl) rfl) ?_; clear hf a; intro a hf
        exact O.nil ⟨rfl, hf.to trivial, (fun d hd => by cases (show some 51 = some d from hd); exact hf.get _ _ rfl), (Or.inr (Or.inl ⟨h17_, h18_, h20_, hS⟩))⟩
       ·exact absurd ((hsb 18 (by simp)).symm.trans h18_) (by decide)
       ·exact absurd ((hsb 18 (by simp)).symm.trans h18_) (by decide)
      ·intro s g w hsp hsb hD a hf
       rcases hD with (⟨h17_, h18_, h20_, hD⟩ | ⟨h17_, h18_, h20_, hD⟩ | ⟨h17_, h18_, h20_, hD⟩ | ⟨h17_, h18_, h20_, hD⟩)
       ·have hS : St w0 w noX [] [pt b25 (Cs #[Iv 0, Iv 0, Iv 0, Iv 0, Iv 0, Iv 0] 25), pt b24 (Cs #[.func (.func 22) #[] #[], .func (.func 23) #[] #[], .func (.func 24) #[] #[], .func (.func 25) #[] #[], Iv 0] 48), pt b16 (Cs #[Iv x1, Iv x2, Iv x3, Iv x4, Iv x5, Iv x6] 25), pt b17 (Cs #[Iv x7, Iv x8, Iv x9, Iv x10, Iv x11, Iv x12] 25), pt b18 (Cs #[Iv x14, Iv x15] 23), pt b19 (Cs #[Iv 0, Iv 0, Iv 0, Iv 0, Iv 0, Iv 0] 25)] := hD; clear hD
        replace hf : Fr a 119 [] [(2, Iv x13), (4, Pv b16 0), (5, Pv b17 0), (7, Pv b18 0), (8, Pv b19 0), (9, Iv 0), (14, Pv b24 0), (15, Pv b25 0), (16, Iv 0), (43, Iv 0), (44, Bv true), (45, Iv 0)] := hf
        refine O.val hf rfl rfl rfl (RunV.move rfl) ?_; clear hf a; intro a hf
        exact O.nil ⟨rfl, hf.to trivial, (fun d hd => by cases (show some 52 = some d from hd); exact hf.get _ _ rfl), (Or.inl ⟨h17_, h18_, h20_, hS⟩)⟩
       ·have hS : St w0 w noX [] [pt b24 (Cs #[.func (.func 22) #[] #[], .func (.func 23) #[] #[], .func (.func 24) #[] #[], .func (.func 25) #[] #[], Iv x55.2.2] 48), pt b25 (Cs #[Iv 0, Iv 0, Iv 0, Iv 0, Iv 0, Iv 0] 25), pt b16 (Cs #[Iv x1, Iv x2, Iv x3, Iv x4, Iv x5, Iv x6] 25), pt b17 (Cs #[Iv x7, Iv x8, Iv x9, Iv x10, Iv x11, Iv x12] 25), pt b18 (Cs #[Iv x14, Iv x15] 23), pt b19 (Cs #[Iv 0, Iv 0, Iv 0, Iv 0, Iv 0, Iv 0] 25)] := hD; clear hD
        replace hf : Fr a 119 [] [(2, Iv x13), (4, Pv b16 0), (5, Pv b17 0), (7, Pv b18 0), (8, Pv b19 0), (9, Iv 0), (14, Pv b24 0), (15, Pv b25 0), (16, Iv 0), (43, Iv 0), (44, Bv true), (45, Iv 0)] := hf
        refine O.val hf rfl rfl rfl (RunV.move rfl) ?_; clear hf a; intro a hf
        exact O.nil ⟨rfl, hf.to trivial, (fun d hd => by cases (show some 52 = some d from hd); exact hf.get _ _ rfl), (Or.inr (Or.inl ⟨h17_, h18_, h20_, hS⟩))⟩
       ·exact absurd ((hsb 18 (by simp)).symm.trans h18_) (by decide)
       ·exact absurd ((hsb 18 (by simp)).symm.trans h18_) (by decide)
      ·intro s g w hsp hsb hD a hf
       rcases hD with (⟨h17_, h18_, h20_, hD⟩ | ⟨h17_, h18_, h20_, hD⟩ | ⟨h17_, h18_, h20_, hD⟩ | ⟨h17_, h18_, h20_, hD⟩)
       ·have hS : St w0 w noX [] [pt b25 (Cs #[Iv 0, Iv 0, Iv 0, Iv 0, Iv 0, Iv 0] 25), pt b24 (Cs #[.func (.func 22) #[] #[], .func (.func 23) #[] #[], .func (.func 24) #[] #[], .func (.func 25) #[] #[], Iv 0] 48), pt b16 (Cs #[Iv x1, Iv x2, Iv x3, Iv x4, Iv x5, Iv x6] 25), pt b17 (Cs #[Iv x7, Iv x8, Iv x9, Iv x10, Iv x11, Iv x12] 25), pt b18 (Cs #[Iv x14, Iv x15] 23), pt b19 (Cs #[Iv 0, Iv 0, Iv 0, Iv 0, Iv 0, Iv 0] 25)] := hD; clear hD
        replace hf : Fr a 119 [] [(52, Iv 0), (2, Iv x13), (4, Pv b16 0), (5, Pv b17 0), (7, Pv b18 0), (8, Pv b19 0), (9, Iv 0), (14, Pv b24 0), (15, Pv b25 0), (16, Iv 0), (43, Iv 0), (44, Bv true), (45, Iv 0)] := hf
        refine O.val hf rfl rfl rfl (RunV.indexArr (j := 0) (m := 0) T_arr_25 T_size_23 rfl rfl rfl (by decide) rfl) ?_; clear hf a; intro a hf
        exact O.nil ⟨rfl, hf.to trivial, (fun d hd => by cases (show some 53 = some d from hd); exact hf.get _ _ rfl), (Or.inl ⟨h17_, h18_, h20_, hS⟩)⟩
       ·have hS : St w0 w noX [] [pt b24 (Cs #[.func (.func 22) #[] #[], .func (.func 23) #[] #[], .func (.func 24) #[] #[], .func (.func 25) #[] #[], Iv x55.2.2] 48), pt b25 (Cs #[Iv 0, Iv 0, Iv 0, Iv 0, Iv 0, Iv 0] 25), pt b16 (Cs #[Iv x1, Iv x2, Iv x3, Iv x4, Iv x5, Iv x6] 25), pt b17 (Cs #[Iv x7, Iv x8, Iv x9, Iv x10, Iv x11, Iv x12] 25), pt b18 (Cs #[Iv x14, Iv x15] 23), pt b19 (Cs #[Iv 0, Iv 0, Iv 0, Iv 0, Iv 0, Iv 0] 25)] := hD; clear hD
        replace hf : Fr a 119 [] [(52, Iv 0), (2, Iv x13), (4, Pv b16 0), (5, Pv b17 0), (7, Pv b18 0), (8, Pv b19 0), (9, Iv 0), (14, Pv b24 0), (15, Pv b25 0), (16, Iv 0), (43, Iv 0), (44, Bv true), (45, Iv 0)] := hf
        refine O.val hf rfl rfl rfl (RunV.indexArr (j := 0) (m := 0) T_arr_25 T_size_23 rfl rfl rfl (by decide) rfl) ?_; clear hf a; intro a hf
        exact O.nil ⟨rfl, hf.to trivial, (fun d hd => by cases (show some 53 = some d from hd); exact hf.get _ _ rfl), (Or.inr (Or.inl ⟨h17_, h18_, h20_, hS⟩))⟩
       ·exact absurd ((hsb 18 (by simp)).symm.trans h18_) (by decide)
       ·exact absurd ((hsb 18 (by simp)).symm.trans h18_) (by decide)
      ·intro s g w hsp hsb hD a hf
       rcases hD with (⟨h17_, h18_, h20_, hD⟩ | ⟨h17_, h18_, h20_, hD⟩ | ⟨h17_, h18_, h20_, hD⟩ | ⟨h17_, h18_, h20_, hD⟩)
       ·have hS : St w0 w noX [] [pt b25 (Cs #[Iv 0, Iv 0, Iv 0, Iv 0, Iv 0, Iv 0] 25), pt b24 (Cs #[.func (.func 22) #[] #[], .func (.func 23) #[] #[], .func (.func 24) #[] #[], .func (.func 25) #[] #[], Iv 0] 48), pt b16 (Cs #[Iv x1, Iv x2, Iv x3, Iv x4, Iv x5, Iv x6] 25), pt b17 (Cs #[Iv x7, Iv x8, Iv x9, Iv x10, Iv x11, Iv x12] 25), pt b18 (Cs #[Iv x14, Iv x15] 23), pt b19 (Cs #[Iv 0, Iv 0, Iv 0, Iv 0, Iv 0, Iv 0] 25)] := hD; clear hD
        replace hf : Fr a 119 [] [(53, Pv b16 0), (2, Iv x13), (4, Pv b16 0), (5, Pv b17 0), (7, Pv b18 0), (8, Pv b19 0), (9, Iv 0), (14, Pv b24 0), (15, Pv b25 0), (16, Iv 0), (43, Iv 0), (44, Bv true), (45, Iv 0)] := hf
        refine O.val hf rfl rfl rfl (RunV.loadN (cs' := #[Iv x1, Iv x2]) T_agg_23 T_size_23 rfl (hS.ptAt (i := 2) rfl) (Nat.le_of_ble_eq_true rfl) rfl) ?_; clear hf a; intro a hf
        exact O.nil ⟨rfl, hf.to trivial, (fun d hd => by cases (show some 54 = some d from hd); exact hf.get _ _ rfl), (Or.inl ⟨h17_, h18_, h20_, hS⟩)⟩
       ·have hS : St w0 w noX [] [pt b24 (Cs #[.func (.func 22) #[] #[], .func (.func 23) #[] #[], .func (.func 24) #[] #[], .func (.func 25) #[] #[], Iv x55.2.2] 48), pt b25 (Cs #[Iv 0, Iv 0, Iv 0, Iv 0, Iv 0, Iv 0] 25), pt b16 (Cs #[Iv x1, Iv x2, Iv x3, Iv x4, Iv x5, Iv x6] 25), pt b17 (Cs #[Iv x7, Iv x8, Iv x9, Iv x10, Iv x11, Iv x12] 25), pt b18 (Cs #[Iv x14, Iv x15] 23), pt b19 (Cs #[Iv 0, Iv 0, Iv 0, Iv 0, Iv 0, Iv 0] 25)] := hD; clear hD
        replace hf : Fr a 119 [] [(53, Pv b16 0), (2, Iv x13), (4, Pv b16 0), (5, Pv b17 0), (7, Pv b18 0), (8, Pv b19 0), (9, Iv 0), (14, Pv b24 0), (15, Pv b25 0), (16, Iv 0), (43, Iv 0), (44, Bv true), (45, Iv 0)] := hf
        refine O.val hf rfl rfl rfl (RunV.loadN (cs' := #[Iv x1, Iv x2]) T_agg_23 T_size_23 rfl (hS.ptAt (i := 2) rfl) (Nat.le_of_ble_eq_true rfl) rfl) ?_; clear hf a; intro a hf
        exact O.nil ⟨rfl, hf.to trivial, (fun d hd => by cases (show some 54 = some d from hd); exact hf.get _ _ rfl), (Or.inr (Or.inl ⟨h17_, h18_, h20_, hS⟩))⟩
       ·exact absurd ((hsb 18 (by simp)).symm.trans h18_) (by decide)
       ·exact absurd ((hsb 18 (by simp)).symm.trans h18_) (by decide)
      ·intro s g w hsp hsb hD a hf
       rcases hD with (⟨h17_, h18_, h20_, hD⟩ | ⟨h17_, h18_, h20_, hD⟩ | ⟨h17_, h18_, h20_, hD⟩ | ⟨h17_, h18_, h20_, hD⟩)
       ·have hS : St w0 w noX [] [pt b25 (Cs #[Iv 0, Iv 0, Iv 0, Iv 0, Iv 0, Iv 0] 25), pt b24 (Cs #[.func (.func 22) #[] #[], .func (.func 23) #[] #[], .func (.func 24) #[] #[], .func (.func 25) #[] #[], Iv 0] 48), pt b16 (Cs #[Iv x1, Iv x2, Iv x3, Iv x4, Iv x5, Iv x6] 25), pt b17 (Cs #[Iv x7, Iv x8, Iv x9, Iv x10, Iv x11, Iv x12] 25), pt b18 (Cs #[Iv x14, Iv x15] 23), pt b19 (Cs #[Iv 0, Iv 0, Iv 0, Iv 0, Iv 0, Iv 0] 25)] := hD; clear hD
        replace hf : Fr a 119 [] [(2, Iv x13), (4, Pv b16 0), (5, Pv b17 0), (7, Pv b18 0), (8, Pv b19 0), (9, Iv 0), (14, Pv b24 0), (15, Pv b25 0), (16, Iv 0), (43, Iv 0), (44, Bv true), (45, Iv 0)] := hf
        refine O.val hf rfl rfl rfl (RunV.move rfl) ?_; clear hf a; intro a hf
        exact O.nil ⟨rfl, hf.to trivial, (fun d hd => by cases (show some 55 = some d from hd); exact hf.get _ _ rfl), (Or.inl ⟨h17_, h18_, h20_, hS⟩)⟩
       ·exact absurd ((hsb 17 (by simp)).symm.trans h17_) (by decide)
       ·exact absurd ((hsb 17 (by simp)).symm.trans h17_) (by decide)
       ·exact absurd ((hsb 17 (by simp)).symm.trans h17_) (by decide)
      ·intro s g w hsp hsb hD a hf
       rcases hD with (⟨h17_, h18_, h20_, hD⟩ | ⟨h17_, h18_, h20_, hD⟩ | ⟨h17_, h18_, h20_, hD⟩ | ⟨h17_, h18_, h20_, hD⟩)
       ·have hS : St w0 w noX [] [pt b25 (Cs #[Iv 0, Iv 0, Iv 0, Iv 0, Iv 0, Iv 0] 25), pt b24 (Cs #[.func (.func 22) #[] #[], .func (.func 23) #[] #[], .func (.func 24) #[] #[], .func (.func 25) #[] #[], Iv 0] 48), pt b16 (Cs #[Iv x1, Iv x2, Iv x3, Iv x4, Iv x5, Iv x6] 25), pt b17 (Cs #[Iv x7, Iv x8, Iv x9, Iv x10, Iv x11, Iv x12] 25), pt b18 (Cs #[Iv x14, Iv x15] 23), pt b19 (Cs #[Iv 0, Iv 0, Iv 0, Iv 0, Iv 0, Iv 0] 25)] := hD; clear hD
        replace hf : Fr a 119 [] [(2, Iv x13), (4, Pv b16 0), (5, Pv b17 0), (7, Pv b18 0), (8, Pv b19 0), (9, Iv 0), (14, Pv b24 0), (15, Pv b25 0), (16, Iv 0), (43, Iv 0), (44, Bv true), (45, Iv 0)] := hf
        refine O.val hf rfl rfl rfl (RunV.move rfl) ?_; clear hf a; intro a hf
        exact O.nil ⟨rfl, hf.to trivial, (fun d hd => by cases (show some 56 = some d from hd); exact hf.get _ _ rfl), (Or.inl ⟨h17_, h18_, h20_, hS⟩)⟩
       ·exact absurd ((hsb 17 (by simp)).symm.trans h17_) (by decide)
       ·exact absurd ((hsb 17 (by simp)).symm.trans h17_) (by decide)
       ·exact absurd ((hsb 17 (by simp)).symm.trans h17_) (by decide)
      ·intro s g w hsp hsb hD a hf
       rcases hD with (⟨h17_, h18_, h20_, hD⟩ | ⟨h17_, h18_, h20_, hD⟩ | ⟨h17_, h18_, h20_, hD⟩ | ⟨h17_, h18_, h20_, hD⟩)
       ·have hS : St w0 w noX [] [pt b25 (Cs #[Iv 0, Iv 0, Iv 0, Iv 0, Iv 0, Iv 0] 25), pt b24 (Cs #[.func (.func 22) #[] #[], .func (.func 23) #[] #[], .func (.func 24) #[] #[], .func (.func 25) #[] #[], Iv 0] 48), pt b16 (Cs #[Iv x1, Iv x2, Iv x3, Iv x4, Iv x5, Iv x6] 25), pt b17 (Cs #[Iv x7, Iv x8, Iv x9, Iv x10, Iv x11, Iv x12] 25), pt b18 (Cs #[Iv x14, Iv x15] 23), pt b19 (Cs #[Iv 0, Iv 0, Iv 0, Iv 0, Iv 0, Iv 0] 25)] := hD; clear hD
        replace hf : Fr a 119 [] [(56, Iv 0), (2, Iv x13), (4, Pv b16 0), (5, Pv b17 0), (7, Pv b18 0), (8, Pv b19 0), (9, Iv 0), (14, Pv b24 0), (15, Pv b25 0), (16, Iv 0), (43, Iv 0), (44, Bv true), (45, Iv 0)] := hf
        refine O.val hf rfl rfl rfl (RunV.indexArr (j := 0) (m := 0) T_arr_25 T_size_23 rfl rfl rfl (by decide) rfl) ?_; clear hf a; intro a hf
        exact O.nil ⟨rfl, hf.to trivial, (fun d hd => by cases (show some 57 = some d from hd); exact hf.get _ _ rfl), (Or.inl ⟨h17_, h18_, h20_, hS⟩)⟩
       ·exact absurd ((hsb 17 (by simp)).symm.trans h17_) (by decide)
       ·exact absurd ((hsb 17 (by simp)).symm.trans h17_) (by decide)
       ·exact absurd ((hsb 17 (by simp)).symm.trans h17_) (by decide)
      ·intro s g w hsp hsb hD a hf
       rcases hD with (⟨h17_, h18_, h20_, hD⟩ | ⟨h17_, h18_, h20_, hD⟩ | ⟨h17_, h18_, h20_, hD⟩ | ⟨h17_, h18_, h20_, hD⟩)
       ·have hS : St w0 w noX [] [pt b25 (Cs #[Iv 0, Iv 0, Iv 0, Iv 0, Iv 0, Iv 0] 25), pt b24 (Cs #[.func (.func 22) #[] #[], .func (.func 23) #[] #[], .func (.func 24) #[] #[], .func (.func 25) #[] #[], Iv 0] 48), pt b16 (Cs #[Iv x1, Iv x2, Iv x3, Iv x4, Iv x5, Iv x6] 25), pt b17 (Cs #[Iv x7, Iv x8, Iv x9, Iv x10, Iv x11, Iv x12] 25), pt b18 (Cs #[Iv x14, Iv x15] 23), pt b19 (Cs #[Iv 0, Iv 0, Iv 0, Iv 0, Iv 0, Iv 0] 25)] := hD; clear hD
        replace hf : Fr a 119 [] [(57, Pv b17 0), (2, Iv x13), (4, Pv b16 0), (5, Pv b17 0), (7, Pv b18 0), (8, Pv b19 0), (9, Iv 0), (14, Pv b24 0), (15, Pv b25 0), (16, Iv 0), (43, Iv 0), (44, Bv true), (45, Iv 0)] := hf
        refine O.val hf rfl rfl rfl (RunV.loadN (cs' := #[Iv x7, Iv x8]) T_agg_23 T_size_23 rfl (hS.ptAt (i := 3) rfl) (Nat.le_of_ble_eq_true rfl) rfl) ?_; clear hf a; intro a hf
        exact O.nil ⟨rfl, hf.to trivial, (fun d hd => by cases (show some 58 = some d from hd); exact hf.get _ _ rfl), (Or.inl ⟨h17_, h18_, h20_, hS⟩)⟩
       ·exact absurd ((hsb 17 (by simp)).symm.trans h17_) (by decide)
       ·exact absurd ((hsb 17 (by simp)).symm.trans h17_) (by decide)
       ·exact absurd ((hsb 17 (by simp)).symm.trans h17_) (by decide)
      ·intro s g w hsp hsb hD a hf
       rcases hD with (⟨h17_, h18_, h20_, hD⟩ | ⟨h17_, h18_, h20_, hD⟩ | ⟨h17_, h18_, h20_, hD⟩ | ⟨h17_, h18_, h20_, hD⟩)
       ·have hS : St w0 w noX [] [pt b25 (Cs #[Iv 0, Iv 0, Iv 0, Iv 0, Iv 0, Iv 0] 25), pt b24 (Cs #[.func (.func 22) #[] #[], .func (.func 23) #[] #[], .func (.func 24) #[] #[], .func (.func 25) #[] #[], Iv 0] 48), pt b16 (Cs #[Iv x1, Iv x2, Iv x3, Iv x4, Iv x5, Iv x6] 25), pt b17 (Cs #[Iv x7, Iv x8, Iv x9, Iv x10, Iv x11, Iv x12] 25), pt b18 (Cs #[Iv x14, Iv x15] 23), pt b19 (Cs #[Iv 0, Iv 0, Iv 0, Iv 0, Iv 0, Iv 0] 25)] := hD; clear hD
        replace hf : Fr a 119 [] [(2, Iv x13), (4, Pv b16 0), (5, Pv b17 0), (7, Pv b18 0), (8, Pv b19 0), (9, Iv 0), (14, Pv b24 0), (15, Pv b25 0), (16, Iv 0), (43, Iv 0), (44, Bv true), (45, Iv 0)] := hf
        refine O.val hf rfl rfl rfl (RunV.move rfl) ?_; clear hf a; intro a hf
        exact O.nil ⟨rfl, hf.to trivial, (fun d hd => by cases (show some 59 = some d from hd); exact hf.get _ _ rfl), (Or.inl ⟨h17_, h18_, h20_, hS⟩)⟩
       ·exact absurd ((hsb 17 (by simp)).symm.trans h17_) (by decide)
       ·exact absurd ((hsb 17 (by simp)).symm.trans h17_) (by decide)
       ·exact absurd ((hsb 17 (by simp)).symm.trans h17_) (by decide)
      ·intro s g w hsp hsb hD a hf
       rcases hD with (⟨h17_, h18_, h20_, hD⟩ | ⟨h17_, h18_, h20_, hD⟩ | ⟨h17_, h18_, h20_, hD⟩ | ⟨h17_, h18_, h20_, hD⟩)
       ·have hS : St w0 w noX [] [pt b25 (Cs #[Iv 0, Iv 0, Iv 0, Iv 0, Iv 0, Iv 0] 25), pt b24 (Cs #[.func (.func 22) #[] #[], .func (.func 23) #[] #[], .func (.func 24) #[] #[], .func (.func 25) #[] #[], Iv 0] 48), pt b16 (Cs #[Iv x1, Iv x2, Iv x3, Iv x4, Iv x5, Iv x6] 25), pt b17 (Cs #[Iv x7, Iv x8, Iv x9, Iv x10, Iv x11, Iv x12] 25), pt b18 (Cs #[Iv x14, Iv x15] 23), pt b19 (Cs #[Iv 0, Iv 0, Iv 0, Iv 0, Iv 0, Iv 0] 25)] := hD; clear hD
        replace hf : Fr a 119 [] [(58, .agg #[Iv x7, Iv x8]), (59, Iv x13), (2, Iv x13), (4, Pv b16 0), (5, Pv b17 0), (7, Pv b18 0), (8, Pv b19 0), (9, Iv 0), (14, Pv b24 0), (15, Pv b25 0), (16, Iv 0), (43, Iv 0), (44, Bv true), (45, Iv 0)] := hf
        refine O.callR hf rfl rfl rfl (RunE.call (av := #[.agg #[Iv x7, Iv x8], Iv x13, Iv 86400000000]) C_ok_15 rfl rfl rfl) (m_span_Scale_ok F x7 x8 x13 86400000000 _ x54 hx54) ?_
        clear hf a; rintro _ w hS1 a hf
        replace hf : Fr a _ _ ((60, .tuple #[.agg #[Iv x54.1, Iv x54.2.1], Iv x54.2.2]) :: _) := hf
        replace hS := (hS.call hS1).eqM (N := [pt b25 (Cs #[Iv 0, Iv 0, Iv 0, Iv 0, Iv 0, Iv 0] 25), pt b24 (Cs #[.func (.func 22) #[] #[], .func (.func 23) #[] #[], .func (.func 24) #[] #[], .func (.func 25) #[] #[], Iv 0] 48), pt b16 (Cs #[Iv x1, Iv x2, Iv x3, Iv x4, Iv x5, Iv x6] 25), pt b17 (Cs #[Iv x7, Iv x8, Iv x9, Iv x10, Iv x11, Iv x12] 25), pt b18 (Cs #[Iv x14, Iv x15] 23), pt b19 (Cs #[Iv 0, Iv 0, Iv 0, Iv 0, Iv 0, Iv 0] 25)]) rfl
        clear hS1
        exact O.nil ⟨rfl, hf.to trivial, (fun d hd => by cases (show some 60 = some d from hd); exact hf.get _ _ rfl), (Or.inl ⟨h17_, h18_, h20_, hS⟩)⟩
       ·exact absurd ((hsb 17 (by simp)).symm.trans h17_) (by decide)
       ·exact absurd ((hsb 17 (by simp)).symm.trans h17_) (by decide)
       ·exact absurd ((hsb 17 (by simp)).symm.trans h17_) (by decide)
      ·intro s g w hsp hsb hD a hf
       rcases hD with (⟨h17_, h18_, h20_, hD⟩ | ⟨h17_, h18_, h20_, hD⟩ | ⟨h17_, h18_, h20_, hD⟩ | ⟨h17_, h18_, h20_, hD⟩)
       ·have hS : St w0 w noX [] [pt b25 (Cs #[Iv 0, Iv 0, Iv 0, Iv 0, Iv 0, Iv 0] 25), pt b24 (Cs #[.func (.func 22) #[] #[], .func (.func 23) #[] #[], .func (.func 24) #[] #[], .func (.func 25) #[] #[], Iv 0] 48), pt b16 (Cs #[Iv x1, Iv x2, Iv x3, Iv x4, Iv x5, Iv x6] 25), pt b17 (Cs #[Iv x7, Iv x8, Iv x9, Iv x10, Iv x11, Iv x12] 25), pt b18 (Cs #[Iv x14, Iv x15] 23), pt b19 (Cs #[Iv 0, Iv 0, Iv 0, Iv 0, Iv 0, Iv 0] 25)] := hD; clear hD
        replace hf : Fr a 119 [] [(60, .tuple #[.agg #[Iv x54.1, Iv x54.2.1], Iv x54.2.2]), (2, Iv x13), (4, Pv b16 0), (5, Pv b17 0), (7, Pv b18 0), (8, Pv b19 0), (9, Iv 0), (14, Pv b24 0), (15, Pv b25 0), (16, Iv 0), (43, Iv 0), (44, Bv true), (45, Iv 0)] := hf
        refine O.val hf rfl rfl rfl (RunV.extract rfl rfl) ?_; clear hf a; intro a hf
        exact O.nil ⟨rfl, hf.to trivial, (fun d hd => by cases (show some 61 = some d from hd); exact hf.get _ _ rfl), (Or.inl ⟨h17_, h18_, h20_, hS⟩)⟩
       ·exact absurd ((hsb 17 (by simp)).symm.trans h17_) (by decide)
       ·exact absurd ((hsb 17 (by simp)).symm.trans h17_) (by decide)
       ·exact absurd ((hsb 17 (by simp)).symm.trans h17_) (by decide)
      ·intro s g w hsp hsb hD a hf
       rcases hD with (⟨h17_, h18_, h20_, hD⟩ | ⟨h17_, h18_, h20_, hD⟩ | ⟨h17_, h18_, h20_, hD⟩ | ⟨h17_, h18_, h20_, hD⟩)
       ·have hS : St w0 w noX [] [pt b25 (Cs #[Iv 0, Iv 0, Iv 0, Iv 0, Iv 0, Iv 0] 25), pt b24 (Cs #[.func (.func 22) #[] #[], .func (.func 23) #[] #[], .func (.func 24) #[] #[], .func (.func 25) #[] #[], Iv 0] 48), pt b16 (Cs #[Iv x1, Iv x2, Iv x3, Iv x4, Iv x5, Iv x6] 25), pt b17 (Cs #[Iv x7, Iv x8, Iv x9, Iv x10, Iv x11, Iv x12] 25), pt b18 (Cs #[Iv x14, Iv x15] 23), pt b19 (Cs #[Iv 0, Iv 0, Iv 0, Iv 0, Iv 0, Iv 0] 25)] := hD; clear hD
        replace hf : Fr a 119 [] [(60, .tuple #[.agg #[Iv x54.1, Iv x54.2.1], Iv x54.2.2]), (2, Iv x13), (4, Pv b16 0), (5, Pv b17 0), (7, Pv b18 0), (8, Pv b19 0), (9, Iv 0), (14, Pv b24 0), (15, Pv b25 0), (16, Iv 0), (43, Iv 0), (44, Bv true), (45, Iv 0)] := hf
        refine O.val hf rfl rfl rfl (RunV.extract rfl rfl) ?_; clear hf a; intro a hf
        exact O.nil ⟨rfl, hf.to trivial, (fun d hd => by cases (show some 62 = some d from hd); exact hf.get _ _ rfl), (Or.inl ⟨h17_, h18_, h20_, hS⟩)⟩
       ·exact absurd ((hsb 17 (by simp)).symm.trans h17_) (by decide)
       ·exact absurd ((hsb 17 (by simp)).symm.trans h17_) (by decide)
       ·exact absurd ((hsb 17 (by simp)).symm.trans h17_) (by decide)
      ·intro s g w hsp hsb hD a hf
       rcases hD with (⟨h17_, h18_, h20_, hD⟩ | ⟨h17_, h18_, h20_, hD⟩ | ⟨h17_, h18_, h20_, hD⟩ | ⟨h17_, h18_, h20_, hD⟩)
       ·exact absurd ((hsp 17 (by simp)).symm.trans h17_) (by decide)
       ·exact absurd ((hsp 18 (by simp)).symm.trans h18_) (by decide)
       ·have hS : St w0 w noX [] [pt b24 (Cs #[.func (.func 22) #[] #[], .func (.func 23) #[] #[], .func (.func 24) #[] #[], .func (.func 25) #[] #[], Iv x56.2.2] 48), pt b25 (Cs #[Iv 0, Iv 0, Iv 0, Iv 0, Iv 0, Iv 0] 25), pt b16 (Cs #[Iv x1, Iv x2, Iv x3, Iv x4, Iv x5, Iv x6] 25), pt b17 (Cs #[Iv x7, Iv x8, Iv x9, Iv x10, Iv x11, Iv x12] 25), pt b18 (Cs #[Iv x14, Iv x15] 23), pt b19 (Cs #[Iv 0, Iv 0, Iv 0, Iv 0, Iv 0, Iv 0] 25)] := hD; clear hD
        replace hf : Fr a 119 [] [(46, Iv 0), (47, Pv b24 0), (48, Pv b24 0), (49, Pv b24 0), (50, Pv b24 0), (51, .func (.func 22) #[] #[]), (52, Iv 0), (53, Pv b16 0), (54, .agg #[Iv x1, Iv x2]), (55, Pv b24 0), (56, Iv 0), (57, Pv b17 0), (58, .agg #[Iv x7, Iv x8]), (59, Iv x13), (60, .tuple #[.agg #[Iv x54.1, Iv x54.2.1], Iv x54.2.2]), (61, .agg #[Iv x54.1, Iv x54.2.1]), (62, Iv x54.2.2), (63, .agg #[Iv x55.1, Iv x55.2.1]), (64, .agg #[Iv x56.1, Iv x56.2.1]), (2, Iv x13), (4, Pv b16 0), (5, Pv b17 0), (7, Pv b18 0), (8, Pv b19 0), (9, Iv 0), (14, Pv b24 0), (15, Pv b25 0), (16, Iv 0), (43, Iv 0), (44, Bv true), (45, Iv 0)] := hf
        refine O.val hf rfl rfl rfl (RunV.indexArr (j := 0) (m := 0) T_arr_25 T_size_23 rfl rfl rfl (by decide) rfl) ?_; clear hf a; intro a hf
        exact O.nil ⟨rfl, hf.to trivial, (fun d hd => by cases (show some 65 = some d from hd); exact hf.get _ _ rfl), (Or.inr (Or.inr (Or.inl ⟨h17_, h18_, h20_, hS⟩)))⟩
       ·exact absurd ((hsb 20 (by simp)).symm.trans h20_) (by decide)
     ·clear hf hf1 hS
      refine ⟨?_, ?_, ?_, trivial⟩
      ·intro s g w hs0 hsp hsb hD a hf
       rcases hD with (⟨h17_, h18_, h20_, hD⟩ | ⟨h17_, h18_, h20_, hD⟩ | ⟨h17_, h18_, h20_, hD⟩ | ⟨h17_, h18_, h20_, hD⟩)
       ·have hS : St w0 w noX [] [pt b25 (Cs #[Iv 0, Iv 0, Iv 0, Iv 0, Iv 0, Iv 0] 25), pt b24 (Cs #[.func (.func 22) #[] #[], .func (.func 23) #[] #[], .func (.func 24) #[] #[], .func (.func 25) #[] #[], Iv 0] 48), pt b16 (Cs #[Iv x1, Iv x2, Iv x3, Iv x4, Iv x5, Iv x6] 25), pt b17 (Cs #[Iv x7, Iv x8, Iv x9, Iv x10, Iv x11, Iv x12] 25), pt b18 (Cs #[Iv x14, Iv x15] 23), pt b19 (Cs #[Iv 0, Iv 0, Iv 0, Iv 0, Iv 0, Iv 0] 25)] := hD; clear hD
        replace hf : Fr a 119 [] [(55, Pv b24 0), (60, .tuple #[.agg #[Iv x54.1, Iv x54.2.1], Iv x54.2.2]), (61, .agg #[Iv x54.1, Iv x54.2.1]), (62, Iv x54.2.2), (2, Iv x13), (4, Pv b16 0), (5, Pv b17 0), (7, Pv b18 0), (8, Pv b19 0), (9, Iv 0), (14, Pv b24 0), (15, Pv b25 0), (16, Iv 0), (43, Iv 0), (44, Bv true), (45, Iv 0)] := hf
        refine O.callR hf rfl rfl rfl (RunE.call (av := #[Pv b24 0, .agg #[Iv x54.1, Iv x54.2.1], Iv x54.2.2]) C_ok_14 rfl rfl rfl) (m_cells_sheet_keep_ok F b24 0 x54.1 x54.2.1 x54.2.2 _ (hS.ptAt (i := 1) rfl) x55 hx55) ?_
        clear hf a; rintro _ w hS1 a hf
        replace hf : Fr a _ _ ((63, .agg #[Iv x55.1, Iv x55.2.1]) :: _) := hf
        replace hS := (hS.callX1 hS1 (i := 1) rfl (fun _ h => h)).eqM (N := [pt b24 (Cs #[.func (.func 22) #[] #[], .func (.func 23) #[] #[], .func (.func 24) #[] #[], .func (.func 25) #[] #[], Iv x55.2.2] 48), pt b25 (Cs #[Iv 0, Iv 0, Iv 0, Iv 0, Iv 0, Iv 0] 25), pt b16 (Cs #[Iv x1, Iv x2, Iv x3, Iv x4, Iv x5, Iv x6] 25), pt b17 (Cs #[Iv x7, Iv x8, Iv x9, Iv x10, Iv x11, Iv x12] 25), pt b18 (Cs #[Iv x14, Iv x15] 23), pt b19 (Cs #[Iv 0, Iv 0, Iv 0, Iv 0, Iv 0, Iv 0] 25)]) rfl
        clear hS1
        exact O.nil ⟨rfl, (), hf.to trivial, (fun d hd => by cases (show some 63 = some d from hd); exact hf.get _ _ rfl), (fun j hj hk => match j, hj, hk with | 0, hj, hk => rfl | 1, hj, hk => rfl | 2, hj, hk => rfl | 3, hj, hk => rfl | 4, hj, hk => rfl | 5, hj, hk => rfl | 6, hj, hk => rfl | 7, hj, hk => rfl | 8, hj, hk => rfl | 9, hj, hk => rfl | 10, hj, hk => rfl | 11, hj, hk => rfl | 12, hj, hk => rfl | 13, hj, hk => rfl | 14, hj, hk => rfl | 15, hj, hk => rfl | 16, hj, hk => rfl | 17, hj, hk => absurd rfl hj | 18, hj, hk => absurd hk (by decide) | 19, hj, hk => absurd hk (by decide) | 20, hj, hk => absurd hk (by decide) | _ + 21, _, _ => rfl), (Or.inr (Or.inl ⟨rfl, h18_, h20_, hS⟩))⟩
       ·exact absurd (hs0.symm.trans h17_) (by decide)
       ·exact absurd (hs0.symm.trans h17_) (by decide)
       ·exact absurd (hs0.symm.trans h17_) (by decide)
      ·intro s g w hs0 hsp hsb hD a hf
       rcases hD with (⟨h17_, h18_, h20_, hD⟩ | ⟨h17_, h18_, h20_, hD⟩ | ⟨h17_, h18_, h20_, hD⟩ | ⟨h17_, h18_, h20_, hD⟩)
       ·exact absurd ((hsp 17 (by simp)).symm.trans h17_) (by decide)
       ·have hS : St w0 w noX [] [pt b24 (Cs #[.func (.func 22) #[] #[], .func (.func 23) #[] #[], .func (.func 24) #[] #[], .func (.func 25) #[] #[], Iv x55.2.2] 48), pt b25 (Cs #[Iv 0, Iv 0, Iv 0, Iv 0, Iv 0, Iv 0] 25), pt b16 (Cs #[Iv x1, Iv x2, Iv x3, Iv x4, Iv x5, Iv x6] 25), pt b17 (Cs #[Iv x7, Iv x8, Iv x9, Iv x10, Iv x11, Iv x12] 25), pt b18 (Cs #[Iv x14, Iv x15] 23), pt b19 (Cs #[Iv 0, Iv 0, Iv 0, Iv 0, Iv 0, Iv 0] 25)] := hD; clear hD
        replace hf : Fr a 119 [] [(47, Pv b24 0), (51, .func (.func 22) #[] #[]), (54, .agg #[Iv x1, Iv x2]), (63, .agg #[Iv x55.1, Iv x55.2.1]), (2, Iv x13), (4, Pv b16 0), (5, Pv b17 0), (7, Pv b18 0), (8, Pv b19 0), (9, Iv 0), (14, Pv b24 0), (15, Pv b25 0), (16, Iv 0), (43, Iv 0), (44, Bv true), (45, Iv 0)] := hf
        refine O.callR hf rfl rfl rfl (RunE.call (av := #[Pv b24 0, .func (.func 22) #[] #[], .agg #[Iv x1, Iv x2], .agg #[Iv x55.1, Iv x55.2.1]]) C_ok_13 rfl rfl rfl) (m_cells_sheet_do_ok F b24 x55.2.2 x1 x2 x55.1 x55.2.1 _ (hS.ptAt (i := 0) rfl) x56 hx56) ?_
        clear hf a; rintro _ w hS1 a hf
        replace hf : Fr a _ _ ((64, .agg #[Iv x56.1, Iv x56.2.1]) :: _) := hf
        replace hS := (hS.callX1 hS1 (i := 0) rfl (fun _ h => h)).eqM (N := [pt b24 (Cs #[.func (.func 22) #[] #[], .func (.func 23) #[] #[], .func (.func 24) #[] #[], .func (.func 25) #[] #[], Iv x56.2.2] 48), pt b25 (Cs #[Iv 0, Iv 0, Iv 0, Iv 0, Iv 0, Iv 0] 25), pt b16 (Cs #[Iv x1, Iv x2, Iv x3, Iv x4, Iv x5, Iv x6] 25), pt b17 (Cs #[Iv x7, Iv x8, Iv x9, Iv x10, Iv x11, Iv x12] 25), pt b18 (Cs #[Iv x14, Iv x15] 23), pt b19 (Cs #[Iv 0, Iv 0, Iv 0, Iv 0, Iv 0, Iv 0] 25)]) rfl
        clear hS1
        exact O.nil ⟨rfl, (), hf.to trivial, (fun d hd => by cases (show some 64 = some d from hd); exact hf.get _ _ rfl), (fun j hj hk => match j, hj, hk with | 0, hj, hk => rfl | 1, hj, hk => rfl | 2, hj, hk => rfl | 3, hj, hk => rfl | 4, hj, hk => rfl | 5, hj, hk => rfl | 6, hj, hk => rfl | 7, hj, hk => rfl | 8, hj, hk => rfl | 9, hj, hk => rfl | 10, hj, hk => rfl | 11, hj, hk => rfl | 12, hj, hk => rfl | 13, hj, hk => rfl | 14, hj, hk => rfl | 15, hj, hk => rfl | 16, hj, hk => rfl | 17, hj, hk => rfl | 18, hj, hk => absurd rfl hj | 19, hj, hk => absurd hk (by decide) | 20, hj, hk => absurd hk (by decide) | _ + 21, _, _ => rfl), (Or.inr (Or.inr (Or.inl ⟨h17_, rfl, h20_, hS⟩)))⟩
       ·exact absurd (hs0.symm.trans h18_) (by decide)
       ·exact absurd (hs0.symm.trans h18_) (by decide)
      ·intro s g w hs0 hsp hsb hD a hf
       rcases hD with (⟨h17_, h18_, h20_, hD⟩ | ⟨h17_, h18_, h20_, hD⟩ | ⟨h17_, h18_, h20_, hD⟩ | ⟨h17_, h18_, h20_, hD⟩)
       ·exact absurd ((hsp 17 (by simp)).symm.trans h17_) (by decide)
       ·exact absurd ((hsp 18 (by simp)).symm.trans h18_) (by decide)
       ·have hS : St w0 w noX [] [pt b24 (Cs #[.func (.func 22) #[] #[], .func (.func 23) #[] #[], .func (.func 24) #[] #[], .func (.func 25) #[] #[], Iv x56.2.2] 48), pt b25 (Cs #[Iv 0, Iv 0, Iv 0, Iv 0, Iv 0, Iv 0] 25), pt b16 (Cs #[Iv x1, Iv x2, Iv x3, Iv x4, Iv x5, Iv x6] 25), pt b17 (Cs #[Iv x7, Iv x8, Iv x9, Iv x10, Iv x11, Iv x12] 25), pt b18 (Cs #[Iv x14, Iv x15] 23), pt b19 (Cs #[Iv 0, Iv 0, Iv 0, Iv 0, Iv 0, Iv 0] 25)] := hD; clear hD
        replace hf : Fr a 119 [] [(46, Iv 0), (47, Pv b24 0), (48, Pv b24 0), (49, Pv b24 0), (50, Pv b24 0), (51, .func (.func 22) #[] #[]), (52, Iv 0), (53, Pv b16 0), (54, .agg #[Iv x1, Iv x2]), (55, Pv b24 0), (56, Iv 0), (57, Pv b17 0), (58, .agg #[Iv x7, Iv x8]), (59, Iv x13), (60, .tuple #[.agg #[Iv x54.1, Iv x54.2.1], Iv x54.2.2]), (61, .agg #[Iv x54.1, Iv x54.2.1]), (62, Iv x54.2.2), (63, .agg #[Iv x55.1, Iv x55.2.1]), (64, .agg #[Iv x56.1, Iv x56.2.1]), (65, Pv b25 0), (2, Iv x13), (4, Pv b16 0), (5, Pv b17 0), (7, Pv b18 0), (8, Pv b19 0), (9, Iv 0), (14, Pv b24 0), (15, Pv b25 0), (16, Iv 0), (43, Iv 0), (44, Bv true), (45, Iv 0)] := hf
        refine O.store (j := 1) (cs' := #[Iv x56.1, Iv x56.2.1, Iv 0, Iv 0, Iv 0, Iv 0]) (M' := [pt b24 (Cs #[.func (.func 22) #[] #[], .func (.func 23) #[] #[], .func (.func 24) #[] #[], .func (.func 25) #[] #[], Iv x56.2.2] 48), pt b25 (Cs #[Iv x56.1, Iv x56.2.1, Iv 0, Iv 0, Iv 0, Iv 0] 25), pt b16 (Cs #[Iv x1, Iv x2, Iv x3, Iv x4, Iv x5, Iv x6] 25), pt b17 (Cs #[Iv x7, Iv x8, Iv x9, Iv x10, Iv x11, Iv x12] 25), pt b18 (Cs #[Iv x14, Iv x15] 23), pt b19 (Cs #[Iv 0, Iv 0, Iv 0, Iv 0, Iv 0, Iv 0] 25)]) hf hS rfl rfl rfl T_size_23 rfl rfl rfl (Nat.le_of_ble_eq_true rfl) rfl rfl ?_
        clear hS; intro w hS
        exact O.nil ⟨rfl, (), hf.to trivial, (fun d hd => by cases (show none = some d from hd)), (fun j hj hk => match j, hj, hk with | 0, hj, hk => rfl | 1, hj, hk => rfl | 2, hj, hk => rfl | 3, hj, hk => rfl | 4, hj, hk => rfl | 5, hj, hk => rfl | 6, hj, hk => rfl | 7, hj, hk => rfl | 8, hj, hk => rfl | 9, hj, hk => rfl | 10, hj, hk => rfl | 11, hj, hk => rfl | 12, hj, hk => rfl | 13, hj, hk => rfl | 14, hj, hk => rfl | 15, hj, hk => rfl | 16, hj, hk => rfl | 17, hj, hk => rfl | 18, hj, hk => rfl | 19, hj, hk => rfl | 20, hj, hk => absurd rfl hj | _ + 21, _, _ => rfl), (Or.inr (Or.inr (Or.inr ⟨h17_, h18_, rfl, hS⟩)))⟩
       ·exact absurd (hs0.symm.trans h20_) (by decide)
     clear hf hf1 hS; intro s g a w hs hf hD
     rcases hD with (⟨h17_, h18_, h20_, hD⟩ | ⟨h17_, h18_, h20_, hD⟩ | ⟨h17_, h18_, h20_, hD⟩ | ⟨h17_, h18_, h20_, hD⟩)
     · exact absurd ((hs 17 (by simp)).symm.trans h17_) (by decide)
     · exact absurd ((hs 18 (by simp)).symm.trans h18_) (by decide)
     · exact absurd ((hs 20 (by simp)).symm.trans h20_) (by decide)
     have hS : St w0 w noX [] [pt b24 (Cs #[.func (.func 22) #[] #[], .func (.func 23) #[] #[], .func (.func 24) #[] #[], .func (.func 25) #[] #[], Iv x56.2.2] 48), pt b25 (Cs #[Iv x56.1, Iv x56.2.1, Iv 0, Iv 0, Iv 0, Iv 0] 25), pt b16 (Cs #[Iv x1, Iv x2, Iv x3, Iv x4, Iv x5, Iv x6] 25), pt b17 (Cs #[Iv x7, Iv x8, Iv x9, Iv x10, Iv x11, Iv x12] 25), pt b18 (Cs #[Iv x14, Iv x15] 23), pt b19 (Cs #[Iv 0, Iv 0, Iv 0, Iv 0, Iv 0, Iv 0] 25)] := hD; clear hD
     replace hf : Fr a 119 [] [(46, Iv 0), (47, Pv b24 0), (48, Pv b24 0), (49, Pv b24 0), (50, Pv b24 0), (51, .func (.func 22) #[] #[]), (52, Iv 0), (53, Pv b16 0), (54, .agg #[Iv x1, Iv x2]), (55, Pv b24 0), (56, Iv 0), (57, Pv b17 0), (58, .agg #[Iv x7, Iv x8]), (59, Iv x13), (60, .tuple #[.agg #[Iv x54.1, Iv x54.2.1], Iv x54.2.2]), (61, .agg #[Iv x54.1, Iv x54.2.1]), (62, Iv x54.2.2), (63, .agg #[Iv x55.1, Iv x55.2.1]), (64, .agg #[Iv x56.1, Iv x56.2.1]), (65, Pv b25 0), (2, Iv x13), (4, Pv b16 0), (5, Pv b17 0), (7, Pv b18 0), (8, Pv b19 0), (9, Iv 0), (14, Pv b24 0), (15, Pv b25 0), (16, Iv 0), (43, Iv 0), (44, Bv true), (45, Iv 0)] := hf
     refine k_blk_normal ?_
     refine k_seq ?_
     -- region 19
     refine W.regionL (l := [0, 1]) rfl ?_
     refine O.val (v := Iv 1) hf rfl rfl rfl (RunV.add (p := 0) (q := 1) rfl rfl) ?_; clear hf a; intro a hf
     refine O.val hf rfl rfl rfl (RunV.move rfl) ?_; clear hf a; intro a hf
     refine O.nil ?_
     refine k_then (LH.step ?_)
     refine W.seq ?_
     -- region 16
     refine W.regionL (l := [0]) rfl ?_
     refine O.val (v := Bv true) hf rfl rfl rfl (RunV.lss (p := 1) (q := 3) rfl rfl) ?_; clear hf a; intro a hf
     refine O.nil ?_
     refine k_seq ?_
     refine W.seq ?_
     refine W.if_tt hf rfl ?_
     refine W.skip ?_
     refine k_seq ?_
     refine W.seq ?_
     refine W.block ?_
     refine W.seq ?_
     -- region 17
     refine W.regionL (l := [0, 1]) rfl ?_
     refine O.val hf rfl rfl rfl (RunV.move rfl) ?_; clear hf a; intro a hf
     refine O.val hf rfl rfl rfl (RunV.assign rfl) ?_; clear hf a; intro a hf
     refine O.nil ?_
     refine k_seq ?_
     -- region 18, which draws its order
     -- [17, 18, 20] turn memory
     have hf1 : Fr a 119 [] [(46, Iv 0), (47, Pv b24 0), (48, Pv b24 0), (49, Pv b24 0), (50, Pv b24 0), (51, .func (.func 22) #[] #[]), (52, Iv 0), (53, Pv b16 0), (54, .agg #[Iv x1, Iv x2]), (55, Pv b24 0), (56, Iv 0), (57, Pv b17 0), (58, .agg #[Iv x7, Iv x8]), (59, Iv x13), (60, .tuple #[.agg #[Iv x54.1, Iv x54.2.1], Iv x54.2.2]), (61, .agg #[Iv x54.1, Iv x54.2.1]), (62, Iv x54.2.2), (63, .agg #[Iv x55.1, Iv x55.2.1]), (64, .agg #[Iv x56.1, Iv x56.2.1]), (65, Pv b25 0)] := hf.to ⟨rfl, rfl, rfl, rfl, rfl, rfl, rfl, rfl, rfl, rfl, rfl, rfl, rfl, rfl, rfl, rfl, rfl, rfl, rfl, rfl, trivial⟩
     replace hf : Fr a 119 [] [(2, Iv x13), (4, Pv b16 0), (5, Pv b17 0), (7, Pv b18 0), (8, Pv b19 0), (9, Iv 0), (14, Pv b24 0), (15, Pv b25 0), (16, Iv 1), (43, Iv 1), (44, Bv true), (45, Iv 1), (66, Iv 1)] := hf.to ⟨rfl, rfl, rfl, rfl, rfl, rfl, rfl, rfl, rfl, rfl, rfl, rfl, rfl, trivial⟩
     obtain ⟨x57, hx57, hm⟩ := hm_b hm
     obtain ⟨x58, hx58, hm⟩ := hm_b hm
     obtain ⟨x59, hx59, hm⟩ := hm_b hm
     refine W.drawP (γ := Unit) (L0 := [(2, Iv x13), (4, Pv b16 0), (5, Pv b17 0), (7, Pv b18 0), (8, Pv b19 0), (9, Iv 0), (14, Pv b24 0), (15, Pv b25 0), (16, Iv 1), (43, Iv 1), (44, Bv true), (45, Iv 1), (66, Iv 1)]) (L1 := [(46, Iv 0), (47, Pv b24 0), (48, Pv b24 0), (49, Pv b24 0), (50, Pv b24 0), (51, .func (.func 22) #[] #[]), (52, Iv 0), (53, Pv b16 0), (54, .agg #[Iv x1, Iv x2]), (55, Pv b24 0), (56, Iv 0), (57, Pv b17 0), (58, .agg #[Iv x7, Iv x8]), (59, Iv x13), (60, .tuple #[.agg #[Iv x54.1, Iv x54.2.1], Iv x54.2.2]), (61, .agg #[Iv x54.1, Iv x54.2.1]), (62, Iv x54.2.2), (63, .agg #[Iv x55.1, Iv x55.2.1]), (64, .agg #[Iv x56.1, Iv x56.2.1]), (65, Pv b25 0)]) () [17, 18, 20] [0, 1, 2, 3, 4, 5, 6, 7, 8, 9, 10, 11, 12, 13, 14, 15, 16, 19] (fun i => match i with | 0 => [] | 1 => [] | 2 => [] | 3 => [2] | 4 => [3] | 5 => [4] | 6 => [] | 7 => [6] | 8 => [7] | 9 => [] | 10 => [] | 11 => [10] | 12 => [11] | 13 => [] | 14 => [12, 13] | 15 => [14] | 16 => [14] | 17 => [9, 14, 15, 16] | 18 => [1, 5, 8, 17] | 19 => [0, 1, 2, 3, 4, 5, 6, 7, 8, 9, 10, 11, 12, 13, 14, 15, 16, 17, 18] | 20 => [0, 1, 2, 3, 4, 5, 6, 7, 8, 9, 10, 11, 12, 13, 14, 15, 16, 17, 18, 19] | _ => []) (fun i => match i with | 18 => [17] | 19 => [17, 18] | 20 => [17, 18] | _ => []) (fun i => match i with | 0 => [20] | 1 => [18, 20] | 2 => [18, 20] | 3 => [18, 20] | 4 => [18, 20] | 5 => [18, 20] | 6 => [18, 20] | 7 => [18, 20] | 8 => [18, 20] | 9 => [17, 18, 20] | 10 => [17, 18, 20] | 11 => [17, 18, 20] | 12 => [17, 18, 20] | 13 => [17, 18, 20] | 14 => [17, 18, 20] | 15 => [17, 18, 20] | 16 => [17, 18, 20] | 17 => [18, 20] | 18 => [20] | 19 => [20] | _ => []) (fun i => match i with | 17 => [18, 19, 20] | 18 => [19, 20] | 20 => [] | _ => []) (fun _ => []) (fun (g : Unit) j => match g, j with | _, 0 => Iv 1 | _, 1 => Pv b24 0 | _, 2 => Pv b24 0 | _, 3 => Pv b24 0 | _, 4 => Pv b24 0 | _, 5 => .func (.func 22) #[] #[] | _, 6 => Iv 1 | _, 7 => Pv b16 2 | _, 8 => .agg #[Iv x3, Iv x4] | _, 9 => Pv b24 0 | _, 10 => Iv 1 | _, 11 => Pv b17 2 | _, 12 => .agg #[Iv x9, Iv x10] | _, 13 => Iv x13 | _, 14 => .tuple #[.agg #[Iv x57.1, Iv x57.2.1], Iv x57.2.2] | _, 15 => .agg #[Iv x57.1, Iv x57.2.1] | _, 16 => Iv x57.2.2 | _, 17 => .agg #[Iv x58.1, Iv x58.2.1] | _, 18 => .agg #[Iv x59.1, Iv x59.2.1] | _, 19 => Pv b25 2 | _, _ => undef) (fun s (g : Unit) w => match g with | _ => (s 17 = false ∧ s 18 = false ∧ s 20 = false ∧ St w0 w noX [] [pt b24 (Cs #[.func (.func 22) #[] #[], .func (.func 23) #[] #[], .func (.func 24) #[] #[], .func (.func 25) #[] #[], Iv x56.2.2] 48), pt b25 (Cs #[Iv x56.1, Iv x56.2.1, Iv 0, Iv 0, Iv 0, Iv 0] 25), pt b16 (Cs #[Iv x1, Iv x2, Iv x3, Iv x4, Iv x5, Iv x6] 25), pt b17 (Cs #[Iv x7, Iv x8, Iv x9, Iv x10, Iv x11, Iv x12] 25), pt b18 (Cs #[Iv x14, Iv x15] 23), pt b19 (Cs #[Iv 0, Iv 0, Iv 0, Iv 0, Iv 0, Iv 0] 25)]) ∨ (s 17 = true ∧ s 18 = false ∧ s 20 = false ∧ St w0 w noX [] [pt b24 (Cs #[.func (.func 22) #[] #[], .func (.func 23) #[] #[], .func (.func 24) #[] #[], .func (.func 25) #[] #[], Iv x58.2.2] 48), pt b25 (Cs #[Iv x56.1, Iv x56.2.1, Iv 0, Iv 0, Iv 0, Iv 0] 25), pt b16 (Cs #[Iv x1, Iv x2, Iv x3, Iv x4, Iv x5, Iv x6] 25), pt b17 (Cs #[Iv x7, Iv x8, Iv x9, Iv x10, Iv x11, Iv x12] 25), pt b18 (Cs #[Iv x14, Iv x15] 23), pt b19 (Cs #[Iv 0, Iv 0, Iv 0, Iv 0, Iv 0, Iv 0] 25)]) ∨ (s 17 = true ∧ s 18 = true ∧ s 20 = false ∧ St w0 w noX [] [pt b24 (Cs #[.func (.func 22) #[] #[], .func (.func 23) #[] #[], .func (.func 24) #[] #[], .func (.func 25) #[] #[], Iv x59.2.2] 48), pt b25 (Cs #[Iv x56.1, Iv x56.2.1, Iv 0, Iv 0, Iv 0, Iv 0] 25), pt b16 (Cs #[Iv x1, Iv x2, Iv x3, Iv x4, Iv x5, Iv x6] 25), pt b17 (Cs #[Iv x7, Iv x8, Iv x9, Iv x10, Iv x11, Iv x12] 25), pt b18 (Cs #[Iv x14, Iv x15] 23), pt b19 (Cs #[Iv 0, Iv 0, Iv 0, Iv 0, Iv 0, Iv 0] 25)]) ∨ (s 17 = true ∧ s 18 = true ∧ s 20 = true ∧ St w0 w noX [] [pt b24 (Cs #[.func (.func 22) #[] #[], .func (.func 23) #[] #[], .func (.func 24) #[] #[], .func (.func 25) #[] #[], Iv x59.2.2] 48), pt b25 (Cs #[Iv x56.1, Iv x56.2.1, Iv x59.1, Iv x59.2.1, Iv 0, Iv 0] 25), pt b16 (Cs #[Iv x1, Iv x2, Iv x3, Iv x4, Iv x5, Iv x6] 25), pt b17 (Cs #[Iv x7, Iv x8, Iv x9, Iv x10, Iv x11, Iv x12] 25), pt b18 (Cs #[Iv x14, Iv x15] 23), pt b19 (Cs #[Iv 0, Iv 0, Iv 0, Iv 0, Iv 0, Iv 0] 25)])) P_mixed (by kernel_rfl) hf hf1 (Or.inl ⟨rfl, rfl, rfl, hS.drew⟩) ?_ ?_ ?_
     ·clear hf hf1 hS
      refine ⟨?_, ?_, ?_, ?_, ?_, ?_, ?_, ?_, ?_, ?_, ?_, ?_, ?_, ?_, ?_, ?_, ?_, ?_, trivial⟩
      ·intro s g w hsp hsb hD a hf
       rcases hD with (⟨h17_, h18_, h20_, hD⟩ | ⟨h17_, h18_, h20_, hD⟩ | ⟨h17_, h18_, h20_, hD⟩ | ⟨h17_, h18_, h20_, hD⟩)
       ·have hS : St w0 w noX [] [pt b24 (Cs #[.func (.func 22) #[] #[], .func (.func 23) #[] #[], .func (.func 24) #[] #[], .func (.func 25) #[] #[], Iv x56.2.2] 48), pt b25 (Cs #[Iv x56.1, Iv x56.2.1, Iv 0, Iv 0, Iv 0, Iv 0] 25), pt b16 (Cs #[Iv x1, Iv x2, Iv x3, Iv x4, Iv x5, Iv x6] 25), pt b17 (Cs #[Iv x7, Iv x8, Iv x9, Iv x10, Iv x11, Iv x12] 25), pt b18 (Cs #[Iv x14, Iv x15] 23), pt b19 (Cs #[Iv 0, Iv 0, Iv 0, Iv 0, Iv 0, Iv 0] 25)] := hD; clear hD
        replace hf : Fr a 119 [] [(2, Iv x13), (4, Pv b16 0), (5, Pv b17 0), (7, Pv b18 0), (8, Pv b19 0), (9, Iv 0), (14, Pv b24 0), (15, Pv b25 0), (16, Iv 1), (43, Iv 1), (44, Bv true), (45, Iv 1), (66, Iv 1)] := hf
        refine O.val hf rfl rfl rfl (RunV.move rfl) ?_; clear hf a; intro a hf
        exact O.nil ⟨rfl, hf.to trivial, (fun d hd => by cases (show some 46 = some d from hd); exact hf.get _ _ rfl), (Or.inl ⟨h17_, h18_, h20_, hS⟩)⟩
       ·have hS : St w0 w noX [] [pt b24 (Cs #[.func (.func 22) #[] #[], .func (.func 23) #[] #[], .func (.func 24) #[] #[], .func (.func 25) #[] #[], Iv x58.2.2] 48), pt b25 (Cs #[Iv x56.1, Iv x56.2.1, Iv 0, Iv 0, Iv 0, Iv 0] 25), pt b16 (Cs #[Iv x1, Iv x2, Iv x3, Iv x4, Iv x5, Iv x6] 25), pt b17 (Cs #[Iv x7, Iv x8, Iv x9, Iv x10, Iv x11, Iv x12] 25), pt b18 (Cs #[Iv x14, Iv x15] 23), pt b19 (Cs #[Iv 0, Iv 0, Iv 0, Iv 0, Iv 0, Iv 0] 25)] := hD; clear hD
        replace hf : Fr a 119 [] [(2, Iv x13), (4, Pv b16 0), (5, Pv b17 0), (7, Pv b18 0), (8, Pv b19 0), (9, Iv 0), (14, Pv b24 0), (15, Pv b25 0), (16, Iv 1), (43, Iv 1), (44, Bv true), (45, Iv 1), (66, Iv 1)] := hf
        refine O.val hf rfl rfl rfl (RunV.move rfl) ?_; clear hf a; intro a hf
        exact O.nil ⟨rfl, hf.to trivial, (fun d hd => by cases (show some 46 = some d from hd); exact hf.get _ _ rfl), (Or.inr (Or.inl ⟨h17_, h18_, h20_, hS⟩))⟩
       ·have hS : St w0 w noX [] [pt b24 (Cs #[.func (.func 22) #[] #[], .func (.func 23) #[] #[], .func (.func 24) #[] #[], .func (.func 25) #[] #[], Iv x59.2.2] 48), pt b25 (Cs #[Iv x56.1, Iv x56.2.1, Iv 0, Iv 0, Iv 0, Iv 0] 25), pt b16 (Cs #[Iv x1, Iv x2, Iv x3, Iv x4, Iv x5, Iv x6] 25), pt b17 (Cs #[Iv x7, Iv x8, Iv x9, Iv x10, Iv x11, Iv x12] 25), pt b18 (Cs #[Iv x14, Iv x15] 23), pt b19 (Cs #[Iv 0, Iv 0, Iv 0, Iv 0, Iv 0, Iv 0] 25)] := hD; clear hD
        replace hf : Fr a 119 [] [(2, Iv x13), (4, Pv b16 0), (5, Pv b17 0), (7, Pv b18 0), (8, Pv b19 0), (9, Iv 0), (14, Pv b24 0), (15, Pv b25 0), (16, Iv 1), (43, Iv 1), (44, Bv true), (45, Iv 1), (66, Iv 1)] := hf
        refine O.val hf rfl rfl rfl (RunV.move rfl) ?_; clear hf a; intro a hf
        exact O.nil ⟨rfl, hf.to trivial, (fun d hd => by cases (show some 46 = some d from hd); exact hf.get _ _ rfl), (Or.inr (Or.inr (Or.inl ⟨h17_, h18_, h20_, hS⟩)))⟩
       ·exact absurd ((hsb 20 (by simp)).symm.trans h20_) (by decide)
      ·intro s g w hsp hsb hD a hf
       rcases hD with (⟨h17_, h18_, h20_, hD⟩ | ⟨h17_, h18_, h20_, hD⟩ | ⟨h17_, h18_, h20_, hD⟩ | ⟨h17_, h18_, h20_, hD⟩)
       ·have hS : St w0 w noX [] [pt b24 (Cs #[.func (.func 22) #[] #[], .func (.func 23) #[] #[], .func (.func 24) #[] #[], .func (.func 25) #[] #[], Iv x56.2.2] 48), pt b25 (Cs #[Iv x56.1, Iv x56.2.1, Iv 0, Iv 0, Iv 0, Iv 0] 25), pt b16 (Cs #[Iv x1, Iv x2, Iv x3, Iv x4, Iv x5, Iv x6] 25), pt b17 (Cs #[Iv x7, Iv x8, Iv x9, Iv x10, Iv x11, Iv x12] 25), pt b18 (Cs #[Iv x14, Iv x15] 23), pt b19 (Cs #[Iv 0, Iv 0, Iv 0, Iv 0, Iv 0, Iv 0] 25)] := hD; clear hD
        replace hf : Fr a 119 [] [(2, Iv x13), (4, Pv b16 0), (5, Pv b17 0), (7, Pv b18 0), (8, Pv b19 0), (9, Iv 0), (14, Pv b24 0), (15, Pv b25 0), (16, Iv 1), (43, Iv 1), (44, Bv true), (45, Iv 1), (66, Iv 1)] := hf
        refine O.val hf rfl rfl rfl (RunV.move rfl) ?_; clear hf a; intro a hf
        exact O.nil ⟨rfl, hf.to trivial, (fun d hd => by cases (show some 47 = some d from hd); exact hf.get _ _ rfl), (Or.inl ⟨h17_, h18_, h20_, hS⟩)⟩
       ·have hS : St w0 w noX [] [pt b24 (Cs #[.func (.func 22) #[] #[], .func (.func 23) #[] #[], .func (.func 24) #[] #[], .func (.func 25) #[] #[], Iv x58.2.2] 48), pt b25 (Cs #[Iv x56.1, Iv x56.2.1, Iv 0, Iv 0, Iv 0, Iv 0] 25), pt b16 (Cs #[Iv x1, Iv x2, Iv x3, Iv x4, Iv x5, Iv x6] 25), pt b17 (Cs #[Iv x7, Iv x8, Iv x9, Iv x10, Iv x11, Iv x12] 25), pt b18 (Cs #[Iv x14, Iv x15] 23), pt b19 (Cs #[Iv 0, Iv 0, Iv 0, Iv 0, Iv 0, Iv 0] 25)] := hD; clear hD
        replace hf : Fr a 119 [] [(2, Iv x13), (4, Pv b16 0), (5, Pv b17 0), (7, Pv b18 0), (8, Pv b19 0), (9, Iv 0), (14, Pv b24 0), (15, Pv b25 0), (16, Iv 1), (43, Iv 1), (44, Bv true), (45, Iv 1), (66, Iv 1)] := hf
        refine O.val hf rfl rfl rfl (RunV.move rfl) ?_; clear hf a; intro a hf
        exact O.nil ⟨rfl, hf.to trivial, (fun d hd => by cases (show some 47 = some d from hd); exact hf.get _ _ rfl), (Or.inr (Or.inl ⟨h17_, h18_, h20_, hS⟩))⟩
       ·exact absurd ((hsb 18 (by simp)).symm.trans h18_) (by decide)
       ·exact absurd ((hsb 18 (by simp)).symm.trans h18_) (by decide)
      ·intro s g w hsp hsb hD a hf
       rcases hD with (⟨h17_, h18_, h20_, hD⟩ | ⟨h17_, h18_, h20_, hD⟩ | ⟨h17_, h18_, h20_, hD⟩ | ⟨h17_, h18_, h20_, hD⟩)
       ·have hS : St w0 w noX [] [pt b24 (Cs #[.func (.func 22) #[] #[], .func (.func 23) #[] #[], .func (.func 24) #[] #[], .func (.func 25) #[] #[], Iv x56.2.2] 48), pt b25 (Cs #[Iv x56.1, Iv x56.2.1, Iv 0, Iv 0, Iv 0, Iv 0] 25), pt b16 (Cs #[Iv x1, Iv x2, Iv x3, Iv x4, Iv x5, Iv x6] 25), pt b17 (Cs #[Iv x7, Iv x8, Iv x9, Iv x10, Iv x11, Iv x12] 25), pt b18 (Cs #[Iv x14, Iv x15] 23), pt b19 (Cs #[Iv 0, Iv 0, Iv 0, Iv 0, Iv 0, Iv 0] 25)] := hD; clear hD
        replace hf : Fr a 119 [] [(2, Iv x13), (4, Pv b16 0), (5, Pv b17 0), (7, Pv b18 0), (8, Pv b19 0), (9, Iv 0), (14, Pv b24 0), (15, Pv b25 0), (16, Iv 1), (43, Iv 1), (44, Bv true), (45, Iv 1), (66, Iv 1)] := hf
        refine O.val hf rfl rfl rfl (RunV.move rfl) ?_; clear hf a; intro a hf
        exact O.nil ⟨rfl, hf.to trivial, (fun d hd => by cases (show some 48 = some d from hd); exact hf.get _ _ rfl), (Or.inl ⟨h17_, h18_, h20_, hS⟩)⟩
       ·have hS : St w0 w noX [] [pt b24 (Cs #[.func (.func 22) #[] #[], .func (.func 23) #[] #[], .func (.func 24) #[] #[], .func (.func 25) #[] #[], Iv x58.2.2] 48), pt b25 (Cs #[Iv x56.1, Iv x56.2.1, Iv 0, Iv 0, Iv 0, Iv 0] 25), pt b16 (Cs #[Iv x1, Iv x2, Iv x3, Iv x4, Iv x5, Iv x6] 25), pt b17 (Cs #[Iv x7, Iv x8, Iv x9, Iv x10, Iv x11, Iv x12] 25), pt b18 (Cs #[Iv x14, Iv x15] 23), pt b19 (Cs #[Iv 0, Iv 0, Iv 0, Iv 0, Iv 0, Iv 0] 25)] := hD; clear hD
        replace hf : Fr a 119 [] [(2, Iv x13), (4, Pv b16 0), (5, Pv b17 0), (7, Pv b18 0), (8, Pv b19 0), (9, Iv 0), (14, Pv b24 0), (15, Pv b25 0), (16, Iv 1), (43, Iv 1), (44, Bv true), (45, Iv 1), (66, Iv 1)] := hf
        refine O.val hf rfl rfl rfl (RunV.move rfl) ?_; clear hf a; intro a hf
        exact O.nil ⟨rfl, hf.to trivial, (fun d hd => by cases (show some 48 = some d from hd); exact hf.get _ _ rfl), (Or.inr (Or.inl ⟨h17_, h18_, h20_, hS⟩))⟩
       ·exact absurd ((hsb 18 (by simp)).symm.trans h18_) (by decide)
       ·exact absurd ((hsb 18 (by simp)).symm.trans h18_) (by decide)
      ·intro s g w hsp hsb hD a hf
       rcases hD with (⟨h17_, h18_, h20_, hD⟩ | ⟨h17_, h18_, h20_, hD⟩ | ⟨h17_, h18_, h20_, hD⟩ | ⟨h17_, h18_, h20_, hD⟩)
       ·have hS : St w0 w noX [] [pt b24 (Cs #[.func (.func 22) #[] #[], .func (.func 23) #[] #[], .func (.func 24) #[] #[], .func (.func 25) #[] #[], Iv x56.2.2] 48), pt b25 (Cs #[Iv x56.1, Iv x56.2.1, Iv 0, Iv 0, Iv 0, Iv 0] 25), pt b16 (Cs #[Iv x1, Iv x2, Iv x3, Iv x4, Iv x5, Iv x6] 25), pt b17 (Cs #[Iv x7, Iv x8, Iv x9, Iv x10, Iv x11, Iv x12] 25), pt b18 (Cs #[Iv x14, Iv x15] 23), pt b19 (Cs #[Iv 0, Iv 0, Iv 0, Iv 0, Iv 0, Iv 0] 25)] := hD; clear hD
        replace hf : Fr a 119 [] [(48, Pv b24 0), (2, Iv x13), (4, Pv b16 0), (5, Pv b17 0), (7, Pv b18 0), (8, Pv b19 0), (9, Iv 0), (14, Pv b24 0), (15, Pv b25 0), (16, Iv 1), (43, Iv 1), (44, Bv true), (45, Iv 1), (66, Iv 1)] := hf
        refine O.val hf rfl rfl rfl (RunV.nilCheck rfl) ?_; clear hf a; intro a hf
        exact O.nil ⟨rfl, hf.to trivial, (fun d hd => by cases (show some 49 = some d from hd); exact hf.get _ _ rfl), (Or.inl ⟨h17_, h18_, h20_, hS⟩)⟩
       ·have hS : St w0 w noX [] [pt b24 (Cs #[.func (.func 22) #[] #[], .func (.func 23) #[] #[], .func (.func 24) #[] #[], .func (.func 25) #[] #[], Iv x58.2.2] 48), pt b25 (Cs #[Iv x56.1, Iv x56.2.1, Iv 0, Iv 0, Iv 0, Iv 0] 25), pt b16 (Cs #[Iv x1, Iv x2, Iv x3, Iv x4, Iv x5, Iv x6] 25), pt b17 (Cs #[Iv x7, Iv x8, Iv x9, Iv x10, Iv x11, Iv x12] 25), pt b18 (Cs #[Iv x14, Iv x15] 23), pt b19 (Cs #[Iv 0, Iv 0, Iv 0, Iv 0, Iv 0, Iv 0] 25)] := hD; clear hD
        replace hf : Fr a 119 [] [(48, Pv b24 0), (2, Iv x13), (4, Pv b16 0), (5, Pv b17 0), (7, Pv b18 0), (8, Pv b19 0), (9, Iv 0), (14, Pv b24 0), (15, Pv b25 0), (16, Iv 1), (43, Iv 1), (44, Bv true), (45, Iv 1), (66, Iv 1)] := hf
        refine O.val hf rfl rfl rfl (RunV.nilCheck rfl) ?_; clear hf a; intro a hf
        exact O.nil ⟨rfl, hf.to trivial, (fun d hd => by cases (show some 49 = some d from hd); exact hf.get _ _ rfl), (Or.inr (Or.inl ⟨h17_, h18_, h20_, hS⟩))⟩
       ·exact absurd ((hsb 18 (by simp)).symm.trans h18_) (by decide)
       ·exact absurd ((hsb 18 (by simp)).symm.trans h18_) (by decide)
      ·intro s g w hsp hsb hD a hf
       rcases hD with (⟨h17_, h18_, h20_, hD⟩ | ⟨h17_, h18_, h20_, hD⟩ | ⟨h17_, h18_, h20_, hD⟩ | ⟨h17_, h18_, h20_, hD⟩)
       ·have hS : St w0 w noX [] [pt b24 (Cs #[.func (.func 22) #[] #[], .func (.func 23) #[] #[], .func (.func 24) #[] #[], .func (.func 25) #[] #[], Iv x56.2.2] 48), pt b25 (Cs #[Iv x56.1, Iv x56.2.1, Iv 0, Iv 0, Iv 0, Iv 0] 25), pt b16 (Cs #[Iv x1, Iv x2, Iv x3, Iv x4, Iv x5, Iv x6] 25), pt b17 (Cs #[Iv x7, Iv x8, Iv x9, Iv x10, Iv x11, Iv x12] 25), pt b18 (Cs #[Iv x14, Iv x15] 23), pt b19 (Cs #[Iv 0, Iv 0, Iv 0, Iv 0, Iv 0, Iv 0] 25)] := hD; clear hD
        replace hf : Fr a 119 [] [(49, Pv b24 0), (2, Iv x13), (4, Pv b16 0), (5, Pv b17 0), (7, Pv b18 0), (8, Pv b19 0), (9, Iv 0), (14, Pv b24 0), (15, Pv b25 0), (16, Iv 1), (43, Iv 1), (44, Bv true), (45, Iv 1), (66, Iv 1)] := hf
        refine O.val hf rfl rfl rfl (RunV.field T_field_48_0 rfl rfl) ?_; clear hf a; intro a hf
        exact O.nil ⟨rfl, hf.to trivial, (fun d hd => by cases (show some 50 = some d from hd); exact hf.get _ _ rfl), (Or.inl ⟨h17_, h18_, h20_, hS⟩)⟩
       ·have hS : St w0 w noX [] [pt b24 (Cs #[.func (.func 22) #[] #[], .func (.func 23) #[] #[], .func (.func 24) #[] #[], .func (.func 25) #[] #[], Iv x58.2.2] 48), pt b25 (Cs #[Iv x56.1, Iv x56.2.1, Iv 0, Iv 0, Iv 0, Iv 0] 25), pt b16 (Cs #[Iv x1, Iv x2, Iv x3, Iv x4, Iv x5, Iv x6] 25), pt b17 (Cs #[Iv x7, Iv x8, Iv x9, Iv x10, Iv x11, Iv x12] 25), pt b18 (Cs #[Iv x14, Iv x15] 23), pt b19 (Cs #[Iv 0, Iv 0, Iv 0, Iv 0, Iv 0, Iv 0] 25)] := hD; clear hD
        replace hf : Fr a 119 [] [(49, Pv b24 0), (2, Iv x13), (4, Pv b16 0), (5, Pv b17 0), (7, Pv b18 0), (8, Pv b19 0), (9, Iv 0), (14, Pv b24 0), (15, Pv b25 0), (16, Iv 1), (43, Iv 1), (44, Bv true), (45, Iv 1), (66, Iv 1)] := hf
        refine O.val hf rfl rfl rfl (RunV.field T_field_48_0 rfl rfl) ?_; clear hf a; intro a hf
        exact O.nil ⟨rfl, hf.to trivial, (fun d hd => by cases (show some 50 = some d from hd); exact hf.get _ _ rfl), (Or.inr (Or.inl ⟨h17_, h18_, h20_, hS⟩))⟩
       ·exact absurd ((hsb 18 (by simp)).symm.trans h18_) (by decide)
       ·exact absurd ((hsb 18 (by simp)).symm.trans h18_) (by decide)
      ·intro s g w hsp hsb hD a hf
       rcases hD with (⟨h17_, h18_, h20_, hD⟩ | ⟨h17_, h18_, h20_, hD⟩ | ⟨h17_, h18_, h20_, hD⟩ | ⟨h17_, h18_, h20_, hD⟩)
       ·have hS : St w0 w noX [] [pt b24 (Cs #[.func (.func 22) #[] #[], .func (.func 23) #[] #[], .func (.func 24) #[] #[], .func (.func 25) #[] #[], Iv x56.2.2] 48), pt b25 (Cs #[Iv x56.1, Iv x56.2.1, Iv 0, Iv 0, Iv 0, Iv 0] 25), pt b16 (Cs #[Iv x1, Iv x2, Iv x3, Iv x4, Iv x5, Iv x6] 25), pt b17 (Cs #[Iv x7, Iv x8, Iv x9, Iv x10, Iv x11, Iv x12] 25), pt b18 (Cs #[Iv x14, Iv x15] 23), pt b19 (Cs #[Iv 0, Iv 0, Iv 0, Iv 0, Iv 0, Iv 0] 25)] := hD; clear hD
        replace hf : Fr a 119 [] [(50, Pv b24 0), (2, Iv x13), (4, Pv b16 0), (5, Pv b17 0), (7, Pv b18 0), (8, Pv b19 0), (9, Iv 0), (14, Pv b24 0), (15, Pv b25 0), (16, Iv 1), (43, Iv 1), (44, Bv true), (45, Iv 1), (66, Iv 1)] := hf
        refine O.val hf rfl rfl rfl (RunV.load1 T_agg_46 rfl (hS.ptAt (i := 0) rfl) rfl) ?_; clear hf a; intro a hf
        exact O.nil ⟨rfl, hf.to trivial, (fun d hd => by cases (show some 51 = some d from hd); exact hf.get _ _ rfl), (Or.inl ⟨h17_, h18_, h20_, hS⟩)⟩
       ·have hS : St w0 w noX [] [pt b24 (Cs #[.func (.func 22) #[] #[], .func (.func 23) #[] #[], .func (.func 24) #[] #[], .func (.func 25) #[] #[], Iv x58.2.2] 48), pt b25 (Cs #[Iv x56.1, Iv x56.2.1, Iv 0, Iv 0, Iv 0, Iv 0] 25), pt b16 (Cs #[Iv x1, Iv x2, Iv x3, Iv x4, Iv x5, Iv x6] 25), pt b17 (Cs #[Iv x7, Iv x8, Iv x9, Iv x10, Iv x11, Iv x12] 25), pt b18 (Cs #[Iv x14, Iv x15] 23), pt b19 (Cs #[Iv 0, Iv 0, Iv 0, Iv 0, Iv 0, Iv 0] 25)] := hD; clear hD
        replace hf : Fr a 119 [] [(50, Pv b24 0), (2, Iv x13), (4, Pv b16 0), (5, Pv b17 0), (7, Pv b18 0), (8, Pv b19 0), (9, Iv 0), (14, Pv b24 0), (15, Pv b25 0), (16, Iv 1), (43, Iv 1), (44, Bv true), (45, Iv 1), (66, Iv 1)] := hf
        refine O.val hf rfl rfl rfl (RunV.load1 T_agg_46 rfl (hS.ptAt (i := 0) rfl) rfl) ?_; clear hf a; intro a hf
        exact O.nil ⟨rfl, hf.to trivial, (fun d hd => by cases (show some 51 = some d from hd); exact hf.get _ _ rfl), (Or.inr (Or.inl ⟨h17_, h18_, h20_, hS⟩))⟩
       ·exact absurd ((hsb 18 (by simp)).symm.trans h18_) (by decide)
       ·exact absurd ((hsb 18 (by simp)).symm.trans h18_) (by decide)
      ·intro s g w hsp hsb hD a hf
       rcases hD with (⟨h17_, h18_, h20_, hD⟩ | ⟨h17_, h18_, h20_, hD⟩ | ⟨h17_, h18_, h20_, hD⟩ | ⟨h17_, h18_, h20_, hD⟩)
       ·have hS : St w0 w noX [] [pt b24 (Cs #[.func (.func 22) #[] #[], .func (.func 23) #[] #[], .func (.func 24) #[] #[], .func (.func 25) #[] #[], Iv x56.2.2] 48), pt b25 (Cs #[Iv x56.1, Iv x56.2.1, Iv 0, Iv 0, Iv 0, Iv 0] 25), pt b16 (Cs #[Iv x1, Iv x2, Iv x3, Iv x4, Iv x5, Iv x6] 25), pt b17 (Cs #[Iv x7, Iv x8, Iv x9, Iv x10, Iv x11, Iv x12] 25), pt b18 (Cs #[Iv x14, Iv x15] 23), pt b19 (Cs #[Iv 0, Iv 0, Iv 0, Iv 0, Iv 0, Iv 0] 25)] := hD; clear hD
        replace hf : Fr a 119 [] [(2, Iv x13), (4, Pv b16 0), (5, Pv b17 0), (7, Pv b18 0), (8, Pv b19 0), (9, Iv 0), (14, Pv b24 0), (15, Pv b25 0), (16, Iv 1), (43, Iv 1), (44, Bv true), (45, Iv 1), (66, Iv 1)] := hf
        refine O.val hf rfl rfl rfl (RunV.move rfl) ?_; clear hf a; intro a hf
        exact O.nil ⟨rfl, hf.to trivial, (fun d hd => by cases (show some 52 = some d from hd); exact hf.get _ _ rfl), (Or.inl ⟨h17_, h18_, h20_, hS⟩)⟩
       ·have hS : St w0 w noX [] [pt b24 (Cs #[.func (.func 22) #[] #[], .func (.func 23) #[] #[], .func (.func 24) #[] #[], .func (.func 25) #[] #[], Iv x58.2.2] 48), pt b25 (Cs #[Iv x56.1, Iv x56.2.1, Iv 0, Iv 0, Iv 0, Iv 0] 25), pt b16 (Cs #[Iv x1, Iv x2, Iv x3, Iv x4, Iv x5, Iv x6] 25), pt b17 (Cs #[Iv x7, Iv x8, Iv x9, Iv x10, Iv x11, Iv x12] 25), pt b18 (Cs #[Iv x14, Iv x15] 23), pt b19 (Cs #[Iv 0, Iv 0, Iv 0, Iv 0, Iv 0, Iv 0] 25)] := hD; clear hD
        replace hf : Fr a 119 [] [(2, Iv x13), (4, Pv b16 0), (5, Pv b17 0), (7, Pv b18 0), (8, Pv b19 0), (9, Iv 0), (14, Pv b24 0), (15, Pv b25 0), (16, Iv 1), (43, Iv 1), (44, Bv true), (45, Iv 1), (66, Iv 1)] := hf
        refine O.val hf rfl rfl rfl (RunV.move rfl) ?_; clear hf a; intro a hf
        exact O.nil ⟨rfl, hf.to trivial, (fun d hd => by cases (show some 52 = some d from hd); exact hf.get _ _ rfl), (Or.inr (Or.inl ⟨h17_, h18_, h20_, hS⟩))⟩
       ·exact absurd ((hsb 18 (by simp)).symm.trans h18_) (by decide)
       ·exact absurd ((hsb 18 (by simp)).symm.trans h18_) (by decide)
      ·intro s g w hsp hsb hD a hf
       rcases hD with (⟨h17_, h18_, h20_, hD⟩ | ⟨h17_, h18_, h20_, hD⟩ | ⟨h17_, h18_, h20_, hD⟩ | ⟨h17_, h18_, h20_, hD⟩)
       ·have hS : St w0 w noX [] [pt b24 (Cs #[.func (.func 22) #[] #[], .func (.func 23) #[] #[], .func (.func 24) #[] #[], .func (.func 25) #[] #[], Iv x56.2.2] 48), pt b25 (Cs #[Iv x56.1, Iv x56.2.1, Iv 0, Iv 0, Iv 0, Iv 0] 25), pt b16 (Cs #[Iv x1, Iv x2, Iv x3, Iv x4, Iv x5, Iv x6] 25), pt b17 (Cs #[Iv x7, Iv x8, Iv x9, Iv x10, Iv x11, Iv x12] 25), pt b18 (Cs #[Iv x14, Iv x15] 23), pt b19 (Cs #[Iv 0, Iv 0, Iv 0, Iv 0, Iv 0, Iv 0] 25)] := hD; clear hD
        replace hf : Fr a 119 [] [(52, Iv 1), (2, Iv x13), (4, Pv b16 0), (5, Pv b17 0), (7, Pv b18 0), (8, Pv b19 0), (9, Iv 0), (14, Pv b24 0), (15, Pv b25 0), (16, Iv 1), (43, Iv 1), (44, Bv true), (45, Iv 1), (66, Iv 1)] := hf
        refine O.val hf rfl rfl rfl (RunV.indexArr (j := 1) (m := 2) T_arr_25 T_size_23 rfl rfl rfl (by decide) rfl) ?_; clear hf a; intro a hf
        exact O.nil ⟨rfl, hf.to trivial, (fun d hd => by cases (show some 53 = some d from hd); exact hf.get _ _ rfl), (Or.inl ⟨h17_, h18_, h20_, hS⟩)⟩
       ·have hS : St w0 w noX [] [pt b24 (Cs #[.func (.func 22) #[] #[], .func (.func 23) #[] #[], .func (.func 24) #[] #[], .func (.func 25) #[] #[], Iv x58.2.2] 48), pt b25 (Cs #[Iv x56.1, Iv x56.2.1, Iv 0, Iv 0, Iv 0, Iv 0] 25), pt b16 (Cs #[Iv x1, Iv x2, Iv x3, Iv x4, Iv x5, Iv x6] 25), pt b17 (Cs #[Iv x7, Iv x8, Iv x9, Iv x10, Iv x11, Iv x12] 25), pt b18 (Cs #[Iv x14, Iv x15] 23), pt b19 (Cs #[Iv 0, Iv 0, Iv 0, Iv 0, Iv 0, Iv 0] 25)] := hD; clear hD
        replace hf : Fr a 119 [] [(52, Iv 1), (2, Iv x13), (4, Pv b16 0), (5, Pv b17 0), (7, Pv b18 0), (8, Pv b19 0), (9, Iv 0), (14, Pv b24 0), (15, Pv b25 0), (16, Iv 1), (43, Iv 1), (44, Bv true), (45, Iv 1), (66, Iv 1)] := hf
        refine O.val hf rfl rfl rfl (RunV.indexArr (j := 1) (m := 2) T_arr_25 T_size_23 rfl rfl rfl (by decide) rfl) ?_; clear hf a; intro a hf
        exact O.nil ⟨rfl, hf.to trivial, (fun d hd => by cases (show some 53 = some d from hd); exact hf.get _ _ rfl), (Or.inr (Or.inl ⟨h17_, h18_, h20_, hS⟩))⟩
       ·exact absurd ((hsb 18 (by simp)).symm.trans h18_) (by decide)
       ·exact absurd ((hsb 18 (by simp)).symm.trans h18_) (by decide)
      ·intro s g w hsp hsb hD a hf
       rcases hD with (⟨h17_, h18_, h20_, hD⟩ | ⟨h17_, h18_, h20_, hD⟩ | ⟨h17_, h18_, h20_, hD⟩ | ⟨h17_, h18_, h20_, hD⟩)
       ·have hS : St w0 w noX [] [pt b24 (Cs #[.func (.func 22) #[] #[], .func (.func 23) #[] #[], .func (.func 24) #[] #[], .func (.func 25) #[] #[], Iv x56.2.2] 48), pt b25 (Cs #[Iv x56.1, Iv x56.2.1, Iv 0, Iv 0, Iv 0, Iv 0] 25), pt b16 (Cs #[Iv x1, Iv x2, Iv x3, Iv x4, Iv x5, Iv x6] 25), pt b17 (Cs #[Iv x7, Iv x8, Iv x9, Iv x10, Iv x11, Iv x12] 25), pt b18 (Cs #[Iv x14, Iv x15] 23), pt b19 (Cs #[Iv 0, Iv 0, Iv 0, Iv 0, Iv 0, Iv 0] 25)] := hD; clear hD
        replace hf : Fr a 119 [] [(53, Pv b16 2), (2, Iv x13), (4, Pv b16 0), (5, Pv b17 0), (7, Pv b18 0), (8, Pv b19 0), (9, Iv 0), (14, Pv b24 0), (15, Pv b25 0), (16, Iv 1), (43, Iv 1), (44, Bv true), (45, Iv 1), (66, Iv 1)] := hf
        refine O.val hf rfl rfl rfl (RunV.loadN (cs' := #[Iv x3, Iv x4]) T_agg_23 T_size_23 rfl (hS.ptAt (i := 2) rfl) (Nat.le_of_ble_eq_true rfl) rfl) ?_; clear hf a; intro a hf
        exact O.nil ⟨rfl, hf.to trivial, (fun d hd => by cases (show some 54 = some d from hd); exact hf.get _ _ rfl), (Or.inl ⟨h17_, h18_, h20_, hS⟩)⟩
       ·have hS : St w0 w noX [] [pt b24 (Cs #[.func (.func 22) #[] #[], .func (.func 23) #[] #[], .func (.func 24) #[] #[], .func (.func 25) #[] #[], Iv x58.2.2] 48), pt b25 (Cs #[Iv x56.1, Iv x56.2.1, Iv 0, Iv 0, Iv 0, Iv 0] 25), pt b16 (Cs #[Iv x1, Iv x2, Iv x3, Iv x4, Iv x5, Iv x6] 25), pt b17 (Cs #[Iv x7, Iv x8, Iv x9, Iv x10, Iv x11, Iv x12] 25), pt b18 (Cs #[Iv x14, Iv x15] 23), pt b19 (Cs #[Iv 0, Iv 0, Iv 0, Iv 0, Iv 0, Iv 0] 25)] := hD; clear hD
        replace hf : Fr a 119 [] [(53, Pv b16 2), (2, Iv x13), (4, Pv b16 0), (5, Pv b17 0), (7, Pv b18 0), (8, Pv b19 0), (9, Iv 0), (14, Pv b24 0), (15, Pv b25 0), (16, Iv 1), (43, Iv 1), (44, Bv true), (45, Iv 1), (66, Iv 1)] := hf
        refine O.val hf rfl rfl rfl (RunV.loadN (cs' := #[Iv x3, Iv x4]) T_agg_23 T_size_23 rfl (hS.ptAt (i := 2) rfl) (Nat.le_of_ble_eq_true rfl) rfl) ?_; clear hf a; intro a hf
        exact O.nil ⟨rfl, hf.to trivial, (fun d hd => by cases (show some 54 = some d from hd); exact hf.get _ _ rfl), (Or.inr (Or.inl ⟨h17_, h18_, h20_, hS⟩))⟩
       ·exact absurd ((hsb 18 (by simp)).symm.trans h18_) (by decide)
       ·exact absurd ((hsb 18 (by simp)).symm.trans h18_) (by decide)
      ·intro s g w hsp hsb hD a hf
       rcases hD with (⟨h17_, h18_, h20_, hD⟩ | ⟨h17_, h18_, h20_, hD⟩ | ⟨h17_, h18_, h20_, hD⟩ | ⟨h17_, h18_, h20_, hD⟩)
       ·have hS : St w0 w noX [] [pt b24 (Cs #[.func (.func 22) #[] #[], .func (.func 23) #[] #[], .func (.func 24) #[] #[], .func (.func 25) #[] #[], Iv x56.2.2] 48), pt b25 (Cs #[Iv x56.1, Iv x56.2.1, Iv 0, Iv 0, Iv 0, Iv 0] 25), pt b16 (Cs #[Iv x1, Iv x2, Iv x3, Iv x4, Iv x5, Iv x6] 25), pt b17 (Cs #[Iv x7, Iv x8, Iv x9, Iv x10, Iv x11, Iv x12] 25), pt b18 (Cs #[Iv x14, Iv x15] 23), pt b19 (Cs #[Iv 0, Iv 0, Iv 0, Iv 0, Iv 0, Iv 0] 25)] := hD; clear hD
        replace hf : Fr a 119 [] [(2, Iv x13), (4, Pv b16 0), (5, Pv b17 0), (7, Pv b18 0), (8, Pv b19 0), (9, Iv 0), (14, Pv b24 0), (15, Pv b25 0), (16, Iv 1), (43, Iv 1), (44, Bv true), (45, Iv 1), (66, Iv 1)] := hf
        refine O.val hf rfl rfl rfl (RunV.move rfl) ?_; clear hf a; intro a hf
        exact O.nil ⟨rfl, hf.to trivial, (fun d hd => by cases (show some 55 = some d from hd); exact hf.get _ _ rfl), (Or.inl ⟨h17_, h18_, h20_, hS⟩)⟩
       ·exact absurd ((hsb 17 (by simp)).symm.trans h17_) (by decide)
       ·exact absurd ((hsb 17 (by simp)).symm.trans h17_) (by decide)
       ·exact absurd ((hsb 17 (by simp)).symm.trans h17_) (by decide)
      ·intro s g w hsp hsb hD a hf
       rcases hD with (⟨h17_, h18_, h20_, hD⟩ | ⟨h17_, h18_, h20_, hD⟩ | ⟨h17_, h18_, h20_, hD⟩ | ⟨h17_, h18_, h20_, hD⟩)
       ·have hS : St w0 w noX [] [pt b24 (Cs #[.func (.func 22) #[] #[], .func (.func 23) #[] #[], .func (.func 24) #[] #[], .func (.func 25) #[] #[], Iv x56.2.2] 48), pt b25 (Cs #[Iv x56.1, Iv x56.2.1, Iv 0, Iv 0, Iv 0, Iv 0] 25), pt b16 (Cs #[Iv x1, Iv x2, Iv x3, Iv x4, Iv x5, Iv x6] 25), pt b17 (Cs #[Iv x7, Iv x8, Iv x9, Iv x10, Iv x11, Iv x12] 25), pt b18 (Cs #[Iv x14, Iv x15] 23), pt b19 (Cs #[Iv 0, Iv 0, Iv 0, Iv 0, Iv 0, Iv 0] 25)] := hD; clear hD
        replace hf : Fr a 119 [] [(2, Iv x13), (4, Pv b16 0), (5, Pv b17 0), (7, Pv b18 0), (8, Pv b19 0), (9, Iv 0), (14, Pv b24 0), (15, Pv b25 0), (16, Iv 1), (43, Iv 1), (44, Bv true), (45, Iv 1), (66, Iv 1)] := hf
        refine O.val hf rfl rfl rfl (RunV.move rfl) ?_; clear hf a; intro a hf
        exact O.nil ⟨rfl, hf.to trivial, (fun d hd => by cases (show some 56 = some d from hd); exact hf.get _ _ rfl), (Or.inl ⟨h17_, h18_, h20_, hS⟩)⟩
       ·exact absurd ((hsb 17 (by simp)).symm.trans h17_) (by decide)
       ·exact absurd ((hsb 17 (by simp)).symm.trans h17_) (by decide)
       ·exact absurd ((hsb 17 (by simp)).symm.trans h17_) (by decide)
      ·intro s g w hsp hsb hD a hf
       rcases hD with (⟨h17_, h18_, h20_, hD⟩ | ⟨h17_, h18_, h20_, hD⟩ | ⟨h17_, h18_, h20_, hD⟩ | ⟨h17_, h18_, h20_, hD⟩)
       ·have hS : St w0 w noX [] [pt b24 (Cs #[.func (.func 22) #[] #[], .func (.func 23) #[] #[], .func (.func 24) #[] #[], .func (.func 25) #[] #[], Iv x56.2.2] 48), pt b25 (Cs #[Iv x56.1, Iv x56.2.1, Iv 0, Iv 0, Iv 0, Iv 0] 25), pt b16 (Cs #[Iv x1, Iv x2, Iv x3, Iv x4, Iv x5, Iv x6] 25), pt b17 (Cs #[Iv x7, Iv x8, Iv x9, Iv x10, Iv x11, Iv x12] 25), pt b18 (Cs #[Iv x14, Iv x15] 23), pt b19 (Cs #[Iv 0, Iv 0, Iv 0, Iv 0, Iv 0, Iv 0] 25)] := hD; clear hD
        replace hf : Fr a 119 [] [(56, Iv 1), (2, Iv x13), (4, Pv b16 0), (5, Pv b17 0), (7, Pv b18 0), (8, Pv b19 0), (9, Iv 0), (14, Pv b24 0), (15, Pv b25 0), (16, Iv 1), (43, Iv 1), (44, Bv true), (45, Iv 1), (66, Iv 1)] := hf
        refine O.val hf rfl rfl rfl (RunV.indexArr (j := 1) (m := 2) T_arr_25 T_size_23 rfl rfl rfl (by decide) rfl) ?_; clear hf a; intro a hf
        exact O.nil ⟨rfl, hf.to trivial, (fun d hd => by cases (show some 57 = some d from hd); exact hf.get _ _ rfl), (Or.inl ⟨h17_, h18_, h20_, hS⟩)⟩
       ·exact absurd ((hsb 17 (by simp)).symm.trans h17_) (by decide)
       ·exact absurd ((hsb 17 (by simp)).symm.trans h17_) (by decide)
       ·exact absurd ((hsb 17 (by simp)).symm.trans h17_) (by decide)
      ·intro s g w hsp hsb hD a hf
       rcases hD with (⟨h17_, h18_, h20_, hD⟩ | ⟨h17_, h18_, h20_, hD⟩ | ⟨h17_, h18_, h20_, hD⟩ | ⟨h17_, h18_, h20_, hD⟩)
       ·have hS : St w0 w noX [] [pt b24 (Cs #[.func (.func 22) #[] #[], .func (.func 23) #[] #[], .func (.func 24) #[] #[], .func (.func 25) #[] #[], Iv x56.2.2] 48), pt b25 (Cs #[Iv x56.1, Iv x56.2.1, Iv 0, Iv 0, Iv 0, Iv 0] 25), pt b16 (Cs #[Iv x1, Iv x2, Iv x3, Iv x4, Iv x5, Iv x6] 25), pt b17 (Cs #[Iv x7, Iv x8, Iv x9, Iv x10, Iv x11, Iv x12] 25), pt b18 (Cs #[Iv x14, Iv x15] 23), pt b19 (Cs #[Iv 0, Iv 0, Iv 0, Iv 0, Iv 0, Iv 0] 25)] := hD; clear hD
        replace hf : Fr a 119 [] [(57, Pv b17 2), (2, Iv x13), (4, Pv b16 0), (5, Pv b17 0), (7, Pv b18 0), (8, Pv b19 0), (9, Iv 0), (14, Pv b24 0), (15, Pv b25 0), (16, Iv 1), (43, Iv 1), (44, Bv true), (45, Iv 1), (66, Iv 1)] := hf
        refine O.val hf rfl rfl rfl (RunV.loadN (cs' := #[Iv x9, Iv x10]) T_agg_23 T_size_23 rfl (hS.ptAt (i := 3) rfl) (Nat.le_of_ble_eq_true rfl) rfl) ?_; clear hf a; intro a hf
        exact O.nil ⟨rfl, hf.to trivial, (fun d hd => by cases (show some 58 = some d from hd); exact hf.get _ _ rfl), (Or.inl ⟨h17_, h18_, h20_, hS⟩)⟩
       ·exact absurd ((hsb 17 (by simp)).symm.trans h17_) (by decide)
       ·exact absurd ((hsb 17 (by simp)).symm.trans h17_) (by decide)
       ·exact absurd ((hsb 17 (by simp)).symm.trans h17_) (by decide)
      ·intro s g w hsp hsb hD a hf
       rcases hD with (⟨h17_, h18_, h20_, hD⟩ | ⟨h17_, h18_, h20_, hD⟩ | ⟨h17_, h18_, h20_, hD⟩ | ⟨h17_, h18_, h20_, hD⟩)
       ·have hS : St w0 w noX [] [pt b24 (Cs #[.func (.func 22) #[] #[], .func (.func 23) #[] #[], .func (.func 24) #[] #[], .func (.func 25) #[] #[], Iv x56.2.2] 48), pt b25 (Cs #[Iv x56.1, Iv x56.2.1, Iv 0, Iv 0, Iv 0, Iv 0] 25), pt b16 (Cs #[Iv x1, Iv x2, Iv x3, Iv x4, Iv x5, Iv x6] 25), pt b17 (Cs #[Iv x7, Iv x8, Iv x9, Iv x10, Iv x11, Iv x12] 25), pt b18 (Cs #[Iv x14, Iv x15] 23), pt b19 (Cs #[Iv 0, Iv 0, Iv 0, Iv 0, Iv 0, Iv 0] 25)] := hD; clear hD
        replace hf : Fr a 119 [] [(2, Iv x13), (4, Pv b16 0), (5, Pv b17 0), (7, Pv b18 0), (8, Pv b19 0), (9, Iv 0), (14, Pv b24 0), (15, Pv b25 0), (16, Iv 1), (43, Iv 1), (44, Bv true), (45, Iv 1), (66, Iv 1)] := hf
        refine O.val hf rfl rfl rfl (RunV.move rfl) ?_; clear hf a; intro a hf
        exact O.nil ⟨rfl, hf.to trivial, (fun d hd => by cases (show some 59 = some d from hd); exact hf.get _ _ rfl), (Or.inl ⟨h17_, h18_, h20_, hS⟩)⟩
       ·exact absurd ((hsb 17 (by simp)).symm.trans h17_) (by decide)
       ·exact absurd ((hsb 17 (by simp)).symm.trans h17_) (by decide)
       ·exact absurd ((hsb 17 (by simp)).symm.trans h17_) (by decide)
      ·intro s g w hsp hsb hD a hf
       rcases hD with (⟨h17_, h18_, h20_, hD⟩ | ⟨h17_, h18_, h20_, hD⟩ | ⟨h17_, h18_, h20_, hD⟩ | ⟨h17_, h18_, h20_, hD⟩)
       ·have hS : St w0 w noX [] [pt b24 (Cs #[.func (.func 22) #[] #[], .func (.func 23) #[] #[], .func (.func 24) #[] #[], .func (.func 25) #[] #[], Iv x56.2.2] 48), pt b25 (Cs #[Iv x56.1, Iv x56.2.1, Iv 0, Iv 0, Iv 0, Iv 0] 25), pt b16 (Cs #[Iv x1, Iv x2, Iv x3, Iv x4, Iv x5, Iv x6] 25), pt b17 (Cs #[Iv x7, Iv x8, Iv x9, Iv x10, Iv x11, Iv x12] 25), pt b18 (Cs #[Iv x14, Iv x15] 23), pt b19 (Cs #[Iv 0, Iv 0, Iv 0, Iv 0, Iv 0, Iv 0] 25)] := hD; clear hD
        replace hf : Fr a 119 [] [(58, .agg #[Iv x9, Iv x10]), (59, Iv x13), (2, Iv x13), (4, Pv b16 0), (5, Pv b17 0), (7, Pv b18 0), (8, Pv b19 0), (9, Iv 0), (14, Pv b24 0), (15, Pv b25 0), (16, Iv 1), (43, Iv 1), (44, Bv true), (45, Iv 1), (66, Iv 1)] := hf
        refine O.callR hf rfl rfl rfl (RunE.call (av := #[.agg #[Iv x9, Iv x10], Iv x13, Iv 86400000000]) C_ok_15 rfl rfl rfl) (m_span_Scale_ok F x9 x10 x13 86400000000 _ x57 hx57) ?_
        clear hf a; rintro _ w hS1 a hf
        replace hf : Fr a _ _ ((60, .tuple #[.agg #[Iv x57.1, Iv x57.2.1], Iv x57.2.2]) :: _) := hf
        replace hS := (hS.call hS1).eqM (N := [pt b24 (Cs #[.func (.func 22) #[] #[], .func (.func 23) #[] #[], .func (.func 24) #[] #[], .func (.func 25) #[] #[], Iv x56.2.2] 48), pt b25 (Cs #[Iv x56.1, Iv x56.2.1, Iv 0, Iv 0, Iv 0, Iv 0] 25), pt b16 (Cs #[Iv x1, Iv x2, Iv x3, Iv x4, Iv x5, Iv x6] 25), pt b17 (Cs #[Iv x7, Iv x8, Iv x9, Iv x10, Iv x11, Iv x12] 25), pt b18 (Cs #[Iv x14, Iv x15] 23), pt b19 (Cs #[Iv 0, Iv 0, Iv 0, Iv 0, Iv 0, Iv 0] 25)]) rfl
        clear hS1
        exact O.nil ⟨rfl, hf.to trivial, (fun d hd => by cases (show some 60 = some d from hd); exact hf.get _ _ rfl), (Or.inl ⟨h17_, h18_, h20_, hS⟩)⟩
       ·exact absurd ((hsb 17 (by simp)).symm.trans h17_) (by decide)
       ·exact absurd ((hsb 17 (by simp)).symm.trans h17_) (by decide)
       ·exact absurd ((hsb 17 (by simp)).symm.trans h17_) (by decide)
      ·intro s g w hsp hsb hD a hf
       rcases hD with (⟨h17_, h18_, h20_, hD⟩ | ⟨h17_, h18_, h20_, hD⟩ | ⟨h17_, h18_, h20_, hD⟩ | ⟨h17_, h18_, h20_, hD⟩)
       ·have hS : St w0 w noX [] [pt b24 (Cs #[.func (.func 22) #[] #[], .func (.func 23) #[] #[], .func (.func 24) #[] #[], .func (.func 25) #[] #[], Iv x56.2.2] 48), pt b25 (Cs #[Iv x56.1, Iv x56.2.1, Iv 0, Iv 0, Iv 0, Iv 0] 25), pt b16 (Cs #[Iv x1, Iv x2, Iv x3, Iv x4, Iv x5, Iv x6] 25), pt b17 (Cs #[Iv x7, Iv x8, Iv x9, Iv x10, Iv x11, Iv x12] 25), pt b18 (Cs #[Iv x14, Iv x15] 23), pt b19 (Cs #[Iv 0, Iv 0, Iv 0, Iv 0, Iv 0, Iv 0] 25)] := hD; clear hD
        replace hf : Fr a 119 [] [(60, .tuple #[.agg #[Iv x57.1, Iv x57.2.1], Iv x57.2.2]), (2, Iv x13), (4, Pv b16 0), (5, Pv b17 0), (7, Pv b18 0), (8, Pv b19 0), (9, Iv 0), (14, Pv b24 0), (15, Pv b25 0), (16, Iv 1), (43, Iv 1), (44, Bv true), (45, Iv 1), (66, Iv 1)] := hf
        refine O.val hf rfl rfl rfl (RunV.extract rfl rfl) ?_; clear hf a; intro a hf
        exact O.nil ⟨rfl, hf.to trivial, (fun d hd => by cases (show some 61 = some d from hd); exact hf.get _ _ rfl), (Or.inl ⟨h17_, h18_, h20_, hS⟩)⟩
       ·exact absurd ((hsb 17 (by simp)).symm.trans h17_) (by decide)
       ·exact absurd ((hsb 17 (by simp)).symm.trans h17_) (by decide)
       ·exact absurd ((hsb 17 (by simp)).symm.trans h17_) (by decide)
      ·intro s g w hsp hsb hD a hf
       rcases hD with (⟨h17_, h18_, h20_, hD⟩ | ⟨h17_, h18_, h20_, hD⟩ | ⟨h17_, h18_, h20_, hD⟩ | ⟨h17_, h18_, h20_, hD⟩)
       ·have hS : St w0 w noX [] [pt b24 (Cs #[.func (.func 22) #[] #[], .func (.func 23) #[] #[], .func (.func 24) #[] #[], .func (.func 25) #[] #[], Iv x56.2.2] 48), pt b25 (Cs #[Iv x56.1, Iv x56.2.1, Iv 0, Iv 0, Iv 0, Iv 0] 25), pt b16 (Cs #[Iv x1, Iv x2, Iv x3, Iv x4, Iv x5, Iv x6] 25), pt b17 (Cs #[Iv x7, Iv x8, Iv x9, Iv x10, Iv x11, Iv x12] 25), pt b18 (Cs #[Iv x14, Iv x15] 23), pt b19 (Cs #[Iv 0, Iv 0, Iv 0, Iv 0, Iv 0, Iv 0] 25)] := hD; clear hD
        replace hf : Fr a 119 [] [(60, .tuple #[.agg #[Iv x57.1, Iv x57.2.1], Iv x57.2.2]), (2, Iv x13), (4, Pv b16 0), (5, Pv b17 0), (7, Pv b18 0), (8, Pv b19 0), (9, Iv 0), (14, Pv b24 0), (15, Pv b25 0), (16, Iv 1), (43, Iv 1), (44, Bv true), (45, Iv 1), (66, Iv 1)] := hf
        refine O.val hf rfl rfl rfl (RunV.extract rfl rfl) ?_; clear hf a; intro a hf
        exact O.nil ⟨rfl, hf.to trivial, (fun d hd => by cases (show some 62 = some d from hd); exact hf.get _ _ rfl), (Or.inl ⟨h17_, h18_, h20_, hS⟩)⟩
       ·exact absurd ((hsb 17 (by simp)).symm.trans h17_) (by decide)
       ·exact absurd ((hsb 17 (by simp)).symm.trans h17_) (by decide)
       ·exact absurd ((hsb 17 (by simp)).symm.trans h17_) (by decide)
      ·intro s g w hsp hsb hD a hf
       rcases hD with (⟨h17_, h18_, h20_, hD⟩ | ⟨h17_, h18_, h20_, hD⟩ | ⟨h17_, h18_, h20_, hD⟩ | ⟨h17_, h18_, h20_, hD⟩)
       ·exact absurd ((hsp 17 (by simp)).symm.trans h17_) (by decide)
       ·exact absurd ((hsp 18 (by simp)).symm.trans h18_) (by decide)
       ·have hS : St w0 w noX [] [pt b24 (Cs #[.func (.func 22) #[] #[], .func (.func 23) #[] #[], .func (.func 24) #[] #[], .func (.func 25) #[] #[], Iv x59.2.2] 48), pt b25 (Cs #[Iv x56.1, Iv x56.2.1, Iv 0, Iv 0, Iv 0, Iv 0] 25), pt b16 (Cs #[Iv x1, Iv x2, Iv x3, Iv x4, Iv x5, Iv x6] 25), pt b17 (Cs #[Iv x7, Iv x8, Iv x9, Iv x10, Iv x11, Iv x12] 25), pt b18 (Cs #[Iv x14, Iv x15] 23), pt b19 (Cs #[Iv 0, Iv 0, Iv 0, Iv 0, Iv 0, Iv 0] 25)] := hD; clear hD
        replace hf : Fr a 119 [] [(46, Iv 1), (47, Pv b24 0), (48, Pv b24 0), (49, Pv b24 0), (50, Pv b24 0), (51, .func (.func 22) #[] #[]), (52, Iv 1), (53, Pv b16 2), (54, .agg #[Iv x3, Iv x4]), (55, Pv b24 0), (56, Iv 1), (57, Pv b17 2), (58, .agg #[Iv x9, Iv x10]), (59, Iv x13), (60, .tuple #[.agg #[Iv x57.1, Iv x57.2.1], Iv x57.2.2]), (61, .agg #[Iv x57.1, Iv x57.2.1]), (62, Iv x57.2.2), (63, .agg #[Iv x58.1, Iv x58.2.1]), (64, .agg #[Iv x59.1, Iv x59.2.1]), (2, Iv x13), (4, Pv b16 0), (5, Pv b17 0), (7, Pv b18 0), (8, Pv b19 0), (9, Iv 0), (14, Pv b24 0), (15, Pv b25 0), (16, Iv 1), (43, Iv 1), (44, Bv true), (45, Iv 1), (66, Iv 1)] := hf
        refine O.val hf rfl rfl rfl (RunV.indexArr (j := 1) (m := 2) T_arr_25 T_size_23 rfl rfl rfl (by decide) rfl) ?_; clear hf a; intro a hf
        exact O.nil ⟨rfl, hf.to trivial, (fun d hd => by cases (show some 65 = some d from hd); exact hf.get _ _ rfl), (Or.inr (Or.inr (Or.inl ⟨h17_, h18_, h20_, hS⟩)))⟩
       ·exact absurd ((hsb 20 (by simp)).symm.trans h20_) (by decide)
     ·clear hf hf1 hS
      refine ⟨?_, ?_, ?_, trivial⟩
      ·intro s g w hs0 hsp hsb hD a hf
       rcases hD with (⟨h17_, h18_, h20_, hD⟩ | ⟨h17_, h18_, h20_, hD⟩ | ⟨h17_, h18_, h20_, hD⟩ | ⟨h17_, h18_, h20_, hD⟩)
       ·have hS : St w0 w noX [] [pt b24 (Cs #[.func (.func 22) #[] #[], .func (.func 23) #[] #[], .func (.func 24) #[] #[], .func (.func 25) #[] #[], Iv x56.2.2] 48), pt b25 (Cs #[Iv x56.1, Iv x56.2.1, Iv 0, Iv 0, Iv 0, Iv 0] 25), pt b16 (Cs #[Iv x1, Iv x2, Iv x3, Iv x4, Iv x5, Iv x6] 25), pt b17 (Cs #[Iv x7, Iv x8, Iv x9, Iv x10, Iv x11, Iv x12] 25), pt b18 (Cs #[Iv x14, Iv x15] 23), pt b19 (Cs #[Iv 0, Iv 0, Iv 0, Iv 0, Iv 0, Iv 0] 25)] := hD; clear hD
        replace hf : Fr a 119 [] [(55, Pv b24 0), (60, .tuple #[.agg #[Iv x57.1, Iv x57.2.1], Iv x57.2.2]), (61, .agg #[Iv x57.1, Iv x57.2.1]), (62, Iv x57.2.2), (2, Iv x13), (4, Pv b16 0), (5, Pv b17 0), (7, Pv b18 0), (8, Pv b19 0), (9, Iv 0), (14, Pv b24 0), (15, Pv b25 0), (16, Iv 1), (43, Iv 1), (44, Bv true), (45, Iv 1), (66, Iv 1)] := hf
        refine O.callR hf rfl rfl rfl (RunE.call (av := #[Pv b24 0, .agg #[Iv x57.1, Iv x57.2.1], Iv x57.2.2]) C_ok_14 rfl rfl rfl) (m_cells_sheet_keep_ok F b24 x56.2.2 x57.1 x57.2.1 x57.2.2 _ (hS.ptAt (i := 0) rfl) x58 hx58) ?_
        clear hf a; rintro _ w hS1 a hf
        replace hf : Fr a _ _ ((63, .agg #[Iv x58.1, Iv x58.2.1]) :: _) := hf
        replace hS := (hS.callX1 hS1 (i := 0) rfl (fun _ h => h)).eqM (N := [pt b24 (Cs #[.func (.func 22) #[] #[], .func (.func 23) #[] #[], .func (.func 24) #[] #[], .func (.func 25) #[] #[], Iv x58.2.2] 48), pt b25 (Cs #[Iv x56.1, Iv x56.2.1, Iv 0, Iv 0, Iv 0, Iv 0] 25), pt b16 (Cs #[Iv x1, Iv x2, Iv x3, Iv x4, Iv x5, Iv x6] 25), pt b17 (Cs #[Iv x7, Iv x8, Iv x9, Iv x10, Iv x11, Iv x12] 25), pt b18 (Cs #[Iv x14, Iv x15] 23), pt b19 (Cs #[Iv 0, Iv 0, Iv 0, Iv 0, Iv 0, Iv 0] 25)]) rfl
        clear hS1
        exact O.nil ⟨rfl, (), hf.to trivial, (fun d hd => by cases (show some 63 = some d from hd); exact hf.get _ _ rfl), (fun j hj hk => match j, hj, hk with | 0, hj, hk => rfl | 1, hj, hk => rfl | 2, hj, hk => rfl | 3, hj, hk => rfl | 4, hj, hk => rfl | 5, hj, hk => rfl | 6, hj, hk => rfl | 7, hj, hk => rfl | 8, hj, hk => rfl | 9, hj, hk => rfl | 10, hj, hk => rfl | 11, hj, hk => rfl | 12, hj, hk => rfl | 13, hj, hk => rfl | 14, hj, hk => rfl | 15, hj, hk => rfl | 16, hj, hk => rfl | 17, hj, hk => absurd rfl hj | 18, hj, hk => absurd hk (by decide) | 19, hj, hk => absurd hk (by decide) | 20, hj, hk => absurd hk (by decide) | _ + 21, _, _ => rfl), (Or.inr (Or.inl ⟨rfl, h18_, h20_, hS⟩))⟩
       ·exact absurd (hs0.symm.trans h17_) (by decide)
       ·exact absurd (hs0.symm.trans h17_) (by decide)
       ·exact absurd (hs0.symm.trans h17_) (by decide)
      ·intro s g w hs0 hsp hsb hD a hf
       rcases hD with (⟨h17_, h18_, h20_, hD⟩ | ⟨h17_, h18_, h20_, hD⟩ | ⟨h17_, h18_, h20_, hD⟩ | ⟨h17_, h18_, h20_, hD⟩)
       ·exact absurd ((hsp 17 (by simp)).symm.trans h17_) (by decide)
       ·have hS : St w0 w noX [] [pt b24 (Cs #[.func (.func 22) #[] #[], .func (.func 23) #[] #[], .func (.func 24) #[] #[], .func (.func 25) #[] #[], Iv x58.2.2] 48), pt b25 (Cs #[Iv x56.1, Iv x56.2.1, Iv 0, Iv 0, Iv 0, Iv 0] 25), pt b16 (Cs #[Iv x1, Iv x2, Iv x3, Iv x4, Iv x5, Iv x6] 25), pt b17 (Cs #[Iv x7, Iv x8, Iv x9, Iv x10, Iv x11, Iv x12] 25), pt b18 (Cs #[Iv x14, Iv x15] 23), pt b19 (Cs #[Iv 0, Iv 0, Iv 0, Iv 0, Iv 0, Iv 0] 25)] := hD; clear hD
        replace hf : Fr a 119 [] [(47, Pv b24 0), (51, .func (.func 22) #[] #[]), (54, .agg #[Iv x3, Iv x4]), (63, .agg #[Iv x58.1, Iv x58.2.1]), (2, Iv x13), (4, Pv b16 0), (5, Pv b17 0), (7, Pv b18 0), (8, Pv b19 0), (9, Iv 0), (14, Pv b24 0), (15, Pv b25 0), (16, Iv 1), (43, Iv 1), (44, Bv true), (45, Iv 1), (66, Iv 1)] := hf
        refine O.callR hf rfl rfl rfl (RunE.call (av := #[Pv b24 0, .func (.func 22) #[] #[], .agg #[Iv x3, Iv x4], .agg #[Iv x58.1, Iv x58.2.1]]) C_ok_13 rfl rfl rfl) (m_cells_sheet_do_ok F b24 x58.2.2 x3 x4 x58.1 x58.2.1 _ (hS.ptAt (i := 0) rfl) x59 hx59) ?_
        clear hf a; rintro _ w hS1 a hf
        replace hf : Fr a _ _ ((64, .agg #[Iv x59.1, Iv x59.2.1]) :: _) := hf
        replace hS := (hS.callX1 hS1 (i := 0) rfl (fun _ h => h)).eqM (N := [pt b24 (Cs #[.func (.func 22) #[] #[], .func (.func 23) #[] #[], .func (.func 24) #[] #[], .func (.func 25) #[] #[], Iv x59.2.2] 48), pt b25 (Cs #[Iv x56.1, Iv x56.2.1, Iv 0, Iv 0, Iv 0, Iv 0] 25), pt b16 (Cs #[Iv x1, Iv x2, Iv x3, Iv x4, Iv x5, Iv x6] 25), pt b17 (Cs #[Iv x7, Iv x8, Iv x9, Iv x10, Iv x11, Iv x12] 25), pt b18 (Cs #[Iv x14, Iv x15] 23), pt b19 (Cs #[Iv 0, Iv 0, Iv 0, Iv 0, Iv 0, Iv 0] 25)]) rfl
        clear hS1
        exact O.nil ⟨rfl, (), hf.to trivial, (fun d hd => by cases (show some 64 = some d from hd); exact hf.get _ _ rfl), (fun j hj hk => match j, hj, hk with | 0, hj, hk => rfl | 1, hj, hk => rfl | 2, hj, hk => rfl | 3, hj, hk => rfl | 4, hj, hk => rfl | 5, hj, hk => rfl | 6, hj, hk => rfl | 7, hj, hk => rfl | 8, hj, hk => rfl | 9, hj, hk => rfl | 10, hj, hk => rfl | 11, hj, hk => rfl | 12, hj, hk => rfl | 13, hj, hk => rfl | 14, hj, hk => rfl | 15, hj, hk => rfl | 16, hj, hk => rfl | 17, hj, hk => rfl | 18, hj, hk => absurd rfl hj | 19, hj, hk => absurd hk (by decide) | 20, hj, hk => absurd hk (by decide) | _ + 21, _, _ => rfl), (Or.inr (Or.inr (Or.inl ⟨h17_, rfl, h20_, hS⟩)))⟩
       ·exact absurd (hs0.symm.trans h18_) (by decide)
       ·exact absurd (hs0.symm.trans h18_) (by decide)
      ·intro s g w hs0 hsp hsb hD a hf
       rcases hD with (⟨h17_, h18_, h20_, hD⟩ | ⟨h17_, h18_, h20_, hD⟩ | ⟨h17_, h18_, h20_, hD⟩ | ⟨h17_, h18_, h20_, hD⟩)
       ·exact absurd ((hsp 17 (by simp)).symm.trans h17_) (by decide)
       ·exact absurd ((hsp 18 (by simp)).symm.trans h18_) (by decide)
       ·have hS : St w0 w noX [] [pt b24 (Cs #[.func (.func 22) #[] #[], .func (.func 23) #[] #[], .func (.func 24) #[] #[], .func (.func 25) #[] #[], Iv x59.2.2] 48), pt b25 (Cs #[Iv x56.1, Iv x56.2.1, Iv 0, Iv 0, Iv 0, Iv 0] 25), pt b16 (Cs #[Iv x1, Iv x2, Iv x3, Iv x4, Iv x5, Iv x6] 25), pt b17 (Cs #[Iv x7, Iv x8, Iv x9, Iv x10, Iv x11, Iv x12] 25), pt b18 (Cs #[Iv x14, Iv x15] 23), pt b19 (Cs #[Iv 0, Iv 0, Iv 0, Iv 0, Iv 0, Iv 0] 25)] := hD; clear hD
        replace hf : Fr a 119 [] [(46, Iv 1), (47, Pv b24 0), (48, Pv b24 0), (49, Pv b24 0), (50, Pv b24 0), (51, .func (.func 22) #[] #[]), (52, Iv 1), (53, Pv b16 2), (54, .agg #[Iv x3, Iv x4]), (55, Pv b24 0), (56, Iv 1), (57, Pv b17 2), (58, .agg #[Iv x9, Iv x10]), (59, Iv x13), (60, .tuple #[.agg #[Iv x57.1, Iv x57.2.1], Iv x57.2.2]), (61, .agg #[Iv x57.1, Iv x57.2.1]), (62, Iv x57.2.2), (63, .agg #[Iv x58.1, Iv x58.2.1]), (64, .agg #[Iv x59.1, Iv x59.2.1]), (65, Pv b25 2), (2, Iv x13), (4, Pv b16 0), (5, Pv b17 0), (7, Pv b18 0), (8, Pv b19 0), (9, Iv 0), (14, Pv b24 0), (15, Pv b25 0), (16, Iv 1), (43, Iv 1), (44, Bv true), (45, Iv 1), (66, Iv 1)] := hf
        refine O.store (j := 1) (cs' := #[Iv x56.1, Iv x56.2.1, Iv x59.1, Iv x59.2.1, Iv 0, Iv 0]) (M' := [pt b24 (Cs #[.func (.func 22) #[] #[], .func (.func 23) #[] #[], .func (.func 24) #[] #[], .func (.func 25) #[] #[], Iv x59.2.2] 48), pt b25 (Cs #[Iv x56.1, Iv x56.2.1, Iv x59.1, Iv x59.2.1, Iv 0, Iv 0] 25), pt b16 (Cs #[Iv x1, Iv x2, Iv x3, Iv x4, Iv x5, Iv x6] 25), pt b17 (Cs #[Iv x7, Iv x8, Iv x9, Iv x10, Iv x11, Iv x12] 25), pt b18 (Cs #[Iv x14, Iv x15] 23), pt b19 (Cs #[Iv 0, Iv 0, Iv 0, Iv 0, Iv 0, Iv 0] 25)]) hf hS rfl rfl rfl T_size_23 rfl rfl rfl (Nat.le_of_ble_eq_true rfl) rfl rfl ?_
        clear hS; intro w hS
        exact O.nil ⟨rfl, (), hf.to trivial, (fun d hd => by cases (show none = some d from hd)), (fun j hj hk => match j, hj, hk with | 0, hj, hk => rfl | 1, hj, hk => rfl | 2, hj, hk => rfl | 3, hj, hk => rfl | 4, hj, hk => rfl | 5, hj, hk => rfl | 6, hj, hk => rfl | 7, hj, hk => rfl | 8, hj, hk => rfl | 9, hj, hk => rfl | 10, hj, hk => rfl | 11, hj, hk => rfl | 12, hj, hk => rfl | 13, hj, hk => rfl | 14, hj, hk => rfl | 15, hj, hk => rfl | 16, hj, hk => rfl | 17, hj, hk => rfl | 18, hj, hk => rfl | 19, hj, hk => rfl | 20, hj, hk => absurd rfl hj | _ + 21, _, _ => rfl), (Or.inr (Or.inr (Or.inr ⟨h17_, h18_, rfl, hS⟩)))⟩
       ·exact absurd (hs0.symm.trans h20_) (by decide)
     clear hf hf1 hS; intro s g a w hs hf hD
     rcases hD with (⟨h17_, h18_, h20_, hD⟩ | ⟨h17_, h18_, h20_, hD⟩ | ⟨h17_, h18_, h20_, hD⟩ | ⟨h17_, h18_, h20_, hD⟩)
     · exact absurd ((hs 17 (by simp)).symm.trans h17_) (by decide)
     · exact absurd ((hs 18 (by simp)).symm.trans h18_) (by decide)
     · exact absurd ((hs 20 (by simp)).symm.trans h20_) (by decide)
     have hS : St w0 w noX [] [pt b24 (Cs #[.func (.func 22) #[] #[], .func (.func 23) #[] #[], .func (.func 24) #[] #[], .func (.func 25) #[] #[], Iv x59.2.2] 48), pt b25 (Cs #[Iv x56.1, Iv x56.2.1, Iv x59.1, Iv x59.2.1, Iv 0, Iv 0] 25), pt b16 (Cs #[Iv x1, Iv x2, Iv x3, Iv x4, Iv x5, Iv x6] 25), pt b17 (Cs #[Iv x7, Iv x8, Iv x9, Iv x10, Iv x11, Iv x12] 25), pt b18 (Cs #[Iv x14, Iv x15] 23), pt b19 (Cs #[Iv 0, Iv 0, Iv 0, Iv 0, Iv 0, Iv 0] 25)] := hD; clear hD
     replace hf : Fr a 119 [] [(46, Iv 1), (47, Pv b24 0), (48, Pv b24 0), (49, Pv b24 0), (50, Pv b24 0), (51, .func (.func 22) #[] #[]), (52, Iv 1), (53, Pv b16 2), (54, .agg #[Iv x3, Iv x4]), (55, Pv b24 0), (56, Iv 1), (57, Pv b17 2), (58, .agg #[Iv x9, Iv x10]), (59, Iv x13), (60, .tuple #[.agg #[Iv x57.1, Iv x57.2.1], Iv x57.2.2]), (61, .agg #[Iv x57.1, Iv x57.2.1]), (62, Iv x57.2.2), (63, .agg #[Iv x58.1, Iv x58.2.1]), (64, .agg #[Iv x59.1, Iv x59.2.1]), (65, Pv b25 2), (2, Iv x13), (4, Pv b16 0), (5, Pv b17 0), (7, Pv b18 0), (8, Pv b19 0), (9, Iv 0), (14, Pv b24 0), (15, Pv b25 0), (16, Iv 1), (43, Iv 1), (44, Bv true), (45, Iv 1), (66, Iv 1)] := hf
     refine k_blk_normal ?_
     refine k_seq ?_
     -- region 19
     refine W.regionL (l := [0, 1]) rfl ?_
     refine O.val (v := Iv 2) hf rfl rfl rfl (RunV.add (p := 1) (q := 1) rfl rfl) ?_; clear hf a; intro a hf
     refine O.val hf rfl rfl rfl (RunV.move rfl) ?_; clear hf a; intro a hf
     refine O.nil ?_
     refine k_then (LH.step ?_)
     refine W.seq ?_
     -- region 16
     refine W.regionL (l := [0]) rfl ?_
     refine O.val (v := Bv true) hf rfl rfl rfl (RunV.lss (p := 2) (q := 3) rfl rfl) ?_; clear hf a; intro a hf
     refine O.nil ?_
     refine k_seq ?_
     refine W.seq ?_
     refine W.if_tt hf rfl ?_
     refine W.skip ?_
     refine k_seq ?_
     refine W.seq ?_
     refine W.block ?_
     refine W.seq ?_
     -- region 17
     refine W.regionL (l := [0, 1]) rfl ?_
     refine O.val hf rfl rfl rfl (RunV.move rfl) ?_; clear hf a; intro a hf
     refine O.val hf rfl rfl rfl (RunV.assign rfl) ?_; clear hf a; intro a hf
     refine O.nil ?_
     refine k_seq ?_
     -- region 18, which draws its order
     -- [17, 18, 20] turn memory
     have hf1 : Fr a 119 [] [(46, Iv 1), (47, Pv b24 0), (48, Pv b24 0), (49, Pv b24 0), (50, Pv b24 0), (51, .func (.func 22) #[] #[]), (52, Iv 1), (53, Pv b16 2), (54, .agg #[Iv x3, Iv x4]), (55, Pv b24 0), (56, Iv 1), (57, Pv b17 2), (58, .agg #[Iv x9, Iv x10]), (59, Iv x13), (60, .tuple #[.agg #[Iv x57.1, Iv x57.2.1], Iv x57.2.2]), (61, .agg #[Iv x57.1, Iv x57.2.1]), (62, Iv x57.2.2), (63, .agg #[Iv x58.1, Iv x58.2.1]), (64, .agg #[Iv x59.1, Iv x59.2.1]), (65, Pv b25 2)] := hf.to ⟨rfl, rfl, rfl, rfl, rfl, rfl, rfl, rfl, rfl, rfl, rfl, rfl, rfl, rfl, rfl, rfl, rfl, rfl, rfl, rfl, trivial⟩
     replace hf : Fr a 119 [] [(2, Iv x13), (4, Pv b16 0), (5, Pv b17 0), (7, Pv b18 0), (8, Pv b19 0), (9, Iv 0), (14, Pv b24 0), (15, Pv b25 0), (16, Iv 2), (43, Iv 2), (44, Bv true), (45, Iv 2), (66, Iv 2)] := hf.to ⟨rfl, rfl, rfl, rfl, rfl, rfl, rfl, rfl, rfl, rfl, rfl, rfl, rfl, trivial⟩
     obtain ⟨x60, hx60, hm⟩ := hm_b hm
     obtain ⟨x61, hx61, hm⟩ := hm_b hm
     obtain ⟨x62, hx62, hm⟩ := hm_b hm
     refine W.drawP (γ := Unit) (L0 := [(2, Iv x13), (4, Pv b16 0), (5, Pv b17 0), (7, Pv b18 0), (8, Pv b19 0), (9, Iv 0), (14, Pv b24 0), (15, Pv b25 0), (16, Iv 2), (43, Iv 2), (44, Bv true), (45, Iv 2), (66, Iv 2)]) (L1 := [(46, Iv 1), (47, Pv b24 0), (48, Pv b24 0), (49, Pv b24 0), (50, Pv b24 0), (51, .func (.func 22) #[] #[]), (52, Iv 1), (53, Pv b16 2), (54, .agg #[Iv x3, Iv x4]), (55, Pv b24 0), (56, Iv 1), (57, Pv b17 2), (58, .agg #[Iv x9, Iv x10]), (59, Iv x13), (60, .tuple #[.agg #[Iv x57.1, Iv x57.2.1], Iv x57.2.2]), (61, .agg #[Iv x57.1, Iv x57.2.1]), (62, Iv x57.2.2), (63, .agg #[Iv x58.1, Iv x58.2.1]), (64, .agg #[Iv x59.1, Iv x59.2.1]), (65, Pv b25 2)]) () [17, 18, 20] [0, 1, 2, 3, 4, 5, 6, 7, 8, 9, 10, 11, 12, 13, 14, 15, 16, 19] (fun i => match i with | 0 => [] | 1 => [] | 2 => [] | 3 => [2] | 4 => [3] | 5 => [4] | 6 => [] | 7 => [6] | 8 => [7] | 9 => [] | 10 => [] | 11 => [10] | 12 => [11] | 13 => [] | 14 => [12, 13] | 15 => [14] | 16 => [14] | 17 => [9, 14, 15, 16] | 18 => [1, 5, 8, 17] | 19 => [0, 1, 2, 3, 4, 5, 6, 7, 8, 9, 10, 11, 12, 13, 14, 15, 16, 17, 18] | 20 => [0, 1, 2, 3, 4, 5, 6, 7, 8, 9, 10, 11, 12, 13, 14, 15, 16, 17, 18, 19] | _ => []) (fun i => match i with | 18 => [17] | 19 => [17, 18] | 20 => [17, 18] | _ => []) (fun i => match i with | 0 => [20] | 1 => [18, 20] | 2 => [18, 20] | 3 => [18, 20] | 4 => [18, 20] | 5 => [18, 20] | 6 => [18, 20] | 7 => [18, 20] | 8 => [18, 20] | 9 => [17, 18, 20] | 10 => [17, 18, 20] | 11 => [17, 18, 20] | 12 => [17, 18, 20] | 13 => [17, 18, 20] | 14 => [17, 18, 20] | 15 => [17, 18, 20] | 16 => [17, 18, 20] | 17 => [18, 20] | 18 => [20] | 19 => [20] | _ => []) (fun i => match i with | 17 => [18, 19, 20] | 18 => [19, 20] | 20 => [] | _ => []) (fun _ => []) (fun (g : Unit) j => match g, j with | _, 0 => Iv 2 | _, 1 => Pv b24 0 | _, 2 => Pv b24 0 | _, 3 => Pv b24 0 | _, 4 => Pv b24 0 | _, 5 => .func (.func 22) #[] #[] | _, 6 => Iv 2 | _, 7 => Pv b16 4 | _, 8 => .agg #[Iv x5, Iv x6] | _, 9 => Pv b24 0 | _, 10 => Iv 2 | _, 11 => Pv b17 4 | _, 12 => .agg #[Iv x11, Iv x12] | _, 13 => Iv x13 | _, 14 => .tuple #[.agg #[Iv x60.1, Iv x60.2.1], Iv x60.2.2] | _, 15 => .agg #[Iv x60.1, Iv x60.2.1] | _, 16 => Iv x60.2.2 | _, 17 => .agg #[Iv x61.1, Iv x61.2.1] | _, 18 => .agg #[Iv x62.1, Iv x62.2.1] | _, 19 => Pv b25 4 | _, _ => undef) (fun s (g : Unit) w => match g with | _ => (s 17 = false ∧ s 18 = false ∧ s 20 = false ∧ St w0 w noX [] [pt b24 (Cs #[.func (.func 22) #[] #[], .func (.func 23) #[] #[], .func (.func 24) #[] #[], .func (.func 25) #[] #[], Iv x59.2.2] 48), pt b25 (Cs #[Iv x56.1, Iv x56.2.1, Iv x59.1, Iv x59.2.1, Iv 0, Iv 0] 25), pt b16 (Cs #[Iv x1, Iv x2, Iv x3, Iv x4, Iv x5, Iv x6] 25), pt b17 (Cs #[Iv x7, Iv x8, Iv x9, Iv x10, Iv x11, Iv x12] 25), pt b18 (Cs #[Iv x14, Iv x15] 23), pt b19 (Cs #[Iv 0, Iv 0, Iv 0, Iv 0, Iv 0, Iv 0] 25)]) ∨ (s 17 = true ∧ s 18 = false ∧ s 20 = false ∧ St w0 w noX [] [pt b24 (Cs #[.func (.func 22) #[] #[], .func (.func 23) #[] #[], .func (.func 24) #[] #[], .func (.func 25) #[] #[], Iv x61.2.2] 48), pt b25 (Cs #[Iv x56.1, Iv x56.2.1, Iv x59.1, Iv x59.2.1, Iv 0, Iv 0] 25), pt b16 (Cs #[Iv x1, Iv x2, Iv x3, Iv x4, Iv x5, Iv x6] 25), pt b17 (Cs #[Iv x7, Iv x8, Iv x9, Iv x10, Iv x11, Iv x12] 25), pt b18 (Cs #[Iv x14, Iv x15] 23), pt b19 (Cs #[Iv 0, Iv 0, Iv 0, Iv 0, Iv 0, Iv 0] 25)]) ∨ (s 17 = true ∧ s 18 = true ∧ s 20 = false ∧ St w0 w noX [] [pt b24 (Cs #[.func (.func 22) #[] #[], .func (.func 23) #[] #[], .func (.func 24) #[] #[], .func (.func 25) #[] #[], Iv x62.2.2] 48), pt b25 (Cs #[Iv x56.1, Iv x56.2.1, Iv x59.1, Iv x59.2.1, Iv 0, Iv 0] 25), pt b16 (Cs #[Iv x1, Iv x2, Iv x3, Iv x4, Iv x5, Iv x6] 25), pt b17 (Cs #[Iv x7, Iv x8, Iv x9, Iv x10, Iv x11, Iv x12] 25), pt b18 (Cs #[Iv x14, Iv x15] 23), pt b19 (Cs #[Iv 0, Iv 0, Iv 0, Iv 0, Iv 0, Iv 0] 25)]) ∨ (s 17 = true ∧ s 18 = true ∧ s 20 = true ∧ St w0 w noX [] [pt b24 (Cs #[.func (.func 22) #[] #[], .func (.func 23) #[] #[], .func (.func 24) #[] #[], .func (.func 25) #[] #[], Iv x62.2.2] 48), pt b25 (Cs #[Iv x56.1, Iv x56.2.1, Iv x59.1, Iv x59.2.1, Iv x62.1, Iv x62.2.1] 25), pt b16 (Cs #[Iv x1, Iv x2, Iv x3, Iv x4, Iv x5, Iv x6] 25), pt b17 (Cs #[Iv x7, Iv x8, Iv x9, Iv x10, Iv x11, Iv x12] 25), pt b18 (Cs #[Iv x14, Iv x15] 23), pt b19 (Cs #[Iv 0, Iv 0, Iv 0, Iv 0, Iv 0, Iv 0] 25)])) P_mixed (by kernel_rfl) hf hf1 (Or.inl ⟨rfl, rfl, rfl, hS.drew⟩) ?_ ?_ ?_
     ·clear hf hf1 hS
      refine ⟨?_, ?_, ?_, ?_, ?_, ?_, ?_, ?_, ?_, ?_, ?_, ?_, ?_, ?_, ?_, ?_, ?_, ?_, trivial⟩
      ·intro s g w hsp hsb hD a hf
       rcases hD with (⟨h17_, h18_, h20_, hD⟩ | ⟨h17_, h18_, h20_, hD⟩ | ⟨h17_, h18_, h20_, hD⟩ | ⟨h17_, h18_, h20_, hD⟩)
       ·have hS : St w0 w noX [] [pt b24 (Cs #[.func (.func 22) #[] #[], .func (.func 23) #[] #[], .func (.func 24) #[] #[], .func (.func 25) #[] #[], Iv x59.2.2] 48), pt b25 (Cs #[Iv x56.1, Iv x56.2.1, Iv x59.1, Iv x59.2.1, Iv 0, Iv 0] 25), pt b16 (Cs #[Iv x1, Iv x2, Iv x3, Iv x4, Iv x5, Iv x6] 25), pt b17 (Cs #[Iv x7, Iv x8, Iv x9, Iv x10, Iv x11, Iv x12] 25), pt b18 (Cs #[Iv x14, Iv x15] 23), pt b19 (Cs #[Iv 0, Iv 0, Iv 0, Iv 0, Iv 0, Iv 0] 25)] := hD; clear hD
        replace hf : Fr a 119 [] [(2, Iv x13), (4, Pv b16 0), (5, Pv b17 0), (7, Pv b18 0), (8, Pv b19 0), (9, Iv 0), (14, Pv b24 0), (15, Pv b25 0), (16, Iv 2), (43, Iv 2), (44, Bv true), (45, Iv 2), (66, Iv 2)] := hf
        refine O.val hf rfl rfl rfl (RunV.move rfl) ?_; clear hf a; intro a hf
        exact O.nil ⟨rfl, hf.to trivial, (fun d hd => by cases (show some 46 = some d from hd); exact hf.get _ _ rfl), (Or.inl ⟨h17_, h18_, h20_, hS⟩)⟩
       ·have hS : St w0 w noX [] [pt b24 (Cs #[.func (.func 22) #[] #[], .func (.func 23) #[] #[], .func (.func 24) #[] #[], .func (.func 25) #[] #[], Iv x61.2.2] 48), pt b25 (Cs #[Iv x56.1, Iv x56.2.1, Iv x59.1, Iv x59.2.1, Iv 0, Iv 0] 25), pt b16 (Cs #[Iv x1, Iv x2, Iv x3, Iv x4, Iv x5, Iv x6] 25), pt b17 (Cs #[Iv x7, Iv x8, Iv x9, Iv x10, Iv x11, Iv x12] 25), pt b18 (Cs #[Iv x14, Iv x15] 23), pt b19 (Cs #[Iv 0, Iv 0, Iv 0, Iv 0, Iv 0, Iv 0] 25)] := hD; clear hD
        replace hf : Fr a 119 [] [(2, Iv x13), (4, Pv b16 0), (5, Pv b17 0), (7, Pv b18 0), (8, Pv b19 0), (9, Iv 0), (14, Pv b24 0), (15, Pv b25 0), (16, Iv 2), (43, Iv 2), (44, Bv true), (45, Iv 2), (66, Iv 2)] := hf
        refine O.val hf rfl rfl rfl (RunV.move rfl) ?_; clear hf a; intro a hf
        exact O.nil ⟨rfl, hf.to trivial, (fun d hd => by cases (show some 46 = some d from hd); exact hf.get _ _ rfl), (Or.inr (Or.inl ⟨h17_, h18_, h20_, hS⟩))⟩
       ·have hS : St w0 w noX [] [pt b24 (Cs #[.func (.func 22) #[] #[], .func (.func 23) #[] #[], .func (.func 24) #[] #[], .func (.func 25) #[] #[], Iv x62.2.2] 48), pt b25 (Cs #[Iv x56.1, Iv x56.2.1, Iv x59.1, Iv x59.2.1, Iv 0, Iv 0] 25), pt b16 (Cs #[Iv x1, Iv x2, Iv x3, Iv x4, Iv x5, Iv x6] 25), pt b17 (Cs #[Iv x7, Iv x8, Iv x9, Iv x10, Iv x11, Iv x12] 25), pt b18 (Cs #[Iv x14, Iv x15] 23), pt b19 (Cs #[Iv 0, Iv 0, Iv 0, Iv 0, Iv 0, Iv 0] 25)] := hD; clear hD
        replace hf : Fr a 119 [] [(2, Iv x13), (4, Pv b16 0), (5, Pv b17 0), (7, Pv b18 0), (8, Pv b19 0), (9, Iv 0), (14, Pv b24 0), (15, Pv b25 0), (16, Iv 2), (43, Iv 2), (44, Bv true), (45, Iv 2), (66, Iv 2)] := hf
        refine O.val hf rfl rfl rfl (RunV.move rfl) ?_; clear hf a; intro a hf
        exact O.nil ⟨rfl, hf.to trivial, (fun d hd => by cases (show some 46 = some d from hd); exact hf.get _ _ rfl), (Or.inr (Or.inr (Or.inl ⟨h17_, h18_, h20_, hS⟩)))⟩
       ·exact absurd ((hsb 20 (by simp)).symm.trans h20_) (by decide)
      ·intro s g w hsp hsb hD a hf
       rcases hD with (⟨h17_, h18_, h20_, hD⟩ | ⟨h17_, h18_, h20_, hD⟩ | ⟨h17_, h18_, h20_, hD⟩ | ⟨h17_, h18_, h20_, hD⟩)
       ·have hS : St w0 w noX [] [pt b24 (Cs #[.func (.func 22) #[] #[], .func (.func 23) #[] #[], .func (.func 24) #[] #[], .func (.func 25) #[] #[], Iv x59.2.2] 48), pt b25 (Cs #[Iv x56.1, Iv x56.2.1, Iv x59.1, Iv x59.2.1, Iv 0, Iv 0] 25), pt b16 (Cs #[Iv x1, Iv x2, Iv x3, Iv x4, Iv x5, Iv x6] 25), pt b17 (Cs #[Iv x7, Iv x8, Iv x9, Iv x10, Iv x11, Iv x12] 25), pt b18 (Cs #[Iv x14, Iv x15] 23), pt b19 (Cs #[Iv 0, Iv 0, Iv 0, Iv 0, Iv 0, Iv 0] 25)] := hD; clear hD
        replace hf : Fr a 119 [] [(2, Iv x13), (4, Pv b16 0), (5, Pv b17 0), (7, Pv b18 0), (8, Pv b19 0), (9, Iv 0), (14, Pv b24 0), (15, Pv b25 0), (16, Iv 2), (43, Iv 2), (44, Bv true), (45, Iv 2), (66, Iv 2)] := hf
        refine O.val hf rfl rfl rfl (RunV.move rfl) ?_; clear hf a; intro a hf
        exact O.nil ⟨rfl, hf.to trivial, (fun d hd => by cases (show some 47 = some d from hd); exact hf.get _ _ rfl), (Or.inl ⟨h17_, h18_, h20_, hS⟩)⟩
       ·have hS : St w0 w noX [] [pt b24 (Cs #[.func (.func 22) #[] #[], .func (.func 23) #[] #[], .func (.func 24) #[] #[], .func (.func 25) #[] #[], Iv x61.2.2] 48), pt b25 (Cs #[Iv x56.1, Iv x56.2.1, Iv x59.1, Iv x59.2.1, Iv 0, Iv 0] 25), pt b16 (Cs #[Iv x1, Iv x2, Iv x3, Iv x4, Iv x5, Iv x6] 25), pt b17 (Cs #[Iv x7, Iv x8, Iv x9, Iv x10, Iv x11, Iv x12] 25), pt b18 (Cs #[Iv x14, Iv x15] 23), pt b19 (Cs #[Iv 0, Iv 0, Iv 0, Iv 0, Iv 0, Iv 0] 25)] := hD; clear hD
        replace hf : Fr a 119 [] [(2, Iv x13), (4, Pv b16 0), (5, Pv b17 0), (7, Pv b18 0), (8, Pv b19 0), (9, Iv 0), (14, Pv b24 0), (15, Pv b25 0), (16, Iv 2), (43, Iv 2), (44, Bv true), (45, Iv 2), (66, Iv 2)] := hf
        refine O.val hf rfl rfl rfl (RunV.move rfl) ?_; clear hf a; intro a hf
        exact O.nil ⟨rfl, hf.to trivial, (fun d hd => by cases (show some 47 = some d from hd); exact hf.get _ _ rfl), (Or.inr (Or.inl ⟨h17_, h18_, h20_, hS⟩))⟩
       ·exact absurd ((hsb 18 (by simp)).symm.trans h18_) (by decide)
       ·exact absurd ((hsb 18 (by simp)).symm.trans h18_) (by decide)
      ·intro s g w hsp hsb hD a hf
       rcases hD with (⟨h17_, h18_, h20_, hD⟩ | ⟨h17_, h18_, h20_, hD⟩ | ⟨h17_, h18_, h20_, hD⟩ | ⟨h17_, h18_, h20_, hD⟩)
       ·have hS : St w0 w noX [] [pt b24 (Cs #[.func (.func 22) #[] #[], .func (.func 23) #[] #[], .func (.func 24) #[] #[], .func (.func 25) #[] #[], Iv x59.2.2] 48), pt b25 (Cs #[Iv x56.1, Iv x56.2.1, Iv x59.1, Iv x59.2.1, Iv 0, Iv 0] 25), pt b16 (Cs #[Iv x1, Iv x2, Iv x3, Iv x4, Iv x5, Iv x6] 25), pt b17 (Cs #[Iv x7, Iv x8, Iv x9, Iv x10, Iv x11, Iv x12] 25), pt b18 (Cs #[Iv x14, Iv x15] 23), pt b19 (Cs #[Iv 0, Iv 0, Iv 0, Iv 0, Iv 0, Iv 0] 25)] := hD; clear hD
        replace hf : Fr a 119 [] [(2, Iv x13), (4, Pv b16 0), (5, Pv b17 0), (7, Pv b18 0), (8, Pv b19 0), (9, Iv 0), (14, Pv b24 0), (15, Pv b25 0), (16, Iv 2), (43, Iv 2), (44, Bv true), (45, Iv 2), (66, Iv 2)] := hf
        refine O.val hf rfl rfl rfl (RunV.move rfl) ?_; clear hf a; intro a hf
        exact O.nil ⟨rfl, hf.to trivial, (fun d hd => by cases (show some 48 = some d from hd); exact hf.get _ _ rfl), (Or.inl ⟨h17_, h18_, h20_, hS⟩)⟩
       ·have hS : St w0 w noX [] [pt b24 (Cs #[.func (.func 22) #[] #[], .func (.func 23) #[] #[], .func (.func 24) #[] #[], .func (.func 25) #[] #[], Iv x61.2.2] 48), pt b25 (Cs #[Iv x56.1, Iv x56.2.1, Iv x59.1, Iv x59.2.1, Iv 0, Iv 0] 25), pt b16 (Cs #[Iv x1, Iv x2, Iv x3, Iv x4, Iv x5, Iv x6] 25), pt b17 (Cs #[Iv x7, Iv x8, Iv x9, Iv x10, Iv x11, Iv x12] 25), pt b18 (Cs #[Iv x14, Iv x15] 23), pt b19 (Cs #[Iv 0, Iv 0, Iv 0, Iv 0, Iv 0, Iv 0] 25)] := hD; clear hD
        replace hf : Fr a 119 [] [(2, Iv x13), (4, Pv b16 0), (5, Pv b17 0), (7, Pv b18 0), (8, Pv b19 0), (9, Iv 0), (14, Pv b24 0), (15, Pv b25 0), (16, Iv 2), (43, Iv 2), (44, Bv true), (45, Iv 2), (66, Iv 2)] := hf
        refine O.val hf rfl rfl rfl (RunV.move rfl) ?_; clear hf a; intro a hf
        exact O.nil ⟨rfl, hf.to trivial, (fun d hd => by cases (show some 48 = some d from hd); exact hf.get _ _ rfl), (Or.inr (Or.inl ⟨h17_, h18_, h20_, hS⟩))⟩
       ·exact absurd ((hsb 18 (by simp)).symm.trans h18_) (by decide)
       ·exact absurd ((hsb 18 (by simp)).symm.trans h18_) (by decide)
      ·intro s g w hsp hsb hD a hf
       rcases hD with (⟨h17_, h18_, h20_, hD⟩ | ⟨h17_, h18_, h20_, hD⟩ | ⟨h17_, h18_, h20_, hD⟩ | ⟨h17_, h18_, h20_, hD⟩)
       ·have hS : St w0 w noX [] [pt b24 (Cs #[.func (.func 22) #[] #[], .func (.func 23) #[] #[], .func (.func 24) #[] #[], .func (.func 25) #[] #[], Iv x59.2.2] 48), pt b25 (Cs #[Iv x56.1, Iv x56.2.1, Iv x59.1, Iv x59.2.1, Iv 0, Iv 0] 25), pt b16 (Cs #[Iv x1, Iv x2, Iv x3, Iv x4, Iv x5, Iv x6] 25), pt b17 (Cs #[Iv x7, Iv x8, Iv x9, Iv x10, Iv x11, Iv x12] 25), pt b18 (Cs #[Iv x14, Iv x15] 23), pt b19 (Cs #[Iv 0, Iv 0, Iv 0, Iv 0, Iv 0, Iv 0] 25)] := hD; clear hD
        replace hf : Fr a 119 [] [(48, Pv b24 0), (2, Iv x13), (4, Pv b16 0), (5, Pv b17 0), (7, Pv b18 0), (8, Pv b19 0), (9, Iv 0), (14, Pv b24 0), (15, Pv b25 0), (16, Iv 2), (43, Iv 2), (44, Bv true), (45, Iv 2), (66, Iv 2)] := hf
        refine O.val hf rfl rfl rfl (RunV.nilCheck rfl) ?_; clear hf a; intro a hf
        exact O.nil ⟨rfl, hf.to trivial, (fun d hd => by cases (show some 49 = some d from hd); exact hf.get _ _ rfl), (Or.inl ⟨h17_, h18_, h20_, hS⟩)⟩
       ·have hS : St w0 w noX [] [pt b24 (Cs #[.func (.func 22) #[] #[], .func (.func 23) #[] #[], .func (.func 24) #[] #[], .func (.func 25) #[] #[], Iv x61.2.2] 48), pt b25 (Cs #[Iv x56.1, Iv x56.2.1, Iv x59.1, Iv x59.2.1, Iv 0, Iv 0] 25), pt b16 (Cs #[Iv x1, Iv x2, Iv x3, Iv x4, Iv x5, Iv x6] 25), pt b17 (Cs #[Iv x7, Iv x8, Iv x9, Iv x10, Iv x11, Iv x12] 25), pt b18 (Cs #[Iv x14, Iv x15] 23), pt b19 (Cs #[Iv 0, Iv 0, Iv 0, Iv 0, Iv 0, Iv 0] 25)] := hD; clear hD
        replace hf : Fr a 119 [] [(48, Pv b24 0), (2, Iv x13), (4, Pv b16 0), (5, Pv b17 0), (7, Pv b18 0), (8, Pv b19 0), (9, Iv 0), (14, Pv b24 0), (15, Pv b25 0), (16, Iv 2), (43, Iv 2), (44, Bv true), (45, Iv 2), (66, Iv 2)] := hf
        refine O.val hf rfl rfl rfl (RunV.nilCheck rfl) ?_; clear hf a; intro a hf
        exact O.nil ⟨rfl, hf.to trivial, (fun d hd => by cases (show some 49 = some d from hd); exact hf.get _ _ rfl), (Or.inr (Or.inl ⟨h17_, h18_, h20_, hS⟩))⟩
       ·exact absurd ((hsb 18 (by simp)).symm.trans h18_) (by decide)
       ·exact absurd ((hsb 18 (by simp)).symm.trans h18_) (by decide)
      ·intro s g w hsp hsb hD a hf
       rcases hD with (⟨h17_, h18_, h20_, hD⟩ | ⟨h17_, h18_, h20_, hD⟩ | ⟨h17_, h18_, h20_, hD⟩ | ⟨h17_, h18_, h20_, hD⟩)
       ·have hS : St w0 w noX [] [pt b24 (Cs #[.func (.func 22) #[] #[], .func (.func 23) #[] #[], .func (.func 24) #[] #[], .func (.func 25) #[] #[], Iv x59.2.2] 48), pt b25 (Cs #[Iv x56.1, Iv x56.2.1, Iv x59.1, Iv x59.2.1, Iv 0, Iv 0] 25), pt b16 (Cs #[Iv x1, Iv x2, Iv x3, Iv x4, Iv x5, Iv x6] 25), pt b17 (Cs #[Iv x7, Iv x8, Iv x9, Iv x10, Iv x11, Iv x12] 25), pt b18 (Cs #[Iv x14, Iv x15] 23), pt b19 (Cs #[Iv 0, Iv 0, Iv 0, Iv 0, Iv 0, Iv 0] 25)] := hD; clear hD
        replace hf : Fr a 119 [] [(49, Pv b24 0), (2, Iv x13), (4, Pv b16 0), (5, Pv b17 0), (7, Pv b18 0), (8, Pv b19 0), (9, Iv 0), (14, Pv b24 0), (15, Pv b25 0), (16, Iv 2), (43, Iv 2), (44, Bv true), (45, Iv 2), (66, Iv 2)] := hf
        refine O.val hf rfl rfl rfl (RunV.field T_field_48_0 rfl rfl) ?_; clear hf a; intro a hf
        exact O.nil ⟨rfl, hf.to trivial, (fun d hd => by cases (show some 50 = some d from hd); exact hf.get _ _ rfl), (Or.inl ⟨h17_, h18_, h20_, hS⟩)⟩
       ·have hS : St w0 w noX [] [pt b24 (Cs #[.func (.func 22) #[] #[], .func (.func 23) #[] #[], .func (.func 24) #[] #[], .func (.func 25) #[] #[], Iv x61.2.2] 48), pt b25 (Cs #[Iv x56.1, Iv x56.2.1, Iv x59.1, Iv x59.2.1, Iv 0, Iv 0] 25), pt b16 (Cs #[Iv x1, Iv x2, Iv x3, Iv x4, Iv x5, Iv x6] 25), pt b17 (Cs #[Iv x7, Iv x8, Iv x9, Iv x10, Iv x11, Iv x12] 25), pt b18 (Cs #[Iv x14, Iv x15] 23), pt b19 (Cs #[Iv 0, Iv 0, Iv 0, Iv 0, Iv 0, Iv 0] 25)] := hD; clear hD
        replace hf : Fr a 119 [] [(49, Pv b24 0), (2, Iv x13), (4, Pv b16 0), (5, Pv b17 0), (7, Pv b18 0), (8, Pv b19 0), (9, Iv 0), (14, Pv b24 0), (15, Pv b25 0), (16, Iv 2), (43, Iv 2), (44, Bv true), (45, Iv 2), (66, Iv 2)] := hf
        refine O.val hf rfl rfl rfl (RunV.field T_field_48_0 rfl rfl) ?_; clear hf a; intro a hf
        exact O.nil ⟨rfl, hf.to trivial, (fun d hd => by cases (show some 50 = some d from hd); exact hf.get _ _ rfl), (Or.inr (Or.inl ⟨h17_, h18_, h20_, hS⟩))⟩
       ·exact absurd ((hsb 18 (by simp)).symm.trans h18_) (by decide)
       ·exact absurd ((hsb 18 (by simp)).symm.trans h18_) (by decide)
      ·intro s g w hsp hsb hD a hf
       rcases hD with (⟨h17_, h18_, h20_, hD⟩ | ⟨h17_, h18_, h20_, hD⟩ | ⟨h17_, h18_, h20_, hD⟩ | ⟨h17_, h18_, h20_, hD⟩)
       ·have hS : St w0 w noX [] [pt b24 (Cs #[.func (.func 22) #[] #[], .func (.func 23) #[] #[], .func (.func 24) #[] #[], .func (.func 25) #[] #[], Iv x59.2.2] 48), pt b25 (Cs #[Iv x56.1, Iv x56.2.1, Iv x59.1, Iv x59.2.1, Iv 0, Iv 0] 25), pt b16 (Cs #[Iv x1, Iv x2, Iv x3, Iv x4, Iv x5, Iv x6] 25), pt b17 (Cs #[Iv x7, Iv x8, Iv x9, Iv x10, Iv x11, Iv x12] 25), pt b18 (Cs #[Iv x14, Iv x15] 23), pt b19 (Cs #[Iv 0, Iv 0, Iv 0, Iv 0, Iv 0, Iv 0] 25)] := hD; clear hD
        replace hf : Fr a 119 [] [(50, Pv b24 0), (2, Iv x13), (4, Pv b16 0), (5, Pv b17 0), (7, Pv b18 0), (8, Pv b19 0), (9, Iv 0), (14, Pv b24 0), (15, Pv b25 0), (16, Iv 2), (43, Iv 2), (44, Bv true), (45, Iv 2), (66, Iv 2)] := hf
        refine O.val hf rfl rfl rfl (RunV.load1 T_agg_46 rfl (hS.ptAt (i := 0) rfl) rfl) ?_; clear hf a; intro a hf
        exact O.nil ⟨rfl, hf.to trivial, (fun d hd => by cases (show some 51 = some d from hd); exact hf.get _ _ rfl), (Or.inl ⟨h17_, h18_, h20_, hS⟩)⟩
       ·have hS : St w0 w noX [] [pt b24 (Cs #[.func (.func 22) #[] #[], .func (.func 23) #[] #[], .func (.func 24) #[] #[], .func (.func 25) #[] #[], Iv x61.2.2] 48), pt b25 (Cs #[Iv x56.1, Iv x56.2.1, Iv x59.1, Iv x59.2.1, Iv 0, Iv 0] 25), pt b16 (Cs #[Iv x1, Iv x2, Iv x3, Iv x4, Iv x5, Iv x6] 25), pt b17 (Cs #[Iv x7, Iv x8, Iv x9, Iv x10, Iv x11, Iv x12] 25), pt b18 (Cs #[Iv x14, Iv x15] 23), pt b19 (Cs #[Iv 0, Iv 0, Iv 0, Iv 0, Iv 0, Iv 0] 25)] := hD; clear hD
        replace hf : Fr a 119 [] [(50, Pv b24 0), (2, Iv x13), (4, Pv b16 0), (5, Pv b17 0), (7, Pv b18 0), (8, Pv b19 0), (9, Iv 0), (14, Pv b24 0), (15, Pv b25 0), (16, Iv 2), (43, Iv 2), (44, Bv true), (45, Iv 2), (66, Iv 2)] := hf
        refine O.val hf rfl rfl rfl (RunV.load1 T_agg_46 rfl (hS.ptAt (i := 0) rfl) rfl) ?_; clear hf a; intro a hf
        exact O.nil ⟨rfl, hf.to trivial, (fun d hd => by cases (show some 51 = some d from hd); exact hf.get _ _ rfl), (Or.inr (Or.inl ⟨h17_, h18_, h20_, hS⟩))⟩
       ·exact absurd ((hsb 18 (by simp)).symm.trans h18_) (by decide)
       ·exact absurd ((hsb 18 (by simp)).symm.trans h18_) (by decide)
      ·intro s g w hsp hsb hD a hf
       rcases hD with (⟨h17_, h18_, h20_, hD⟩ | ⟨h17_, h18_, h20_, hD⟩ | ⟨h17_, h18_, h20_, hD⟩ | ⟨h17_, h18_, h20_, hD⟩)
       ·have hS : St w0 w noX [] [pt b24 (Cs #[.func (.func 22) #[] #[], .func (.func 23) #[] #[], .func (.func 24) #[] #[], .func (.func 25) #[] #[], Iv x59.2.2] 48), pt b25 (Cs #[Iv x56.1, Iv x56.2.1, Iv x59.1, Iv x59.2.1, Iv 0, Iv 0] 25), pt b16 (Cs #[Iv x1, Iv x2, Iv x3, Iv x4, Iv x5, Iv x6] 25), pt b17 (Cs #[Iv x7, Iv x8, Iv x9, Iv x10, Iv x11, Iv x12] 25), pt b18 (Cs #[Iv x14, Iv x15] 23), pt b19 (Cs #[Iv 0, Iv 0, Iv 0, Iv 0, Iv 0, Iv 0] 25)] := hD; clear hD
        replace hf : Fr a 119 [] [(2, Iv x13), (4, Pv b16 0), (5, Pv b17 0), (7, Pv b18 0), (8, Pv b19 0), (9, Iv 0), (14, Pv b24 0), (15, Pv b25 0), (16, Iv 2), (43, Iv 2), (44, Bv true), (45, Iv 2), (66, Iv 2)] := hf
        refine O.val hf rfl rfl rfl (RunV.move rfl) ?_; clear hf a; intro a hf
        exact O.nil ⟨rfl, hf.to trivial, (fun d hd => by cases (show some 52 = some d from hd); exact hf.get _ _ rfl), (Or.inl ⟨h17_, h18_, h20_, hS⟩)⟩
       ·have hS : St w0 w noX [] [pt b24 (Cs #[.func (.func 22) #[] #[], .func (.func 23) #[] #[], .func (.func 24) #[] #[], .func (.func 25) #[] #[], Iv x61.2.2] 48), pt b25 (Cs #[Iv x56.1, Iv x56.2.1, Iv x59.1, Iv x59.2.1, Iv 0, Iv 0] 25), pt b16 (Cs #[Iv x1, Iv x2, Iv x3, Iv x4, Iv x5, Iv x6] 25), pt b17 (Cs #[Iv x7, Iv x8, Iv x9, Iv x10, Iv x11, Iv x12] 25), pt b18 (Cs #[Iv x14, Iv x15] 23), pt b19 (Cs #[Iv 0, Iv 0, Iv 0, Iv 0, Iv 0, Iv 0] 25)] := hD; clear hD
        replace hf : Fr a 119 [] [(2, Iv x13), (4, Pv b16 0), (5, Pv b17 0), (7, Pv b18 0), (8, Pv b19 0), (9, Iv 0), (14, Pv b24 0), (15, Pv b25 0), (16, Iv 2), (43, Iv 2), (44, Bv true), (45, Iv 2), (66, Iv 2)] := hf
        refine O.val hf rfl rfl rfl (RunV.move rfl) ?_; clear hf a; intro a hf
        exact O.nil ⟨rfl, hf.to trivial, (fun d hd => by cases (show some 52 = some d from hd); exact hf.get _ _ rfl), (Or.inr (Or.inl ⟨h17_, h18_, h20_, hS⟩))⟩
       ·exact absurd ((hsb 18 (by simp)).symm.trans h18_) (by decide)
       ·exact absurd ((hsb 18 (by simp)).symm.trans h18_) (by decide)
      ·intro s g w hsp hsb hD a hf
       rcases hD with (⟨h17_, h18_, h20_, hD⟩ | ⟨h17_, h18_, h20_, hD⟩ | ⟨h17_, h18_, h20_, hD⟩ | ⟨h17_, h18_, h20_, hD⟩)
       ·have hS : St w0 w noX [] [pt b24 (Cs #[.func (.func 22) #[] #[], .func (.func 23) #[] #[], .func (.func 24) #[] #[], .func (.func 25) #[] #[], Iv x59.2.2] 48), pt b25 (Cs #[Iv x56.1, Iv x56.2.1, Iv x59.1, Iv x59.2.1, Iv 0, Iv 0] 25), pt b16 (Cs #[Iv x1, Iv x2, Iv x3, Iv x4, Iv x5, Iv x6] 25), pt b17 (Cs #[Iv x7, Iv x8, Iv x9, Iv x10, Iv x11, Iv x12] 25), pt b18 (Cs #[Iv x14, Iv x15] 23), pt b19 (Cs #[Iv 0, Iv 0, Iv 0, Iv 0, Iv 0, Iv 0] 25)] := hD; clear hD
        replace hf : Fr a 119 [] [(52, Iv 2), (2, Iv x13), (4, Pv b16 0), (5, Pv b17 0), (7, Pv b18 0), (8, Pv b19 0), (9, Iv 0), (14, Pv b24 0), (15, Pv b25 0), (16, Iv 2), (43, Iv 2), (44, Bv true), (45, Iv 2), (66, Iv 2)] := hf
        refine O.val hf rfl rfl rfl (RunV.indexArr (j := 2) (m := 4) T_arr_25 T_size_23 rfl rfl rfl (by decide) rfl) ?_; clear hf a; intro a hf
        exact O.nil ⟨rfl, hf.to trivial, (fun d hd => by cases (show some 53 = some d from hd); exact hf.get _ _ rfl), (Or.inl ⟨h17_, h18_, h20_, hS⟩)⟩
       ·have hS : St w0 w noX [] [pt b24 (Cs #[.func (.func 22) #[] #[], .func (.func 23) #[] #[], .func (.func 24) #[] #[], .func (.func 25) #[] #[], Iv x61.2.2] 48), pt b25 (Cs #[Iv x56.1, Iv x56.2.1, Iv x59.1, Iv x59.2.1, Iv 0, Iv 0] 25), pt b16 (Cs #[Iv x1, Iv x2, Iv x3, Iv x4, Iv x5, Iv x6] 25), pt b17 (Cs #[Iv x7, Iv x8, Iv x9, Iv x10, Iv x11, Iv x12] 25), pt b18 (Cs #[Iv x14, Iv x15] 23), pt b19 (Cs #[Iv 0, Iv 0, Iv 0, Iv 0, Iv 0, Iv 0] 25)] := hD; clear hD
        replace hf : Fr a 119 [] [(52, Iv 2), (2, Iv x13), (4, Pv b16 0), (5, Pv b17 0), (7, Pv b18 0), (8, Pv b19 0), (9, Iv 0), (14, Pv b24 0), (15, Pv b25 0), (16, Iv 2), (43, Iv 2), (44, Bv true), (45, Iv 2), (66, Iv 2)] := hf
        refine O.val hf rfl rfl rfl (RunV.indexArr (j := 2) (m := 4) T_arr_25 T_size_23 rfl rfl rfl (by decide) rfl) ?_; clear hf a; intro a hf
        exact O.nil ⟨rfl, hf.to trivial, (fun d hd => by cases (show some 53 = some d from hd); exact hf.get _ _ rfl), (Or.inr (Or.inl ⟨h17_, h18_, h20_, hS⟩))⟩
       ·exact absurd ((hsb 18 (by simp)).symm.trans h18_) (by decide)
       ·exact absurd ((hsb 18 (by simp)).symm.trans h18_) (by decide)
      ·intro s g w hsp hsb hD a hf
       rcases hD with (⟨h17_, h18_, h20_, hD⟩ | ⟨h17_, h18_, h20_, hD⟩ | ⟨h17_, h18_, h20_, hD⟩ | ⟨h17_, h18_, h20_, hD⟩)
       ·have hS : St w0 w noX [] [pt b24 (Cs #[.func (.func 22) #[] #[], .func (.func 23) #[] #[], .func (.func 24) #[] #[], .func (.func 25) #[] #[], Iv x59.2.2] 48), pt b25 (Cs #[Iv x56.1, Iv x56.2.1, Iv x59.1, Iv x59.2.1, Iv 0, Iv 0] 25), pt b16 (Cs #[Iv x1, Iv x2, Iv x3, Iv x4, Iv x5, Iv x6] 25), pt b17 (Cs #[Iv x7, Iv x8, Iv x9, Iv x10, Iv x11, Iv x12] 25), pt b18 (Cs #[Iv x14, Iv x15] 23), pt b19 (Cs #[Iv 0, Iv 0, Iv 0, Iv 0, Iv 0, Iv 0] 25)] := hD; clear hD
        replace hf : Fr a 119 [] [(53, Pv b16 4), (2, Iv x13), (4, Pv b16 0), (5, Pv b17 0), (7, Pv b18 0), (8, Pv b19 0), (9, Iv 0), (14, Pv b24 0), (15, Pv b25 0), (16, Iv 2), (43, Iv 2), (44, Bv true), (45, Iv 2), (66, Iv 2)] := hf
        refine O.val hf rfl rfl rfl (RunV.loadN (cs' := #[Iv x5, Iv x6]) T_agg_23 T_size_23 rfl (hS.ptAt (i := 2) rfl) (Nat.le_of_ble_eq_true rfl) rfl) ?_; clear hf a; intro a hf
        exact O.nil ⟨rfl, hf.to trivial, (fun d hd => by cases (show some 54 = some d from hd); exact hf.get _ _ rfl), (Or.inl ⟨h17_, h18_, h20_, hS⟩)⟩
       ·have hS : St w0 w noX [] [pt b24 (Cs #[.func (.func 22) #[] #[], .func (.func 23) #[] #[], .func (.func 24) #[] #[], .func (.func 25) #[] #[], Iv x61.2.2] 48), pt b25 (Cs #[Iv x56.1, Iv x56.2.1, Iv x59.1, Iv x59.2.1, Iv 0, Iv 0] 25), pt b16 (Cs #[Iv x1, Iv x2, Iv x3, Iv x4, Iv x5, Iv x6] 25), pt b17 (Cs #[Iv x7, Iv x8, Iv x9, Iv x10, Iv x11, Iv x12] 25), pt b18 (Cs #[Iv x14, Iv x15] 23), pt b19 (Cs #[Iv 0, Iv 0, Iv 0, Iv 0, Iv 0, Iv 0] 25)] := hD; clear hD
        replace hf : Fr a 119 [] [(53, Pv b16 4), (2, Iv x13), (4, Pv b16 0), (5, Pv b17 0), (7, Pv b18 0), (8, Pv b19 0), (9, Iv 0), (14, Pv b24 0), (15, Pv b25 0), (16, Iv 2), (43, Iv 2), (44, Bv true), (45, Iv 2), (66, Iv 2)] := hf
        refine O.val hf rfl rfl rfl (RunV.loadN (cs' := #[Iv x5, Iv x6]) T_agg_23 T_size_23 rfl (hS.ptAt (i := 2) rfl) (Nat.le_of_ble_eq_true rfl) rfl) ?_; clear hf a; intro a hf
        exact O.nil ⟨rfl, hf.to trivial, (fun d hd => by cases (show some 54 = some d from hd); exact hf.get _ _ rfl), (Or.inr (Or.inl ⟨h17_, h18_, h20_, hS⟩))⟩
       ·exact absurd ((hsb 18 (by simp)).symm.trans h18_) (by decide)
       ·exact absurd ((hsb 18 (by simp)).symm.trans h18_) (by decide)
      ·intro s g w hsp hsb hD a hf
       rcases hD with (⟨h17_, h18_, h20_, hD⟩ | ⟨h17_, h18_, h20_, hD⟩ | ⟨h17_, h18_, h20_, hD⟩ | ⟨h17_, h18_, h20_, hD⟩)
       ·have hS : St w0 w noX [] [pt b24 (Cs #[.func (.func 22) #[] #[], .func (.func 23) #[] #[], .func (.func 24) #[] #[], .func (.func 25) #[] #[], Iv x59.2.2] 48), pt b25 (Cs #[Iv x56.1, Iv x56.2.1, Iv x59.1, Iv x59.2.1, Iv 0, Iv 0] 25), pt b16 (Cs #[Iv x1, Iv x2, Iv x3, Iv x4, Iv x5, Iv x6] 25), pt b17 (Cs #[Iv x7, Iv x8, Iv x9, Iv x10, Iv x11, Iv x12] 25), pt b18 (Cs #[Iv x14, Iv x15] 23), pt b19 (Cs #[Iv 0, Iv 0, Iv 0, Iv 0, Iv 0, Iv 0] 25)] := hD; clear hD
        replace hf : Fr a 119 [] [(2, Iv x13), (4, Pv b16 0), (5, Pv b17 0), (7, Pv b18 0), (8, Pv b19 0), (9, Iv 0), (14, Pv b24 0), (15, Pv b25 0), (16, Iv 2), (43, Iv 2), (44, Bv true), (45, Iv 2), (66, Iv 2)] := hf
        refine O.val hf rfl rfl rfl (RunV.move rfl) ?_; clear hf a; intro a hf
        exact O.nil ⟨rfl, hf.to trivial, (fun d hd => by cases (show some 55 = some d from hd); exact hf.get _ _ rfl), (Or.inl ⟨h17_, h18_, h20_, hS⟩)⟩
       ·exact absurd ((hsb 17 (by simp)).symm.trans h17_) (by decide)
       ·exact absurd ((hsb 17 (by simp)).symm.trans h17_) (by decide)
       ·exact absurd ((hsb 17 (by simp)).symm.trans h17_) (by decide)
      ·intro s g w hsp hsb hD a hf
       rcases hD with (⟨h17_, h18_, h20_, hD⟩ | ⟨h17_, h18_, h20_, hD⟩ | ⟨h17_, h18_, h20_, hD⟩ | ⟨h17_, h18_, h20_, hD⟩)
       ·have hS : St w0 w noX [] [pt b24 (Cs #[.func (.func 22) #[] #[], .func (.func 23) #[] #[], .func (.func 24) #[] #[], .func (.func 25) #[] #[], Iv x59.2.2] 48), pt b25 (Cs #[Iv x56.1, Iv x56.2.1, Iv x59.1, Iv x59.2.1, Iv 0, Iv 0] 25), pt b16 (Cs #[Iv x1, Iv x2, Iv x3, Iv x4, Iv x5, Iv x6] 25), pt b17 (Cs #[Iv x7, Iv x8, Iv x9, Iv x10, Iv x11, Iv x12] 25), pt b18 (Cs #[Iv x14, Iv x15] 23), pt b19 (Cs #[Iv 0, Iv 0, Iv 0, Iv 0, Iv 0, Iv 0] 25)] := hD; clear hD
        replace hf : Fr a 119 [] [(2, Iv x13), (4, Pv b16 0), (5, Pv b17 0), (7, Pv b18 0), (8, Pv b19 0), (9, Iv 0), (14, Pv b24 0), (15, Pv b25 0), (16, Iv 2), (43, Iv 2), (44, Bv true), (45, Iv 2), (66, Iv 2)] := hf
        refine O.val hf rfl rfl rfl (RunV.move rfl) ?_; clear hf a; intro a hf
        exact O.nil ⟨rfl, hf.to trivial, (fun d hd => by cases (show some 56 = some d from hd); exact hf.get _ _ rfl), (Or.inl ⟨h17_, h18_, h20_, hS⟩)⟩
       ·exact absurd ((hsb 17 (by simp)).symm.trans h17_) (by decide)
       ·exact absurd ((hsb 17 (by simp)).symm.trans h17_) (by decide)
       ·exact absurd ((hsb 17 (by simp)).symm.trans h17_) (by decide)
      ·intro s g w hsp hsb hD a hf
       rcases hD with (⟨h17_, h18_, h20_, hD⟩ | ⟨h17_, h18_, h20_, hD⟩ | ⟨h17_, h18_, h20_, hD⟩ | ⟨h17_, h18_, h20_, hD⟩)
       ·have hS : St w0 w noX [] [pt b24 (Cs #[.func (.func 22) #[] #[], .func (.func 23) #[] #[], .func (.func 24) #[] #[], .func (.func 25) #[] #[], Iv x59.2.2] 48), pt b25 (Cs #[Iv x56.1, Iv x56.2.1, Iv x59.1, Iv x59.2.1, Iv 0, Iv 0] 25), pt b16 (Cs #[Iv x1, Iv x2, Iv x3, Iv x4, Iv x5, Iv x6] 25), pt b17 (Cs #[Iv x7, Iv x8, Iv x9, Iv x10, Iv x11, Iv x12] 25), pt b18 (Cs #[Iv x14, Iv x15] 23), pt b19 (Cs #[Iv 0, Iv 0, Iv 0, Iv 0, Iv 0, Iv 0] 25)] := hD; clear hD
        replace hf : Fr a 119 [] [(56, Iv 2), (2, Iv x13), (4, Pv b16 0), (5, Pv b17 0), (7, Pv b18 0), (8, Pv b19 0), (9, Iv 0), (14, Pv b24 0), (15, Pv b25 0), (16, Iv 2), (43, Iv 2), (44, Bv true), (45, Iv 2), (66, Iv 2)] := hf
        refine O.val hf rfl rfl rfl (RunV.indexArr (j := 2) (m := 4) T_arr_25 T_size_23 rfl rfl rfl (by decide) rfl) ?_; clear hf a; intro a hf
        exact O.nil ⟨rfl, hf.to trivial, (fun d hd => by cases (show some 57 = some d from hd); exact hf.get _ _ rfl), (Or.inl ⟨h17_, h18_, h20_, hS⟩)⟩
       ·exact absurd ((hsb 17 (by simp)).symm.trans h17_) (by decide)
       ·exact absurd ((hsb 17 (by simp)).symm.trans h17_) (by decide)
       ·exact absurd ((hsb 17 (by simp)).symm.trans h17_) (by decide)
      ·intro s g w hsp hsb hD a hf
       rcases hD with (⟨h17_, h18_, h20_, hD⟩ | ⟨h17_, h18_, h20_, hD⟩ | ⟨h17_, h18_, h20_, hD⟩ | ⟨h17_, h18_, h20_, hD⟩)
       ·have hS : St w0 w noX [] [pt b24 (Cs #[.func (.func 22) #[] #[], .func (.func 23) #[] #[], .func (.func 24) #[] #[], .func (.func 25) #[] #[], Iv x59.2.2] 48), pt b25 (Cs #[Iv x56.1, Iv x56.2.1, Iv x59.1, Iv x59.2.1, Iv 0, Iv 0] 25), pt b16 (Cs #[Iv x1, Iv x2, Iv x3, Iv x4, Iv x5, Iv x6] 25), pt b17 (Cs #[Iv x7, Iv x8, Iv x9, Iv x10, Iv x11, Iv x12] 25), pt b18 (Cs #[Iv x14, Iv x15] 23), pt b19 (Cs #[Iv 0, Iv 0, Iv 0, Iv 0, Iv 0, Iv 0] 25)] := hD; clear hD
        replace hf : Fr a 119 [] [(57, Pv b17 4), (2, Iv x13), (4, Pv b16 0), (5, Pv b17 0), (7, Pv b18 0), (8, Pv b19 0), (9, Iv 0), (14, Pv b24 0), (15, Pv b25 0), (16, Iv 2), (43, Iv 2), (44, Bv true), (45, Iv 2), (66, Iv 2)] := hf
        refine O.val hf rfl rfl rfl (RunV.loadN (cs' := #[Iv x11, Iv x12]) T_agg_23 T_size_23 rfl (hS.ptAt (i := 3) rfl) (Nat.le_of_ble_eq_true rfl) rfl) ?_; clear hf a; intro a hf
        exact O.nil ⟨rfl, hf.to trivial, (fun d hd => by cases (show some 58 = some d from hd); exact hf.get _ _ rfl), (Or.inl ⟨h17_, h18_, h20_, hS⟩)⟩
       ·exact absurd ((hsb 17 (by simp)).symm.trans h17_) (by decide)
       ·exact absurd ((hsb 17 (by simp)).symm.trans h17_) (by decide)
       ·exact absurd ((hsb 17 (by simp)).symm.trans h17_) (by decide)
      ·intro s g w hsp hsb hD a hf
       rcases hD with (⟨h17_, h18_, h20_, hD⟩ | ⟨h17_, h18_, h20_, hD⟩ | ⟨h17_, h18_, h20_, hD⟩ | ⟨h17_, h18_, h20_, hD⟩)
       ·have hS : St w0 w noX [] [pt b24 (Cs #[.func (.func 22) #[] #[], .func (.func 23) #[] #[], .func (.func 24) #[] #[], .func (.func 25) #[] #[], Iv x59.2.2] 48), pt b25 (Cs #[Iv x56.1, Iv x56.2.1, Iv x59.1, Iv x59.2.1, Iv 0, Iv 0] 25), pt b16 (Cs #[Iv x1, Iv x2, Iv x3, Iv x4, Iv x5, Iv x6] 25), pt b17 (Cs #[Iv x7, Iv x8, Iv x9, Iv x10, Iv x11, Iv x12] 25), pt b18 (Cs #[Iv x14, Iv x15] 23), pt b19 (Cs #[Iv 0, Iv 0, Iv 0, Iv 0, Iv 0, Iv 0] 25)] := hD; clear hD
        replace hf : Fr a 119 [] [(2, Iv x13), (4, Pv b16 0), (5, Pv b17 0), (7, Pv b18 0), (8, Pv b19 0), (9, Iv 0), (14, Pv b24 0), (15, Pv b25 0), (16, Iv 2), (43, Iv 2), (44, Bv true), (45, Iv 2), (66, Iv 2)] := hf
        refine O.val hf rfl rfl rfl (RunV.move rfl) ?_; clear hf a; intro a hf
        exact O.nil ⟨rfl, hf.to trivial, (fun d hd => by cases (show some 59 = some d from hd); exact hf.get _ _ rfl), (Or.inl ⟨h17_, h18_, h20_, hS⟩)⟩
       ·exact absurd ((hsb 17 (by simp)).symm.trans h17_) (by decide)
       ·exact absurd ((hsb 17 (by simp)).symm.trans h17_) (by decide)
       ·exact absurd ((hsb 17 (by simp)).symm.trans h17_) (by decide)
      ·intro s g w hsp hsb hD a hf
       rcases hD with (⟨h17_, h18_, h20_, hD⟩ | ⟨h17_, h18_, h20_, hD⟩ | ⟨h17_, h18_, h20_, hD⟩ | ⟨h17_, h18_, h20_, hD⟩)
       ·have hS : St w0 w noX [] [pt b24 (Cs #[.func (.func 22) #[] #[], .func (.func 23) #[] #[], .func (.func 24) #[] #[], .func (.func 25) #[] #[], Iv x59.2.2] 48), pt b25 (Cs #[Iv x56.1, Iv x56.2.1, Iv x59.1, Iv x59.2.1, Iv 0, Iv 0] 25), pt b16 (Cs #[Iv x1, Iv x2, Iv x3, Iv x4, Iv x5, Iv x6] 25), pt b17 (Cs #[Iv x7, Iv x8, Iv x9, Iv x10, Iv x11, Iv x12] 25), pt b18 (Cs #[Iv x14, Iv x15] 23), pt b19 (Cs #[Iv 0, Iv 0, Iv 0, Iv 0, Iv 0, Iv 0] 25)] := hD; clear hD
        replace hf : Fr a 119 [] [(58, .agg #[Iv x11, Iv x12]), (59, Iv x13), (2, Iv x13), (4, Pv b16 0), (5, Pv b17 0), (7, Pv b18 0), (8, Pv b19 0), (9, Iv 0), (14, Pv b24 0), (15, Pv b25 0), (16, Iv 2), (43, Iv 2), (44, Bv true), (45, Iv 2), (66, Iv 2)] := hf
        refine O.callR hf rfl rfl rfl (RunE.call (av := #[.agg #[Iv x11, Iv x12], Iv x13, Iv 86400000000]) C_ok_15 rfl rfl rfl) (m_span_Scale_ok F x11 x12 x13 86400000000 _ x60 hx60) ?_
        clear hf a; rintro _ w hS1 a hf
        replace hf : Fr a _ _ ((60, .tuple #[.agg #[Iv x60.1, Iv x60.2.1], Iv x60.2.2]) :: _) := hf
        replace hS := (hS.call hS1).eqM (N := [pt b24 (Cs #[.func (.func 22) #[] #[], .func (.func 23) #[] #[], .func (.func 24) #[] #[], .func (.func 25) #[] #[], Iv x59.2.2] 48), pt b25 (Cs #[Iv x56.1, Iv x56.2.1, Iv x59.1, Iv x59.2.1, Iv 0, Iv 0] 25), pt b16 (Cs #[Iv x1, Iv x2, Iv x3, Iv x4, Iv x5, Iv x6] 25), pt b17 (Cs #[Iv x7, Iv x8, Iv x9, Iv x10, Iv x11, Iv x12] 25), pt b18 (Cs #[Iv x14, Iv x15] 23), pt b19 (Cs #[Iv 0, Iv 0, Iv 0, Iv 0, Iv 0, Iv 0] 25)]) rfl
        clear hS1
        exact O.nil ⟨rfl, hf.to trivial, (fun d hd => by cases (show some 60 = some d from hd); exact hf.get _ _ rfl), (Or.inl ⟨h17_, h18_, h20_, hS⟩)⟩
       ·exact absurd ((hsb 17 (by simp)).symm.trans h17_) (by decide)
       ·exact absurd ((hsb 17 (by simp)).symm.trans h17_) (by decide)
       ·exact absurd ((hsb 17 (by simp)).symm.trans h17_) (by decide)
      ·intro s g w hsp hsb hD a hf
       rcases hD with (⟨h17_, h18_, h20_, hD⟩ | ⟨h17_, h18_, h20_, hD⟩ | ⟨h17_, h18_, h20_, hD⟩ | ⟨h17_, h18_, h20_, hD⟩)
       ·have hS : St w0 w noX [] [pt b24 (Cs #[.func (.func 22) #[] #[], .func (.func 23) #[] #[], .func (.func 24) #[] #[], .func (.func 25) #[] #[], Iv x59.2.2] 48), pt b25 (Cs #[Iv x56.1, Iv x56.2.1, Iv x59.1, Iv x59.2.1, Iv 0, Iv 0] 25), pt b16 (Cs #[Iv x1, Iv x2, Iv x3, Iv x4, Iv x5, Iv x6] 25), pt b17 (Cs #[Iv x7, Iv x8, Iv x9, Iv x10, Iv x11, Iv x12] 25), pt b18 (Cs #[Iv x14, Iv x15] 23), pt b19 (Cs #[Iv 0, Iv 0, Iv 0, Iv 0, Iv 0, Iv 0] 25)] := hD; clear hD
        replace hf : Fr a 119 [] [(60, .tuple #[.agg #[Iv x60.1, Iv x60.2.1], Iv x60.2.2]), (2, Iv x13), (4, Pv b16 0), (5, Pv b17 0), (7, Pv b18 0), (8, Pv b19 0), (9, Iv 0), (14, Pv b24 0), (15, Pv b25 0), (16, Iv 2), (43, Iv 2), (44, Bv true), (45, Iv 2), (66, Iv 2)] := hf
        refine O.val hf rfl rfl rfl (RunV.extract rfl rfl) ?_; clear hf a; intro a hf
        exact O.nil ⟨rfl, hf.to trivial, (fun d hd => by cases (show some 61 = some d from hd); exact hf.get _ _ rfl), (Or.inl ⟨h17_, h18_, h20_, hS⟩)⟩
       ·exact absurd ((hsb 17 (by simp)).symm.trans h17_) (by decide)
       ·exact absurd ((hsb 17 (by simp)).symm.trans h17_) (by decide)
       ·exact absurd ((hsb 17 (by simp)).symm.trans h17_) (by decide)
      ·intro s g w hsp hsb hD a hf
       rcases hD with (⟨h17_, h18_, h20_, hD⟩ | ⟨h17_, h18_, h20_, hD⟩ | ⟨h17_, h18_, h20_, hD⟩ | ⟨h17_, h18_, h20_, hD⟩)
       ·have hS : St w0 w noX [] [pt b24 (Cs #[.func (.func 22) #[] #[], .func (.func 23) #[] #[], .func (.func 24) #[] #[], .func (.func 25) #[] #[], Iv x59.2.2] 48), pt b25 (Cs #[Iv x56.1, Iv x56.2.1, Iv x59.1, Iv x59.2.1, Iv 0, Iv 0] 25), pt b16 (Cs #[Iv x1, Iv x2, Iv x3, Iv x4, Iv x5, Iv x6] 25), pt b17 (Cs #[Iv x7, Iv x8, Iv x9, Iv x10, Iv x11, Iv x12] 25), pt b18 (Cs #[Iv x14, Iv x15] 23), pt b19 (Cs #[Iv 0, Iv 0, Iv 0, Iv 0, Iv 0, Iv 0] 25)] := hD; clear hD
        replace hf : Fr a 119 [] [(60, .tuple #[.agg #[Iv x60.1, Iv x60.2.1], Iv x60.2.2]), (2, Iv x13), (4, Pv b16 0), (5, Pv b17 0), (7, Pv b18 0), (8, Pv b19 0), (9, Iv 0), (14, Pv b24 0), (15, Pv b25 0), (16, Iv 2), (43, Iv 2), (44, Bv true), (45, Iv 2), (66, Iv 2)] := hf
        refine O.val hf rfl rfl rfl (RunV.extract rfl rfl) ?_; clear hf a; intro a hf
        exact O.nil ⟨rfl, hf.to trivial, (fun d hd => by cases (show some 62 = some d from hd); exact hf.get _ _ rfl), (Or.inl ⟨h17_, h18_, h20_, hS⟩)⟩
       ·exact absurd ((hsb 17 (by simp)).symm.trans h17_) (by decide)
       ·exact absurd ((hsb 17 (by simp)).symm.trans h17_) (by decide)
       ·exact absurd ((hsb 17 (by simp)).symm.trans h17_) (by decide)
      ·intro s g w hsp hsb hD a hf
       rcases hD with (⟨h17_, h18_, h20_, hD⟩ | ⟨h17_, h18_, h20_, hD⟩ | ⟨h17_, h18_, h20_, hD⟩ | ⟨h17_, h18_, h20_, hD⟩)
       ·exact absurd ((hsp 17 (by simp)).symm.trans h17_) (by decide)
       ·exact absurd ((hsp 18 (by simp)).symm.trans h18_) (by decide)
       ·have hS : St w0 w noX [] [pt b24 (Cs #[.func (.func 22) #[] #[], .func (.func 23) #[] #[], .func (.func 24) #[] #[], .func (.func 25) #[] #[], Iv x62.2.2] 48), pt b25 (Cs #[Iv x56.1, Iv x56.2.1, Iv x59.1, Iv x59.2.1, Iv 0, Iv 0] 25), pt b16 (Cs #[Iv x1, Iv x2, Iv x3, Iv x4, Iv x5, Iv x6] 25), pt b17 (Cs #[Iv x7, Iv x8, Iv x9, Iv x10, Iv x11, Iv x12] 25), pt b18 (Cs #[Iv x14, Iv x15] 23), pt b19 (Cs #[Iv 0, Iv 0, Iv 0, Iv 0, Iv 0, Iv 0] 25)] := hD; clear hD
        replace hf : Fr a 119 [] [(46, Iv 2), (47, Pv b24 0), (48, Pv b24 0), (49, Pv b24 0), (50, Pv b24 0), (51, .func (.func 22) #[] #[]), (52, Iv 2), (53, Pv b16 4), (54, .agg #[Iv x5, Iv x6]), (55, Pv b24 0), (56, Iv 2), (57, Pv b17 4), (58, .agg #[Iv x11, Iv x12]), (59, Iv x13), (60, .tuple #[.agg #[Iv x60.1, Iv x60.2.1], Iv x60.2.2]), (61, .agg #[Iv x60.1, Iv x60.2.1]), (62, Iv x60.2.2), (63, .agg #[Iv x61.1, Iv x61.2.1]), (64, .agg #[Iv x62.1, Iv x62.2.1]), (2, Iv x13), (4, Pv b16 0), (5, Pv b17 0), (7, Pv b18 0), (8, Pv b19 0), (9, Iv 0), (14, Pv b24 0), (15, Pv b25 0), (16, Iv 2), (43, Iv 2), (44, Bv true), (45, Iv 2), (66, Iv 2)] := hf
        refine O.val hf rfl rfl rfl (RunV.indexArr (j := 2) (m := 4) T_arr_25 T_size_23 rfl rfl rfl (by decide) rfl) ?_; clear hf a; intro a hf
        exact O.nil ⟨rfl, hf.to trivial, (fun d hd => by cases (show some 65 = some d from hd); exact hf.get _ _ rfl), (Or.inr (Or.inr (Or.inl ⟨h17_, h18_, h20_, hS⟩)))⟩
       ·exact absurd ((hsb 20 (by simp)).symm.trans h20_) (by decide)
     ·clear hf hf1 hS
      refine ⟨?_, ?_, ?_, trivial⟩
      ·intro s g w hs0 hsp hsb hD a hf
       rcases hD with (⟨h17_, h18_, h20_, hD⟩ | ⟨h17_, h18_, h20_, hD⟩ | ⟨h17_, h18_, h20_, hD⟩ | ⟨h17_, h18_, h20_, hD⟩)
       ·have hS : St w0 w noX [] [pt b24 (Cs #[.func (.func 22) #[] #[], .func (.func 23) #[] #[], .func (.func 24) #[] #[], .func (.func 25) #[] #[], Iv x59.2.2] 48), pt b25 (Cs #[Iv x56.1, Iv x56.2.1, Iv x59.1, Iv x59.2.1, Iv 0, Iv 0] 25), pt b16 (Cs #[Iv x1, Iv x2, Iv x3, Iv x4, Iv x5, Iv x6] 25), pt b17 (Cs #[Iv x7, Iv x8, Iv x9, Iv x10, Iv x11, Iv x12] 25), pt b18 (Cs #[Iv x14, Iv x15] 23), pt b19 (Cs #[Iv 0, Iv 0, Iv 0, Iv 0, Iv 0, Iv 0] 25)] := hD; clear hD
        replace hf : Fr a 119 [] [(55, Pv b24 0), (60, .tuple #[.agg #[Iv x60.1, Iv x60.2.1], Iv x60.2.2]), (61, .agg #[Iv x60.1, Iv x60.2.1]), (62, Iv x60.2.2), (2, Iv x13), (4, Pv b16 0), (5, Pv b17 0), (7, Pv b18 0), (8, Pv b19 0), (9, Iv 0), (14, Pv b24 0), (15, Pv b25 0), (16, Iv 2), (43, Iv 2), (44, Bv true), (45, Iv 2), (66, Iv 2)] := hf
        refine O.callR hf rfl rfl rfl (RunE.call (av := #[Pv b24 0, .agg #[Iv x60.1, Iv x60.2.1], Iv x60.2.2]) C_ok_14 rfl rfl rfl) (m_cells_sheet_keep_ok F b24 x59.2.2 x60.1 x60.2.1 x60.2.2 _ (hS.ptAt (i := 0) rfl) x61 hx61) ?_
        clear hf a; rintro _ w hS1 a hf
        replace hf : Fr a _ _ ((63, .agg #[Iv x61.1, Iv x61.2.1]) :: _) := hf
        replace hS := (hS.callX1 hS1 (i := 0) rfl (fun _ h => h)).eqM (N := [pt b24 (Cs #[.func (.func 22) #[] #[], .func (.func 23) #[] #[], .func (.func 24) #[] #[], .func (.func 25) #[] #[], Iv x61.2.2] 48), pt b25 (Cs #[Iv x56.1, Iv x56.2.1, Iv x59.1, Iv x59.2.1, Iv 0, Iv 0] 25), pt b16 (Cs #[Iv x1, Iv x2, Iv x3, Iv x4, Iv x5, Iv x6] 25), pt b17 (Cs #[Iv x7, Iv x8, Iv x9, Iv x10, Iv x11, Iv x12] 25), pt b18 (Cs #[Iv x14, Iv x15] 23), pt b19 (Cs #[Iv 0, Iv 0, Iv 0, Iv 0, Iv 0, Iv 0] 25)]) rfl
        clear hS1
        exact O.nil ⟨rfl, (), hf.to trivial, (fun d hd => by cases (show some 63 = some d from hd); exact hf.get _ _ rfl), (fun j hj hk => match j, hj, hk with | 0, hj, hk => rfl | 1, hj, hk => rfl | 2, hj, hk => rfl | 3, hj, hk => rfl | 4, hj, hk => rfl | 5, hj, hk => rfl | 6, hj, hk => rfl | 7, hj, hk => rfl | 8, hj, hk => rfl | 9, hj, hk => rfl | 10, hj, hk => rfl | 11, hj, hk => rfl | 12, hj, hk => rfl | 13, hj, hk => rfl | 14, hj, hk => rfl | 15, hj, hk => rfl | 16, hj, hk => rfl | 17, hj, hk => absurd rfl hj | 18, hj, hk => absurd hk (by decide) | 19, hj, hk => absurd hk (by decide) | 20, hj, hk => absurd hk (by decide) | _ + 21, _, _ => rfl), (Or.inr (Or.inl ⟨rfl, h18_, h20_, hS⟩))⟩
       ·exact absurd (hs0.symm.trans h17_) (by decide)
       ·exact absurd (hs0.symm.trans h17_) (by decide)
       ·exact absurd (hs0.symm.trans h17_) (by decide)
      ·intro s g w hs0 hsp hsb hD a hf
       rcases hD with (⟨h17_, h18_, h20_, hD⟩ | ⟨h17_, h18_, h20_, hD⟩ | ⟨h17_, h18_, h20_, hD⟩ | ⟨h17_, h18_, h20_, hD⟩)
       ·exact absurd ((hsp 17 (by simp)).symm.trans h17_) (by decide)
       ·have hS : St w0 w noX [] [pt b24 (Cs #[.func (.func 22) #[] #[], .func (.func 23) #[] #[], .func (.func 24) #[] #[], .func (.func 25) #[] #[], Iv x61.2.2] 48), pt b25 (Cs #[Iv x56.1, Iv x56.2.1, Iv x59.1, Iv x59.2.1, Iv 0, Iv 0] 25), pt b16 (Cs #[Iv x1, Iv x2, Iv x3, Iv x4, Iv x5, Iv x6] 25), pt b17 (Cs #[Iv x7, Iv x8, Iv x9, Iv x10, Iv x11, Iv x12] 25), pt b18 (Cs #[Iv x14, Iv x15] 23), pt b19 (Cs #[Iv 0, Iv 0, Iv 0, Iv 0, Iv 0, Iv 0] 25)] := hD; clear hD
        replace hf : Fr a 119 [] [(47, Pv b24 0), (51, .func (.func 22) #[] #[]), (54, .agg #[Iv x5, Iv x6]), (63, .agg #[Iv x61.1, Iv x61.2.1]), (2, Iv x13), (4, Pv b16 0), (5, Pv b17 0), (7, Pv b18 0), (8, Pv b19 0), (9, Iv 0), (14, Pv b24 0), (15, Pv b25 0), (16, Iv 2), (43, Iv 2), (44, Bv true), (45, Iv 2), (66, Iv 2)] := hf
        refine O.callR hf rfl rfl rfl (RunE.call (av := #[Pv b24 0, .func (.func 22) #[] #[], .agg #[Iv x5, Iv x6], .agg #[Iv x61.1, Iv x61.2.1]]) C_ok_13 rfl rfl rfl) (m_cells_sheet_do_ok F b24 x61.2.2 x5 x6 x61.1 x61.2.1 _ (hS.ptAt (i := 0) rfl) x62 hx62) ?_
        clear hf a; rintro _ w hS1 a hf
        replace hf : Fr a _ _ ((64, .agg #[Iv x62.1, Iv x62.2.1]) :: _) := hf
        replace hS := (hS.callX1 hS1 (i := 0) rfl (fun _ h => h)).eqM (N := [pt b24 (Cs #[.func (.func 22) #[] #[], .func (.func 23) #[] #[], .func (.func 24) #[] #[], .func (.func 25) #[] #[], Iv x62.2.2] 48), pt b25 (Cs #[Iv x56.1, Iv x56.2.1, Iv x59.1, Iv x59.2.1, Iv 0, Iv 0] 25), pt b16 (Cs #[Iv x1, Iv x2, Iv x3, Iv x4, Iv x5, Iv x6] 25), pt b17 (Cs #[Iv x7, Iv x8, Iv x9, Iv x10, Iv x11, Iv x12] 25), pt b18 (Cs #[Iv x14, Iv x15] 23), pt b19 (Cs #[Iv 0, Iv 0, Iv 0, Iv 0, Iv 0, Iv 0] 25)]) rfl
        clear hS1
        exact O.nil ⟨rfl, (), hf.to trivial, (fun d hd => by cases (show some 64 = some d from hd); exact hf.get _ _ rfl), (fun j hj hk => match j, hj, hk with | 0, hj, hk => rfl | 1, hj, hk => rfl | 2, hj, hk => rfl | 3, hj, hk => rfl | 4, hj, hk => rfl | 5, hj, hk => rfl | 6, hj, hk => rfl | 7, hj, hk => rfl | 8, hj, hk => rfl | 9, hj, hk => rfl | 10, hj, hk => rfl | 11, hj, hk => rfl | 12, hj, hk => rfl | 13, hj, hk => rfl | 14, hj, hk => rfl | 15, hj, hk => rfl | 16, hj, hk => rfl | 17, hj, hk => rfl | 18, hj, hk => absurd rfl hj | 19, hj, hk => absurd hk (by decide) | 20, hj, hk => absurd hk (by decide) | _ + 21, _, _ => rfl), (Or.inr (Or.inr (Or.inl ⟨h17_, rfl, h20_, hS⟩)))⟩
       ·exact absurd (hs0.symm.trans h18_) (by decide)
       ·exact absurd (hs0.symm.trans h18_) (by decide)
      ·intro s g w hs0 hsp hsb hD a hf
       rcases hD with (⟨h17_, h18_, h20_, hD⟩ | ⟨h17_, h18_, h20_, hD⟩ | ⟨h17_, h18_, h20_, hD⟩ | ⟨h17_, h18_, h20_, hD⟩)
       ·exact absurd ((hsp 17 (by simp)).symm.trans h17_) (by decide)
       ·exact absurd ((hsp 18 (by simp)).symm.trans h18_) (by decide)
       ·have hS : St w0 w noX [] [pt b24 (Cs #[.func (.func 22) #[] #[], .func (.func 23) #[] #[], .func (.func 24) #[] #[], .func (.func 25) #[] #[], Iv x62.2.2] 48), pt b25 (Cs #[Iv x56.1, Iv x56.2.1, Iv x59.1, Iv x59.2.1, Iv 0, Iv 0] 25), pt b16 (Cs #[Iv x1, Iv x2, Iv x3, Iv x4, Iv x5, Iv x6] 25), pt b17 (Cs #[Iv x7, Iv x8, Iv x9, Iv x10, Iv x11, Iv x12] 25), pt b18 (Cs #[Iv x14, Iv x15] 23), pt b19 (Cs #[Iv 0, Iv 0, Iv 0, Iv 0, Iv 0, Iv 0] 25)] := hD; clear hD
        replace hf : Fr a 119 [] [(46, Iv 2), (47, Pv b24 0), (48, Pv b24 0), (49, Pv b24 0), (50, Pv b24 0), (51, .func (.func 22) #[] #[]), (52, Iv 2), (53, Pv b16 4), (54, .agg #[Iv x5, Iv x6]), (55, Pv b24 0), (56, Iv 2), (57, Pv b17 4), (58, .agg #[Iv x11, Iv x12]), (59, Iv x13), (60, .tuple #[.agg #[Iv x60.1, Iv x60.2.1], Iv x60.2.2]), (61, .agg #[Iv x60.1, Iv x60.2.1]), (62, Iv x60.2.2), (63, .agg #[Iv x61.1, Iv x61.2.1]), (64, .agg #[Iv x62.1, Iv x62.2.1]), (65, Pv b25 4), (2, Iv x13), (4, Pv b16 0), (5, Pv b17 0), (7, Pv b18 0), (8, Pv b19 0), (9, Iv 0), (14, Pv b24 0), (15, Pv b25 0), (16, Iv 2), (43, Iv 2), (44, Bv true), (45, Iv 2), (66, Iv 2)] := hf
        refine O.store (j := 1) (cs' := #[Iv x56.1, Iv x56.2.1, Iv x59.1, Iv x59.2.1, Iv x62.1, Iv x62.2.1]) (M' := [pt b24 (Cs #[.func (.func 22) #[] #[], .func (.func 23) #[] #[], .func (.func 24) #[] #[], .func (.func 25) #[] #[], Iv x62.2.2] 48), pt b25 (Cs #[Iv x56.1, Iv x56.2.1, Iv x59.1, Iv x59.2.1, Iv x62.1, Iv x62.2.1] 25), pt b16 (Cs #[Iv x1, Iv x2, Iv x3, Iv x4, Iv x5, Iv x6] 25), pt b17 (Cs #[Iv x7, Iv x8, Iv x9, Iv x10, Iv x11, Iv x12] 25), pt b18 (Cs #[Iv x14, Iv x15] 23), pt b19 (Cs #[Iv 0, Iv 0, Iv 0, Iv 0, Iv 0, Iv 0] 25)]) hf hS rfl rfl rfl T_size_23 rfl rfl rfl (Nat.le_of_ble_eq_true rfl) rfl rfl ?_
        clear hS; intro w hS
        exact O.nil ⟨rfl, (), hf.to trivial, (fun d hd => by cases (show none = some d from hd)), (fun j hj hk => match j, hj, hk with | 0, hj, hk => rfl | 1, hj, hk => rfl | 2, hj, hk => rfl | 3, hj, hk => rfl | 4, hj, hk => rfl | 5, hj, hk => rfl | 6, hj, hk => rfl | 7, hj, hk => rfl | 8, hj, hk => rfl | 9, hj, hk => rfl | 10, hj, hk => rfl | 11, hj, hk => rfl | 12, hj, hk => rfl | 13, hj, hk => rfl | 14, hj, hk => rfl | 15, hj, hk => rfl | 16, hj, hk => rfl | 17, hj, hk => rfl | 18, hj, hk => rfl | 19, hj, hk => rfl | 20, hj, hk => absurd rfl hj | _ + 21, _, _ => rfl), (Or.inr (Or.inr (Or.inr ⟨h17_, h18_, rfl, hS⟩)))⟩
       ·exact absurd (hs0.symm.trans h20_) (by decide)
     clear hf hf1 hS; intro s g a w hs hf hD
     rcases hD with (⟨h17_, h18_, h20_, hD⟩ | ⟨h17_, h18_, h20_, hD⟩ | ⟨h17_, h18_, h20_, hD⟩ | ⟨h17_, h18_, h20_, hD⟩)
     · exact absurd ((hs 17 (by simp)).symm.trans h17_) (by decide)
     · exact absurd ((hs 18 (by simp)).symm.trans h18_) (by decide)
     · exact absurd ((hs 20 (by simp)).symm.trans h20_) (by decide)
     have hS : St w0 w noX [] [pt b24 (Cs #[.func (.func 22) #[] #[], .func (.func 23) #[] #[], .func (.func 24) #[] #[], .func (.func 25) #[] #[], Iv x62.2.2] 48), pt b25 (Cs #[Iv x56.1, Iv x56.2.1, Iv x59.1, Iv x59.2.1, Iv x62.1, Iv x62.2.1] 25), pt b16 (Cs #[Iv x1, Iv x2, Iv x3, Iv x4, Iv x5, Iv x6] 25), pt b17 (Cs #[Iv x7, Iv x8, Iv x9, Iv x10, Iv x11, Iv x12] 25), pt b18 (Cs #[Iv x14, Iv x15] 23), pt b19 (Cs #[Iv 0, Iv 0, Iv 0, Iv 0, Iv 0, Iv 0] 25)] := hD; clear hD
     replace hf : Fr a 119 [] [(46, Iv 2), (47, Pv b24 0), (48, Pv b24 0), (49, Pv b24 0), (50, Pv b24 0), (51, .func (.func 22) #[] #[]), (52, Iv 2), (53, Pv b16 4), (54, .agg #[Iv x5, Iv x6]), (55, Pv b24 0), (56, Iv 2), (57, Pv b17 4), (58, .agg #[Iv x11, Iv x12]), (59, Iv x13), (60, .tuple #[.agg #[Iv x60.1, Iv x60.2.1], Iv x60.2.2]), (61, .agg #[Iv x60.1, Iv x60.2.1]), (62, Iv x60.2.2), (63, .agg #[Iv x61.1, Iv x61.2.1]), (64, .agg #[Iv x62.1, Iv x62.2.1]), (65, Pv b25 4), (2, Iv x13), (4, Pv b16 0), (5, Pv b17 0), (7, Pv b18 0), (8, Pv b19 0), (9, Iv 0), (14, Pv b24 0), (15, Pv b25 0), (16, Iv 2), (43, Iv 2), (44, Bv true), (45, Iv 2), (66, Iv 2)] := hf
     refine k_blk_normal ?_
     refine k_seq ?_
     -- region 19
     refine W.regionL (l := [0, 1]) rfl ?_
     refine O.val (v := Iv 3) hf rfl rfl rfl (RunV.add (p := 2) (q := 1) rfl rfl) ?_; clear hf a; intro a hf
     refine O.val hf rfl rfl rfl (RunV.move rfl) ?_; clear hf a; intro a hf
     refine O.nil ?_
     refine k_then (LH.step ?_)
     refine W.seq ?_
     -- region 16
     refine W.regionL (l := [0]) rfl ?_
     refine O.val (v := Bv false) hf rfl rfl rfl (RunV.lss (p := 3) (q := 3) rfl rfl) ?_; clear hf a; intro a hf
     refine O.nil ?_
     refine k_seq ?_
     refine W.seq ?_
     refine W.if_ff hf rfl ?_
     refine W.exit ?_
     refine k_then_exit ?_
     refine k_then_exit ?_
     refine k_blk ?_
     replace hS := hS.front (i := 1) (M' := [pt b25 (Cs #[Iv x56.1, Iv x56.2.1, Iv x59.1, Iv x59.2.1, Iv x62.1, Iv x62.2.1] 25), pt b24 (Cs #[.func (.func 22) #[] #[], .func (.func 23) #[] #[], .func (.func 24) #[] #[], .func (.func 25) #[] #[], Iv x62.2.2] 48), pt b16 (Cs #[Iv x1, Iv x2, Iv x3, Iv x4, Iv x5, Iv x6] 25), pt b17 (Cs #[Iv x7, Iv x8, Iv x9, Iv x10, Iv x11, Iv x12] 25), pt b18 (Cs #[Iv x14, Iv x15] 23), pt b19 (Cs #[Iv 0, Iv 0, Iv 0, Iv 0, Iv 0, Iv 0] 25)]) rfl rfl
     replace hS := hS.front (i := 1) (M' := [pt b24 (Cs #[.func (.func 22) #[] #[], .func (.func 23) #[] #[], .func (.func 24) #[] #[], .func (.func 25) #[] #[], Iv x62.2.2] 48), pt b25 (Cs #[Iv x56.1, Iv x56.2.1, Iv x59.1, Iv x59.2.1, Iv x62.1, Iv x62.2.1] 25), pt b16 (Cs #[Iv x1, Iv x2, Iv x3, Iv x4, Iv x5, Iv x6] 25), pt b17 (Cs #[Iv x7, Iv x8, Iv x9, Iv x10, Iv x11, Iv x12] 25), pt b18 (Cs #[Iv x14, Iv x15] 23), pt b19 (Cs #[Iv 0, Iv 0, Iv 0, Iv 0, Iv 0, Iv 0] 25)]) rfl rfl
     replace hS := hS.front (i := 5) (M' := [pt b19 (Cs #[Iv 0, Iv 0, Iv 0, Iv 0, Iv 0, Iv 0] 25), pt b24 (Cs #[.func (.func 22) #[] #[], .func (.func 23) #[] #[], .func (.func 24) #[] #[], .func (.func 25) #[] #[], Iv x62.2.2] 48), pt b25 (Cs #[Iv x56.1, Iv x56.2.1, Iv x59.1, Iv x59.2.1, Iv x62.1, Iv x62.2.1] 25), pt b16 (Cs #[Iv x1, Iv x2, Iv x3, Iv x4, Iv x5, Iv x6] 25), pt b17 (Cs #[Iv x7, Iv x8, Iv x9, Iv x10, Iv x11, Iv x12] 25), pt b18 (Cs #[Iv x14, Iv x15] 23)]) rfl rfl
     replace hS := hS.front (i := 5) (M' := [pt b18 (Cs #[Iv x14, Iv x15] 23), pt b19 (Cs #[Iv 0, Iv 0, Iv 0, Iv 0, Iv 0, Iv 0] 25), pt b24 (Cs #[.func (.func 22) #[] #[], .func (.func 23) #[] #[], .func (.func 24) #[] #[], .func (.func 25) #[] #[], Iv x62.2.2] 48), pt b25 (Cs #[Iv x56.1, Iv x56.2.1, Iv x59.1, Iv x59.2.1, Iv x62.1, Iv x62.2.1] 25), pt b16 (Cs #[Iv x1, Iv x2, Iv x3, Iv x4, Iv x5, Iv x6] 25), pt b17 (Cs #[Iv x7, Iv x8, Iv x9, Iv x10, Iv x11, Iv x12] 25)]) rfl rfl
     replace hS := hS.sub (N := [pt b18 (Cs #[Iv x14, Iv x15] 23), pt b19 (Cs #[Iv 0, Iv 0, Iv 0, Iv 0, Iv 0, Iv 0] 25), pt b24 (Cs #[.func (.func 22) #[] #[], .func (.func 23) #[] #[], .func (.func 24) #[] #[], .func (.func 25) #[] #[], Iv x62.2.2] 48), pt b25 (Cs #[Iv x56.1, Iv x56.2.1, Iv x59.1, Iv x59.2.1, Iv x62.1, Iv x62.2.1] 25)]) (.cons_cons _ (.cons_cons _ (.cons_cons _ (.cons_cons _ (.cons _ (.cons _ .slnil))))))
     exact k_then ⟨x62.2.2, x56.1, x56.2.1, x59.1, x59.2.1, x62.1, x62.2.1, hf.to ⟨rfl, rfl, rfl, rfl, rfl, rfl, trivial⟩, hS, hm⟩
    ·clear hf hS hm a; try clear w
     rintro a w ⟨x26, x27, x28, x29, x30, x31, x32, hf, hS, hm⟩
     unfold m_cells_Ahead_j2 at hm
     refine W.seq ?_
     -- region 20
     refine W.regionL (l := [0, 1, 2, 3, 4, 5, 6, 7, 8]) rfl ?_
     refine O.val hf rfl rfl rfl (RunV.move rfl) ?_; clear hf a; intro a hf
     refine O.val hf rfl rfl rfl (RunV.loadN (cs' := #[Iv x14, Iv x15]) T_agg_23 T_size_23 rfl (hS.ptAt (i := 0) rfl) (Nat.le_of_ble_eq_true rfl) rfl) ?_; clear hf a; intro a hf
     refine O.val hf rfl rfl rfl (RunV.move rfl) ?_; clear hf a; intro a hf
     obtain ⟨x33, hx33, hm⟩ := hm_b hm
     refine O.callR hf rfl rfl rfl (RunE.call (av := #[.agg #[Iv x14, Iv x15], Iv x13, Iv 86400000000]) C_ok_15 rfl rfl rfl) (m_span_Scale_ok F x14 x15 x13 86400000000 _ x33 hx33) ?_
     clear hf a; rintro _ w hS1 a hf
     replace hf : Fr a _ _ ((70, .tuple #[.agg #[Iv x33.1, Iv x33.2.1], Iv x33.2.2]) :: _) := hf
     replace hS := (hS.call hS1).eqM (N := [pt b18 (Cs #[Iv x14, Iv x15] 23), pt b19 (Cs #[Iv 0, Iv 0, Iv 0, Iv 0, Iv 0, Iv 0] 25), pt b24 (Cs #[.func (.func 22) #[] #[], .func (.func 23) #[] #[], .func (.func 24) #[] #[], .func (.func 25) #[] #[], Iv x26] 48), pt b25 (Cs #[Iv x27, Iv x28, Iv x29, Iv x30, Iv x31, Iv x32] 25)]) rfl
     clear hS1
     refine O.val hf rfl rfl rfl (RunV.extract rfl rfl) ?_; clear hf a; intro a hf
     refine O.val hf rfl rfl rfl (RunV.extract rfl rfl) ?_; clear hf a; intro a hf
     obtain ⟨x34, hx34, hm⟩ := hm_b hm
     refine O.callR hf rfl rfl rfl (RunE.call (av := #[Pv b24 0, .agg #[Iv x33.1, Iv x33.2.1], Iv x33.2.2]) C_ok_14 rfl rfl rfl) (m_cells_sheet_keep_ok F b24 x26 x33.1 x33.2.1 x33.2.2 _ (hS.ptAt (i := 2) rfl) x34 hx34) ?_
     clear hf a; rintro _ w hS1 a hf
     replace hf : Fr a _ _ ((73, .agg #[Iv x34.1, Iv x34.2.1]) :: _) := hf
     replace hS := (hS.callX1 hS1 (i := 2) rfl (fun _ h => h)).eqM (N := [pt b24 (Cs #[.func (.func 22) #[] #[], .func (.func 23) #[] #[], .func (.func 24) #[] #[], .func (.func 25) #[] #[], Iv x34.2.2] 48), pt b18 (Cs #[Iv x14, Iv x15] 23), pt b19 (Cs #[Iv 0, Iv 0, Iv 0, Iv 0, Iv 0, Iv 0] 25), pt b25 (Cs #[Iv x27, Iv x28, Iv x29, Iv x30, Iv x31, Iv x32] 25)]) rfl
     clear hS1
     refine O.alloc (cs := #[Iv 0, Iv 0]) hf hS rfl rfl T_zero_23 rfl ?_
     clear hf hS a; intro b35 w a hb35 hS hf
     refine O.store (j := 0) (cs' := #[Iv x34.1, Iv x34.2.1]) (M' := [pt b35 (Cs #[Iv x34.1, Iv x34.2.1] 23), pt b24 (Cs #[.func (.func 22) #[] #[], .func (.func 23) #[] #[], .func (.func 24) #[] #[], .func (.func 25) #[] #[], Iv x34.2.2] 48), pt b18 (Cs #[Iv x14, Iv x15] 23), pt b19 (Cs #[Iv 0, Iv 0, Iv 0, Iv 0, Iv 0, Iv 0] 25), pt b25 (Cs #[Iv x27, Iv x28, Iv x29, Iv x30, Iv x31, Iv x32] 25)]) hf hS rfl rfl rfl T_size_23 rfl rfl rfl (Nat.le_of_ble_eq_true rfl) rfl rfl ?_
     clear hS; intro w hS
     refine O.nil ?_
     refine k_seq ?_
     replace hf : Fr a 119 [] [(2, Iv x13), (8, Pv b19 0), (9, Iv 0), (14, Pv b24 0), (15, Pv b25 0), (17, Pv b35 0)] := hf.to ⟨rfl, rfl, rfl, rfl, rfl, rfl, trivial⟩
     refine W.seq ?_
     -- region 21
     refine W.regionL (l := [0, 1, 2, 3, 4, 5, 6, 7]) rfl ?_
     refine O.val hf rfl rfl rfl (RunV.move rfl) ?_; clear hf a; intro a hf
     refine O.val hf rfl rfl rfl (RunV.loadN (cs' := #[Iv x34.1, Iv x34.2.1]) T_agg_23 T_size_23 rfl (hS.ptAt (i := 0) rfl) (Nat.le_of_ble_eq_true rfl) rfl) ?_; clear hf a; intro a hf
     refine O.val hf rfl rfl rfl (RunV.move rfl) ?_; clear hf a; intro a hf
     obtain ⟨x36, hx36, hm⟩ := hm_b hm
     refine O.callR hf rfl rfl rfl (RunE.call (av := #[.agg #[Iv x34.1, Iv x34.2.1], Iv x13, Iv 86400000000]) C_ok_15 rfl rfl rfl) (m_span_Scale_ok F x34.1 x34.2.1 x13 86400000000 _ x36 hx36) ?_
     clear hf a; rintro _ w hS1 a hf
     replace hf : Fr a _ _ ((77, .tuple #[.agg #[Iv x36.1, Iv x36.2.1], Iv x36.2.2]) :: _) := hf
     replace hS := (hS.call hS1).eqM (N := [pt b35 (Cs #[Iv x34.1, Iv x34.2.1] 23), pt b24 (Cs #[.func (.func 22) #[] #[], .func (.func 23) #[] #[], .func (.func 24) #[] #[], .func (.func 25) #[] #[], Iv x34.2.2] 48), pt b18 (Cs #[Iv x14, Iv x15] 23), pt b19 (Cs #[Iv 0, Iv 0, Iv 0, Iv 0, Iv 0, Iv 0] 25), pt b25 (Cs #[Iv x27, Iv x28, Iv x29, Iv x30, Iv x31, Iv x32] 25)]) rfl
     clear hS1
     refine O.val hf rfl rfl rfl (RunV.extract rfl rfl) ?_; clear hf a; intro a hf
     refine O.val hf rfl rfl rfl (RunV.extract rfl rfl) ?_; clear hf a; intro a hf
     obtain ⟨x37, hx37, hm⟩ := hm_b hm
     refine O.callR hf rfl rfl rfl (RunE.call (av := #[Pv b24 0, .agg #[Iv x36.1, Iv x36.2.1], Iv x36.2.2]) C_ok_14 rfl rfl rfl) (m_cells_sheet_keep_ok F b24 x34.2.2 x36.1 x36.2.1 x36.2.2 _ (hS.ptAt (i := 1) rfl) x37 hx37) ?_
     clear hf a; rintro _ w hS1 a hf
     replace hf : Fr a _ _ ((80, .agg #[Iv x37.1, Iv x37.2.1]) :: _) := hf
     replace hS := (hS.callX1 hS1 (i := 1) rfl (fun _ h => h)).eqM (N := [pt b24 (Cs #[.func (.func 22) #[] #[], .func (.func 23) #[] #[], .func (.func 24) #[] #[], .func (.func 25) #[] #[], Iv x37.2.2] 48), pt b35 (Cs #[Iv x34.1, Iv x34.2.1] 23), pt b18 (Cs #[Iv x14, Iv x15] 23), pt b19 (Cs #[Iv 0, Iv 0, Iv 0, Iv 0, Iv 0, Iv 0] 25), pt b25 (Cs #[Iv x27, Iv x28, Iv x29, Iv x30, Iv x31, Iv x32] 25)]) rfl
     clear hS1
     refine O.store (j := 1) (cs' := #[Iv x37.1, Iv x37.2.1]) (M' := [pt b24 (Cs #[.func (.func 22) #[] #[], .func (.func 23) #[] #[], .func (.func 24) #[] #[], .func (.func 25) #[] #[], Iv x37.2.2] 48), pt b35 (Cs #[Iv x37.1, Iv x37.2.1] 23), pt b18 (Cs #[Iv x14, Iv x15] 23), pt b19 (Cs #[Iv 0, Iv 0, Iv 0, Iv 0, Iv 0, Iv 0] 25), pt b25 (Cs #[Iv x27, Iv x28, Iv x29, Iv x30, Iv x31, Iv x32] 25)]) hf hS rfl rfl rfl T_size_23 rfl rfl rfl (Nat.le_of_ble_eq_true rfl) rfl rfl ?_
     clear hS; intro w hS
     refine O.nil ?_
     refine k_seq ?_
     replace hf : Fr a 119 [] [(8, Pv b19 0), (9, Iv 0), (14, Pv b24 0), (15, Pv b25 0), (17, Pv b35 0)] := hf.to ⟨rfl, rfl, rfl, rfl, rfl, trivial⟩
     refine W.seq ?_
     -- region 22
     refine W.regionL (l := [0, 1, 2, 3, 4, 5, 6]) rfl ?_
     refine O.val hf rfl rfl rfl (RunV.move rfl) ?_; clear hf a; intro a hf
     refine O.val hf rfl rfl rfl (RunV.loadN (cs' := #[Iv x37.1, Iv x37.2.1]) T_agg_23 T_size_23 rfl (hS.ptAt (i := 1) rfl) (Nat.le_of_ble_eq_true rfl) rfl) ?_; clear hf a; intro a hf
     obtain ⟨x38, hx38, hm⟩ := hm_b hm
     refine O.callR hf rfl rfl rfl (RunE.call (av := #[.agg #[Iv x37.1, Iv x37.2.1], Iv 1, Iv 2]) C_ok_15 rfl rfl rfl) (m_span_Scale_ok F x37.1 x37.2.1 1 2 _ x38 hx38) ?_
     clear hf a; rintro _ w hS1 a hf
     replace hf : Fr a _ _ ((83, .tuple #[.agg #[Iv x38.1, Iv x38.2.1], Iv x38.2.2]) :: _) := hf
     replace hS := (hS.call hS1).eqM (N := [pt b24 (Cs #[.func (.func 22) #[] #[], .func (.func 23) #[] #[], .func (.func 24) #[] #[], .func (.func 25) #[] #[], Iv x37.2.2] 48), pt b35 (Cs #[Iv x37.1, Iv x37.2.1] 23), pt b18 (Cs #[Iv x14, Iv x15] 23), pt b19 (Cs #[Iv 0, Iv 0, Iv 0, Iv 0, Iv 0, Iv 0] 25), pt b25 (Cs #[Iv x27, Iv x28, Iv x29, Iv x30, Iv x31, Iv x32] 25)]) rfl
     clear hS1
     refine O.val hf rfl rfl rfl (RunV.extract rfl rfl) ?_; clear hf a; intro a hf
     refine O.val hf rfl rfl rfl (RunV.extract rfl rfl) ?_; clear hf a; intro a hf
     obtain ⟨x39, hx39, hm⟩ := hm_b hm
     refine O.callR hf rfl rfl rfl (RunE.call (av := #[Pv b24 0, .agg #[Iv x38.1, Iv x38.2.1], Iv x38.2.2]) C_ok_14 rfl rfl rfl) (m_cells_sheet_keep_ok F b24 x37.2.2 x38.1 x38.2.1 x38.2.2 _ (hS.ptAt (i := 0) rfl) x39 hx39) ?_
     clear hf a; rintro _ w hS1 a hf
     replace hf : Fr a _ _ ((86, .agg #[Iv x39.1, Iv x39.2.1]) :: _) := hf
     replace hS := (hS.callX1 hS1 (i := 0) rfl (fun _ h => h)).eqM (N := [pt b24 (Cs #[.func (.func 22) #[] #[], .func (.func 23) #[] #[], .func (.func 24) #[] #[], .func (.func 25) #[] #[], Iv x39.2.2] 48), pt b35 (Cs #[Iv x37.1, Iv x37.2.1] 23), pt b18 (Cs #[Iv x14, Iv x15] 23), pt b19 (Cs #[Iv 0, Iv 0, Iv 0, Iv 0, Iv 0, Iv 0] 25), pt b25 (Cs #[Iv x27, Iv x28, Iv x29, Iv x30, Iv x31, Iv x32] 25)]) rfl
     clear hS1
     refine O.store (j := 1) (cs' := #[Iv x39.1, Iv x39.2.1]) (M' := [pt b24 (Cs #[.func (.func 22) #[] #[], .func (.func 23) #[] #[], .func (.func 24) #[] #[], .func (.func 25) #[] #[], Iv x39.2.2] 48), pt b35 (Cs #[Iv x39.1, Iv x39.2.1] 23), pt b18 (Cs #[Iv x14, Iv x15] 23), pt b19 (Cs #[Iv 0, Iv 0, Iv 0, Iv 0, Iv 0, Iv 0] 25), pt b25 (Cs #[Iv x27, Iv x28, Iv x29, Iv x30, Iv x31, Iv x32] 25)]) hf hS rfl rfl rfl T_size_23 rfl rfl rfl (Nat.le_of_ble_eq_true rfl) rfl rfl ?_
     clear hS; intro w hS
     refine O.nil ?_
     refine k_seq ?_
     replace hf : Fr a 119 [] [(8, Pv b19 0), (9, Iv 0), (14, Pv b24 0), (15, Pv b25 0), (17, Pv b35 0)] := hf.to ⟨rfl, rfl, rfl, rfl, rfl, trivial⟩
     refine W.seqR (fun a w => ∃ (x40 : Int) (x41 : Int) (x42 : Int) (x43 : Int) (x44 : Int) (x45 : Int) (x46 : Int), Fr a 119 [] [(8, Pv b19 0), (9, Iv 0), (14, Pv b24 0), (15, Pv b25 0)] ∧ St w0 w noX [] [pt b19 (Cs #[Iv 0, Iv 0, Iv 0, Iv 0, Iv 0, Iv 0] 25), pt b24 (Cs #[.func (.func 22) #[] #[], .func (.func 23) #[] #[], .func (.func 24) #[] #[], .func (.func 25) #[] #[], Iv x40] 48), pt b25 (Cs #[Iv x41, Iv x42, Iv x43, Iv x44, Iv x45, Iv x46] 25)] ∧ m_cells_Ahead_j1 F x40 x41 x42 x43 x44 x45 x46 = some r) ?_ ?_
     ·refine W.seq ?_
      -- region 23
      refine W.regionL (l := [0]) rfl ?_
      refine O.val hf rfl rfl rfl (RunV.move rfl) ?_; clear hf a; intro a hf
      refine O.nil ?_
      refine k_seq ?_
      refine W.block ?_
      refine W.loopH (LH.step ?_)
      refine W.seq ?_
      -- region 24
      refine W.regionL (l := [0]) rfl ?_
      refine O.val (v := Bv true) hf rfl rfl rfl (RunV.lss (p := 0) (q := 3) rfl rfl) ?_; clear hf a; intro a hf
      refine O.nil ?_
      refine k_seq ?_
      refine W.seq ?_
      refine W.if_tt hf rfl ?_
      refine W.skip ?_
      refine k_seq ?_
      refine W.seq ?_
      refine W.block ?_
      refine W.seq ?_
      -- region 25
      refine W.regionL (l := [0, 1]) rfl ?_
      refine O.val hf rfl rfl rfl (RunV.move rfl) ?_; clear hf a; intro a hf
      refine O.val hf rfl rfl rfl (RunV.assign rfl) ?_; clear hf a; intro a hf
      refine O.nil ?_
      refine k_seq ?_
      -- region 26, which draws its order
      -- [15, 17] turn memory
      have hf1 : Fr a 119 [] [] := hf.to trivial
      replace hf : Fr a 119 [] [(8, Pv b19 0), (9, Iv 0), (14, Pv b24 0), (15, Pv b25 0), (17, Pv b35 0), (18, Iv 0), (87, Iv 0), (88, Bv true), (89, Iv 0)] := hf.to ⟨rfl, rfl, rfl, rfl, rfl, rfl, rfl, rfl, rfl, trivial⟩
      obtain ⟨x48, hx48, hm⟩ := hm_b hm
      refine W.drawP (γ := Unit) (L0 := [(8, Pv b19 0), (9, Iv 0), (14, Pv b24 0), (15, Pv b25 0), (17, Pv b35 0), (18, Iv 0), (87, Iv 0), (88, Bv true), (89, Iv 0)]) (L1 := []) () [15, 17] [0, 1, 2, 3, 4, 5, 6, 7, 8, 9, 10, 11, 12, 13, 14, 16] (fun i => match i with | 0 => [] | 1 => [] | 2 => [] | 3 => [2] | 4 => [3] | 5 => [4] | 6 => [] | 7 => [6] | 8 => [7] | 9 => [] | 10 => [9] | 11 => [10] | 12 => [] | 13 => [12] | 14 => [11, 13] | 15 => [1, 5, 8, 14] | 16 => [0, 1, 2, 3, 4, 5, 6, 7, 8, 9, 10, 11, 12, 13, 14, 15] | 17 => [0, 1, 2, 3, 4, 5, 6, 7, 8, 9, 10, 11, 12, 13, 14, 15, 16] | _ => []) (fun i => match i with | 16 => [15] | 17 => [15] | _ => []) (fun i => match i with | 0 => [17] | 1 => [15, 17] | 2 => [15, 17] | 3 => [15, 17] | 4 => [15, 17] | 5 => [15, 17] | 6 => [15, 17] | 7 => [15, 17] | 8 => [15, 17] | 9 => [15, 17] | 10 => [15, 17] | 11 => [15, 17] | 12 => [15, 17] | 13 => [15, 17] | 14 => [15, 17] | 15 => [17] | 16 => [17] | _ => []) (fun i => match i with | 15 => [16, 17] | 17 => [] | _ => []) (fun _ => []) (fun (g : Unit) j => match g, j with | _, 0 => Iv 0 | _, 1 => Pv b24 0 | _, 2 => Pv b24 0 | _, 3 => Pv b24 0 | _, 4 => Pv b24 0 | _, 5 => .func (.func 22) #[] #[] | _, 6 => Iv 0 | _, 7 => Pv b25 0 | _, 8 => .agg #[Iv x27, Iv x28] | _, 9 => Pv b35 1 | _, 10 => Iv x39.2.1 | _, 11 => Iv (IntKind.i64.wrap (0 - x39.2.1)) | _, 12 => Pv b35 1 | _, 13 => Iv x39.2.1 | _, 14 => .agg #[Iv (IntKind.i64.wrap (0 - x39.2.1)), Iv x39.2.1] | _, 15 => .agg #[Iv x48.1, Iv x48.2.1] | _, 16 => Pv b25 0 | _, _ => undef) (fun s (g : Unit) w => match g with | _ => (s 15 = false ∧ s 17 = false ∧ St w0 w noX [] [pt b24 (Cs #[.func (.func 22) #[] #[], .func (.func 23) #[] #[], .func (.func 24) #[] #[], .func (.func 25) #[] #[], Iv x39.2.2] 48), pt b35 (Cs #[Iv x39.1, Iv x39.2.1] 23), pt b18 (Cs #[Iv x14, Iv x15] 23), pt b19 (Cs #[Iv 0, Iv 0, Iv 0, Iv 0, Iv 0, Iv 0] 25), pt b25 (Cs #[Iv x27, Iv x28, Iv x29, Iv x30, Iv x31, Iv x32] 25)]) ∨ (s 15 = true ∧ s 17 = false ∧ St w0 w noX [] [pt b24 (Cs #[.func (.func 22) #[] #[], .func (.func 23) #[] #[], .func (.func 24) #[] #[], .func (.func 25) #[] #[], Iv x48.2.2] 48), pt b35 (Cs #[Iv x39.1, Iv x39.2.1] 23), pt b18 (Cs #[Iv x14, Iv x15] 23), pt b19 (Cs #[Iv 0, Iv 0, Iv 0, Iv 0, Iv 0, Iv 0] 25), pt b25 (Cs #[Iv x27, Iv x28, Iv x29, Iv x30, Iv x31, Iv x32] 25)]) ∨ (s 15 = true ∧ s 17 = true ∧ St w0 w noX [] [pt b24 (Cs #[.func (.func 22) #[] #[], .func (.func 23) #[] #[], .func (.func 24) #[] #[], .func (.func 25) #[] #[], Iv x48.2.2] 48), pt b35 (Cs #[Iv x39.1, Iv x39.2.1] 23), pt b18 (Cs #[Iv x14, Iv x15] 23), pt b19 (Cs #[Iv 0, Iv 0, Iv 0, Iv 0, Iv 0, Iv 0] 25), pt b25 (Cs #[Iv x48.1, Iv x48.2.1, Iv x29, Iv x30, Iv x31, Iv x32] 25)])) P_mixed (by kernel_rfl) hf hf1 (Or.inl ⟨rfl, rfl, hS.drew⟩) ?_ ?_ ?_
      ·clear hf hf1 hS
       refine ⟨?_, ?_, ?_, ?_, ?_, ?_, ?_, ?_, ?_, ?_, ?_, ?_, ?_, ?_, ?_, ?_, trivial⟩
       ·intro s g w hsp hsb hD a hf
        rcases hD with (⟨h15_, h17_, hD⟩ | ⟨h15_, h17_, hD⟩ | ⟨h15_, h17_, hD⟩)
        ·have hS : St w0 w noX [] [pt b24 (Cs #[.func (.func 22) #[] #[], .func (.func 23) #[] #[], .func (.func 24) #[] #[], .func (.func 25) #[] #[], Iv x39.2.2] 48), pt b35 (Cs #[Iv x39.1, Iv x39.2.1] 23), pt b18 (Cs #[Iv x14, Iv x15] 23), pt b19 (Cs #[Iv 0, Iv 0, Iv 0, Iv 0, Iv 0, Iv 0] 25), pt b25 (Cs #[Iv x27, Iv x28, Iv x29, Iv x30, Iv x31, Iv x32] 25)] := hD; clear hD
         replace hf : Fr a 119 [] [(8, Pv b19 0), (9, Iv 0), (14, Pv b24 0), (15, Pv b25 0), (17, Pv b35 0), (18, Iv 0), (87, Iv 0), (88, Bv true), (89, Iv 0)] := hf
         refine O.val hf rfl rfl rfl (RunV.move rfl) ?_; clear hf a; intro a hf
         exact O.nil ⟨rfl, hf.to trivial, (fun d hd => by cases (show some 90 = some d from hd); exact hf.get _ _ rfl), (Or.inl ⟨h15_, h17_, hS⟩)⟩
        ·have hS : St w0 w noX [] [pt b24 (Cs #[.func (.func 22) #[] #[], .func (.func 23) #[] #[], .func (.func 24) #[] #[], .func (.func 25) #[] #[], Iv x48.2.2] 48), pt b35 (Cs #[Iv x39.1, Iv x39.2.1] 23), pt b18 (Cs #[Iv x14, Iv x15] 23), pt b19 (Cs #[Iv 0, Iv 0, Iv 0, Iv 0, Iv 0, Iv 0] 25), pt b25 (Cs #[Iv x27, Iv x28, Iv x29, Iv x30, Iv x31, Iv x32] 25)] := hD; clear hD
         replace hf : Fr a 119 [] [(8, Pv b19 0), (9, Iv 0), (14, Pv b24 0), (15, Pv b25 0), (17, Pv b35 0), (18, Iv 0), (87, Iv 0), (88, Bv true), (89, Iv 0)] := hf
         refine O.val hf rfl rfl rfl (RunV.move rfl) ?_; clear hf a; intro a hf
         exact O.nil ⟨rfl, hf.to trivial, (fun d hd => by cases (show some 90 = some d from hd); exact hf.get _ _ rfl), (Or.inr (Or.inl ⟨h15_, h17_, hS⟩))⟩
        ·exact absurd ((hsb 17 (by simp)).symm.trans h17_) (by decide)
       ·intro s g w hsp hsb hD a hf
        rcases hD with (⟨h15_, h17_, hD⟩ | ⟨h15_, h17_, hD⟩ | ⟨h15_, h17_, hD⟩)
        ·have hS : St w0 w noX [] [pt b24 (Cs #[.func (.func 22) #[] #[], .func (.func 23) #[] #[], .func (.func 24) #[] #[], .func (.func 25) #[] #[], Iv x39.2.2] 48), pt b35 (Cs #[Iv x39.1, Iv x39.2.1] 23), pt b18 (Cs #[Iv x14, Iv x15] 23), pt b19 (Cs #[Iv 0, Iv 0, Iv 0, Iv 0, Iv 0, Iv 0] 25), pt b25 (Cs #[Iv x27, Iv x28, Iv x29, Iv x30, Iv x31, Iv x32] 25)] := hD; clear hD
         replace hf : Fr a 119 [] [(8, Pv b19 0), (9, Iv 0), (14, Pv b24 0), (15, Pv b25 0), (17, Pv b35 0), (18, Iv 0), (87, Iv 0), (88, Bv true), (89, Iv 0)] := hf
         refine O.val hf rfl rfl rfl (RunV.move rfl) ?_; clear hf a; intro a hf
         exact O.nil ⟨rfl, hf.to trivial, (fun d hd => by cases (show some 91 = some d from hd); exact hf.get _ _ rfl), (Or.inl ⟨h15_, h17_, hS⟩)⟩
        ·exact absurd ((hsb 15 (by simp)).symm.trans h15_) (by decide)
        ·exact absurd ((hsb 15 (by simp)).symm.trans h15_) (by decide)
       ·intro s g w hsp hsb hD a hf
        rcases hD with (⟨h15_, h17_, hD⟩ | ⟨h15_, h17_, hD⟩ | ⟨h15_, h17_, hD⟩)
        ·have hS : St w0 w noX [] [pt b24 (Cs #[.func (.func 22) #[] #[], .func (.func 23) #[] #[], .func (.func 24) #[] #[], .func (.func 25) #[] #[], Iv x39.2.2] 48), pt b35 (Cs #[Iv x39.1, Iv x39.2.1] 23), pt b18 (Cs #[Iv x14, Iv x15] 23), pt b19 (Cs #[Iv 0, Iv 0, Iv 0, Iv 0, Iv 0, Iv 0] 25), pt b25 (Cs #[Iv x27, Iv x28, Iv x29, Iv x30, Iv x31, Iv x32] 25)] := hD; clear hD
         replace hf : Fr a 119 [] [(8, Pv b19 0), (9, Iv 0), (14, Pv b24 0), (15, Pv b25 0), (17, Pv b35 0), (18, Iv 0), (87, Iv 0), (88, Bv true), (89, Iv 0)] := hf
         refine O.val hf rfl rfl rfl (RunV.move rfl) ?_; clear hf a; intro a hf
         exact O.nil ⟨rfl, hf.to trivial, (fun d hd => by cases (show some 92 = some d from hd); exact hf.get _ _ rfl), (Or.inl ⟨h15_, h17_, hS⟩)⟩
        ·exact absurd ((hsb 15 (by simp)).symm.trans h15_) (by decide)
        ·exact absurd ((hsb 15 (by simp)).symm.trans h15_) (by decide)
       ·intro s g w hsp hsb hD a hf
        rcases hD with (⟨h15_, h17_, hD⟩ | ⟨h15_, h17_, hD⟩ | ⟨h15_, h17_, hD⟩)
        ·have hS : St w0 w noX [] [pt b24 (Cs #[.func (.func 22) #[] #[], .func (.func 23) #[] #[], .func (.func 24) #[] #[], .func (.func 25) #[] #[], Iv x39.2.2] 48), pt b35 (Cs #[Iv x39.1, Iv x39.2.1] 23), pt b18 (Cs #[Iv x14, Iv x15] 23), pt b19 (Cs #[Iv 0, Iv 0, Iv 0, Iv 0, Iv 0, Iv 0] 25), pt b25 (Cs #[Iv x27, Iv x28, Iv x29, Iv x30, Iv x31, Iv x32] 25)] := hD; clear hD
         replace hf : Fr a 119 [] [(92, Pv b24 0), (8, Pv b19 0), (9, Iv 0), (14, Pv b24 0), (15, Pv b25 0), (17, Pv b35 0), (18, Iv 0), (87, Iv 0), (88, Bv true), (89, Iv 0)] := hf
         refine O.val hf rfl rfl rfl (RunV.nilCheck rfl) ?_; clear hf a; intro a hf
         exact O.nil ⟨rfl, hf.to trivial, (fun d hd => by cases (show some 93 = some d from hd); exact hf.get _ _ rfl), (Or.inl ⟨h15_, h17_, hS⟩)⟩
        ·exact absurd ((hsb 15 (by simp)).symm.trans h15_) (by decide)
        ·exact absurd ((hsb 15 (by simp)).symm.trans h15_) (by decide)
       ·intro s g w hsp hsb hD a hf
        rcases hD with (⟨h15_, h17_, hD⟩ | ⟨h15_, h17_, hD⟩ | ⟨h15_, h17_, hD⟩)
        ·have hS : St w0 w noX [] [pt b24 (Cs #[.func (.func 22) #[] #[], .func (.func 23) #[] #[], .func (.func 24) #[] #[], .func (.func 25) #[] #[], Iv x39.2.2] 48), pt b35 (Cs #[Iv x39.1, Iv x39.2.1] 23), pt b18 (Cs #[Iv x14, Iv x15] 23), pt b19 (Cs #[Iv 0, Iv 0, Iv 0, Iv 0, Iv 0, Iv 0] 25), pt b25 (Cs #[Iv x27, Iv x28, Iv x29, Iv x30, Iv x31, Iv x32] 25)] := hD; clear hD
         replace hf : Fr a 119 [] [(93, Pv b24 0), (8, Pv b19 0), (9, Iv 0), (14, Pv b24 0), (15, Pv b25 0), (17, Pv b35 0), (18, Iv 0), (87, Iv 0), (88, Bv true), (89, Iv 0)] := hf
         refine O.val hf rfl rfl rfl (RunV.field T_field_48_0 rfl rfl) ?_; clear hf a; intro a hf
         exact O.nil ⟨rfl, hf.to trivial, (fun d hd => by cases (show some 94 = some d from hd); exact hf.get _ _ rfl), (Or.inl ⟨h15_, h17_, hS⟩)⟩
        ·exact absurd ((hsb 15 (by simp)).symm.trans h15_) (by decide)
        ·exact absurd ((hsb 15 (by simp)).symm.trans h15_) (by decide)
       ·intro s g w hsp hsb hD a hf
        rcases hD with (⟨h15_, h17_, hD⟩ | ⟨h15_, h17_, hD⟩ | ⟨h15_, h17_, hD⟩)
        ·have hS : St w0 w noX [] [pt b24 (Cs #[.func (.func 22) #[] #[], .func (.func 23) #[] #[], .func (.func 24) #[] #[], .func (.func 25) #[] #[], Iv x39.2.2] 48), pt b35 (Cs #[Iv x39.1, Iv x39.2.1] 23), pt b18 (Cs #[Iv x14, Iv x15] 23), pt b19 (Cs #[Iv 0, Iv 0, Iv 0, Iv 0, Iv 0, Iv 0] 25), pt b25 (Cs #[Iv x27, Iv x28, Iv x29, Iv x30, Iv x31, Iv x32] 25)] := hD; clear hD
         replace hf : Fr a 119 [] [(94, Pv b24 0), (8, Pv b19 0), (9, Iv 0), (14, Pv b24 0), (15, Pv b25 0), (17, Pv b35 0), (18, Iv 0), (87, Iv 0), (88, Bv true), (89, Iv 0)] := hf
         refine O.val hf rfl rfl rfl (RunV.load1 T_agg_46 rfl (hS.ptAt (i := 0) rfl) rfl) ?_; clear hf a; intro a hf
         exact O.nil ⟨rfl, hf.to trivial, (fun d hd => by cases (show some 95 = some d from hd); exact hf.get _ _ rfl), (Or.inl ⟨h15_, h17_, hS⟩)⟩
        ·exact absurd ((hsb 15 (by simp)).symm.trans h15_) (by decide)
        ·exact absurd ((hsb 15 (by simp)).symm.trans h15_) (by decide)
       ·intro s g w hsp hsb hD a hf
        rcases hD with (⟨h15_, h17_, hD⟩ | ⟨h15_, h17_, hD⟩ | ⟨h15_, h17_, hD⟩)
        ·have hS : St w0 w noX [] [pt b24 (Cs #[.func (.func 22) #[] #[], .func (.func 23) #[] #[], .func (.func 24) #[] #[], .func (.func 25) #[] #[], Iv x39.2.2] 48), pt b35 (Cs #[Iv x39.1, Iv x39.2.1] 23), pt b18 (Cs #[Iv x14, Iv x15] 23), pt b19 (Cs #[Iv 0, Iv 0, Iv 0, Iv 0, Iv 0, Iv 0] 25), pt b25 (Cs #[Iv x27, Iv x28, Iv x29, Iv x30, Iv x31, Iv x32] 25)] := hD; clear hD
         replace hf : Fr a 119 [] [(8, Pv b19 0), (9, Iv 0), (14, Pv b24 0), (15, Pv b25 0), (17, Pv b35 0), (18, Iv 0), (87, Iv 0), (88, Bv true), (89, Iv 0)] := hf
         refine O.val hf rfl rfl rfl (RunV.move rfl) ?_; clear hf a; intro a hf
         exact O.nil ⟨rfl, hf.to trivial, (fun d hd => by cases (show some 96 = some d from hd); exact hf.get _ _ rfl), (Or.inl ⟨h15_, h17_, hS⟩)⟩
        ·exact absurd ((hsb 15 (by simp)).symm.trans h15_) (by decide)
        ·exact absurd ((hsb 15 (by simp)).symm.trans h15_) (by decide)
       ·intro s g w hsp hsb hD a hf
        rcases hD with (⟨h15_, h17_, hD⟩ | ⟨h15_, h17_, hD⟩ | ⟨h15_, h17_, hD⟩)
        ·have hS : St w0 w noX [] [pt b24 (Cs #[.func (.func 22) #[] #[], .func (.func 23) #[] #[], .func (.func 24) #[] #[], .func (.func 25) #[] #[], Iv x39.2.2] 48), pt b35 (Cs #[Iv x39.1, Iv x39.2.1] 23), pt b18 (Cs #[Iv x14, Iv x15] 23), pt b19 (Cs #[Iv 0, Iv 0, Iv 0, Iv 0, Iv 0, Iv 0] 25), pt b25 (Cs #[Iv x27, Iv x28, Iv x29, Iv x30, Iv x31, Iv x32] 25)] := hD; clear hD
         replace hf : Fr a 119 [] [(96, Iv 0), (8, Pv b19 0), (9, Iv 0), (14, Pv b24 0), (15, Pv b25 0), (17, Pv b35 0), (18, Iv 0), (87, Iv 0), (88, Bv true), (89, Iv 0)] := hf
         refine O.val hf rfl rfl rfl (RunV.indexArr (j := 0) (m := 0) T_arr_25 T_size_23 rfl rfl rfl (by decide) rfl) ?_; clear hf a; intro a hf
         exact O.nil ⟨rfl, hf.to trivial, (fun d hd => by cases (show some 97 = some d from hd); exact hf.get _ _ rfl), (Or.inl ⟨h15_, h17_, hS⟩)⟩
        ·exact absurd ((hsb 15 (by simp)).symm.trans h15_) (by decide)
        ·exact absurd ((hsb 15 (by simp)).symm.trans h15_) (by decide)
       ·intro s g w hsp hsb hD a hf
        rcases hD with (⟨h15_, h17_, hD⟩ | ⟨h15_, h17_, hD⟩ | ⟨h15_, h17_, hD⟩)
        ·have hS : St w0 w noX [] [pt b24 (Cs #[.func (.func 22) #[] #[], .func (.func 23) #[] #[], .func (.func 24) #[] #[], .func (.func 25) #[] #[], Iv x39.2.2] 48), pt b35 (Cs #[Iv x39.1, Iv x39.2.1] 23), pt b18 (Cs #[Iv x14, Iv x15] 23), pt b19 (Cs #[Iv 0, Iv 0, Iv 0, Iv 0, Iv 0, Iv 0] 25), pt b25 (Cs #[Iv x27, Iv x28, Iv x29, Iv x30, Iv x31, Iv x32] 25)] := hD; clear hD
         replace hf : Fr a 119 [] [(97, Pv b25 0), (8, Pv b19 0), (9, Iv 0), (14, Pv b24 0), (15, Pv b25 0), (17, Pv b35 0), (18, Iv 0), (87, Iv 0), (88, Bv true), (89, Iv 0)] := hf
         refine O.val hf rfl rfl rfl (RunV.loadN (cs' := #[Iv x27, Iv x28]) T_agg_23 T_size_23 rfl (hS.ptAt (i := 4) rfl) (Nat.le_of_ble_eq_true rfl) rfl) ?_; clear hf a; intro a hf
         exact O.nil ⟨rfl, hf.to trivial, (fun d hd => by cases (show some 98 = some d from hd); exact hf.get _ _ rfl), (Or.inl ⟨h15_, h17_, hS⟩)⟩
        ·exact absurd ((hsb 15 (by simp)).symm.trans h15_) (by decide)
        ·exact absurd ((hsb 15 (by simp)).symm.trans h15_) (by decide)
       ·intro s g w hsp hsb hD a hf
        rcases hD with (⟨h15_, h17_, hD⟩ | ⟨h15_, h17_, hD⟩ | ⟨h15_, h17_, hD⟩)
        ·have hS : St w0 w noX [] [pt b24 (Cs #[.func (.func 22) #[] #[], .func (.func 23) #[] #[], .func (.func 24) #[] #[], .func (.func 25) #[] #[], Iv x39.2.2] 48), pt b35 (Cs #[Iv x39.1, Iv x39.2.1] 23), pt b18 (Cs #[Iv x14, Iv x15] 23), pt b19 (Cs #[Iv 0, Iv 0, Iv 0, Iv 0, Iv 0, Iv 0] 25), pt b25 (Cs #[Iv x27, Iv x28, Iv x29, Iv x30, Iv x31, Iv x32] 25)] := hD; clear hD
         replace hf : Fr a 119 [] [(8, Pv b19 0), (9, Iv 0), (14, Pv b24 0), (15, Pv b25 0), (17, Pv b35 0), (18, Iv 0), (87, Iv 0), (88, Bv true), (89, Iv 0)] := hf
         refine O.val hf rfl rfl rfl (RunV.field T_field_23_1 rfl rfl) ?_; clear hf a; intro a hf
         exact O.nil ⟨rfl, hf.to trivial, (fun d hd => by cases (show some 99 = some d from hd); exact hf.get _ _ rfl), (Or.inl ⟨h15_, h17_, hS⟩)⟩
        ·exact absurd ((hsb 15 (by simp)).symm.trans h15_) (by decide)
        ·exact absurd ((hsb 15 (by simp)).symm.trans h15_) (by decide)
       ·intro s g w hsp hsb hD a hf
        rcases hD with (⟨h15_, h17_, hD⟩ | ⟨h15_, h17_, hD⟩ | ⟨h15_, h17_, hD⟩)
        ·have hS : St w0 w noX [] [pt b24 (Cs #[.func (.func 22) #[] #[], .func (.func 23) #[] #[], .func (.func 24) #[] #[], .func (.func 25) #[] #[], Iv x39.2.2] 48), pt b35 (Cs #[Iv x39.1, Iv x39.2.1] 23), pt b18 (Cs #[Iv x14, Iv x15] 23), pt b19 (Cs #[Iv 0, Iv 0, Iv 0, Iv 0, Iv 0, Iv 0] 25), pt b25 (Cs #[Iv x27, Iv x28, Iv x29, Iv x30, Iv x31, Iv x32] 25)] := hD; clear hD
         replace hf : Fr a 119 [] [(99, Pv b35 1), (8, Pv b19 0), (9, Iv 0), (14, Pv b24 0), (15, Pv b25 0), (17, Pv b35 0), (18, Iv 0), (87, Iv 0), (88, Bv true), (89, Iv 0)] := hf
         refine O.val hf rfl rfl rfl (RunV.load1 T_agg_2 rfl (hS.ptAt (i := 1) rfl) rfl) ?_; clear hf a; intro a hf
         exact O.nil ⟨rfl, hf.to trivial, (fun d hd => by cases (show some 100 = some d from hd); exact hf.get _ _ rfl), (Or.inl ⟨h15_, h17_, hS⟩)⟩
        ·exact absurd ((hsb 15 (by simp)).symm.trans h15_) (by decide)
        ·exact absurd ((hsb 15 (by simp)).symm.trans h15_) (by decide)
       ·intro s g w hsp hsb hD a hf
        rcases hD with (⟨h15_, h17_, hD⟩ | ⟨h15_, h17_, hD⟩ | ⟨h15_, h17_, hD⟩)
        ·have hS : St w0 w noX [] [pt b24 (Cs #[.func (.func 22) #[] #[], .func (.func 23) #[] #[], .func (.func 24) #[] #[], .func (.func 25) #[] #[], Iv x39.2.2] 48), pt b35 (Cs #[Iv x39.1, Iv x39.2.1] 23), pt b18 (Cs #[Iv x14, Iv x15] 23), pt b19 (Cs #[Iv 0, Iv 0, Iv 0, Iv 0, Iv 0, Iv 0] 25), pt b25 (Cs #[Iv x27, Iv x28, Iv x29, Iv x30, Iv x31, Iv x32] 25)] := hD; clear hD
         replace hf : Fr a 119 [] [(100, Iv x39.2.1), (8, Pv b19 0), (9, Iv 0), (14, Pv b24 0), (15, Pv b25 0), (17, Pv b35 0), (18, Iv 0), (87, Iv 0), (88, Bv true), (89, Iv 0)] := hf
         refine O.val (v := Iv (IntKind.i64.wrap (0 - x39.2.1))) hf rfl rfl rfl (RunV.neg rfl) ?_; clear hf a; intro a hf
         exact O.nil ⟨rfl, hf.to trivial, (fun d hd => by cases (show some 101 = some d from hd); exact hf.get _ _ rfl), (Or.inl ⟨h15_, h17_, hS⟩)⟩
        ·exact absurd ((hsb 15 (by simp)).symm.trans h15_) (by decide)
        ·exact absurd ((hsb 15 (by simp)).symm.trans h15_) (by decide)
       ·intro s g w hsp hsb hD a hf
        rcases hD with (⟨h15_, h17_, hD⟩ | ⟨h15_, h17_, hD⟩ | ⟨h15_, h17_, hD⟩)
        ·have hS : St w0 w noX [] [pt b24 (Cs #[.func (.func 22) #[] #[], .func (.func 23) #[] #[], .func (.func 24) #[] #[], .func (.func 25) #[] #[], Iv x39.2.2] 48), pt b35 (Cs #[Iv x39.1, Iv x39.2.1] 23), pt b18 (Cs #[Iv x14, Iv x15] 23), pt b19 (Cs #[Iv 0, Iv 0, Iv 0, Iv 0, Iv 0, Iv 0] 25), pt b25 (Cs #[Iv x27, Iv x28, Iv x29, Iv x30, Iv x31, Iv x32] 25)] := hD; clear hD
         replace hf : Fr a 119 [] [(8, Pv b19 0), (9, Iv 0), (14, Pv b24 0), (15, Pv b25 0), (17, Pv b35 0), (18, Iv 0), (87, Iv 0), (88, Bv true), (89, Iv 0)] := hf
         refine O.val hf rfl rfl rfl (RunV.field T_field_23_1 rfl rfl) ?_; clear hf a; intro a hf
         exact O.nil ⟨rfl, hf.to trivial, (fun d hd => by cases (show some 102 = some d from hd); exact hf.get _ _ rfl), (Or.inl ⟨h15_, h17_, hS⟩)⟩
        ·exact absurd ((hsb 15 (by simp)).symm.trans h15_) (by decide)
        ·exact absurd ((hsb 15 (by simp)).symm.trans h15_) (by decide)
       ·intro s g w hsp hsb hD a hf
        rcases hD with (⟨h15_, h17_, hD⟩ | ⟨h15_, h17_, hD⟩ | ⟨h15_, h17_, hD⟩)
        ·have hS : St w0 w noX [] [pt b24 (Cs #[.func (.func 22) #[] #[], .func (.func 23) #[] #[], .func (.func 24) #[] #[], .func (.func 25) #[] #[], Iv x39.2.2] 48), pt b35 (Cs #[Iv x39.1, Iv x39.2.1] 23), pt b18 (Cs #[Iv x14, Iv x15] 23), pt b19 (Cs #[Iv 0, Iv 0, Iv 0, Iv 0, Iv 0, Iv 0] 25), pt b25 (Cs #[Iv x27, Iv x28, Iv x29, Iv x30, Iv x31, Iv x32] 25)] := hD; clear hD
         replace hf : Fr a 119 [] [(102, Pv b35 1), (8, Pv b19 0), (9, Iv 0), (14, Pv b24 0), (15, Pv b25 0), (17, Pv b35 0), (18, Iv 0), (87, Iv 0), (88, Bv true), (89, Iv 0)] := hf
         refine O.val hf rfl rfl rfl (RunV.load1 T_agg_2 rfl (hS.ptAt (i := 1) rfl) rfl) ?_; clear hf a; intro a hf
         exact O.nil ⟨rfl, hf.to trivial, (fun d hd => by cases (show some 103 = some d from hd); exact hf.get _ _ rfl), (Or.inl ⟨h15_, h17_, hS⟩)⟩
        ·exact absurd ((hsb 15 (by simp)).symm.trans h15_) (by decide)
        ·exact absurd ((hsb 15 (by simp)).symm.trans h15_) (by decide)
       ·intro s g w hsp hsb hD a hf
        rcases hD with (⟨h15_, h17_, hD⟩ | ⟨h15_, h17_, hD⟩ | ⟨h15_, h17_, hD⟩)
        ·have hS : St w0 w noX [] [pt b24 (Cs #[.func (.func 22) #[] #[], .func (.func 23) #[] #[], .func (.func 24) #[] #[], .func (.func 25) #[] #[], Iv x39.2.2] 48), pt b35 (Cs #[Iv x39.1, Iv x39.2.1] 23), pt b18 (Cs #[Iv x14, Iv x15] 23), pt b19 (Cs #[Iv 0, Iv 0, Iv 0, Iv 0, Iv 0, Iv 0] 25), pt b25 (Cs #[Iv x27, Iv x28, Iv x29, Iv x30, Iv x31, Iv x32] 25)] := hD; clear hD
         replace hf : Fr a 119 [] [(101, Iv (IntKind.i64.wrap (0 - x39.2.1))), (103, Iv x39.2.1), (8, Pv b19 0), (9, Iv 0), (14, Pv b24 0), (15, Pv b25 0), (17, Pv b35 0), (18, Iv 0), (87, Iv 0), (88, Bv true), (89, Iv 0)] := hf
         refine O.val (v := .agg #[Iv (IntKind.i64.wrap (0 - x39.2.1)), Iv x39.2.1]) hf rfl rfl rfl (RunV.buildS (cs' := #[Iv (IntKind.i64.wrap (0 - x39.2.1)), Iv x39.2.1]) T_places_23 T_zero_23 rfl (by kernel_rfl)) ?_; clear hf a; intro a hf
         exact O.nil ⟨rfl, hf.to trivial, (fun d hd => by cases (show some 104 = some d from hd); exact hf.get _ _ rfl), (Or.inl ⟨h15_, h17_, hS⟩)⟩
        ·exact absurd ((hsb 15 (by simp)).symm.trans h15_) (by decide)
        ·exact absurd ((hsb 15 (by simp)).symm.trans h15_) (by decide)
       ·intro s g w hsp hsb hD a hf
        rcases hD with (⟨h15_, h17_, hD⟩ | ⟨h15_, h17_, hD⟩ | ⟨h15_, h17_, hD⟩)
        ·exact absurd ((hsp 15 (by simp)).symm.trans h15_) (by decide)
        ·have hS : St w0 w noX [] [pt b24 (Cs #[.func (.func 22) #[] #[], .func (.func 23) #[] #[], .func (.func 24) #[] #[], .func (.func 25) #[] #[], Iv x48.2.2] 48), pt b35 (Cs #[Iv x39.1, Iv x39.2.1] 23), pt b18 (Cs #[Iv x14, Iv x15] 23), pt b19 (Cs #[Iv 0, Iv 0, Iv 0, Iv 0, Iv 0, Iv 0] 25), pt b25 (Cs #[Iv x27, Iv x28, Iv x29, Iv x30, Iv x31, Iv x32] 25)] := hD; clear hD
         replace hf : Fr a 119 [] [(90, Iv 0), (91, Pv b24 0), (92, Pv b24 0), (93, Pv b24 0), (94, Pv b24 0), (95, .func (.func 22) #[] #[]), (96, Iv 0), (97, Pv b25 0), (98, .agg #[Iv x27, Iv x28]), (99, Pv b35 1), (100, Iv x39.2.1), (101, Iv (IntKind.i64.wrap (0 - x39.2.1))), (102, Pv b35 1), (103, Iv x39.2.1), (104, .agg #[Iv (IntKind.i64.wrap (0 - x39.2.1)), Iv x39.2.1]), (105, .agg #[Iv x48.1, Iv x48.2.1]), (8, Pv b19 0), (9, Iv 0), (14, Pv b24 0), (15, Pv b25 0), (17, Pv b35 0), (18, Iv 0), (87, Iv 0), (88, Bv true), (89, Iv 0)] := hf
         refine O.val hf rfl rfl rfl (RunV.indexArr (j := 0) (m := 0) T_arr_25 T_size_23 rfl rfl rfl (by decide) rfl) ?_; clear hf a; intro a hf
         exact O.nil ⟨rfl, hf.to trivial, (fun d hd => by cases (show some 106 = some d from hd); exact hf.get _ _ rfl), (Or.inr (Or.inl ⟨h15_, h17_, hS⟩))⟩
        ·exact absurd ((hsb 17 (by simp)).symm.trans h17_) (by decide)
      ·clear hf hf1 hS
       refine ⟨?_, ?_, trivial⟩
       ·intro s g w hs0 hsp hsb hD a hf
        rcases hD with (⟨h15_, h17_, hD⟩ | ⟨h15_, h17_, hD⟩ | ⟨h15_, h17_, hD⟩)
        ·have hS : St w0 w noX [] [pt b24 (Cs #[.func (.func 22) #[] #[], .func (.func 23) #[] #[], .func (.func 24) #[] #[], .func (.func 25) #[] #[], Iv x39.2.2] 48), pt b35 (Cs #[Iv x39.1, Iv x39.2.1] 23), pt b18 (Cs #[Iv x14, Iv x15] 23), pt b19 (Cs #[Iv 0, Iv 0, Iv 0, Iv 0, Iv 0, Iv 0] 25), pt b25 (Cs #[Iv x27, Iv x28, Iv x29, Iv x30, Iv x31, Iv x32] 25)] := hD; clear hD
         replace hf : Fr a 119 [] [(91, Pv b24 0), (95, .func (.func 22) #[] #[]), (98, .agg #[Iv x27, Iv x28]), (104, .agg #[Iv (IntKind.i64.wrap (0 - x39.2.1)), Iv x39.2.1]), (8, Pv b19 0), (9, Iv 0), (14, Pv b24 0), (15, Pv b25 0), (17, Pv b35 0), (18, Iv 0), (87, Iv 0), (88, Bv true), (89, Iv 0)] := hf
         refine O.callR hf rfl rfl rfl (RunE.call (av := #[Pv b24 0, .func (.func 22) #[] #[], .agg #[Iv x27, Iv x28], .agg #[Iv (IntKind.i64.wrap (0 - x39.2.1)), Iv x39.2.1]]) C_ok_13 rfl rfl rfl) (m_cells_sheet_do_ok F b24 x39.2.2 x27 x28 (IntKind.i64.wrap (0 - x39.2.1)) x39.2.1 _ (hS.ptAt (i := 0) rfl) x48 hx48) ?_
         clear hf a; rintro _ w hS1 a hf
         replace hf : Fr a _ _ ((105, .agg #[Iv x48.1, Iv x48.2.1]) :: _) := hf
         replace hS := (hS.callX1 hS1 (i := 0) rfl (fun _ h => h)).eqM (N := [pt b24 (Cs #[.func (.func 22) #[] #[], .func (.func 23) #[] #[], .func (.func 24) #[] #[], .func (.func 25) #[] #[], Iv x48.2.2] 48), pt b35 (Cs #[Iv x39.1, Iv x39.2.1] 23), pt b18 (Cs #[Iv x14, Iv x15] 23), pt b19 (Cs #[Iv 0, Iv 0, Iv 0, Iv 0, Iv 0, Iv 0] 25), pt b25 (Cs #[Iv x27, Iv x28, Iv x29, Iv x30, Iv x31, Iv x32] 25)]) rfl
         clear hS1
         exact O.nil ⟨rfl, (), hf.to trivial, (fun d hd => by cases (show some 105 = some d from hd); exact hf.get _ _ rfl), (fun j hj hk => match j, hj, hk with | 0, hj, hk => rfl | 1, hj, hk => rfl | 2, hj, hk => rfl | 3, hj, hk => rfl | 4, hj, hk => rfl | 5, hj, hk => rfl | 6, hj, hk => rfl | 7, hj, hk => rfl | 8, hj, hk => rfl | 9, hj, hk => rfl | 10, hj, hk => rfl | 11, hj, hk => rfl | 12, hj, hk => rfl | 13, hj, hk => rfl | 14, hj, hk => rfl | 15, hj, hk => absurd rfl hj | 16, hj, hk => absurd hk (by decide) | 17, hj, hk => absurd hk (by decide) | _ + 18, _, _ => rfl), (Or.inr (Or.inl ⟨rfl, h17_, hS⟩))⟩
        ·exact absurd (hs0.symm.trans h15_) (by decide)
        ·exact absurd (hs0.symm.trans h15_) (by decide)
       ·intro s g w hs0 hsp hsb hD a hf
        rcases hD with (⟨h15_, h17_, hD⟩ | ⟨h15_, h17_, hD⟩ | ⟨h15_, h17_, hD⟩)
        ·exact absurd ((hsp 15 (by simp)).symm.trans h15_) (by decide)
        ·have hS : St w0 w noX [] [pt b24 (Cs #[.func (.func 22) #[] #[], .func (.func 23) #[] #[], .func (.func 24) #[] #[], .func (.func 25) #[] #[], Iv x48.2.2] 48), pt b35 (Cs #[Iv x39.1, Iv x39.2.1] 23), pt b18 (Cs #[Iv x14, Iv x15] 23), pt b19 (Cs #[Iv 0, Iv 0, Iv 0, Iv 0, Iv 0, Iv 0] 25), pt b25 (Cs #[Iv x27, Iv x28, Iv x29, Iv x30, Iv x31, Iv x32] 25)] := hD; clear hD
         replace hf : Fr a 119 [] [(90, Iv 0), (91, Pv b24 0), (92, Pv b24 0), (93, Pv b24 0), (94, Pv b24 0), (95, .func (.func 22) #[] #[]), (96, Iv 0), (97, Pv b25 0), (98, .agg #[Iv x27, Iv x28]), (99, Pv b35 1), (100, Iv x39.2.1), (101, Iv (IntKind.i64.wrap (0 - x39.2.1))), (102, Pv b35 1), (103, Iv x39.2.1), (104, .agg #[Iv (IntKind.i64.wrap (0 - x39.2.1)), Iv x39.2.1]), (105, .agg #[Iv x48.1, Iv x48.2.1]), (106, Pv b25 0), (8, Pv b19 0), (9, Iv 0), (14, Pv b24 0), (15, Pv b25 0), (17, Pv b35 0), (18, Iv 0), (87, Iv 0), (88, Bv true), (89, Iv 0)] := hf
         refine O.store (j := 4) (cs' := #[Iv x48.1, Iv x48.2.1, Iv x29, Iv x30, Iv x31, Iv x32]) (M' := [pt b24 (Cs #[.func (.func 22) #[] #[], .func (.func 23) #[] #[], .func (.func 24) #[] #[], .func (.func 25) #[] #[], Iv x48.2.2] 48), pt b35 (Cs #[Iv x39.1, Iv x39.2.1] 23), pt b18 (Cs #[Iv x14, Iv x15] 23), pt b19 (Cs #[Iv 0, Iv 0, Iv 0, Iv 0, Iv 0, Iv 0] 25), pt b25 (Cs #[Iv x48.1, Iv x48.2.1, Iv x29, Iv x30, Iv x31, Iv x32] 25)]) hf hS rfl rfl rfl T_size_23 rfl rfl rfl (Nat.le_of_ble_eq_true rfl) rfl rfl ?_
         clear hS; intro w hS
         exact O.nil ⟨rfl, (), hf.to trivial, (fun d hd => by cases (show none = some d from hd)), (fun j hj hk => match j, hj, hk with | 0, hj, hk => rfl | 1, hj, hk => rfl | 2, hj, hk => rfl | 3, hj, hk => rfl | 4, hj, hk => rfl | 5, hj, hk => rfl | 6, hj, hk => rfl | 7, hj, hk => rfl | 8, hj, hk => rfl | 9, hj, hk => rfl | 10, hj, hk => rfl | 11, hj, hk => rfl | 12, hj, hk => rfl | 13, hj, hk => rfl | 14, hj, hk => rfl | 15, hj, hk => rfl | 16, hj, hk => rfl | 17, hj, hk => absurd rfl hj | _ + 18, _, _ => rfl), (Or.inr (Or.inr ⟨h15_, rfl, hS⟩))⟩
        ·exact absurd (hs0.symm.trans h17_) (by decide)
      clear hf hf1 hS; intro s g a w hs hf hD
      rcases hD with (⟨h15_, h17_, hD⟩ | ⟨h15_, h17_, hD⟩ | ⟨h15_, h17_, hD⟩)
      · exact absurd ((hs 15 (by simp)).symm.trans h15_) (by decide)
      · exact absurd ((hs 17 (by simp)).symm.trans h17_) (by decide)
      have hS : St w0 w noX [] [pt b24 (Cs #[.func (.func 22) #[] #[], .func (.func 23) #[] #[], .func (.func 24) #[] #[], .func (.func 25) #[] #[], Iv x48.2.2] 48), pt b35 (Cs #[Iv x39.1, Iv x39.2.1] 23), pt b18 (Cs #[Iv x14, Iv x15] 23), pt b19 (Cs #[Iv 0, Iv 0, Iv 0, Iv 0, Iv 0, Iv 0] 25), pt b25 (Cs #[Iv x48.1, Iv x48.2.1, Iv x29, Iv x30, Iv x31, Iv x32] 25)] := hD; clear hD
      replace hf : Fr a 119 [] [(90, Iv 0), (91, Pv b24 0), (92, Pv b24 0), (93, Pv b24 0), (94, Pv b24 0), (95, .func (.func 22) #[] #[]), (96, Iv 0), (97, Pv b25 0), (98, .agg #[Iv x27, Iv x28]), (99, Pv b35 1), (100, Iv x39.2.1), (101, Iv (IntKind.i64.wrap (0 - x39.2.1))), (102, Pv b35 1), (103, Iv x39.2.1), (104, .agg #[Iv (IntKind.i64.wrap (0 - x39.2.1)), Iv x39.2.1]), (105, .agg #[Iv x48.1, Iv x48.2.1]), (106, Pv b25 0), (8, Pv b19 0), (9, Iv 0), (14, Pv b24 0), (15, Pv b25 0), (17, Pv b35 0), (18, Iv 0), (87, Iv 0), (88, Bv true), (89, Iv 0)] := hf
      refine k_blk_normal ?_
      refine k_seq ?_
      obtain ⟨x49, hx49, hm⟩ := hm_b hm
      rw [Option.some.inj hx49] at hf
      -- region 27
      refine W.regionL (l := [0, 1]) rfl ?_
      refine O.val (v := Iv 1) hf rfl rfl rfl (RunV.add (p := 0) (q := 1) rfl rfl) ?_; clear hf a; intro a hf
      refine O.val hf rfl rfl rfl (RunV.move rfl) ?_; clear hf a; intro a hf
      refine O.nil ?_
      refine k_then (LH.step ?_)
      refine W.seq ?_
      -- region 24
      refine W.regionL (l := [0]) rfl ?_
      refine O.val (v := Bv true) hf rfl rfl rfl (RunV.lss (p := 1) (q := 3) rfl rfl) ?_; clear hf a; intro a hf
      refine O.nil ?_
      refine k_seq ?_
      refine W.seq ?_
      refine W.if_tt hf rfl ?_
      refine W.skip ?_
      refine k_seq ?_
      refine W.seq ?_
      refine W.block ?_
      refine W.seq ?_
      -- region 25
      refine W.regionL (l := [0, 1]) rfl ?_
      refine O.val hf rfl rfl rfl (RunV.move rfl) ?_; clear hf a; intro a hf
      refine O.val hf rfl rfl rfl (RunV.assign rfl) ?_; clear hf a; intro a hf
      refine O.nil ?_
      refine k_seq ?_
      -- region 26, which draws its order
      -- [15, 17] turn memory
      have hf1 : Fr a 119 [] [(90, Iv 0), (91, Pv b24 0), (92, Pv b24 0), (93, Pv b24 0), (94, Pv b24 0), (95, .func (.func 22) #[] #[]), (96, Iv 0), (97, Pv b25 0), (98, .agg #[Iv x27, Iv x28]), (99, Pv b35 1), (100, Iv x39.2.1), (101, Iv x49), (102, Pv b35 1), (103, Iv x39.2.1), (104, .agg #[Iv x49, Iv x39.2.1]), (105, .agg #[Iv x48.1, Iv x48.2.1]), (106, Pv b25 0)] := hf.to ⟨rfl, rfl, rfl, rfl, rfl, rfl, rfl, rfl, rfl, rfl, rfl, rfl, rfl, rfl, rfl, rfl, rfl, trivial⟩
      replace hf : Fr a 119 [] [(8, Pv b19 0), (9, Iv 0), (14, Pv b24 0), (15, Pv b25 0), (17, Pv b35 0), (18, Iv 1), (87, Iv 1), (88, Bv true), (89, Iv 1), (107, Iv 1)] := hf.to ⟨rfl, rfl, rfl, rfl, rfl, rfl, rfl, rfl, rfl, rfl, trivial⟩
      obtain ⟨x50, hx50, hm⟩ := hm_b hm
      refine W.drawP (γ := Unit) (L0 := [(8, Pv b19 0), (9, Iv 0), (14, Pv b24 0), (15, Pv b25 0), (17, Pv b35 0), (18, Iv 1), (87, Iv 1), (88, Bv true), (89, Iv 1), (107, Iv 1)]) (L1 := [(90, Iv 0), (91, Pv b24 0), (92, Pv b24 0), (93, Pv b24 0), (94, Pv b24 0), (95, .func (.func 22) #[] #[]), (96, Iv 0), (97, Pv b25 0), (98, .agg #[Iv x27, Iv x28]), (99, Pv b35 1), (100, Iv x39.2.1), (101, Iv x49), (102, Pv b35 1), (103, Iv x39.2.1), (104, .agg #[Iv x49, Iv x39.2.1]), (105, .agg #[Iv x48.1, Iv x48.2.1]), (106, Pv b25 0)]) () [15, 17] [0, 1, 2, 3, 4, 5, 6, 7, 8, 9, 10, 11, 12, 13, 14, 16] (fun i => match i with | 0 => [] | 1 => [] | 2 => [] | 3 => [2] | 4 => [3] | 5 => [4] | 6 => [] | 7 => [6] | 8 => [7] | 9 => [] | 10 => [9] | 11 => [10] | 12 => [] | 13 => [12] | 14 => [11, 13] | 15 => [1, 5, 8, 14] | 16 => [0, 1, 2, 3, 4, 5, 6, 7, 8, 9, 10, 11, 12, 13, 14, 15] | 17 => [0, 1, 2, 3, 4, 5, 6, 7, 8, 9, 10, 11, 12, 13, 14, 15, 16] | _ => []) (fun i => match i with | 16 => [15] | 17 => [15] | _ => []) (fun i => match i with | 0 => [17] | 1 => [15, 17] | 2 => [15, 17] | 3 => [15, 17] | 4 => [15, 17] | 5 => [15, 17] | 6 => [15, 17] | 7 => [15, 17] | 8 => [15, 17] | 9 => [15, 17] | 10 => [15, 17] | 11 => [15, 17] | 12 => [15, 17] | 13 => [15, 17] | 14 => [15, 17] | 15 => [17] | 16 => [17] | _ => []) (fun i => match i with | 15 => [16, 17] | 17 => [] | _ => []) (fun _ => []) (fun (g : Unit) j => match g, j with | _, 0 => Iv 1 | _, 1 => Pv b24 0 | _, 2 => Pv b24 0 | _, 3 => Pv b24 0 | _, 4 => Pv b24 0 | _, 5 => .func (.func 22) #[] #[] | _, 6 => Iv 1 | _, 7 => Pv b25 2 | _, 8 => .agg #[Iv x29, Iv x30] | _, 9 => Pv b35 1 | _, 10 => Iv x39.2.1 | _, 11 => Iv (IntKind.i64.wrap (0 - x39.2.1)) | _, 12 => Pv b35 1 | _, 13 => Iv x39.2.1 | _, 14 => .agg #[Iv (IntKind.i64.wrap (0 - x39.2.1)), Iv x39.2.1] | _, 15 => .agg #[Iv x50.1, Iv x50.2.1] | _, 16 => Pv b25 2 | _, _ => undef) (fun s (g : Unit) w => match g with | _ => (s 15 = false ∧ s 17 = false ∧ St w0 w noX [] [pt b24 (Cs #[.func (.func 22) #[] #[], .func (.func 23) #[] #[], .func (.func 24) #[] #[], .func (.func 25) #[] #[], Iv x48.2.2] 48), pt b35 (Cs #[Iv x39.1, Iv x39.2.1] 23), pt b18 (Cs #[Iv x14, Iv x15] 23), pt b19 (Cs #[Iv 0, Iv 0, Iv 0, Iv 0, Iv 0, Iv 0] 25), pt b25 (Cs #[Iv x48.1, Iv x48.2.1, Iv x29, Iv x30, Iv x31, Iv x32] 25)]) ∨ (s 15 = true ∧ s 17 = false ∧ St w0 w noX [] [pt b24 (Cs #[.func (.func 22) #[] #[], .func (.func 23) #[] #[], .func (.func 24) #[] #[], .func (.func 25) #[] #[], Iv x50.2.2] 48), pt b35 (Cs #[Iv x39.1, Iv x39.2.1] 23), pt b18 (Cs #[Iv x14, Iv x15] 23), pt b19 (Cs #[Iv 0, Iv 0, Iv 0, Iv 0, Iv 0, Iv 0] 25), pt b25 (Cs #[Iv x48.1, Iv x48.2.1, Iv x29, Iv x30, Iv x31, Iv x32] 25)]) ∨ (s 15 = true ∧ s 17 = true ∧ St w0 w noX [] [pt b24 (Cs #[.func (.func 22) #[] #[], .func (.func 23) #[] #[], .func (.func 24) #[] #[], .func (.func 25) #[] #[], Iv x50.2.2] 48), pt b35 (Cs #[Iv x39.1, Iv x39.2.1] 23), pt b18 (Cs #[Iv x14, Iv x15] 23), pt b19 (Cs #[Iv 0, Iv 0, Iv 0, Iv 0, Iv 0, Iv 0] 25), pt b25 (Cs #[Iv x48.1, Iv x48.2.1, Iv x50.1, Iv x50.2.1, Iv x31, Iv x32] 25)])) P_mixed (by kernel_rfl) hf hf1 (Or.inl ⟨rfl, rfl, hS.drew⟩) ?_ ?_ ?_
      ·clear hf hf1 hS
       refine ⟨?_, ?_, ?_, ?_, ?_, ?_, ?_, ?_, ?_, ?_, ?_, ?_, ?_, ?_, ?_, ?_, trivial⟩
       ·intro s g w hsp hsb hD a hf
        rcases hD with (⟨h15_, h17_, hD⟩ | ⟨h15_, h17_, hD⟩ | ⟨h15_, h17_, hD⟩)
        ·have hS : St w0 w noX [] [pt b24 (Cs #[.func (.func 22) #[] #[], .func (.func 23) #[] #[], .func (.func 24) #[] #[], .func (.func 25) #[] #[], Iv x48.2.2] 48), pt b35 (Cs #[Iv x39.1, Iv x39.2.1] 23), pt b18 (Cs #[Iv x14, Iv x15] 23), pt b19 (Cs #[Iv 0, Iv 0, Iv 0, Iv 0, Iv 0, Iv 0] 25), pt b25 (Cs #[Iv x48.1, Iv x48.2.1, Iv x29, Iv x30, Iv x31, Iv x32] 25)] := hD; clear hD
         replace hf : Fr a 119 [] [(8, Pv b19 0), (9, Iv 0), (14, Pv b24 0), (15, Pv b25 0), (17, Pv b35 0), (18, Iv 1), (87, Iv 1), (88, Bv true), (89, Iv 1), (107, Iv 1)] := hf
         refine O.val hf rfl rfl rfl (RunV.move rfl) ?_; clear hf a; intro a hf
         exact O.nil ⟨rfl, hf.to trivial, (fun d hd => by cases (show some 90 = some d from hd); exact hf.get _ _ rfl), (Or.inl ⟨h15_, h17_, hS⟩)⟩
        ·have hS : St w0 w noX [] [pt b24 (Cs #[.func (.func 22) #[] #[], .func (.func 23) #[] #[], .func (.func 24) #[] #[], .func (.func 25) #[] #[], Iv x50.2.2] 48), pt b35 (Cs #[Iv x39.1, Iv x39.2.1] 23), pt b18 (Cs #[Iv x14, Iv x15] 23), pt b19 (Cs #[Iv 0, Iv 0, Iv 0, Iv 0, Iv 0, Iv 0] 25), pt b25 (Cs #[Iv x48.1, Iv x48.2.1, Iv x29, Iv x30, Iv x31, Iv x32] 25)] := hD; clear hD
         replace hf : Fr a 119 [] [(8, Pv b19 0), (9, Iv 0), (14, Pv b24 0), (15, Pv b25 0), (17, Pv b35 0), (18, Iv 1), (87, Iv 1), (88, Bv true), (89, Iv 1), (107, Iv 1)] := hf
         refine O.val hf rfl rfl rfl (RunV.move rfl) ?_; clear hf a; intro a hf
         exact O.nil ⟨rfl, hf.to trivial, (fun d hd => by cases (show some 90 = some d from hd); exact hf.get _ _ rfl), (Or.inr (Or.inl ⟨h15_, h17_, hS⟩))⟩
        ·exact absurd ((hsb 17 (by simp)).symm.trans h17_) (by decide)
       ·intro s g w hsp hsb hD a hf
        rcases hD with (⟨h15_, h17_, hD⟩ | ⟨h15_, h17_, hD⟩ | ⟨h15_, h17_, hD⟩)
        ·have hS : St w0 w noX [] [pt b24 (Cs #[.func (.func 22) #[] #[], .func (.func 23) #[] #[], .func (.func 24) #[] #[], .func (.func 25) #[] #[], Iv x48.2.2] 48), pt b35 (Cs #[Iv x39.1, Iv x39.2.1] 23), pt b18 (Cs #[Iv x14, Iv x15] 23), pt b19 (Cs #[Iv 0, Iv 0, Iv 0, Iv 0, Iv 0, Iv 0] 25), pt b25 (Cs #[Iv x48.1, Iv x48.2.1, Iv x29, Iv x30, Iv x31, Iv x32] 25)] := hD; clear hD
         replace hf : Fr a 119 [] [(8, Pv b19 0), (9, Iv 0), (14, Pv b24 0), (15, Pv b25 0), (17, Pv b35 0), (18, Iv 1), (87, Iv 1), (88, Bv true), (89, Iv 1), (107, Iv 1)] := hf
         refine O.val hf rfl rfl rfl (RunV.move rfl) ?_; clear hf a; intro a hf
         exact O.nil ⟨rfl, hf.to trivial, (fun d hd => by cases (show some 91 = some d from hd); exact hf.get _ _ rfl), (Or.inl ⟨h15_, h17_, hS⟩)⟩
        ·exact absurd ((hsb 15 (by simp)).symm.trans h15_) (by decide)
        ·exact absurd ((hsb 15 (by simp)).symm.trans h15_) (by decide)
       ·intro s g w hsp hsb hD a hf
        rcases hD with (⟨h15_, h17_, hD⟩ | ⟨h15_, h17_, hD⟩ | ⟨h15_, h17_, hD⟩)
        ·have hS : St w0 w noX [] [pt b24 (Cs #[.func (.func 22) #[] #[], .func (.func 23) #[] #[], .func (.func 24) #[] #[], .func (.func 25) #[] #[], Iv x48.2.2] 48), pt b35 (Cs #[Iv x39.1, Iv x39.2.1] 23), pt b18 (Cs #[Iv x14, Iv x15] 23), pt b19 (Cs #[Iv 0, Iv 0, Iv 0, Iv 0, Iv 0, Iv 0] 25), pt b25 (Cs #[Iv x48.1, Iv x48.2.1, Iv x29, Iv x30, Iv x31, Iv x32] 25)] := hD; clear hD
         replace hf : Fr a 119 [] [(8, Pv b19 0), (9, Iv 0), (14, Pv b24 0), (15, Pv b25 0), (17, Pv b35 0), (18, Iv 1), (87, Iv 1), (88, Bv true), (89, Iv 1), (107, Iv 1)] := hf
         refine O.val hf rfl rfl rfl (RunV.move rfl) ?_; clear hf a; intro a hf
         exact O.nil ⟨rfl, hf.to trivial, (fun d hd => by cases (show some 92 = some d from hd); exact hf.get _ _ rfl), (Or.inl ⟨h15_, h17_, hS⟩)⟩
        ·exact absurd ((hsb 15 (by simp)).symm.trans h15_) (by decide)
        ·exact absurd ((hsb 15 (by simp)).symm.trans h15_) (by decide)
       ·intro s g w hsp hsb hD a hf
        rcases hD with (⟨h15_, h17_, hD⟩ | ⟨h15_, h17_, hD⟩ | ⟨h15_, h17_, hD⟩)
        ·have hS : St w0 w noX [] [pt b24 (Cs #[.func (.func 22) #[] #[], .func (.func 23) #[] #[], .func (.func 24) #[] #[], .func (.func 25) #[] #[], Iv x48.2.2] 48), pt b35 (Cs #[Iv x39.1, Iv x39.2.1] 23), pt b18 (Cs #[Iv x14, Iv x15] 23), pt b19 (Cs #[Iv 0, Iv 0, Iv 0, Iv 0, Iv 0, Iv 0] 25), pt b25 (Cs #[Iv x48.1, Iv x48.2.1, Iv x29, Iv x30, Iv x31, Iv x32] 25)] := hD; clear hD
         replace hf : Fr a 119 [] [(92, Pv b24 0), (8, Pv b19 0), (9, Iv 0), (14, Pv b24 0), (15, Pv b25 0), (17, Pv b35 0), (18, Iv 1), (87, Iv 1), (88, Bv true), (89, Iv 1), (107, Iv 1)] := hf
         refine O.val hf rfl rfl rfl (RunV.nilCheck rfl) ?_; clear hf a; intro a hf
         exact O.nil ⟨rfl, hf.to trivial, (fun d hd => by cases (show some 93 = some d from hd); exact hf.get _ _ rfl), (Or.inl ⟨h15_, h17_, hS⟩)⟩
        ·exact absurd ((hsb 15 (by simp)).symm.trans h15_) (by decide)
        ·exact absurd ((hsb 15 (by simp)).symm.trans h15_) (by decide)
       ·intro s g w hsp hsb hD a hf
        rcases hD with (⟨h15_, h17_, hD⟩ | ⟨h15_, h17_, hD⟩ | ⟨h15_, h17_, hD⟩)
        ·have hS : St w0 w noX [] [pt b24 (Cs #[.func (.func 22) #[] #[], .func (.func 23) #[] #[], .func (.func 24) #[] #[], .func (.func 25) #[] #[], Iv x48.2.2] 48), pt b35 (Cs #[Iv x39.1, Iv x39.2.1] 23), pt b18 (Cs #[Iv x14, Iv x15] 23), pt b19 (Cs #[Iv 0, Iv 0, Iv 0, Iv 0, Iv 0, Iv 0] 25), pt b25 (Cs #[Iv x48.1, Iv x48.2.1, Iv x29, Iv x30, Iv x31, Iv x32] 25)] := hD; clear hD
         replace hf : Fr a 119 [] [(93, Pv b24 0), (8, Pv b19 0), (9, Iv 0), (14, Pv b24 0), (15, Pv b25 0), (17, Pv b35 0), (18, Iv 1), (87, Iv 1), (88, Bv true), (89, Iv 1), (107, Iv 1)] := hf
         refine O.val hf rfl rfl rfl (RunV.field T_field_48_0 rfl rfl) ?_; clear hf a; intro a hf
         exact O.nil ⟨rfl, hf.to trivial, (fun d hd => by cases (show some 94 = some d from hd); exact hf.get _ _ rfl), (Or.inl ⟨h15_, h17_, hS⟩)⟩
        ·exact absurd ((hsb 15 (by simp)).symm.trans h15_) (by decide)
        ·exact absurd ((hsb 15 (by simp)).symm.trans h15_) (by decide)
       ·intro s g w hsp hsb hD a hf
        rcases hD with (⟨h15_, h17_, hD⟩ | ⟨h15_, h17_, hD⟩ | ⟨h15_, h17_, hD⟩)
        ·have hS : St w0 w noX [] [pt b24 (Cs #[.func (.func 22) #[] #[], .func (.func 23) #[] #[], .func (.func 24) #[] #[], .func (.func 25) #[] #[], Iv x48.2.2] 48), pt b35 (Cs #[Iv x39.1, Iv x39.2.1] 23), pt b18 (Cs #[Iv x14, Iv x15] 23), pt b19 (Cs #[Iv 0, Iv 0, Iv 0, Iv 0, Iv 0, Iv 0] 25), pt b25 (Cs #[Iv x48.1, Iv x48.2.1, Iv x29, Iv x30, Iv x31, Iv x32] 25)] := hD; clear hD
         replace hf : Fr a 119 [] [(94, Pv b24 0), (8, Pv b19 0), (9, Iv 0), (14, Pv b24 0), (15, Pv b25 0), (17, Pv b35 0), (18, Iv 1), (87, Iv 1), (88, Bv true), (89, Iv 1), (107, Iv 1)] := hf
         refine O.val hf rfl rfl rfl (RunV.load1 T_agg_46 rfl (hS.ptAt (i := 0) rfl) rfl) ?_; clear hf a; intro a hf
         exact O.nil ⟨rfl, hf.to trivial, (fun d hd => by cases (show some 95 = some d from hd); exact hf.get _ _ rfl), (Or.inl ⟨h15_, h17_, hS⟩)⟩
        ·exact absurd ((hsb 15 (by simp)).symm.trans h15_) (by decide)
        ·exact absurd ((hsb 15 (by simp)).symm.trans h15_) (by decide)
       ·intro s g w hsp hsb hD a hf
        rcases hD with (⟨h15_, h17_, hD⟩ | ⟨h15_, h17_, hD⟩ | ⟨h15_, h17_, hD⟩)
        ·have hS : St w0 w noX [] [pt b24 (Cs #[.func (.func 22) #[] #[], .func (.func 23) #[] #[], .func (.func 24) #[] #[], .func (.func 25) #[] #[], Iv x48.2.2] 48), pt b35 (Cs #[Iv x39.1, Iv x39.2.1] 23), pt b18 (Cs #[Iv x14, Iv x15] 23), pt b19 (Cs #[Iv 0, Iv 0, Iv 0, Iv 0, Iv 0, Iv 0] 25), pt b25 (Cs #[Iv x48.1, Iv x48.2.1, Iv x29, Iv x30, Iv x31, Iv x32] 25)] := hD; clear hD
         replace hf : Fr a 119 [] [(8, Pv b19 0), (9, Iv 0), (14, Pv b24 0), (15, Pv b25 0), (17, Pv b35 0), (18, Iv 1), (87, Iv 1), (88, Bv true), (89, Iv 1), (107, Iv 1)] := hf
         refine O.val hf rfl rfl rfl (RunV.move rfl) ?_; clear hf a; intro a hf
         exact O.nil ⟨rfl, hf.to trivial, (fun d hd => by cases (show some 96 = some d from hd); exact hf.get _ _ rfl), (Or.inl ⟨h15_, h17_, hS⟩)⟩
        ·exact absurd ((hsb 15 (by simp)).symm.trans h15_) (by decide)
        ·exact absurd ((hsb 15 (by simp)).symm.trans h15_) (by decide)
       ·intro s g w hsp hsb hD a hf
        rcases hD with (⟨h15_, h17_, hD⟩ | ⟨h15_, h17_, hD⟩ | ⟨h15_, h17_, hD⟩)
        ·have hS : St w0 w noX [] [pt b24 (Cs #[.func (.func 22) #[] #[], .func (.func 23) #[] #[], .func (.func 24) #[] #[], .func (.func 25) #[] #[], Iv x48.2.2] 48), pt b35 (Cs #[Iv x39.1, Iv x39.2.1] 23), pt b18 (Cs #[Iv x14, Iv x15] 23), pt b19 (Cs #[Iv 0, Iv 0, Iv 0, Iv 0, Iv 0, Iv 0] 25), pt b25 (Cs #[Iv x48.1, Iv x48.2.1, Iv x29, Iv x30, Iv x31, Iv x32] 25)] := hD; clear hD
         replace hf : Fr a 119 [] [(96, Iv 1), (8, Pv b19 0), (9, Iv 0), (14, Pv b24 0), (15, Pv b25 0), (17, Pv b35 0), (18, Iv 1), (87, Iv 1), (88, Bv true), (89, Iv 1), (107, Iv 1)] := hf
         refine O.val hf rfl rfl rfl (RunV.indexArr (j := 1) (m := 2) T_arr_25 T_size_23 rfl rfl rfl (by decide) rfl) ?_; clear hf a; intro a hf
         exact O.nil ⟨rfl, hf.to trivial, (fun d hd => by cases (show some 97 = some d from hd); exact hf.get _ _ rfl), (Or.inl ⟨h15_, h17_, hS⟩)⟩
        ·exact absurd ((hsb 15 (by simp)).symm.trans h15_) (by decide)
        ·exact absurd ((hsb 15 (by simp)).symm.trans h15_) (by decide)
       ·intro s g w hsp hsb hD a hf
        rcases hD with (⟨h15_, h17_, hD⟩ | ⟨h15_, h17_, hD⟩ | ⟨h15_, h17_, hD⟩)
        ·have hS : St w0 w noX [] [pt b24 (Cs #[.func (.func 22) #[] #[], .func (.func 23) #[] #[], .func (.func 24) #[] #[], .func (.func 25) #[] #[], Iv x48.2.2] 48), pt b35 (Cs #[Iv x39.1, Iv x39.2.1] 23), pt b18 (Cs #[Iv x14, Iv x15] 23), pt b19 (Cs #[Iv 0, Iv 0, Iv 0, Iv 0, Iv 0, Iv 0] 25), pt b25 (Cs #[Iv x48.1, Iv x48.2.1, Iv x29, Iv x30, Iv x31, Iv x32] 25)] := hD; clear hD
         replace hf : Fr a 119 [] [(97, Pv b25 2), (8, Pv b19 0), (9, Iv 0), (14, Pv b24 0), (15, Pv b25 0), (17, Pv b35 0), (18, Iv 1), (87, Iv 1), (88, Bv true), (89, Iv 1), (107, Iv 1)] := hf
         refine O.val hf rfl rfl rfl (RunV.loadN (cs' := #[Iv x29, Iv x30]) T_agg_23 T_size_23 rfl (hS.ptAt (i := 4) rfl) (Nat.le_of_ble_eq_true rfl) rfl) ?_; clear hf a; intro a hf
         exact O.nil ⟨rfl, hf.to trivial, (fun d hd => by cases (show some 98 = some d from hd); exact hf.get _ _ rfl), (Or.inl ⟨h15_, h17_, hS⟩)⟩
        ·exact absurd ((hsb 15 (by simp)).symm.trans h15_) (by decide)
        ·exact absurd ((hsb 15 (by simp)).symm.trans h15_) (by decide)
       ·intro s g w hsp hsb hD a hf
        rcases hD with (⟨h15_, h17_, hD⟩ | ⟨h15_, h17_, hD⟩ | ⟨h15_, h17_, hD⟩)
        ·have hS : St w0 w noX [] [pt b24 (Cs #[.func (.func 22) #[] #[], .func (.func 23) #[] #[], .func (.func 24) #[] #[], .func (.func 25) #[] #[], Iv x48.2.2] 48), pt b35 (Cs #[Iv x39.1, Iv x39.2.1] 23), pt b18 (Cs #[Iv x14, Iv x15] 23), pt b19 (Cs #[Iv 0, Iv 0, Iv 0, Iv 0, Iv 0, Iv 0] 25), pt b25 (Cs #[Iv x48.1, Iv x48.2.1, Iv x29, Iv x30, Iv x31, Iv x32] 25)] := hD; clear hD
         replace hf : Fr a 119 [] [(8, Pv b19 0), (9, Iv 0), (14, Pv b24 0), (15, Pv b25 0), (17, Pv b35 0), (18, Iv 1), (87, Iv 1), (88, Bv true), (89, Iv 1), (107, Iv 1)] := hf
         refine O.val hf rfl rfl rfl (RunV.field T_field_23_1 rfl rfl) ?_; clear hf a; intro a hf
         exact O.nil ⟨rfl, hf.to trivial, (fun d hd => by cases (show some 99 = some d from hd); exact hf.get _ _ rfl), (Or.inl ⟨h15_, h17_, hS⟩)⟩
        ·exact absurd ((hsb 15 (by simp)).symm.trans h15_) (by decide)
        ·exact absurd ((hsb 15 (by simp)).symm.trans h15_) (by decide)
       ·intro s g w hsp hsb hD a hf
        rcases hD with (⟨h15_, h17_, hD⟩ | ⟨h15_, h17_, hD⟩ | ⟨h15_, h17_, hD⟩)
        ·have hS : St w0 w noX [] [pt b24 (Cs #[.func (.func 22) #[] #[], .func (.func 23) #[] #[], .func (.func 24) #[] #[], .func (.func 25) #[] #[], Iv x48.2.2] 48), pt b35 (Cs #[Iv x39.1, Iv x39.2.1] 23), pt b18 (Cs #[Iv x14, Iv x15] 23), pt b19 (Cs #[Iv 0, Iv 0, Iv 0, Iv 0, Iv 0, Iv 0] 25), pt b25 (Cs #[Iv x48.1, Iv x48.2.1, Iv x29, Iv x30, Iv x31, Iv x32] 25)] := hD; clear hD
         replace hf : Fr a 119 [] [(99, Pv b35 1), (8, Pv b19 0), (9, Iv 0), (14, Pv b24 0), (15, Pv b25 0), (17, Pv b35 0), (18, Iv 1), (87, Iv 1), (88, Bv true), (89, Iv 1), (107, Iv 1)] := hf
         refine O.val hf rfl rfl rfl (RunV.load1 T_agg_2 rfl (hS.ptAt (i := 1) rfl) rfl) ?_; clear hf a; intro a hf
         exact O.nil ⟨rfl, hf.to trivial, (fun d hd => by cases (show some 100 = some d from hd); exact hf.get _ _ rfl), (Or.inl ⟨h15_, h17_, hS⟩)⟩
        ·exact absurd ((hsb 15 (by simp)).symm.trans h15_) (by decide)
        ·exact absurd ((hsb 15 (by simp)).symm.trans h15_) (by decide)
       ·intro s g w hsp hsb hD a hf
        rcases hD with (⟨h15_, h17_, hD⟩ | ⟨h15_, h17_, hD⟩ | ⟨h15_, h17_, hD⟩)
        ·have hS : St w0 w noX [] [pt b24 (Cs #[.func (.func 22) #[] #[], .func (.func 23) #[] #[], .func (.func 24) #[] #[], .func (.func 25) #[] #[], Iv x48.2.2] 48), pt b35 (Cs #[Iv x39.1, Iv x39.2.1] 23), pt b18 (Cs #[Iv x14, Iv x15] 23), pt b19 (Cs #[Iv 0, Iv 0, Iv 0, Iv 0, Iv 0, Iv 0] 25), pt b25 (Cs #[Iv x48.1, Iv x48.2.1, Iv x29, Iv x30, Iv x31, Iv x32] 25)] := hD; clear hD
         replace hf : Fr a 119 [] [(100, Iv x39.2.1), (8, Pv b19 0), (9, Iv 0), (14, Pv b24 0), (15, Pv b25 0), (17, Pv b35 0), (18, Iv 1), (87, Iv 1), (88, Bv true), (89, Iv 1), (107, Iv 1)] := hf
         refine O.val (v := Iv (IntKind.i64.wrap (0 - x39.2.1))) hf rfl rfl rfl (RunV.neg rfl) ?_; clear hf a; intro a hf
         exact O.nil ⟨rfl, hf.to trivial, (fun d hd => by cases (show some 101 = some d from hd); exact hf.get _ _ rfl), (Or.inl ⟨h15_, h17_, hS⟩)⟩
        ·exact absurd ((hsb 15 (by simp)).symm.trans h15_) (by decide)
        ·exact absurd ((hsb 15 (by simp)).symm.trans h15_) (by decide)
       ·intro s g w hsp hsb hD a hf
        rcases hD with (⟨h15_, h17_, hD⟩ | ⟨h15_, h17_, hD⟩ | ⟨h15_, h17_, hD⟩)
        ·have hS : St w0 w noX [] [pt b24 (Cs #[.func (.func 22) #[] #[], .func (.func 23) #[] #[], .func (.func 24) #[] #[], .func (.func 25) #[] #[], Iv x48.2.2] 48), pt b35 (Cs #[Iv x39.1, Iv x39.2.1] 23), pt b18 (Cs #[Iv x14, Iv x15] 23), pt b19 (Cs #[Iv 0, Iv 0, Iv 0, Iv 0, Iv 0, Iv 0] 25), pt b25 (Cs #[Iv x48.1, Iv x48.2.1, Iv x29, Iv x30, Iv x31, Iv x32] 25)] := hD; clear hD
         replace hf : Fr a 119 [] [(8, Pv b19 0), (9, Iv 0), (14, Pv b24 0), (15, Pv b25 0), (17, Pv b35 0), (18, Iv 1), (87, Iv 1), (88, Bv true), (89, Iv 1), (107, Iv 1)] := hf
         refine O.val hf rfl rfl rfl (RunV.field T_field_23_1 rfl rfl) ?_; clear hf a; intro a hf
         exact O.nil ⟨rfl, hf.to trivial, (fun d hd => by cases (show some 102 = some d from hd); exact hf.get _ _ rfl), (Or.inl ⟨h15_, h17_, hS⟩)⟩
        ·exact absurd ((hsb 15 (by simp)).symm.trans h15_) (by decide)
        ·exact absurd ((hsb 15 (by simp)).symm.trans h15_) (by decide)
       ·intro s g w hsp hsb hD a hf
        rcases hD with (⟨h15_, h17_, hD⟩ | ⟨h15_, h17_, hD⟩ | ⟨h15_, h17_, hD⟩)
        ·have hS : St w0 w noX [] [pt b24 (Cs #[.func (.func 22) #[] #[], .func (.func 23) #[] #[], .func (.func 24) #[] #[], .func (.func 25) #[] #[], Iv x48.2.2] 48), pt b35 (Cs #[Iv x39.1, Iv x39.2.1] 23), pt b18 (Cs #[Iv x14, Iv x15] 23), pt b19 (Cs #[Iv 0, Iv 0, Iv 0, Iv 0, Iv 0, Iv 0] 25), pt b25 (Cs #[Iv x48.1, Iv x48.2.1, Iv x29, Iv x30, Iv x31, Iv x32] 25)] := hD; clear hD
         replace hf : Fr a 119 [] [(102, Pv b35 1), (8, Pv b19 0), (9, Iv 0), (14, Pv b24 0), (15, Pv b25 0), (17, Pv b35 0), (18, Iv 1), (87, Iv 1), (88, Bv true), (89, Iv 1), (107, Iv 1)] := hf
         refine O.val hf rfl rfl rfl (RunV.load1 T_agg_2 rfl (hS.ptAt (i := 1) rfl) rfl) ?_; clear hf a; intro a hf
         exact O.nil ⟨rfl, hf.to trivial, (fun d hd => by cases (show some 103 = some d from hd); exact hf.get _ _ rfl), (Or.inl ⟨h15_, h17_, hS⟩)⟩
        ·exact absurd ((hsb 15 (by simp)).symm.trans h15_) (by decide)
        ·exact absurd ((hsb 15 (by simp)).symm.trans h15_) (by decide)
       ·intro s g w hsp hsb hD a hf
        rcases hD with (⟨h15_, h17_, hD⟩ | ⟨h15_, h17_, hD⟩ | ⟨h15_, h17_, hD⟩)
        ·have hS : St w0 w noX [] [pt b24 (Cs #[.func (.func 22) #[] #[], .func (.func 23) #[] #[], .func (.func 24) #[] #[], .func (.func 25) #[] #[], Iv x48.2.2] 48), pt b35 (Cs #[Iv x39.1, Iv x39.2.1] 23), pt b18 (Cs #[Iv x14, Iv x15] 23), pt b19 (Cs #[Iv 0, Iv 0, Iv 0, Iv 0, Iv 0, Iv 0] 25), pt b25 (Cs #[Iv x48.1, Iv x48.2.1, Iv x29, Iv x30, Iv x31, Iv x32] 25)] := hD; clear hD
         replace hf : Fr a 119 [] [(101, Iv (IntKind.i64.wrap (0 - x39.2.1))), (103, Iv x39.2.1), (8, Pv b19 0), (9, Iv 0), (14, Pv b24 0), (15, Pv b25 0), (17, Pv b35 0), (18, Iv 1), (87, Iv 1), (88, Bv true), (89, Iv 1), (107, Iv 1)] := hf
         refine O.val (v := .agg #[Iv (IntKind.i64.wrap (0 - x39.2.1)), Iv x39.2.1]) hf rfl rfl rfl (RunV.buildS (cs' := #[Iv (IntKind.i64.wrap (0 - x39.2.1)), Iv x39.2.1]) T_places_23 T_zero_23 rfl (by kernel_rfl)) ?_; clear hf a; intro a hf
         exact O.nil ⟨rfl, hf.to trivial, (fun d hd => by cases (show some 104 = some d from hd); exact hf.get _ _ rfl), (Or.inl ⟨h15_, h17_, hS⟩)⟩
        ·exact absurd ((hsb 15 (by simp)).symm.trans h15_) (by decide)
        ·exact absurd ((hsb 15 (by simp)).symm.trans h15_) (by decide)
       ·intro s g w hsp hsb hD a hf
        rcases hD with (⟨h15_, h17_, hD⟩ | ⟨h15_, h17_, hD⟩ | ⟨h15_, h17_, hD⟩)
        ·exact absurd ((hsp 15 (by simp)).symm.trans h15_) (by decide)
        ·have hS : St w0 w noX [] [pt b24 (Cs #[.func (.func 22) #[] #[], .func (.func 23) #[] #[], .func (.func 24) #[] #[], .func (.func 25) #[] #[], Iv x50.2.2] 48), pt b35 (Cs #[Iv x39.1, Iv x39.2.1] 23), pt b18 (Cs #[Iv x14, Iv x15] 23), pt b19 (Cs #[Iv 0, Iv 0, Iv 0, Iv 0, Iv 0, Iv 0] 25), pt b25 (Cs #[Iv x48.1, Iv x48.2.1, Iv x29, Iv x30, Iv x31, Iv x32] 25)] := hD; clear hD
         replace hf : Fr a 119 [] [(90, Iv 1), (91, Pv b24 0), (92, Pv b24 0), (93, Pv b24 0), (94, Pv b24 0), (95, .func (.func 22) #[] #[]), (96, Iv 1), (97, Pv b25 2), (98, .agg #[Iv x29, Iv x30]), (99, Pv b35 1), (100, Iv x39.2.1), (101, Iv (IntKind.i64.wrap (0 - x39.2.1))), (102, Pv b35 1), (103, Iv x39.2.1), (104, .agg #[Iv (IntKind.i64.wrap (0 - x39.2.1)), Iv x39.2.1]), (105, .agg #[Iv x50.1, Iv x50.2.1]), (8, Pv b19 0), (9, Iv 0), (14, Pv b24 0), (15, Pv b25 0), (17, Pv b35 0), (18, Iv 1), (87, Iv 1), (88, Bv true), (89, Iv 1), (107, Iv 1)] := hf
         refine O.val hf rfl rfl rfl (RunV.indexArr (j := 1) (m := 2) T_arr_25 T_size_23 rfl rfl rfl (by decide) rfl) ?_; clear hf a; intro a hf
         exact O.nil ⟨rfl, hf.to trivial, (fun d hd => by cases (show some 106 = some d from hd); exact hf.get _ _ rfl), (Or.inr (Or.inl ⟨h15_, h17_, hS⟩))⟩
        ·exact absurd ((hsb 17 (by simp)).symm.trans h17_) (by decide)
      ·clear hf hf1 hS
       refine ⟨?_, ?_, trivial⟩
       ·intro s g w hs0 hsp hsb hD a hf
        rcases hD with (⟨h15_, h17_, hD⟩ | ⟨h15_, h17_, hD⟩ | ⟨h15_, h17_, hD⟩)
        ·have hS : St w0 w noX [] [pt b24 (Cs #[.func (.func 22) #[] #[], .func (.func 23) #[] #[], .func (.func 24) #[] #[], .func (.func 25) #[] #[], Iv x48.2.2] 48), pt b35 (Cs #[Iv x39.1, Iv x39.2.1] 23), pt b18 (Cs #[Iv x14, Iv x15] 23), pt b19 (Cs #[Iv 0, Iv 0, Iv 0, Iv 0, Iv 0, Iv 0] 25), pt b25 (Cs #[Iv x48.1, Iv x48.2.1, Iv x29, Iv x30, Iv x31, Iv x32] 25)] := hD; clear hD
         replace hf : Fr a 119 [] [(91, Pv b24 0), (95, .func (.func 22) #[] #[]), (98, .agg #[Iv x29, Iv x30]), (104, .agg #[Iv (IntKind.i64.wrap (0 - x39.2.1)), Iv x39.2.1]), (8, Pv b19 0), (9, Iv 0), (14, Pv b24 0), (15, Pv b25 0), (17, Pv b35 0), (18, Iv 1), (87, Iv 1), (88, Bv true), (89, Iv 1), (107, Iv 1)] := hf
         refine O.callR hf rfl rfl rfl (RunE.call (av := #[Pv b24 0, .func (.func 22) #[] #[], .agg #[Iv x29, Iv x30], .agg #[Iv (IntKind.i64.wrap (0 - x39.2.1)), Iv x39.2.1]]) C_ok_13 rfl rfl rfl) (m_cells_sheet_do_ok F b24 x48.2.2 x29 x30 (IntKind.i64.wrap (0 - x39.2.1)) x39.2.1 _ (hS.ptAt (i := 0) rfl) x50 hx50) ?_
         clear hf a; rintro _ w hS1 a hf
         replace hf : Fr a _ _ ((105, .agg #[Iv x50.1, Iv x50.2.1]) :: _) := hf
         replace hS := (hS.callX1 hS1 (i := 0) rfl (fun _ h => h)).eqM (N := [pt b24 (Cs #[.func (.func 22) #[] #[], .func (.func 23) #[] #[], .func (.func 24) #[] #[], .func (.func 25) #[] #[], Iv x50.2.2] 48), pt b35 (Cs #[Iv x39.1, Iv x39.2.1] 23), pt b18 (Cs #[Iv x14, Iv x15] 23), pt b19 (Cs #[Iv 0, Iv 0, Iv 0, Iv 0, Iv 0, Iv 0] 25), pt b25 (Cs #[Iv x48.1, Iv x48.2.1, Iv x29, Iv x30, Iv x31, Iv x32] 25)]) rfl
         clear hS1
         exact O.nil ⟨rfl, (), hf.to trivial, (fun d hd => by cases (show some 105 = some d from hd); exact hf.get _ _ rfl), (fun j hj hk => match j, hj, hk with | 0, hj, hk => rfl | 1, hj, hk => rfl | 2, hj, hk => rfl | 3, hj, hk => rfl | 4, hj, hk => rfl | 5, hj, hk => rfl | 6, hj, hk => rfl | 7, hj, hk => rfl | 8, hj, hk => rfl | 9, hj, hk => rfl | 10, hj, hk => rfl | 11, hj, hk => rfl | 12, hj, hk => rfl | 13, hj, hk => rfl | 14, hj, hk => rfl | 15, hj, hk => absurd rfl hj | 16, hj, hk => absurd hk (by decide) | 17, hj, hk => absurd hk (by decide) | _ + 18, _, _ => rfl), (Or.inr (Or.inl ⟨rfl, h17_, hS⟩))⟩
        ·exact absurd (hs0.symm.trans h15_) (by decide)
        ·exact absurd (hs0.symm.trans h15_) (by decide)
       ·intro s g w hs0 hsp hsb hD a hf
        rcases hD with (⟨h15_, h17_, hD⟩ | ⟨h15_, h17_, hD⟩ | ⟨h15_, h17_, hD⟩)
        ·exact absurd ((hsp 15 (by simp)).symm.trans h15_) (by decide)
        ·have hS : St w0 w noX [] [pt b24 (Cs #[.func (.func 22) #[] #[], .func (.func 23) #[] #[], .func (.func 24) #[] #[], .func (.func 25) #[] #[], Iv x50.2.2] 48), pt b35 (Cs #[Iv x39.1, Iv x39.2.1] 23), pt b18 (Cs #[Iv x14, Iv x15] 23), pt b19 (Cs #[Iv 0, Iv 0, Iv 0, Iv 0, Iv 0, Iv 0] 25), pt b25 (Cs #[Iv x48.1, Iv x48.2.1, Iv x29, Iv x30, Iv x31, Iv x32] 25)] := hD; clear hD
         replace hf : Fr a 119 [] [(90, Iv 1), (91, Pv b24 0), (92, Pv b24 0), (93, Pv b24 0), (94, Pv b24 0), (95, .func (.func 22) #[] #[]), (96, Iv 1), (97, Pv b25 2), (98, .agg #[Iv x29, Iv x30]), (99, Pv b35 1), (100, Iv x39.2.1), (101, Iv (IntKind.i64.wrap (0 - x39.2.1))), (102, Pv b35 1), (103, Iv x39.2.1), (104, .agg #[Iv (IntKind.i64.wrap (0 - x39.2.1)), Iv x39.2.1]), (105, .agg #[Iv x50.1, Iv x50.2.1]), (106, Pv b25 2), (8, Pv b19 0), (9, Iv 0), (14, Pv b24 0), (15, Pv b25 0), (17, Pv b35 0), (18, Iv 1), (87, Iv 1), (88, Bv true), (89, Iv 1), (107, Iv 1)] := hf
         refine O.store (j := 4) (cs' := #[Iv x48.1, Iv x48.2.1, Iv x50.1, Iv x50.2.1, Iv x31, Iv x32]) (M' := [pt b24 (Cs #[.func (.func 22) #[] #[], .func (.func 23) #[] #[], .func (.func 24) #[] #[], .func (.func 25) #[] #[], Iv x50.2.2] 48), pt b35 (Cs #[Iv x39.1, Iv x39.2.1] 23), pt b18 (Cs #[Iv x14, Iv x15] 23), pt b19 (Cs #[Iv 0, Iv 0, Iv 0, Iv 0, Iv 0, Iv 0] 25), pt b25 (Cs #[Iv x48.1, Iv x48.2.1, Iv x50.1, Iv x50.2.1, Iv x31, Iv x32] 25)]) hf hS rfl rfl rfl T_size_23 rfl rfl rfl (Nat.le_of_ble_eq_true rfl) rfl rfl ?_
         clear hS; intro w hS
         exact O.nil ⟨rfl, (), hf.to trivial, (fun d hd => by cases (show none = some d from hd)), (fun j hj hk => match j, hj, hk with | 0, hj, hk => rfl | 1, hj, hk => rfl | 2, hj, hk => rfl | 3, hj, hk => rfl | 4, hj, hk => rfl | 5, hj, hk => rfl | 6, hj, hk => rfl | 7, hj, hk => rfl | 8, hj, hk => rfl | 9, hj, hk => rfl | 10, hj, hk => rfl | 11, hj, hk => rfl | 12, hj, hk => rfl | 13, hj, hk => rfl | 14, hj, hk => rfl | 15, hj, hk => rfl | 16, hj, hk => rfl | 17, hj, hk => absurd rfl hj | _ + 18, _, _ => rfl), (Or.inr (Or.inr ⟨h15_, rfl, hS⟩))⟩
        ·exact absurd (hs0.symm.trans h17_) (by decide)
      clear hf hf1 hS; intro s g a w hs hf hD
      rcases hD with (⟨h15_, h17_, hD⟩ | ⟨h15_, h17_, hD⟩ | ⟨h15_, h17_, hD⟩)
      · exact absurd ((hs 15 (by simp)).symm.trans h15_) (by decide)
      · exact absurd ((hs 17 (by simp)).symm.trans h17_) (by decide)
      have hS : St w0 w noX [] [pt b24 (Cs #[.func (.func 22) #[] #[], .func (.func 23) #[] #[], .func (.func 24) #[] #[], .func (.func 25) #[] #[], Iv x50.2.2] 48), pt b35 (Cs #[Iv x39.1, Iv x39.2.1] 23), pt b18 (Cs #[Iv x14, Iv x15] 23), pt b19 (Cs #[Iv 0, Iv 0, Iv 0, Iv 0, Iv 0, Iv 0] 25), pt b25 (Cs #[Iv x48.1, Iv x48.2.1, Iv x50.1, Iv x50.2.1, Iv x31, Iv x32] 25)] := hD; clear hD
      replace hf : Fr a 119 [] [(90, Iv 1), (91, Pv b24 0), (92, Pv b24 0), (93, Pv b24 0), (94, Pv b24 0), (95, .func (.func 22) #[] #[]), (96, Iv 1), (97, Pv b25 2), (98, .agg #[Iv x29, Iv x30]), (99, Pv b35 1), (100, Iv x39.2.1), (101, Iv (IntKind.i64.wrap (0 - x39.2.1))), (102, Pv b35 1), (103, Iv x39.2.1), (104, .agg #[Iv (IntKind.i64.wrap (0 - x39.2.1)), Iv x39.2.1]), (105, .agg #[Iv x50.1, Iv x50.2.1]), (106, Pv b25 2), (8, Pv b19 0), (9, Iv 0), (14, Pv b24 0), (15, Pv b25 0), (17, Pv b35 0), (18, Iv 1), (87, Iv 1), (88, Bv true), (89, Iv 1), (107, Iv 1)] := hf
      refine k_blk_normal ?_
      refine k_seq ?_
      obtain ⟨x51, hx51, hm⟩ := hm_b hm
      rw [Option.some.inj hx51] at hf
      -- region 27
      refine W.regionL (l := [0, 1]) rfl ?_
      refine O.val (v := Iv 2) hf rfl rfl rfl (RunV.add (p := 1) (q := 1) rfl rfl) ?_; clear hf a; intro a hf
      refine O.val hf rfl rfl rfl (RunV.move rfl) ?_; clear hf a; intro a hf
      refine O.nil ?_
      refine k_then (LH.step ?_)
      refine W.seq ?_
      -- region 24
      refine W.regionL (l := [0]) rfl ?_
      refine O.val (v := Bv true) hf rfl rfl rfl (RunV.lss (p := 2) (q := 3) rfl rfl) ?_; clear hf a; intro a hf
      refine O.nil ?_
      refine k_seq ?_
      refine W.seq ?_
      refine W.if_tt hf rfl ?_
      refine W.skip ?_
      refine k_seq ?_
      refine W.seq ?_
      refine W.block ?_
      refine W.seq ?_
      -- region 25
      refine W.regionL (l := [0, 1]) rfl ?_
      refine O.val hf rfl rfl rfl (RunV.move rfl) ?_; clear hf a; intro a hf
      refine O.val hf rfl rfl rfl (RunV.assign rfl) ?_; clear hf a; intro a hf
      refine O.nil ?_
      refine k_seq ?_
      -- region 26, which draws its order
      -- [15, 17] turn memory
      have hf1 : Fr a 119 [] [(90, Iv 1), (91, Pv b24 0), (92, Pv b24 0), (93, Pv b24 0), (94, Pv b24 0), (95, .func (.func 22) #[] #[]), (96, Iv 1), (97, Pv b25 2), (98, .agg #[Iv x29, Iv x30]), (99, Pv b35 1), (100, Iv x39.2.1), (101, Iv x51), (102, Pv b35 1), (103, Iv x39.2.1), (104, .agg #[Iv x51, Iv x39.2.1]), (105, .agg #[Iv x50.1, Iv x50.2.1]), (106, Pv b25 2)] := hf.to ⟨rfl, rfl, rfl, rfl, rfl, rfl, rfl, rfl, rfl, rfl, rfl, rfl, rfl, rfl, rfl, rfl, rfl, trivial⟩
      replace hf : Fr a 119 [] [(8, Pv b19 0), (9, Iv 0), (14, Pv b24 0), (15, Pv b25 0), (17, Pv b35 0), (18, Iv 2), (87, Iv 2), (88, Bv true), (89, Iv 2), (107, Iv 2)] := hf.to ⟨rfl, rfl, rfl, rfl, rfl, rfl, rfl, rfl, rfl, rfl, trivial⟩
      obtain ⟨x52, hx52, hm⟩ := hm_b hm
      refine W.drawP (γ := Unit) (L0 := [(8, Pv b19 0), (9, Iv 0), (14, Pv b24 0), (15, Pv b25 0), (17, Pv b35 0), (18, Iv 2), (87, Iv 2), (88, Bv true), (89, Iv 2), (107, Iv 2)]) (L1 := [(90, Iv 1), (91, Pv b24 0), (92, Pv b24 0), (93, Pv b24 0), (94, Pv b24 0), (95, .func (.func 22) #[] #[]), (96, Iv 1), (97, Pv b25 2), (98, .agg #[Iv x29, Iv x30]), (99, Pv b35 1), (100, Iv x39.2.1), (101, Iv x51), (102, Pv b35 1), (103, Iv x39.2.1), (104, .agg #[Iv x51, Iv x39.2.1]), (105, .agg #[Iv x50.1, Iv x50.2.1]), (106, Pv b25 2)]) () [15, 17] [0, 1, 2, 3, 4, 5, 6, 7, 8, 9, 10, 11, 12, 13, 14, 16] (fun i => match i with | 0 => [] | 1 => [] | 2 => [] | 3 => [2] | 4 => [3] | 5 => [4] | 6 => [] | 7 => [6] | 8 => [7] | 9 => [] | 10 => [9] | 11 => [10] | 12 => [] | 13 => [12] | 14 => [11, 13] | 15 => [1, 5, 8, 14] | 16 => [0, 1, 2, 3, 4, 5, 6, 7, 8, 9, 10, 11, 12, 13, 14, 15] | 17 => [0, 1, 2, 3, 4, 5, 6, 7, 8, 9, 10, 11, 12, 13, 14, 15, 16] | _ => []) (fun i => match i with | 16 => [15] | 17 => [15] | _ => []) (fun i => match i with | 0 => [17] | 1 => [15, 17] | 2 => [15, 17] | 3 => [15, 17] | 4 => [15, 17] | 5 => [15, 17] | 6 => [15, 17] | 7 => [15, 17] | 8 => [15, 17] | 9 => [15, 17] | 10 => [15, 17] | 11 => [15, 17] | 12 => [15, 17] | 13 => [15, 17] | 14 => [15, 17] | 15 => [17] | 16 => [17] | _ => []) (fun i => match i with | 15 => [16, 17] | 17 => [] | _ => []) (fun _ => []) (fun (g : Unit) j => match g, j with | _, 0 => Iv 2 | _, 1 => Pv b24 0 | _, 2 => Pv b24 0 | _, 3 => Pv b24 0 | _, 4 => Pv b24 0 | _, 5 => .func (.func 22) #[] #[] | _, 6 => Iv 2 | _, 7 => Pv b25 4 | _, 8 => .agg #[Iv x31, Iv x32] | _, 9 => Pv b35 1 | _, 10 => Iv x39.2.1 | _, 11 => Iv (IntKind.i64.wrap (0 - x39.2.1)) | _, 12 => Pv b35 1 | _, 13 => Iv x39.2.1 | _, 14 => .agg #[Iv (IntKind.i64.wrap (0 - x39.2.1)), Iv x39.2.1] | _, 15 => .agg #[Iv x52.1, Iv x52.2.1] | _, 16 => Pv b25 4 | _, _ => undef) (fun s (g : Unit) w => match g with | _ => (s 15 = false ∧ s 17 = false ∧ St w0 w noX [] [pt b24 (Cs #[.func (.func 22) #[] #[], .func (.func 23) #[] #[], .func (.func 24) #[] #[], .func (.func 25) #[] #[], Iv x50.2.2] 48), pt b35 (Cs #[Iv x39.1, Iv x39.2.1] 23), pt b18 (Cs #[Iv x14, Iv x15] 23), pt b19 (Cs #[Iv 0, Iv 0, Iv 0, Iv 0, Iv 0, Iv 0] 25), pt b25 (Cs #[Iv x48.1, Iv x48.2.1, Iv x50.1, Iv x50.2.1, Iv x31, Iv x32] 25)]) ∨ (s 15 = true ∧ s 17 = false ∧ St w0 w noX [] [pt b24 (Cs #[.func (.func 22) #[] #[], .func (.func 23) #[] #[], .func (.func 24) #[] #[], .func (.func 25) #[] #[], Iv x52.2.2] 48), pt b35 (Cs #[Iv x39.1, Iv x39.2.1] 23), pt b18 (Cs #[Iv x14, Iv x15] 23), pt b19 (Cs #[Iv 0, Iv 0, Iv 0, Iv 0, Iv 0, Iv 0] 25), pt b25 (Cs #[Iv x48.1, Iv x48.2.1, Iv x50.1, Iv x50.2.1, Iv x31, Iv x32] 25)]) ∨ (s 15 = true ∧ s 17 = true ∧ St w0 w noX [] [pt b24 (Cs #[.func (.func 22) #[] #[], .func (.func 23) #[] #[], .func (.func 24) #[] #[], .func (.func 25) #[] #[], Iv x52.2.2] 48), pt b35 (Cs #[Iv x39.1, Iv x39.2.1] 23), pt b18 (Cs #[Iv x14, Iv x15] 23), pt b19 (Cs #[Iv 0, Iv 0, Iv 0, Iv 0, Iv 0, Iv 0] 25), pt b25 (Cs #[Iv x48.1, Iv x48.2.1, Iv x50.1, Iv x50.2.1, Iv x52.1, Iv x52.2.1] 25)])) P_mixed (by kernel_rfl) hf hf1 (Or.inl ⟨rfl, rfl, hS.drew⟩) ?_ ?_ ?_
      ·clear hf hf1 hS
       refine ⟨?_, ?_, ?_, ?_, ?_, ?_, ?_, ?_, ?_, ?_, ?_, ?_, ?_, ?_, ?_, ?_, trivial⟩
       ·intro s g w hsp hsb hD a hf
        rcases hD with (⟨h15_, h17_, hD⟩ | ⟨h15_, h17_, hD⟩ | ⟨h15_, h17_, hD⟩)
        ·have hS : St w0 w noX [] [pt b24 (Cs #[.func (.func 22) #[] #[], .func (.func 23) #[] #[], .func (.func 24) #[] #[], .func (.func 25) #[] #[], Iv x50.2.2] 48), pt b35 (Cs #[Iv x39.1, Iv x39.2.1] 23), pt b18 (Cs #[Iv x14, Iv x15] 23), pt b19 (Cs #[Iv 0, Iv 0, Iv 0, Iv 0, Iv 0, Iv 0] 25), pt b25 (Cs #[Iv x48.1, Iv x48.2.1, Iv x50.1, Iv x50.2.1, Iv x31, Iv x32] 25)] := hD; clear hD
         replace hf : Fr a 119 [] [(8, Pv b19 0), (9, Iv 0), (14, Pv b24 0), (15, Pv b25 0), (17, Pv b35 0), (18, Iv 2), (87, Iv 2), (88, Bv true), (89, Iv 2), (107, Iv 2)] := hf
         refine O.val hf rfl rfl rfl (RunV.move rfl) ?_; clear hf a; intro a hf
         exact O.nil ⟨rfl, hf.to trivial, (fun d hd => by cases (show some 90 = some d from hd); exact hf.get _ _ rfl), (Or.inl ⟨h15_, h17_, hS⟩)⟩
        ·have hS : St w0 w noX [] [pt b24 (Cs #[.func (.func 22) #[] #[], .func (.func 23) #[] #[], .func (.func 24) #[] #[], .func (.func 25) #[] #[], Iv x52.2.2] 48), pt b35 (Cs #[Iv x39.1, Iv x39.2.1] 23), pt b18 (Cs #[Iv x14, Iv x15] 23), pt b19 (Cs #[Iv 0, Iv 0, Iv 0, Iv 0, Iv 0, Iv 0] 25), pt b25 (Cs #[Iv x48.1, Iv x48.2.1, Iv x50.1, Iv x50.2.1, Iv x31, Iv x32] 25)] := hD; clear hD
         replace hf : Fr a 119 [] [(8, Pv b19 0), (9, Iv 0), (14, Pv b24 0), (15, Pv b25 0), (17, Pv b35 0), (18, Iv 2), (87, Iv 2), (88, Bv true), (89, Iv 2), (107, Iv 2)] := hf
         refine O.val hf rfl rfl rfl (RunV.move rfl) ?_; clear hf a; intro a hf
         exact O.nil ⟨rfl, hf.to trivial, (fun d hd => by cases (show some 90 = some d from hd); exact hf.get _ _ rfl), (Or.inr (Or.inl ⟨h15_, h17_, hS⟩))⟩
        ·exact absurd ((hsb 17 (by simp)).symm.trans h17_) (by decide)
       ·intro s g w hsp hsb hD a hf
        rcases hD with (⟨h15_, h17_, hD⟩ | ⟨h15_, h17_, hD⟩ | ⟨h15_, h17_, hD⟩)
        ·have hS : St w0 w noX [] [pt b24 (Cs #[.func (.func 22) #[] #[], .func (.func 23) #[] #[], .func (.func 24) #[] #[], .func (.func 25) #[] #[], Iv x50.2.2] 48), pt b35 (Cs #[Iv x39.1, Iv x39.2.1] 23), pt b18 (Cs #[Iv x14, Iv x15] 23), pt b19 (Cs #[Iv 0, Iv 0, Iv 0, Iv 0, Iv 0, Iv 0] 25), pt b25 (Cs #[Iv x48.1, Iv x48.2.1, Iv x50.1, Iv x50.2.1, Iv x31, Iv x32] 25)] := hD; clear hD
         replace hf : Fr a 119 [] [(8, Pv b19 0), (9, Iv 0), (14, Pv b24 0), (15, Pv b25 0), (17, Pv b35 0), (18, Iv 2), (87, Iv 2), (88, Bv true), (89, Iv 2), (107, Iv 2)] := hf
         refine O.val hf rfl rfl rfl (RunV.move rfl) ?_; clear hf a; intro a hf
         exact O.nil ⟨rfl, hf.to trivial, (fun d hd => by cases (show some 91 = some d from hd); exact hf.get _ _ rfl), (Or.inl ⟨h15_, h17_, hS⟩)⟩
        ·exact absurd ((hsb 15 (by simp)).symm.trans h15_) (by decide)
        ·exact absurd ((hsb 15 (by simp)).symm.trans h15_) (by decide)
       ·intro s g w hsp hsb hD a hf
        rcases hD with (⟨h15_, h17_, hD⟩ | ⟨h15_, h17_, hD⟩ | ⟨h15_, h17_, hD⟩)
        ·have hS : St w0 w noX [] [pt b24 (Cs #[.func (.func 22) #[] #[], .func (.func 23) #[] #[], .func (.func 24) #[] #[], .func (.func 25) #[] #[], Iv x50.2.2] 48), pt b35 (Cs #[Iv x39.1, Iv x39.2.1] 23), pt b18 (Cs #[Iv x14, Iv x15] 23), pt b19 (Cs #[Iv 0, Iv 0, Iv 0, Iv 0, Iv 0, Iv 0] 25), pt b25 (Cs #[Iv x48.1, Iv x48.2.1, Iv x50.1, Iv x50.2.1, Iv x31, Iv x32] 25)] := hD; clear hD
         replace hf : Fr a 119 [] [(8, Pv b19 0), (9, Iv 0), (14, Pv b24 0), (15, Pv b25 0), (17, Pv b35 0), (18, Iv 2), (87, Iv 2), (88, Bv true), (89, Iv 2), (107, Iv 2)] := hf
         refine O.val hf rfl rfl rfl (RunV.move rfl) ?_; clear hf a; intro a hf
         exact O.nil ⟨rfl, hf.to trivial, (fun d hd => by cases (show some 92 = some d from hd); exact hf.get _ _ rfl), (Or.inl ⟨h15_, h17_, hS⟩)⟩
        ·exact absurd ((hsb 15 (by simp)).symm.trans h15_) (by decide)
        ·exact absurd ((hsb 15 (by simp)).symm.trans h15_) (by decide)
       ·intro s g w hsp hsb hD a hf
        rcases hD with (⟨h15_, h17_, hD⟩ | ⟨h15_, h17_, hD⟩ | ⟨h15_, h17_, hD⟩)
        ·have hS : St w0 w noX [] [pt b24 (Cs #[.func (.func 22) #[] #[], .func (.func 23) #[] #[], .func (.func 24) #[] #[], .func (.func 25) #[] #[], Iv x50.2.2] 48), pt b35 (Cs #[Iv x39.1, Iv x39.2.1] 23), pt b18 (Cs #[Iv x14, Iv x15] 23), pt b19 (Cs #[Iv 0, Iv 0, Iv 0, Iv 0, Iv 0, Iv 0] 25), pt b25 (Cs #[Iv x48.1, Iv x48.2.1, Iv x50.1, Iv x50.2.1, Iv x31, Iv x32] 25)] := hD; clear hD
         replace hf : Fr a 119 [] [(92, Pv b24 0), (8, Pv b19 0), (9, Iv 0), (14, Pv b24 0), (15, Pv b25 0), (17, Pv b35 0), (18, Iv 2), (87, Iv 2), (88, Bv true), (89, Iv 2), (107, Iv 2)] := hf
         refine O.val hf rfl rfl rfl (RunV.nilCheck rfl) ?_; clear hf a; intro a hf
         exact O.nil ⟨rfl, hf.to trivial, (fun d hd => by cases (show some 93 = some d from hd); exact hf.get _ _ rfl), (Or.inl ⟨h15_, h17_, hS⟩)⟩
        ·exact absurd ((hsb 15 (by simp)).symm.trans h15_) (by decide)
        ·exact absurd ((hsb 15 (by simp)).symm.trans h15_) (by decide)
       ·intro s g w hsp hsb hD a hf
        rcases hD with (⟨h15_, h17_, hD⟩ | ⟨h15_, h17_, hD⟩ | ⟨h15_, h17_, hD⟩)
        ·have hS : St w0 w noX [] [pt b24 (Cs #[.func (.func 22) #[] #[], .func (.func 23) #[] #[], .func (.func 24) #[] #[], .func (.func 25) #[] #[], Iv x50.2.2] 48), pt b35 (Cs #[Iv x39.1, Iv x39.2.1] 23), pt b18 (Cs #[Iv x14, Iv x15] 23), pt b19 (Cs #[Iv 0, Iv 0, Iv 0, Iv 0, Iv 0, Iv 0] 25), pt b25 (Cs #[Iv x48.1, Iv x48.2.1, Iv x50.1, Iv x50.2.1, Iv x31, Iv x32] 25)] := hD; clear hD
         replace hf : Fr a 119 [] [(93, Pv b24 0), (8, Pv b19 0), (9, Iv 0), (14, Pv b24 0), (15, Pv b25 0), (17, Pv b35 0), (18, Iv 2), (87, Iv 2), (88, Bv true), (89, Iv 2), (107, Iv 2)] := hf
         refine O.val hf rfl rfl rfl (RunV.field T_field_48_0 rfl rfl) ?_; clear hf a; intro a hf
         exact O.nil ⟨rfl, hf.to trivial, (fun d hd => by cases (show some 94 = some d from hd); exact hf.get _ _ rfl), (Or.inl ⟨h15_, h17_, hS⟩)⟩
        ·exact absurd ((hsb 15 (by simp)).symm.trans h15_) (by decide)
        ·exact absurd ((hsb 15 (by simp)).symm.trans h15_) (by decide)
       ·intro s g w hsp hsb hD a hf
        rcases hD with (⟨h15_, h17_, hD⟩ | ⟨h15_, h17_, hD⟩ | ⟨h15_, h17_, hD⟩)
        ·have hS : St w0 w noX [] [pt b24 (Cs #[.func (.func 22) #[] #[], .func (.func 23) #[] #[], .func (.func 24) #[] #[], .func (.func 25) #[] #[], Iv x50.2.2] 48), pt b35 (Cs #[Iv x39.1, Iv x39.2.1] 23), pt b18 (Cs #[Iv x14, Iv x15] 23), pt b19 (Cs #[Iv 0, Iv 0, Iv 0, Iv 0, Iv 0, Iv 0] 25), pt b25 (Cs #[Iv x48.1, Iv x48.2.1, Iv x50.1, Iv x50.2.1, Iv x31, Iv x32] 25)] := hD; clear hD
         replace hf : Fr a 119 [] [(94, Pv b24 0), (8, Pv b19 0), (9, Iv 0), (14, Pv b24 0), (15, Pv b25 0), (17, Pv b35 0), (18, Iv 2), (87, Iv 2), (88, Bv true), (89, Iv 2), (107, Iv 2)] := hf
         refine O.val hf rfl rfl rfl (RunV.load1 T_agg_46 rfl (hS.ptAt (i := 0) rfl) rfl) ?_; clear hf a; intro a hf
         exact O.nil ⟨rfl, hf.to trivial, (fun d hd => by cases (show some 95 = some d from hd); exact hf.get _ _ rfl), (Or.inl ⟨h15_, h17_, hS⟩)⟩
        ·exact absurd ((hsb 15 (by simp)).symm.trans h15_) (by decide)
        ·exact absurd ((hsb 15 (by simp)).symm.trans h15_) (by decide)
       ·intro s g w hsp hsb hD a hf
        rcases hD with (⟨h15_, h17_, hD⟩ | ⟨h15_, h17_, hD⟩ | ⟨h15_, h17_, hD⟩)
        ·have hS : St w0 w noX [] [pt b24 (Cs #[.func (.func 22) #[] #[], .func (.func 23) #[] #[], .func (.func 24) #[] #[], .func (.func 25) #[] #[], Iv x50.2.2] 48), pt b35 (Cs #[Iv x39.1, Iv x39.2.1] 23), pt b18 (Cs #[Iv x14, Iv x15] 23), pt b19 (Cs #[Iv 0, Iv 0, Iv 0, Iv 0, Iv 0, Iv 0] 25), pt b25 (Cs #[Iv x48.1, Iv x48.2.1, Iv x50.1, Iv x50.2.1, Iv x31, Iv x32] 25)] := hD; clear hD
         replace hf : Fr a 119 [] [(8, Pv b19 0), (9, Iv 0), (14, Pv b24 0), (15, Pv b25 0), (17, Pv b35 0), (18, Iv 2), (87, Iv 2), (88, Bv true), (89, Iv 2), (107, Iv 2)] := hf
         refine O.val hf rfl rfl rfl (RunV.move rfl) ?_; clear hf a; intro a hf
         exact O.nil ⟨rfl, hf.to trivial, (fun d hd => by cases (show some 96 = some d from hd); exact hf.get _ _ rfl), (Or.inl ⟨h15_, h17_, hS⟩)⟩
        ·exact absurd ((hsb 15 (by simp)).symm.trans h15_) (by decide)
        ·exact absurd ((hsb 15 (by simp)).symm.trans h15_) (by decide)
       ·intro s g w hsp hsb hD a hf
        rcases hD with (⟨h15_, h17_, hD⟩ | ⟨h15_, h17_, hD⟩ | ⟨h15_, h17_, hD⟩)
        ·have hS : St w0 w noX [] [pt b24 (Cs #[.func (.func 22) #[] #[], .func (.func 23) #[] #[], .func (.func 24) #[] #[], .func (.func 25) #[] #[], Iv x50.2.2] 48), pt b35 (Cs #[Iv x39.1, Iv x39.2.1] 23), pt b18 (Cs #[Iv x14, Iv x15] 23), pt b19 (Cs #[Iv 0, Iv 0, Iv 0, Iv 0, Iv 0, Iv 0] 25), pt b25 (Cs #[Iv x48.1, Iv x48.2.1, Iv x50.1, Iv x50.2.1, Iv x31, Iv x32] 25)] := hD; clear hD
         replace hf : Fr a 119 [] [(96, Iv 2), (8, Pv b19 0), (9, Iv 0), (14, Pv b24 0), (15, Pv b25 0), (17, Pv b35 0), (18, Iv 2), (87, Iv 2), (88, Bv true), (89, Iv 2), (107, Iv 2)] := hf
         refine O.val hf rfl rfl rfl (RunV.indexArr (j := 2) (m := 4) T_arr_25 T_size_23 rfl rfl rfl (by decide) rfl) ?_; clear hf a; intro a hf
         exact O.nil ⟨rfl, hf.to trivial, (fun d hd => by cases (show some 97 = some d from hd); exact hf.get _ _ rfl), (Or.inl ⟨h15_, h17_, hS⟩)⟩
        ·exact absurd ((hsb 15 (by simp)).symm.trans h15_) (by decide)
        ·exact absurd ((hsb 15 (by simp)).symm.trans h15_) (by decide)
       ·intro s g w hsp hsb hD a hf
        rcases hD with (⟨h15_, h17_, hD⟩ | ⟨h15_, h17_, hD⟩ | ⟨h15_, h17_, hD⟩)
        ·have hS : St w0 w noX [] [pt b24 (Cs #[.func (.func 22) #[] #[], .func (.func 23) #[] #[], .func (.func 24) #[] #[], .func (.func 25) #[] #[], Iv x50.2.2] 48), pt b35 (Cs #[Iv x39.1, Iv x39.2.1] 23), pt b18 (Cs #[Iv x14, Iv x15] 23), pt b19 (Cs #[Iv 0, Iv 0, Iv 0, Iv 0, Iv 0, Iv 0] 25), pt b25 (Cs #[Iv x48.1, Iv x48.2.1, Iv x50.1, Iv x50.2.1, Iv x31, Iv x32] 25)] := hD; clear hD
         replace hf : Fr a 119 [] [(97, Pv b25 4), (8, Pv b19 0), (9, Iv 0), (14, Pv b24 0), (15, Pv b25 0), (17, Pv b35 0), (18, Iv 2), (87, Iv 2), (88, Bv true), (89, Iv 2), (107, Iv 2)] := hf
         refine O.val hf rfl rfl rfl (RunV.loadN (cs' := #[Iv x31, Iv x32]) T_agg_23 T_size_23 rfl (hS.ptAt (i := 4) rfl) (Nat.le_of_ble_eq_true rfl) rfl) ?_; clear hf a; intro a hf
         exact O.nil ⟨rfl, hf.to trivial, (fun d hd => by cases (show some 98 = some d from hd); exact hf.get _ _ rfl), (Or.inl ⟨h15_, h17_, hS⟩)⟩
        ·exact absurd ((hsb 15 (by simp)).symm.trans h15_) (by decide)
        ·exact absurd ((hsb 15 (by simp)).symm.trans h15_) (by decide)
       ·intro s g w hsp hsb hD a hf
        rcases hD with (⟨h15_, h17_, hD⟩ | ⟨h15_, h17_, hD⟩ | ⟨h15_, h17_, hD⟩)
        ·have hS : St w0 w noX [] [pt b24 (Cs #[.func (.func 22) #[] #[], .func (.func 23) #[] #[], .func (.func 24) #[] #[], .func (.func 25) #[] #[], Iv x50.2.2] 48), pt b35 (Cs #[Iv x39.1, Iv x39.2.1] 23), pt b18 (Cs #[Iv x14, Iv x15] 23), pt b19 (Cs #[Iv 0, Iv 0, Iv 0, Iv 0, Iv 0, Iv 0] 25), pt b25 (Cs #[Iv x48.1, Iv x48.2.1, Iv x50.1, Iv x50.2.1, Iv x31, Iv x32] 25)] := hD; clear hD
         replace hf : Fr a 119 [] [(8, Pv b19 0), (9, Iv 0), (14, Pv b24 0), (15, Pv b25 0), (17, Pv b35 0), (18, Iv 2), (87, Iv 2), (88, Bv true), (89, Iv 2), (107, Iv 2)] := hf
         refine O.val hf rfl rfl rfl (RunV.field T_field_23_1 rfl rfl) ?_; clear hf a; intro a hf
         exact O.nil ⟨rfl, hf.to trivial, (fun d hd => by cases (show some 99 = some d from hd); exact hf.get _ _ rfl), (Or.inl ⟨h15_, h17_, hS⟩)⟩
        ·exact absurd ((hsb 15 (by simp)).symm.trans h15_) (by decide)
        ·exact absurd ((hsb 15 (by simp)).symm.trans h15_) (by decide)
       ·intro s g w hsp hsb hD a hf
        rcases hD with (⟨h15_, h17_, hD⟩ | ⟨h15_, h17_, hD⟩ | ⟨h15_, h17_, hD⟩)
        ·have hS : St w0 w noX [] [pt b24 (Cs #[.func (.func 22) #[] #[], .func (.func 23) #[] #[], .func (.func 24) #[] #[], .func (.func 25) #[] #[], Iv x50.2.2] 48), pt b35 (Cs #[Iv x39.1, Iv x39.2.1] 23), pt b18 (Cs #[Iv x14, Iv x15] 23), pt b19 (Cs #[Iv 0, Iv 0, Iv 0, Iv 0, Iv 0, Iv 0] 25), pt b25 (Cs #[Iv x48.1, Iv x48.2.1, Iv x50.1, Iv x50.2.1, Iv x31, Iv x32] 25)] := hD; clear hD
         replace hf : Fr a 119 [] [(99, Pv b35 1), (8, Pv b19 0), (9, Iv 0), (14, Pv b24 0), (15, Pv b25 0), (17, Pv b35 0), (18, Iv 2), (87, Iv 2), (88, Bv true), (89, Iv 2), (107, Iv 2)] := hf
         refine O.val hf rfl rfl rfl (RunV.load1 T_agg_2 rfl (hS.ptAt (i := 1) rfl) rfl) ?_; clear hf a; intro a hf
         exact O.nil ⟨rfl, hf.to trivial, (fun d hd => by cases (show some 100 = some d from hd); exact hf.get _ _ rfl), (Or.inl ⟨h15_, h17_, hS⟩)⟩
        ·exact absurd ((hsb 15 (by simp)).symm.trans h15_) (by decide)
        ·exact absurd ((hsb 15 (by simp)).symm.trans h15_) (by decide)
       ·intro s g w hsp hsb hD a hf
        rcases hD with (⟨h15_, h17_, hD⟩ | ⟨h15_, h17_, hD⟩ | ⟨h15_, h17_, hD⟩)
        ·have hS : St w0 w noX [] [pt b24 (Cs #[.func (.func 22) #[] #[], .func (.func 23) #[] #[], .func (.func 24) #[] #[], .func (.func 25) #[] #[], Iv x50.2.2] 48), pt b35 (Cs #[Iv x39.1, Iv x39.2.1] 23), pt b18 (Cs #[Iv x14, Iv x15] 23), pt b19 (Cs #[Iv 0, Iv 0, Iv 0, Iv 0, Iv 0, Iv 0] 25), pt b25 (Cs #[Iv x48.1, Iv x48.2.1, Iv x50.1, Iv x50.2.1, Iv x31, Iv x32] 25)] := hD; clear hD
         replace hf : Fr a 119 [] [(100, Iv x39.2.1), (8, Pv b19 0), (9, Iv 0), (14, Pv b24 0), (15, Pv b25 0), (17, Pv b35 0), (18, Iv 2), (87, Iv 2), (88, Bv true), (89, Iv 2), (107, Iv 2)] := hf
         refine O.val (v := Iv (IntKind.i64.wrap (0 - x39.2.1))) hf rfl rfl rfl (RunV.neg rfl) ?_; clear hf a; intro a hf
         exact O.nil ⟨rfl, hf.to trivial, (fun d hd => by cases (show some 101 = some d from hd); exact hf.get _ _ rfl), (Or.inl ⟨h15_, h17_, hS⟩)⟩
        ·exact absurd ((hsb 15 (by simp)).symm.trans h15_) (by decide)
        ·exact absurd ((hsb 15 (by simp)).symm.trans h15_) (by decide)
       ·intro s g w hsp hsb hD a hf
        rcases hD with (⟨h15_, h17_, hD⟩ | ⟨h15_, h17_, hD⟩ | ⟨h15_, h17_, hD⟩)
        ·have hS : St w0 w noX [] [pt b24 (Cs #[.func (.func 22) #[] #[], .func (.func 23) #[] #[], .func (.func 24) #[] #[], .func (.func 25) #[] #[], Iv x50.2.2] 48), pt b35 (Cs #[Iv x39.1, Iv x39.2.1] 23), pt b18 (Cs #[Iv x14, Iv x15] 23), pt b19 (Cs #[Iv 0, Iv 0, Iv 0, Iv 0, Iv 0, Iv 0] 25), pt b25 (Cs #[Iv x48.1, Iv x48.2.1, Iv x50.1, Iv x50.2.1, Iv x31, Iv x32] 25)] := hD; clear hD
         replace hf : Fr a 119 [] [(8, Pv b19 0), (9, Iv 0), (14, Pv b24 0), (15, Pv b25 0), (17, Pv b35 0), (18, Iv 2), (87, Iv 2), (88, Bv true), (89, Iv 2), (107, Iv 2)] := hf
         refine O.val hf rfl rfl rfl (RunV.field T_field_23_1 rfl rfl) ?_; clear hf a; intro a hf
         exact O.nil ⟨rfl, hf.to trivial, (fun d hd => by cases (show some 102 = some d from hd); exact hf.get _ _ rfl), (Or.inl ⟨h15_, h17_, hS⟩)⟩
        ·exact absurd ((hsb 15 (by simp)).symm.trans h15_) (by decide)
        ·exact absurd ((hsb 15 (by simp)).symm.trans h15_) (by decide)
       ·intro s g w hsp hsb hD a hf
        rcases hD with (⟨h15_, h17_, hD⟩ | ⟨h15_, h17_, hD⟩ | ⟨h15_, h17_, hD⟩)
        ·have hS : St w0 w noX [] [pt b24 (Cs #[.func (.func 22) #[] #[], .func (.func 23) #[] #[], .func (.func 24) #[] #[], .func (.func 25) #[] #[], Iv x50.2.2] 48), pt b35 (Cs #[Iv x39.1, Iv x39.2.1] 23), pt b18 (Cs #[Iv x14, Iv x15] 23), pt b19 (Cs #[Iv 0, Iv 0, Iv 0, Iv 0, Iv 0, Iv 0] 25), pt b25 (Cs #[Iv x48.1, Iv x48.2.1, Iv x50.1, Iv x50.2.1, Iv x31, Iv x32] 25)] := hD; clear hD
         replace hf : Fr a 119 [] [(102, Pv b35 1), (8, Pv b19 0), (9, Iv 0), (14, Pv b24 0), (15, Pv b25 0), (17, Pv b35 0), (18, Iv 2), (87, Iv 2), (88, Bv true), (89, Iv 2), (107, Iv 2)] := hf
         refine O.val hf rfl rfl rfl (RunV.load1 T_agg_2 rfl (hS.ptAt (i := 1) rfl) rfl) ?_; clear hf a; intro a hf
         exact O.nil ⟨rfl, hf.to trivial, (fun d hd => by cases (show some 103 = some d from hd); exact hf.get _ _ rfl), (Or.inl ⟨h15_, h17_, hS⟩)⟩
        ·exact absurd ((hsb 15 (by simp)).symm.trans h15_) (by decide)
        ·exact absurd ((hsb 15 (by simp)).symm.trans h15_) (by decide)
       ·intro s g w hsp hsb hD a hf
        rcases hD with (⟨h15_, h17_, hD⟩ | ⟨h15_, h17_, hD⟩ | ⟨h15_, h17_, hD⟩)
        ·have hS : St w0 w noX [] [pt b24 (Cs #[.func (.func 22) #[] #[], .func (.func 23) #[] #[], .func (.func 24) #[] #[], .func (.func 25) #[] #[], Iv x50.2.2] 48), pt b35 (Cs #[Iv x39.1, Iv x39.2.1] 23), pt b18 (Cs #[Iv x14, Iv x15] 23), pt b19 (Cs #[Iv 0, Iv 0, Iv 0, Iv 0, Iv 0, Iv 0] 25), pt b25 (Cs #[Iv x48.1, Iv x48.2.1, Iv x50.1, Iv x50.2.1, Iv x31, Iv x32] 25)] := hD; clear hD
         replace hf : Fr a 119 [] [(101, Iv (IntKind.i64.wrap (0 - x39.2.1))), (103, Iv x39.2.1), (8, Pv b19 0), (9, Iv 0), (14, Pv b24 0), (15, Pv b25 0), (17, Pv b35 0), (18, Iv 2), (87, Iv 2), (88, Bv true), (89, Iv 2), (107, Iv 2)] := hf
         refine O.val (v := .agg #[Iv (IntKind.i64.wrap (0 - x39.2.1)), Iv x39.2.1]) hf rfl rfl rfl (RunV.buildS (cs' := #[Iv (IntKind.i64.wrap (0 - x39.2.1)), Iv x39.2.1]) T_places_23 T_zero_23 rfl (by kernel_rfl)) ?_; clear hf a; intro a hf
         exact O.nil ⟨rfl, hf.to trivial, (fun d hd => by cases (show some 104 = some d from hd); exact hf.get _ _ rfl), (Or.inl ⟨h15_, h17_, hS⟩)⟩
        ·exact absurd ((hsb 15 (by simp)).symm.trans h15_) (by decide)
        ·exact absurd ((hsb 15 (by simp)).symm.trans h15_) (by decide)
       ·intro s g w hsp hsb hD a hf
        rcases hD with (⟨h15_, h17_, hD⟩ | ⟨h15_, h17_, hD⟩ | ⟨h15_, h17_, hD⟩)
        ·exact absurd ((hsp 15 (by simp)).symm.trans h15_) (by decide)
        ·have hS : St w0 w noX [] [pt b24 (Cs #[.func (.func 22) #[] #[], .func (.func 23) #[] #[], .func (.func 24) #[] #[], .func (.func 25) #[] #[], Iv x52.2.2] 48), pt b35 (Cs #[Iv x39.1, Iv x39.2.1] 23), pt b18 (Cs #[Iv x14, Iv x15] 23), pt b19 (Cs #[Iv 0, Iv 0, Iv 0, Iv 0, Iv 0, Iv 0] 25), pt b25 (Cs #[Iv x48.1, Iv x48.2.1, Iv x50.1, Iv x50.2.1, Iv x31, Iv x32] 25)] := hD; clear hD
         replace hf : Fr a 119 [] [(90, Iv 2), (91, Pv b24 0), (92, Pv b24 0), (93, Pv b24 0), (94, Pv b24 0), (95, .func (.func 22) #[] #[]), (96, Iv 2), (97, Pv b25 4), (98, .agg #[Iv x31, Iv x32]), (99, Pv b35 1), (100, Iv x39.2.1), (101, Iv (IntKind.i64.wrap (0 - x39.2.1))), (102, Pv b35 1), (103, Iv x39.2.1), (104, .agg #[Iv (IntKind.i64.wrap (0 - x39.2.1)), Iv x39.2.1]), (105, .agg #[Iv x52.1, Iv x52.2.1]), (8, Pv b19 0), (9, Iv 0), (14, Pv b24 0), (15, Pv b25 0), (17, Pv b35 0), (18, Iv 2), (87, Iv 2), (88, Bv true), (89, Iv 2), (107, Iv 2)] := hf
         refine O.val hf rfl rfl rfl (RunV.indexArr (j := 2) (m := 4) T_arr_25 T_size_23 rfl rfl rfl (by decide) rfl) ?_; clear hf a; intro a hf
         exact O.nil ⟨rfl, hf.to trivial, (fun d hd => by cases (show some 106 = some d from hd); exact hf.get _ _ rfl), (Or.inr (Or.inl ⟨h15_, h17_, hS⟩))⟩
        ·exact absurd ((hsb 17 (by simp)).symm.trans h17_) (by decide)
      ·clear hf hf1 hS
       refine ⟨?_, ?_, trivial⟩
       ·intro s g w hs0 hsp hsb hD a hf
        rcases hD with (⟨h15_, h17_, hD⟩ | ⟨h15_, h17_, hD⟩ | ⟨h15_, h17_, hD⟩)
        ·have hS : St w0 w noX [] [pt b24 (Cs #[.func (.func 22) #[] #[], .func (.func 23) #[] #[], .func (.func 24) #[] #[], .func (.func 25) #[] #[], Iv x50.2.2] 48), pt b35 (Cs #[Iv x39.1, Iv x39.2.1] 23), pt b18 (Cs #[Iv x14, Iv x15] 23), pt b19 (Cs #[Iv 0, Iv 0, Iv 0, Iv 0, Iv 0, Iv 0] 25), pt b25 (Cs #[Iv x48.1, Iv x48.2.1, Iv x50.1, Iv x50.2.1, Iv x31, Iv x32] 25)] := hD; clear hD
         replace hf : Fr a 119 [] [(91, Pv b24 0), (95, .func (.func 22) #[] #[]), (98, .agg #[Iv x31, Iv x32]), (104, .agg #[Iv (IntKind.i64.wrap (0 - x39.2.1)), Iv x39.2.1]), (8, Pv b19 0), (9, Iv 0), (14, Pv b24 0), (15, Pv b25 0), (17, Pv b35 0), (18, Iv 2), (87, Iv 2), (88, Bv true), (89, Iv 2), (107, Iv 2)] := hf
         refine O.callR hf rfl rfl rfl (RunE.call (av := #[Pv b24 0, .func (.func 22) #[] #[], .agg #[Iv x31, Iv x32], .agg #[Iv (IntKind.i64.wrap (0 - x39.2.1)), Iv x39.2.1]]) C_ok_13 rfl rfl rfl) (m_cells_sheet_do_ok F b24 x50.2.2 x31 x32 (IntKind.i64.wrap (0 - x39.2.1)) x39.2.1 _ (hS.ptAt (i := 0) rfl) x52 hx52) ?_
         clear hf a; rintro _ w hS1 a hf
         replace hf : Fr a _ _ ((105, .agg #[Iv x52.1, Iv x52.2.1]) :: _) := hf
         replace hS := (hS.callX1 hS1 (i := 0) rfl (fun _ h => h)).eqM (N := [pt b24 (Cs #[.func (.func 22) #[] #[], .func (.func 23) #[] #[], .func (.func 24) #[] #[], .func (.func 25) #[] #[], Iv x52.2.2] 48), pt b35 (Cs #[Iv x39.1, Iv x39.2.1] 23), pt b18 (Cs #[Iv x14, Iv x15] 23), pt b19 (Cs #[Iv 0, Iv 0, Iv 0, Iv 0, Iv 0, Iv 0] 25), pt b25 (Cs #[Iv x48.1, Iv x48.2.1, Iv x50.1, Iv x50.2.1, Iv x31, Iv x32] 25)]) rfl
         clear hS1
         exact O.nil ⟨rfl, (), hf.to trivial, (fun d hd => by cases (show some 105 = some d from hd); exact hf.get _ _ rfl), (fun j hj hk => match j, hj, hk with | 0, hj, hk => rfl | 1, hj, hk => rfl | 2, hj, hk => rfl | 3, hj, hk => rfl | 4, hj, hk => rfl | 5, hj, hk => rfl | 6, hj, hk => rfl | 7, hj, hk => rfl | 8, hj, hk => rfl | 9, hj, hk => rfl | 10, hj, hk => rfl | 11, hj, hk => rfl | 12, hj, hk => rfl | 13, hj, hk => rfl | 14, hj, hk => rfl | 15, hj, hk => absurd rfl hj | 16, hj, hk => absurd hk (by decide) | 17, hj, hk => absurd hk (by decide) | _ + 18, _, _ => rfl), (Or.inr (Or.inl ⟨rfl, h17_, hS⟩))⟩
        ·exact absurd (hs0.symm.trans h15_) (by decide)
        ·exact absurd (hs0.symm.trans h15_) (by decide)
       ·intro s g w hs0 hsp hsb hD a hf
        rcases hD with (⟨h15_, h17_, hD⟩ | ⟨h15_, h17_, hD⟩ | ⟨h15_, h17_, hD⟩)
        ·exact absurd ((hsp 15 (by simp)).symm.trans h15_) (by decide)
        ·have hS : St w0 w noX [] [pt b24 (Cs #[.func (.func 22) #[] #[], .func (.func 23) #[] #[], .func (.func 24) #[] #[], .func (.func 25) #[] #[], Iv x52.2.2] 48), pt b35 (Cs #[Iv x39.1, Iv x39.2.1] 23), pt b18 (Cs #[Iv x14, Iv x15] 23), pt b19 (Cs #[Iv 0, Iv 0, Iv 0, Iv 0, Iv 0, Iv 0] 25), pt b25 (Cs #[Iv x48.1, Iv x48.2.1, Iv x50.1, Iv x50.2.1, Iv x31, Iv x32] 25)] := hD; clear hD
         replace hf : Fr a 119 [] [(90, Iv 2), (91, Pv b24 0), (92, Pv b24 0), (93, Pv b24 0), (94, Pv b24 0), (95, .func (.func 22) #[] #[]), (96, Iv 2), (97, Pv b25 4), (98, .agg #[Iv x31, Iv x32]), (99, Pv b35 1), (100, Iv x39.2.1), (101, Iv (IntKind.i64.wrap (0 - x39.2.1))), (102, Pv b35 1), (103, Iv x39.2.1), (104, .agg #[Iv (IntKind.i64.wrap (0 - x39.2.1)), Iv x39.2.1]), (105, .agg #[Iv x52.1, Iv x52.2.1]), (106, Pv b25 4), (8, Pv b19 0), (9, Iv 0), (14, Pv b24 0), (15, Pv b25 0), (17, Pv b35 0), (18, Iv 2), (87, Iv 2), (88, Bv true), (89, Iv 2), (107, Iv 2)] := hf
         refine O.store (j := 4) (cs' := #[Iv x48.1, Iv x48.2.1, Iv x50.1, Iv x50.2.1, Iv x52.1, Iv x52.2.1]) (M' := [pt b24 (Cs #[.func (.func 22) #[] #[], .func (.func 23) #[] #[], .func (.func 24) #[] #[], .func (.func 25) #[] #[], Iv x52.2.2] 48), pt b35 (Cs #[Iv x39.1, Iv x39.2.1] 23), pt b18 (Cs #[Iv x14, Iv x15] 23), pt b19 (Cs #[Iv 0, Iv 0, Iv 0, Iv 0, Iv 0, Iv 0] 25), pt b25 (Cs #[Iv x48.1, Iv x48.2.1, Iv x50.1, Iv x50.2.1, Iv x52.1, Iv x52.2.1] 25)]) hf hS rfl rfl rfl T_size_23 rfl rfl rfl (Nat.le_of_ble_eq_true rfl) rfl rfl ?_
         clear hS; intro w hS
         exact O.nil ⟨rfl, (), hf.to trivial, (fun d hd => by cases (show none = some d from hd)), (fun j hj hk => match j, hj, hk with | 0, hj, hk => rfl | 1, hj, hk => rfl | 2, hj, hk => rfl | 3, hj, hk => rfl | 4, hj, hk => rfl | 5, hj, hk => rfl | 6, hj, hk => rfl | 7, hj, hk => rfl | 8, hj, hk => rfl | 9, hj, hk => rfl | 10, hj, hk => rfl | 11, hj, hk => rfl | 12, hj, hk => rfl | 13, hj, hk => rfl | 14, hj, hk => rfl | 15, hj, hk => rfl | 16, hj, hk => rfl | 17, hj, hk => absurd rfl hj | _ + 18, _, _ => rfl), (Or.inr (Or.inr ⟨h15_, rfl, hS⟩))⟩
        ·exact absurd (hs0.symm.trans h17_) (by decide)
      clear hf hf1 hS; intro s g a w hs hf hD
      rcases hD with (⟨h15_, h17_, hD⟩ | ⟨h15_, h17_, hD⟩ | ⟨h15_, h17_, hD⟩)
      · exact absurd ((hs 15 (by simp)).symm.trans h15_) (by decide)
      · exact absurd ((hs 17 (by simp)).symm.trans h17_) (by decide)
      have hS : St w0 w noX [] [pt b24 (Cs #[.func (.func 22) #[] #[], .func (.func 23) #[] #[], .func (.func 24) #[] #[], .func (.func 25) #[] #[], Iv x52.2.2] 48), pt b35 (Cs #[Iv x39.1, Iv x39.2.1] 23), pt b18 (Cs #[Iv x14, Iv x15] 23), pt b19 (Cs #[Iv 0, Iv 0, Iv 0, Iv 0, Iv 0, Iv 0] 25), pt b25 (Cs #[Iv x48.1, Iv x48.2.1, Iv x50.1, Iv x50.2.1, Iv x52.1, Iv x52.2.1] 25)] := hD; clear hD
      replace hf : Fr a 119 [] [(90, Iv 2), (91, Pv b24 0), (92, Pv b24 0), (93, Pv b24 0), (94, Pv b24 0), (95, .func (.func 22) #[] #[]), (96, Iv 2), (97, Pv b25 4), (98, .agg #[Iv x31, Iv x32]), (99, Pv b35 1), (100, Iv x39.2.1), (101, Iv (IntKind.i64.wrap (0 - x39.2.1))), (102, Pv b35 1), (103, Iv x39.2.1), (104, .agg #[Iv (IntKind.i64.wrap (0 - x39.2.1)), Iv x39.2.1]), (105, .agg #[Iv x52.1, Iv x52.2.1]), (106, Pv b25 4), (8, Pv b19 0), (9, Iv 0), (14, Pv b24 0), (15, Pv b25 0), (17, Pv b35 0), (18, Iv 2), (87, Iv 2), (88, Bv true), (89, Iv 2), (107, Iv 2)] := hf
      refine k_blk_normal ?_
      refine k_seq ?_
      obtain ⟨x53, hx53, hm⟩ := hm_b hm
      rw [Option.some.inj hx53] at hf
      -- region 27
      refine W.regionL (l := [0, 1]) rfl ?_
      refine O.val (v := Iv 3) hf rfl rfl rfl (RunV.add (p := 2) (q := 1) rfl rfl) ?_; clear hf a; intro a hf
      refine O.val hf rfl rfl rfl (RunV.move rfl) ?_; clear hf a; intro a hf
      refine O.nil ?_
      refine k_then (LH.step ?_)
      refine W.seq ?_
      -- region 24
      refine W.regionL (l := [0]) rfl ?_
      refine O.val (v := Bv false) hf rfl rfl rfl (RunV.lss (p := 3) (q := 3) rfl rfl) ?_; clear hf a; intro a hf
      refine O.nil ?_
      refine k_seq ?_
      refine W.seq ?_
      refine W.if_ff hf rfl ?_
      refine W.exit ?_
      refine k_then_exit ?_
      refine k_then_exit ?_
      refine k_blk ?_
      replace hS := hS.front (i := 4) (M' := [pt b25 (Cs #[Iv x48.1, Iv x48.2.1, Iv x50.1, Iv x50.2.1, Iv x52.1, Iv x52.2.1] 25), pt b24 (Cs #[.func (.func 22) #[] #[], .func (.func 23) #[] #[], .func (.func 24) #[] #[], .func (.func 25) #[] #[], Iv x52.2.2] 48), pt b35 (Cs #[Iv x39.1, Iv x39.2.1] 23), pt b18 (Cs #[Iv x14, Iv x15] 23), pt b19 (Cs #[Iv 0, Iv 0, Iv 0, Iv 0, Iv 0, Iv 0] 25)]) rfl rfl
      replace hS := hS.front (i := 1) (M' := [pt b24 (Cs #[.func (.func 22) #[] #[], .func (.func 23) #[] #[], .func (.func 24) #[] #[], .func (.func 25) #[] #[], Iv x52.2.2] 48), pt b25 (Cs #[Iv x48.1, Iv x48.2.1, Iv x50.1, Iv x50.2.1, Iv x52.1, Iv x52.2.1] 25), pt b35 (Cs #[Iv x39.1, Iv x39.2.1] 23), pt b18 (Cs #[Iv x14, Iv x15] 23), pt b19 (Cs #[Iv 0, Iv 0, Iv 0, Iv 0, Iv 0, Iv 0] 25)]) rfl rfl
      replace hS := hS.front (i := 4) (M' := [pt b19 (Cs #[Iv 0, Iv 0, Iv 0, Iv 0, Iv 0, Iv 0] 25), pt b24 (Cs #[.func (.func 22) #[] #[], .func (.func 23) #[] #[], .func (.func 24) #[] #[], .func (.func 25) #[] #[], Iv x52.2.2] 48), pt b25 (Cs #[Iv x48.1, Iv x48.2.1, Iv x50.1, Iv x50.2.1, Iv x52.1, Iv x52.2.1] 25), pt b35 (Cs #[Iv x39.1, Iv x39.2.1] 23), pt b18 (Cs #[Iv x14, Iv x15] 23)]) rfl rfl
      replace hS := hS.sub (N := [pt b19 (Cs #[Iv 0, Iv 0, Iv 0, Iv 0, Iv 0, Iv 0] 25), pt b24 (Cs #[.func (.func 22) #[] #[], .func (.func 23) #[] #[], .func (.func 24) #[] #[], .func (.func 25) #[] #[], Iv x52.2.2] 48), pt b25 (Cs #[Iv x48.1, Iv x48.2.1, Iv x50.1, Iv x50.2.1, Iv x52.1, Iv x52.2.1] 25)]) (.cons_cons _ (.cons_cons _ (.cons_cons _ (.cons _ (.cons _ .slnil)))))
      exact k_then ⟨x52.2.2, x48.1, x48.2.1, x50.1, x50.2.1, x52.1, x52.2.1, hf.to ⟨rfl, rfl, rfl, rfl, trivial⟩, hS, hm⟩
     ·clear hf hS hm a; try clear w
      rintro a w ⟨x40, x41, x42, x43, x44, x45, x46, hf, hS, hm⟩
      unfold m_cells_Ahead_j1 at hm
      refine W.seq ?_
      refine W.seq ?_
      -- region 28
      refine W.regionL (l := [0, 1, 2, 3, 4]) rfl ?_
      refine O.val hf rfl rfl rfl (RunV.move rfl) ?_; clear hf a; intro a hf
      refine O.val hf rfl rfl rfl (RunV.nilCheck rfl) ?_; clear hf a; intro a hf
      refine O.val hf rfl rfl rfl (RunV.field T_field_48_4 rfl rfl) ?_; clear hf a; intro a hf
      refine O.val hf rfl rfl rfl (RunV.load1 T_agg_28 rfl (hS.ptAt (i := 1) rfl) rfl) ?_; clear hf a; intro a hf
      refine O.val (v := Bv (decide (x40 ≠ (0 : Int)))) hf rfl rfl rfl (RunV.neq rfl rfl) ?_; clear hf a; intro a hf
      refine O.nil ?_
      refine k_seq ?_
      replace hf : Fr a 119 [] [(8, Pv b19 0), (9, Iv 0), (14, Pv b24 0), (15, Pv b25 0), (112, Bv (decide (x40 ≠ (0 : Int))))] := hf.to ⟨rfl, rfl, rfl, rfl, rfl, trivial⟩
      refine W.ifdI hf rfl (fun hc47 => ?_) (fun hc47 => ?_)
      ·replace hm := hm_p hm hc47
       refine W.seq ?_
       -- region 29, which draws its order
       -- [5] turn memory
       have hf1 : Fr a 119 [] [(9, Iv 0)] := hf.to ⟨rfl, trivial⟩
       replace hf : Fr a 119 [] [(8, Pv b19 0), (14, Pv b24 0), (15, Pv b25 0), (112, Bv (decide (x40 ≠ (0 : Int))))] := hf.to ⟨rfl, rfl, rfl, rfl, trivial⟩
       refine W.drawP (γ := Unit) (L0 := [(8, Pv b19 0), (14, Pv b24 0), (15, Pv b25 0), (112, Bv (decide (x40 ≠ (0 : Int))))]) (L1 := [(9, Iv 0)]) () [5] [0, 1, 2, 3, 4, 6] (fun i => match i with | 0 => [] | 1 => [] | 2 => [1] | 3 => [2] | 4 => [3] | 5 => [0] | 6 => [0, 1, 2, 3, 4, 5] | _ => []) (fun i => match i with | 6 => [5] | _ => []) (fun i => match i with | 0 => [5] | _ => []) (fun i => match i with | 5 => [6] | _ => []) (fun _ => []) (fun (g : Unit) j => match g, j with | _, 0 => .agg #[Iv 0, Iv 0, Iv 0, Iv 0, Iv 0, Iv 0] | _, 1 => Pv b24 0 | _, 2 => Pv b24 0 | _, 3 => Pv b24 4 | _, 4 => Iv x40 | _, 6 => Iv x40 | _, _ => undef) (fun s (g : Unit) w => match g with | _ => (s 5 = false ∧ St w0 w noX [] [pt b19 (Cs #[Iv 0, Iv 0, Iv 0, Iv 0, Iv 0, Iv 0] 25), pt b24 (Cs #[.func (.func 22) #[] #[], .func (.func 23) #[] #[], .func (.func 24) #[] #[], .func (.func 25) #[] #[], Iv x40] 48), pt b25 (Cs #[Iv x41, Iv x42, Iv x43, Iv x44, Iv x45, Iv x46] 25)]) ∨ (s 5 = true ∧ St w0 w noX [] [pt b19 (Cs #[Iv 0, Iv 0, Iv 0, Iv 0, Iv 0, Iv 0] 25), pt b24 (Cs #[.func (.func 22) #[] #[], .func (.func 23) #[] #[], .func (.func 24) #[] #[], .func (.func 25) #[] #[], Iv x40] 48), pt b25 (Cs #[Iv x41, Iv x42, Iv x43, Iv x44, Iv x45, Iv x46] 25)])) P_mixed (by kernel_rfl) hf hf1 (Or.inl ⟨rfl, hS.drew⟩) ?_ ?_ ?_
       ·clear hf hf1 hS
        refine ⟨?_, ?_, ?_, ?_, ?_, ?_, trivial⟩
        ·intro s g w hsp hsb hD a hf
         rcases hD with (⟨h5_, hD⟩ | ⟨h5_, hD⟩)
         ·have hS : St w0 w noX [] [pt b19 (Cs #[Iv 0, Iv 0, Iv 0, Iv 0, Iv 0, Iv 0] 25), pt b24 (Cs #[.func (.func 22) #[] #[], .func (.func 23) #[] #[], .func (.func 24) #[] #[], .func (.func 25) #[] #[], Iv x40] 48), pt b25 (Cs #[Iv x41, Iv x42, Iv x43, Iv x44, Iv x45, Iv x46] 25)] := hD; clear hD
          replace hf : Fr a 119 [] [(8, Pv b19 0), (14, Pv b24 0), (15, Pv b25 0), (112, Bv (decide (x40 ≠ (0 : Int))))] := hf
          refine O.val (v := .agg #[Iv 0, Iv 0, Iv 0, Iv 0, Iv 0, Iv 0]) hf rfl rfl rfl (RunV.buildA (cs' := #[Iv 0, Iv 0, Iv 0, Iv 0, Iv 0, Iv 0]) T_arr_25 T_size_23 T_zero_25 rfl (by kernel_rfl)) ?_; clear hf a; intro a hf
          exact O.nil ⟨rfl, hf.to trivial, (fun d hd => by cases (show some 113 = some d from hd); exact hf.get _ _ rfl), (Or.inl ⟨h5_, hS⟩)⟩
         ·exact absurd ((hsb 5 (by simp)).symm.trans h5_) (by decide)
        ·intro s g w hsp hsb hD a hf
         rcases hD with (⟨h5_, hD⟩ | ⟨h5_, hD⟩)
         ·have hS : St w0 w noX [] [pt b19 (Cs #[Iv 0, Iv 0, Iv 0, Iv 0, Iv 0, Iv 0] 25), pt b24 (Cs #[.func (.func 22) #[] #[], .func (.func 23) #[] #[], .func (.func 24) #[] #[], .func (.func 25) #[] #[], Iv x40] 48), pt b25 (Cs #[Iv x41, Iv x42, Iv x43, Iv x44, Iv x45, Iv x46] 25)] := hD; clear hD
          replace hf : Fr a 119 [] [(8, Pv b19 0), (14, Pv b24 0), (15, Pv b25 0), (112, Bv (decide (x40 ≠ (0 : Int))))] := hf
          refine O.val hf rfl rfl rfl (RunV.move rfl) ?_; clear hf a; intro a hf
          exact O.nil ⟨rfl, hf.to trivial, (fun d hd => by cases (show some 114 = some d from hd); exact hf.get _ _ rfl), (Or.inl ⟨h5_, hS⟩)⟩
         ·have hS : St w0 w noX [] [pt b19 (Cs #[Iv 0, Iv 0, Iv 0, Iv 0, Iv 0, Iv 0] 25), pt b24 (Cs #[.func (.func 22) #[] #[], .func (.func 23) #[] #[], .func (.func 24) #[] #[], .func (.func 25) #[] #[], Iv x40] 48), pt b25 (Cs #[Iv x41, Iv x42, Iv x43, Iv x44, Iv x45, Iv x46] 25)] := hD; clear hD
          replace hf : Fr a 119 [] [(8, Pv b19 0), (14, Pv b24 0), (15, Pv b25 0), (112, Bv (decide (x40 ≠ (0 : Int))))] := hf
          refine O.val hf rfl rfl rfl (RunV.move rfl) ?_; clear hf a; intro a hf
          exact O.nil ⟨rfl, hf.to trivial, (fun d hd => by cases (show some 114 = some d from hd); exact hf.get _ _ rfl), (Or.inr ⟨h5_, hS⟩)⟩
        ·intro s g w hsp hsb hD a hf
         rcases hD with (⟨h5_, hD⟩ | ⟨h5_, hD⟩)
         ·have hS : St w0 w noX [] [pt b19 (Cs #[Iv 0, Iv 0, Iv 0, Iv 0, Iv 0, Iv 0] 25), pt b24 (Cs #[.func (.func 22) #[] #[], .func (.func 23) #[] #[], .func (.func 24) #[] #[], .func (.func 25) #[] #[], Iv x40] 48), pt b25 (Cs #[Iv x41, Iv x42, Iv x43, Iv x44, Iv x45, Iv x46] 25)] := hD; clear hD
          replace hf : Fr a 119 [] [(114, Pv b24 0), (8, Pv b19 0), (14, Pv b24 0), (15, Pv b25 0), (112, Bv (decide (x40 ≠ (0 : Int))))] := hf
          refine O.val hf rfl rfl rfl (RunV.nilCheck rfl) ?_; clear hf a; intro a hf
          exact O.nil ⟨rfl, hf.to trivial, (fun d hd => by cases (show some 115 = some d from hd); exact hf.get _ _ rfl), (Or.inl ⟨h5_, hS⟩)⟩
         ·have hS : St w0 w noX [] [pt b19 (Cs #[Iv 0, Iv 0, Iv 0, Iv 0, Iv 0, Iv 0] 25), pt b24 (Cs #[.func (.func 22) #[] #[], .func (.func 23) #[] #[], .func (.func 24) #[] #[], .func (.func 25) #[] #[], Iv x40] 48), pt b25 (Cs #[Iv x41, Iv x42, Iv x43, Iv x44, Iv x45, Iv x46] 25)] := hD; clear hD
          replace hf : Fr a 119 [] [(114, Pv b24 0), (8, Pv b19 0), (14, Pv b24 0), (15, Pv b25 0), (112, Bv (decide (x40 ≠ (0 : Int))))] := hf
          refine O.val hf rfl rfl rfl (RunV.nilCheck rfl) ?_; clear hf a; intro a hf
          exact O.nil ⟨rfl, hf.to trivial, (fun d hd => by cases (show some 115 = some d from hd); exact hf.get _ _ rfl), (Or.inr ⟨h5_, hS⟩)⟩
        ·intro s g w hsp hsb hD a hf
         rcases hD with (⟨h5_, hD⟩ | ⟨h5_, hD⟩)
         ·have hS : St w0 w noX [] [pt b19 (Cs #[Iv 0, Iv 0, Iv 0, Iv 0, Iv 0, Iv 0] 25), pt b24 (Cs #[.func (.func 22) #[] #[], .func (.func 23) #[] #[], .func (.func 24) #[] #[], .func (.func 25) #[] #[], Iv x40] 48), pt b25 (Cs #[Iv x41, Iv x42, Iv x43, Iv x44, Iv x45, Iv x46] 25)] := hD; clear hD
          replace hf : Fr a 119 [] [(115, Pv b24 0), (8, Pv b19 0), (14, Pv b24 0), (15, Pv b25 0), (112, Bv (decide (x40 ≠ (0 : Int))))] := hf
          refine O.val hf rfl rfl rfl (RunV.field T_field_48_4 rfl rfl) ?_; clear hf a; intro a hf
          exact O.nil ⟨rfl, hf.to trivial, (fun d hd => by cases (show some 116 = some d from hd); exact hf.get _ _ rfl), (Or.inl ⟨h5_, hS⟩)⟩
         ·have hS : St w0 w noX [] [pt b19 (Cs #[Iv 0, Iv 0, Iv 0, Iv 0, Iv 0, Iv 0] 25), pt b24 (Cs #[.func (.func 22) #[] #[], .func (.func 23) #[] #[], .func (.func 24) #[] #[], .func (.func 25) #[] #[], Iv x40] 48), pt b25 (Cs #[Iv x41, Iv x42, Iv x43, Iv x44, Iv x45, Iv x46] 25)] := hD; clear hD
          replace hf : Fr a 119 [] [(115, Pv b24 0), (8, Pv b19 0), (14, Pv b24 0), (15, Pv b25 0), (112, Bv (decide (x40 ≠ (0 : Int))))] := hf
          refine O.val hf rfl rfl rfl (RunV.field T_field_48_4 rfl rfl) ?_; clear hf a; intro a hf
          exact O.nil ⟨rfl, hf.to trivial, (fun d hd => by cases (show some 116 = some d from hd); exact hf.get _ _ rfl), (Or.inr ⟨h5_, hS⟩)⟩
        ·intro s g w hsp hsb hD a hf
         rcases hD with (⟨h5_, hD⟩ | ⟨h5_, hD⟩)
         ·have hS : St w0 w noX [] [pt b19 (Cs #[Iv 0, Iv 0, Iv 0, Iv 0, Iv 0, Iv 0] 25), pt b24 (Cs #[.func (.func 22) #[] #[], .func (.func 23) #[] #[], .func (.func 24) #[] #[], .func (.func 25) #[] #[], Iv x40] 48), pt b25 (Cs #[Iv x41, Iv x42, Iv x43, Iv x44, Iv x45, Iv x46] 25)] := hD; clear hD
          replace hf : Fr a 119 [] [(116, Pv b24 4), (8, Pv b19 0), (14, Pv b24 0), (15, Pv b25 0), (112, Bv (decide (x40 ≠ (0 : Int))))] := hf
          refine O.val hf rfl rfl rfl (RunV.load1 T_agg_28 rfl (hS.ptAt (i := 1) rfl) rfl) ?_; clear hf a; intro a hf
          exact O.nil ⟨rfl, hf.to trivial, (fun d hd => by cases (show some 117 = some d from hd); exact hf.get _ _ rfl), (Or.inl ⟨h5_, hS⟩)⟩
         ·have hS : St w0 w noX [] [pt b19 (Cs #[Iv 0, Iv 0, Iv 0, Iv 0, Iv 0, Iv 0] 25), pt b24 (Cs #[.func (.func 22) #[] #[], .func (.func 23) #[] #[], .func (.func 24) #[] #[], .func (.func 25) #[] #[], Iv x40] 48), pt b25 (Cs #[Iv x41, Iv x42, Iv x43, Iv x44, Iv x45, Iv x46] 25)] := hD; clear hD
          replace hf : Fr a 119 [] [(116, Pv b24 4), (8, Pv b19 0), (14, Pv b24 0), (15, Pv b25 0), (112, Bv (decide (x40 ≠ (0 : Int))))] := hf
          refine O.val hf rfl rfl rfl (RunV.load1 T_agg_28 rfl (hS.ptAt (i := 1) rfl) rfl) ?_; clear hf a; intro a hf
          exact O.nil ⟨rfl, hf.to trivial, (fun d hd => by cases (show some 117 = some d from hd); exact hf.get _ _ rfl), (Or.inr ⟨h5_, hS⟩)⟩
        ·intro s g w hsp hsb hD a hf
         rcases hD with (⟨h5_, hD⟩ | ⟨h5_, hD⟩)
         ·exact absurd ((hsp 5 (by simp)).symm.trans h5_) (by decide)
         ·have hS : St w0 w noX [] [pt b19 (Cs #[Iv 0, Iv 0, Iv 0, Iv 0, Iv 0, Iv 0] 25), pt b24 (Cs #[.func (.func 22) #[] #[], .func (.func 23) #[] #[], .func (.func 24) #[] #[], .func (.func 25) #[] #[], Iv x40] 48), pt b25 (Cs #[Iv x41, Iv x42, Iv x43, Iv x44, Iv x45, Iv x46] 25)] := hD; clear hD
          replace hf : Fr a 119 [] [(113, .agg #[Iv 0, Iv 0, Iv 0, Iv 0, Iv 0, Iv 0]), (114, Pv b24 0), (115, Pv b24 0), (116, Pv b24 4), (117, Iv x40), (8, Pv b19 0), (14, Pv b24 0), (15, Pv b25 0), (112, Bv (decide (x40 ≠ (0 : Int))))] := hf
          refine O.val hf rfl rfl rfl (RunV.assign rfl) ?_; clear hf a; intro a hf
          exact O.nil ⟨rfl, hf.to trivial, (fun d hd => by cases (show some 9 = some d from hd); exact hf.get _ _ rfl), (Or.inr ⟨h5_, hS⟩)⟩
       ·clear hf hf1 hS
        refine ⟨?_, trivial⟩
        ·intro s g w hs0 hsp hsb hD a hf
         rcases hD with (⟨h5_, hD⟩ | ⟨h5_, hD⟩)
         ·have hS : St w0 w noX [] [pt b19 (Cs #[Iv 0, Iv 0, Iv 0, Iv 0, Iv 0, Iv 0] 25), pt b24 (Cs #[.func (.func 22) #[] #[], .func (.func 23) #[] #[], .func (.func 24) #[] #[], .func (.func 25) #[] #[], Iv x40] 48), pt b25 (Cs #[Iv x41, Iv x42, Iv x43, Iv x44, Iv x45, Iv x46] 25)] := hD; clear hD
          replace hf : Fr a 119 [] [(113, .agg #[Iv 0, Iv 0, Iv 0, Iv 0, Iv 0, Iv 0]), (8, Pv b19 0), (14, Pv b24 0), (15, Pv b25 0), (112, Bv (decide (x40 ≠ (0 : Int))))] := hf
          refine O.store (j := 0) (cs' := #[Iv 0, Iv 0, Iv 0, Iv 0, Iv 0, Iv 0]) (M' := [pt b19 (Cs #[Iv 0, Iv 0, Iv 0, Iv 0, Iv 0, Iv 0] 25), pt b24 (Cs #[.func (.func 22) #[] #[], .func (.func 23) #[] #[], .func (.func 24) #[] #[], .func (.func 25) #[] #[], Iv x40] 48), pt b25 (Cs #[Iv x41, Iv x42, Iv x43, Iv x44, Iv x45, Iv x46] 25)]) hf hS rfl rfl rfl T_size_25 rfl rfl rfl (Nat.le_of_ble_eq_true rfl) rfl rfl ?_
          clear hS; intro w hS
          exact O.nil ⟨rfl, (), hf.to trivial, (fun d hd => by cases (show none = some d from hd)), (fun j hj hk => match j, hj, hk with | 0, hj, hk => rfl | 1, hj, hk => rfl | 2, hj, hk => rfl | 3, hj, hk => rfl | 4, hj, hk => rfl | 5, hj, hk => absurd rfl hj | 6, hj, hk => absurd hk (by decide) | _ + 7, _, _ => rfl), (Or.inr ⟨rfl, hS⟩)⟩
         ·exact absurd (hs0.symm.trans h5_) (by decide)
       clear hf hf1 hS; intro s g a w hs hf hD
       rcases hD with (⟨h5_, hD⟩ | ⟨h5_, hD⟩)
       · exact absurd ((hs 5 (by simp)).symm.trans h5_) (by decide)
       have hS : St w0 w noX [] [pt b19 (Cs #[Iv 0, Iv 0, Iv 0, Iv 0, Iv 0, Iv 0] 25), pt b24 (Cs #[.func (.func 22) #[] #[], .func (.func 23) #[] #[], .func (.func 24) #[] #[], .func (.func 25) #[] #[], Iv x40] 48), pt b25 (Cs #[Iv x41, Iv x42, Iv x43, Iv x44, Iv x45, Iv x46] 25)] := hD; clear hD
       replace hf : Fr a 119 [] [(113, .agg #[Iv 0, Iv 0, Iv 0, Iv 0, Iv 0, Iv 0]), (114, Pv b24 0), (115, Pv b24 0), (116, Pv b24 4), (117, Iv x40), (9, Iv x40), (8, Pv b19 0), (14, Pv b24 0), (15, Pv b25 0), (112, Bv (decide (x40 ≠ (0 : Int))))] := hf
       refine k_seq ?_
       replace hf : Fr a 119 [] [(8, Pv b19 0), (9, Iv x40), (15, Pv b25 0)] := hf.to ⟨rfl, rfl, rfl, trivial⟩
       refine W.ret ?_
       refine k_then_ret ?_
       obtain rfl := Option.some.inj hm
       refine post2 hf rfl (ResOK.cellN (cs' := #[Iv 0, Iv 0, Iv 0, Iv 0, Iv 0, Iv 0]) rfl T_agg_25 T_size_25 (hS.ptAt (i := 0) rfl) (Nat.le_of_ble_eq_true rfl) rfl) (ResOK.tmp rfl) ?_
       replace hS := hS.sub (N := []) (.cons _ (.cons _ (.cons _ .slnil)))
       exact ⟨(), rfl, hS.noB⟩
      ·replace hm := hm_n hm hc47
       refine W.skip ?_
       refine k_seq ?_
       replace hf : Fr a 119 [] [(8, Pv b19 0), (9, Iv 0), (15, Pv b25 0)] := hf.to ⟨rfl, rfl, rfl, trivial⟩
       refine W.seq ?_
       -- region 30
       refine W.regionL (l := [0, 1, 2]) rfl ?_
       refine O.val hf rfl rfl rfl (RunV.loadN (cs' := #[Iv x41, Iv x42, Iv x43, Iv x44, Iv x45, Iv x46]) T_agg_25 T_size_25 rfl (hS.ptAt (i := 2) rfl) (Nat.le_of_ble_eq_true rfl) rfl) ?_; clear hf a; intro a hf
       refine O.store (j := 0) (cs' := #[Iv x41, Iv x42, Iv x43, Iv x44, Iv x45, Iv x46]) (M' := [pt b19 (Cs #[Iv x41, Iv x42, Iv x43, Iv x44, Iv x45, Iv x46] 25), pt b24 (Cs #[.func (.func 22) #[] #[], .func (.func 23) #[] #[], .func (.func 24) #[] #[], .func (.func 25) #[] #[], Iv x40] 48), pt b25 (Cs #[Iv x41, Iv x42, Iv x43, Iv x44, Iv x45, Iv x46] 25)]) hf hS rfl rfl rfl T_size_25 rfl rfl rfl (Nat.le_of_ble_eq_true rfl) rfl rfl ?_
       clear hS; intro w hS
       refine O.val hf rfl rfl rfl (RunV.assign rfl) ?_; clear hf a; intro a hf
       refine O.nil ?_
       refine k_seq ?_
       replace hf : Fr a 119 [] [(8, Pv b19 0), (9, Iv 0)] := hf.to ⟨rfl, rfl, trivial⟩
       refine W.ret ?_
       obtain rfl := Option.some.inj hm
       refine post2 hf rfl (ResOK.cellN (cs' := #[Iv x41, Iv x42, Iv x43, Iv x44, Iv x45, Iv x46]) rfl T_agg_25 T_size_25 (hS.ptAt (i := 0) rfl) (Nat.le_of_ble_eq_true rfl) rfl) (ResOK.tmp rfl) ?_
       replace hS := hS.sub (N := []) (.cons _ (.cons _ (.cons _ .slnil)))
       exact ⟨(), rfl, hS.noB⟩

end Go.Proofs.Ytplgfmincflodaa
