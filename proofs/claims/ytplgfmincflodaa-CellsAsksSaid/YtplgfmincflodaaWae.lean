/- Part of a proof: walks printed by a program. -/
import Derived.Test.YtplgfmincflodaaWad
set_option linter.unusedVariables false
set_option linter.unusedSimpArgs false
namespace Go.Proofs.Ytplgfmincflodaa
open Go Go.SL
set_option maxHeartbeats 1000000 in
set_option maxRecDepth 8000 in
theorem m_ref30_Ahead_ok (F : Nat)   (x1 : Int) (x2 : Int) (x3 : Int) (x4 : Int) (x5 : Int) (x6 : Int) (x7 : Int) (x8 : Int) (x9 : Int) (x10 : Int) (x11 : Int) (x12 : Int) (x13 : Int) (x14 : Int) (x15 : Int) (w0 : World)  (r : Int × Int × Int × Int × Int × Int × Int) (hm : m_ref30_Ahead F x1 x2 x3 x4 x5 x6 x7 x8 x9 x10 x11 x12 x13 x14 x15 = some r) :
    Ret Try.prog 7 #[.agg #[Iv x1, Iv x2, Iv x3, Iv x4, Iv x5, Iv x6], .agg #[Iv x7, Iv x8, Iv x9, Iv x10, Iv x11, Iv x12], Iv x13, .agg #[Iv x14, Iv x15]] w0 (G := Unit) (fun _ => .tuple #[.agg #[Iv r.1, Iv r.2.1, Iv r.2.2.1, Iv r.2.2.2.1, Iv r.2.2.2.2.1, Iv r.2.2.2.2.2.1], Iv r.2.2.2.2.2.2]) (fun _ w => St w0 w noX [] []) := by
 unfold m_ref30_Ahead at hm
 refine ret_of_W (lv := [.agg #[Iv x1, Iv x2, Iv x3, Iv x4, Iv x5, Iv x6], .agg #[Iv x7, Iv x8, Iv x9, Iv x10, Iv x11, Iv x12], Iv x13, .agg #[Iv x14, Iv x15]]) Try.func7 rfl rfl rfl (fun a hf => ?_)
 replace hf : Fr a 107 [] [(0, .agg #[Iv x1, Iv x2, Iv x3, Iv x4, Iv x5, Iv x6]), (1, .agg #[Iv x7, Iv x8, Iv x9, Iv x10, Iv x11, Iv x12]), (2, Iv x13), (3, .agg #[Iv x14, Iv x15])] := hf
 have hS : St w0 w0 noX [] [] := St.borrow lendAll_nil
 refine W.seq ?_
 -- region 0
 refine W.regionL (l := [0, 1, 2, 3, 4]) rfl ?_
 refine O.box (cs := #[Iv x1, Iv x2, Iv x3, Iv x4, Iv x5, Iv x6]) hf hS rfl rfl rfl rfl ?_
 clear hf hS a; intro b16 w a hb16 hS hf
 refine O.box (cs := #[Iv x7, Iv x8, Iv x9, Iv x10, Iv x11, Iv x12]) hf hS rfl rfl rfl rfl ?_
 clear hf hS a; intro b17 w a hb17 hS hf
 refine O.box (cs := #[Iv x14, Iv x15]) hf hS rfl rfl rfl rfl ?_
 clear hf hS a; intro b18 w a hb18 hS hf
 refine O.alloc (cs := #[Iv 0, Iv 0, Iv 0, Iv 0, Iv 0, Iv 0]) hf hS rfl rfl T_zero_25 rfl ?_
 clear hf hS a; intro b19 w a hb19 hS hf
 refine O.val hf rfl rfl rfl (RunV.assign rfl) ?_; clear hf a; intro a hf
 refine O.nil ?_
 refine k_seq ?_
 replace hf : Fr a 107 [] [(2, Iv x13), (4, Pv b16 0), (5, Pv b17 0), (7, Pv b18 0), (8, Pv b19 0), (9, Iv 0)] := hf.to ⟨rfl, rfl, rfl, rfl, rfl, rfl, trivial⟩
 refine W.seq ?_
 refine W.seq ?_
 -- region 1
 refine W.regionL (l := [0, 1, 2]) rfl ?_
 refine O.val hf rfl rfl rfl (RunV.loadN (cs' := #[Iv x1, Iv x2, Iv x3, Iv x4, Iv x5, Iv x6]) T_agg_25 T_size_25 rfl (hS.ptAt (i := 3) rfl) (Nat.le_of_ble_eq_true rfl) rfl) ?_; clear hf a; intro a hf
 obtain ⟨x20, hx20, hm⟩ := hm_b hm
 refine O.callR hf rfl rfl rfl (RunE.call (av := #[.agg #[Iv x1, Iv x2, Iv x3, Iv x4, Iv x5, Iv x6]]) C_ok_16 rfl rfl rfl) (m_ref17_Check_ok F x1 x2 x3 x4 x5 x6 _ x20 hx20) ?_
 clear hf a; rintro _ w hS1 a hf
 replace hf : Fr a _ _ ((16, Iv x20) :: _) := hf
 replace hS := (hS.call hS1).eqM (N := [pt b19 (Cs #[Iv 0, Iv 0, Iv 0, Iv 0, Iv 0, Iv 0] 25), pt b18 (Cs #[Iv x14, Iv x15] 23), pt b17 (Cs #[Iv x7, Iv x8, Iv x9, Iv x10, Iv x11, Iv x12] 25), pt b16 (Cs #[Iv x1, Iv x2, Iv x3, Iv x4, Iv x5, Iv x6] 25)]) rfl
 clear hS1
 refine O.val (v := Bv (decide (x20 ≠ (0 : Int)))) hf rfl rfl rfl (RunV.neq rfl rfl) ?_; clear hf a; intro a hf
 refine O.nil ?_
 refine k_seq ?_
 replace hf : Fr a 107 [] [(2, Iv x13), (4, Pv b16 0), (5, Pv b17 0), (7, Pv b18 0), (8, Pv b19 0), (9, Iv 0), (17, Bv (decide (x20 ≠ (0 : Int))))] := hf.to ⟨rfl, rfl, rfl, rfl, rfl, rfl, rfl, trivial⟩
 refine W.ifdI hf rfl (fun hc21 => ?_) (fun hc21 => ?_)
 ·replace hm := hm_p hm hc21
  refine W.seq ?_
  -- region 2
  refine W.regionL (l := [0, 1, 2, 3, 4]) rfl ?_
  refine O.val (v := .agg #[Iv 0, Iv 0, Iv 0, Iv 0, Iv 0, Iv 0]) hf rfl rfl rfl (RunV.buildA (cs' := #[Iv 0, Iv 0, Iv 0, Iv 0, Iv 0, Iv 0]) T_arr_25 T_size_23 T_zero_25 rfl (by kernel_rfl)) ?_; clear hf a; intro a hf
  refine O.val hf rfl rfl rfl (RunV.loadN (cs' := #[Iv x1, Iv x2, Iv x3, Iv x4, Iv x5, Iv x6]) T_agg_25 T_size_25 rfl (hS.ptAt (i := 3) rfl) (Nat.le_of_ble_eq_true rfl) rfl) ?_; clear hf a; intro a hf
  obtain ⟨x22, hx22, hm⟩ := hm_b hm
  refine O.callR hf rfl rfl rfl (RunE.call (av := #[.agg #[Iv x1, Iv x2, Iv x3, Iv x4, Iv x5, Iv x6]]) C_ok_16 rfl rfl rfl) (m_ref17_Check_ok F x1 x2 x3 x4 x5 x6 _ x22 hx22) ?_
  clear hf a; rintro _ w hS1 a hf
  replace hf : Fr a _ _ ((20, Iv x22) :: _) := hf
  replace hS := (hS.call hS1).eqM (N := [pt b19 (Cs #[Iv 0, Iv 0, Iv 0, Iv 0, Iv 0, Iv 0] 25), pt b18 (Cs #[Iv x14, Iv x15] 23), pt b17 (Cs #[Iv x7, Iv x8, Iv x9, Iv x10, Iv x11, Iv x12] 25), pt b16 (Cs #[Iv x1, Iv x2, Iv x3, Iv x4, Iv x5, Iv x6] 25)]) rfl
  clear hS1
  refine O.store (j := 0) (cs' := #[Iv 0, Iv 0, Iv 0, Iv 0, Iv 0, Iv 0]) (M' := [pt b19 (Cs #[Iv 0, Iv 0, Iv 0, Iv 0, Iv 0, Iv 0] 25), pt b18 (Cs #[Iv x14, Iv x15] 23), pt b17 (Cs #[Iv x7, Iv x8, Iv x9, Iv x10, Iv x11, Iv x12] 25), pt b16 (Cs #[Iv x1, Iv x2, Iv x3, Iv x4, Iv x5, Iv x6] 25)]) hf hS rfl rfl rfl T_size_25 rfl rfl rfl (Nat.le_of_ble_eq_true rfl) rfl rfl ?_
  clear hS; intro w hS
  refine O.val hf rfl rfl rfl (RunV.assign rfl) ?_; clear hf a; intro a hf
  refine O.nil ?_
  refine k_seq ?_
  replace hf : Fr a 107 [] [(2, Iv x13), (4, Pv b16 0), (5, Pv b17 0), (7, Pv b18 0), (8, Pv b19 0), (9, Iv x22)] := hf.to ⟨rfl, rfl, rfl, rfl, rfl, rfl, trivial⟩
  refine W.ret ?_
  refine k_then_ret ?_
  obtain rfl := Option.some.inj hm
  refine post2 hf rfl (ResOK.cellN (cs' := #[Iv 0, Iv 0, Iv 0, Iv 0, Iv 0, Iv 0]) rfl T_agg_25 T_size_25 (hS.ptAt (i := 0) rfl) (Nat.le_of_ble_eq_true rfl) rfl) (ResOK.tmp rfl) ?_
  replace hS := hS.sub (N := []) (.cons _ (.cons _ (.cons _ (.cons _ .slnil))))
  exact ⟨(), rfl, hS.noB⟩
 ·replace hm := hm_n hm hc21
  refine W.skip ?_
  refine k_seq ?_
  replace hf : Fr a 107 [] [(2, Iv x13), (4, Pv b16 0), (5, Pv b17 0), (7, Pv b18 0), (8, Pv b19 0), (9, Iv 0)] := hf.to ⟨rfl, rfl, rfl, rfl, rfl, rfl, trivial⟩
  refine W.seq ?_
  refine W.seq ?_
  -- region 3
  refine W.regionL (l := [0, 1, 2]) rfl ?_
  refine O.val hf rfl rfl rfl (RunV.loadN (cs' := #[Iv x7, Iv x8, Iv x9, Iv x10, Iv x11, Iv x12]) T_agg_25 T_size_25 rfl (hS.ptAt (i := 2) rfl) (Nat.le_of_ble_eq_true rfl) rfl) ?_; clear hf a; intro a hf
  obtain ⟨x23, hx23, hm⟩ := hm_b hm
  refine O.callR hf rfl rfl rfl (RunE.call (av := #[.agg #[Iv x7, Iv x8, Iv x9, Iv x10, Iv x11, Iv x12]]) C_ok_16 rfl rfl rfl) (m_ref17_Check_ok F x7 x8 x9 x10 x11 x12 _ x23 hx23) ?_
  clear hf a; rintro _ w hS1 a hf
  replace hf : Fr a _ _ ((22, Iv x23) :: _) := hf
  replace hS := (hS.call hS1).eqM (N := [pt b19 (Cs #[Iv 0, Iv 0, Iv 0, Iv 0, Iv 0, Iv 0] 25), pt b18 (Cs #[Iv x14, Iv x15] 23), pt b17 (Cs #[Iv x7, Iv x8, Iv x9, Iv x10, Iv x11, Iv x12] 25), pt b16 (Cs #[Iv x1, Iv x2, Iv x3, Iv x4, Iv x5, Iv x6] 25)]) rfl
  clear hS1
  refine O.val (v := Bv (decide (x23 ≠ (0 : Int)))) hf rfl rfl rfl (RunV.neq rfl rfl) ?_; clear hf a; intro a hf
  refine O.nil ?_
  refine k_seq ?_
  replace hf : Fr a 107 [] [(2, Iv x13), (4, Pv b16 0), (5, Pv b17 0), (7, Pv b18 0), (8, Pv b19 0), (9, Iv 0), (23, Bv (decide (x23 ≠ (0 : Int))))] := hf.to ⟨rfl, rfl, rfl, rfl, rfl, rfl, rfl, trivial⟩
  refine W.ifdI hf rfl (fun hc24 => ?_) (fun hc24 => ?_)
  ·replace hm := hm_p hm hc24
   refine W.seq ?_
   -- region 4
   refine W.regionL (l := [0, 1, 2, 3, 4]) rfl ?_
   refine O.val (v := .agg #[Iv 0, Iv 0, Iv 0, Iv 0, Iv 0, Iv 0]) hf rfl rfl rfl (RunV.buildA (cs' := #[Iv 0, Iv 0, Iv 0, Iv 0, Iv 0, Iv 0]) T_arr_25 T_size_23 T_zero_25 rfl (by kernel_rfl)) ?_; clear hf a; intro a hf
   refine O.val hf rfl rfl rfl (RunV.loadN (cs' := #[Iv x7, Iv x8, Iv x9, Iv x10, Iv x11, Iv x12]) T_agg_25 T_size_25 rfl (hS.ptAt (i := 2) rfl) (Nat.le_of_ble_eq_true rfl) rfl) ?_; clear hf a; intro a hf
   obtain ⟨x25, hx25, hm⟩ := hm_b hm
   refine O.callR hf rfl rfl rfl (RunE.call (av := #[.agg #[Iv x7, Iv x8, Iv x9, Iv x10, Iv x11, Iv x12]]) C_ok_16 rfl rfl rfl) (m_ref17_Check_ok F x7 x8 x9 x10 x11 x12 _ x25 hx25) ?_
   clear hf a; rintro _ w hS1 a hf
   replace hf : Fr a _ _ ((26, Iv x25) :: _) := hf
   replace hS := (hS.call hS1).eqM (N := [pt b19 (Cs #[Iv 0, Iv 0, Iv 0, Iv 0, Iv 0, Iv 0] 25), pt b18 (Cs #[Iv x14, Iv x15] 23), pt b17 (Cs #[Iv x7, Iv x8, Iv x9, Iv x10, Iv x11, Iv x12] 25), pt b16 (Cs #[Iv x1, Iv x2, Iv x3, Iv x4, Iv x5, Iv x6] 25)]) rfl
   clear hS1
   refine O.store (j := 0) (cs' := #[Iv 0, Iv 0, Iv 0, Iv 0, Iv 0, Iv 0]) (M' := [pt b19 (Cs #[Iv 0, Iv 0, Iv 0, Iv 0, Iv 0, Iv 0] 25), pt b18 (Cs #[Iv x14, Iv x15] 23), pt b17 (Cs #[Iv x7, Iv x8, Iv x9, Iv x10, Iv x11, Iv x12] 25), pt b16 (Cs #[Iv x1, Iv x2, Iv x3, Iv x4, Iv x5, Iv x6] 25)]) hf hS rfl rfl rfl T_size_25 rfl rfl rfl (Nat.le_of_ble_eq_true rfl) rfl rfl ?_
   clear hS; intro w hS
   refine O.val hf rfl rfl rfl (RunV.assign rfl) ?_; clear hf a; intro a hf
   refine O.nil ?_
   refine k_seq ?_
   replace hf : Fr a 107 [] [(2, Iv x13), (4, Pv b16 0), (5, Pv b17 0), (7, Pv b18 0), (8, Pv b19 0), (9, Iv x25)] := hf.to ⟨rfl, rfl, rfl, rfl, rfl, rfl, trivial⟩
   refine W.ret ?_
   refine k_then_ret ?_
   obtain rfl := Option.some.inj hm
   refine post2 hf rfl (ResOK.cellN (cs' := #[Iv 0, Iv 0, Iv 0, Iv 0, Iv 0, Iv 0]) rfl T_agg_25 T_size_25 (hS.ptAt (i := 0) rfl) (Nat.le_of_ble_eq_true rfl) rfl) (ResOK.tmp rfl) ?_
   replace hS := hS.sub (N := []) (.cons _ (.cons _ (.cons _ (.cons _ .slnil))))
   exact ⟨(), rfl, hS.noB⟩
  ·replace hm := hm_n hm hc24
   refine W.skip ?_
   refine k_seq ?_
   replace hf : Fr a 107 [] [(2, Iv x13), (4, Pv b16 0), (5, Pv b17 0), (7, Pv b18 0), (8, Pv b19 0), (9, Iv 0)] := hf.to ⟨rfl, rfl, rfl, rfl, rfl, rfl, trivial⟩
   refine W.seq ?_
   refine W.seq ?_
   -- region 5
   refine W.regionL (l := [0, 1, 2]) rfl ?_
   refine O.val hf rfl rfl rfl (RunV.loadN (cs' := #[Iv x14, Iv x15]) T_agg_23 T_size_23 rfl (hS.ptAt (i := 1) rfl) (Nat.le_of_ble_eq_true rfl) rfl) ?_; clear hf a; intro a hf
   obtain ⟨x26, hx26, hm⟩ := hm_b hm
   refine O.callR hf rfl rfl rfl (RunE.call (av := #[.agg #[Iv x14, Iv x15]]) C_ok_17 rfl rfl rfl) (m_ref03_Check_ok F x14 x15 _ x26 hx26) ?_
   clear hf a; rintro _ w hS1 a hf
   replace hf : Fr a _ _ ((28, Iv x26) :: _) := hf
   replace hS := (hS.call hS1).eqM (N := [pt b19 (Cs #[Iv 0, Iv 0, Iv 0, Iv 0, Iv 0, Iv 0] 25), pt b18 (Cs #[Iv x14, Iv x15] 23), pt b17 (Cs #[Iv x7, Iv x8, Iv x9, Iv x10, Iv x11, Iv x12] 25), pt b16 (Cs #[Iv x1, Iv x2, Iv x3, Iv x4, Iv x5, Iv x6] 25)]) rfl
   clear hS1
   refine O.val (v := Bv (decide (x26 ≠ (0 : Int)))) hf rfl rfl rfl (RunV.neq rfl rfl) ?_; clear hf a; intro a hf
   refine O.nil ?_
   refine k_seq ?_
   replace hf : Fr a 107 [] [(2, Iv x13), (4, Pv b16 0), (5, Pv b17 0), (7, Pv b18 0), (8, Pv b19 0), (9, Iv 0), (29, Bv (decide (x26 ≠ (0 : Int))))] := hf.to ⟨rfl, rfl, rfl, rfl, rfl, rfl, rfl, trivial⟩
   refine W.ifdI hf rfl (fun hc27 => ?_) (fun hc27 => ?_)
   ·replace hm := hm_p hm hc27
    refine W.seq ?_
    -- region 6
    refine W.regionL (l := [0, 1, 2, 3, 4]) rfl ?_
    refine O.val (v := .agg #[Iv 0, Iv 0, Iv 0, Iv 0, Iv 0, Iv 0]) hf rfl rfl rfl (RunV.buildA (cs' := #[Iv 0, Iv 0, Iv 0, Iv 0, Iv 0, Iv 0]) T_arr_25 T_size_23 T_zero_25 rfl (by kernel_rfl)) ?_; clear hf a; intro a hf
    refine O.val hf rfl rfl rfl (RunV.loadN (cs' := #[Iv x14, Iv x15]) T_agg_23 T_size_23 rfl (hS.ptAt (i := 1) rfl) (Nat.le_of_ble_eq_true rfl) rfl) ?_; clear hf a; intro a hf
    obtain ⟨x28, hx28, hm⟩ := hm_b hm
    refine O.callR hf rfl rfl rfl (RunE.call (av := #[.agg #[Iv x14, Iv x15]]) C_ok_17 rfl rfl rfl) (m_ref03_Check_ok F x14 x15 _ x28 hx28) ?_
    clear hf a; rintro _ w hS1 a hf
    replace hf : Fr a _ _ ((32, Iv x28) :: _) := hf
    replace hS := (hS.call hS1).eqM (N := [pt b19 (Cs #[Iv 0, Iv 0, Iv 0, Iv 0, Iv 0, Iv 0] 25), pt b18 (Cs #[Iv x14, Iv x15] 23), pt b17 (Cs #[Iv x7, Iv x8, Iv x9, Iv x10, Iv x11, Iv x12] 25), pt b16 (Cs #[Iv x1, Iv x2, Iv x3, Iv x4, Iv x5, Iv x6] 25)]) rfl
    clear hS1
    refine O.store (j := 0) (cs' := #[Iv 0, Iv 0, Iv 0, Iv 0, Iv 0, Iv 0]) (M' := [pt b19 (Cs #[Iv 0, Iv 0, Iv 0, Iv 0, Iv 0, Iv 0] 25), pt b18 (Cs #[Iv x14, Iv x15] 23), pt b17 (Cs #[Iv x7, Iv x8, Iv x9, Iv x10, Iv x11, Iv x12] 25), pt b16 (Cs #[Iv x1, Iv x2, Iv x3, Iv x4, Iv x5, Iv x6] 25)]) hf hS rfl rfl rfl T_size_25 rfl rfl rfl (Nat.le_of_ble_eq_true rfl) rfl rfl ?_
    clear hS; intro w hS
    refine O.val hf rfl rfl rfl (RunV.assign rfl) ?_; clear hf a; intro a hf
    refine O.nil ?_
    refine k_seq ?_
    replace hf : Fr a 107 [] [(2, Iv x13), (4, Pv b16 0), (5, Pv b17 0), (7, Pv b18 0), (8, Pv b19 0), (9, Iv x28)] := hf.to ⟨rfl, rfl, rfl, rfl, rfl, rfl, trivial⟩
    refine W.ret ?_
    refine k_then_ret ?_
    obtain rfl := Option.some.inj hm
    refine post2 hf rfl (ResOK.cellN (cs' := #[Iv 0, Iv 0, Iv 0, Iv 0, Iv 0, Iv 0]) rfl T_agg_25 T_size_25 (hS.ptAt (i := 0) rfl) (Nat.le_of_ble_eq_true rfl) rfl) (ResOK.tmp rfl) ?_
    replace hS := hS.sub (N := []) (.cons _ (.cons _ (.cons _ (.cons _ .slnil))))
    exact ⟨(), rfl, hS.noB⟩
   ·replace hm := hm_n hm hc27
    refine W.skip ?_
    refine k_seq ?_
    replace hf : Fr a 107 [] [(2, Iv x13), (4, Pv b16 0), (5, Pv b17 0), (7, Pv b18 0), (8, Pv b19 0), (9, Iv 0)] := hf.to ⟨rfl, rfl, rfl, rfl, rfl, rfl, trivial⟩
    refine W.seq ?_
    refine W.seq ?_
    -- region 7
    refine W.regionL (l := [0, 1, 2]) rfl ?_
    refine O.val hf rfl rfl rfl (RunV.field T_field_23_0 rfl rfl) ?_; clear hf a; intro a hf
    refine O.val hf rfl rfl rfl (RunV.load1 T_agg_2 rfl (hS.ptAt (i := 1) rfl) rfl) ?_; clear hf a; intro a hf
    refine O.val (v := Bv (decide (x14 < (0 : Int)))) hf rfl rfl rfl (RunV.lss rfl rfl) ?_; clear hf a; intro a hf
    refine O.nil ?_
    refine k_seq ?_
    replace hf : Fr a 107 [] [(2, Iv x13), (4, Pv b16 0), (5, Pv b17 0), (7, Pv b18 0), (8, Pv b19 0), (9, Iv 0), (35, Bv (decide (x14 < (0 : Int))))] := hf.to ⟨rfl, rfl, rfl, rfl, rfl, rfl, rfl, trivial⟩
    refine W.ifdI hf rfl (fun hc29 => ?_) (fun hc29 => ?_)
    ·replace hm := hm_p hm hc29
     refine W.seq ?_
     -- region 8
     refine W.regionL (l := [0, 1, 2]) rfl ?_
     refine O.val (v := .agg #[Iv 0, Iv 0, Iv 0, Iv 0, Iv 0, Iv 0]) hf rfl rfl rfl (RunV.buildA (cs' := #[Iv 0, Iv 0, Iv 0, Iv 0, Iv 0, Iv 0]) T_arr_25 T_size_23 T_zero_25 rfl (by kernel_rfl)) ?_; clear hf a; intro a hf
     refine O.store (j := 0) (cs' := #[Iv 0, Iv 0, Iv 0, Iv 0, Iv 0, Iv 0]) (M' := [pt b19 (Cs #[Iv 0, Iv 0, Iv 0, Iv 0, Iv 0, Iv 0] 25), pt b18 (Cs #[Iv x14, Iv x15] 23), pt b17 (Cs #[Iv x7, Iv x8, Iv x9, Iv x10, Iv x11, Iv x12] 25), pt b16 (Cs #[Iv x1, Iv x2, Iv x3, Iv x4, Iv x5, Iv x6] 25)]) hf hS rfl rfl rfl T_size_25 rfl rfl rfl (Nat.le_of_ble_eq_true rfl) rfl rfl ?_
     clear hS; intro w hS
     refine O.val hf rfl rfl rfl (RunV.assign rfl) ?_; clear hf a; intro a hf
     refine O.nil ?_
     refine k_seq ?_
     replace hf : Fr a 107 [] [(2, Iv x13), (4, Pv b16 0), (5, Pv b17 0), (7, Pv b18 0), (8, Pv b19 0), (9, Iv 2)] := hf.to ⟨rfl, rfl, rfl, rfl, rfl, rfl, trivial⟩
     refine W.ret ?_
     refine k_then_ret ?_
     obtain rfl := Option.some.inj hm
     refine post2 hf rfl (ResOK.cellN (cs' := #[Iv 0, Iv 0, Iv 0, Iv 0, Iv 0, Iv 0]) rfl T_agg_25 T_size_25 (hS.ptAt (i := 0) rfl) (Nat.le_of_ble_eq_true rfl) rfl) (ResOK.tmp rfl) ?_
     replace hS := hS.sub (N := []) (.cons _ (.cons _ (.cons _ (.cons _ .slnil))))
     exact ⟨(), rfl, hS.noB⟩
    ·replace hm := hm_n hm hc29
     refine W.skip ?_
     refine k_seq ?_
     replace hf : Fr a 107 [] [(2, Iv x13), (4, Pv b16 0), (5, Pv b17 0), (7, Pv b18 0), (8, Pv b19 0), (9, Iv 0)] := hf.to ⟨rfl, rfl, rfl, rfl, rfl, rfl, trivial⟩
     refine W.seq ?_
     -- region 9
     refine W.regionL (l := [0, 1, 2]) rfl ?_
     refine O.val (v := .agg #[Iv 0]) hf rfl rfl rfl (RunV.buildS (cs' := #[Iv 0]) T_places_56 T_zero_56 rfl (by kernel_rfl)) ?_; clear hf a; intro a hf
     refine O.box (cs := #[Iv 0]) hf hS rfl rfl rfl rfl ?_
     clear hf hS a; intro b30 w a hb30 hS hf
     refine O.val hf rfl rfl rfl (RunV.assign rfl) ?_; clear hf a; intro a hf
     refine O.nil ?_
     refine k_seq ?_
     replace hf : Fr a 107 [] [(2, Iv x13), (4, Pv b16 0), (5, Pv b17 0), (7, Pv b18 0), (8, Pv b19 0), (9, Iv 0), (10, Pv b30 0)] := hf.to ⟨rfl, rfl, rfl, rfl, rfl, rfl, rfl, trivial⟩
     refine W.seq ?_
     -- region 10
     refine W.regionL (l := [0]) rfl ?_
     refine O.alloc (cs := #[Iv 0, Iv 0, Iv 0, Iv 0, Iv 0, Iv 0]) hf hS rfl rfl T_zero_25 rfl ?_
     clear hf hS a; intro b31 w a hb31 hS hf
     refine O.nil ?_
     refine k_seq ?_
     refine W.seqR (fun a w => ∃ (x32 : Int) (x33 : Int) (x34 : Int) (x35 : Int) (x36 : Int) (x37 : Int) (x38 : Int), Fr a 107 [] [(2, Iv x13), (7, Pv b18 0), (8, Pv b19 0), (9, Iv 0), (10, Pv b30 0), (11, Pv b31 0)] ∧ St w0 w noX [] [pt b18 (Cs #[Iv x14, Iv x15] 23), pt b19 (Cs #[Iv 0, Iv 0, Iv 0, Iv 0, Iv 0, Iv 0] 25), pt b30 (Cs #[Iv x32] 56), pt b31 (Cs #[Iv x33, Iv x34, Iv x35, Iv x36, Iv x37, Iv x38] 25)] ∧ m_ref30_Ahead_j2 F x14 x15 x13 x32 x33 x34 x35 x36 x37 x38 = some r) ?_ ?_
     ·refine W.seq ?_
      -- region 11
      refine W.regionL (l := [0]) rfl ?_
      refine O.val hf rfl rfl rfl (RunV.assign rfl) ?_; clear hf a; intro a hf
      refine O.nil ?_
      refine k_seq ?_
      refine W.block ?_
      refine W.loopH (LH.step ?_)
      refine W.seq ?_
      refine W.seq ?_
      -- region 12
      refine W.regionL (l := [0, 1]) rfl ?_
      refine O.val hf rfl rfl rfl (RunV.move rfl) ?_; clear hf a; intro a hf
      refine O.val (v := Bv true) hf rfl rfl rfl (RunV.lss (p := 0) (q := 3) rfl rfl) ?_; clear hf a; intro a hf
      refine O.nil ?_
      refine k_seq ?_
      refine W.if_tt hf rfl ?_
      refine W.skip ?_
      refine k_seq ?_
      refine W.seq ?_
      refine W.block ?_
      -- region 14, which draws its order
      -- [13, 14, 16] turn memory
      have hf1 : Fr a 107 [] [] := hf.to trivial
      replace hf : Fr a 107 [] [(2, Iv x13), (4, Pv b16 0), (5, Pv b17 0), (7, Pv b18 0), (8, Pv b19 0), (9, Iv 0), (10, Pv b30 0), (11, Pv b31 0), (12, Iv 0), (39, Iv 0), (40, Bv true)] := hf.to ⟨rfl, rfl, rfl, rfl, rfl, rfl, rfl, rfl, rfl, rfl, rfl, trivial⟩
      obtain ⟨x60, hx60, hm⟩ := hm_b hm
      obtain ⟨x61, hx61, hm⟩ := hm_b hm
      obtain ⟨x62, hx62, hm⟩ := hm_b hm
      refine W.drawP (γ := Unit) (L0 := [(2, Iv x13), (4, Pv b16 0), (5, Pv b17 0), (7, Pv b18 0), (8, Pv b19 0), (9, Iv 0), (10, Pv b30 0), (11, Pv b31 0), (12, Iv 0), (39, Iv 0), (40, Bv true)]) (L1 := []) () [13, 14, 16] [0, 1, 2, 3, 4, 5, 6, 7, 8, 9, 10, 11, 12, 15] (fun i => match i with | 0 => [] | 1 => [] | 2 => [] | 3 => [2] | 4 => [3] | 5 => [] | 6 => [] | 7 => [6] | 8 => [7] | 9 => [] | 10 => [8, 9] | 11 => [10] | 12 => [10] | 13 => [5, 10, 11, 12] | 14 => [1, 4, 13] | 15 => [0, 1, 2, 3, 4, 5, 6, 7, 8, 9, 10, 11, 12, 13, 14] | 16 => [0, 1, 2, 3, 4, 5, 6, 7, 8, 9, 10, 11, 12, 13, 14, 15] | _ => []) (fun i => match i with | 14 => [13] | 15 => [13, 14] | 16 => [13, 14] | _ => []) (fun i => match i with | 0 => [16] | 1 => [14, 16] | 2 => [14, 16] | 3 => [14, 16] | 4 => [14, 16] | 5 => [13, 14, 16] | 6 => [13, 14, 16] | 7 => [13, 14, 16] | 8 => [13, 14, 16] | 9 => [13, 14, 16] | 10 => [13, 14, 16] | 11 => [13, 14, 16] | 12 => [13, 14, 16] | 13 => [14, 16] | 14 => [16] | 15 => [16] | _ => []) (fun i => match i with | 13 => [14, 15, 16] | 14 => [15, 16] | 16 => [] | _ => []) (fun _ => []) (fun (g : Unit) j => match g, j with | _, 0 => Iv 0 | _, 1 => Pv b30 0 | _, 2 => Iv 0 | _, 3 => Pv b16 0 | _, 4 => .agg #[Iv x1, Iv x2] | _, 5 => Pv b30 0 | _, 6 => Iv 0 | _, 7 => Pv b17 0 | _, 8 => .agg #[Iv x7, Iv x8] | _, 9 => Iv x13 | _, 10 => .tuple #[.agg #[Iv x60.1, Iv x60.2.1], Iv x60.2.2] | _, 11 => .agg #[Iv x60.1, Iv x60.2.1] | _, 12 => Iv x60.2.2 | _, 13 => .agg #[Iv x61.1, Iv x61.2.1] | _, 14 => .agg #[Iv x62.1, Iv x62.2.1] | _, 15 => Pv b31 0 | _, _ => undef) (fun s (g : Unit) w => match g with | _ => (s 13 = false ∧ s 14 = false ∧ s 16 = false ∧ St w0 w noX [] [pt b31 (Cs #[Iv 0, Iv 0, Iv 0, Iv 0, Iv 0, Iv 0] 25), pt b30 (Cs #[Iv 0] 56), pt b19 (Cs #[Iv 0, Iv 0, Iv 0, Iv 0, Iv 0, Iv 0] 25), pt b18 (Cs #[Iv x14, Iv x15] 23), pt b17 (Cs #[Iv x7, Iv x8, Iv x9, Iv x10, Iv x11, Iv x12] 25), pt b16 (Cs #[Iv x1, Iv x2, Iv x3, Iv x4, Iv x5, Iv x6] 25)]) ∨ (s 13 = true ∧ s 14 = false ∧ s 16 = false ∧ St w0 w noX [] [pt b30 (Cs #[Iv x61.2.2] 56), pt b31 (Cs #[Iv 0, Iv 0, Iv 0, Iv 0, Iv 0, Iv 0] 25), pt b19 (Cs #[Iv 0, Iv 0, Iv 0, Iv 0, Iv 0, Iv 0] 25), pt b18 (Cs #[Iv x14, Iv x15] 23), pt b17 (Cs #[Iv x7, Iv x8, Iv x9, Iv x10, Iv x11, Iv x12] 25), pt b16 (Cs #[Iv x1, Iv x2, Iv x3, Iv x4, Iv x5, Iv x6] 25)]) ∨ (s 13 = true ∧ s 14 = true ∧ s 16 = false ∧ St w0 w noX [] [pt b30 (Cs #[Iv x62.2.2] 56), pt b31 (Cs #[Iv 0, Iv 0, Iv 0, Iv 0, Iv 0, Iv 0] 25), pt b19 (Cs #[Iv 0, Iv 0, Iv 0, Iv 0, Iv 0, Iv 0] 25), pt b18 (Cs #[Iv x14, Iv x15] 23), pt b17 (Cs #[Iv x7, Iv x8, Iv x9, Iv x10, Iv x11, Iv x12] 25), pt b16 (Cs #[Iv x1, Iv x2, Iv x3, Iv x4, Iv x5, Iv x6] 25)]) ∨ (s 13 = true ∧ s 14 = true ∧ s 16 = true ∧ St w0 w noX [] [pt b30 (Cs #[Iv x62.2.2] 56), pt b31 (Cs #[Iv x62.1, Iv x62.2.1, Iv 0, Iv 0, Iv 0, Iv 0] 25), pt b19 (Cs #[Iv 0, Iv 0, Iv 0, Iv 0, Iv 0, Iv 0] 25), pt b18 (Cs #[Iv x14, Iv x15] 23), pt b17 (Cs #[Iv x7, Iv x8, Iv x9, Iv x10, Iv x11, Iv x12] 25), pt b16 (Cs #[Iv x1, Iv x2, Iv x3, Iv x4, Iv x5, Iv x6] 25)])) P_mixed (by kernel_rfl) hf hf1 (Or.inl ⟨rfl, rfl, rfl, hS.drew⟩) ?_ ?_ ?_
      ·clear hf hf1 hS
       refine ⟨?_, ?_, ?_, ?_, ?_, ?_, ?_, ?_, ?_, ?_, ?_, ?_, ?_, ?_, trivial⟩
       ·intro s g w hsp hsb hD a hf
        rcases hD with (⟨h13_, h14_, h16_, hD⟩ | ⟨h13_, h14_, h16_, hD⟩ | ⟨h13_, h14_, h16_, hD⟩ | ⟨h13_, h14_, h16_, hD⟩)
        ·have hS : St w0 w noX [] [pt b31 (Cs #[Iv 0, Iv 0, Iv 0, Iv 0, Iv 0, Iv 0] 25), pt b30 (Cs #[Iv 0] 56), pt b19 (Cs #[Iv 0, Iv 0, Iv 0, Iv 0, Iv 0, Iv 0] 25), pt b18 (Cs #[Iv x14, Iv x15] 23), pt b17 (Cs #[Iv x7, Iv x8, Iv x9, Iv x10, Iv x11, Iv x12] 25), pt b16 (Cs #[Iv x1, Iv x2, Iv x3, Iv x4, Iv x5, Iv x6] 25)] := hD; clear hD
         replace hf : Fr a 107 [] [(2, Iv x13), (4, Pv b16 0), (5, Pv b17 0), (7, Pv b18 0), (8, Pv b19 0), (9, Iv 0), (10, Pv b30 0), (11, Pv b31 0), (12, Iv 0), (39, Iv 0), (40, Bv true)] := hf
         refine O.val hf rfl rfl rfl (RunV.move rfl) ?_; clear hf a; intro a hf
         exact O.nil ⟨rfl, hf.to trivial, (fun d hd => by cases (show some 43 = some d from hd); exact hf.get _ _ rfl), (Or.inl ⟨h13_, h14_, h16_, hS⟩)⟩
        ·have hS : St w0 w noX [] [pt b30 (Cs #[Iv x61.2.2] 56), pt b31 (Cs #[Iv 0, Iv 0, Iv 0, Iv 0, Iv 0, Iv 0] 25), pt b19 (Cs #[Iv 0, Iv 0, Iv 0, Iv 0, Iv 0, Iv 0] 25), pt b18 (Cs #[Iv x14, Iv x15] 23), pt b17 (Cs #[Iv x7, Iv x8, Iv x9, Iv x10, Iv x11, Iv x12] 25), pt b16 (Cs #[Iv x1, Iv x2, Iv x3, Iv x4, Iv x5, Iv x6] 25)] := hD; clear hD
         replace hf : Fr a 107 [] [(2, Iv x13), (4, Pv b16 0), (5, Pv b17 0), (7, Pv b18 0), (8, Pv b19 0), (9, Iv 0), (10, Pv b30 0), (11, Pv b31 0), (12, Iv 0), (39, Iv 0), (40, Bv true)] := hf
         refine O.val hf rfl rfl rfl (RunV.move rfl) ?_; clear hf a; intro a hf
         exact O.nil ⟨rfl, hf.to trivial, (fun d hd => by cases (show some 43 = some d from hd); exact hf.get _ _ rfl), (Or.inr (Or.inl ⟨h13_, h14_, h16_, hS⟩))⟩
        ·have hS : St w0 w noX [] [pt b30 (Cs #[Iv x62.2.2] 56), pt b31 (Cs #[Iv 0, Iv 0, Iv 0, Iv 0, Iv 0, Iv 0] 25), pt b19 (Cs #[Iv 0, Iv 0, Iv 0, Iv 0, Iv 0, Iv 0] 25), pt b18 (Cs #[Iv x14, Iv x15] 23), pt b17 (Cs #[Iv x7, Iv x8, Iv x9, Iv x10, Iv x11, Iv x12] 25), pt b16 (Cs #[Iv x1, Iv x2, Iv x3, Iv x4, Iv x5, Iv x6] 25)] := hD; clear hD
         replace hf : Fr a 107 [] [(2, Iv x13), (4, Pv b16 0), (5, Pv b17 0), (7, Pv b18 0), (8, Pv b19 0), (9, Iv 0), (10, Pv b30 0), (11, Pv b31 0), (12, Iv 0), (39, Iv 0), (40, Bv true)] := hf
         refine O.val hf rfl rfl rfl (RunV.move rfl) ?_; clear hf a; intro a hf
         exact O.nil ⟨rfl, hf.to trivial, (fun d hd => by cases (show some 43 = some d from hd); exact hf.get _ _ rfl), (Or.inr (Or.inr (Or.inl ⟨h13_, h14_, h16_, hS⟩)))⟩
        ·exact absurd ((hsb 16 (by simp)).symm.trans h16_) (by decide)
       ·intro s g w hsp hsb hD a hf
        rcases hD with (⟨h13_, h14_, h16_, hD⟩ | ⟨h13_, h14_, h16_, hD⟩ | ⟨h13_, h14_, h16_, hD⟩ | ⟨h13_, h14_, h16_, hD⟩)
        ·have hS : St w0 w noX [] [pt b31 (Cs #[Iv 0, Iv 0, Iv 0, Iv 0, Iv 0, Iv 0] 25), pt b30 (Cs #[Iv 0] 56), pt b19 (Cs #[Iv 0, Iv 0, Iv 0, Iv 0, Iv 0, Iv 0] 25), pt b18 (Cs #[Iv x14, Iv x15] 23), pt b17 (Cs #[Iv x7, Iv x8, Iv x9, Iv x10, Iv x11, Iv x12] 25), pt b16 (Cs #[Iv x1, Iv x2, Iv x3, Iv x4, Iv x5, Iv x6] 25)] := hD; clear hD
         replace hf : Fr a 107 [] [(2, Iv x13), (4, Pv b16 0), (5, Pv b17 0), (7, Pv b18 0), (8, Pv b19 0), (9, Iv 0), (10, Pv b30 0), (11, Pv b31 0), (12, Iv 0), (39, Iv 0), (40, Bv true)] := hf
         refine O.val hf rfl rfl rfl (RunV.move rfl) ?_; clear hf a; intro a hf
         exact O.nil ⟨rfl, hf.to trivial, (fun d hd => by cases (show some 44 = some d from hd); exact hf.get _ _ rfl), (Or.inl ⟨h13_, h14_, h16_, hS⟩)⟩
        ·have hS : St w0 w noX [] [pt b30 (Cs #[Iv x61.2.2] 56), pt b31 (Cs #[Iv 0, Iv 0, Iv 0, Iv 0, Iv 0, Iv 0] 25), pt b19 (Cs #[Iv 0, Iv 0, Iv 0, Iv 0, Iv 0, Iv 0] 25), pt b18 (Cs #[Iv x14, Iv x15] 23), pt b17 (Cs #[Iv x7, Iv x8, Iv x9, Iv x10, Iv x11, Iv x12] 25), pt b16 (Cs #[Iv x1, Iv x2, Iv x3, Iv x4, Iv x5, Iv x6] 25)] := hD; clear hD
         replace hf : Fr a 107 [] [(2, Iv x13), (4, Pv b16 0), (5, Pv b17 0), (7, Pv b18 0), (8, Pv b19 0), (9, Iv 0), (10, Pv b30 0), (11, Pv b31 0), (12, Iv 0), (39, Iv 0), (40, Bv true)] := hf
         refine O.val hf rfl rfl rfl (RunV.move rfl) ?_; clear hf a; intro a hf
         exact O.nil ⟨rfl, hf.to trivial, (fun d hd => by cases (show some 44 = some d from hd); exact hf.get _ _ rfl), (Or.inr (Or.inl ⟨h13_, h14_, h16_, hS⟩))⟩
        ·exact absurd ((hsb 14 (by simp)).symm.trans h14_) (by decide)
        ·exact absurd ((hsb 14 (by simp)).symm.trans h14_) (by decide)
       ·intro s g w hsp hsb hD a hf
        rcases hD with (⟨h13_, h14_, h16_, hD⟩ | ⟨h13_, h14_, h16_, hD⟩ | ⟨h13_, h14_, h16_, hD⟩ | ⟨h13_, h14_, h16_, hD⟩)
        ·have hS : St w0 w noX [] [pt b31 (Cs #[Iv 0, Iv 0, Iv 0, Iv 0, Iv 0, Iv 0] 25), pt b30 (Cs #[Iv 0] 56), pt b19 (Cs #[Iv 0, Iv 0, Iv 0, Iv 0, Iv 0, Iv 0] 25), pt b18 (Cs #[Iv x14, Iv x15] 23), pt b17 (Cs #[Iv x7, Iv x8, Iv x9, Iv x10, Iv x11, Iv x12] 25), pt b16 (Cs #[Iv x1, Iv x2, Iv x3, Iv x4, Iv x5, Iv x6] 25)] := hD; clear hD
         replace hf : Fr a 107 [] [(2, Iv x13), (4, Pv b16 0), (5, Pv b17 0), (7, Pv b18 0), (8, Pv b19 0), (9, Iv 0), (10, Pv b30 0), (11, Pv b31 0), (12, Iv 0), (39, Iv 0), (40, Bv true)] := hf
         refine O.val hf rfl rfl rfl (RunV.move rfl) ?_; clear hf a; intro a hf
         exact O.nil ⟨rfl, hf.to trivial, (fun d hd => by cases (show some 45 = some d from hd); exact hf.get _ _ rfl), (Or.inl ⟨h13_, h14_, h16_, hS⟩)⟩
        ·have hS : St w0 w noX [] [pt b30 (Cs #[Iv x61.2.2] 56), pt b31 (Cs #[Iv 0, Iv 0, Iv 0, Iv 0, Iv 0, Iv 0] 25), pt b19 (Cs #[Iv 0, Iv 0, Iv 0, Iv 0, Iv 0, Iv 0] 25), pt b18 (Cs #[Iv x14, Iv x15] 23), pt b17 (Cs #[Iv x7, Iv x8, Iv x9, Iv x10, Iv x11, Iv x12] 25), pt b16 (Cs #[Iv x1, Iv x2, Iv x3, Iv x4, Iv x5, Iv x6] 25)] := hD; clear hD
         replace hf : Fr a 107 [] [(2, Iv x13), (4, Pv b16 0), (5, Pv b17 0), (7, Pv b18 0), (8, Pv b19 0), (9, Iv 0), (10, Pv b30 0), (11, Pv b31 0), (12, Iv 0), (39, Iv 0), (40, Bv true)] := hf
         refine O.val hf rfl rfl rfl (RunV.move rfl) ?_; clear hf a; intro a hf
         exact O.nil ⟨rfl, hf.to trivial, (fun d hd => by cases (show some 45 = some d from hd); exact hf.get _ _ rfl), (Or.inr (Or.inl ⟨h13_, h14_, h16_, hS⟩))⟩
        ·exact absurd ((hsb 14 (by simp)).symm.trans h14_) (by decide)
        ·exact absurd ((hsb 14 (by simp)).symm.trans h14_) (by decide)
       ·intro s g w hsp hsb hD a hf
        rcases hD with (⟨h13_, h14_, h16_, hD⟩ | ⟨h13_, h14_, h16_, hD⟩ | ⟨h13_, h14_, h16_, hD⟩ | ⟨h13_, h14_, h16_, hD⟩)
        ·have hS : St w0 w noX [] [pt b31 (Cs #[Iv 0, Iv 0, Iv 0, Iv 0, Iv 0, Iv 0] 25), pt b30 (Cs #[Iv 0] 56), pt b19 (Cs #[Iv 0, Iv 0, Iv 0, Iv 0, Iv 0, Iv 0] 25), pt b18 (Cs #[Iv x14, Iv x15] 23), pt b17 (Cs #[Iv x7, Iv x8, Iv x9, Iv x10, Iv x11, Iv x12] 25), pt b16 (Cs #[Iv x1, Iv x2, Iv x3, Iv x4, Iv x5, Iv x6] 25)] := hD; clear hD
         replace hf : Fr a 107 [] [(45, Iv 0), (2, Iv x13), (4, Pv b16 0), (5, Pv b17 0), (7, Pv b18 0), (8, Pv b19 0), (9, Iv 0), (10, Pv b30 0), (11, Pv b31 0), (12, Iv 0), (39, Iv 0), (40, Bv true)] := hf
         refine O.val hf rfl rfl rfl (RunV.indexArr (j := 0) (m := 0) T_arr_25 T_size_23 rfl rfl rfl (by decide) rfl) ?_; clear hf a; intro a hf
         exact O.nil ⟨rfl, hf.to trivial, (fun d hd => by cases (show some 46 = some d from hd); exact hf.get _ _ rfl), (Or.inl ⟨h13_, h14_, h16_, hS⟩)⟩
        ·have hS : St w0 w noX [] [pt b30 (Cs #[Iv x61.2.2] 56), pt b31 (Cs #[Iv 0, Iv 0, Iv 0, Iv 0, Iv 0, Iv 0] 25), pt b19 (Cs #[Iv 0, Iv 0, Iv 0, Iv 0, Iv 0, Iv 0] 25), pt b18 (Cs #[Iv x14, Iv x15] 23), pt b17 (Cs #[Iv x7, Iv x8, Iv x9, Iv x10, Iv x11, Iv x12] 25), pt b16 (Cs #[Iv x1, Iv x2, Iv x3, Iv x4, Iv x5, Iv x6] 25)] := hD; clear hD
         replace hf : Fr a 107 [] [(45, Iv 0), (2, Iv x13), (4, Pv b16 0), (5, Pv b17 0), (7, Pv b18 0), (8, Pv b19 0), (9, Iv 0), (10, Pv b30 0), (11, Pv b31 0), (12, Iv 0), (39, Iv 0), (40, Bv true)] := hf
         refine O.val hf rfl rfl rfl (RunV.indexArr (j := 0) (m := 0) T_arr_25 T_size_23 rfl rfl rfl (by decide) rfl) ?_; clear hf a; intro a hf
         exact O.nil ⟨rfl, hf.to trivial, (fun d hd => by cases (show some 46 = some d from hd); exact hf.get _ _ rfl), (Or.inr (Or.inl ⟨h13_, h14_, h16_, hS⟩))⟩
        ·exact absurd ((hsb 14 (by simp)).symm.trans h14_) (by decide)
        ·exact absurd ((hsb 14 (by simp)).symm.trans h14_) (by decide)
       ·intro s g w hsp hsb hD a hf
        rcases hD with (⟨h13_, h14_, h16_, hD⟩ | ⟨h13_, h14_, h16_, hD⟩ | ⟨h13_, h14_, h16_, hD⟩ | ⟨h13_, h14_, h16_, hD⟩)
        ·have hS : St w0 w noX [] [pt b31 (Cs #[Iv 0, Iv 0, Iv 0, Iv 0, Iv 0, Iv 0] 25), pt b30 (Cs #[Iv 0] 56), pt b19 (Cs #[Iv 0, Iv 0, Iv 0, Iv 0, Iv 0, Iv 0] 25), pt b18 (Cs #[Iv x14, Iv x15] 23), pt b17 (Cs #[Iv x7, Iv x8, Iv x9, Iv x10, Iv x11, Iv x12] 25), pt b16 (Cs #[Iv x1, Iv x2, Iv x3, Iv x4, Iv x5, Iv x6] 25)] := hD; clear hD
         replace hf : Fr a 107 [] [(46, Pv b16 0), (2, Iv x13), (4, Pv b16 0), (5, Pv b17 0), (7, Pv b18 0), (8, Pv b19 0), (9, Iv 0), (10, Pv b30 0), (11, Pv b31 0), (12, Iv 0), (39, Iv 0), (40, Bv true)] := hf
         refine O.val hf rfl rfl rfl (RunV.loadN (cs' := #[Iv x1, Iv x2]) T_agg_23 T_size_23 rfl (hS.ptAt (i := 5) rfl) (Nat.le_of_ble_eq_true rfl) rfl) ?_; clear hf a; intro a hf
         exact O.nil ⟨rfl, hf.to trivial, (fun d hd => by cases (show some 47 = some d from hd); exact hf.get _ _ rfl), (Or.inl ⟨h13_, h14_, h16_, hS⟩)⟩
        ·have hS : St w0 w noX [] [pt b30 (Cs #[Iv x61.2.2] 56), pt b31 (Cs #[Iv 0, Iv 0, Iv 0, Iv 0, Iv 0, Iv 0] 25), pt b19 (Cs #[Iv 0, Iv 0, Iv 0, Iv 0, Iv 0, Iv 0] 25), pt b18 (Cs #[Iv x14, Iv x15] 23), pt b17 (Cs #[Iv x7, Iv x8, Iv x9, Iv x10, Iv x11, Iv x12] 25), pt b16 (Cs #[Iv x1, Iv x2, Iv x3, Iv x4, Iv x5, Iv x6] 25)] := hD; clear hD
         replace hf : Fr a 107 [] [(46, Pv b16 0), (2, Iv x13), (4, Pv b16 0), (5, Pv b17 0), (7, Pv b18 0), (8, Pv b19 0), (9, Iv 0), (10, Pv b30 0), (11, Pv b31 0), (12, Iv 0), (39, Iv 0), (40, Bv true)] := hf
         refine O.val hf rfl rfl rfl (RunV.loadN (cs' := #[Iv x1, Iv x2]) T_agg_23 T_size_23 rfl (hS.ptAt (i := 5) rfl) (Nat.le_of_ble_eq_true rfl) rfl) ?_; clear hf a; intro a hf
         exact O.nil ⟨rfl, hf.to trivial, (fun d hd => by cases (show some 47 = some d from hd); exact hf.get _ _ rfl), (Or.inr (Or.inl ⟨h13_, h14_, h16_, hS⟩))⟩
        ·exact absurd ((hsb 14 (by simp)).symm.trans h14_) (by decide)
        ·exact absurd ((hsb 14 (by simp)).symm.trans h14_) (by decide)
       ·intro s g w hsp hsb hD a hf
        rcases hD with (⟨h13_, h14_, h16_, hD⟩ | ⟨h13_, h14_, h16_, hD⟩ | ⟨h13_, h14_, h16_, hD⟩ | ⟨h13_, h14_, h16_, hD⟩)
        ·have hS : St w0 w noX [] [pt b31 (Cs #[Iv 0, Iv 0, Iv 0, Iv 0, Iv 0, Iv 0] 25), pt b30 (Cs #[Iv 0] 56), pt b19 (Cs #[Iv 0, Iv 0, Iv 0, Iv 0, Iv 0, Iv 0] 25), pt b18 (Cs #[Iv x14, Iv x15] 23), pt b17 (Cs #[Iv x7, Iv x8, Iv x9, Iv x10, Iv x11, Iv x12] 25), pt b16 (Cs #[Iv x1, Iv x2, Iv x3, Iv x4, Iv x5, Iv x6] 25)] := hD; clear hD
         replace hf : Fr a 107 [] [(2, Iv x13), (4, Pv b16 0), (5, Pv b17 0), (7, Pv b18 0), (8, Pv b19 0), (9, Iv 0), (10, Pv b30 0), (11, Pv b31 0), (12, Iv 0), (39, Iv 0), (40, Bv true)] := hf
         refine O.val hf rfl rfl rfl (RunV.move rfl) ?_; clear hf a; intro a hf
         exact O.nil ⟨rfl, hf.to trivial, (fun d hd => by cases (show some 48 = some d from hd); exact hf.get _ _ rfl), (Or.inl ⟨h13_, h14_, h16_, hS⟩)⟩
        ·exact absurd ((hsb 13 (by simp)).symm.trans h13_) (by decide)
        ·exact absurd ((hsb 13 (by simp)).symm.trans h13_) (by decide)
        ·exact absurd ((hsb 13 (by simp)).symm.trans h13_) (by decide)
       ·intro s g w hsp hsb hD a hf
        rcases hD with (⟨h13_, h14_, h16_, hD⟩ | ⟨h13_, h14_, h16_, hD⟩ | ⟨h13_, h14_, h16_, hD⟩ | ⟨h13_, h14_, h16_, hD⟩)
        ·have hS : St w0 w noX [] [pt b31 (Cs #[Iv 0, Iv 0, Iv 0, Iv 0, Iv 0, Iv 0] 25), pt b30 (Cs #[Iv 0] 56), pt b19 (Cs #[Iv 0, Iv 0, Iv 0, Iv 0, Iv 0, Iv 0] 25), pt b18 (Cs #[Iv x14, Iv x15] 23), pt b17 (Cs #[Iv x7, Iv x8, Iv x9, Iv x10, Iv x11, Iv x12] 25), pt b16 (Cs #[Iv x1, Iv x2, Iv x3, Iv x4, Iv x5, Iv x6] 25)] := hD; clear hD
         replace hf : Fr a 107 [] [(2, Iv x13), (4, Pv b16 0), (5, Pv b17 0), (7, Pv b18 0), (8, Pv b19 0), (9, Iv 0), (10, Pv b30 0), (11, Pv b31 0), (12, Iv 0), (39, Iv 0), (40, Bv true)] := hf
         refine O.val hf rfl rfl rfl (RunV.move rfl) ?_; clear hf a; intro a hf
         exact O.nil ⟨rfl, hf.to trivial, (fun d hd => by cases (show some 49 = some d from hd); exact hf.get _ _ rfl), (Or.inl ⟨h13_, h14_, h16_, hS⟩)⟩
        ·exact absurd ((hsb 13 (by simp)).symm.trans h13_) (by decide)
        ·exact absurd ((hsb 13 (by simp)).symm.trans h13_) (by decide)
        ·exact absurd ((hsb 13 (by simp)).symm.trans h13_) (by decide)
       ·intro s g w hsp hsb hD a hf
        rcases hD with (⟨h13_, h14_, h16_, hD⟩ | ⟨h13_, h14_, h16_, hD⟩ | ⟨h13_, h14_, h16_, hD⟩ | ⟨h13_, h14_, h16_, hD⟩)
        ·have hS : St w0 w noX [] [pt b31 (Cs #[Iv 0, Iv 0, Iv 0, Iv 0, Iv 0, Iv 0] 25), pt b30 (Cs #[Iv 0] 56), pt b19 (Cs #[Iv 0, Iv 0, Iv 0, Iv 0, Iv 0, Iv 0] 25), pt b18 (Cs #[Iv x14, Iv x15] 23), pt b17 (Cs #[Iv x7, Iv x8, Iv x9, Iv x10, Iv x11, Iv x12] 25), pt b16 (Cs #[Iv x1, Iv x2, Iv x3, Iv x4, Iv x5, Iv x6] 25)] := hD; clear hD
         replace hf : Fr a 107 [] [(49, Iv 0), (2, Iv x13), (4, Pv b16 0), (5, Pv b17 0), (7, Pv b18 0), (8, Pv b19 0), (9, Iv 0), (10, Pv b30 0), (11, Pv b31 0), (12, Iv 0), (39, Iv 0), (40, Bv true)] := hf
         refine O.val hf rfl rfl rfl (RunV.indexArr (j := 0) (m := 0) T_arr_25 T_size_23 rfl rfl rfl (by decide) rfl) ?_; clear hf a; intro a hf
         exact O.nil ⟨rfl, hf.to trivial, (fun d hd => by cases (show some 50 = some d from hd); exact hf.get _ _ rfl), (Or.inl ⟨h13_, h14_, h16_, hS⟩)⟩
        ·exact absurd ((hsb 13 (by simp)).symm.trans h13_) (by decide)
        ·exact absurd ((hsb 13 (by simp)).symm.trans h13_) (by decide)
        ·exact absurd ((hsb 13 (by simp)).symm.trans h13_) (by decide)
       ·intro s g w hsp hsb hD a hf
        rcases hD with (⟨h13_, h14_, h16_, hD⟩ | ⟨h13_, h14_, h16_, hD⟩ | ⟨h13_, h14_, h16_, hD⟩ | ⟨h13_, h14_, h16_, hD⟩)
        ·have hS : St w0 w noX [] [pt b31 (Cs #[Iv 0, Iv 0, Iv 0, Iv 0, Iv 0, Iv 0] 25), pt b30 (Cs #[Iv 0] 56), pt b19 (Cs #[Iv 0, Iv 0, Iv 0, Iv 0, Iv 0, Iv 0] 25), pt b18 (Cs #[Iv x14, Iv x15] 23), pt b17 (Cs #[Iv x7, Iv x8, Iv x9, Iv x10, Iv x11, Iv x12] 25), pt b16 (Cs #[Iv x1, Iv x2, Iv x3, Iv x4, Iv x5, Iv x6] 25)] := hD; clear hD
         replace hf : Fr a 107 [] [(50, Pv b17 0), (2, Iv x13), (4, Pv b16 0), (5, Pv b17 0), (7, Pv b18 0), (8, Pv b19 0), (9, Iv 0), (10, Pv b30 0), (11, Pv b31 0), (12, Iv 0), (39, Iv 0), (40, Bv true)] := hf
         refine O.val hf rfl rfl rfl (RunV.loadN (cs' := #[Iv x7, Iv x8]) T_agg_23 T_size_23 rfl (hS.ptAt (i := 4) rfl) (Nat.le_of_ble_eq_true rfl) rfl) ?_; clear hf a; intro a hf
         exact O.nil ⟨rfl, hf.to trivial, (fun d hd => by cases (show some 51 = some d from hd); exact hf.get _ _ rfl), (Or.inl ⟨h13_, h14_, h16_, hS⟩)⟩
        ·exact absurd ((hsb 13 (by simp)).symm.trans h13_) (by decide)
        ·exact absurd ((hsb 13 (by simp)).symm.trans h13_) (by decide)
        ·exact absurd ((hsb 13 (by simp)).symm.trans h13_) (by decide)
       ·intro s g w hsp hsb hD a hf
        rcases hD with (⟨h13_, h14_, h16_, hD⟩ | ⟨h13_, h14_, h16_, hD⟩ | ⟨h13_, h14_, h16_, hD⟩ | ⟨h13_, h14_, h16_, hD⟩)
        ·have hS : St w0 w noX [] [pt b31 (Cs #[Iv 0, Iv 0, Iv 0, Iv 0, Iv 0, Iv 0] 25), pt b30 (Cs #[Iv 0] 56), pt b19 (Cs #[Iv 0, Iv 0, Iv 0, Iv 0, Iv 0, Iv 0] 25), pt b18 (Cs #[Iv x14, Iv x15] 23), pt b17 (Cs #[Iv x7, Iv x8, Iv x9, Iv x10, Iv x11, Iv x12] 25), pt b16 (Cs #[Iv x1, Iv x2, Iv x3, Iv x4, Iv x5, Iv x6] 25)] := hD; clear hD
         replace hf : Fr a 107 [] [(2, Iv x13), (4, Pv b16 0), (5, Pv b17 0), (7, Pv b18 0), (8, Pv b19 0), (9, Iv 0), (10, Pv b30 0), (11, Pv b31 0), (12, Iv 0), (39, Iv 0), (40, Bv true)] := hf
         refine O.val hf rfl rfl rfl (RunV.move rfl) ?_; clear hf a; intro a hf
         exact O.nil ⟨rfl, hf.to trivial, (fun d hd => by cases (show some 52 = some d from hd); exact hf.get _ _ rfl), (Or.inl ⟨h13_, h14_, h16_, hS⟩)⟩
        ·exact absurd ((hsb 13 (by simp)).symm.trans h13_) (by decide)
        ·exact absurd ((hsb 13 (by simp)).symm.trans h13_) (by decide)
        ·exact absurd ((hsb 13 (by simp)).symm.trans h13_) (by decide)
       ·intro s g w hsp hsb hD a hf
        rcases hD with (⟨h13_, h14_, h16_, hD⟩ | ⟨h13_, h14_, h16_, hD⟩ | ⟨h13_, h14_, h16_, hD⟩ | ⟨h13_, h14_, h16_, hD⟩)
        ·have hS : St w0 w noX [] [pt b31 (Cs #[Iv 0, Iv 0, Iv 0, Iv 0, Iv 0, Iv 0] 25), pt b30 (Cs #[Iv 0] 56), pt b19 (Cs #[Iv 0, Iv 0, Iv 0, Iv 0, Iv 0, Iv 0] 25), pt b18 (Cs #[Iv x14, Iv x15] 23), pt b17 (Cs #[Iv x7, Iv x8, Iv x9, Iv x10, Iv x11, Iv x12] 25), pt b16 (Cs #[Iv x1, Iv x2, Iv x3, Iv x4, Iv x5, Iv x6] 25)] := hD; clear hD
         replace hf : Fr a 107 [] [(51, .agg #[Iv x7, Iv x8]), (52, Iv x13), (2, Iv x13), (4, Pv b16 0), (5, Pv b17 0), (7, Pv b18 0), (8, Pv b19 0), (9, Iv 0), (10, Pv b30 0), (11, Pv b31 0), (12, Iv 0), (39, Iv 0), (40, Bv true)] := hf
         refine O.callR hf rfl rfl rfl (RunE.call (av := #[.agg #[Iv x7, Iv x8], Iv x13, Iv 86400000000]) C_ok_20 rfl rfl rfl) (m_ref03_Scale_ok F x7 x8 x13 86400000000 _ x60 hx60) ?_
         clear hf a; rintro _ w hS1 a hf
         replace hf : Fr a _ _ ((53, .tuple #[.agg #[Iv x60.1, Iv x60.2.1], Iv x60.2.2]) :: _) := hf
         replace hS := (hS.call hS1).eqM (N := [pt b31 (Cs #[Iv 0, Iv 0, Iv 0, Iv 0, Iv 0, Iv 0] 25), pt b30 (Cs #[Iv 0] 56), pt b19 (Cs #[Iv 0, Iv 0, Iv 0, Iv 0, Iv 0, Iv 0] 25), pt b18 (Cs #[Iv x14, Iv x15] 23), pt b17 (Cs #[Iv x7, Iv x8, Iv x9, Iv x10, Iv x11, Iv x12] 25), pt b16 (Cs #[Iv x1, Iv x2, Iv x3, Iv x4, Iv x5, Iv x6] 25)]) rfl
         clear hS1
         exact O.nil ⟨rfl, hf.to trivial, (fun d hd => by cases (show some 53 = some d from hd); exact hf.get _ _ rfl), (Or.inl ⟨h13_, h14_, h16_, hS⟩)⟩
        ·exact absurd ((hsb 13 (by simp)).symm.trans h13_) (by decide)
        ·exact absurd ((hsb 13 (by simp)).symm.trans h13_) (by decide)
        ·exact absurd ((hsb 13 (by simp)).symm.trans h13_) (by decide)
       ·intro s g w hsp hsb hD a hf
        rcases hD with (⟨h13_, h14_, h16_, hD⟩ | ⟨h13_, h14_, h16_, hD⟩ | ⟨h13_, h14_, h16_, hD⟩ | ⟨h13_, h14_, h16_, hD⟩)
        ·have hS : St w0 w noX [] [pt b31 (Cs #[Iv 0, Iv 0, Iv 0, Iv 0, Iv 0, Iv 0] 25), pt b30 (Cs #[Iv 0] 56), pt b19 (Cs #[Iv 0, Iv 0, Iv 0, Iv 0, Iv 0, Iv 0] 25), pt b18 (Cs #[Iv x14, Iv x15] 23), pt b17 (Cs #[Iv x7, Iv x8, Iv x9, Iv x10, Iv x11, Iv x12] 25), pt b16 (Cs #[Iv x1, Iv x2, Iv x3, Iv x4, Iv x5, Iv x6] 25)] := hD; clear hD
         replace hf : Fr a 107 [] [(53, .tuple #[.agg #[Iv x60.1, Iv x60.2.1], Iv x60.2.2]), (2, Iv x13), (4, Pv b16 0), (5, Pv b17 0), (7, Pv b18 0), (8, Pv b19 0), (9, Iv 0), (10, Pv b30 0), (11, Pv b31 0), (12, Iv 0), (39, Iv 0), (40, Bv true)] := hf
         refine O.val hf rfl rfl rfl (RunV.extract rfl rfl) ?_; clear hf a; intro a hf
         exact O.nil ⟨rfl, hf.to trivial, (fun d hd => by cases (show some 54 = some d from hd); exact hf.get _ _ rfl), (Or.inl ⟨h13_, h14_, h16_, hS⟩)⟩
        ·exact absurd ((hsb 13 (by simp)).symm.trans h13_) (by decide)
        ·exact absurd ((hsb 13 (by simp)).symm.trans h13_) (by decide)
        ·exact absurd ((hsb 13 (by simp)).symm.trans h13_) (by decide)
       ·intro s g w hsp hsb hD a hf
        rcases hD with (⟨h13_, h14_, h16_, hD⟩ | ⟨h13_, h14_, h16_, hD⟩ | ⟨h13_, h14_, h16_, hD⟩ | ⟨h13_, h14_, h16_, hD⟩)
        ·have hS : St w0 w noX [] [pt b31 (Cs #[Iv 0, Iv 0, Iv 0, Iv 0, Iv 0, Iv 0] 25), pt b30 (Cs #[Iv 0] 56), pt b19 (Cs #[Iv 0, Iv 0, Iv 0, Iv 0, Iv 0, Iv 0] 25), pt b18 (Cs #[Iv x14, Iv x15] 23), pt b17 (Cs #[Iv x7, Iv x8, Iv x9, Iv x10, Iv x11, Iv x12] 25), pt b16 (Cs #[Iv x1, Iv x2, Iv x3, Iv x4, Iv x5, Iv x6] 25)] := hD; clear hD
         replace hf : Fr a 107 [] [(53, .tuple #[.agg #[Iv x60.1, Iv x60.2.1], Iv x60.2.2]), (2, Iv x13), (4, Pv b16 0), (5, Pv b17 0), (7, Pv b18 0), (8, Pv b19 0), (9, Iv 0), (10, Pv b30 0), (11, Pv b31 0), (12, Iv 0), (39, Iv 0), (40, Bv true)] := hf
         refine O.val hf rfl rfl rfl (RunV.extract rfl rfl) ?_; clear hf a; intro a hf
         exact O.nil ⟨rfl, hf.to trivial, (fun d hd => by cases (show some 55 = some d from hd); exact hf.get _ _ rfl), (Or.inl ⟨h13_, h14_, h16_, hS⟩)⟩
        ·exact absurd ((hsb 13 (by simp)).symm.trans h13_) (by decide)
        ·exact absurd ((hsb 13 (by simp)).symm.trans h13_) (by decide)
        ·exact absurd ((hsb 13 (by simp)).symm.trans h13_) (by decide)
       ·intro s g w hsp hsb hD a hf
        rcases hD with (⟨h13_, h14_, h16_, hD⟩ | ⟨h13_, h14_, h16_, hD⟩ | ⟨h13_, h14_, h16_, hD⟩ | ⟨h13_, h14_, h16_, hD⟩)
        ·exact absurd ((hsp 13 (by simp)).symm.trans h13_) (by decide)
        ·exact absurd ((hsp 14 (by simp)).symm.trans h14_) (by decide)
        ·have hS : St w0 w noX [] [pt b30 (Cs #[Iv x62.2.2] 56), pt b31 (Cs #[Iv 0, Iv 0, Iv 0, Iv 0, Iv 0, Iv 0] 25), pt b19 (Cs #[Iv 0, Iv 0, Iv 0, Iv 0, Iv 0, Iv 0] 25), pt b18 (Cs #[Iv x14, Iv x15] 23), pt b17 (Cs #[Iv x7, Iv x8, Iv x9, Iv x10, Iv x11, Iv x12] 25), pt b16 (Cs #[Iv x1, Iv x2, Iv x3, Iv x4, Iv x5, Iv x6] 25)] := hD; clear hD
         replace hf : Fr a 107 [] [(43, Iv 0), (44, Pv b30 0), (45, Iv 0), (46, Pv b16 0), (47, .agg #[Iv x1, Iv x2]), (48, Pv b30 0), (49, Iv 0), (50, Pv b17 0), (51, .agg #[Iv x7, Iv x8]), (52, Iv x13), (53, .tuple #[.agg #[Iv x60.1, Iv x60.2.1], Iv x60.2.2]), (54, .agg #[Iv x60.1, Iv x60.2.1]), (55, Iv x60.2.2), (56, .agg #[Iv x61.1, Iv x61.2.1]), (57, .agg #[Iv x62.1, Iv x62.2.1]), (2, Iv x13), (4, Pv b16 0), (5, Pv b17 0), (7, Pv b18 0), (8, Pv b19 0), (9, Iv 0), (10, Pv b30 0), (11, Pv b31 0), (12, Iv 0), (39, Iv 0), (40, Bv true)] := hf
         refine O.val hf rfl rfl rfl (RunV.indexArr (j := 0) (m := 0) T_arr_25 T_size_23 rfl rfl rfl (by decide) rfl) ?_; clear hf a; intro a hf
         exact O.nil ⟨rfl, hf.to trivial, (fun d hd => by cases (show some 58 = some d from hd); exact hf.get _ _ rfl), (Or.inr (Or.inr (Or.inl ⟨h13_, h14_, h16_, hS⟩)))⟩
        ·exact absurd ((hsb 16 (by simp)).symm.trans h16_) (by decide)
      ·clear hf hf1 hS
       refine ⟨?_, ?_, ?_, trivial⟩
       ·intro s g w hs0 hsp hsb hD a hf
        rcases hD with (⟨h13_, h14_, h16_, hD⟩ | ⟨h13_, h14_, h16_, hD⟩ | ⟨h13_, h14_, h16_, hD⟩ | ⟨h13_, h14_, h16_, hD⟩)
        ·have hS : St w0 w noX [] [pt b31 (Cs #[Iv 0, Iv 0, Iv 0, Iv 0, Iv 0, Iv 0] 25), pt b30 (Cs #[Iv 0] 56), pt b19 (Cs #[Iv 0, Iv 0, Iv 0, Iv 0, Iv 0, Iv 0] 25), pt b18 (Cs #[Iv x14, Iv x15] 23), pt b17 (Cs #[Iv x7, Iv x8, Iv x9, Iv x10, Iv x11, Iv x12] 25), pt b16 (Cs #[Iv x1, Iv x2, Iv x3, Iv x4, Iv x5, Iv x6] 25)] := hD; clear hD
         replace hf : Fr a 107 [] [(48, Pv b30 0), (53, .tuple #[.agg #[Iv x60.1, Iv x60.2.1], Iv x60.2.2]), (54, .agg #[Iv x60.1, Iv x60.2.1]), (55, Iv x60.2.2), (2, Iv x13), (4, Pv b16 0), (5, Pv b17 0), (7, Pv b18 0), (8, Pv b19 0), (9, Iv 0), (10, Pv b30 0), (11, Pv b31 0), (12, Iv 0), (39, Iv 0), (40, Bv true)] := hf
         refine O.callR hf rfl rfl rfl (RunE.call (av := #[Pv b30 0, .agg #[Iv x60.1, Iv x60.2.1], Iv x60.2.2]) C_ok_19 rfl rfl rfl) (m_ref17_Calc_Keep_ok F b30 0 x60.1 x60.2.1 x60.2.2 _ (hS.ptAt (i := 1) rfl) x61 hx61) ?_
         clear hf a; rintro _ w hS1 a hf
         replace hf : Fr a _ _ ((56, .agg #[Iv x61.1, Iv x61.2.1]) :: _) := hf
         replace hS := (hS.callX1 hS1 (i := 1) rfl (fun _ h => h)).eqM (N := [pt b30 (Cs #[Iv x61.2.2] 56), pt b31 (Cs #[Iv 0, Iv 0, Iv 0, Iv 0, Iv 0, Iv 0] 25), pt b19 (Cs #[Iv 0, Iv 0, Iv 0, Iv 0, Iv 0, Iv 0] 25), pt b18 (Cs #[Iv x14, Iv x15] 23), pt b17 (Cs #[Iv x7, Iv x8, Iv x9, Iv x10, Iv x11, Iv x12] 25), pt b16 (Cs #[Iv x1, Iv x2, Iv x3, Iv x4, Iv x5, Iv x6] 25)]) rfl
         clear hS1
         exact O.nil ⟨rfl, (), hf.to trivial, (fun d hd => by cases (show some 56 = some d from hd); exact hf.get _ _ rfl), (fun j hj hk => match j, hj, hk with | 0, hj, hk => rfl | 1, hj, hk => rfl | 2, hj, hk => rfl | 3, hj, hk => rfl | 4, hj, hk => rfl | 5, hj, hk => rfl | 6, hj, hk => rfl | 7, hj, hk => rfl | 8, hj, hk => rfl | 9, hj, hk => rfl | 10, hj, hk => rfl | 11, hj, hk => rfl | 12, hj, hk => rfl | 13, hj, hk => absurd rfl hj | 14, hj, hk => absurd hk (by decide) | 15, hj, hk => absurd hk (by decide) | 16, hj, hk => absurd hk (by decide) | _ + 17, _, _ => rfl), (Or.inr (Or.inl ⟨rfl, h14_, h16_, hS⟩))⟩
        ·exact absurd (hs0.symm.trans h13_) (by decide)
        ·exact absurd (hs0.symm.trans h13_) (by decide)
        ·exact absurd (hs0.symm.trans h13_) (by decide)
       ·intro s g w hs0 hsp hsb hD a hf
        rcases hD with (⟨h13_, h14_, h16_, hD⟩ | ⟨h13_, h14_, h16_, hD⟩ | ⟨h13_, h14_, h16_, hD⟩ | ⟨h13_, h14_, h16_, hD⟩)
        ·exact absurd ((hsp 13 (by simp)).symm.trans h13_) (by decide)
        ·have hS : St w0 w noX [] [pt b30 (Cs #[Iv x61.2.2] 56), pt b31 (Cs #[Iv 0, Iv 0, Iv 0, Iv 0, Iv 0, Iv 0] 25), pt b19 (Cs #[Iv 0, Iv 0, Iv 0, Iv 0, Iv 0, Iv 0] 25), pt b18 (Cs #[Iv x14, Iv x15] 23), pt b17 (Cs #[Iv x7, Iv x8, Iv x9, Iv x10, Iv x11, Iv x12] 25), pt b16 (Cs #[Iv x1, Iv x2, Iv x3, Iv x4, Iv x5, Iv x6] 25)] := hD; clear hD
         replace hf : Fr a 107 [] [(44, Pv b30 0), (47, .agg #[Iv x1, Iv x2]), (56, .agg #[Iv x61.1, Iv x61.2.1]), (2, Iv x13), (4, Pv b16 0), (5, Pv b17 0), (7, Pv b18 0), (8, Pv b19 0), (9, Iv 0), (10, Pv b30 0), (11, Pv b31 0), (12, Iv 0), (39, Iv 0), (40, Bv true)] := hf
         refine O.callR hf rfl rfl rfl (RunE.call (av := #[Pv b30 0, .agg #[Iv x1, Iv x2], .agg #[Iv x61.1, Iv x61.2.1]]) C_ok_18 rfl rfl rfl) (m_ref17_Calc_Add_ok F b30 x61.2.2 x1 x2 x61.1 x61.2.1 _ (hS.ptAt (i := 0) rfl) x62 hx62) ?_
         clear hf a; rintro _ w hS1 a hf
         replace hf : Fr a _ _ ((57, .agg #[Iv x62.1, Iv x62.2.1]) :: _) := hf
         replace hS := (hS.callX1 hS1 (i := 0) rfl (fun _ h => h)).eqM (N := [pt b30 (Cs #[Iv x62.2.2] 56), pt b31 (Cs #[Iv 0, Iv 0, Iv 0, Iv 0, Iv 0, Iv 0] 25), pt b19 (Cs #[Iv 0, Iv 0, Iv 0, Iv 0, Iv 0, Iv 0] 25), pt b18 (Cs #[Iv x14, Iv x15] 23), pt b17 (Cs #[Iv x7, Iv x8, Iv x9, Iv x10, Iv x11, Iv x12] 25), pt b16 (Cs #[Iv x1, Iv x2, Iv x3, Iv x4, Iv x5, Iv x6] 25)]) rfl
         clear hS1
         exact O.nil ⟨rfl, (), hf.to trivial, (fun d hd => by cases (show some 57 = some d from hd); exact hf.get _ _ rfl), (fun j hj hk => match j, hj, hk with | 0, hj, hk => rfl | 1, hj, hk => rfl | 2, hj, hk => rfl | 3, hj, hk => rfl | 4, hj, hk => rfl | 5, hj, hk => rfl | 6, hj, hk => rfl | 7, hj, hk => rfl | 8, hj, hk => rfl | 9, hj, hk => rfl | 10, hj, hk => rfl | 11, hj, hk => rfl | 12, hj, hk => rfl | 13, hj, hk => rfl | 14, hj, hk => absurd rfl hj | 15, hj, hk => absurd hk (by decide) | 16, hj, hk => absurd hk (by decide) | _ + 17, _, _ => rfl), (Or.inr (Or.inr (Or.inl ⟨h13_, rfl, h16_, hS⟩)))⟩
        ·exact absurd (hs0.symm.trans h14_) (by decide)
        ·exact absurd (hs0.symm.trans h14_) (by decide)
       ·intro s g w hs0 hsp hsb hD a hf
        rcases hD with (⟨h13_, h14_, h16_, hD⟩ | ⟨h13_, h14_, h16_, hD⟩ | ⟨h13_, h14_, h16_, hD⟩ | ⟨h13_, h14_, h16_, hD⟩)
        ·exact absurd ((hsp 13 (by simp)).symm.trans h13_) (by decide)
        ·exact absurd ((hsp 14 (by simp)).symm.trans h14_) (by decide)
        ·have hS : St w0 w noX [] [pt b30 (Cs #[Iv x62.2.2] 56), pt b31 (Cs #[Iv 0, Iv 0, Iv 0, Iv 0, Iv 0, Iv 0] 25), pt b19 (Cs #[Iv 0, Iv 0, Iv 0, Iv 0, Iv 0, Iv 0] 25), pt b18 (Cs #[Iv x14, Iv x15] 23), pt b17 (Cs #[Iv x7, Iv x8, Iv x9, Iv x10, Iv x11, Iv x12] 25), pt b16 (Cs #[Iv x1, Iv x2, Iv x3, Iv x4, Iv x5, Iv x6] 25)] := hD; clear hD
         replace hf : Fr a 107 [] [(43, Iv 0), (44, Pv b30 0), (45, Iv 0), (46, Pv b16 0), (47, .agg #[Iv x1, Iv x2]), (48, Pv b30 0), (49, Iv 0), (50, Pv b17 0), (51, .agg #[Iv x7, Iv x8]), (52, Iv x13), (53, .tuple #[.agg #[Iv x60.1, Iv x60.2.1], Iv x60.2.2]), (54, .agg #[Iv x60.1, Iv x60.2.1]), (55, Iv x60.2.2), (56, .agg #[Iv x61.1, Iv x61.2.1]), (57, .agg #[Iv x62.1, Iv x62.2.1]), (58, Pv b31 0), (2, Iv x13), (4, Pv b16 0), (5, Pv b17 0), (7, Pv b18 0), (8, Pv b19 0), (9, Iv 0), (10, Pv b30 0), (11, Pv b31 0), (12, Iv 0), (39, Iv 0), (40, Bv true)] := hf
         refine O.store (j := 1) (cs' := #[Iv x62.1, Iv x62.2.1, Iv 0, Iv 0, Iv 0, Iv 0]) (M' := [pt b30 (Cs #[Iv x62.2.2] 56), pt b31 (Cs #[Iv x62.1, Iv x62.2.1, Iv 0, Iv 0, Iv 0, Iv 0] 25), pt b19 (Cs #[Iv 0, Iv 0, Iv 0, Iv 0, Iv 0, Iv 0] 25), pt b18 (Cs #[Iv x14, Iv x15] 23), pt b17 (Cs #[Iv x7, Iv x8, Iv x9, Iv x10, Iv x11, Iv x12] 25), pt b16 (Cs #[Iv x1, Iv x2, Iv x3, Iv x4, Iv x5, Iv x6] 25)]) hf hS rfl rfl rfl T_size_23 rfl rfl rfl (Nat.le_of_ble_eq_true rfl) rfl rfl ?_
         clear hS; intro w hS
         exact O.nil ⟨rfl, (), hf.to trivial, (fun d hd => by cases (show none = some d from hd)), (fun j hj hk => match j, hj, hk with | 0, hj, hk => rfl | 1, hj, hk => rfl | 2, hj, hk => rfl | 3, hj, hk => rfl | 4, hj, hk => rfl | 5, hj, hk => rfl | 6, hj, hk => rfl | 7, hj, hk => rfl | 8, hj, hk => rfl | 9, hj, hk => rfl | 10, hj, hk => rfl | 11, hj, hk => rfl | 12, hj, hk => rfl | 13, hj, hk => rfl | 14, hj, hk => rfl | 15, hj, hk => rfl | 16, hj, hk => absurd rfl hj | _ + 17, _, _ => rfl), (Or.inr (Or.inr (Or.inr ⟨h13_, h14_, rfl, hS⟩)))⟩
        ·exact absurd (hs0.symm.trans h16_) (by decide)
      clear hf hf1 hS; intro s g a w hs hf hD
      rcases hD with (⟨h13_, h14_, h16_, hD⟩ | ⟨h13_, h14_, h16_, hD⟩ | ⟨h13_, h14_, h16_, hD⟩ | ⟨h13_, h14_, h16_, hD⟩)
      · exact absurd ((hs 13 (by simp)).symm.trans h13_) (by decide)
      · exact absurd ((hs 14 (by simp)).symm.trans h14_) (by decide)
      · exact absurd ((hs 16 (by simp)).symm.trans h16_) (by decide)
      have hS : St w0 w noX [] [pt b30 (Cs #[Iv x62.2.2] 56), pt b31 (Cs #[Iv x62.1, Iv x62.2.1, Iv 0, Iv 0, Iv 0, Iv 0] 25), pt b19 (Cs #[Iv 0, Iv 0, Iv 0, Iv 0, Iv 0, Iv 0] 25), pt b18 (Cs #[Iv x14, Iv x15] 23), pt b17 (Cs #[Iv x7, Iv x8, Iv x9, Iv x10, Iv x11, Iv x12] 25), pt b16 (Cs #[Iv x1, Iv x2, Iv x3, Iv x4, Iv x5, Iv x6] 25)] := hD; clear hD
      replace hf : Fr a 107 [] [(43, Iv 0), (44, Pv b30 0), (45, Iv 0), (46, Pv b16 0), (47, .agg #[Iv x1, Iv x2]), (48, Pv b30 0), (49, Iv 0), (50, Pv b17 0), (51, .agg #[Iv x7, Iv x8]), (52, Iv x13), (53, .tuple #[.agg #[Iv x60.1, Iv x60.2.1], Iv x60.2.2]), (54, .agg #[Iv x60.1, Iv x60.2.1]), (55, Iv x60.2.2), (56, .agg #[Iv x61.1, Iv x61.2.1]), (57, .agg #[Iv x62.1, Iv x62.2.1]), (58, Pv b31 0), (2, Iv x13), (4, Pv b16 0), (5, Pv b17 0), (7, Pv b18 0), (8, Pv b19 0), (9, Iv 0), (10, Pv b30 0), (11, Pv b31 0), (12, Iv 0), (39, Iv 0), (40, Bv true)] := hf
      refine k_blk_normal ?_
      refine k_seq ?_
      -- region 13
      refine W.regionL (l := [0, 1, 2]) rfl ?_
      refine O.val hf rfl rfl rfl (RunV.move rfl) ?_; clear hf a; intro a hf
      refine O.val (v := Iv 1) hf rfl rfl rfl (RunV.add (p := 0) (q := 1) rfl rfl) ?_; clear hf a; intro a hf
      refine O.val hf rfl rfl rfl (RunV.assign rfl) ?_; clear hf a; intro a hf
      refine O.nil ?_
      refine k_then (LH.step ?_)
      refine W.seq ?_
      refine W.seq ?_
      -- region 12
      refine W.regionL (l := [0, 1]) rfl ?_
      refine O.val hf rfl rfl rfl (RunV.move rfl) ?_; clear hf a; intro a hf
      refine O.val (v := Bv true) hf rfl rfl rfl (RunV.lss (p := 1) (q := 3) rfl rfl) ?_; clear hf a; intro a hf
      refine O.nil ?_
      refine k_seq ?_
      refine W.if_tt hf rfl ?_
      refine W.skip ?_
      refine k_seq ?_
      refine W.seq ?_
      refine W.block ?_
      -- region 14, which draws its order
      -- [13, 14, 16] turn memory
      have hf1 : Fr a 107 [] [(43, Iv 0), (44, Pv b30 0), (45, Iv 0), (46, Pv b16 0), (47, .agg #[Iv x1, Iv x2]), (48, Pv b30 0), (49, Iv 0), (50, Pv b17 0), (51, .agg #[Iv x7, Iv x8]), (52, Iv x13), (53, .tuple #[.agg #[Iv x60.1, Iv x60.2.1], Iv x60.2.2]), (54, .agg #[Iv x60.1, Iv x60.2.1]), (55, Iv x60.2.2), (56, .agg #[Iv x61.1, Iv x61.2.1]), (57, .agg #[Iv x62.1, Iv x62.2.1]), (58, Pv b31 0)] := hf.to ⟨rfl, rfl, rfl, rfl, rfl, rfl, rfl, rfl, rfl, rfl, rfl, rfl, rfl, rfl, rfl, rfl, trivial⟩
      replace hf : Fr a 107 [] [(2, Iv x13), (4, Pv b16 0), (5, Pv b17 0), (7, Pv b18 0), (8, Pv b19 0), (9, Iv 0), (10, Pv b30 0), (11, Pv b31 0), (12, Iv 1), (39, Iv 1), (40, Bv true), (41, Iv 0), (42, Iv 1)] := hf.to ⟨rfl, rfl, rfl, rfl, rfl, rfl, rfl, rfl, rfl, rfl, rfl, rfl, rfl, trivial⟩
      obtain ⟨x63, hx63, hm⟩ := hm_b hm
      obtain ⟨x64, hx64, hm⟩ := hm_b hm
      obtain ⟨x65, hx65, hm⟩ := hm_b hm
      refine W.drawP (γ := Unit) (L0 := [(2, Iv x13), (4, Pv b16 0), (5, Pv b17 0), (7, Pv b18 0), (8, Pv b19 0), (9, Iv 0), (10, Pv b30 0), (11, Pv b31 0), (12, Iv 1), (39, Iv 1), (40, Bv true), (41, Iv 0), (42, Iv 1)]) (L1 := [(43, Iv 0), (44, Pv b30 0), (45, Iv 0), (46, Pv b16 0), (47, .agg #[Iv x1, Iv x2]), (48, Pv b30 0), (49, Iv 0), (50, Pv b17 0), (51, .agg #[Iv x7, Iv x8]), (52, Iv x13), (53, .tuple #[.agg #[Iv x60.1, Iv x60.2.1], Iv x60.2.2]), (54, .agg #[Iv x60.1, Iv x60.2.1]), (55, Iv x60.2.2), (56, .agg #[Iv x61.1, Iv x61.2.1]), (57, .agg #[Iv x62.1, Iv x62.2.1]), (58, Pv b31 0)]) () [13, 14, 16] [0, 1, 2, 3, 4, 5, 6, 7, 8, 9, 10, 11, 12, 15] (fun i => match i with | 0 => [] | 1 => [] | 2 => [] | 3 => [2] | 4 => [3] | 5 => [] | 6 => [] | 7 => [6] | 8 => [7] | 9 => [] | 10 => [8, 9] | 11 => [10] | 12 => [10] | 13 => [5, 10, 11, 12] | 14 => [1, 4, 13] | 15 => [0, 1, 2, 3, 4, 5, 6, 7, 8, 9, 10, 11, 12, 13, 14] | 16 => [0, 1, 2, 3, 4, 5, 6, 7, 8, 9, 10, 11, 12, 13, 14, 15] | _ => []) (fun i => match i with | 14 => [13] | 15 => [13, 14] | 16 => [13, 14] | _ => []) (fun i => match i with | 0 => [16] | 1 => [14, 16] | 2 => [14, 16] | 3 => [14, 16] | 4 => [14, 16] | 5 => [13, 14, 16] | 6 => [13, 14, 16] | 7 => [13, 14, 16] | 8 => [13, 14, 16] | 9 => [13, 14, 16] | 10 => [13, 14, 16] | 11 => [13, 14, 16] | 12 => [13, 14, 16] | 13 => [14, 16] | 14 => [16] | 15 => [16] | _ => []) (fun i => match i with | 13 => [14, 15, 16] | 14 => [15, 16] | 16 => [] | _ => []) (fun _ => []) (fun (g : Unit) j => match g, j with | _, 0 => Iv 1 | _, 1 => Pv b30 0 | _, 2 => Iv 1 | _, 3 => Pv b16 2 | _, 4 => .agg #[Iv x3, Iv x4] | _, 5 => Pv b30 0 | _, 6 => Iv 1 | _, 7 => Pv b17 2 | _, 8 => .agg #[Iv x9, Iv x10] | _, 9 => Iv x13 | _, 10 => .tuple #[.agg #[Iv x63.1, Iv x63.2.1], Iv x63.2.2] | _, 11 => .agg #[Iv x63.1, Iv x63.2.1] | _, 12 => Iv x63.2.2 | _, 13 => .agg #[Iv x64.1, Iv x64.2.1] | _, 14 => .agg #[Iv x65.1, Iv x65.2.1] | _, 15 => Pv b31 2 | _, _ => undef) (fun s (g : Unit) w => match g with | _ => (s 13 = false ∧ s 14 = false ∧ s 16 = false ∧ St w0 w noX [] [pt b30 (Cs #[Iv x62.2.2] 56), pt b31 (Cs #[Iv x62.1, Iv x62.2.1, Iv 0, Iv 0, Iv 0, Iv 0] 25), pt b19 (Cs #[Iv 0, Iv 0, Iv 0, Iv 0, Iv 0, Iv 0] 25), pt b18 (Cs #[Iv x14, Iv x15] 23), pt b17 (Cs #[Iv x7, Iv x8, Iv x9, Iv x10, Iv x11, Iv x12] 25), pt b16 (Cs #[Iv x1, Iv x2, Iv x3, Iv x4, Iv x5, Iv x6] 25)]) ∨ (s 13 = true ∧ s 14 = false ∧ s 16 = false ∧ St w0 w noX [] [pt b30 (Cs #[Iv x64.2.2] 56), pt b31 (Cs #[Iv x62.1, Iv x62.2.1, Iv 0, Iv 0, Iv 0, Iv 0] 25), pt b19 (Cs #[Iv 0, Iv 0, Iv 0, Iv 0, Iv 0, Iv 0] 25), pt b18 (Cs #[Iv x14, Iv x15] 23), pt b17 (Cs #[Iv x7, Iv x8, Iv x9, Iv x10, Iv x11, Iv x12] 25), pt b16 (Cs #[Iv x1, Iv x2, Iv x3, Iv x4, Iv x5, Iv x6] 25)]) ∨ (s 13 = true ∧ s 14 = true ∧ s 16 = false ∧ St w0 w noX [] [pt b30 (Cs #[Iv x65.2.2] 56), pt b31 (Cs #[Iv x62.1, Iv x62.2.1, Iv 0, Iv 0, Iv 0, Iv 0] 25), pt b19 (Cs #[Iv 0, Iv 0, Iv 0, Iv 0, Iv 0, Iv 0] 25), pt b18 (Cs #[Iv x14, Iv x15] 23), pt b17 (Cs #[Iv x7, Iv x8, Iv x9, Iv x10, Iv x11, Iv x12] 25), pt b16 (Cs #[Iv x1, Iv x2, Iv x3, Iv x4, Iv x5, Iv x6] 25)]) ∨ (s 13 = true ∧ s 14 = true ∧ s 16 = true ∧ St w0 w noX [] [pt b30 (Cs #[Iv x65.2.2] 56), pt b31 (Cs #[Iv x62.1, Iv x62.2.1, Iv x65.1, Iv x65.2.1, Iv 0, Iv 0] 25), pt b19 (Cs #[Iv 0, Iv 0, Iv 0, Iv 0, Iv 0, Iv 0] 25), pt b18 (Cs #[Iv x14, Iv x15] 23), pt b17 (Cs #[Iv x7, Iv x8, Iv x9, Iv x10, Iv x11, Iv x12] 25), pt b16 (Cs #[Iv x1, Iv x2, Iv x3, Iv x4, Iv x5, Iv x6] 25)])) P_mixed (by kernel_rfl) hf hf1 (Or.inl ⟨rfl, rfl, rfl, hS.drew⟩) ?_ ?_ ?_
      ·clear hf hf1 hS
       refine ⟨?_, ?_, ?_, ?_, ?_, ?_, ?_, ?_, ?_, ?_, ?_, ?_, ?_, ?_, trivial⟩
       ·intro s g w hsp hsb hD a hf
        rcases hD with (⟨h13_, h14_, h16_, hD⟩ | ⟨h13_, h14_, h16_, hD⟩ | ⟨h13_, h14_, h16_, hD⟩ | ⟨h13_, h14_, h16_, hD⟩)
        ·have hS : St w0 w noX [] [pt b30 (Cs #[Iv x62.2.2] 56), pt b31 (Cs #[Iv x62.1, Iv x62.2.1, Iv 0, Iv 0, Iv 0, Iv 0] 25), pt b19 (Cs #[Iv 0, Iv 0, Iv 0, Iv 0, Iv 0, Iv 0] 25), pt b18 (Cs #[Iv x14, Iv x15] 23), pt b17 (Cs #[Iv x7, Iv x8, Iv x9, Iv x10, Iv x11, Iv x12] 25), pt b16 (Cs #[Iv x1, Iv x2, Iv x3, Iv x4, Iv x5, Iv x6] 25)] := hD; clear hD
         replace hf : Fr a 107 [] [(2, Iv x13), (4, Pv b16 0), (5, Pv b17 0), (7, Pv b18 0), (8, Pv b19 0), (9, Iv 0), (10, Pv b30 0), (11, Pv b31 0), (12, Iv 1), (39, Iv 1), (40, Bv true), (41, Iv 0), (42, Iv 1)] := hf
         refine O.val hf rfl rfl rfl (RunV.move rfl) ?_; clear hf a; intro a hf
         exact O.nil ⟨rfl, hf.to trivial, (fun d hd => by cases (show some 43 = some d from hd); exact hf.get _ _ rfl), (Or.inl ⟨h13_, h14_, h16_, hS⟩)⟩
        ·have hS : St w0 w noX [] [pt b30 (Cs #[Iv x64.2.2] 56), pt b31 (Cs #[Iv x62.1, Iv x62.2.1, Iv 0, Iv 0, Iv 0, Iv 0] 25), pt b19 (Cs #[Iv 0, Iv 0, Iv 0, Iv 0, Iv 0, Iv 0] 25), pt b18 (Cs #[Iv x14, Iv x15] 23), pt b17 (Cs #[Iv x7, Iv x8, Iv x9, Iv x10, Iv x11, Iv x12] 25), pt b16 (Cs #[Iv x1, Iv x2, Iv x3, Iv x4, Iv x5, Iv x6] 25)] := hD; clear hD
         replace hf : Fr a 107 [] [(2, Iv x13), (4, Pv b16 0), (5, Pv b17 0), (7, Pv b18 0), (8, Pv b19 0), (9, Iv 0), (10, Pv b30 0), (11, Pv b31 0), (12, Iv 1), (39, Iv 1), (40, Bv true), (41, Iv 0), (42, Iv 1)] := hf
         refine O.val hf rfl rfl rfl (RunV.move rfl) ?_; clear hf a; intro a hf
         exact O.nil ⟨rfl, hf.to trivial, (fun d hd => by cases (show some 43 = some d from hd); exact hf.get _ _ rfl), (Or.inr (Or.inl ⟨h13_, h14_, h16_, hS⟩))⟩
        ·have hS : St w0 w noX [] [pt b30 (Cs #[Iv x65.2.2] 56), pt b31 (Cs #[Iv x62.1, Iv x62.2.1, Iv 0, Iv 0, Iv 0, Iv 0] 25), pt b19 (Cs #[Iv 0, Iv 0, Iv 0, Iv 0, Iv 0, Iv 0] 25), pt b18 (Cs #[Iv x14, Iv x15] 23), pt b17 (Cs #[Iv x7, Iv x8, Iv x9, Iv x10, Iv x11, Iv x12] 25), pt b16 (Cs #[Iv x1, Iv x2, Iv x3, Iv x4, Iv x5, Iv x6] 25)] := hD; clear hD
         replace hf : Fr a 107 [] [(2, Iv x13), (4, Pv b16 0), (5, Pv b17 0), (7, Pv b18 0), (8, Pv b19 0), (9, Iv 0), (10, Pv b30 0), (11, Pv b31 0), (12, Iv 1), (39, Iv 1), (40, Bv true), (41, Iv 0), (42, Iv 1)] := hf
         refine O.val hf rfl rfl rfl (RunV.move rfl) ?_; clear hf a; intro a hf
         exact O.nil ⟨rfl, hf.to trivial, (fun d hd => by cases (show some 43 = some d from hd); exact hf.get _ _ rfl), (Or.inr (Or.inr (Or.inl ⟨h13_, h14_, h16_, hS⟩)))⟩
        ·exact absurd ((hsb 16 (by simp)).symm.trans h16_) (by decide)
       ·intro s g w hsp hsb hD a hf
        rcases hD with (⟨h13_, h14_, h16_, hD⟩ | ⟨h13_, h14_, h16_, hD⟩ | ⟨h13_, h14_, h16_, hD⟩ | ⟨h13_, h14_, h16_, hD⟩)
        ·have hS : St w0 w noX [] [pt b30 (Cs #[Iv x62.2.2] 56), pt b31 (Cs #[Iv x62.1, Iv x62.2.1, Iv 0, Iv 0, Iv 0, Iv 0] 25), pt b19 (Cs #[Iv 0, Iv 0, Iv 0, Iv 0, Iv 0, Iv 0] 25), pt b18 (Cs #[Iv x14, Iv x15] 23), pt b17 (Cs #[Iv x7, Iv x8, Iv x9, Iv x10, Iv x11, Iv x12] 25), pt b16 (Cs #[Iv x1, Iv x2, Iv x3, Iv x4, Iv x5, Iv x6] 25)] := hD; clear hD
         replace hf : Fr a 107 [] [(2, Iv x13), (4, Pv b16 0), (5, Pv b17 0), (7, Pv b18 0), (8, Pv b19 0), (9, Iv 0), (10, Pv b30 0), (11, Pv b31 0), (12, Iv 1), (39, Iv 1), (40, Bv true), (41, Iv 0), (42, Iv 1)] := hf
         refine O.val hf rfl rfl rfl (RunV.move rfl) ?_; clear hf a; intro a hf
         exact O.nil ⟨rfl, hf.to trivial, (fun d hd => by cases (show some 44 = some d from hd); exact hf.get _ _ rfl), (Or.inl ⟨h13_, h14_, h16_, hS⟩)⟩
        ·have hS : St w0 w noX [] [pt b30 (Cs #[Iv x64.2.2] 56), pt b31 (Cs #[Iv x62.1, Iv x62.2.1, Iv 0, Iv 0, Iv 0, Iv 0] 25), pt b19 (Cs #[Iv 0, Iv 0, Iv 0, Iv 0, Iv 0, Iv 0] 25), pt b18 (Cs #[Iv x14, Iv x15] 23), pt b17 (Cs #[Iv x7, Iv x8, Iv x9, Iv x10, Iv x11, Iv x12] 25), pt b16 (Cs #[Iv x1, Iv x2, Iv x3, Iv x4, Iv x5, Iv x6] 25)] := hD; clear hD
         replace hf : Fr a 107 [] [(2, Iv x13), (4, Pv b16 0), (5, Pv b17 0), (7, Pv b18 0), (8, Pv b19 0), (9, Iv 0), (10, Pv b30 0), (11, Pv b31 0), (12, Iv 1), (39, Iv 1), (40, Bv true), (41, Iv 0), (42, Iv 1)] := hf
         refine O.val hf rfl rfl rfl (RunV.move rfl) ?_; clear hf a; intro a hf
         exact O.nil ⟨rfl, hf.to trivial, (fun d hd => by cases (show some 44 = some d from hd); exact hf.get _ _ rfl), (Or.inr (Or.inl ⟨h13_, h14_, h16_, hS⟩))⟩
        ·exact absurd ((hsb 14 (by simp)).symm.trans h14_) (by decide)
        ·exact absurd ((hsb 14 (by simp)).symm.trans h14_) (by decide)
       ·intro s g w hsp hsb hD a hf
        rcases hD with (⟨h13_, h14_, h16_, hD⟩ | ⟨h13_, h14_, h16_, hD⟩ | ⟨h13_, h14_, h16_, hD⟩ | ⟨h13_, h14_, h16_, hD⟩)
        ·have hS : St w0 w noX [] [pt b30 (Cs #[Iv x62.2.2] 56), pt b31 (Cs #[Iv x62.1, Iv x62.2.1, Iv 0, Iv 0, Iv 0, Iv 0] 25), pt b19 (Cs #[Iv 0, Iv 0, Iv 0, Iv 0, Iv 0, Iv 0] 25), pt b18 (Cs #[Iv x14, Iv x15] 23), pt b17 (Cs #[Iv x7, Iv x8, Iv x9, Iv x10, Iv x11, Iv x12] 25), pt b16 (Cs #[Iv x1, Iv x2, Iv x3, Iv x4, Iv x5, Iv x6] 25)] := hD; clear hD
         replace hf : Fr a 107 [] [(2, Iv x13), (4, Pv b16 0), (5, Pv b17 0), (7, Pv b18 0), (8, Pv b19 0), (9, Iv 0), (10, Pv b30 0), (11, Pv b31 0), (12, Iv 1), (39, Iv 1), (40, Bv true), (41, Iv 0), (42, Iv 1)] := hf
         refine O.val hf rfl rfl rfl (RunV.move rfl) ?_; clear hf a; intro a hf
         exact O.nil ⟨rfl, hf.to trivial, (fun d hd => by cases (show some 45 = some d from hd); exact hf.get _ _ rfl), (Or.inl ⟨h13_, h14_, h16_, hS⟩)⟩
        ·have hS : St w0 w noX [] [pt b30 (Cs #[Iv x64.2.2] 56), pt b31 (Cs #[Iv x62.1, Iv x62.2.1, Iv 0, Iv 0, Iv 0, Iv 0] 25), pt b19 (Cs #[Iv 0, Iv 0, Iv 0, Iv 0, Iv 0, Iv 0] 25), pt b18 (Cs #[Iv x14, Iv x15] 23), pt b17 (Cs #[Iv x7, Iv x8, Iv x9, Iv x10, Iv x11, Iv x12] 25), pt b16 (Cs #[Iv x1, Iv x2, Iv x3, Iv x4, Iv x5, Iv x6] 25)] := hD; clear hD
         replace hf : Fr a 107 [] [(2, Iv x13), (4, Pv b16 0), (5, Pv b17 0), (7, Pv b18 0), (8, Pv b19 0), (9, Iv 0), (10, Pv b30 0), (11, Pv b31 0), (12, Iv 1), (39, Iv 1), (40, Bv true), (41, Iv 0), (42, Iv 1)] := hf
         refine O.val hf rfl rfl rfl (RunV.move rfl) ?_; clear hf a; intro a hf
         exact O.nil ⟨rfl, hf.to trivial, (fun d hd => by cases (show some 45 = some d from hd); exact hf.get _ _ rfl), (Or.inr (Or.inl ⟨h13_, h14_, h16_, hS⟩))⟩
        ·exact absurd ((hsb 14 (by simp)).symm.trans h14_) (by decide)
        ·exact absurd ((hsb 14 (by simp)).symm.trans h14_) (by decide)
       ·intro s g w hsp hsb hD a hf
        rcases hD with (⟨h13_, h14_, h16_, hD⟩ | ⟨h13_, h14_, h16_, hD⟩ | ⟨h13_, h14_, h16_, hD⟩ | ⟨h13_, h14_, h16_, hD⟩)
        ·have hS : St w0 w noX [] [pt b30 (Cs #[Iv x62.2.2] 56), pt b31 (Cs #[Iv x62.1, Iv x62.2.1, Iv 0, Iv 0, Iv 0, Iv 0] 25), pt b19 (Cs #[Iv 0, Iv 0, Iv 0, Iv 0, Iv 0, Iv 0] 25), pt b18 (Cs #[Iv x14, Iv x15] 23), pt b17 (Cs #[Iv x7, Iv x8, Iv x9, Iv x10, Iv x11, Iv x12] 25), pt b16 (Cs #[Iv x1, Iv x2, Iv x3, Iv x4, Iv x5, Iv x6] 25)] := hD; clear hD
         replace hf : Fr a 107 [] [(45, Iv 1), (2, Iv x13), (4, Pv b16 0), (5, Pv b17 0), (7, Pv b18 0), (8, Pv b19 0), (9, Iv 0), (10, Pv b30 0), (11, Pv b31 0), (12, Iv 1), (39, Iv 1), (40, Bv true), (41, Iv 0), (42, Iv 1)] := hf
         refine O.val hf rfl rfl rfl (RunV.indexArr (j := 1) (m := 2) T_arr_25 T_size_23 rfl rfl rfl (by decide) rfl) ?_; clear hf a; intro a hf
         exact O.nil ⟨rfl, hf.to trivial, (fun d hd => by cases (show some 46 = some d from hd); exact hf.get _ _ rfl), (Or.inl ⟨h13_, h14_, h16_, hS⟩)⟩
        ·have hS : St w0 w noX [] [pt b30 (Cs #[Iv x64.2.2] 56), pt b31 (Cs #[Iv x62.1, Iv x62.2.1, Iv 0, Iv 0, Iv 0, Iv 0] 25), pt b19 (Cs #[Iv 0, Iv 0, Iv 0, Iv 0, Iv 0, Iv 0] 25), pt b18 (Cs #[Iv x14, Iv x15] 23), pt b17 (Cs #[Iv x7, Iv x8, Iv x9, Iv x10, Iv x11, Iv x12] 25), pt b16 (Cs #[Iv x1, Iv x2, Iv x3, Iv x4, Iv x5, Iv x6] 25)] := hD; clear hD
         replace hf : Fr a 107 [] [(45, Iv 1), (2, Iv x13), (4, Pv b16 0), (5, Pv b17 0), (7, Pv b18 0), (8, Pv b19 0), (9, Iv 0), (10, Pv b30 0), (11, Pv b31 0), (12, Iv 1), (39, Iv 1), (40, Bv true), (41, Iv 0), (42, Iv 1)] := hf
         refine O.val hf rfl rfl rfl (RunV.indexArr (j := 1) (m := 2) T_arr_25 T_size_23 rfl rfl rfl (by decide) rfl) ?_; clear hf a; intro a hf
         exact O.nil ⟨rfl, hf.to trivial, (fun d hd => by cases (show some 46 = some d from hd); exact hf.get _ _ rfl), (Or.inr (Or.inl ⟨h13_, h14_, h16_, hS⟩))⟩
        ·exact absurd ((hsb 14 (by simp)).symm.trans h14_) (by decide)
        ·exact absurd ((hsb 14 (by simp)).symm.trans h14_) (by decide)
       ·intro s g w hsp hsb hD a hf
        rcases hD with (⟨h13_, h14_, h16_, hD⟩ | ⟨h13_, h14_, h16_, hD⟩ | ⟨h13_, h14_, h16_, hD⟩ | ⟨h13_, h14_, h16_, hD⟩)
        ·have hS : St w0 w noX [] [pt b30 (Cs #[Iv x62.2.2] 56), pt b31 (Cs #[Iv x62.1, Iv x62.2.1, Iv 0, Iv 0, Iv 0, Iv 0] 25), pt b19 (Cs #[Iv 0, Iv 0, Iv 0, Iv 0, Iv 0, Iv 0] 25), pt b18 (Cs #[Iv x14, Iv x15] 23), pt b17 (Cs #[Iv x7, Iv x8, Iv x9, Iv x10, Iv x11, Iv x12] 25), pt b16 (Cs #[Iv x1, Iv x2, Iv x3, Iv x4, Iv x5, Iv x6] 25)] := hD; clear hD
         replace hf : Fr a 107 [] [(46, Pv b16 2), (2, Iv x13), (4, Pv b16 0), (5, Pv b17 0), (7, Pv b18 0), (8, Pv b19 0), (9, Iv 0), (10, Pv b30 0), (11, Pv b31 0), (12, Iv 1), (39, Iv 1), (40, Bv true), (41, Iv 0), (42, Iv 1)] := hf
         refine O.val hf rfl rfl rfl (RunV.loadN (cs' := #[Iv x3, Iv x4]) T_agg_23 T_size_23 rfl (hS.ptAt (i := 5) rfl) (Nat.le_of_ble_eq_true rfl) rfl) ?_; clear hf a; intro a hf
         exact O.nil ⟨rfl, hf.to trivial, (fun d hd => by cases (show some 47 = some d from hd); exact hf.get _ _ rfl), (Or.inl ⟨h13_, h14_, h16_, hS⟩)⟩
        ·have hS : St w0 w noX [] [pt b30 (Cs #[Iv x64.2.2] 56), pt b31 (Cs #[Iv x62.1, Iv x62.2.1, Iv 0, Iv 0, Iv 0, Iv 0] 25), pt b19 (Cs #[Iv 0, Iv 0, Iv 0, Iv 0, Iv 0, Iv 0] 25), pt b18 (Cs #[Iv x14, Iv x15] 23), pt b17 (Cs #[Iv x7, Iv x8, Iv x9, Iv x10, Iv x11, Iv x12] 25), pt b16 (Cs #[Iv x1, Iv x2, Iv x3, Iv x4, Iv x5, Iv x6] 25)] := hD; clear hD
         replace hf : Fr a 107 [] [(46, Pv b16 2), (2, Iv x13), (4, Pv b16 0), (5, Pv b17 0), (7, Pv b18 0), (8, Pv b19 0), (9, Iv 0), (10, Pv b30 0), (11, Pv b31 0), (12, Iv 1), (39, Iv 1), (40, Bv true), (41, Iv 0), (42, Iv 1)] := hf
         refine O.val hf rfl rfl rfl (RunV.loadN (cs' := #[Iv x3, Iv x4]) T_agg_23 T_size_23 rfl (hS.ptAt (i := 5) rfl) (Nat.le_of_ble_eq_true rfl) rfl) ?_; clear hf a; intro a hf
         exact O.nil ⟨rfl, hf.to trivial, (fun d hd => by cases (show some 47 = some d from hd); exact hf.get _ _ rfl), (Or.inr (Or.inl ⟨h13_, h14_, h16_, hS⟩))⟩
        ·exact absurd ((hsb 14 (by simp)).symm.trans h14_) (by decide)
        ·exact absurd ((hsb 14 (by simp)).symm.trans h14_) (by decide)
       ·intro s g w hsp hsb hD a hf
        rcases hD with (⟨h13_, h14_, h16_, hD⟩ | ⟨h13_, h14_, h16_, hD⟩ | ⟨h13_, h14_, h16_, hD⟩ | ⟨h13_, h14_, h16_, hD⟩)
        ·have hS : St w0 w noX [] [pt b30 (Cs #[Iv x62.2.2] 56), pt b31 (Cs #[Iv x62.1, Iv x62.2.1, Iv 0, Iv 0, Iv 0, Iv 0] 25), pt b19 (Cs #[Iv 0, Iv 0, Iv 0, Iv 0, Iv 0, Iv 0] 25), pt b18 (Cs #[Iv x14, Iv x15] 23), pt b17 (Cs #[Iv x7, Iv x8, Iv x9, Iv x10, Iv x11, Iv x12] 25), pt b16 (Cs #[Iv x1, Iv x2, Iv x3, Iv x4, Iv x5, Iv x6] 25)] := hD; clear hD
         replace hf : Fr a 107 [] [(2, Iv x13), (4, Pv b16 0), (5, Pv b17 0), (7, Pv b18 0), (8, Pv b19 0), (9, Iv 0), (10, Pv b30 0), (11, Pv b31 0), (12, Iv 1), (39, Iv 1), (40, Bv true), (41, Iv 0), (42, Iv 1)] := hf
         refine O.val hf rfl rfl rfl (RunV.move rfl) ?_; clear hf a; intro a hf
         exact O.nil ⟨rfl, hf.to trivial, (fun d hd => by cases (show some 48 = some d from hd); exact hf.get _ _ rfl), (Or.inl ⟨h13_, h14_, h16_, hS⟩)⟩
        ·exact absurd ((hsb 13 (by simp)).symm.trans h13_) (by decide)
        ·exact absurd ((hsb 13 (by simp)).symm.trans h13_) (by decide)
        ·exact absurd ((hsb 13 (by simp)).symm.trans h13_) (by decide)
       ·intro s g w hsp hsb hD a hf
        rcases hD with (⟨h13_, h14_, h16_, hD⟩ | ⟨h13_, h14_, h16_, hD⟩ | ⟨h13_, h14_, h16_, hD⟩ | ⟨h13_, h14_, h16_, hD⟩)
        ·have hS : St w0 w noX [] [pt b30 (Cs #[Iv x62.2.2] 56), pt b31 (Cs #[Iv x62.1, Iv x62.2.1, Iv 0, Iv 0, Iv 0, Iv 0] 25), pt b19 (Cs #[Iv 0, Iv 0, Iv 0, Iv 0, Iv 0, Iv 0] 25), pt b18 (Cs #[Iv x14, Iv x15] 23), pt b17 (Cs #[Iv x7, Iv x8, Iv x9, Iv x10, Iv x11, Iv x12] 25), pt b16 (Cs #[Iv x1, Iv x2, Iv x3, Iv x4, Iv x5, Iv x6] 25)] := hD; clear hD
         replace hf : Fr a 107 [] [(2, Iv x13), (4, Pv b16 0), (5, Pv b17 0), (7, Pv b18 0), (8, Pv b19 0), (9, Iv 0), (10, Pv b30 0), (11, Pv b31 0), (12, Iv 1), (39, Iv 1), (40, Bv true), (41, Iv 0), (42, Iv 1)] := hf
         refine O.val hf rfl rfl rfl (RunV.move rfl) ?_; clear hf a; intro a hf
         exact O.nil ⟨rfl, hf.to trivial, (fun d hd => by cases (show some 49 = some d from hd); exact hf.get _ _ rfl), (Or.inl ⟨h13_, h14_, h16_, hS⟩)⟩
        ·exact absurd ((hsb 13 (by simp)).symm.trans h13_) (by decide)
        ·exact absurd ((hsb 13 (by simp)).symm.trans h13_) (by decide)
        ·exact absurd ((hsb 13 (by simp)).symm.trans h13_) (by decide)
       ·intro s g w hsp hsb hD a hf
        rcases hD with (⟨h13_, h14_, h16_, hD⟩ | ⟨h13_, h14_, h16_, hD⟩ | ⟨h13_, h14_, h16_, hD⟩ | ⟨h13_, h14_, h16_, hD⟩)
        ·have hS : St w0 w noX [] [pt b30 (Cs #[Iv x62.2.2] 56), pt b31 (Cs #[Iv x62.1, Iv x62.2.1, Iv 0, Iv 0, Iv 0, Iv 0] 25), pt b19 (Cs #[Iv 0, Iv 0, Iv 0, Iv 0, Iv 0, Iv 0] 25), pt b18 (Cs #[Iv x14, Iv x15] 23), pt b17 (Cs #[Iv x7, Iv x8, Iv x9, Iv x10, Iv x11, Iv x12] 25), pt b16 (Cs #[Iv x1, Iv x2, Iv x3, Iv x4, Iv x5, Iv x6] 25)] := hD; clear hD
         replace hf : Fr a 107 [] [(49, Iv 1), (2, Iv x13), (4, Pv b16 0), (5, Pv b17 0), (7, Pv b18 0), (8, Pv b19 0), (9, Iv 0), (10, Pv b30 0), (11, Pv b31 0), (12, Iv 1), (39, Iv 1), (40, Bv true), (41, Iv 0), (42, Iv 1)] := hf
         refine O.val hf rfl rfl rfl (RunV.indexArr (j := 1) (m := 2) T_arr_25 T_size_23 rfl rfl rfl (by decide) rfl) ?_; clear hf a; intro a hf
         exact O.nil ⟨rfl, hf.to trivial, (fun d hd => by cases (show some 50 = some d from hd); exact hf.get _ _ rfl), (Or.inl ⟨h13_, h14_, h16_, hS⟩)⟩
        ·exact absurd ((hsb 13 (by simp)).symm.trans h13_) (by decide)
        ·exact absurd ((hsb 13 (by simp)).symm.trans h13_) (by decide)
        ·exact absurd ((hsb 13 (by simp)).symm.trans h13_) (by decide)
       ·intro s g w hsp hsb hD a hf
        rcases hD with (⟨h13_, h14_, h16_, hD⟩ | ⟨h13_, h14_, h16_, hD⟩ | ⟨h13_, h14_, h16_, hD⟩ | ⟨h13_, h14_, h16_, hD⟩)
        ·have hS : St w0 w noX [] [pt b30 (Cs #[Iv x62.2.2] 56), pt b31 (Cs #[Iv x62.1, Iv x62.2.1, Iv 0, Iv 0, Iv 0, Iv 0] 25), pt b19 (Cs #[Iv 0, Iv 0, Iv 0, Iv 0, Iv 0, Iv 0] 25), pt b18 (Cs #[Iv x14, Iv x15] 23), pt b17 (Cs #[Iv x7, Iv x8, Iv x9, Iv x10, Iv x11, Iv x12] 25), pt b16 (Cs #[Iv x1, Iv x2, Iv x3, Iv x4, Iv x5, Iv x6] 25)] := hD; clear hD
         replace hf : Fr a 107 [] [(50, Pv b17 2), (2, Iv x13), (4, Pv b16 0), (5, Pv b17 0), (7, Pv b18 0), (8, Pv b19 0), (9, Iv 0), (10, Pv b30 0), (11, Pv b31 0), (12, Iv 1), (39, Iv 1), (40, Bv true), (41, Iv 0), (42, Iv 1)] := hf
         refine O.val hf rfl rfl rfl (RunV.loadN (cs' := #[Iv x9, Iv x10]) T_agg_23 T_size_23 rfl (hS.ptAt (i := 4) rfl) (Nat.le_of_ble_eq_true rfl) rfl) ?_; clear hf a; intro a hf
         exact O.nil ⟨rfl, hf.to trivial, (fun d hd => by cases (show some 51 = some d from hd); exact hf.get _ _ rfl), (Or.inl ⟨h13_, h14_, h16_, hS⟩)⟩
        ·exact absurd ((hsb 13 (by simp)).symm.trans h13_) (by decide)
        ·exact absurd ((hsb 13 (by simp)).symm.trans h13_) (by decide)
        ·exact absurd ((hsb 13 (by simp)).symm.trans h13_) (by decide)
       ·intro s g w hsp hsb hD a hf
        rcases hD with (⟨h13_, h14_, h16_, hD⟩ | ⟨h13_, h14_, h16_, hD⟩ | ⟨h13_, h14_, h16_, hD⟩ | ⟨h13_, h14_, h16_, hD⟩)
        ·have hS : St w0 w noX [] [pt b30 (Cs #[Iv x62.2.2] 56), pt b31 (Cs #[Iv x62.1, Iv x62.2.1, Iv 0, Iv 0, Iv 0, Iv 0] 25), pt b19 (Cs #[Iv 0, Iv 0, Iv 0, Iv 0, Iv 0, Iv 0] 25), pt b18 (Cs #[Iv x14, Iv x15] 23), pt b17 (Cs #[Iv x7, Iv x8, Iv x9, Iv x10, Iv x11, Iv x12] 25), pt b16 (Cs #[Iv x1, Iv x2, Iv x3, Iv x4, Iv x5, Iv x6] 25)] := hD; clear hD
         replace hf : Fr a 107 [] [(2, Iv x13), (4, Pv b16 0), (5, Pv b17 0), (7, Pv b18 0), (8, Pv b19 0), (9, Iv 0), (10, Pv b30 0), (11, Pv b31 0), (12, Iv 1), (39, Iv 1), (40, Bv true), (41, Iv 0), (42, Iv 1)] := hf
         refine O.val hf rfl rfl rfl (RunV.move rfl) ?_; clear hf a; intro a hf
         exact O.nil ⟨rfl, hf.to trivial, (fun d hd => by cases (show some 52 = some d from hd); exact hf.get _ _ rfl), (Or.inl ⟨h13_, h14_, h16_, hS⟩)⟩
        ·exact absurd ((hsb 13 (by simp)).symm.trans h13_) (by decide)
        ·exact absurd ((hsb 13 (by simp)).symm.trans h13_) (by decide)
        ·exact absurd ((hsb 13 (by simp)).symm.trans h13_) (by decide)
       ·intro s g w hsp hsb hD a hf
        rcases hD with (⟨h13_, h14_, h16_, hD⟩ | ⟨h13_, h14_, h16_, hD⟩ | ⟨h13_, h14_, h16_, hD⟩ | ⟨h13_, h14_, h16_, hD⟩)
        ·have hS : St w0 w noX [] [pt b30 (Cs #[Iv x62.2.2] 56), pt b31 (Cs #[Iv x62.1, Iv x62.2.1, Iv 0, Iv 0, Iv 0, Iv 0] 25), pt b19 (Cs #[Iv 0, Iv 0, Iv 0, Iv 0, Iv 0, Iv 0] 25), pt b18 (Cs #[Iv x14, Iv x15] 23), pt b17 (Cs #[Iv x7, Iv x8, Iv x9, Iv x10, Iv x11, Iv x12] 25), pt b16 (Cs #[Iv x1, Iv x2, Iv x3, Iv x4, Iv x5, Iv x6] 25)] := hD; clear hD
         replace hf : Fr a 107 [] [(51, .agg #[Iv x9, Iv x10]), (52, Iv x13), (2, Iv x13), (4, Pv b16 0), (5, Pv b17 0), (7, Pv b18 0), (8, Pv b19 0), (9, Iv 0), (10, Pv b30 0), (11, Pv b31 0), (12, Iv 1), (39, Iv 1), (40, Bv true), (41, Iv 0), (42, Iv 1)] := hf
         refine O.callR hf rfl rfl rfl (RunE.call (av := #[.agg #[Iv x9, Iv x10], Iv x13, Iv 86400000000]) C_ok_20 rfl rfl rfl) (m_ref03_Scale_ok F x9 x10 x13 86400000000 _ x63 hx63) ?_
         clear hf a; rintro _ w hS1 a hf
         replace hf : Fr a _ _ ((53, .tuple #[.agg #[Iv x63.1, Iv x63.2.1], Iv x63.2.2]) :: _) := hf
         replace hS := (hS.call hS1).eqM (N := [pt b30 (Cs #[Iv x62.2.2] 56), pt b31 (Cs #[Iv x62.1, Iv x62.2.1, Iv 0, Iv 0, Iv 0, Iv 0] 25), pt b19 (Cs #[Iv 0, Iv 0, Iv 0, Iv 0, Iv 0, Iv 0] 25), pt b18 (Cs #[Iv x14, Iv x15] 23), pt b17 (Cs #[Iv x7, Iv x8, Iv x9, Iv x10, Iv x11, Iv x12] 25), pt b16 (Cs #[Iv x1, Iv x2, Iv x3, Iv x4, Iv x5, Iv x6] 25)]) rfl
         clear hS1
         exact O.nil ⟨rfl, hf.to trivial, (fun d hd => by cases (show some 53 = some d from hd); exact hf.get _ _ rfl), (Or.inl ⟨h13_, h14_, h16_, hS⟩)⟩
        ·exact absurd ((hsb 13 (by simp)).symm.trans h13_) (by decide)
        ·exact absurd ((hsb 13 (by simp)).symm.trans h13_) (by decide)
        ·exact absurd ((hsb 13 (by simp)).symm.trans h13_) (by decide)
       ·intro s g w hsp hsb hD a hf
        rcases hD with (⟨h13_, h14_, h16_, hD⟩ | ⟨h13_, h14_, h16_, hD⟩ | ⟨h13_, h14_, h16_, hD⟩ | ⟨h13_, h14_, h16_, hD⟩)
        ·have hS : St w0 w noX [] [pt b30 (Cs #[Iv x62.2.2] 56), pt b31 (Cs #[Iv x62.1, Iv x62.2.1, Iv 0, Iv 0, Iv 0, Iv 0] 25), pt b19 (Cs #[Iv 0, Iv 0, Iv 0, Iv 0, Iv 0, Iv 0] 25), pt b18 (Cs #[Iv x14, Iv x15] 23), pt b17 (Cs #[Iv x7, Iv x8, Iv x9, Iv x10, Iv x11, Iv x12] 25), pt b16 (Cs #[Iv x1, Iv x2, Iv x3, Iv x4, Iv x5, Iv x6] 25)] := hD; clear hD
         replace hf : Fr a 107 [] [(53, .tuple #[.agg #[Iv x63.1, Iv x63.2.1], Iv x63.2.2]), (2, Iv x13), (4, Pv b16 0), (5, Pv b17 0), (7, Pv b18 0), (8, Pv b19 0), (9, Iv 0), (10, Pv b30 0), (11, Pv b31 0), (12, Iv 1), (39, Iv 1), (40, Bv true), (41, Iv 0), (42, Iv 1)] := hf
         refine O.val hf rfl rfl rfl (RunV.extract rfl rfl) ?_; clear hf a; intro a hf
         exact O.nil ⟨rfl, hf.to trivial, (fun d hd => by cases (show some 54 = some d from hd); exact hf.get _ _ rfl), (Or.inl ⟨h13_, h14_, h16_, hS⟩)⟩
        ·exact absurd ((hsb 13 (by simp)).symm.trans h13_) (by decide)
        ·exact absurd ((hsb 13 (by simp)).symm.trans h13_) (by decide)
        ·exact absurd ((hsb 13 (by simp)).symm.trans h13_) (by decide)
       ·intro s g w hsp hsb hD a hf
        rcases hD with (⟨h13_, h14_, h16_, hD⟩ | ⟨h13_, h14_, h16_, hD⟩ | ⟨h13_, h14_, h16_, hD⟩ | ⟨h13_, h14_, h16_, hD⟩)
        ·have hS : St w0 w noX [] [pt b30 (Cs #[Iv x62.2.2] 56), pt b31 (Cs #[Iv x62.1, Iv x62.2.1, Iv 0, Iv 0, Iv 0, Iv 0] 25), pt b19 (Cs #[Iv 0, Iv 0, Iv 0, Iv 0, Iv 0, Iv 0] 25), pt b18 (Cs #[Iv x14, Iv x15] 23), pt b17 (Cs #[Iv x7, Iv x8, Iv x9, Iv x10, Iv x11, Iv x12] 25), pt b16 (Cs #[Iv x1, Iv x2, Iv x3, Iv x4, Iv x5, Iv x6] 25)] := hD; clear hD
         replace hf : Fr a 107 [] [(53, .tuple #[.agg #[Iv x63.1, Iv x63.2.1], Iv x63.2.2]), (2, Iv x13), (4, Pv b16 0), (5, Pv b17 0), (7, Pv b18 0), (8, Pv b19 0), (9, Iv 0), (10, Pv b30 0), (11, Pv b31 0), (12, Iv 1), (39, Iv 1), (40, Bv true), (41, Iv 0), (42, Iv 1)] := hf
         refine O.val hf rfl rfl rfl (RunV.extract rfl rfl) ?_; clear hf a; intro a hf
         exact O.nil ⟨rfl, hf.to trivial, (fun d hd => by cases (show some 55 = some d from hd); exact hf.get _ _ rfl), (Or.inl ⟨h13_, h14_, h16_, hS⟩)⟩
        ·exact absurd ((hsb 13 (by simp)).symm.trans h13_) (by decide)
        ·exact absurd ((hsb 13 (by simp)).symm.trans h13_) (by decide)
        ·exact absurd ((hsb 13 (by simp)).symm.trans h13_) (by decide)
       ·intro s g w hsp hsb hD a hf
        rcases hD with (⟨h13_, h14_, h16_, hD⟩ | ⟨h13_, h14_, h16_, hD⟩ | ⟨h13_, h14_, h16_, hD⟩ | ⟨h13_, h14_, h16_, hD⟩)
        ·exact absurd ((hsp 13 (by simp)).symm.trans h13_) (by decide)
        ·exact absurd ((hsp 14 (by simp)).symm.trans h14_) (by decide)
        ·have hS : St w0 w noX [] [pt b30 (Cs #[Iv x65.2.2] 56), pt b31 (Cs #[Iv x62.1, Iv x62.2.1, Iv 0, Iv 0, Iv 0, Iv 0] 25), pt b19 (Cs #[Iv 0, Iv 0, Iv 0, Iv 0, Iv 0, Iv 0] 25), pt b18 (Cs #[Iv x14, Iv x15] 23), pt b17 (Cs #[Iv x7, Iv x8, Iv x9, Iv x10, Iv x11, Iv x12] 25), pt b16 (Cs #[Iv x1, Iv x2, Iv x3, Iv x4, Iv x5, Iv x6] 25)] := hD; clear hD
         replace hf : Fr a 107 [] [(43, Iv 1), (44, Pv b30 0), (45, Iv 1), (46, Pv b16 2), (47, .agg #[Iv x3, Iv x4]), (48, Pv b30 0), (49, Iv 1), (50, Pv b17 2), (51, .agg #[Iv x9, Iv x10]), (52, Iv x13), (53, .tuple #[.agg #[Iv x63.1, Iv x63.2.1], Iv x63.2.2]), (54, .agg #[Iv x63.1, Iv x63.2.1]), (55, Iv x63.2.2), (56, .agg #[Iv x64.1, Iv x64.2.1]), (57, .agg #[Iv x65.1, Iv x65.2.1]), (2, Iv x13), (4, Pv b16 0), (5, Pv b17 0), (7, Pv b18 0), (8, Pv b19 0), (9, Iv 0), (10, Pv b30 0), (11, Pv b31 0), (12, Iv 1), (39, Iv 1), (40, Bv true), (41, Iv 0), (42, Iv 1)] := hf
         refine O.val hf rfl rfl rfl (RunV.indexArr (j := 1) (m := 2) T_arr_25 T_size_23 rfl rfl rfl (by decide) rfl) ?_; clear hf a; intro a hf
         exact O.nil ⟨rfl, hf.to trivial, (fun d hd => by cases (show some 58 = some d from hd); exact hf.get _ _ rfl), (Or.inr (Or.inr (Or.inl ⟨h13_, h14_, h16_, hS⟩)))⟩
        ·exact absurd ((hsb 16 (by simp)).symm.trans h16_) (by decide)
      ·clear hf hf1 hS
       refine ⟨?_, ?_, ?_, trivial⟩
       ·intro s g w hs0 hsp hsb hD a hf
        rcases hD with (⟨h13_, h14_, h16_, hD⟩ | ⟨h13_, h14_, h16_, hD⟩ | ⟨h13_, h14_, h16_, hD⟩ | ⟨h13_, h14_, h16_, hD⟩)
        ·have hS : St w0 w noX [] [pt b30 (Cs #[Iv x62.2.2] 56), pt b31 (Cs #[Iv x62.1, Iv x62.2.1, Iv 0, Iv 0, Iv 0, Iv 0] 25), pt b19 (Cs #[Iv 0, Iv 0, Iv 0, Iv 0, Iv 0, Iv 0] 25), pt b18 (Cs #[Iv x14, Iv x15] 23), pt b17 (Cs #[Iv x7, Iv x8, Iv x9, Iv x10, Iv x11, Iv x12] 25), pt b16 (Cs #[Iv x1, Iv x2, Iv x3, Iv x4, Iv x5, Iv x6] 25)] := hD; clear hD
         replace hf : Fr a 107 [] [(48, Pv b30 0), (53, .tuple #[.agg #[Iv x63.1, Iv x63.2.1], Iv x63.2.2]), (54, .agg #[Iv x63.1, Iv x63.2.1]), (55, Iv x63.2.2), (2, Iv x13), (4, Pv b16 0), (5, Pv b17 0), (7, Pv b18 0), (8, Pv b19 0), (9, Iv 0), (10, Pv b30 0), (11, Pv b31 0), (12, Iv 1), (39, Iv 1), (40, Bv true), (41, Iv 0), (42, Iv 1)] := hf
         refine O.callR hf rfl rfl rfl (RunE.call (av := #[Pv b30 0, .agg #[Iv x63.1, Iv x63.2.1], Iv x63.2.2]) C_ok_19 rfl rfl rfl) (m_ref17_Calc_Keep_ok F b30 x62.2.2 x63.1 x63.2.1 x63.2.2 _ (hS.ptAt (i := 0) rfl) x64 hx64) ?_
         clear hf a; rintro _ w hS1 a hf
         replace hf : Fr a _ _ ((56, .agg #[Iv x64.1, Iv x64.2.1]) :: _) := hf
         replace hS := (hS.callX1 hS1 (i := 0) rfl (fun _ h => h)).eqM (N := [pt b30 (Cs #[Iv x64.2.2] 56), pt b31 (Cs #[Iv x62.1, Iv x62.2.1, Iv 0, Iv 0, Iv 0, Iv 0] 25), pt b19 (Cs #[Iv 0, Iv 0, Iv 0, Iv 0, Iv 0, Iv 0] 25), pt b18 (Cs #[Iv x14, Iv x15] 23), pt b17 (Cs #[Iv x7, Iv x8, Iv x9, Iv x10, Iv x11, Iv x12] 25), pt b16 (Cs #[Iv x1, Iv x2, Iv x3, Iv x4, Iv x5, Iv x6] 25)]) rfl
         clear hS1
         exact O.nil ⟨rfl, (), hf.to trivial, (fun d hd => by cases (show some 56 = some d from hd); exact hf.get _ _ rfl), (fun j hj hk => match j, hj, hk with | 0, hj, hk => rfl | 1, hj, hk => rfl | 2, hj, hk => rfl | 3, hj, hk => rfl | 4, hj, hk => rfl | 5, hj, hk => rfl | 6, hj, hk => rfl | 7, hj, hk => rfl | 8, hj, hk => rfl | 9, hj, hk => rfl | 10, hj, hk => rfl | 11, hj, hk => rfl | 12, hj, hk => rfl | 13, hj, hk => absurd rfl hj | 14, hj, hk => absurd hk (by decide) | 15, hj, hk => absurd hk (by decide) | 16, hj, hk => absurd hk (by decide) | _ + 17, _, _ => rfl), (Or.inr (Or.inl ⟨rfl, h14_, h16_, hS⟩))⟩
        ·exact absurd (hs0.symm.trans h13_) (by decide)
        ·exact absurd (hs0.symm.trans h13_) (by decide)
        ·exact absurd (hs0.symm.trans h13_) (by decide)
       ·intro s g w hs0 hsp hsb hD a hf
        rcases hD with (⟨h13_, h14_, h16_, hD⟩ | ⟨h13_, h14_, h16_, hD⟩ | ⟨h13_, h14_, h16_, hD⟩ | ⟨h13_, h14_, h16_, hD⟩)
        ·exact absurd ((hsp 13 (by simp)).symm.trans h13_) (by decide)
        ·have hS : St w0 w noX [] [pt b30 (Cs #[Iv x64.2.2] 56), pt b31 (Cs #[Iv x62.1, Iv x62.2.1, Iv 0, Iv 0, Iv 0, Iv 0] 25), pt b19 (Cs #[Iv 0, Iv 0, Iv 0, Iv 0, Iv 0, Iv 0] 25), pt b18 (Cs #[Iv x14, Iv x15] 23), pt b17 (Cs #[Iv x7, Iv x8, Iv x9, Iv x10, Iv x11, Iv x12] 25), pt b16 (Cs #[Iv x1, Iv x2, Iv x3, Iv x4, Iv x5, Iv x6] 25)] := hD; clear hD
         replace hf : Fr a 107 [] [(44, Pv b30 0), (47, .agg #[Iv x3, Iv x4]), (56, .agg #[Iv x64.1, Iv x64.2.1]), (2, Iv x13), (4, Pv b16 0), (5, Pv b17 0), (7, Pv b18 0), (8, Pv b19 0), (9, Iv 0), (10, Pv b30 0), (11, Pv b31 0), (12, Iv 1), (39, Iv 1), (40, Bv true), (41, Iv 0), (42, Iv 1)] := hf
         refine O.callR hf rfl rfl rfl (RunE.call (av := #[Pv b30 0, .agg #[Iv x3, Iv x4], .agg #[Iv x64.1, Iv x64.2.1]]) C_ok_18 rfl rfl rfl) (m_ref17_Calc_Add_ok F b30 x64.2.2 x3 x4 x64.1 x64.2.1 _ (hS.ptAt (i := 0) rfl) x65 hx65) ?_
         clear hf a; rintro _ w hS1 a hf
         replace hf : Fr a _ _ ((57, .agg #[Iv x65.1, Iv x65.2.1]) :: _) := hf
         replace hS := (hS.callX1 hS1 (i := 0) rfl (fun _ h => h)).eqM (N := [pt b30 (Cs #[Iv x65.2.2] 56), pt b31 (Cs #[Iv x62.1, Iv x62.2.1, Iv 0, Iv 0, Iv 0, Iv 0] 25), pt b19 (Cs #[Iv 0, Iv 0, Iv 0, Iv 0, Iv 0, Iv 0] 25), pt b18 (Cs #[Iv x14, Iv x15] 23), pt b17 (Cs #[Iv x7, Iv x8, Iv x9, Iv x10, Iv x11, Iv x12] 25), pt b16 (Cs #[Iv x1, Iv x2, Iv x3, Iv x4, Iv x5, Iv x6] 25)]) rfl
         clear hS1
         exact O.nil ⟨rfl, (), hf.to trivial, (fun d hd => by cases (show some 57 = some d from hd); exact hf.get _ _ rfl), (fun j hj hk => match j, hj, hk with | 0, hj, hk => rfl | 1, hj, hk => rfl | 2, hj, hk => rfl | 3, hj, hk => rfl | 4, hj, hk => rfl | 5, hj, hk => rfl | 6, hj, hk => rfl | 7, hj, hk => rfl | 8, hj, hk => rfl | 9, hj, hk => rfl | 10, hj, hk => rfl | 11, hj, hk => rfl | 12, hj, hk => rfl | 13, hj, hk => rfl | 14, hj, hk => absurd rfl hj | 15, hj, hk => absurd hk (by decide) | 16, hj, hk => absurd hk (by decide) | _ + 17, _, _ => rfl), (Or.inr (Or.inr (Or.inl ⟨h13_, rfl, h16_, hS⟩)))⟩
        ·exact absurd (hs0.symm.trans h14_) (by decide)
        ·exact absurd (hs0.symm.trans h14_) (by decide)
       ·intro s g w hs0 hsp hsb hD a hf
        rcases hD with (⟨h13_, h14_, h16_, hD⟩ | ⟨h13_, h14_, h16_, hD⟩ | ⟨h13_, h14_, h16_, hD⟩ | ⟨h13_, h14_, h16_, hD⟩)
        ·exact absurd ((hsp 13 (by simp)).symm.trans h13_) (by decide)
        ·exact absurd ((hsp 14 (by simp)).symm.trans h14_) (by decide)
        ·have hS : St w0 w noX [] [pt b30 (Cs #[Iv x65.2.2] 56), pt b31 (Cs #[Iv x62.1, Iv x62.2.1, Iv 0, Iv 0, Iv 0, Iv 0] 25), pt b19 (Cs #[Iv 0, Iv 0, Iv 0, Iv 0, Iv 0, Iv 0] 25), pt b18 (Cs #[Iv x14, Iv x15] 23), pt b17 (Cs #[Iv x7, Iv x8, Iv x9, Iv x10, Iv x11, Iv x12] 25), pt b16 (Cs #[Iv x1, Iv x2, Iv x3, Iv x4, Iv x5, Iv x6] 25)] := hD; clear hD
         replace hf : Fr a 107 [] [(43, Iv 1), (44, Pv b30 0), (45, Iv 1), (46, Pv b16 2), (47, .agg #[Iv x3, Iv x4]), (48, Pv b30 0), (49, Iv 1), (50, Pv b17 2), (51, .agg #[Iv x9, Iv x10]), (52, Iv x13), (53, .tuple #[.agg #[Iv x63.1, Iv x63.2.1], Iv x63.2.2]), (54, .agg #[Iv x63.1, Iv x63.2.1]), (55, Iv x63.2.2), (56, .agg #[Iv x64.1, Iv x64.2.1]), (57, .agg #[Iv x65.1, Iv x65.2.1]), (58, Pv b31 2), (2, Iv x13), (4, Pv b16 0), (5, Pv b17 0), (7, Pv b18 0), (8, Pv b19 0), (9, Iv 0), (10, Pv b30 0), (11, Pv b31 0), (12, Iv 1), (39, Iv 1), (40, Bv true), (41, Iv 0), (42, Iv 1)] := hf
         refine O.store (j := 1) (cs' := #[Iv x62.1, Iv x62.2.1, Iv x65.1, Iv x65.2.1, Iv 0, Iv 0]) (M' := [pt b30 (Cs #[Iv x65.2.2] 56), pt b31 (Cs #[Iv x62.1, Iv x62.2.1, Iv x65.1, Iv x65.2.1, Iv 0, Iv 0] 25), pt b19 (Cs #[Iv 0, Iv 0, Iv 0, Iv 0, Iv 0, Iv 0] 25), pt b18 (Cs #[Iv x14, Iv x15] 23), pt b17 (Cs #[Iv x7, Iv x8, Iv x9, Iv x10, Iv x11, Iv x12] 25), pt b16 (Cs #[Iv x1, Iv x2, Iv x3, Iv x4, Iv x5, Iv x6] 25)]) hf hS rfl rfl rfl T_size_23 rfl rfl rfl (Nat.le_of_ble_eq_true rfl) rfl rfl ?_
         clear hS; intro w hS
         exact O.nil ⟨rfl, (), hf.to trivial, (fun d hd => by cases (show none = some d from hd)), (fun j hj hk => match j, hj, hk with | 0, hj, hk => rfl | 1, hj, hk => rfl | 2, hj, hk => rfl | 3, hj, hk => rfl | 4, hj, hk => rfl | 5, hj, hk => rfl | 6, hj, hk => rfl | 7, hj, hk => rfl | 8, hj, hk => rfl | 9, hj, hk => rfl | 10, hj, hk => rfl | 11, hj, hk => rfl | 12, hj, hk => rfl | 13, hj, hk => rfl | 14, hj, hk => rfl | 15, hj, hk => rfl | 16, hj, hk => absurd rfl hj | _ + 17, _, _ => rfl), (Or.inr (Or.inr (Or.inr ⟨h13_, h14_, rfl, hS⟩)))⟩
        ·exact absurd (hs0.symm.trans h16_) (by decide)
      clear hf hf1 hS; intro s g a w hs hf hD
      rcases hD with (⟨h13_, h14_, h16_, hD⟩ | ⟨h13_, h14_, h16_, hD⟩ | ⟨h13_, h14_, h16_, hD⟩ | ⟨h13_, h14_, h16_, hD⟩)
      · exact absurd ((hs 13 (by simp)).symm.trans h13_) (by decide)
      · exact absurd ((hs 14 (by simp)).symm.trans h14_) (by decide)
      · exact absurd ((hs 16 (by simp)).symm.trans h16_) (by decide)
      have hS : St w0 w noX [] [pt b30 (Cs #[Iv x65.2.2] 56), pt b31 (Cs #[Iv x62.1, Iv x62.2.1, Iv x65.1, Iv x65.2.1, Iv 0, Iv 0] 25), pt b19 (Cs #[Iv 0, Iv 0, Iv 0, Iv 0, Iv 0, Iv 0] 25), pt b18 (Cs #[Iv x14, Iv x15] 23), pt b17 (Cs #[Iv x7, Iv x8, Iv x9, Iv x10, Iv x11, Iv x12] 25), pt b16 (Cs #[Iv x1, Iv x2, Iv x3, Iv x4, Iv x5, Iv x6] 25)] := hD; clear hD
      replace hf : Fr a 107 [] [(43, Iv 1), (44, Pv b30 0), (45, Iv 1), (46, Pv b16 2), (47, .agg #[Iv x3, Iv x4]), (48, Pv b30 0), (49, Iv 1), (50, Pv b17 2), (51, .agg #[Iv x9, Iv x10]), (52, Iv x13), (53, .tuple #[.agg #[Iv x63.1, Iv x63.2.1], Iv x63.2.2]), (54, .agg #[Iv x63.1, Iv x63.2.1]), (55, Iv x63.2.2), (56, .agg #[Iv x64.1, Iv x64.2.1]), (57, .agg #[Iv x65.1, Iv x65.2.1]), (58, Pv b31 2), (2, Iv x13), (4, Pv b16 0), (5, Pv b17 0), (7, Pv b18 0), (8, Pv b19 0), (9, Iv 0), (10, Pv b30 0), (11, Pv b31 0), (12, Iv 1), (39, Iv 1), (40, Bv true), (41, Iv 0), (42, Iv 1)] := hf
      refine k_blk_normal ?_
      refine k_seq ?_
      -- region 13
      refine W.regionL (l := [0, 1, 2]) rfl ?_
      refine O.val hf rfl rfl rfl (RunV.move rfl) ?_; clear hf a; intro a hf
      refine O.val (v := Iv 2) hf rfl rfl rfl (RunV.add (p := 1) (q := 1) rfl rfl) ?_; clear hf a; intro a hf
      refine O.val hf rfl rfl rfl (RunV.assign rfl) ?_; clear hf a; intro a hf
      refine O.nil ?_
      refine k_then (LH.step ?_)
      refine W.seq ?_
      refine W.seq ?_
      -- region 12
      refine W.regionL (l := [0, 1]) rfl ?_
      refine O.val hf rfl rfl rfl (RunV.move rfl) ?_; clear hf a; intro a hf
      refine O.val (v := Bv true) hf rfl rfl rfl (RunV.lss (p := 2) (q := 3) rfl rfl) ?_; clear hf a; intro a hf
      refine O.nil ?_
      refine k_seq ?_
      refine W.if_tt hf rfl ?_
      refine W.skip ?_
      refine k_seq ?_
      refine W.seq ?_
      refine W.block ?_
      -- region 14, which draws its order
      -- [13, 14, 16] turn memory
      have hf1 : Fr a 107 [] [(43, Iv 1), (44, Pv b30 0), (45, Iv 1), (46, Pv b16 2), (47, .agg #[Iv x3, Iv x4]), (48, Pv b30 0), (49, Iv 1), (50, Pv b17 2), (51, .agg #[Iv x9, Iv x10]), (52, Iv x13), (53, .tuple #[.agg #[Iv x63.1, Iv x63.2.1], Iv x63.2.2]), (54, .agg #[Iv x63.1, Iv x63.2.1]), (55, Iv x63.2.2), (56, .agg #[Iv x64.1, Iv x64.2.1]), (57, .agg #[Iv x65.1, Iv x65.2.1]), (58, Pv b31 2)] := hf.to ⟨rfl, rfl, rfl, rfl, rfl, rfl, rfl, rfl, rfl, rfl, rfl, rfl, rfl, rfl, rfl, rfl, trivial⟩
      replace hf : Fr a 107 [] [(2, Iv x13), (4, Pv b16 0), (5, Pv b17 0), (7, Pv b18 0), (8, Pv b19 0), (9, Iv 0), (10, Pv b30 0), (11, Pv b31 0), (12, Iv 2), (39, Iv 2), (40, Bv true), (41, Iv 1), (42, Iv 2)] := hf.to ⟨rfl, rfl, rfl, rfl, rfl, rfl, rfl, rfl, rfl, rfl, rfl, rfl, rfl, trivial⟩
      obtain ⟨x66, hx66, hm⟩ := hm_b hm
      obtain ⟨x67, hx67, hm⟩ := hm_b hm
      obtain ⟨x68, hx68, hm⟩ := hm_b hm
      refine W.drawP (γ := Unit) (L0 := [(2, Iv x13), (4, Pv b16 0), (5, Pv b17 0), (7, Pv b18 0), (8, Pv b19 0), (9, Iv 0), (10, Pv b30 0), (11, Pv b31 0), (12, Iv 2), (39, Iv 2), (40, Bv true), (41, Iv 1), (42, Iv 2)]) (L1 := [(43, Iv 1), (44, Pv b30 0), (45, Iv 1), (46, Pv b16 2), (47, .agg #[Iv x3, Iv x4]), (48, Pv b30 0), (49, Iv 1), (50, Pv b17 2), (51, .agg #[Iv x9, Iv x10]), (52, Iv x13), (53, .tuple #[.agg #[Iv x63.1, Iv x63.2.1], Iv x63.2.2]), (54, .agg #[Iv x63.1, Iv x63.2.1]), (55, Iv x63.2.2), (56, .agg #[Iv x64.1, Iv x64.2.1]), (57, .agg #[Iv x65.1, Iv x65.2.1]), (58, Pv b31 2)]) () [13, 14, 16] [0, 1, 2, 3, 4, 5, 6, 7, 8, 9, 10, 11, 12, 15] (fun i => match i with | 0 => [] | 1 => [] | 2 => [] | 3 => [2] | 4 => [3] | 5 => [] | 6 => [] | 7 => [6] | 8 => [7] | 9 => [] | 10 => [8, 9] | 11 => [10] | 12 => [10] | 13 => [5, 10, 11, 12] | 14 => [1, 4, 13] | 15 => [0, 1, 2, 3, 4, 5, 6, 7, 8, 9, 10, 11, 12, 13, 14] | 16 => [0, 1, 2, 3, 4, 5, 6, 7, 8, 9, 10, 11, 12, 13, 14, 15] | _ => []) (fun i => match i with | 14 => [13] | 15 => [13, 14] | 16 => [13, 14] | _ => []) (fun i => match i with | 0 => [16] | 1 => [14, 16] | 2 => [14, 16] | 3 => [14, 16] | 4 => [14, 16] | 5 => [13, 14, 16] | 6 => [13, 14, 16] | 7 => [13, 14, 16] | 8 => [13, 14, 16] | 9 => [13, 14, 16] | 10 => [13, 14, 16] | 11 => [13, 14, 16] | 12 => [13, 14, 16] | 13 => [14, 16] | 14 => [16] | 15 => [16] | _ => []) (fun i => match i with | 13 => [14, 15, 16] | 14 => [15, 16] | 16 => [] | _ => []) (fun _ => []) (fun (g : Unit) j => match g, j with | _, 0 => Iv 2 | _, 1 => Pv b30 0 | _, 2 => Iv 2 | _, 3 => Pv b16 4 | _, 4 => .agg #[Iv x5, Iv x6] | _, 5 => Pv b30 0 | _, 6 => Iv 2 | _, 7 => Pv b17 4 | _, 8 => .agg #[Iv x11, Iv x12] | _, 9 => Iv x13 | _, 10 => .tuple #[.agg #[Iv x66.1, Iv x66.2.1], Iv x66.2.2] | _, 11 => .agg #[Iv x66.1, Iv x66.2.1] | _, 12 => Iv x66.2.2 | _, 13 => .agg #[Iv x67.1, Iv x67.2.1] | _, 14 => .agg #[Iv x68.1, Iv x68.2.1] | _, 15 => Pv b31 4 | _, _ => undef) (fun s (g : Unit) w => match g with | _ => (s 13 = false ∧ s 14 = false ∧ s 16 = false ∧ St w0 w noX [] [pt b30 (Cs #[Iv x65.2.2] 56), pt b31 (Cs #[Iv x62.1, Iv x62.2.1, Iv x65.1, Iv x65.2.1, Iv 0, Iv 0] 25), pt b19 (Cs #[Iv 0, Iv 0, Iv 0, Iv 0, Iv 0, Iv 0] 25), pt b18 (Cs #[Iv x14, Iv x15] 23), pt b17 (Cs #[Iv x7, Iv x8, Iv x9, Iv x10, Iv x11, Iv x12] 25), pt b16 (Cs #[Iv x1, Iv x2, Iv x3, Iv x4, Iv x5, Iv x6] 25)]) ∨ (s 13 = true ∧ s 14 = false ∧ s 16 = false ∧ St w0 w noX [] [pt b30 (Cs #[Iv x67.2.2] 56), pt b31 (Cs #[Iv x62.1, Iv x62.2.1, Iv x65.1, Iv x65.2.1, Iv 0, Iv 0] 25), pt b19 (Cs #[Iv 0, Iv 0, Iv 0, Iv 0, Iv 0, Iv 0] 25), pt b18 (Cs #[Iv x14, Iv x15] 23), pt b17 (Cs #[Iv x7, Iv x8, Iv x9, Iv x10, Iv x11, Iv x12] 25), pt b16 (Cs #[Iv x1, Iv x2, Iv x3, Iv x4, Iv x5, Iv x6] 25)]) ∨ (s 13 = true ∧ s 14 = true ∧ s 16 = false ∧ St w0 w noX [] [pt b30 (Cs #[Iv x68.2.2] 56), pt b31 (Cs #[Iv x62.1, Iv x62.2.1, Iv x65.1, Iv x65.2.1, Iv 0, Iv 0] 25), pt b19 (Cs #[Iv 0, Iv 0, Iv 0, Iv 0, Iv 0, Iv 0] 25), pt b18 (Cs #[Iv x14, Iv x15] 23), pt b17 (Cs #[Iv x7, Iv x8, Iv x9, Iv x10, Iv x11, Iv x12] 25), pt b16 (Cs #[Iv x1, Iv x2, Iv x3, Iv x4, Iv x5, Iv x6] 25)]) ∨ (s 13 = true ∧ s 14 = true ∧ s 16 = true ∧ St w0 w noX [] [pt b30 (Cs #[Iv x68.2.2] 56), pt b31 (Cs #[Iv x62.1, Iv x62.2.1, Iv x65.1, Iv x65.2.1, Iv x68.1, Iv x68.2.1] 25), pt b19 (Cs #[Iv 0, Iv 0, Iv 0, Iv 0, Iv 0, Iv 0] 25), pt b18 (Cs #[Iv x14, Iv x15] 23), pt b17 (Cs #[Iv x7, Iv x8, Iv x9, Iv x10, Iv x11, Iv x12] 25), pt b16 (Cs #[Iv x1, Iv x2, Iv x3, Iv x4, Iv x5, Iv x6] 25)])) P_mixed (by kernel_rfl) hf hf1 (Or.inl ⟨rfl, rfl, rfl, hS.drew⟩) ?_ ?_ ?_
      ·clear hf hf1 hS
       refine ⟨?_, ?_, ?_, ?_, ?_, ?_, ?_, ?_, ?_, ?_, ?_, ?_, ?_, ?_, trivial⟩
       ·intro s g w hsp hsb hD a hf
        rcases hD with (⟨h13_, h14_, h16_, hD⟩ | ⟨h13_, h14_, h16_, hD⟩ | ⟨h13_, h14_, h16_, hD⟩ | ⟨h13_, h14_, h16_, hD⟩)
        ·have hS : St w0 w noX [] [pt b30 (Cs #[Iv x65.2.2] 56), pt b31 (Cs #[Iv x62.1, Iv x62.2.1, Iv x65.1, Iv x65.2.1, Iv 0, Iv 0] 25), pt b19 (Cs #[Iv 0, Iv 0, Iv 0, Iv 0, Iv 0, Iv 0] 25), pt b18 (Cs #[Iv x14, Iv x15] 23), pt b17 (Cs #[Iv x7, Iv x8, Iv x9, Iv x10, Iv x11, Iv x12] 25), pt b16 (Cs #[Iv x1, Iv x2, Iv x3, Iv x4, Iv x5, Iv x6] 25)] := hD; clear hD
         replace hf : Fr a 107 [] [(2, Iv x13), (4, Pv b16 0), (5, Pv b17 0), (7, Pv b18 0), (8, Pv b19 0), (9, Iv 0), (10, Pv b30 0), (11, Pv b31 0), (12, Iv 2), (39, Iv 2), (40, Bv true), (41, Iv 1), (42, Iv 2)] := hf
         refine O.val hf rfl rfl rfl (RunV.move rfl) ?_; clear hf a; intro a hf
         exact O.nil ⟨rfl, hf.to trivial, (fun d hd => by cases (show some 43 = some d from hd); exact hf.get _ _ rfl), (Or.inl ⟨h13_, h14_, h16_, hS⟩)⟩
        ·have hS : St w0 w noX [] [pt b30 (Cs #[Iv x67.2.2] 56), pt b31 (Cs #[Iv x62.1, Iv x62.2.1, Iv x65.1, Iv x65.2.1, Iv 0, Iv 0] 25), pt b19 (Cs #[Iv 0, Iv 0, Iv 0, Iv 0, Iv 0, Iv 0] 25), pt b18 (Cs #[Iv x14, Iv x15] 23), pt b17 (Cs #[Iv x7, Iv x8, Iv x9, Iv x10, Iv x11, Iv x12] 25), pt b16 (Cs #[Iv x1, Iv x2, Iv x3, Iv x4, Iv x5, Iv x6] 25)] := hD; clear hD
         replace hf : Fr a 107 [] [(2, Iv x13), (4, Pv b16 0), (5, Pv b17 0), (7, Pv b18 0), (8, Pv b19 0), (9, Iv 0), (10, Pv b30 0), (11, Pv b31 0), (12, Iv 2), (39, Iv 2), (40, Bv true), (41, Iv 1), (42, Iv 2)] := hf
         refine O.val hf rfl rfl rfl (RunV.move rfl) ?_; clear hf a; intro a hf
         exact O.nil ⟨rfl, hf.to trivial, (fun d hd => by cases (show some 43 = some d from hd); exact hf.get _ _ rfl), (Or.inr (Or.inl ⟨h13_, h14_, h16_, hS⟩))⟩
        ·have hS : St w0 w noX [] [pt b30 (Cs #[Iv x68.2.2] 56), pt b31 (Cs #[Iv x62.1, Iv x62.2.1, Iv x65.1, Iv x65.2.1, Iv 0, Iv 0] 25), pt b19 (Cs #[Iv 0, Iv 0, Iv 0, Iv 0, Iv 0, Iv 0] 25), pt b18 (Cs #[Iv x14, Iv x15] 23), pt b17 (Cs #[Iv x7, Iv x8, Iv x9, Iv x10, Iv x11, Iv x12] 25), pt b16 (Cs #[Iv x1, Iv x2, Iv x3, Iv x4, Iv x5, Iv x6] 25)] := hD; clear hD
         replace hf : Fr a 107 [] [(2, Iv x13), (4, Pv b16 0), (5, Pv b17 0), (7, Pv b18 0), (8, Pv b19 0), (9, Iv 0), (10, Pv b30 0), (11, Pv b31 0), (12, Iv 2), (39, Iv 2), (40, Bv true), (41, Iv 1), (42, Iv 2)] := hf
         refine O.val hf rfl rfl rfl (RunV.move rfl) ?_; clear hf a; intro a hf
         exact O.nil ⟨rfl, hf.to trivial, (fun d hd => by cases (show some 43 = some d from hd); exact hf.get _ _ rfl), (Or.inr (Or.inr (Or.inl ⟨h13_, h14_, h16_, hS⟩)))⟩
        ·exact absurd ((hsb 16 (by simp)).symm.trans h16_) (by decide)
       ·intro s g w hsp hsb hD a hf
        rcases hD with (⟨h13_, h14_, h16_, hD⟩ | ⟨h13_, h14_, h16_, hD⟩ | ⟨h13_, h14_, h16_, hD⟩ | ⟨h13_, h14_, h16_, hD⟩)
        ·have hS : St w0 w noX [] [pt b30 (Cs #[Iv x65.2.2] 56), pt b31 (Cs #[Iv x62.1, Iv x62.2.1, Iv x65.1, Iv x65.2.1, Iv 0, Iv 0] 25), pt b19 (Cs #[Iv 0, Iv 0, Iv 0, Iv 0, Iv 0, Iv 0] 25), pt b18 (Cs #[Iv x14, Iv x15] 23), pt b17 (Cs #[Iv x7, Iv x8, Iv x9, Iv x10, Iv x11, Iv x12] 25), pt b16 (Cs #[Iv x1, Iv x2, Iv x3, Iv x4, Iv x5, Iv x6] 25)] := hD; clear hD
         replace hf : Fr a 107 [] [(2, Iv x13), (4, Pv b16 0), (5, Pv b17 0), (7, Pv b18 0), (8, Pv b19 0), (9, Iv 0), (10, Pv b30 0), (11, Pv b31 0), (12, Iv 2), (39, Iv 2), (40, Bv true), (41, Iv 1), (42, Iv 2)] := hf
         refine O.val hf rfl rfl rfl (RunV.move rfl) ?_; clear hf a; intro a hf
         exact O.nil ⟨rfl, hf.to trivial, (fun d hd => by cases (show some 44 = some d from hd); exact hf.get _ _ rfl), (Or.inl ⟨h13_, h14_, h16_, hS⟩)⟩
        ·have hS : St w0 w noX [] [pt b30 (Cs #[Iv x67.2.2] 56), pt b31 (Cs #[Iv x62.1, Iv x62.2.1, Iv x65.1, Iv x65.2.1, Iv 0, Iv 0] 25), pt b19 (Cs #[Iv 0, Iv 0, Iv 0, Iv 0, Iv 0, Iv 0] 25), pt b18 (Cs #[Iv x14, Iv x15] 23), pt b17 (Cs #[Iv x7, Iv x8, Iv x9, Iv x10, Iv x11, Iv x12] 25), pt b16 (Cs #[Iv x1, Iv x2, Iv x3, Iv x4, Iv x5, Iv x6] 25)] := hD; clear hD
         replace hf : Fr a 107 [] [(2, Iv x13), (4, Pv b16 0), (5, Pv b17 0), (7, Pv b18 0), (8, Pv b19 0), (9, Iv 0), (10, Pv b30 0), (11, Pv b31 0), (12, Iv 2), (39, Iv 2), (40, Bv true), (41, Iv 1), (42, Iv 2)] := hf
         refine O.val hf rfl rfl rfl (RunV.move rfl) ?_; clear hf a; intro a hf
         exact O.nil ⟨rfl, hf.to trivial, (fun d hd => by cases (show some 44 = some d from hd); exact hf.get _ _ rfl), (Or.inr (Or.inl ⟨h13_, h14_, h16_, hS⟩))⟩
        ·exact absurd ((hsb 14 (by simp)).symm.trans h14_) (by decide)
        ·exact absurd ((hsb 14 (by simp)).symm.trans h14_) (by decide)
       ·intro s g w hsp hsb hD a hf
        rcases hD with (⟨h13_, h14_, h16_, hD⟩ | ⟨h13_, h14_, h16_, hD⟩ | ⟨h13_, h14_, h16_, hD⟩ | ⟨h13_, h14_, h16_, hD⟩)
        ·have hS : St w0 w noX [] [pt b30 (Cs #[Iv x65.2.2] 56), pt b31 (Cs #[Iv x62.1, Iv x62.2.1, Iv x65.1, Iv x65.2.1, Iv 0, Iv 0] 25), pt b19 (Cs #[Iv 0, Iv 0, Iv 0, Iv 0, Iv 0, Iv 0] 25), pt b18 (Cs #[Iv x14, Iv x15] 23), pt b17 (Cs #[Iv x7, Iv x8, Iv x9, Iv x10, Iv x11, Iv x12] 25), pt b16 (Cs #[Iv x1, Iv x2, Iv x3, Iv x4, Iv x5, Iv x6] 25)] := hD; clear hD
         replace hf : Fr a 107 [] [(2, Iv x13), (4, Pv b16 0), (5, Pv b17 0), (7, Pv b18 0), (8, Pv b19 0), (9, Iv 0), (10, Pv b30 0), (11, Pv b31 0), (12, Iv 2), (39, Iv 2), (40, Bv true), (41, Iv 1), (42, Iv 2)] := hf
         refine O.val hf rfl rfl rfl (RunV.move rfl) ?_; clear hf a; intro a hf
         exact O.nil ⟨rfl, hf.to trivial, (fun d hd => by cases (show some 45 = some d from hd); exact hf.get _ _ rfl), (Or.inl ⟨h13_, h14_, h16_, hS⟩)⟩
        ·have hS : St w0 w noX [] [pt b30 (Cs #[Iv x67.2.2] 56), pt b31 (Cs #[Iv x62.1, Iv x62.2.1, Iv x65.1, Iv x65.2.1, Iv 0, Iv 0] 25), pt b19 (Cs #[Iv 0, Iv 0, Iv 0, Iv 0, Iv 0, Iv 0] 25), pt b18 (Cs #[Iv x14, Iv x15] 23), pt b17 (Cs #[Iv x7, Iv x8, Iv x9, Iv x10, Iv x11, Iv x12] 25), pt b16 (Cs #[Iv x1, Iv x2, Iv x3, Iv x4, Iv x5, Iv x6] 25)] := hD; clear hD
         replace hf : Fr a 107 [] [(2, Iv x13), (4, Pv b16 0), (5, Pv b17 0), (7, Pv b18 0), (8, Pv b19 0), (9, Iv 0), (10, Pv b30 0), (11, Pv b31 0), (12, Iv 2), (39, Iv 2), (40, Bv true), (41, Iv 1), (42, Iv 2)] := hf
         refine O.val hf rfl rfl rfl (RunV.move rfl) ?_; clear hf a; intro a hf
         exact O.nil ⟨rfl, hf.to trivial, (fun d hd => by cases (show some 45 = some d from hd); exact hf.get _ _ rfl), (Or.inr (Or.inl ⟨h13_, h14_, h16_, hS⟩))⟩
        ·exact absurd ((hsb 14 (by simp)).symm.trans h14_) (by decide)
        ·exact absurd ((hsb 14 (by simp)).symm.trans h14_) (by decide)
       ·intro s g w hsp hsb hD a hf
        rcases hD with (⟨h13_, h14_, h16_, hD⟩ | ⟨h13_, h14_, h16_, hD⟩ | ⟨h13_, h14_, h16_, hD⟩ | ⟨h13_, h14_, h16_, hD⟩)
        ·have hS : St w0 w noX [] [pt b30 (Cs #[Iv x65.2.2] 56), pt b31 (Cs #[Iv x62.1, Iv x62.2.1, Iv x65.1, Iv x65.2.1, Iv 0, Iv 0] 25), pt b19 (Cs #[Iv 0, Iv 0, Iv 0, Iv 0, Iv 0, Iv 0] 25), pt b18 (Cs #[Iv x14, Iv x15] 23), pt b17 (Cs #[Iv x7, Iv x8, Iv x9, Iv x10, Iv x11, Iv x12] 25), pt b16 (Cs #[Iv x1, Iv x2, Iv x3, Iv x4, Iv x5, Iv x6] 25)] := hD; clear hD
         replace hf : Fr a 107 [] [(45, Iv 2), (2, Iv x13), (4, Pv b16 0), (5, Pv b17 0), (7, Pv b18 0), (8, Pv b19 0), (9, Iv 0), (10, Pv b30 0), (11, Pv b31 0), (12, Iv 2), (39, Iv 2), (40, Bv true), (41, Iv 1), (42, Iv 2)] := hf
         refine O.val hf rfl rfl rfl (RunV.indexArr (j := 2) (m := 4) T_arr_25 T_size_23 rfl rfl rfl (by decide) rfl) ?_; clear hf a; intro a hf
         exact O.nil ⟨rfl, hf.to trivial, (fun d hd => by cases (show some 46 = some d from hd); exact hf.get _ _ rfl), (Or.inl ⟨h13_, h14_, h16_, hS⟩)⟩
        ·have hS : St w0 w noX [] [pt b30 (Cs #[Iv x67.2.2] 56), pt b31 (Cs #[Iv x62.1, Iv x62.2.1, Iv x65.1, Iv x65.2.1, Iv 0, Iv 0] 25), pt b19 (Cs #[Iv 0, Iv 0, Iv 0, Iv 0, Iv 0, Iv 0] 25), pt b18 (Cs #[Iv x14, Iv x15] 23), pt b17 (Cs #[Iv x7, Iv x8, Iv x9, Iv x10, Iv x11, Iv x12] 25), pt b16 (Cs #[Iv x1, Iv x2, Iv x3, Iv x4, Iv x5, Iv x6] 25)] := hD; clear hD
         replace hf : Fr a 107 [] [(45, Iv 2), (2, Iv x13), (4, Pv b16 0), (5, Pv b17 0), (7, Pv b18 0), (8, Pv b19 0), (9, Iv 0), (10, Pv b30 0), (11, Pv b31 0), (12, Iv 2), (39, Iv 2), (40, Bv true), (41, Iv 1), (42, Iv 2)] := hf
         refine O.val hf rfl rfl rfl (RunV.indexArr (j := 2) (m := 4) T_arr_25 T_size_23 rfl rfl rfl (by decide) rfl) ?_; clear hf a; intro a hf
         exact O.nil ⟨rfl, hf.to trivial, (fun d hd => by cases (show some 46 = some d from hd); exact hf.get _ _ rfl), (Or.inr (Or.inl ⟨h13_, h14_, h16_, hS⟩))⟩
        ·exact absurd ((hsb 14 (by simp)).symm.trans h14_) (by decide)
        ·exact absurd ((hsb 14 (by simp)).symm.trans h14_) (by decide)
       ·intro s g w hsp hsb hD a hf
        rcases hD with (⟨h13_, h14_, h16_, hD⟩ | ⟨h13_, h14_, h16_, hD⟩ | ⟨h13_, h14_, h16_, hD⟩ | ⟨h13_, h14_, h16_, hD⟩)
        ·have hS : St w0 w noX [] [pt b30 (Cs #[Iv x65.2.2] 56), pt b31 (Cs #[Iv x62.1, Iv x62.2.1, Iv x65.1, Iv x65.2.1, Iv 0, Iv 0] 25), pt b19 (Cs #[Iv 0, Iv 0, Iv 0, Iv 0, Iv 0, Iv 0] 25), pt b18 (Cs #[Iv x14, Iv x15] 23), pt b17 (Cs #[Iv x7, Iv x8, Iv x9, Iv x10, Iv x11, Iv x12] 25), pt b16 (Cs #[Iv x1, Iv x2, Iv x3, Iv x4, Iv x5, Iv x6] 25)] := hD; clear hD
         replace hf : Fr a 107 [] [(46, Pv b16 4), (2, Iv x13), (4, Pv b16 0), (5, Pv b17 0), (7, Pv b18 0), (8, Pv b19 0), (9, Iv 0), (10, Pv b30 0), (11, Pv b31 0), (12, Iv 2), (39, Iv 2), (40, Bv true), (41, Iv 1), (42, Iv 2)] := hf
         refine O.val hf rfl rfl rfl (RunV.loadN (cs' := #[Iv x5, Iv x6]) T_agg_23 T_size_23 rfl (hS.ptAt (i := 5) rfl) (Nat.le_of_ble_eq_true rfl) rfl) ?_; clear hf a; intro a hf
         exact O.nil ⟨rfl, hf.to trivial, (fun d hd => by cases (show some 47 = some d from hd); exact hf.get _ _ rfl), (Or.inl ⟨h13_, h14_, h16_, hS⟩)⟩
        ·have hS : St w0 w noX [] [pt b30 (Cs #[Iv x67.2.2] 56), pt b31 (Cs #[Iv x62.1, Iv x62.2.1, Iv x65.1, Iv x65.2.1, Iv 0, Iv 0] 25), pt b19 (Cs #[Iv 0, Iv 0, Iv 0, Iv 0, Iv 0, Iv 0] 25), pt b18 (Cs #[Iv x14, Iv x15] 23), pt b17 (Cs #[Iv x7, Iv x8, Iv x9, Iv x10, Iv x11, Iv x12] 25), pt b16 (Cs #[Iv x1, Iv x2, Iv x3, Iv x4, Iv x5, Iv x6] 25)] := hD; clear hD
         replace hf : Fr a 107 [] [(46, Pv b16 4), (2, Iv x13), (4, Pv b16 0), (5, Pv b17 0), (7, Pv b18 0), (8, Pv b19 0), (9, Iv 0), (10, Pv b30 0), (11, Pv b31 0), (12, Iv 2), (39, Iv 2), (40, Bv true), (41, Iv 1), (42, Iv 2)] := hf
         refine O.val hf rfl rfl rfl (RunV.loadN (cs' := #[Iv x5, Iv x6]) T_agg_23 T_size_23 rfl (hS.ptAt (i := 5) rfl) (Nat.le_of_ble_eq_true rfl) rfl) ?_; clear hf a; intro a hf
         exact O.nil ⟨rfl, hf.to trivial, (fun d hd => by cases (show some 47 = some d from hd); exact hf.get _ _ rfl), (Or.inr (Or.inl ⟨h13_, h14_, h16_, hS⟩))⟩
        ·exact absurd ((hsb 14 (by simp)).symm.trans h14_) (by decide)
        ·exact absurd ((hsb 14 (by simp)).symm.trans h14_) (by decide)
       ·intro s g w hsp hsb hD a hf
        rcases hD with (⟨h13_, h14_, h16_, hD⟩ | ⟨h13_, h14_, h16_, hD⟩ | ⟨h13_, h14_, h16_, hD⟩ | ⟨h13_, h14_, h16_, hD⟩)
        ·have hS : St w0 w noX [] [pt b30 (Cs #[Iv x65.2.2] 56), pt b31 (Cs #[Iv x62.1, Iv x62.2.1, Iv x65.1, Iv x65.2.1, Iv 0, Iv 0] 25), pt b19 (Cs #[Iv 0, Iv 0, Iv 0, Iv 0, Iv 0, Iv 0] 25), pt b18 (Cs #[Iv x14, Iv x15] 23), pt b17 (Cs #[Iv x7, Iv x8, Iv x9, Iv x10, Iv x11, Iv x12] 25), pt b16 (Cs #[Iv x1, Iv x2, Iv x3, Iv x4, Iv x5, Iv x6] 25)] := hD; clear hD
         replace hf : Fr a 107 [] [(2, Iv x13), (4, Pv b16 0), (5, Pv b17 0), (7, Pv b18 0), (8, Pv b19 0), (9, Iv 0), (10, Pv b30 0), (11, Pv b31 0), (12, Iv 2), (39, Iv 2), (40, Bv true), (41, Iv 1), (42, Iv 2)] := hf
         refine O.val hf rfl rfl rfl (RunV.move rfl) ?_; clear hf a; intro a hf
         exact O.nil ⟨rfl, hf.to trivial, (fun d hd => by cases (show some 48 = some d from hd); exact hf.get _ _ rfl), (Or.inl ⟨h13_, h14_, h16_, hS⟩)⟩
        ·exact absurd ((hsb 13 (by simp)).symm.trans h13_) (by decide)
        ·exact absurd ((hsb 13 (by simp)).symm.trans h13_) (by decide)
        ·exact absurd ((hsb 13 (by simp)).symm.trans h13_) (by decide)
       ·intro s g w hsp hsb hD a hf
        rcases hD with (⟨h13_, h14_, h16_, hD⟩ | ⟨h13_, h14_, h16_, hD⟩ | ⟨h13_, h14_, h16_, hD⟩ | ⟨h13_, h14_, h16_, hD⟩)
        ·have hS : St w0 w noX [] [pt b30 (Cs #[Iv x65.2.2] 56), pt b31 (Cs #[Iv x62.1, Iv x62.2.1, Iv x65.1, Iv x65.2.1, Iv 0, Iv 0] 25), pt b19 (Cs #[Iv 0, Iv 0, Iv 0, Iv 0, Iv 0, Iv 0] 25), pt b18 (Cs #[Iv x14, Iv x15] 23), pt b17 (Cs #[Iv x7, Iv x8, Iv x9, Iv x10, Iv x11, Iv x12] 25), pt b16 (Cs #[Iv x1, Iv x2, Iv x3, Iv x4, Iv x5, Iv x6] 25)] := hD; clear hD
         replace hf : Fr a 107 [] [(2, Iv x13), (4, Pv b16 0), (5, Pv b17 0), (7, Pv b18 0), (8, Pv b19 0), (9, Iv 0), (10, Pv b30 0), (11, Pv b31 0), (12, Iv 2), (39, Iv 2), (40, Bv true), (41, Iv 1), (42, Iv 2)] := hf
         refine O.val hf rfl rfl rfl (RunV.move rfl) ?_; clear hf a; intro a hf
         exact O.nil ⟨rfl, hf.to trivial, (fun d hd => by cases (show some 49 = some d from hd); exact hf.get _ _ rfl), (Or.inl ⟨h13_, h14_, h16_, hS⟩)⟩
        ·exact absurd ((hsb 13 (by simp)).symm.trans h13_) (by decide)
        ·exact absurd ((hsb 13 (by simp)).symm.trans h13_) (by decide)
        ·exact absurd ((hsb 13 (by simp)).symm.trans h13_) (by decide)
       ·intro s g w hsp hsb hD a hf
        rcases hD with (⟨h13_, h14_, h16_, hD⟩ | ⟨h13_, h14_, h16_, hD⟩ | ⟨h13_, h14_, h16_, hD⟩ | ⟨h13_, h14_, h16_, hD⟩)
        ·have hS : St w0 w noX [] [pt b30 (Cs #[Iv x65.2.2] 56), pt b31 (Cs #[Iv x62.1, Iv x62.2.1, Iv x65.1, Iv x65.2.1, Iv 0, Iv 0] 25), pt b19 (Cs #[Iv 0, Iv 0, Iv 0, Iv 0, Iv 0, Iv 0] 25), pt b18 (Cs #[Iv x14, Iv x15] 23), pt b17 (Cs #[Iv x7, Iv x8, Iv x9, Iv x10, Iv x11, Iv x12] 25), pt b16 (Cs #[Iv x1, Iv x2, Iv x3, Iv x4, Iv x5, Iv x6] 25)] := hD; clear hD
         replace hf : Fr a 107 [] [(49, Iv 2), (2, Iv x13), (4, Pv b16 0), (5, Pv b17 0), (7, Pv b18 0), (8, Pv b19 0), (9, Iv 0), (10, Pv b30 0), (11, Pv b31 0), (12, Iv 2), (39, Iv 2), (40, Bv true), (41, Iv 1), (42, Iv 2)] := hf
         refine O.val hf rfl rfl rfl (RunV.indexArr (j := 2) (m := 4) T_arr_25 T_size_23 rfl rfl rfl (by decide) rfl) ?_; clear hf a; intro a hf
         exact O.nil ⟨rfl, hf.to trivial, (fun d hd => by cases (show some 50 = some d from hd); exact hf.get _ _ rfl), (Or.inl ⟨h13_, h14_, h16_, hS⟩)⟩
        ·exact absurd ((hsb 13 (by simp)).symm.trans h13_) (by decide)
        ·exact absurd ((hsb 13 (by simp)).symm.trans h13_) (by decide)
        ·exact absurd ((hsb 13 (by simp)).symm.trans h13_) (by decide)
       ·intro s g w hsp hsb hD a hf
        rcases hD with (⟨h13_, h14_, h16_, hD⟩ | ⟨h13_, h14_, h16_, hD⟩ | ⟨h13_, h14_, h16_, hD⟩ | ⟨h13_, h14_, h16_, hD⟩)
        ·have hS : St w0 w noX [] [pt b30 (Cs #[Iv x65.2.2] 56), pt b31 (Cs #[Iv x62.1, Iv x62.2.1, Iv x65.1, Iv x65.2.1, Iv 0, Iv 0] 25), pt b19 (Cs #[Iv 0, Iv 0, Iv 0, Iv 0, Iv 0, Iv 0] 25), pt b18 (Cs #[Iv x14, Iv x15] 23), pt b17 (Cs #[Iv x7, Iv x8, Iv x9, Iv x10, Iv x11, Iv x12] 25), pt b16 (Cs #[Iv x1, Iv x2, Iv x3, Iv x4, Iv x5, Iv x6] 25)] := hD; clear hD
         replace hf : Fr a 107 [] [(50, Pv b17 4), (2, Iv x13), (4, Pv b16 0), (5, Pv b17 0), (7, Pv b18 0), (8, Pv b19 0), (9, Iv 0), (10, Pv b30 0), (11, Pv b31 0), (12, Iv 2), (39, Iv 2), (40, Bv true), (41, Iv 1), (42, Iv 2)] := hf
         refine O.val hf rfl rfl rfl (RunV.loadN (cs' := #[Iv x11, Iv x12]) T_agg_23 T_size_23 rfl (hS.ptAt (i := 4) rfl) (Nat.le_of_ble_eq_true rfl) rfl) ?_; clear hf a; intro a hf
         exact O.nil ⟨rfl, hf.to trivial, (fun d hd => by cases (show some 51 = some d from hd); exact hf.get _ _ rfl), (Or.inl ⟨h13_, h14_, h16_, hS⟩)⟩
        ·exact absurd ((hsb 13 (by simp)).symm.trans h13_) (by decide)
        ·exact absurd ((hsb 13 (by simp)).symm.trans h13_) (by decide)
        ·exact absurd ((hsb 13 (by simp)).symm.trans h13_) (by decide)
       ·intro s g w hsp hsb hD a hf
        rcases hD with (⟨h13_, h14_, h16_, hD⟩ | ⟨h13_, h14_, h16_, hD⟩ | ⟨h13_, h14_, h16_, hD⟩ | ⟨h13_, h14_, h16_, hD⟩)
        ·have hS : St w0 w noX [] [pt b30 (Cs #[Iv x65.2.2] 56), pt b31 (Cs #[Iv x62.1, Iv x62.2.1, Iv x65.1, Iv x65.2.1, Iv 0, Iv 0] 25), pt b19 (Cs #[Iv 0, Iv 0, Iv 0, Iv 0, Iv 0, Iv 0] 25), pt b18 (Cs #[Iv x14, Iv x15] 23), pt b17 (Cs #[Iv x7, Iv x8, Iv x9, Iv x10, Iv x11, Iv x12] 25), pt b16 (Cs #[Iv x1, Iv x2, Iv x3, Iv x4, Iv x5, Iv x6] 25)] := hD; clear hD
         replace hf : Fr a 107 [] [(2, Iv x13), (4, Pv b16 0), (5, Pv b17 0), (7, Pv b18 0), (8, Pv b19 0), (9, Iv 0), (10, Pv b30 0), (11, Pv b31 0), (12, Iv 2), (39, Iv 2), (40, Bv true), (41, Iv 1), (42, Iv 2)] := hf
         refine O.val hf rfl rfl rfl (RunV.move rfl) ?_; clear hf a; intro a hf
         exact O.nil ⟨rfl, hf.to trivial, (fun d hd => by cases (show some 52 = some d from hd); exact hf.get _ _ rfl), (Or.inl ⟨h13_, h14_, h16_, hS⟩)⟩
        ·exact absurd ((hsb 13 (by simp)).symm.trans h13_) (by decide)
        ·exact absurd ((hsb 13 (by simp)).symm.trans h13_) (by decide)
        ·exact absurd ((hsb 13 (by simp)).symm.trans h13_) (by decide)
       ·intro s g w hsp hsb hD a hf
        rcases hD with (⟨h13_, h14_, h16_, hD⟩ | ⟨h13_, h14_, h16_, hD⟩ | ⟨h13_, h14_, h16_, hD⟩ | ⟨h13_, h14_, h16_, hD⟩)
        ·have hS : St w0 w noX [] [pt b30 (Cs #[Iv x65.2.2] 56), pt b31 (Cs #[Iv x62.1, Iv x62.2.1, Iv x65.1, Iv x65.2.1, Iv 0, Iv 0] 25), pt b19 (Cs #[Iv 0, Iv 0, Iv 0, Iv 0, Iv 0, Iv 0] 25), pt b18 (Cs #[Iv x14, Iv x15] 23), pt b17 (Cs #[Iv x7, Iv x8, Iv x9, Iv x10, Iv x11, Iv x12] 25), pt b16 (Cs #[Iv x1, Iv x2, Iv x3, Iv x4, Iv x5, Iv x6] 25)] := hD; clear hD
         replace hf : Fr a 107 [] [(51, .agg #[Iv x11, Iv x12]), (52, Iv x13), (2, Iv x13), (4, Pv b16 0), (5, Pv b17 0), (7, Pv b18 0), (8, Pv b19 0), (9, Iv 0), (10, Pv b30 0), (11, Pv b31 0), (12, Iv 2), (39, Iv 2), (40, Bv true), (41, Iv 1), (42, Iv 2)] := hf
         refine O.callR hf rfl rfl rfl (RunE.call (av := #[.agg #[Iv x11, Iv x12], Iv x13, Iv 86400000000]) C_ok_20 rfl rfl rfl) (m_ref03_Scale_ok F x11 x12 x13 86400000000 _ x66 hx66) ?_
         clear hf a; rintro _ w hS1 a hf
         replace hf : Fr a _ _ ((53, .tuple #[.agg #[Iv x66.1, Iv x66.2.1], Iv x66.2.2]) :: _) := hf
         replace hS := (hS.call hS1).eqM (N := [pt b30 (Cs #[Iv x65.2.2] 56), pt b31 (Cs #[Iv x62.1, Iv x62.2.1, Iv x65.1, Iv x65.2.1, Iv 0, Iv 0] 25), pt b19 (Cs #[Iv 0, Iv 0, Iv 0, Iv 0, Iv 0, Iv 0] 25), pt b18 (Cs #[Iv x14, Iv x15] 23), pt b17 (Cs #[Iv x7, Iv x8, Iv x9, Iv x10, Iv x11, Iv x12] 25), pt b16 (Cs #[Iv x1, Iv x2, Iv x3, Iv x4, Iv x5, Iv x6] 25)]) rfl
         clear hS1
         exact O.nil ⟨rfl, hf.to trivial, (fun d hd => by cases (show some 53 = some d from hd); exact hf.get _ _ rfl), (Or.inl ⟨h13_, h14_, h16_, hS⟩)⟩
        ·exact absurd ((hsb 13 (by simp)).symm.trans h13_) (by decide)
        ·exact absurd ((hsb 13 (by simp)).symm.trans h13_) (by decide)
        ·exact absurd ((hsb 13 (by simp)).symm.trans h13_) (by decide)
       ·intro s g w hsp hsb hD a hf
        rcases hD with (⟨h13_, h14_, h16_, hD⟩ | ⟨h13_, h14_, h16_, hD⟩ | ⟨h13_, h14_, h16_, hD⟩ | ⟨h13_, h14_, h16_, hD⟩)
        ·have hS : St w0 w noX [] [pt b30 (Cs #[Iv x65.2.2] 56), pt b31 (Cs #[Iv x62.1, Iv x62.2.1, Iv x65.1, Iv x65.2.1, Iv 0, Iv 0] 25), pt b19 (Cs #[Iv 0, Iv 0, Iv 0, Iv 0, Iv 0, Iv 0] 25), pt b18 (Cs #[Iv x14, Iv x15] 23), pt b17 (Cs #[Iv x7, Iv x8, Iv x9, Iv x10, Iv x11, Iv x12] 25), pt b16 (Cs #[Iv x1, Iv x2, Iv x3, Iv x4, Iv x5, Iv x6] 25)] := hD; clear hD
         replace hf : Fr a 107 [] [(53, .tuple #[.agg #[Iv x66.1, Iv x66.2.1], Iv x66.2.2]), (2, Iv x13), (4, Pv b16 0), (5, Pv b17 0), (7, Pv b18 0), (8, Pv b19 0), (9, Iv 0), (10, Pv b30 0), (11, Pv b31 0), (12, Iv 2), (39, Iv 2), (40, Bv true), (41, Iv 1), (42, Iv 2)] := hf
         refine O.val hf rfl rfl rfl (RunV.extract rfl rfl) ?_; clear hf a; intro a hf
         exact O.nil ⟨rfl, hf.to trivial, (fun d hd => by cases (show some 54 = some d from hd); exact hf.get _ _ rfl), (Or.inl ⟨h13_, h14_, h16_, hS⟩)⟩
        ·exact absurd ((hsb 13 (by simp)).symm.trans h13_) (by decide)
        ·exact absurd ((hsb 13 (by simp)).symm.trans h13_) (by decide)
        ·exact absurd ((hsb 13 (by simp)).symm.trans h13_) (by decide)
       ·intro s g w hsp hsb hD a hf
        rcases hD with (⟨h13_, h14_, h16_, hD⟩ | ⟨h13_, h14_, h16_, hD⟩ | ⟨h13_, h14_, h16_, hD⟩ | ⟨h13_, h14_, h16_, hD⟩)
        ·have hS : St w0 w noX [] [pt b30 (Cs #[Iv x65.2.2] 56), pt b31 (Cs #[Iv x62.1, Iv x62.2.1, Iv x65.1, Iv x65.2.1, Iv 0, Iv 0] 25), pt b19 (Cs #[Iv 0, Iv 0, Iv 0, Iv 0, Iv 0, Iv 0] 25), pt b18 (Cs #[Iv x14, Iv x15] 23), pt b17 (Cs #[Iv x7, Iv x8, Iv x9, Iv x10, Iv x11, Iv x12] 25), pt b16 (Cs #[Iv x1, Iv x2, Iv x3, Iv x4, Iv x5, Iv x6] 25)] := hD; clear hD
         replace hf : Fr a 107 [] [(53, .tuple #[.agg #[Iv x66.1, Iv x66.2.1], Iv x66.2.2]), (2, Iv x13), (4, Pv b16 0), (5, Pv b17 0), (7, Pv b18 0), (8, Pv b19 0), (9, Iv 0), (10, Pv b30 0), (11, Pv b31 0), (12, Iv 2), (39, Iv 2), (40, Bv true), (41, Iv 1), (42, Iv 2)] := hf
         refine O.val hf rfl rfl rfl (RunV.extract rfl rfl) ?_; clear hf a; intro a hf
         exact O.nil ⟨rfl, hf.to trivial, (fun d hd => by cases (show some 55 = some d from hd); exact hf.get _ _ rfl), (Or.inl ⟨h13_, h14_, h16_, hS⟩)⟩
        ·exact absurd ((hsb 13 (by simp)).symm.trans h13_) (by decide)
        ·exact absurd ((hsb 13 (by simp)).symm.trans h13_) (by decide)
        ·exact absurd ((hsb 13 (by simp)).symm.trans h13_) (by decide)
       ·intro s g w hsp hsb hD a hf
        rcases hD with (⟨h13_, h14_, h16_, hD⟩ | ⟨h13_, h14_, h16_, hD⟩ | ⟨h13_, h14_, h16_, hD⟩ | ⟨h13_, h14_, h16_, hD⟩)
        ·exact absurd ((hsp 13 (by simp)).symm.trans h13_) (by decide)
        ·exact absurd ((hsp 14 (by simp)).symm.trans h14_) (by decide)
        ·have hS : St w0 w noX [] [pt b30 (Cs #[Iv x68.2.2] 56), pt b31 (Cs #[Iv x62.1, Iv x62.2.1, Iv x65.1, Iv x65.2.1, Iv 0, Iv 0] 25), pt b19 (Cs #[Iv 0, Iv 0, Iv 0, Iv 0, Iv 0, Iv 0] 25), pt b18 (Cs #[Iv x14, Iv x15] 23), pt b17 (Cs #[Iv x7, Iv x8, Iv x9, Iv x10, Iv x11, Iv x12] 25), pt b16 (Cs #[Iv x1, Iv x2, Iv x3, Iv x4, Iv x5, Iv x6] 25)] := hD; clear hD
         replace hf : Fr a 107 [] [(43, Iv 2), (44, Pv b30 0), (45, Iv 2), (46, Pv b16 4), (47, .agg #[Iv x5, Iv x6]), (48, Pv b30 0), (49, Iv 2), (50, Pv b17 4), (51, .agg #[Iv x11, Iv x12]), (52, Iv x13), (53, .tuple #[.agg #[Iv x66.1, Iv x66.2.1], Iv x66.2.2]), (54, .agg #[Iv x66.1, Iv x66.2.1]), (55, Iv x66.2.2), (56, .agg #[Iv x67.1, Iv x67.2.1]), (57, .agg #[Iv x68.1, Iv x68.2.1]), (2, Iv x13), (4, Pv b16 0), (5, Pv b17 0), (7, Pv b18 0), (8, Pv b19 0), (9, Iv 0), (10, Pv b30 0), (11, Pv b31 0), (12, Iv 2), (39, Iv 2), (40, Bv true), (41, Iv 1), (42, Iv 2)] := hf
         refine O.val hf rfl rfl rfl (RunV.indexArr (j := 2) (m := 4) T_arr_25 T_size_23 rfl rfl rfl (by decide) rfl) ?_; clear hf a; intro a hf
         exact O.nil ⟨rfl, hf.to trivial, (fun d hd => by cases (show some 58 = some d from hd); exact hf.get _ _ rfl), (Or.inr (Or.inr (Or.inl ⟨h13_, h14_, h16_, hS⟩)))⟩
        ·exact absurd ((hsb 16 (by simp)).symm.trans h16_) (by decide)
      ·clear hf hf1 hS
       refine ⟨?_, ?_, ?_, trivial⟩
       ·intro s g w hs0 hsp hsb hD a hf
        rcases hD with (⟨h13_, h14_, h16_, hD⟩ | ⟨h13_, h14_, h16_, hD⟩ | ⟨h13_, h14_, h16_, hD⟩ | ⟨h13_, h14_, h16_, hD⟩)
        ·have hS : St w0 w noX [] [pt b30 (Cs #[Iv x65.2.2] 56), pt b31 (Cs #[Iv x62.1, Iv x62.2.1, Iv x65.1, Iv x65.2.1, Iv 0, Iv 0] 25), pt b19 (Cs #[Iv 0, Iv 0, Iv 0, Iv 0, Iv 0, Iv 0] 25), pt b18 (Cs #[Iv x14, Iv x15] 23), pt b17 (Cs #[Iv x7, Iv x8, Iv x9, Iv x10, Iv x11, Iv x12] 25), pt b16 (Cs #[Iv x1, Iv x2, Iv x3, Iv x4, Iv x5, Iv x6] 25)] := hD; clear hD
         replace hf : Fr a 107 [] [(48, Pv b30 0), (53, .tuple #[.agg #[Iv x66.1, Iv x66.2.1], Iv x66.2.2]), (54, .agg #[Iv x66.1, Iv x66.2.1]), (55, Iv x66.2.2), (2, Iv x13), (4, Pv b16 0), (5, Pv b17 0), (7, Pv b18 0), (8, Pv b19 0), (9, Iv 0), (10, Pv b30 0), (11, Pv b31 0), (12, Iv 2), (39, Iv 2), (40, Bv true), (41, Iv 1), (42, Iv 2)] := hf
         refine O.callR hf rfl rfl rfl (RunE.call (av := #[Pv b30 0, .agg #[Iv x66.1, Iv x66.2.1], Iv x66.2.2]) C_ok_19 rfl rfl rfl) (m_ref17_Calc_Keep_ok F b30 x65.2.2 x66.1 x66.2.1 x66.2.2 _ (hS.ptAt (i := 0) rfl) x67 hx67) ?_
         clear hf a; rintro _ w hS1 a hf
         replace hf : Fr a _ _ ((56, .agg #[Iv x67.1, Iv x67.2.1]) :: _) := hf
         replace hS := (hS.callX1 hS1 (i := 0) rfl (fun _ h => h)).eqM (N := [pt b30 (Cs #[Iv x67.2.2] 56), pt b31 (Cs #[Iv x62.1, Iv x62.2.1, Iv x65.1, Iv x65.2.1, Iv 0, Iv 0] 25), pt b19 (Cs #[Iv 0, Iv 0, Iv 0, Iv 0, Iv 0, Iv 0] 25), pt b18 (Cs #[Iv x14, Iv x15] 23), pt b17 (Cs #[Iv x7, Iv x8, Iv x9, Iv x10, Iv x11, Iv x12] 25), pt b16 (Cs #[Iv x1, Iv x2, Iv x3, Iv x4, Iv x5, Iv x6] 25)]) rfl
         clear hS1
         exact O.nil ⟨rfl, (), hf.to trivial, (fun d hd => by cases (show some 56 = some d from hd); exact hf.get _ _ rfl), (fun j hj hk => match j, hj, hk with | 0, hj, hk => rfl | 1, hj, hk => rfl | 2, hj, hk => rfl | 3, hj, hk => rfl | 4, hj, hk => rfl | 5, hj, hk => rfl | 6, hj, hk => rfl | 7, hj, hk => rfl | 8, hj, hk => rfl | 9, hj, hk => rfl | 10, hj, hk => rfl | 11, hj, hk => rfl | 12, hj, hk => rfl | 13, hj, hk => absurd rfl hj | 14, hj, hk => absurd hk (by decide) | 15, hj, hk => absurd hk (by decide) | 16, hj, hk => absurd hk (by decide) | _ + 17, _, _ => rfl), (Or.inr (Or.inl ⟨rfl, h14_, h16_, hS⟩))⟩
        ·exact absurd (hs0.symm.trans h13_) (by decide)
        ·exact absurd (hs0.symm.trans h13_) (by decide)
        ·exact absurd (hs0.symm.trans h13_) (by decide)
       ·intro s g w hs0 hsp hsb hD a hf
        rcases hD with (⟨h13_, h14_, h16_, hD⟩ | ⟨h13_, h14_, h16_, hD⟩ | ⟨h13_, h14_, h16_, hD⟩ | ⟨h13_, h14_, h16_, hD⟩)
        ·exact absurd ((hsp 13 (by simp)).symm.trans h13_) (by decide)
        ·have hS : St w0 w noX [] [pt b30 (Cs #[Iv x67.2.2] 56), pt b31 (Cs #[Iv x62.1, Iv x62.2.1, Iv x65.1, Iv x65.2.1, Iv 0, Iv 0] 25), pt b19 (Cs #[Iv 0, Iv 0, Iv 0, Iv 0, Iv 0, Iv 0] 25), pt b18 (Cs #[Iv x14, Iv x15] 23), pt b17 (Cs #[Iv x7, Iv x8, Iv x9, Iv x10, Iv x11, Iv x12] 25), pt b16 (Cs #[Iv x1, Iv x2, Iv x3, Iv x4, Iv x5, Iv x6] 25)] := hD; clear hD
         replace hf : Fr a 107 [] [(44, Pv b30 0), (47, .agg #[Iv x5, Iv x6]), (56, .agg #[Iv x67.1, Iv x67.2.1]), (2, Iv x13), (4, Pv b16 0), (5, Pv b17 0), (7, Pv b18 0), (8, Pv b19 0), (9, Iv 0), (10, Pv b30 0), (11, Pv b31 0), (12, Iv 2), (39, Iv 2), (40, Bv true), (41, Iv 1), (42, Iv 2)] := hf
         refine O.callR hf rfl rfl rfl (RunE.call (av := #[Pv b30 0, .agg #[Iv x5, Iv x6], .agg #[Iv x67.1, Iv x67.2.1]]) C_ok_18 rfl rfl rfl) (m_ref17_Calc_Add_ok F b30 x67.2.2 x5 x6 x67.1 x67.2.1 _ (hS.ptAt (i := 0) rfl) x68 hx68) ?_
         clear hf a; rintro _ w hS1 a hf
         replace hf : Fr a _ _ ((57, .agg #[Iv x68.1, Iv x68.2.1]) :: _) := hf
         replace hS := (hS.callX1 hS1 (i := 0) rfl (fun _ h => h)).eqM (N := [pt b30 (Cs #[Iv x68.2.2] 56), pt b31 (Cs #[Iv x62.1, Iv x62.2.1, Iv x65.1, Iv x65.2.1, Iv 0, Iv 0] 25), pt b19 (Cs #[Iv 0, Iv 0, Iv 0, Iv 0, Iv 0, Iv 0] 25), pt b18 (Cs #[Iv x14, Iv x15] 23), pt b17 (Cs #[Iv x7, Iv x8, Iv x9, Iv x10, Iv x11, Iv x12] 25), pt b16 (Cs #[Iv x1, Iv x2, Iv x3, Iv x4, Iv x5, Iv x6] 25)]) rfl
         clear hS1
         exact O.nil ⟨rfl, (), hf.to trivial, (fun d hd => by cases (show some 57 = some d from hd); exact hf.get _ _ rfl), (fun j hj hk => match j, hj, hk with | 0, hj, hk => rfl | 1, hj, hk => rfl | 2, hj, hk => rfl | 3, hj, hk => rfl | 4, hj, hk => rfl | 5, hj, hk => rfl | 6, hj, hk => rfl | 7, hj, hk => rfl | 8, hj, hk => rfl | 9, hj, hk => rfl | 10, hj, hk => rfl | 11, hj, hk => rfl | 12, hj, hk => rfl | 13, hj, hk => rfl | 14, hj, hk => absurd rfl hj | 15, hj, hk => absurd hk (by decide) | 16, hj, hk => absurd hk (by decide) | _ + 17, _, _ => rfl), (Or.inr (Or.inr (Or.inl ⟨h13_, rfl, h16_, hS⟩)))⟩
        ·exact absurd (hs0.symm.trans h14_) (by decide)
        ·exact absurd (hs0.symm.trans h14_) (by decide)
       ·intro s g w hs0 hsp hsb hD a hf
        rcases hD with (⟨h13_, h14_, h16_, hD⟩ | ⟨h13_, h14_, h16_, hD⟩ | ⟨h13_, h14_, h16_, hD⟩ | ⟨h13_, h14_, h16_, hD⟩)
        ·exact absurd ((hsp 13 (by simp)).symm.trans h13_) (by decide)
        ·exact absurd ((hsp 14 (by simp)).symm.trans h14_) (by decide)
        ·have hS : St w0 w noX [] [pt b30 (Cs #[Iv x68.2.2] 56), pt b31 (Cs #[Iv x62.1, Iv x62.2.1, Iv x65.1, Iv x65.2.1, Iv 0, Iv 0] 25), pt b19 (Cs #[Iv 0, Iv 0, Iv 0, Iv 0, Iv 0, Iv 0] 25), pt b18 (Cs #[Iv x14, Iv x15] 23), pt b17 (Cs #[Iv x7, Iv x8, Iv x9, Iv x10, Iv x11, Iv x12] 25), pt b16 (Cs #[Iv x1, Iv x2, Iv x3, Iv x4, Iv x5, Iv x6] 25)] := hD; clear hD
         replace hf : Fr a 107 [] [(43, Iv 2), (44, Pv b30 0), (45, Iv 2), (46, Pv b16 4), (47, .agg #[Iv x5, Iv x6]), (48, Pv b30 0), (49, Iv 2), (50, Pv b17 4), (51, .agg #[Iv x11, Iv x12]), (52, Iv x13), (53, .tuple #[.agg #[Iv x66.1, Iv x66.2.1], Iv x66.2.2]), (54, .agg #[Iv x66.1, Iv x66.2.1]), (55, Iv x66.2.2), (56, .agg #[Iv x67.1, Iv x67.2.1]), (57, .agg #[Iv x68.1, Iv x68.2.1]), (58, Pv b31 4), (2, Iv x13), (4, Pv b16 0), (5, Pv b17 0), (7, Pv b18 0), (8, Pv b19 0), (9, Iv 0), (10, Pv b30 0), (11, Pv b31 0), (12, Iv 2), (39, Iv 2), (40, Bv true), (41, Iv 1), (42, Iv 2)] := hf
         refine O.store (j := 1) (cs' := #[Iv x62.1, Iv x62.2.1, Iv x65.1, Iv x65.2.1, Iv x68.1, Iv x68.2.1]) (M' := [pt b30 (Cs #[Iv x68.2.2] 56), pt b31 (Cs #[Iv x62.1, Iv x62.2.1, Iv x65.1, Iv x65.2.1, Iv x68.1, Iv x68.2.1] 25), pt b19 (Cs #[Iv 0, Iv 0, Iv 0, Iv 0, Iv 0, Iv 0] 25), pt b18 (Cs #[Iv x14, Iv x15] 23), pt b17 (Cs #[Iv x7, Iv x8, Iv x9, Iv x10, Iv x11, Iv x12] 25), pt b16 (Cs #[Iv x1, Iv x2, Iv x3, Iv x4, Iv x5, Iv x6] 25)]) hf hS rfl rfl rfl T_size_23 rfl rfl rfl (Nat.le_of_ble_eq_true rfl) rfl rfl ?_
         clear hS; intro w hS
         exact O.nil ⟨rfl, (), hf.to trivial, (fun d hd => by cases (show none = some d from hd)), (fun j hj hk => match j, hj, hk with | 0, hj, hk => rfl | 1, hj, hk => rfl | 2, hj, hk => rfl | 3, hj, hk => rfl | 4, hj, hk => rfl | 5, hj, hk => rfl | 6, hj, hk => rfl | 7, hj, hk => rfl | 8, hj, hk => rfl | 9, hj, hk => rfl | 10, hj, hk => rfl | 11, hj, hk => rfl | 12, hj, hk => rfl | 13, hj, hk => rfl | 14, hj, hk => rfl | 15, hj, hk => rfl | 16, hj, hk => absurd rfl hj | _ + 17, _, _ => rfl), (Or.inr (Or.inr (Or.inr ⟨h13_, h14_, rfl, hS⟩)))⟩
        ·exact absurd (hs0.symm.trans h16_) (by decide)
      clear hf hf1 hS; intro s g a w hs hf hD
      rcases hD with (⟨h13_, h14_, h16_, hD⟩ | ⟨h13_, h14_, h16_, hD⟩ | ⟨h13_, h14_, h16_, hD⟩ | ⟨h13_, h14_, h16_, hD⟩)
      · exact absurd ((hs 13 (by simp)).symm.trans h13_) (by decide)
      · exact absurd ((hs 14 (by simp)).symm.trans h14_) (by decide)
      · exact absurd ((hs 16 (by simp)).symm.trans h16_) (by decide)
      have hS : St w0 w noX [] [pt b30 (Cs #[Iv x68.2.2] 56), pt b31 (Cs #[Iv x62.1, Iv x62.2.1, Iv x65.1, Iv x65.2.1, Iv x68.1, Iv x68.2.1] 25), pt b19 (Cs #[Iv 0, Iv 0, Iv 0, Iv 0, Iv 0, Iv 0] 25), pt b18 (Cs #[Iv x14, Iv x15] 23), pt b17 (Cs #[Iv x7, Iv x8, Iv x9, Iv x10, Iv x11, Iv x12] 25), pt b16 (Cs #[Iv x1, Iv x2, Iv x3, Iv x4, Iv x5, Iv x6] 25)] := hD; clear hD
      replace hf : Fr a 107 [] [(43, Iv 2), (44, Pv b30 0), (45, Iv 2), (46, Pv b16 4), (47, .agg #[Iv x5, Iv x6]), (48, Pv b30 0), (49, Iv 2), (50, Pv b17 4), (51, .agg #[Iv x11, Iv x12]), (52, Iv x13), (53, .tuple #[.agg #[Iv x66.1, Iv x66.2.1], Iv x66.2.2]), (54, .agg #[Iv x66.1, Iv x66.2.1]), (55, Iv x66.2.2), (56, .agg #[Iv x67.1, Iv x67.2.1]), (57, .agg #[Iv x68.1, Iv x68.2.1]), (58, Pv b31 4), (2, Iv x13), (4, Pv b16 0), (5, Pv b17 0), (7, Pv b18 0), (8, Pv b19 0), (9, Iv 0), (10, Pv b30 0), (11, Pv b31 0), (12, Iv 2), (39, Iv 2), (40, Bv true), (41, Iv 1), (42, Iv 2)] := hf
      refine k_blk_normal ?_
      refine k_seq ?_
      -- region 13
      refine W.regionL (l := [0, 1, 2]) rfl ?_
      refine O.val hf rfl rfl rfl (RunV.move rfl) ?_; clear hf a; intro a hf
      refine O.val (v := Iv 3) hf rfl rfl rfl (RunV.add (p := 2) (q := 1) rfl rfl) ?_; clear hf a; intro a hf
      refine O.val hf rfl rfl rfl (RunV.assign rfl) ?_; clear hf a; intro a hf
      refine O.nil ?_
      refine k_then (LH.step ?_)
      refine W.seq ?_
      refine W.seq ?_
      -- region 12
      refine W.regionL (l := [0, 1]) rfl ?_
      refine O.val hf rfl rfl rfl (RunV.move rfl) ?_; clear hf a; intro a hf
      refine O.val (v := Bv false) hf rfl rfl rfl (RunV.lss (p := 3) (q := 3) rfl rfl) ?_; clear hf a; intro a hf
      refine O.nil ?_
      refine k_seq ?_
      refine W.if_ff hf rfl ?_
      refine W.exit ?_
      refine k_then_exit ?_
      refine k_then_exit ?_
      refine k_blk ?_
      replace hS := hS.front (i := 1) (M' := [pt b31 (Cs #[Iv x62.1, Iv x62.2.1, Iv x65.1, Iv x65.2.1, Iv x68.1, Iv x68.2.1] 25), pt b30 (Cs #[Iv x68.2.2] 56), pt b19 (Cs #[Iv 0, Iv 0, Iv 0, Iv 0, Iv 0, Iv 0] 25), pt b18 (Cs #[Iv x14, Iv x15] 23), pt b17 (Cs #[Iv x7, Iv x8, Iv x9, Iv x10, Iv x11, Iv x12] 25), pt b16 (Cs #[Iv x1, Iv x2, Iv x3, Iv x4, Iv x5, Iv x6] 25)]) rfl rfl
      replace hS := hS.front (i := 1) (M' := [pt b30 (Cs #[Iv x68.2.2] 56), pt b31 (Cs #[Iv x62.1, Iv x62.2.1, Iv x65.1, Iv x65.2.1, Iv x68.1, Iv x68.2.1] 25), pt b19 (Cs #[Iv 0, Iv 0, Iv 0, Iv 0, Iv 0, Iv 0] 25), pt b18 (Cs #[Iv x14, Iv x15] 23), pt b17 (Cs #[Iv x7, Iv x8, Iv x9, Iv x10, Iv x11, Iv x12] 25), pt b16 (Cs #[Iv x1, Iv x2, Iv x3, Iv x4, Iv x5, Iv x6] 25)]) rfl rfl
      replace hS := hS.front (i := 2) (M' := [pt b19 (Cs #[Iv 0, Iv 0, Iv 0, Iv 0, Iv 0, Iv 0] 25), pt b30 (Cs #[Iv x68.2.2] 56), pt b31 (Cs #[Iv x62.1, Iv x62.2.1, Iv x65.1, Iv x65.2.1, Iv x68.1, Iv x68.2.1] 25), pt b18 (Cs #[Iv x14, Iv x15] 23), pt b17 (Cs #[Iv x7, Iv x8, Iv x9, Iv x10, Iv x11, Iv x12] 25), pt b16 (Cs #[Iv x1, Iv x2, Iv x3, Iv x4, Iv x5, Iv x6] 25)]) rfl rfl
      replace hS := hS.front (i := 3) (M' := [pt b18 (Cs #[Iv x14, Iv x15] 23), pt b19 (Cs #[Iv 0, Iv 0, Iv 0, Iv 0, Iv 0, Iv 0] 25), pt b30 (Cs #[Iv x68.2.2] 56), pt b31 (Cs #[Iv x62.1, Iv x62.2.1, Iv x65.1, Iv x65.2.1, Iv x68.1, Iv x68.2.1] 25), pt b17 (Cs #[Iv x7, Iv x8, Iv x9, Iv x10, Iv x11, Iv x12] 25), pt b16 (Cs #[Iv x1, Iv x2, Iv x3, Iv x4, Iv x5, Iv x6] 25)]) rfl rfl
      replace hS := hS.sub (N := [pt b18 (Cs #[Iv x14, Iv x15] 23), pt b19 (Cs #[Iv 0, Iv 0, Iv 0, Iv 0, Iv 0, Iv 0] 25), pt b30 (Cs #[Iv x68.2.2] 56), pt b31 (Cs #[Iv x62.1, Iv x62.2.1, Iv x65.1, Iv x65.2.1, Iv x68.1, Iv x68.2.1] 25)]) (.cons_cons _ (.cons_cons _ (.cons_cons _ (.cons_cons _ (.cons _ (.cons _ .slnil))))))
      exact k_then ⟨x68.2.2, x62.1, x62.2.1, x65.1, x65.2.1, x68.1, x68.2.1, hf.to ⟨rfl, rfl, rfl, rfl, rfl, rfl, trivial⟩, hS, hm⟩
     ·clear hf hS hm a; try clear w
      rintro a w ⟨x32, x33, x34, x35, x36, x37, x38, hf, hS, hm⟩
      unfold m_ref30_Ahead_j2 at hm
      refine W.seq ?_
      -- region 15
      refine W.regionL (l := [0, 1, 2, 3, 4, 5, 6, 7, 8]) rfl ?_
      refine O.val hf rfl rfl rfl (RunV.move rfl) ?_; clear hf a; intro a hf
      refine O.val hf rfl rfl rfl (RunV.loadN (cs' := #[Iv x14, Iv x15]) T_agg_23 T_size_23 rfl (hS.ptAt (i := 0) rfl) (Nat.le_of_ble_eq_true rfl) rfl) ?_; clear hf a; intro a hf
      refine O.val hf rfl rfl rfl (RunV.move rfl) ?_; clear hf a; intro a hf
      obtain ⟨x39, hx39, hm⟩ := hm_b hm
      refine O.callR hf rfl rfl rfl (RunE.call (av := #[.agg #[Iv x14, Iv x15], Iv x13, Iv 86400000000]) C_ok_20 rfl rfl rfl) (m_ref03_Scale_ok F x14 x15 x13 86400000000 _ x39 hx39) ?_
      clear hf a; rintro _ w hS1 a hf
      replace hf : Fr a _ _ ((62, .tuple #[.agg #[Iv x39.1, Iv x39.2.1], Iv x39.2.2]) :: _) := hf
      replace hS := (hS.call hS1).eqM (N := [pt b18 (Cs #[Iv x14, Iv x15] 23), pt b19 (Cs #[Iv 0, Iv 0, Iv 0, Iv 0, Iv 0, Iv 0] 25), pt b30 (Cs #[Iv x32] 56), pt b31 (Cs #[Iv x33, Iv x34, Iv x35, Iv x36, Iv x37, Iv x38] 25)]) rfl
      clear hS1
      refine O.val hf rfl rfl rfl (RunV.extract rfl rfl) ?_; clear hf a; intro a hf
      refine O.val hf rfl rfl rfl (RunV.extract rfl rfl) ?_; clear hf a; intro a hf
      obtain ⟨x40, hx40, hm⟩ := hm_b hm
      refine O.callR hf rfl rfl rfl (RunE.call (av := #[Pv b30 0, .agg #[Iv x39.1, Iv x39.2.1], Iv x39.2.2]) C_ok_19 rfl rfl rfl) (m_ref17_Calc_Keep_ok F b30 x32 x39.1 x39.2.1 x39.2.2 _ (hS.ptAt (i := 2) rfl) x40 hx40) ?_
      clear hf a; rintro _ w hS1 a hf
      replace hf : Fr a _ _ ((65, .agg #[Iv x40.1, Iv x40.2.1]) :: _) := hf
      replace hS := (hS.callX1 hS1 (i := 2) rfl (fun _ h => h)).eqM (N := [pt b30 (Cs #[Iv x40.2.2] 56), pt b18 (Cs #[Iv x14, Iv x15] 23), pt b19 (Cs #[Iv 0, Iv 0, Iv 0, Iv 0, Iv 0, Iv 0] 25), pt b31 (Cs #[Iv x33, Iv x34, Iv x35, Iv x36, Iv x37, Iv x38] 25)]) rfl
      clear hS1
      refine O.alloc (cs := #[Iv 0, Iv 0]) hf hS rfl rfl T_zero_23 rfl ?_
      clear hf hS a; intro b41 w a hb41 hS hf
      refine O.store (j := 0) (cs' := #[Iv x40.1, Iv x40.2.1]) (M' := [pt b41 (Cs #[Iv x40.1, Iv x40.2.1] 23), pt b30 (Cs #[Iv x40.2.2] 56), pt b18 (Cs #[Iv x14, Iv x15] 23), pt b19 (Cs #[Iv 0, Iv 0, Iv 0, Iv 0, Iv 0, Iv 0] 25), pt b31 (Cs #[Iv x33, Iv x34, Iv x35, Iv x36, Iv x37, Iv x38] 25)]) hf hS rfl rfl rfl T_size_23 rfl rfl rfl (Nat.le_of_ble_eq_true rfl) rfl rfl ?_
      clear hS; intro w hS
      refine O.nil ?_
      refine k_seq ?_
      replace hf : Fr a 107 [] [(2, Iv x13), (8, Pv b19 0), (9, Iv 0), (10, Pv b30 0), (11, Pv b31 0), (13, Pv b41 0)] := hf.to ⟨rfl, rfl, rfl, rfl, rfl, rfl, trivial⟩
      refine W.seq ?_
      -- region 16
      refine W.regionL (l := [0, 1, 2, 3, 4, 5, 6, 7]) rfl ?_
      refine O.val hf rfl rfl rfl (RunV.move rfl) ?_; clear hf a; intro a hf
      refine O.val hf rfl rfl rfl (RunV.loadN (cs' := #[Iv x40.1, Iv x40.2.1]) T_agg_23 T_size_23 rfl (hS.ptAt (i := 0) rfl) (Nat.le_of_ble_eq_true rfl) rfl) ?_; clear hf a; intro a hf
      refine O.val hf rfl rfl rfl (RunV.move rfl) ?_; clear hf a; intro a hf
      obtain ⟨x42, hx42, hm⟩ := hm_b hm
      refine O.callR hf rfl rfl rfl (RunE.call (av := #[.agg #[Iv x40.1, Iv x40.2.1], Iv x13, Iv 86400000000]) C_ok_20 rfl rfl rfl) (m_ref03_Scale_ok F x40.1 x40.2.1 x13 86400000000 _ x42 hx42) ?_
      clear hf a; rintro _ w hS1 a hf
      replace hf : Fr a _ _ ((69, .tuple #[.agg #[Iv x42.1, Iv x42.2.1], Iv x42.2.2]) :: _) := hf
      replace hS := (hS.call hS1).eqM (N := [pt b41 (Cs #[Iv x40.1, Iv x40.2.1] 23), pt b30 (Cs #[Iv x40.2.2] 56), pt b18 (Cs #[Iv x14, Iv x15] 23), pt b19 (Cs #[Iv 0, Iv 0, Iv 0, Iv 0, Iv 0, Iv 0] 25), pt b31 (Cs #[Iv x33, Iv x34, Iv x35, Iv x36, Iv x37, Iv x38] 25)]) rfl
      clear hS1
      refine O.val hf rfl rfl rfl (RunV.extract rfl rfl) ?_; clear hf a; intro a hf
      refine O.val hf rfl rfl rfl (RunV.extract rfl rfl) ?_; clear hf a; intro a hf
      obtain ⟨x43, hx43, hm⟩ := hm_b hm
      refine O.callR hf rfl rfl rfl (RunE.call (av := #[Pv b30 0, .agg #[Iv x42.1, Iv x42.2.1], Iv x42.2.2]) C_ok_19 rfl rfl rfl) (m_ref17_Calc_Keep_ok F b30 x40.2.2 x42.1 x42.2.1 x42.2.2 _ (hS.ptAt (i := 1) rfl) x43 hx43) ?_
      clear hf a; rintro _ w hS1 a hf
      replace hf : Fr a _ _ ((72, .agg #[Iv x43.1, Iv x43.2.1]) :: _) := hf
      replace hS := (hS.callX1 hS1 (i := 1) rfl (fun _ h => h)).eqM (N := [pt b30 (Cs #[Iv x43.2.2] 56), pt b41 (Cs #[Iv x40.1, Iv x40.2.1] 23), pt b18 (Cs #[Iv x14, Iv x15] 23), pt b19 (Cs #[Iv 0, Iv 0, Iv 0, Iv 0, Iv 0, Iv 0] 25), pt b31 (Cs #[Iv x33, Iv x34, Iv x35, Iv x36, Iv x37, Iv x38] 25)]) rfl
      clear hS1
      refine O.store (j := 1) (cs' := #[Iv x43.1, Iv x43.2.1]) (M' := [pt b30 (Cs #[Iv x43.2.2] 56), pt b41 (Cs #[Iv x43.1, Iv x43.2.1] 23), pt b18 (Cs #[Iv x14, Iv x15] 23), pt b19 (Cs #[Iv 0, Iv 0, Iv 0, Iv 0, Iv 0, Iv 0] 25), pt b31 (Cs #[Iv x33, Iv x34, Iv x35, Iv x36, Iv x37, Iv x38] 25)]) hf hS rfl rfl rfl T_size_23 rfl rfl rfl (Nat.le_of_ble_eq_true rfl) rfl rfl ?_
      clear hS; intro w hS
      refine O.nil ?_
      refine k_seq ?_
      replace hf : Fr a 107 [] [(8, Pv b19 0), (9, Iv 0), (10, Pv b30 0), (11, Pv b31 0), (13, Pv b41 0)] := hf.to ⟨rfl, rfl, rfl, rfl, rfl, trivial⟩
      refine W.seq ?_
      -- region 17
      refine W.regionL (l := [0, 1, 2, 3, 4, 5, 6]) rfl ?_
      refine O.val hf rfl rfl rfl (RunV.move rfl) ?_; clear hf a; intro a hf
      refine O.val hf rfl rfl rfl (RunV.loadN (cs' := #[Iv x43.1, Iv x43.2.1]) T_agg_23 T_size_23 rfl (hS.ptAt (i := 1) rfl) (Nat.le_of_ble_eq_true rfl) rfl) ?_; clear hf a; intro a hf
      obtain ⟨x44, hx44, hm⟩ := hm_b hm
      refine O.callR hf rfl rfl rfl (RunE.call (av := #[.agg #[Iv x43.1, Iv x43.2.1], Iv 1, Iv 2]) C_ok_20 rfl rfl rfl) (m_ref03_Scale_ok F x43.1 x43.2.1 1 2 _ x44 hx44) ?_
      clear hf a; rintro _ w hS1 a hf
      replace hf : Fr a _ _ ((75, .tuple #[.agg #[Iv x44.1, Iv x44.2.1], Iv x44.2.2]) :: _) := hf
      replace hS := (hS.call hS1).eqM (N := [pt b30 (Cs #[Iv x43.2.2] 56), pt b41 (Cs #[Iv x43.1, Iv x43.2.1] 23), pt b18 (Cs #[Iv x14, Iv x15] 23), pt b19 (Cs #[Iv 0, Iv 0, Iv 0, Iv 0, Iv 0, Iv 0] 25), pt b31 (Cs #[Iv x33, Iv x34, Iv x35, Iv x36, Iv x37, Iv x38] 25)]) rfl
      clear hS1
      refine O.val hf rfl rfl rfl (RunV.extract rfl rfl) ?_; clear hf a; intro a hf
      refine O.val hf rfl rfl rfl (RunV.extract rfl rfl) ?_; clear hf a; intro a hf
      obtain ⟨x45, hx45, hm⟩ := hm_b hm
      refine O.callR hf rfl rfl rfl (RunE.call (av := #[Pv b30 0, .agg #[Iv x44.1, Iv x44.2.1], Iv x44.2.2]) C_ok_19 rfl rfl rfl) (m_ref17_Calc_Keep_ok F b30 x43.2.2 x44.1 x44.2.1 x44.2.2 _ (hS.ptAt (i := 0) rfl) x45 hx45) ?_
      clear hf a; rintro _ w hS1 a hf
      replace hf : Fr a _ _ ((78, .agg #[Iv x45.1, Iv x45.2.1]) :: _) := hf
      replace hS := (hS.callX1 hS1 (i := 0) rfl (fun _ h => h)).eqM (N := [pt b30 (Cs #[Iv x45.2.2] 56), pt b41 (Cs #[Iv x43.1, Iv x43.2.1] 23), pt b18 (Cs #[Iv x14, Iv x15] 23), pt b19 (Cs #[Iv 0, Iv 0, Iv 0, Iv 0, Iv 0, Iv 0] 25), pt b31 (Cs #[Iv x33, Iv x34, Iv x35, Iv x36, Iv x37, Iv x38] 25)]) rfl
      clear hS1
      refine O.store (j := 1) (cs' := #[Iv x45.1, Iv x45.2.1]) (M' := [pt b30 (Cs #[Iv x45.2.2] 56), pt b41 (Cs #[Iv x45.1, Iv x45.2.1] 23), pt b18 (Cs #[Iv x14, Iv x15] 23), pt b19 (Cs #[Iv 0, Iv 0, Iv 0, Iv 0, Iv 0, Iv 0] 25), pt b31 (Cs #[Iv x33, Iv x34, Iv x35, Iv x36, Iv x37, Iv x38] 25)]) hf hS rfl rfl rfl T_size_23 rfl rfl rfl (Nat.le_of_ble_eq_true rfl) rfl rfl ?_
      clear hS; intro w hS
      refine O.nil ?_
      refine k_seq ?_
      replace hf : Fr a 107 [] [(8, Pv b19 0), (9, Iv 0), (10, Pv b30 0), (11, Pv b31 0), (13, Pv b41 0)] := hf.to ⟨rfl, rfl, rfl, rfl, rfl, trivial⟩
      refine W.seqR (fun a w => ∃ (x46 : Int) (x47 : Int) (x48 : Int) (x49 : Int) (x50 : Int) (x51 : Int) (x52 : Int), Fr a 107 [] [(8, Pv b19 0), (9, Iv 0), (10, Pv b30 0), (11, Pv b31 0)] ∧ St w0 w noX [] [pt b19 (Cs #[Iv 0, Iv 0, Iv 0, Iv 0, Iv 0, Iv 0] 25), pt b30 (Cs #[Iv x46] 56), pt b31 (Cs #[Iv x47, Iv x48, Iv x49, Iv x50, Iv x51, Iv x52] 25)] ∧ m_ref30_Ahead_j1 F x46 x47 x48 x49 x50 x51 x52 = some r) ?_ ?_
      ·refine W.seq ?_
       -- region 18
       refine W.regionL (l := [0]) rfl ?_
       refine O.val hf rfl rfl rfl (RunV.assign rfl) ?_; clear hf a; intro a hf
       refine O.nil ?_
       refine k_seq ?_
       refine W.block ?_
       refine W.loopH (LH.step ?_)
       refine W.seq ?_
       refine W.seq ?_
       -- region 19
       refine W.regionL (l := [0, 1]) rfl ?_
       refine O.val hf rfl rfl rfl (RunV.move rfl) ?_; clear hf a; intro a hf
       refine O.val (v := Bv true) hf rfl rfl rfl (RunV.lss (p := 0) (q := 3) rfl rfl) ?_; clear hf a; intro a hf
       refine O.nil ?_
       refine k_seq ?_
       refine W.if_tt hf rfl ?_
       refine W.skip ?_
       refine k_seq ?_
       refine W.seq ?_
       refine W.block ?_
       -- region 21, which draws its order
       -- [11, 13] turn memory
       have hf1 : Fr a 107 [] [] := hf.to trivial
       replace hf : Fr a 107 [] [(8, Pv b19 0), (9, Iv 0), (10, Pv b30 0), (11, Pv b31 0), (13, Pv b41 0), (14, Iv 0), (79, Iv 0), (80, Bv true)] := hf.to ⟨rfl, rfl, rfl, rfl, rfl, rfl, rfl, rfl, trivial⟩
       obtain ⟨x54, hx54, hm⟩ := hm_b hm
       refine W.drawP (γ := Unit) (L0 := [(8, Pv b19 0), (9, Iv 0), (10, Pv b30 0), (11, Pv b31 0), (13, Pv b41 0), (14, Iv 0), (79, Iv 0), (80, Bv true)]) (L1 := []) () [11, 13] [0, 1, 2, 3, 4, 5, 6, 7, 8, 9, 10, 12] (fun i => match i with | 0 => [] | 1 => [] | 2 => [] | 3 => [2] | 4 => [3] | 5 => [] | 6 => [5] | 7 => [6] | 8 => [] | 9 => [8] | 10 => [7, 9] | 11 => [1, 4, 10] | 12 => [0, 1, 2, 3, 4, 5, 6, 7, 8, 9, 10, 11] | 13 => [0, 1, 2, 3, 4, 5, 6, 7, 8, 9, 10, 11, 12] | _ => []) (fun i => match i with | 12 => [11] | 13 => [11] | _ => []) (fun i => match i with | 0 => [13] | 1 => [11, 13] | 2 => [11, 13] | 3 => [11, 13] | 4 => [11, 13] | 5 => [11, 13] | 6 => [11, 13] | 7 => [11, 13] | 8 => [11, 13] | 9 => [11, 13] | 10 => [11, 13] | 11 => [13] | 12 => [13] | _ => []) (fun i => match i with | 11 => [12, 13] | 13 => [] | _ => []) (fun _ => []) (fun (g : Unit) j => match g, j with | _, 0 => Iv 0 | _, 1 => Pv b30 0 | _, 2 => Iv 0 | _, 3 => Pv b31 0 | _, 4 => .agg #[Iv x33, Iv x34] | _, 5 => Pv b41 1 | _, 6 => Iv x45.2.1 | _, 7 => Iv (IntKind.i64.wrap (0 - x45.2.1)) | _, 8 => Pv b41 1 | _, 9 => Iv x45.2.1 | _, 10 => .agg #[Iv (IntKind.i64.wrap (0 - x45.2.1)), Iv x45.2.1] | _, 11 => .agg #[Iv x54.1, Iv x54.2.1] | _, 12 => Pv b31 0 | _, _ => undef) (fun s (g : Unit) w => match g with | _ => (s 11 = false ∧ s 13 = false ∧ St w0 w noX [] [pt b30 (Cs #[Iv x45.2.2] 56), pt b41 (Cs #[Iv x45.1, Iv x45.2.1] 23), pt b18 (Cs #[Iv x14, Iv x15] 23), pt b19 (Cs #[Iv 0, Iv 0, Iv 0, Iv 0, Iv 0, Iv 0] 25), pt b31 (Cs #[Iv x33, Iv x34, Iv x35, Iv x36, Iv x37, Iv x38] 25)]) ∨ (s 11 = true ∧ s 13 = false ∧ St w0 w noX [] [pt b30 (Cs #[Iv x54.2.2] 56), pt b41 (Cs #[Iv x45.1, Iv x45.2.1] 23), pt b18 (Cs #[Iv x14, Iv x15] 23), pt b19 (Cs #[Iv 0, Iv 0, Iv 0, Iv 0, Iv 0, Iv 0] 25), pt b31 (Cs #[Iv x33, Iv x34, Iv x35, Iv x36, Iv x37, Iv x38] 25)]) ∨ (s 11 = true ∧ s 13 = true ∧ St w0 w noX [] [pt b30 (Cs #[Iv x54.2.2] 56), pt b41 (Cs #[Iv x45.1, Iv x45.2.1] 23), pt b18 (Cs #[Iv x14, Iv x15] 23), pt b19 (Cs #[Iv 0, Iv 0, Iv 0, Iv 0, Iv 0, Iv 0] 25), pt b31 (Cs #[Iv x54.1, Iv x54.2.1, Iv x35, Iv x36, Iv x37, Iv x38] 25)])) P_mixed (by kernel_rfl) hf hf1 (Or.inl ⟨rfl, rfl, hS.drew⟩) ?_ ?_ ?_
       ·clear hf hf1 hS
        refine ⟨?_, ?_, ?_, ?_, ?_, ?_, ?_, ?_, ?_, ?_, ?_, ?_, trivial⟩
        ·intro s g w hsp hsb hD a hf
         rcases hD with (⟨h11_, h13_, hD⟩ | ⟨h11_, h13_, hD⟩ | ⟨h11_, h13_, hD⟩)
         ·have hS : St w0 w noX [] [pt b30 (Cs #[Iv x45.2.2] 56), pt b41 (Cs #[Iv x45.1, Iv x45.2.1] 23), pt b18 (Cs #[Iv x14, Iv x15] 23), pt b19 (Cs #[Iv 0, Iv 0, Iv 0, Iv 0, Iv 0, Iv 0] 25), pt b31 (Cs #[Iv x33, Iv x34, Iv x35, Iv x36, Iv x37, Iv x38] 25)] := hD; clear hD
          replace hf : Fr a 107 [] [(8, Pv b19 0), (9, Iv 0), (10, Pv b30 0), (11, Pv b31 0), (13, Pv b41 0), (14, Iv 0), (79, Iv 0), (80, Bv true)] := hf
          refine O.val hf rfl rfl rfl (RunV.move rfl) ?_; clear hf a; intro a hf
          exact O.nil ⟨rfl, hf.to trivial, (fun d hd => by cases (show some 83 = some d from hd); exact hf.get _ _ rfl), (Or.inl ⟨h11_, h13_, hS⟩)⟩
         ·have hS : St w0 w noX [] [pt b30 (Cs #[Iv x54.2.2] 56), pt b41 (Cs #[Iv x45.1, Iv x45.2.1] 23), pt b18 (Cs #[Iv x14, Iv x15] 23), pt b19 (Cs #[Iv 0, Iv 0, Iv 0, Iv 0, Iv 0, Iv 0] 25), pt b31 (Cs #[Iv x33, Iv x34, Iv x35, Iv x36, Iv x37, Iv x38] 25)] := hD; clear hD
          replace hf : Fr a 107 [] [(8, Pv b19 0), (9, Iv 0), (10, Pv b30 0), (11, Pv b31 0), (13, Pv b41 0), (14, Iv 0), (79, Iv 0), (80, Bv true)] := hf
          refine O.val hf rfl rfl rfl (RunV.move rfl) ?_; clear hf a; intro a hf
          exact O.nil ⟨rfl, hf.to trivial, (fun d hd => by cases (show some 83 = some d from hd); exact hf.get _ _ rfl), (Or.inr (Or.inl ⟨h11_, h13_, hS⟩))⟩
         ·exact absurd ((hsb 13 (by simp)).symm.trans h13_) (by decide)
        ·intro s g w hsp hsb hD a hf
         rcases hD with (⟨h11_, h13_, hD⟩ | ⟨h11_, h13_, hD⟩ | ⟨h11_, h13_, hD⟩)
         ·have hS : St w0 w noX [] [pt b30 (Cs #[Iv x45.2.2] 56), pt b41 (Cs #[Iv x45.1, Iv x45.2.1] 23), pt b18 (Cs #[Iv x14, Iv x15] 23), pt b19 (Cs #[Iv 0, Iv 0, Iv 0, Iv 0, Iv 0, Iv 0] 25), pt b31 (Cs #[Iv x33, Iv x34, Iv x35, Iv x36, Iv x37, Iv x38] 25)] := hD; clear hD
          replace hf : Fr a 107 [] [(8, Pv b19 0), (9, Iv 0), (10, Pv b30 0), (11, Pv b31 0), (13, Pv b41 0), (14, Iv 0), (79, Iv 0), (80, Bv true)] := hf
          refine O.val hf rfl rfl rfl (RunV.move rfl) ?_; clear hf a; intro a hf
          exact O.nil ⟨rfl, hf.to trivial, (fun d hd => by cases (show some 84 = some d from hd); exact hf.get _ _ rfl), (Or.inl ⟨h11_, h13_, hS⟩)⟩
         ·exact absurd ((hsb 11 (by simp)).symm.trans h11_) (by decide)
         ·exact absurd ((hsb 11 (by simp)).symm.trans h11_) (by decide)
        ·intro s g w hsp hsb hD a hf
         rcases hD with (⟨h11_, h13_, hD⟩ | ⟨h11_, h13_, hD⟩ | ⟨h11_, h13_, hD⟩)
         ·have hS : St w0 w noX [] [pt b30 (Cs #[Iv x45.2.2] 56), pt b41 (Cs #[Iv x45.1, Iv x45.2.1] 23), pt b18 (Cs #[Iv x14, Iv x15] 23), pt b19 (Cs #[Iv 0, Iv 0, Iv 0, Iv 0, Iv 0, Iv 0] 25), pt b31 (Cs #[Iv x33, Iv x34, Iv x35, Iv x36, Iv x37, Iv x38] 25)] := hD; clear hD
          replace hf : Fr a 107 [] [(8, Pv b19 0), (9, Iv 0), (10, Pv b30 0), (11, Pv b31 0), (13, Pv b41 0), (14, Iv 0), (79, Iv 0), (80, Bv true)] := hf
          refine O.val hf rfl rfl rfl (RunV.move rfl) ?_; clear hf a; intro a hf
          exact O.nil ⟨rfl, hf.to trivial, (fun d hd => by cases (show some 85 = some d from hd); exact hf.get _ _ rfl), (Or.inl ⟨h11_, h13_, hS⟩)⟩
         ·exact absurd ((hsb 11 (by simp)).symm.trans h11_) (by decide)
         ·exact absurd ((hsb 11 (by simp)).symm.trans h11_) (by decide)
        ·intro s g w hsp hsb hD a hf
         rcases hD with (⟨h11_, h13_, hD⟩ | ⟨h11_, h13_, hD⟩ | ⟨h11_, h13_, hD⟩)
         ·have hS : St w0 w noX [] [pt b30 (Cs #[Iv x45.2.2] 56), pt b41 (Cs #[Iv x45.1, Iv x45.2.1] 23), pt b18 (Cs #[Iv x14, Iv x15] 23), pt b19 (Cs #[Iv 0, Iv 0, Iv 0, Iv 0, Iv 0, Iv 0] 25), pt b31 (Cs #[Iv x33, Iv x34, Iv x35, Iv x36, Iv x37, Iv x38] 25)] := hD; clear hD
          replace hf : Fr a 107 [] [(85, Iv 0), (8, Pv b19 0), (9, Iv 0), (10, Pv b30 0), (11, Pv b31 0), (13, Pv b41 0), (14, Iv 0), (79, Iv 0), (80, Bv true)] := hf
          refine O.val hf rfl rfl rfl (RunV.indexArr (j := 0) (m := 0) T_arr_25 T_size_23 rfl rfl rfl (by decide) rfl) ?_; clear hf a; intro a hf
          exact O.nil ⟨rfl, hf.to trivial, (fun d hd => by cases (show some 86 = some d from hd); exact hf.get _ _ rfl), (Or.inl ⟨h11_, h13_, hS⟩)⟩
         ·exact absurd ((hsb 11 (by simp)).symm.trans h11_) (by decide)
         ·exact absurd ((hsb 11 (by simp)).symm.trans h11_) (by decide)
        ·intro s g w hsp hsb hD a hf
         rcases hD with (⟨h11_, h13_, hD⟩ | ⟨h11_, h13_, hD⟩ | ⟨h11_, h13_, hD⟩)
         ·have hS : St w0 w noX [] [pt b30 (Cs #[Iv x45.2.2] 56), pt b41 (Cs #[Iv x45.1, Iv x45.2.1] 23), pt b18 (Cs #[Iv x14, Iv x15] 23), pt b19 (Cs #[Iv 0, Iv 0, Iv 0, Iv 0, Iv 0, Iv 0] 25), pt b31 (Cs #[Iv x33, Iv x34, Iv x35, Iv x36, Iv x37, Iv x38] 25)] := hD; clear hD
          replace hf : Fr a 107 [] [(86, Pv b31 0), (8, Pv b19 0), (9, Iv 0), (10, Pv b30 0), (11, Pv b31 0), (13, Pv b41 0), (14, Iv 0), (79, Iv 0), (80, Bv true)] := hf
          refine O.val hf rfl rfl rfl (RunV.loadN (cs' := #[Iv x33, Iv x34]) T_agg_23 T_size_23 rfl (hS.ptAt (i := 4) rfl) (Nat.le_of_ble_eq_true rfl) rfl) ?_; clear hf a; intro a hf
          exact O.nil ⟨rfl, hf.to trivial, (fun d hd => by cases (show some 87 = some d from hd); exact hf.get _ _ rfl), (Or.inl ⟨h11_, h13_, hS⟩)⟩
         ·exact absurd ((hsb 11 (by simp)).symm.trans h11_) (by decide)
         ·exact absurd ((hsb 11 (by simp)).symm.trans h11_) (by decide)
        ·intro s g w hsp hsb hD a hf
         rcases hD with (⟨h11_, h13_, hD⟩ | ⟨h11_, h13_, hD⟩ | ⟨h11_, h13_, hD⟩)
         ·have hS : St w0 w noX [] [pt b30 (Cs #[Iv x45.2.2] 56), pt b41 (Cs #[Iv x45.1, Iv x45.2.1] 23), pt b18 (Cs #[Iv x14, Iv x15] 23), pt b19 (Cs #[Iv 0, Iv 0, Iv 0, Iv 0, Iv 0, Iv 0] 25), pt b31 (Cs #[Iv x33, Iv x34, Iv x35, Iv x36, Iv x37, Iv x38] 25)] := hD; clear hD
          replace hf : Fr a 107 [] [(8, Pv b19 0), (9, Iv 0), (10, Pv b30 0), (11, Pv b31 0), (13, Pv b41 0), (14, Iv 0), (79, Iv 0), (80, Bv true)] := hf
          refine O.val hf rfl rfl rfl (RunV.field T_field_23_1 rfl rfl) ?_; clear hf a; intro a hf
          exact O.nil ⟨rfl, hf.to trivial, (fun d hd => by cases (show some 88 = some d from hd); exact hf.get _ _ rfl), (Or.inl ⟨h11_, h13_, hS⟩)⟩
         ·exact absurd ((hsb 11 (by simp)).symm.trans h11_) (by decide)
         ·exact absurd ((hsb 11 (by simp)).symm.trans h11_) (by decide)
        ·intro s g w hsp hsb hD a hf
         rcases hD with (⟨h11_, h13_, hD⟩ | ⟨h11_, h13_, hD⟩ | ⟨h11_, h13_, hD⟩)
         ·have hS : St w0 w noX [] [pt b30 (Cs #[Iv x45.2.2] 56), pt b41 (Cs #[Iv x45.1, Iv x45.2.1] 23), pt b18 (Cs #[Iv x14, Iv x15] 23), pt b19 (Cs #[Iv 0, Iv 0, Iv 0, Iv 0, Iv 0, Iv 0] 25), pt b31 (Cs #[Iv x33, Iv x34, Iv x35, Iv x36, Iv x37, Iv x38] 25)] := hD; clear hD
          replace hf : Fr a 107 [] [(88, Pv b41 1), (8, Pv b19 0), (9, Iv 0), (10, Pv b30 0), (11, Pv b31 0), (13, Pv b41 0), (14, Iv 0), (79, Iv 0), (80, Bv true)] := hf
          refine O.val hf rfl rfl rfl (RunV.load1 T_agg_2 rfl (hS.ptAt (i := 1) rfl) rfl) ?_; clear hf a; intro a hf
          exact O.nil ⟨rfl, hf.to trivial, (fun d hd => by cases (show some 89 = some d from hd); exact hf.get _ _ rfl), (Or.inl ⟨h11_, h13_, hS⟩)⟩
         ·exact absurd ((hsb 11 (by simp)).symm.trans h11_) (by decide)
         ·exact absurd ((hsb 11 (by simp)).symm.trans h11_) (by decide)
        ·intro s g w hsp hsb hD a hf
         rcases hD with (⟨h11_, h13_, hD⟩ | ⟨h11_, h13_, hD⟩ | ⟨h11_, h13_, hD⟩)
         ·have hS : St w0 w noX [] [pt b30 (Cs #[Iv x45.2.2] 56), pt b41 (Cs #[Iv x45.1, Iv x45.2.1] 23), pt b18 (Cs #[Iv x14, Iv x15] 23), pt b19 (Cs #[Iv 0, Iv 0, Iv 0, Iv 0, Iv 0, Iv 0] 25), pt b31 (Cs #[Iv x33, Iv x34, Iv x35, Iv x36, Iv x37, Iv x38] 25)] := hD; clear hD
          replace hf : Fr a 107 [] [(89, Iv x45.2.1), (8, Pv b19 0), (9, Iv 0), (10, Pv b30 0), (11, Pv b31 0), (13, Pv b41 0), (14, Iv 0), (79, Iv 0), (80, Bv true)] := hf
          refine O.val (v := Iv (IntKind.i64.wrap (0 - x45.2.1))) hf rfl rfl rfl (RunV.neg rfl) ?_; clear hf a; intro a hf
          exact O.nil ⟨rfl, hf.to trivial, (fun d hd => by cases (show some 90 = some d from hd); exact hf.get _ _ rfl), (Or.inl ⟨h11_, h13_, hS⟩)⟩
         ·exact absurd ((hsb 11 (by simp)).symm.trans h11_) (by decide)
         ·exact absurd ((hsb 11 (by simp)).symm.trans h11_) (by decide)
        ·intro s g w hsp hsb hD a hf
         rcases hD with (⟨h11_, h13_, hD⟩ | ⟨h11_, h13_, hD⟩ | ⟨h11_, h13_, hD⟩)
         ·have hS : St w0 w noX [] [pt b30 (Cs #[Iv x45.2.2] 56), pt b41 (Cs #[Iv x45.1, Iv x45.2.1] 23), pt b18 (Cs #[Iv x14, Iv x15] 23), pt b19 (Cs #[Iv 0, Iv 0, Iv 0, Iv 0, Iv 0, Iv 0] 25), pt b31 (Cs #[Iv x33, Iv x34, Iv x35, Iv x36, Iv x37, Iv x38] 25)] := hD; clear hD
          replace hf : Fr a 107 [] [(8, Pv b19 0), (9, Iv 0), (10, Pv b30 0), (11, Pv b31 0), (13, Pv b41 0), (14, Iv 0), (79, Iv 0), (80, Bv true)] := hf
          refine O.val hf rfl rfl rfl (RunV.field T_field_23_1 rfl rfl) ?_; clear hf a; intro a hf
          exact O.nil ⟨rfl, hf.to trivial, (fun d hd => by cases (show some 91 = some d from hd); exact hf.get _ _ rfl), (Or.inl ⟨h11_, h13_, hS⟩)⟩
         ·exact absurd ((hsb 11 (by simp)).symm.trans h11_) (by decide)
         ·exact absurd ((hsb 11 (by simp)).symm.trans h11_) (by decide)
        ·intro s g w hsp hsb hD a hf
         rcases hD with (⟨h11_, h13_, hD⟩ | ⟨h11_, h13_, hD⟩ | ⟨h11_, h13_, hD⟩)
         ·have hS : St w0 w noX [] [pt b30 (Cs #[Iv x45.2.2] 56), pt b41 (Cs #[Iv x45.1, Iv x45.2.1] 23), pt b18 (Cs #[Iv x14, Iv x15] 23), pt b19 (Cs #[Iv 0, Iv 0, Iv 0, Iv 0, Iv 0, Iv 0] 25), pt b31 (Cs #[Iv x33, Iv x34, Iv x35, Iv x36, Iv x37, Iv x38] 25)] := hD; clear hD
          replace hf : Fr a 107 [] [(91, Pv b41 1), (8, Pv b19 0), (9, Iv 0), (10, Pv b30 0), (11, Pv b31 0), (13, Pv b41 0), (14, Iv 0), (79, Iv 0), (80, Bv true)] := hf
          refine O.val hf rfl rfl rfl (RunV.load1 T_agg_2 rfl (hS.ptAt (i := 1) rfl) rfl) ?_; clear hf a; intro a hf
          exact O.nil ⟨rfl, hf.to trivial, (fun d hd => by cases (show some 92 = some d from hd); exact hf.get _ _ rfl), (Or.inl ⟨h11_, h13_, hS⟩)⟩
         ·exact absurd ((hsb 11 (by simp)).symm.trans h11_) (by decide)
         ·exact absurd ((hsb 11 (by simp)).symm.trans h11_) (by decide)
        ·intro s g w hsp hsb hD a hf
         rcases hD with (⟨h11_, h13_, hD⟩ | ⟨h11_, h13_, hD⟩ | ⟨h11_, h13_, hD⟩)
         ·have hS : St w0 w noX [] [pt b30 (Cs #[Iv x45.2.2] 56), pt b41 (Cs #[Iv x45.1, Iv x45.2.1] 23), pt b18 (Cs #[Iv x14, Iv x15] 23), pt b19 (Cs #[Iv 0, Iv 0, Iv 0, Iv 0, Iv 0, Iv 0] 25), pt b31 (Cs #[Iv x33, Iv x34, Iv x35, Iv x36, Iv x37, Iv x38] 25)] := hD; clear hD
          replace hf : Fr a 107 [] [(90, Iv (IntKind.i64.wrap (0 - x45.2.1))), (92, Iv x45.2.1), (8, Pv b19 0), (9, Iv 0), (10, Pv b30 0), (11, Pv b31 0), (13, Pv b41 0), (14, Iv 0), (79, Iv 0), (80, Bv true)] := hf
          refine O.val (v := .agg #[Iv (IntKind.i64.wrap (0 - x45.2.1)), Iv x45.2.1]) hf rfl rfl rfl (RunV.buildS (cs' := #[Iv (IntKind.i64.wrap (0 - x45.2.1)), Iv x45.2.1]) T_places_23 T_zero_23 rfl (by kernel_rfl)) ?_; clear hf a; intro a hf
          exact O.nil ⟨rfl, hf.to trivial, (fun d hd => by cases (show some 93 = some d from hd); exact hf.get _ _ rfl), (Or.inl ⟨h11_, h13_, hS⟩)⟩
         ·exact absurd ((hsb 11 (by simp)).symm.trans h11_) (by decide)
         ·exact absurd ((hsb 11 (by simp)).symm.trans h11_) (by decide)
        ·intro s g w hsp hsb hD a hf
         rcases hD with (⟨h11_, h13_, hD⟩ | ⟨h11_, h13_, hD⟩ | ⟨h11_, h13_, hD⟩)
         ·exact absurd ((hsp 11 (by simp)).symm.trans h11_) (by decide)
         ·have hS : St w0 w noX [] [pt b30 (Cs #[Iv x54.2.2] 56), pt b41 (Cs #[Iv x45.1, Iv x45.2.1] 23), pt b18 (Cs #[Iv x14, Iv x15] 23), pt b19 (Cs #[Iv 0, Iv 0, Iv 0, Iv 0, Iv 0, Iv 0] 25), pt b31 (Cs #[Iv x33, Iv x34, Iv x35, Iv x36, Iv x37, Iv x38] 25)] := hD; clear hD
          replace hf : Fr a 107 [] [(83, Iv 0), (84, Pv b30 0), (85, Iv 0), (86, Pv b31 0), (87, .agg #[Iv x33, Iv x34]), (88, Pv b41 1), (89, Iv x45.2.1), (90, Iv (IntKind.i64.wrap (0 - x45.2.1))), (91, Pv b41 1), (92, Iv x45.2.1), (93, .agg #[Iv (IntKind.i64.wrap (0 - x45.2.1)), Iv x45.2.1]), (94, .agg #[Iv x54.1, Iv x54.2.1]), (8, Pv b19 0), (9, Iv 0), (10, Pv b30 0), (11, Pv b31 0), (13, Pv b41 0), (14, Iv 0), (79, Iv 0), (80, Bv true)] := hf
          refine O.val hf rfl rfl rfl (RunV.indexArr (j := 0) (m := 0) T_arr_25 T_size_23 rfl rfl rfl (by decide) rfl) ?_; clear hf a; intro a hf
          exact O.nil ⟨rfl, hf.to trivial, (fun d hd => by cases (show some 95 = some d from hd); exact hf.get _ _ rfl), (Or.inr (Or.inl ⟨h11_, h13_, hS⟩))⟩
         ·exact absurd ((hsb 13 (by simp)).symm.trans h13_) (by decide)
       ·clear hf hf1 hS
        refine ⟨?_, ?_, trivial⟩
        ·intro s g w hs0 hsp hsb hD a hf
         rcases hD with (⟨h11_, h13_, hD⟩ | ⟨h11_, h13_, hD⟩ | ⟨h11_, h13_, hD⟩)
         ·have hS : St w0 w noX [] [pt b30 (Cs #[Iv x45.2.2] 56), pt b41 (Cs #[Iv x45.1, Iv x45.2.1] 23), pt b18 (Cs #[Iv x14, Iv x15] 23), pt b19 (Cs #[Iv 0, Iv 0, Iv 0, Iv 0, Iv 0, Iv 0] 25), pt b31 (Cs #[Iv x33, Iv x34, Iv x35, Iv x36, Iv x37, Iv x38] 25)] := hD; clear hD
          replace hf : Fr a 107 [] [(84, Pv b30 0), (87, .agg #[Iv x33, Iv x34]), (93, .agg #[Iv (IntKind.i64.wrap (0 - x45.2.1)), Iv x45.2.1]), (8, Pv b19 0), (9, Iv 0), (10, Pv b30 0), (11, Pv b31 0), (13, Pv b41 0), (14, Iv 0), (79, Iv 0), (80, Bv true)] := hf
          refine O.callR hf rfl rfl rfl (RunE.call (av := #[Pv b30 0, .agg #[Iv x33, Iv x34], .agg #[Iv (IntKind.i64.wrap (0 - x45.2.1)), Iv x45.2.1]]) C_ok_18 rfl rfl rfl) (m_ref17_Calc_Add_ok F b30 x45.2.2 x33 x34 (IntKind.i64.wrap (0 - x45.2.1)) x45.2.1 _ (hS.ptAt (i := 0) rfl) x54 hx54) ?_
          clear hf a; rintro _ w hS1 a hf
          replace hf : Fr a _ _ ((94, .agg #[Iv x54.1, Iv x54.2.1]) :: _) := hf
          replace hS := (hS.callX1 hS1 (i := 0) rfl (fun _ h => h)).eqM (N := [pt b30 (Cs #[Iv x54.2.2] 56), pt b41 (Cs #[Iv x45.1, Iv x45.2.1] 23), pt b18 (Cs #[Iv x14, Iv x15] 23), pt b19 (Cs #[Iv 0, Iv 0, Iv 0, Iv 0, Iv 0, Iv 0] 25), pt b31 (Cs #[Iv x33, Iv x34, Iv x35, Iv x36, Iv x37, Iv x38] 25)]) rfl
          clear hS1
          exact O.nil ⟨rfl, (), hf.to trivial, (fun d hd => by cases (show some 94 = some d from hd); exact hf.get _ _ rfl), (fun j hj hk => match j, hj, hk with | 0, hj, hk => rfl | 1, hj, hk => rfl | 2, hj, hk => rfl | 3, hj, hk => rfl | 4, hj, hk => rfl | 5, hj, hk => rfl | 6, hj, hk => rfl | 7, hj, hk => rfl | 8, hj, hk => rfl | 9, hj, hk => rfl | 10, hj, hk => rfl | 11, hj, hk => absurd rfl hj | 12, hj, hk => absurd hk (by decide) | 13, hj, hk => absurd hk (by decide) | _ + 14, _, _ => rfl), (Or.inr (Or.inl ⟨rfl, h13_, hS⟩))⟩
         ·exact absurd (hs0.symm.trans h11_) (by decide)
         ·exact absurd (hs0.symm.trans h11_) (by decide)
        ·intro s g w hs0 hsp hsb hD a hf
         rcases hD with (⟨h11_, h13_, hD⟩ | ⟨h11_, h13_, hD⟩ | ⟨h11_, h13_, hD⟩)
         ·exact absurd ((hsp 11 (by simp)).symm.trans h11_) (by decide)
         ·have hS : St w0 w noX [] [pt b30 (Cs #[Iv x54.2.2] 56), pt b41 (Cs #[Iv x45.1, Iv x45.2.1] 23), pt b18 (Cs #[Iv x14, Iv x15] 23), pt b19 (Cs #[Iv 0, Iv 0, Iv 0, Iv 0, Iv 0, Iv 0] 25), pt b31 (Cs #[Iv x33, Iv x34, Iv x35, Iv x36, Iv x37, Iv x38] 25)] := hD; clear hD
          replace hf : Fr a 107 [] [(83, Iv 0), (84, Pv b30 0), (85, Iv 0), (86, Pv b31 0), (87, .agg #[Iv x33, Iv x34]), (88, Pv b41 1), (89, Iv x45.2.1), (90, Iv (IntKind.i64.wrap (0 - x45.2.1))), (91, Pv b41 1), (92, Iv x45.2.1), (93, .agg #[Iv (IntKind.i64.wrap (0 - x45.2.1)), Iv x45.2.1]), (94, .agg #[Iv x54.1, Iv x54.2.1]), (95, Pv b31 0), (8, Pv b19 0), (9, Iv 0), (10, Pv b30 0), (11, Pv b31 0), (13, Pv b41 0), (14, Iv 0), (79, Iv 0), (80, Bv true)] := hf
          refine O.store (j := 4) (cs' := #[Iv x54.1, Iv x54.2.1, Iv x35, Iv x36, Iv x37, Iv x38]) (M' := [pt b30 (Cs #[Iv x54.2.2] 56), pt b41 (Cs #[Iv x45.1, Iv x45.2.1] 23), pt b18 (Cs #[Iv x14, Iv x15] 23), pt b19 (Cs #[Iv 0, Iv 0, Iv 0, Iv 0, Iv 0, Iv 0] 25), pt b31 (Cs #[Iv x54.1, Iv x54.2.1, Iv x35, Iv x36, Iv x37, Iv x38] 25)]) hf hS rfl rfl rfl T_size_23 rfl rfl rfl (Nat.le_of_ble_eq_true rfl) rfl rfl ?_
          clear hS; intro w hS
          exact O.nil ⟨rfl, (), hf.to trivial, (fun d hd => by cases (show none = some d from hd)), (fun j hj hk => match j, hj, hk with | 0, hj, hk => rfl | 1, hj, hk => rfl | 2, hj, hk => rfl | 3, hj, hk => rfl | 4, hj, hk => rfl | 5, hj, hk => rfl | 6, hj, hk => rfl | 7, hj, hk => rfl | 8, hj, hk => rfl | 9, hj, hk => rfl | 10, hj, hk => rfl | 11, hj, hk => rfl | 12, hj, hk => rfl | 13, hj, hk => absurd rfl hj | _ + 14, _, _ => rfl), (Or.inr (Or.inr ⟨h11_, rfl, hS⟩))⟩
         ·exact absurd (hs0.symm.trans h13_) (by decide)
       clear hf hf1 hS; intro s g a w hs hf hD
       rcases hD with (⟨h11_, h13_, hD⟩ | ⟨h11_, h13_, hD⟩ | ⟨h11_, h13_, hD⟩)
       · exact absurd ((hs 11 (by simp)).symm.trans h11_) (by decide)
       · exact absurd ((hs 13 (by simp)).symm.trans h13_) (by decide)
       have hS : St w0 w noX [] [pt b30 (Cs #[Iv x54.2.2] 56), pt b41 (Cs #[Iv x45.1, Iv x45.2.1] 23), pt b18 (Cs #[Iv x14, Iv x15] 23), pt b19 (Cs #[Iv 0, Iv 0, Iv 0, Iv 0, Iv 0, Iv 0] 25), pt b31 (Cs #[Iv x54.1, Iv x54.2.1, Iv x35, Iv x36, Iv x37, Iv x38] 25)] := hD; clear hD
       replace hf : Fr a 107 [] [(83, Iv 0), (84, Pv b30 0), (85, Iv 0), (86, Pv b31 0), (87, .agg #[Iv x33, Iv x34]), (88, Pv b41 1), (89, Iv x45.2.1), (90, Iv (IntKind.i64.wrap (0 - x45.2.1))), (91, Pv b41 1), (92, Iv x45.2.1), (93, .agg #[Iv (IntKind.i64.wrap (0 - x45.2.1)), Iv x45.2.1]), (94, .agg #[Iv x54.1, Iv x54.2.1]), (95, Pv b31 0), (8, Pv b19 0), (9, Iv 0), (10, Pv b30 0), (11, Pv b31 0), (13, Pv b41 0), (14, Iv 0), (79, Iv 0), (80, Bv true)] := hf
       refine k_blk_normal ?_
       refine k_seq ?_
       obtain ⟨x55, hx55, hm⟩ := hm_b hm
       rw [Option.some.inj hx55] at hf
       -- region 20
       refine W.regionL (l := [0, 1, 2]) rfl ?_
       refine O.val hf rfl rfl rfl (RunV.move rfl) ?_; clear hf a; intro a hf
       refine O.val (v := Iv 1) hf rfl rfl rfl (RunV.add (p := 0) (q := 1) rfl rfl) ?_; clear hf a; intro a hf
       refine O.val hf rfl rfl rfl (RunV.assign rfl) ?_; clear hf a; intro a hf
       refine O.nil ?_
       refine k_then (LH.step ?_)
       refine W.seq ?_
       refine W.seq ?_
       -- region 19
       refine W.regionL (l := [0, 1]) rfl ?_
       refine O.val hf rfl rfl rfl (RunV.move rfl) ?_; clear hf a; intro a hf
       refine O.val (v := Bv true) hf rfl rfl rfl (RunV.lss (p := 1) (q := 3) rfl rfl) ?_; clear hf a; intro a hf
       refine O.nil ?_
       refine k_seq ?_
       refine W.if_tt hf rfl ?_
       refine W.skip ?_
       refine k_seq ?_
       refine W.seq ?_
       refine W.block ?_
       -- region 21, which draws its order
       -- [11, 13] turn memory
       have hf1 : Fr a 107 [] [(83, Iv 0), (84, Pv b30 0), (85, Iv 0), (86, Pv b31 0), (87, .agg #[Iv x33, Iv x34]), (88, Pv b41 1), (89, Iv x45.2.1), (90, Iv x55), (91, Pv b41 1), (92, Iv x45.2.1), (93, .agg #[Iv x55, Iv x45.2.1]), (94, .agg #[Iv x54.1, Iv x54.2.1]), (95, Pv b31 0)] := hf.to ⟨rfl, rfl, rfl, rfl, rfl, rfl, rfl, rfl, rfl, rfl, rfl, rfl, rfl, trivial⟩
       replace hf : Fr a 107 [] [(8, Pv b19 0), (9, Iv 0), (10, Pv b30 0), (11, Pv b31 0), (13, Pv b41 0), (14, Iv 1), (79, Iv 1), (80, Bv true), (81, Iv 0), (82, Iv 1)] := hf.to ⟨rfl, rfl, rfl, rfl, rfl, rfl, rfl, rfl, rfl, rfl, trivial⟩
       obtain ⟨x56, hx56, hm⟩ := hm_b hm
       refine W.drawP (γ := Unit) (L0 := [(8, Pv b19 0), (9, Iv 0), (10, Pv b30 0), (11, Pv b31 0), (13, Pv b41 0), (14, Iv 1), (79, Iv 1), (80, Bv true), (81, Iv 0), (82, Iv 1)]) (L1 := [(83, Iv 0), (84, Pv b30 0), (85, Iv 0), (86, Pv b31 0), (87, .agg #[Iv x33, Iv x34]), (88, Pv b41 1), (89, Iv x45.2.1), (90, Iv x55), (91, Pv b41 1), (92, Iv x45.2.1), (93, .agg #[Iv x55, Iv x45.2.1]), (94, .agg #[Iv x54.1, Iv x54.2.1]), (95, Pv b31 0)]) () [11, 13] [0, 1, 2, 3, 4, 5, 6, 7, 8, 9, 10, 12] (fun i => match i with | 0 => [] | 1 => [] | 2 => [] | 3 => [2] | 4 => [3] | 5 => [] | 6 => [5] | 7 => [6] | 8 => [] | 9 => [8] | 10 => [7, 9] | 11 => [1, 4, 10] | 12 => [0, 1, 2, 3, 4, 5, 6, 7, 8, 9, 10, 11] | 13 => [0, 1, 2, 3, 4, 5, 6, 7, 8, 9, 10, 11, 12] | _ => []) (fun i => match i with | 12 => [11] | 13 => [11] | _ => []) (fun i => match i with | 0 => [13] | 1 => [11, 13] | 2 => [11, 13] | 3 => [11, 13] | 4 => [11, 13] | 5 => [11, 13] | 6 => [11, 13] | 7 => [11, 13] | 8 => [11, 13] | 9 => [11, 13] | 10 => [11, 13] | 11 => [13] | 12 => [13] | _ => []) (fun i => match i with | 11 => [12, 13] | 13 => [] | _ => []) (fun _ => []) (fun (g : Unit) j => match g, j with | _, 0 => Iv 1 | _, 1 => Pv b30 0 | _, 2 => Iv 1 | _, 3 => Pv b31 2 | _, 4 => .agg #[Iv x35, Iv x36] | _, 5 => Pv b41 1 | _, 6 => Iv x45.2.1 | _, 7 => Iv (IntKind.i64.wrap (0 - x45.2.1)) | _, 8 => Pv b41 1 | _, 9 => Iv x45.2.1 | _, 10 => .agg #[Iv (IntKind.i64.wrap (0 - x45.2.1)), Iv x45.2.1] | _, 11 => .agg #[Iv x56.1, Iv x56.2.1] | _, 12 => Pv b31 2 | _, _ => undef) (fun s (g : Unit) w => match g with | _ => (s 11 = false ∧ s 13 = false ∧ St w0 w noX [] [pt b30 (Cs #[Iv x54.2.2] 56), pt b41 (Cs #[Iv x45.1, Iv x45.2.1] 23), pt b18 (Cs #[Iv x14, Iv x15] 23), pt b19 (Cs #[Iv 0, Iv 0, Iv 0, Iv 0, Iv 0, Iv 0] 25), pt b31 (Cs #[Iv x54.1, Iv x54.2.1, Iv x35, Iv x36, Iv x37, Iv x38] 25)]) ∨ (s 11 = true ∧ s 13 = false ∧ St w0 w noX [] [pt b30 (Cs #[Iv x56.2.2] 56), pt b41 (Cs #[Iv x45.1, Iv x45.2.1] 23), pt b18 (Cs #[Iv x14, Iv x15] 23), pt b19 (Cs #[Iv 0, Iv 0, Iv 0, Iv 0, Iv 0, Iv 0] 25), pt b31 (Cs #[Iv x54.1, Iv x54.2.1, Iv x35, Iv x36, Iv x37, Iv x38] 25)]) ∨ (s 11 = true ∧ s 13 = true ∧ St w0 w noX [] [pt b30 (Cs #[Iv x56.2.2] 56), pt b41 (Cs #[Iv x45.1, Iv x45.2.1] 23), pt b18 (Cs #[Iv x14, Iv x15] 23), pt b19 (Cs #[Iv 0, Iv 0, Iv 0, Iv 0, Iv 0, Iv 0] 25), pt b31 (Cs #[Iv x54.1, Iv x54.2.1, Iv x56.1, Iv x56.2.1, Iv x37, Iv x38] 25)])) P_mixed (by kernel_rfl) hf hf1 (Or.inl ⟨rfl, rfl, hS.drew⟩) ?_ ?_ ?_
       ·clear hf hf1 hS
        refine ⟨?_, ?_, ?_, ?_, ?_, ?_, ?_, ?_, ?_, ?_, ?_, ?_, trivial⟩
        ·intro s g w hsp hsb hD a hf
         rcases hD with (⟨h11_, h13_, hD⟩ | ⟨h11_, h13_, hD⟩ | ⟨h11_, h13_, hD⟩)
         ·have hS : St w0 w noX [] [pt b30 (Cs #[Iv x54.2.2] 56), pt b41 (Cs #[Iv x45.1, Iv x45.2.1] 23), pt b18 (Cs #[Iv x14, Iv x15] 23), pt b19 (Cs #[Iv 0, Iv 0, Iv 0, Iv 0, Iv 0, Iv 0] 25), pt b31 (Cs #[Iv x54.1, Iv x54.2.1, Iv x35, Iv x36, Iv x37, Iv x38] 25)] := hD; clear hD
          replace hf : Fr a 107 [] [(8, Pv b19 0), (9, Iv 0), (10, Pv b30 0), (11, Pv b31 0), (13, Pv b41 0), (14, Iv 1), (79, Iv 1), (80, Bv true), (81, Iv 0), (82, Iv 1)] := hf
          refine O.val hf rfl rfl rfl (RunV.move rfl) ?_; clear hf a; intro a hf
          exact O.nil ⟨rfl, hf.to trivial, (fun d hd => by cases (show some 83 = some d from hd); exact hf.get _ _ rfl), (Or.inl ⟨h11_, h13_, hS⟩)⟩
         ·have hS : St w0 w noX [] [pt b30 (Cs #[Iv x56.2.2] 56), pt b41 (Cs #[Iv x45.1, Iv x45.2.1] 23), pt b18 (Cs #[Iv x14, Iv x15] 23), pt b19 (Cs #[Iv 0, Iv 0, Iv 0, Iv 0, Iv 0, Iv 0] 25), pt b31 (Cs #[Iv x54.1, Iv x54.2.1, Iv x35, Iv x36, Iv x37, Iv x38] 25)] := hD; clear hD
          replace hf : Fr a 107 [] [(8, Pv b19 0), (9, Iv 0), (10, Pv b30 0), (11, Pv b31 0), (13, Pv b41 0), (14, Iv 1), (79, Iv 1), (80, Bv true), (81, Iv 0), (82, Iv 1)] := hf
          refine O.val hf rfl rfl rfl (RunV.move rfl) ?_; clear hf a; intro a hf
          exact O.nil ⟨rfl, hf.to trivial, (fun d hd => by cases (show some 83 = some d from hd); exact hf.get _ _ rfl), (Or.inr (Or.inl ⟨h11_, h13_, hS⟩))⟩
         ·exact absurd ((hsb 13 (by simp)).symm.trans h13_) (by decide)
        ·intro s g w hsp hsb hD a hf
         rcases hD with (⟨h11_, h13_, hD⟩ | ⟨h11_, h13_, hD⟩ | ⟨h11_, h13_, hD⟩)
         ·have hS : St w0 w noX [] [pt b30 (Cs #[Iv x54.2.2] 56), pt b41 (Cs #[Iv x45.1, Iv x45.2.1] 23), pt b18 (Cs #[Iv x14, Iv x15] 23), pt b19 (Cs #[Iv 0, Iv 0, Iv 0, Iv 0, Iv 0, Iv 0] 25), pt b31 (Cs #[Iv x54.1, Iv x54.2.1, Iv x35, Iv x36, Iv x37, Iv x38] 25)] := hD; clear hD
          replace hf : Fr a 107 [] [(8, Pv b19 0), (9, Iv 0), (10, Pv b30 0), (11, Pv b31 0), (13, Pv b41 0), (14, Iv 1), (79, Iv 1), (80, Bv true), (81, Iv 0), (82, Iv 1)] := hf
          refine O.val hf rfl rfl rfl (RunV.move rfl) ?_; clear hf a; intro a hf
          exact O.nil ⟨rfl, hf.to trivial, (fun d hd => by cases (show some 84 = some d from hd); exact hf.get _ _ rfl), (Or.inl ⟨h11_, h13_, hS⟩)⟩
         ·exact absurd ((hsb 11 (by simp)).symm.trans h11_) (by decide)
         ·exact absurd ((hsb 11 (by simp)).symm.trans h11_) (by decide)
        ·intro s g w hsp hsb hD a hf
         rcases hD with (⟨h11_, h13_, hD⟩ | ⟨h11_, h13_, hD⟩ | ⟨h11_, h13_, hD⟩)
         ·have hS : St w0 w noX [] [pt b30 (Cs #[Iv x54.2.2] 56), pt b41 (Cs #[Iv x45.1, Iv x45.2.1] 23), pt b18 (Cs #[Iv x14, Iv x15] 23), pt b19 (Cs #[Iv 0, Iv 0, Iv 0, Iv 0, Iv 0, Iv 0] 25), pt b31 (Cs #[Iv x54.1, Iv x54.2.1, Iv x35, Iv x36, Iv x37, Iv x38] 25)] := hD; clear hD
          replace hf : Fr a 107 [] [(8, Pv b19 0), (9, Iv 0), (10, Pv b30 0), (11, Pv b31 0), (13, Pv b41 0), (14, Iv 1), (79, Iv 1), (80, Bv true), (81, Iv 0), (82, Iv 1)] := hf
          refine O.val hf rfl rfl rfl (RunV.move rfl) ?_; clear hf a; intro a hf
          exact O.nil ⟨rfl, hf.to trivial, (fun d hd => by cases (show some 85 = some d from hd); exact hf.get _ _ rfl), (Or.inl ⟨h11_, h13_, hS⟩)⟩
         ·exact absurd ((hsb 11 (by simp)).symm.trans h11_) (by decide)
         ·exact absurd ((hsb 11 (by simp)).symm.trans h11_) (by decide)
        ·intro s g w hsp hsb hD a hf
         rcases hD with (⟨h11_, h13_, hD⟩ | ⟨h11_, h13_, hD⟩ | ⟨h11_, h13_, hD⟩)
         ·have hS : St w0 w noX [] [pt b30 (Cs #[Iv x54.2.2] 56), pt b41 (Cs #[Iv x45.1, Iv x45.2.1] 23), pt b18 (Cs #[Iv x14, Iv x15] 23), pt b19 (Cs #[Iv 0, Iv 0, Iv 0, Iv 0, Iv 0, Iv 0] 25), pt b31 (Cs #[Iv x54.1, Iv x54.2.1, Iv x35, Iv x36, Iv x37, Iv x38] 25)] := hD; clear hD
          replace hf : Fr a 107 [] [(85, Iv 1), (8, Pv b19 0), (9, Iv 0), (10, Pv b30 0), (11, Pv b31 0), (13, Pv b41 0), (14, Iv 1), (79, Iv 1), (80, Bv true), (81, Iv 0), (82, Iv 1)] := hf
          refine O.val hf rfl rfl rfl (RunV.indexArr (j := 1) (m := 2) T_arr_25 T_size_23 rfl rfl rfl (by decide) rfl) ?_; clear hf a; intro a hf
          exact O.nil ⟨rfl, hf.to trivial, (fun d hd => by cases (show some 86 = some d from hd); exact hf.get _ _ rfl), (Or.inl ⟨h11_, h13_, hS⟩)⟩
         ·exact absurd ((hsb 11 (by simp)).symm.trans h11_) (by decide)
         ·exact absurd ((hsb 11 (by simp)).symm.trans h11_) (by decide)
        ·intro s g w hsp hsb hD a hf
         rcases hD with (⟨h11_, h13_, hD⟩ | ⟨h11_, h13_, hD⟩ | ⟨h11_, h13_, hD⟩)
         ·have hS : St w0 w noX [] [pt b30 (Cs #[Iv x54.2.2] 56), pt b41 (Cs #[Iv x45.1, Iv x45.2.1] 23), pt b18 (Cs #[Iv x14, Iv x15] 23), pt b19 (Cs #[Iv 0, Iv 0, Iv 0, Iv 0, Iv 0, Iv 0] 25), pt b31 (Cs #[Iv x54.1, Iv x54.2.1, Iv x35, Iv x36, Iv x37, Iv x38] 25)] := hD; clear hD
          replace hf : Fr a 107 [] [(86, Pv b31 2), (8, Pv b19 0), (9, Iv 0), (10, Pv b30 0), (11, Pv b31 0), (13, Pv b41 0), (14, Iv 1), (79, Iv 1), (80, Bv true), (81, Iv 0), (82, Iv 1)] := hf
          refine O.val hf rfl rfl rfl (RunV.loadN (cs' := #[Iv x35, Iv x36]) T_agg_23 T_size_23 rfl (hS.ptAt (i := 4) rfl) (Nat.le_of_ble_eq_true rfl) rfl) ?_; clear hf a; intro a hf
          exact O.nil ⟨rfl, hf.to trivial, (fun d hd => by cases (show some 87 = some d from hd); exact hf.get _ _ rfl), (Or.inl ⟨h11_, h13_, hS⟩)⟩
         ·exact absurd ((hsb 11 (by simp)).symm.trans h11_) (by decide)
         ·exact absurd ((hsb 11 (by simp)).symm.trans h11_) (by decide)
        ·intro s g w hsp hsb hD a hf
         rcases hD with (⟨h11_, h13_, hD⟩ | ⟨h11_, h13_, hD⟩ | ⟨h11_, h13_, hD⟩)
         ·have hS : St w0 w noX [] [pt b30 (Cs #[Iv x54.2.2] 56), pt b41 (Cs #[Iv x45.1, Iv x45.2.1] 23), pt b18 (Cs #[Iv x14, Iv x15] 23), pt b19 (Cs #[Iv 0, Iv 0, Iv 0, Iv 0, Iv 0, Iv 0] 25), pt b31 (Cs #[Iv x54.1, Iv x54.2.1, Iv x35, Iv x36, Iv x37, Iv x38] 25)] := hD; clear hD
          replace hf : Fr a 107 [] [(8, Pv b19 0), (9, Iv 0), (10, Pv b30 0), (11, Pv b31 0), (13, Pv b41 0), (14, Iv 1), (79, Iv 1), (80, Bv true), (81, Iv 0), (82, Iv 1)] := hf
          refine O.val hf rfl rfl rfl (RunV.field T_field_23_1 rfl rfl) ?_; clear hf a; intro a hf
          exact O.nil ⟨rfl, hf.to trivial, (fun d hd => by cases (show some 88 = some d from hd); exact hf.get _ _ rfl), (Or.inl ⟨h11_, h13_, hS⟩)⟩
         ·exact absurd ((hsb 11 (by simp)).symm.trans h11_) (by decide)
         ·exact absurd ((hsb 11 (by simp)).symm.trans h11_) (by decide)
        ·intro s g w hsp hsb hD a hf
         rcases hD with (⟨h11_, h13_, hD⟩ | ⟨h11_, h13_, hD⟩ | ⟨h11_, h13_, hD⟩)
         ·have hS : St w0 w noX [] [pt b30 (Cs #[Iv x54.2.2] 56), pt b41 (Cs #[Iv x45.1, Iv x45.2.1] 23), pt b18 (Cs #[Iv x14, Iv x15] 23), pt b19 (Cs #[Iv 0, Iv 0, Iv 0, Iv 0, Iv 0, Iv 0] 25), pt b31 (Cs #[Iv x54.1, Iv x54.2.1, Iv x35, Iv x36, Iv x37, Iv x38] 25)] := hD; clear hD
          replace hf : Fr a 107 [] [(88, Pv b41 1), (8, Pv b19 0), (9, Iv 0), (10, Pv b30 0), (11, Pv b31 0), (13, Pv b41 0), (14, Iv 1), (79, Iv 1), (80, Bv true), (81, Iv 0), (82, Iv 1)] := hf
          refine O.val hf rfl rfl rfl (RunV.load1 T_agg_2 rfl (hS.ptAt (i := 1) rfl) rfl) ?_; clear hf a; intro a hf
          exact O.nil ⟨rfl, hf.to trivial, (fun d hd => by cases (show some 89 = some d from hd); exact hf.get _ _ rfl), (Or.inl ⟨h11_, h13_, hS⟩)⟩
         ·exact absurd ((hsb 11 (by simp)).symm.trans h11_) (by decide)
         ·exact absurd ((hsb 11 (by simp)).symm.trans h11_) (by decide)
        ·intro s g w hsp hsb hD a hf
         rcases hD with (⟨h11_, h13_, hD⟩ | ⟨h11_, h13_, hD⟩ | ⟨h11_, h13_, hD⟩)
         ·have hS : St w0 w noX [] [pt b30 (Cs #[Iv x54.2.2] 56), pt b41 (Cs #[Iv x45.1, Iv x45.2.1] 23), pt b18 (Cs #[Iv x14, Iv x15] 23), pt b19 (Cs #[Iv 0, Iv 0, Iv 0, Iv 0, Iv 0, Iv 0] 25), pt b31 (Cs #[Iv x54.1, Iv x54.2.1, Iv x35, Iv x36, Iv x37, Iv x38] 25)] := hD; clear hD
          replace hf : Fr a 107 [] [(89, Iv x45.2.1), (8, Pv b19 0), (9, Iv 0), (10, Pv b30 0), (11, Pv b31 0), (13, Pv b41 0), (14, Iv 1), (79, Iv 1), (80, Bv true), (81, Iv 0), (82, Iv 1)] := hf
          refine O.val (v := Iv (IntKind.i64.wrap (0 - x45.2.1))) hf rfl rfl rfl (RunV.neg rfl) ?_; clear hf a; intro a hf
          exact O.nil ⟨rfl, hf.to trivial, (fun d hd => by cases (show some 90 = some d from hd); exact hf.get _ _ rfl), (Or.inl ⟨h11_, h13_, hS⟩)⟩
         ·exact absurd ((hsb 11 (by simp)).symm.trans h11_) (by decide)
         ·exact absurd ((hsb 11 (by simp)).symm.trans h11_) (by decide)
        ·intro s g w hsp hsb hD a hf
         rcases hD with (⟨h11_, h13_, hD⟩ | ⟨h11_, h13_, hD⟩ | ⟨h11_, h13_, hD⟩)
         ·have hS : St w0 w noX [] [pt b30 (Cs #[Iv x54.2.2] 56), pt b41 (Cs #[Iv x45.1, Iv x45.2.1] 23), pt b18 (Cs #[Iv x14, Iv x15] 23), pt b19 (Cs #[Iv 0, Iv 0, Iv 0, Iv 0, Iv 0, Iv 0] 25), pt b31 (Cs #[Iv x54.1, Iv x54.2.1, Iv x35, Iv x36, Iv x37, Iv x38] 25)] := hD; clear hD
          replace hf : Fr a 107 [] [(8, Pv b19 0), (9, Iv 0), (10, Pv b30 0), (11, Pv b31 0), (13, Pv b41 0), (14, Iv 1), (79, Iv 1), (80, Bv true), (81, Iv 0), (82, Iv 1)] := hf
          refine O.val hf rfl rfl rfl (RunV.field T_field_23_1 rfl rfl) ?_; clear hf a; intro a hf
          exact O.nil ⟨rfl, hf.to trivial, (fun d hd => by cases (show some 91 = some d from hd); exact hf.get _ _ rfl), (Or.inl ⟨h11_, h13_, hS⟩)⟩
         ·exact absurd ((hsb 11 (by simp)).symm.trans h11_) (by decide)
         ·exact absurd ((hsb 11 (by simp)).symm.trans h11_) (by decide)
        ·intro s g w hsp hsb hD a hf
         rcases hD with (⟨h11_, h13_, hD⟩ | ⟨h11_, h13_, hD⟩ | ⟨h11_, h13_, hD⟩)
         ·have hS : St w0 w noX [] [pt b30 (Cs #[Iv x54.2.2] 56), pt b41 (Cs #[Iv x45.1, Iv x45.2.1] 23), pt b18 (Cs #[Iv x14, Iv x15] 23), pt b19 (Cs #[Iv 0, Iv 0, Iv 0, Iv 0, Iv 0, Iv 0] 25), pt b31 (Cs #[Iv x54.1, Iv x54.2.1, Iv x35, Iv x36, Iv x37, Iv x38] 25)] := hD; clear hD
          replace hf : Fr a 107 [] [(91, Pv b41 1), (8, Pv b19 0), (9, Iv 0), (10, Pv b30 0), (11, Pv b31 0), (13, Pv b41 0), (14, Iv 1), (79, Iv 1), (80, Bv true), (81, Iv 0), (82, Iv 1)] := hf
          refine O.val hf rfl rfl rfl (RunV.load1 T_agg_2 rfl (hS.ptAt (i := 1) rfl) rfl) ?_; clear hf a; intro a hf
          exact O.nil ⟨rfl, hf.to trivial, (fun d hd => by cases (show some 92 = some d from hd); exact hf.get _ _ rfl), (Or.inl ⟨h11_, h13_, hS⟩)⟩
         ·exact absurd ((hsb 11 (by simp)).symm.trans h11_) (by decide)
         ·exact absurd ((hsb 11 (by simp)).symm.trans h11_) (by decide)
        ·intro s g w hsp hsb hD a hf
         rcases hD with (⟨h11_, h13_, hD⟩ | ⟨h11_, h13_, hD⟩ | ⟨h11_, h13_, hD⟩)
         ·have hS : St w0 w noX [] [pt b30 (Cs #[Iv x54.2.2] 56), pt b41 (Cs #[Iv x45.1, Iv x45.2.1] 23), pt b18 (Cs #[Iv x14, Iv x15] 23), pt b19 (Cs #[Iv 0, Iv 0, Iv 0, Iv 0, Iv 0, Iv 0] 25), pt b31 (Cs #[Iv x54.1, Iv x54.2.1, Iv x35, Iv x36, Iv x37, Iv x38] 25)] := hD; clear hD
          replace hf : Fr a 107 [] [(90, Iv (IntKind.i64.wrap (0 - x45.2.1))), (92, Iv x45.2.1), (8, Pv b19 0), (9, Iv 0), (10, Pv b30 0), (11, Pv b31 0), (13, Pv b41 0), (14, Iv 1), (79, Iv 1), (80, Bv true), (81, Iv 0), (82, Iv 1)] := hf
          refine O.val (v := .agg #[Iv (IntKind.i64.wrap (0 - x45.2.1)), Iv x45.2.1]) hf rfl rfl rfl (RunV.buildS (cs' := #[Iv (IntKind.i64.wrap (0 - x45.2.1)), Iv x45.2.1]) T_places_23 T_zero_23 rfl (by kernel_rfl)) ?_; clear hf a; intro a hf
          exact O.nil ⟨rfl, hf.to trivial, (fun d hd => by cases (show some 93 = some d from hd); exact hf.get _ _ rfl), (Or.inl ⟨h11_, h13_, hS⟩)⟩
         ·exact absurd ((hsb 11 (by simp)).symm.trans h11_) (by decide)
         ·exact absurd ((hsb 11 (by simp)).symm.trans h11_) (by decide)
        ·intro s g w hsp hsb hD a hf
         rcases hD with (⟨h11_, h13_, hD⟩ | ⟨h11_, h13_, hD⟩ | ⟨h11_, h13_, hD⟩)
         ·exact absurd ((hsp 11 (by simp)).symm.trans h11_) (by decide)
         ·have hS : St w0 w noX [] [pt b30 (Cs #[Iv x56.2.2] 56), pt b41 (Cs #[Iv x45.1, Iv x45.2.1] 23), pt b18 (Cs #[Iv x14, Iv x15] 23), pt b19 (Cs #[Iv 0, Iv 0, Iv 0, Iv 0, Iv 0, Iv 0] 25), pt b31 (Cs #[Iv x54.1, Iv x54.2.1, Iv x35, Iv x36, Iv x37, Iv x38] 25)] := hD; clear hD
          replace hf : Fr a 107 [] [(83, Iv 1), (84, Pv b30 0), (85, Iv 1), (86, Pv b31 2), (87, .agg #[Iv x35, Iv x36]), (88, Pv b41 1), (89, Iv x45.2.1), (90, Iv (IntKind.i64.wrap (0 - x45.2.1))), (91, Pv b41 1), (92, Iv x45.2.1), (93, .agg #[Iv (IntKind.i64.wrap (0 - x45.2.1)), Iv x45.2.1]), (94, .agg #[Iv x56.1, Iv x56.2.1]), (8, Pv b19 0), (9, Iv 0), (10, Pv b30 0), (11, Pv b31 0), (13, Pv b41 0), (14, Iv 1), (79, Iv 1), (80, Bv true), (81, Iv 0), (82, Iv 1)] := hf
          refine O.val hf rfl rfl rfl (RunV.indexArr (j := 1) (m := 2) T_arr_25 T_size_23 rfl rfl rfl (by decide) rfl) ?_; clear hf a; intro a hf
          exact O.nil ⟨rfl, hf.to trivial, (fun d hd => by cases (show some 95 = some d from hd); exact hf.get _ _ rfl), (Or.inr (Or.inl ⟨h11_, h13_, hS⟩))⟩
         ·exact absurd ((hsb 13 (by simp)).symm.trans h13_) (by decide)
       ·clear hf hf1 hS
        refine ⟨?_, ?_, trivial⟩
        ·intro s g w hs0 hsp hsb hD a hf
         rcases hD with (⟨h11_, h13_, hD⟩ | ⟨h11_, h13_, hD⟩ | ⟨h11_, h13_, hD⟩)
         ·have hS : St w0 w noX [] [pt b30 (Cs #[Iv x54.2.2] 56), pt b41 (Cs #[Iv x45.1, Iv x45.2.1] 23), pt b18 (Cs #[Iv x14, Iv x15] 23), pt b19 (Cs #[Iv 0, Iv 0, Iv 0, Iv 0, Iv 0, Iv 0] 25), pt b31 (Cs #[Iv x54.1, Iv x54.2.1, Iv x35, Iv x36, Iv x37, Iv x38] 25)] := hD; clear hD
          replace hf : Fr a 107 [] [(84, Pv b30 0), (87, .agg #[Iv x35, Iv x36]), (93, .agg #[Iv (IntKind.i64.wrap (0 - x45.2.1)), Iv x45.2.1]), (8, Pv b19 0), (9, Iv 0), (10, Pv b30 0), (11, Pv b31 0), (13, Pv b41 0), (14, Iv 1), (79, Iv 1), (80, Bv true), (81, Iv 0), (82, Iv 1)] := hf
          refine O.callR hf rfl rfl rfl (RunE.call (av := #[Pv b30 0, .agg #[Iv x35, Iv x36], .agg #[Iv (IntKind.i64.wrap (0 - x45.2.1)), Iv x45.2.1]]) C_ok_18 rfl rfl rfl) (m_ref17_Calc_Add_ok F b30 x54.2.2 x35 x36 (IntKind.i64.wrap (0 - x45.2.1)) x45.2.1 _ (hS.ptAt (i := 0) rfl) x56 hx56) ?_
          clear hf a; rintro _ w hS1 a hf
          replace hf : Fr a _ _ ((94, .agg #[Iv x56.1, Iv x56.2.1]) :: _) := hf
          replace hS := (hS.callX1 hS1 (i := 0) rfl (fun _ h => h)).eqM (N := [pt b30 (Cs #[Iv x56.2.2] 56), pt b41 (Cs #[Iv x45.1, Iv x45.2.1] 23), pt b18 (Cs #[Iv x14, Iv x15] 23), pt b19 (Cs #[Iv 0, Iv 0, Iv 0, Iv 0, Iv 0, Iv 0] 25), pt b31 (Cs #[Iv x54.1, Iv x54.2.1, Iv x35, Iv x36, Iv x37, Iv x38] 25)]) rfl
          clear hS1
          exact O.nil ⟨rfl, (), hf.to trivial, (fun d hd => by cases (show some 94 = some d from hd); exact hf.get _ _ rfl), (fun j hj hk => match j, hj, hk with | 0, hj, hk => rfl | 1, hj, hk => rfl | 2, hj, hk => rfl | 3, hj, hk => rfl | 4, hj, hk => rfl | 5, hj, hk => rfl | 6, hj, hk => rfl | 7, hj, hk => rfl | 8, hj, hk => rfl | 9, hj, hk => rfl | 10, hj, hk => rfl | 11, hj, hk => absurd rfl hj | 12, hj, hk => absurd hk (by decide) | 13, hj, hk => absurd hk (by decide) | _ + 14, _, _ => rfl), (Or.inr (Or.inl ⟨rfl, h13_, hS⟩))⟩
         ·exact absurd (hs0.symm.trans h11_) (by decide)
         ·exact absurd (hs0.symm.trans h11_) (by decide)
        ·intro s g w hs0 hsp hsb hD a hf
         rcases hD with (⟨h11_, h13_, hD⟩ | ⟨h11_, h13_, hD⟩ | ⟨h11_, h13_, hD⟩)
         ·exact absurd ((hsp 11 (by simp)).symm.trans h11_) (by decide)
         ·have hS : St w0 w noX [] [pt b30 (Cs #[Iv x56.2.2] 56), pt b41 (Cs #[Iv x45.1, Iv x45.2.1] 23), pt b18 (Cs #[Iv x14, Iv x15] 23), pt b19 (Cs #[Iv 0, Iv 0, Iv 0, Iv 0, Iv 0, Iv 0] 25), pt b31 (Cs #[Iv x54.1, Iv x54.2.1, Iv x35, Iv x36, Iv x37, Iv x38] 25)] := hD; clear hD
          replace hf : Fr a 107 [] [(83, Iv 1), (84, Pv b30 0), (85, Iv 1), (86, Pv b31 2), (87, .agg #[Iv x35, Iv x36]), (88, Pv b41 1), (89, Iv x45.2.1), (90, Iv (IntKind.i64.wrap (0 - x45.2.1))), (91, Pv b41 1), (92, Iv x45.2.1), (93, .agg #[Iv (IntKind.i64.wrap (0 - x45.2.1)), Iv x45.2.1]), (94, .agg #[Iv x56.1, Iv x56.2.1]), (95, Pv b31 2), (8, Pv b19 0), (9, Iv 0), (10, Pv b30 0), (11, Pv b31 0), (13, Pv b41 0), (14, Iv 1), (79, Iv 1), (80, Bv true), (81, Iv 0), (82, Iv 1)] := hf
          refine O.store (j := 4) (cs' := #[Iv x54.1, Iv x54.2.1, Iv x56.1, Iv x56.2.1, Iv x37, Iv x38]) (M' := [pt b30 (Cs #[Iv x56.2.2] 56), pt b41 (Cs #[Iv x45.1, Iv x45.2.1] 23), pt b18 (Cs #[Iv x14, Iv x15] 23), pt b19 (Cs #[Iv 0, Iv 0, Iv 0, Iv 0, Iv 0, Iv 0] 25), pt b31 (Cs #[Iv x54.1, Iv x54.2.1, Iv x56.1, Iv x56.2.1, Iv x37, Iv x38] 25)]) hf hS rfl rfl rfl T_size_23 rfl rfl rfl (Nat.le_of_ble_eq_true rfl) rfl rfl ?_
          clear hS; intro w hS
          exact O.nil ⟨rfl, (), hf.to trivial, (fun d hd => by cases (show none = some d from hd)), (fun j hj hk => match j, hj, hk with | 0, hj, hk => rfl | 1, hj, hk => rfl | 2, hj, hk => rfl | 3, hj, hk => rfl | 4, hj, hk => rfl | 5, hj, hk => rfl | 6, hj, hk => rfl | 7, hj, hk => rfl | 8, hj, hk => rfl | 9, hj, hk => rfl | 10, hj, hk => rfl | 11, hj, hk => rfl | 12, hj, hk => rfl | 13, hj, hk => absurd rfl hj | _ + 14, _, _ => rfl), (Or.inr (Or.inr ⟨h11_, rfl, hS⟩))⟩
         ·exact absurd (hs0.symm.trans h13_) (by decide)
       clear hf hf1 hS; intro s g a w hs hf hD
       rcases hD with (⟨h11_, h13_, hD⟩ | ⟨h11_, h13_, hD⟩ | ⟨h11_, h13_, hD⟩)
       · exact absurd ((hs 11 (by simp)).symm.trans h11_) (by decide)
       · exact absurd ((hs 13 (by simp)).symm.trans h13_) (by decide)
       have hS : St w0 w noX [] [pt b30 (Cs #[Iv x56.2.2] 56), pt b41 (Cs #[Iv x45.1, Iv x45.2.1] 23), pt b18 (Cs #[Iv x14, Iv x15] 23), pt b19 (Cs #[Iv 0, Iv 0, Iv 0, Iv 0, Iv 0, Iv 0] 25), pt b31 (Cs #[Iv x54.1, Iv x54.2.1, Iv x56.1, Iv x56.2.1, Iv x37, Iv x38] 25)] := hD; clear hD
       replace hf : Fr a 107 [] [(83, Iv 1), (84, Pv b30 0), (85, Iv 1), (86, Pv b31 2), (87, .agg #[Iv x35, Iv x36]), (88, Pv b41 1), (89, Iv x45.2.1), (90, Iv (IntKind.i64.wrap (0 - x45.2.1))), (91, Pv b41 1), (92, Iv x45.2.1), (93, .agg #[Iv (IntKind.i64.wrap (0 - x45.2.1)), Iv x45.2.1]), (94, .agg #[Iv x56.1, Iv x56.2.1]), (95, Pv b31 2), (8, Pv b19 0), (9, Iv 0), (10, Pv b30 0), (11, Pv b31 0), (13, Pv b41 0), (14, Iv 1), (79, Iv 1), (80, Bv true), (81, Iv 0), (82, Iv 1)] := hf
       refine k_blk_normal ?_
       refine k_seq ?_
       obtain ⟨x57, hx57, hm⟩ := hm_b hm
       rw [Option.some.inj hx57] at hf
       -- region 20
       refine W.regionL (l := [0, 1, 2]) rfl ?_
       refine O.val hf rfl rfl rfl (RunV.move rfl) ?_; clear hf a; intro a hf
       refine O.val (v := Iv 2) hf rfl rfl rfl (RunV.add (p := 1) (q := 1) rfl rfl) ?_; clear hf a; intro a hf
       refine O.val hf rfl rfl rfl (RunV.assign rfl) ?_; clear hf a; intro a hf
       refine O.nil ?_
       refine k_then (LH.step ?_)
       refine W.seq ?_
       refine W.seq ?_
       -- region 19
       refine W.regionL (l := [0, 1]) rfl ?_
       refine O.val hf rfl rfl rfl (RunV.move rfl) ?_; clear hf a; intro a hf
       refine O.val (v := Bv true) hf rfl rfl rfl (RunV.lss (p := 2) (q := 3) rfl rfl) ?_; clear hf a; intro a hf
       refine O.nil ?_
       refine k_seq ?_
       refine W.if_tt hf rfl ?_
       refine W.skip ?_
       refine k_seq ?_
       refine W.seq ?_
       refine W.block ?_
       -- region 21, which draws its order
       -- [11, 13] turn memory
       have hf1 : Fr a 107 [] [(83, Iv 1), (84, Pv b30 0), (85, Iv 1), (86, Pv b31 2), (87, .agg #[Iv x35, Iv x36]), (88, Pv b41 1), (89, Iv x45.2.1), (90, Iv x57), (91, Pv b41 1), (92, Iv x45.2.1), (93, .agg #[Iv x57, Iv x45.2.1]), (94, .agg #[Iv x56.1, Iv x56.2.1]), (95, Pv b31 2)] := hf.to ⟨rfl, rfl, rfl, rfl, rfl, rfl, rfl, rfl, rfl, rfl, rfl, rfl, rfl, trivial⟩
       replace hf : Fr a 107 [] [(8, Pv b19 0), (9, Iv 0), (10, Pv b30 0), (11, Pv b31 0), (13, Pv b41 0), (14, Iv 2), (79, Iv 2), (80, Bv true), (81, Iv 1), (82, Iv 2)] := hf.to ⟨rfl, rfl, rfl, rfl, rfl, rfl, rfl, rfl, rfl, rfl, trivial⟩
       obtain ⟨x58, hx58, hm⟩ := hm_b hm
       refine W.drawP (γ := Unit) (L0 := [(8, Pv b19 0), (9, Iv 0), (10, Pv b30 0), (11, Pv b31 0), (13, Pv b41 0), (14, Iv 2), (79, Iv 2), (80, Bv true), (81, Iv 1), (82, Iv 2)]) (L1 := [(83, Iv 1), (84, Pv b30 0), (85, Iv 1), (86, Pv b31 2), (87, .agg #[Iv x35, Iv x36]), (88, Pv b41 1), (89, Iv x45.2.1), (90, Iv x57), (91, Pv b41 1), (92, Iv x45.2.1), (93, .agg #[Iv x57, Iv x45.2.1]), (94, .agg #[Iv x56.1, Iv x56.2.1]), (95, Pv b31 2)]) () [11, 13] [0, 1, 2, 3, 4, 5, 6, 7, 8, 9, 10, 12] (fun i => match i with | 0 => [] | 1 => [] | 2 => [] | 3 => [2] | 4 => [3] | 5 => [] | 6 => [5] | 7 => [6] | 8 => [] | 9 => [8] | 10 => [7, 9] | 11 => [1, 4, 10] | 12 => [0, 1, 2, 3, 4, 5, 6, 7, 8, 9, 10, 11] | 13 => [0, 1, 2, 3, 4, 5, 6, 7, 8, 9, 10, 11, 12] | _ => []) (fun i => match i with | 12 => [11] | 13 => [11] | _ => []) (fun i => match i with | 0 => [13] | 1 => [11, 13] | 2 => [11, 13] | 3 => [11, 13] | 4 => [11, 13] | 5 => [11, 13] | 6 => [11, 13] | 7 => [11, 13] | 8 => [11, 13] | 9 => [11, 13] | 10 => [11, 13] | 11 => [13] | 12 => [13] | _ => []) (fun i => match i with | 11 => [12, 13] | 13 => [] | _ => []) (fun _ => []) (fun (g : Unit) j => match g, j with | _, 0 => Iv 2 | _, 1 => Pv b30 0 | _, 2 => Iv 2 | _, 3 => Pv b31 4 | _, 4 => .agg #[Iv x37, Iv x38] | _, 5 => Pv b41 1 | _, 6 => Iv x45.2.1 | _, 7 => Iv (IntKind.i64.wrap (0 - x45.2.1)) | _, 8 => Pv b41 1 | _, 9 => Iv x45.2.1 | _, 10 => .agg #[Iv (IntKind.i64.wrap (0 - x45.2.1)), Iv x45.2.1] | _, 11 => .agg #[Iv x58.1, Iv x58.2.1] | _, 12 => Pv b31 4 | _, _ => undef) (fun s (g : Unit) w => match g with | _ => (s 11 = false ∧ s 13 = false ∧ St w0 w noX [] [pt b30 (Cs #[Iv x56.2.2] 56), pt b41 (Cs #[Iv x45.1, Iv x45.2.1] 23), pt b18 (Cs #[Iv x14, Iv x15] 23), pt b19 (Cs #[Iv 0, Iv 0, Iv 0, Iv 0, Iv 0, Iv 0] 25), pt b31 (Cs #[Iv x54.1, Iv x54.2.1, Iv x56.1, Iv x56.2.1, Iv x37, Iv x38] 25)]) ∨ (s 11 = true ∧ s 13 = false ∧ St w0 w noX [] [pt b30 (Cs #[Iv x58.2.2] 56), pt b41 (Cs #[Iv x45.1, Iv x45.2.1] 23), pt b18 (Cs #[Iv x14, Iv x15] 23), pt b19 (Cs #[Iv 0, Iv 0, Iv 0, Iv 0, Iv 0, Iv 0] 25), pt b31 (Cs #[Iv x54.1, Iv x54.2.1, Iv x56.1, Iv x56.2.1, Iv x37, Iv x38] 25)]) ∨ (s 11 = true ∧ s 13 = true ∧ St w0 w noX [] [pt b30 (Cs #[Iv x58.2.2] 56), pt b41 (Cs #[Iv x45.1, Iv x45.2.1] 23), pt b18 (Cs #[Iv x14, Iv x15] 23), pt b19 (Cs #[Iv 0, Iv 0, Iv 0, Iv 0, Iv 0, Iv 0] 25), pt b31 (Cs #[Iv x54.1, Iv x54.2.1, Iv x56.1, Iv x56.2.1, Iv x58.1, Iv x58.2.1] 25)])) P_mixed (by kernel_rfl) hf hf1 (Or.inl ⟨rfl, rfl, hS.drew⟩) ?_ ?_ ?_
       ·clear hf hf1 hS
        refine ⟨?_, ?_, ?_, ?_, ?_, ?_, ?_, ?_, ?_, ?_, ?_, ?_, trivial⟩
        ·intro s g w hsp hsb hD a hf
         rcases hD with (⟨h11_, h13_, hD⟩ | ⟨h11_, h13_, hD⟩ | ⟨h11_, h13_, hD⟩)
         ·have hS : St w0 w noX [] [pt b30 (Cs #[Iv x56.2.2] 56), pt b41 (Cs #[Iv x45.1, Iv x45.2.1] 23), pt b18 (Cs #[Iv x14, Iv x15] 23), pt b19 (Cs #[Iv 0, Iv 0, Iv 0, Iv 0, Iv 0, Iv 0] 25), pt b31 (Cs #[Iv x54.1, Iv x54.2.1, Iv x56.1, Iv x56.2.1, Iv x37, Iv x38] 25)] := hD; clear hD
          replace hf : Fr a 107 [] [(8, Pv b19 0), (9, Iv 0), (10, Pv b30 0), (11, Pv b31 0), (13, Pv b41 0), (14, Iv 2), (79, Iv 2), (80, Bv true), (81, Iv 1), (82, Iv 2)] := hf
          refine O.val hf rfl rfl rfl (RunV.move rfl) ?_; clear hf a; intro a hf
          exact O.nil ⟨rfl, hf.to trivial, (fun d hd => by cases (show some 83 = some d from hd); exact hf.get _ _ rfl), (Or.inl ⟨h11_, h13_, hS⟩)⟩
         ·have hS : St w0 w noX [] [pt b30 (Cs #[Iv x58.2.2] 56), pt b41 (Cs #[Iv x45.1, Iv x45.2.1] 23), pt b18 (Cs #[Iv x14, Iv x15] 23), pt b19 (Cs #[Iv 0, Iv 0, Iv 0, Iv 0, Iv 0, Iv 0] 25), pt b31 (Cs #[Iv x54.1, Iv x54.2.1, Iv x56.1, Iv x56.2.1, Iv x37, Iv x38] 25)] := hD; clear hD
          replace hf : Fr a 107 [] [(8, Pv b19 0), (9, Iv 0), (10, Pv b30 0), (11, Pv b31 0), (13, Pv b41 0), (14, Iv 2), (79, Iv 2), (80, Bv true), (81, Iv 1), (82, Iv 2)] := hf
          refine O.val hf rfl rfl rfl (RunV.move rfl) ?_; clear hf a; intro a hf
          exact O.nil ⟨rfl, hf.to trivial, (fun d hd => by cases (show some 83 = some d from hd); exact hf.get _ _ rfl), (Or.inr (Or.inl ⟨h11_, h13_, hS⟩))⟩
         ·exact absurd ((hsb 13 (by simp)).symm.trans h13_) (by decide)
        ·intro s g w hsp hsb hD a hf
         rcases hD with (⟨h11_, h13_, hD⟩ | ⟨h11_, h13_, hD⟩ | ⟨h11_, h13_, hD⟩)
         ·have hS : St w0 w noX [] [pt b30 (Cs #[Iv x56.2.2] 56), pt b41 (Cs #[Iv x45.1, Iv x45.2.1] 23), pt b18 (Cs #[Iv x14, Iv x15] 23), pt b19 (Cs #[Iv 0, Iv 0, Iv 0, Iv 0, Iv 0, Iv 0] 25), pt b31 (Cs #[Iv x54.1, Iv x54.2.1, Iv x56.1, Iv x56.2.1, Iv x37, Iv x38] 25)] := hD; clear hD
          replace hf : Fr a 107 [] [(8, Pv b19 0), (9, Iv 0), (10, Pv b30 0), (11, Pv b31 0), (13, Pv b41 0), (14, Iv 2), (79, Iv 2), (80, Bv true), (81, Iv 1), (82, Iv 2)] := hf
          refine O.val hf rfl rfl rfl (RunV.move rfl) ?_; clear hf a; intro a hf
          exact O.nil ⟨rfl, hf.to trivial, (fun d hd => by cases (show some 84 = some d from hd); exact hf.get _ _ rfl), (Or.inl ⟨h11_, h13_, hS⟩)⟩
         ·exact absurd ((hsb 11 (by simp)).symm.trans h11_) (by decide)
         ·exact absurd ((hsb 11 (by simp)).symm.trans h11_) (by decide)
        ·intro s g w hsp hsb hD a hf
         rcases hD with (⟨h11_, h13_, hD⟩ | ⟨h11_, h13_, hD⟩ | ⟨h11_, h13_, hD⟩)
         ·have hS : St w0 w noX [] [pt b30 (Cs #[Iv x56.2.2] 56), pt b41 (Cs #[Iv x45.1, Iv x45.2.1] 23), pt b18 (Cs #[Iv x14, Iv x15] 23), pt b19 (Cs #[Iv 0, Iv 0, Iv 0, Iv 0, Iv 0, Iv 0] 25), pt b31 (Cs #[Iv x54.1, Iv x54.2.1, Iv x56.1, Iv x56.2.1, Iv x37, Iv x38] 25)] := hD; clear hD
          replace hf : Fr a 107 [] [(8, Pv b19 0), (9, Iv 0), (10, Pv b30 0), (11, Pv b31 0), (13, Pv b41 0), (14, Iv 2), (79, Iv 2), (80, Bv true), (81, Iv 1), (82, Iv 2)] := hf
          refine O.val hf rfl rfl rfl (RunV.move rfl) ?_; clear hf a; intro a hf
          exact O.nil ⟨rfl, hf.to trivial, (fun d hd => by cases (show some 85 = some d from hd); exact hf.get _ _ rfl), (Or.inl ⟨h11_, h13_, hS⟩)⟩
         ·exact absurd ((hsb 11 (by simp)).symm.trans h11_) (by decide)
         ·exact absurd ((hsb 11 (by simp)).symm.trans h11_) (by decide)
        ·intro s g w hsp hsb hD a hf
         rcases hD with (⟨h11_, h13_, hD⟩ | ⟨h11_, h13_, hD⟩ | ⟨h11_, h13_, hD⟩)
         ·have hS : St w0 w noX [] [pt b30 (Cs #[Iv x56.2.2] 56), pt b41 (Cs #[Iv x45.1, Iv x45.2.1] 23), pt b18 (Cs #[Iv x14, Iv x15] 23), pt b19 (Cs #[Iv 0, Iv 0, Iv 0, Iv 0, Iv 0, Iv 0] 25), pt b31 (Cs #[Iv x54.1, Iv x54.2.1, Iv x56.1, Iv x56.2.1, Iv x37, Iv x38] 25)] := hD; clear hD
          replace hf : Fr a 107 [] [(85, Iv 2), (8, Pv b19 0), (9, Iv 0), (10, Pv b30 0), (11, Pv b31 0), (13, Pv b41 0), (14, Iv 2), (79, Iv 2), (80, Bv true), (81, Iv 1), (82, Iv 2)] := hf
          refine O.val hf rfl rfl rfl (RunV.indexArr (j := 2) (m := 4) T_arr_25 T_size_23 rfl rfl rfl (by decide) rfl) ?_; clear hf a; intro a hf
          exact O.nil ⟨rfl, hf.to trivial, (fun d hd => by cases (show some 86 = some d from hd); exact hf.get _ _ rfl), (Or.inl ⟨h11_, h13_, hS⟩)⟩
         ·exact absurd ((hsb 11 (by simp)).symm.trans h11_) (by decide)
         ·exact absurd ((hsb 11 (by simp)).symm.trans h11_) (by decide)
        ·intro s g w hsp hsb hD a hf
         rcases hD with (⟨h11_, h13_, hD⟩ | ⟨h11_, h13_, hD⟩ | ⟨h11_, h13_, hD⟩)
         ·have hS : St w0 w noX [] [pt b30 (Cs #[Iv x56.2.2] 56), pt b41 (Cs #[Iv x45.1, Iv x45.2.1] 23), pt b18 (Cs #[Iv x14, Iv x15] 23), pt b19 (Cs #[Iv 0, Iv 0, Iv 0, Iv 0, Iv 0, Iv 0] 25), pt b31 (Cs #[Iv x54.1, Iv x54.2.1, Iv x56.1, Iv x56.2.1, Iv x37, Iv x38] 25)] := hD; clear hD
          replace hf : Fr a 107 [] [(86, Pv b31 4), (8, Pv b19 0), (9, Iv 0), (10, Pv b30 0), (11, Pv b31 0), (13, Pv b41 0), (14, Iv 2), (79, Iv 2), (80, Bv true), (81, Iv 1), (82, Iv 2)] := hf
          refine O.val hf rfl rfl rfl (RunV.loadN (cs' := #[Iv x37, Iv x38]) T_agg_23 T_size_23 rfl (hS.ptAt (i := 4) rfl) (Nat.le_of_ble_eq_true rfl) rfl) ?_; clear hf a; intro a hf
          exact O.nil ⟨rfl, hf.to trivial, (fun d hd => by cases (show some 87 = some d from hd); exact hf.get _ _ rfl), (Or.inl ⟨h11_, h13_, hS⟩)⟩
         ·exact absurd ((hsb 11 (by simp)).symm.trans h11_) (by decide)
         ·exact absurd ((hsb 11 (by simp)).symm.trans h11_) (by decide)
        ·intro s g w hsp hsb hD a hf
         rcases hD with (⟨h11_, h13_, hD⟩ | ⟨h11_, h13_, hD⟩ | ⟨h11_, h13_, hD⟩)
         ·have hS : St w0 w noX [] [pt b30 (Cs #[Iv x56.2.2] 56), pt b41 (Cs #[Iv x45.1, Iv x45.2.1] 23), pt b18 (Cs #[Iv x14, Iv x15] 23), pt b19 (Cs #[Iv 0, Iv 0, Iv 0, Iv 0, Iv 0, Iv 0] 25), pt b31 (Cs #[Iv x54.1, Iv x54.2.1, Iv x56.1, Iv x56.2.1, Iv x37, Iv x38] 25)] := hD; clear hD
          replace hf : Fr a 107 [] [(8, Pv b19 0), (9, Iv 0), (10, Pv b30 0), (11, Pv b31 0), (13, Pv b41 0), (14, Iv 2), (79, Iv 2), (80, Bv true), (81, Iv 1), (82, Iv 2)] := hf
          refine O.val hf rfl rfl rfl (RunV.field T_field_23_1 rfl rfl) ?_; clear hf a; intro a hf
          exact O.nil ⟨rfl, hf.to trivial, (fun d hd => by cases (show some 88 = some d from hd); exact hf.get _ _ rfl), (Or.inl ⟨h11_, h13_, hS⟩)⟩
         ·exact absurd ((hsb 11 (by simp)).symm.trans h11_) (by decide)
         ·exact absurd ((hsb 11 (by simp)).symm.trans h11_) (by decide)
        ·intro s g w hsp hsb hD a hf
         rcases hD with (⟨h11_, h13_, hD⟩ | ⟨h11_, h13_, hD⟩ | ⟨h11_, h13_, hD⟩)
         ·have hS : St w0 w noX [] [pt b30 (Cs #[Iv x56.2.2] 56), pt b41 (Cs #[Iv x45.1, Iv x45.2.1] 23), pt b18 (Cs #[Iv x14, Iv x15] 23), pt b19 (Cs #[Iv 0, Iv 0, Iv 0, Iv 0, Iv 0, Iv 0] 25), pt b31 (Cs #[Iv x54.1, Iv x54.2.1, Iv x56.1, Iv x56.2.1, Iv x37, Iv x38] 25)] := hD; clear hD
          replace hf : Fr a 107 [] [(88, Pv b41 1), (8, Pv b19 0), (9, Iv 0), (10, Pv b30 0), (11, Pv b31 0), (13, Pv b41 0), (14, Iv 2), (79, Iv 2), (80, Bv true), (81, Iv 1), (82, Iv 2)] := hf
          refine O.val hf rfl rfl rfl (RunV.load1 T_agg_2 rfl (hS.ptAt (i := 1) rfl) rfl) ?_; clear hf a; intro a hf
          exact O.nil ⟨rfl, hf.to trivial, (fun d hd => by cases (show some 89 = some d from hd); exact hf.get _ _ rfl), (Or.inl ⟨h11_, h13_, hS⟩)⟩
         ·exact absurd ((hsb 11 (by simp)).symm.trans h11_) (by decide)
         ·exact absurd ((hsb 11 (by simp)).symm.trans h11_) (by decide)
        ·intro s g w hsp hsb hD a hf
         rcases hD with (⟨h11_, h13_, hD⟩ | ⟨h11_, h13_, hD⟩ | ⟨h11_, h13_, hD⟩)
         ·have hS : St w0 w noX [] [pt b30 (Cs #[Iv x56.2.2] 56), pt b41 (Cs #[Iv x45.1, Iv x45.2.1] 23), pt b18 (Cs #[Iv x14, Iv x15] 23), pt b19 (Cs #[Iv 0, Iv 0, Iv 0, Iv 0, Iv 0, Iv 0] 25), pt b31 (Cs #[Iv x54.1, Iv x54.2.1, Iv x56.1, Iv x56.2.1, Iv x37, Iv x38] 25)] := hD; clear hD
          replace hf : Fr a 107 [] [(89, Iv x45.2.1), (8, Pv b19 0), (9, Iv 0), (10, Pv b30 0), (11, Pv b31 0), (13, Pv b41 0), (14, Iv 2), (79, Iv 2), (80, Bv true), (81, Iv 1), (82, Iv 2)] := hf
          refine O.val (v := Iv (IntKind.i64.wrap (0 - x45.2.1))) hf rfl rfl rfl (RunV.neg rfl) ?_; clear hf a; intro a hf
          exact O.nil ⟨rfl, hf.to trivial, (fun d hd => by cases (show some 90 = some d from hd); exact hf.get _ _ rfl), (Or.inl ⟨h11_, h13_, hS⟩)⟩
         ·exact absurd ((hsb 11 (by simp)).symm.trans h11_) (by decide)
         ·exact absurd ((hsb 11 (by simp)).symm.trans h11_) (by decide)
        ·intro s g w hsp hsb hD a hf
         rcases hD with (⟨h11_, h13_, hD⟩ | ⟨h11_, h13_, hD⟩ | ⟨h11_, h13_, hD⟩)
         ·have hS : St w0 w noX [] [pt b30 (Cs #[Iv x56.2.2] 56), pt b41 (Cs #[Iv x45.1, Iv x45.2.1] 23), pt b18 (Cs #[Iv x14, Iv x15] 23), pt b19 (Cs #[Iv 0, Iv 0, Iv 0, Iv 0, Iv 0, Iv 0] 25), pt b31 (Cs #[Iv x54.1, Iv x54.2.1, Iv x56.1, Iv x56.2.1, Iv x37, Iv x38] 25)] := hD; clear hD
          replace hf : Fr a 107 [] [(8, Pv b19 0), (9, Iv 0), (10, Pv b30 0), (11, Pv b31 0), (13, Pv b41 0), (14, Iv 2), (79, Iv 2), (80, Bv true), (81, Iv 1), (82, Iv 2)] := hf
          refine O.val hf rfl rfl rfl (RunV.field T_field_23_1 rfl rfl) ?_; clear hf a; intro a hf
          exact O.nil ⟨rfl, hf.to trivial, (fun d hd => by cases (show some 91 = some d from hd); exact hf.get _ _ rfl), (Or.inl ⟨h11_, h13_, hS⟩)⟩
         ·exact absurd ((hsb 11 (by simp)).symm.trans h11_) (by decide)
         ·exact absurd ((hsb 11 (by simp)).symm.trans h11_) (by decide)
        ·intro s g w hsp hsb hD a hf
         rcases hD with (⟨h11_, h13_, hD⟩ | ⟨h11_, h13_, hD⟩ | ⟨h11_, h13_, hD⟩)
         ·have hS : St w0 w noX [] [pt b30 (Cs #[Iv x56.2.2] 56), pt b41 (Cs #[Iv x45.1, Iv x45.2.1] 23), pt b18 (Cs #[Iv x14, Iv x15] 23), pt b19 (Cs #[Iv 0, Iv 0, Iv 0, Iv 0, Iv 0, Iv 0] 25), pt b31 (Cs #[Iv x54.1, Iv x54.2.1, Iv x56.1, Iv x56.2.1, Iv x37, Iv x38] 25)] := hD; clear hD
          replace hf : Fr a 107 [] [(91, Pv b41 1), (8, Pv b19 0), (9, Iv 0), (10, Pv b30 0), (11, Pv b31 0), (13, Pv b41 0), (14, Iv 2), (79, Iv 2), (80, Bv true), (81, Iv 1), (82, Iv 2)] := hf
          refine O.val hf rfl rfl rfl (RunV.load1 T_agg_2 rfl (hS.ptAt (i := 1) rfl) rfl) ?_; clear hf a; intro a hf
          exact O.nil ⟨rfl, hf.to trivial, (fun d hd => by cases (show some 92 = some d from hd); exact hf.get _ _ rfl), (Or.inl ⟨h11_, h13_, hS⟩)⟩
         ·exact absurd ((hsb 11 (by simp)).symm.trans h11_) (by decide)
         ·exact absurd ((hsb 11 (by simp)).symm.trans h11_) (by decide)
        ·intro s g w hsp hsb hD a hf
         rcases hD with (⟨h11_, h13_, hD⟩ | ⟨h11_, h13_, hD⟩ | ⟨h11_, h13_, hD⟩)
         ·have hS : St w0 w noX [] [pt b30 (Cs #[Iv x56.2.2] 56), pt b41 (Cs #[Iv x45.1, Iv x45.2.1] 23), pt b18 (Cs #[Iv x14, Iv x15] 23), pt b19 (Cs #[Iv 0, Iv 0, Iv 0, Iv 0, Iv 0, Iv 0] 25), pt b31 (Cs #[Iv x54.1, Iv x54.2.1, Iv x56.1, Iv x56.2.1, Iv x37, Iv x38] 25)] := hD; clear hD
          replace hf : Fr a 107 [] [(90, Iv (IntKind.i64.wrap (0 - x45.2.1))), (92, Iv x45.2.1), (8, Pv b19 0), (9, Iv 0), (10, Pv b30 0), (11, Pv b31 0), (13, Pv b41 0), (14, Iv 2), (79, Iv 2), (80, Bv true), (81, Iv 1), (82, Iv 2)] := hf
          refine O.val (v := .agg #[Iv (IntKind.i64.wrap (0 - x45.2.1)), Iv x45.2.1]) hf rfl rfl rfl (RunV.buildS (cs' := #[Iv (IntKind.i64.wrap (0 - x45.2.1)), Iv x45.2.1]) T_places_23 T_zero_23 rfl (by kernel_rfl)) ?_; clear hf a; intro a hf
          exact O.nil ⟨rfl, hf.to trivial, (fun d hd => by cases (show some 93 = some d from hd); exact hf.get _ _ rfl), (Or.inl ⟨h11_, h13_, hS⟩)⟩
         ·exact absurd ((hsb 11 (by simp)).symm.trans h11_) (by decide)
         ·exact absurd ((hsb 11 (by simp)).symm.trans h11_) (by decide)
        ·intro s g w hsp hsb hD a hf
         rcases hD with (⟨h11_, h13_, hD⟩ | ⟨h11_, h13_, hD⟩ | ⟨h11_, h13_, hD⟩)
         ·exact absurd ((hsp 11 (by simp)).symm.trans h11_) (by decide)
         ·have hS : St w0 w noX [] [pt b30 (Cs #[Iv x58.2.2] 56), pt b41 (Cs #[Iv x45.1, Iv x45.2.1] 23), pt b18 (Cs #[Iv x14, Iv x15] 23), pt b19 (Cs #[Iv 0, Iv 0, Iv 0, Iv 0, Iv 0, Iv 0] 25), pt b31 (Cs #[Iv x54.1, Iv x54.2.1, Iv x56.1, Iv x56.2.1, Iv x37, Iv x38] 25)] := hD; clear hD
          replace hf : Fr a 107 [] [(83, Iv 2), (84, Pv b30 0), (85, Iv 2), (86, Pv b31 4), (87, .agg #[Iv x37, Iv x38]), (88, Pv b41 1), (89, Iv x45.2.1), (90, Iv (IntKind.i64.wrap (0 - x45.2.1))), (91, Pv b41 1), (92, Iv x45.2.1), (93, .agg #[Iv (IntKind.i64.wrap (0 - x45.2.1)), Iv x45.2.1]), (94, .agg #[Iv x58.1, Iv x58.2.1]), (8, Pv b19 0), (9, Iv 0), (10, Pv b30 0), (11, Pv b31 0), (13, Pv b41 0), (14, Iv 2), (79, Iv 2), (80, Bv true), (81, Iv 1), (82, Iv 2)] := hf
          refine O.val hf rfl rfl rfl (RunV.indexArr (j := 2) (m := 4) T_arr_25 T_size_23 rfl rfl rfl (by decide) rfl) ?_; clear hf a; intro a hf
          exact O.nil ⟨rfl, hf.to trivial, (fun d hd => by cases (show some 95 = some d from hd); exact hf.get _ _ rfl), (Or.inr (Or.inl ⟨h11_, h13_, hS⟩))⟩
         ·exact absurd ((hsb 13 (by simp)).symm.trans h13_) (by decide)
       ·clear hf hf1 hS
        refine ⟨?_, ?_, trivial⟩
        ·intro s g w hs0 hsp hsb hD a hf
         rcases hD with (⟨h11_, h13_, hD⟩ | ⟨h11_, h13_, hD⟩ | ⟨h11_, h13_, hD⟩)
         ·have hS : St w0 w noX [] [pt b30 (Cs #[Iv x56.2.2] 56), pt b41 (Cs #[Iv x45.1, Iv x45.2.1] 23), pt b18 (Cs #[Iv x14, Iv x15] 23), pt b19 (Cs #[Iv 0, Iv 0, Iv 0, Iv 0, Iv 0, Iv 0] 25), pt b31 (Cs #[Iv x54.1, Iv x54.2.1, Iv x56.1, Iv x56.2.1, Iv x37, Iv x38] 25)] := hD; clear hD
          replace hf : Fr a 107 [] [(84, Pv b30 0), (87, .agg #[Iv x37, Iv x38]), (93, .agg #[Iv (IntKind.i64.wrap (0 - x45.2.1)), Iv x45.2.1]), (8, Pv b19 0), (9, Iv 0), (10, Pv b30 0), (11, Pv b31 0), (13, Pv b41 0), (14, Iv 2), (79, Iv 2), (80, Bv true), (81, Iv 1), (82, Iv 2)] := hf
          refine O.callR hf rfl rfl rfl (RunE.call (av := #[Pv b30 0, .agg #[Iv x37, Iv x38], .agg #[Iv (IntKind.i64.wrap (0 - x45.2.1)), Iv x45.2.1]]) C_ok_18 rfl rfl rfl) (m_ref17_Calc_Add_ok F b30 x56.2.2 x37 x38 (IntKind.i64.wrap (0 - x45.2.1)) x45.2.1 _ (hS.ptAt (i := 0) rfl) x58 hx58) ?_
          clear hf a; rintro _ w hS1 a hf
          replace hf : Fr a _ _ ((94, .agg #[Iv x58.1, Iv x58.2.1]) :: _) := hf
          replace hS := (hS.callX1 hS1 (i := 0) rfl (fun _ h => h)).eqM (N := [pt b30 (Cs #[Iv x58.2.2] 56), pt b41 (Cs #[Iv x45.1, Iv x45.2.1] 23), pt b18 (Cs #[Iv x14, Iv x15] 23), pt b19 (Cs #[Iv 0, Iv 0, Iv 0, Iv 0, Iv 0, Iv 0] 25), pt b31 (Cs #[Iv x54.1, Iv x54.2.1, Iv x56.1, Iv x56.2.1, Iv x37, Iv x38] 25)]) rfl
          clear hS1
          exact O.nil ⟨rfl, (), hf.to trivial, (fun d hd => by cases (show some 94 = some d from hd); exact hf.get _ _ rfl), (fun j hj hk => match j, hj, hk with | 0, hj, hk => rfl | 1, hj, hk => rfl | 2, hj, hk => rfl | 3, hj, hk => rfl | 4, hj, hk => rfl | 5, hj, hk => rfl | 6, hj, hk => rfl | 7, hj, hk => rfl | 8, hj, hk => rfl | 9, hj, hk => rfl | 10, hj, hk => rfl | 11, hj, hk => absurd rfl hj | 12, hj, hk => absurd hk (by decide) | 13, hj, hk => absurd hk (by decide) | _ + 14, _, _ => rfl), (Or.inr (Or.inl ⟨rfl, h13_, hS⟩))⟩
         ·exact absurd (hs0.symm.trans h11_) (by decide)
         ·exact absurd (hs0.symm.trans h11_) (by decide)
        ·intro s g w hs0 hsp hsb hD a hf
         rcases hD with (⟨h11_, h13_, hD⟩ | ⟨h11_, h13_, hD⟩ | ⟨h11_, h13_, hD⟩)
         ·exact absurd ((hsp 11 (by simp)).symm.trans h11_) (by decide)
         ·have hS : St w0 w noX [] [pt b30 (Cs #[Iv x58.2.2] 56), pt b41 (Cs #[Iv x45.1, Iv x45.2.1] 23), pt b18 (Cs #[Iv x14, Iv x15] 23), pt b19 (Cs #[Iv 0, Iv 0, Iv 0, Iv 0, Iv 0, Iv 0] 25), pt b31 (Cs #[Iv x54.1, Iv x54.2.1, Iv x56.1, Iv x56.2.1, Iv x37, Iv x38] 25)] := hD; clear hD
          replace hf : Fr a 107 [] [(83, Iv 2), (84, Pv b30 0), (85, Iv 2), (86, Pv b31 4), (87, .agg #[Iv x37, Iv x38]), (88, Pv b41 1), (89, Iv x45.2.1), (90, Iv (IntKind.i64.wrap (0 - x45.2.1))), (91, Pv b41 1), (92, Iv x45.2.1), (93, .agg #[Iv (IntKind.i64.wrap (0 - x45.2.1)), Iv x45.2.1]), (94, .agg #[Iv x58.1, Iv x58.2.1]), (95, Pv b31 4), (8, Pv b19 0), (9, Iv 0), (10, Pv b30 0), (11, Pv b31 0), (13, Pv b41 0), (14, Iv 2), (79, Iv 2), (80, Bv true), (81, Iv 1), (82, Iv 2)] := hf
          refine O.store (j := 4) (cs' := #[Iv x54.1, Iv x54.2.1, Iv x56.1, Iv x56.2.1, Iv x58.1, Iv x58.2.1]) (M' := [pt b30 (Cs #[Iv x58.2.2] 56), pt b41 (Cs #[Iv x45.1, Iv x45.2.1] 23), pt b18 (Cs #[Iv x14, Iv x15] 23), pt b19 (Cs #[Iv 0, Iv 0, Iv 0, Iv 0, Iv 0, Iv 0] 25), pt b31 (Cs #[Iv x54.1, Iv x54.2.1, Iv x56.1, Iv x56.2.1, Iv x58.1, Iv x58.2.1] 25)]) hf hS rfl rfl rfl T_size_23 rfl rfl rfl (Nat.le_of_ble_eq_true rfl) rfl rfl ?_
          clear hS; intro w hS
          exact O.nil ⟨rfl, (), hf.to trivial, (fun d hd => by cases (show none = some d from hd)), (fun j hj hk => match j, hj, hk with | 0, hj, hk => rfl | 1, hj, hk => rfl | 2, hj, hk => rfl | 3, hj, hk => rfl | 4, hj, hk => rfl | 5, hj, hk => rfl | 6, hj, hk => rfl | 7, hj, hk => rfl | 8, hj, hk => rfl | 9, hj, hk => rfl | 10, hj, hk => rfl | 11, hj, hk => rfl | 12, hj, hk => rfl | 13, hj, hk => absurd rfl hj | _ + 14, _, _ => rfl), (Or.inr (Or.inr ⟨h11_, rfl, hS⟩))⟩
         ·exact absurd (hs0.symm.trans h13_) (by decide)
       clear hf hf1 hS; intro s g a w hs hf hD
       rcases hD with (⟨h11_, h13_, hD⟩ | ⟨h11_, h13_, hD⟩ | ⟨h11_, h13_, hD⟩)
       · exact absurd ((hs 11 (by simp)).symm.trans h11_) (by decide)
       · exact absurd ((hs 13 (by simp)).symm.trans h13_) (by decide)
       have hS : St w0 w noX [] [pt b30 (Cs #[Iv x58.2.2] 56), pt b41 (Cs #[Iv x45.1, Iv x45.2.1] 23), pt b18 (Cs #[Iv x14, Iv x15] 23), pt b19 (Cs #[Iv 0, Iv 0, Iv 0, Iv 0, Iv 0, Iv 0] 25), pt b31 (Cs #[Iv x54.1, Iv x54.2.1, Iv x56.1, Iv x56.2.1, Iv x58.1, Iv x58.2.1] 25)] := hD; clear hD
       replace hf : Fr a 107 [] [(83, Iv 2), (84, Pv b30 0), (85, Iv 2), (86, Pv b31 4), (87, .agg #[Iv x37, Iv x38]), (88, Pv b41 1), (89, Iv x45.2.1), (90, Iv (IntKind.i64.wrap (0 - x45.2.1))), (91, Pv b41 1), (92, Iv x45.2.1), (93, .agg #[Iv (IntKind.i64.wrap (0 - x45.2.1)), Iv x45.2.1]), (94, .agg #[Iv x58.1, Iv x58.2.1]), (95, Pv b31 4), (8, Pv b19 0), (9, Iv 0), (10, Pv b30 0), (11, Pv b31 0), (13, Pv b41 0), (14, Iv 2), (79, Iv 2), (80, Bv true), (81, Iv 1), (82, Iv 2)] := hf
       refine k_blk_normal ?_
       refine k_seq ?_
       obtain ⟨x59, hx59, hm⟩ := hm_b hm
       rw [Option.some.inj hx59] at hf
       -- region 20
       refine W.regionL (l := [0, 1, 2]) rfl ?_
       refine O.val hf rfl rfl rfl (RunV.move rfl) ?_; clear hf a; intro a hf
       refine O.val (v := Iv 3) hf rfl rfl rfl (RunV.add (p := 2) (q := 1) rfl rfl) ?_; clear hf a; intro a hf
       refine O.val hf rfl rfl rfl (RunV.assign rfl) ?_; clear hf a; intro a hf
       refine O.nil ?_
       refine k_then (LH.step ?_)
       refine W.seq ?_
       refine W.seq ?_
       -- region 19
       refine W.regionL (l := [0, 1]) rfl ?_
       refine O.val hf rfl rfl rfl (RunV.move rfl) ?_; clear hf a; intro a hf
       refine O.val (v := Bv false) hf rfl rfl rfl (RunV.lss (p := 3) (q := 3) rfl rfl) ?_; clear hf a; intro a hf
       refine O.nil ?_
       refine k_seq ?_
       refine W.if_ff hf rfl ?_
       refine W.exit ?_
       refine k_then_exit ?_
       refine k_then_exit ?_
       refine k_blk ?_
       replace hS := hS.front (i := 4) (M' := [pt b31 (Cs #[Iv x54.1, Iv x54.2.1, Iv x56.1, Iv x56.2.1, Iv x58.1, Iv x58.2.1] 25), pt b30 (Cs #[Iv x58.2.2] 56), pt b41 (Cs #[Iv x45.1, Iv x45.2.1] 23), pt b18 (Cs #[Iv x14, Iv x15] 23), pt b19 (Cs #[Iv 0, Iv 0, Iv 0, Iv 0, Iv 0, Iv 0] 25)]) rfl rfl
       replace hS := hS.front (i := 1) (M' := [pt b30 (Cs #[Iv x58.2.2] 56), pt b31 (Cs #[Iv x54.1, Iv x54.2.1, Iv x56.1, Iv x56.2.1, Iv x58.1, Iv x58.2.1] 25), pt b41 (Cs #[Iv x45.1, Iv x45.2.1] 23), pt b18 (Cs #[Iv x14, Iv x15] 23), pt b19 (Cs #[Iv 0, Iv 0, Iv 0, Iv 0, Iv 0, Iv 0] 25)]) rfl rfl
       replace hS := hS.front (i := 4) (M' := [pt b19 (Cs #[Iv 0, Iv 0, Iv 0, Iv 0, Iv 0, Iv 0] 25), pt b30 (Cs #[Iv x58.2.2] 56), pt b31 (Cs #[Iv x54.1, Iv x54.2.1, Iv x56.1, Iv x56.2.1, Iv x58.1, Iv x58.2.1] 25), pt b41 (Cs #[Iv x45.1, Iv x45.2.1] 23), pt b18 (Cs #[Iv x14, Iv x15] 23)]) rfl rfl
       replace hS := hS.sub (N := [pt b19 (Cs #[Iv 0, Iv 0, Iv 0, Iv 0, Iv 0, Iv 0] 25), pt b30 (Cs #[Iv x58.2.2] 56), pt b31 (Cs #[Iv x54.1, Iv x54.2.1, Iv x56.1, Iv x56.2.1, Iv x58.1, Iv x58.2.1] 25)]) (.cons_cons _ (.cons_cons _ (.cons_cons _ (.cons _ (.cons _ .slnil)))))
       exact k_then ⟨x58.2.2, x54.1, x54.2.1, x56.1, x56.2.1, x58.1, x58.2.1, hf.to ⟨rfl, rfl, rfl, rfl, trivial⟩, hS, hm⟩
      ·clear hf hS hm a; try clear w
       rintro a w ⟨x46, x47, x48, x49, x50, x51, x52, hf, hS, hm⟩
       unfold m_ref30_Ahead_j1 at hm
       refine W.seq ?_
       refine W.seq ?_
       -- region 22
       refine W.regionL (l := [0, 1, 2, 3, 4]) rfl ?_
       refine O.val hf rfl rfl rfl (RunV.move rfl) ?_; clear hf a; intro a hf
       refine O.val hf rfl rfl rfl (RunV.nilCheck rfl) ?_; clear hf a; intro a hf
       refine O.val hf rfl rfl rfl (RunV.field T_field_56_0 rfl rfl) ?_; clear hf a; intro a hf
       refine O.val hf rfl rfl rfl (RunV.load1 T_agg_3 rfl (hS.ptAt (i := 1) rfl) rfl) ?_; clear hf a; intro a hf
       refine O.val (v := Bv (decide (x46 ≠ (0 : Int)))) hf rfl rfl rfl (RunV.neq rfl rfl) ?_; clear hf a; intro a hf
       refine O.nil ?_
       refine k_seq ?_
       replace hf : Fr a 107 [] [(8, Pv b19 0), (9, Iv 0), (10, Pv b30 0), (11, Pv b31 0), (100, Bv (decide (x46 ≠ (0 : Int))))] := hf.to ⟨rfl, rfl, rfl, rfl, rfl, trivial⟩
       refine W.ifdI hf rfl (fun hc53 => ?_) (fun hc53 => ?_)
       ·replace hm := hm_p hm hc53
        refine W.seq ?_
        -- region 23, which draws its order
        -- [5] turn memory
        have hf1 : Fr a 107 [] [(9, Iv 0)] := hf.to ⟨rfl, trivial⟩
        replace hf : Fr a 107 [] [(8, Pv b19 0), (10, Pv b30 0), (11, Pv b31 0), (100, Bv (decide (x46 ≠ (0 : Int))))] := hf.to ⟨rfl, rfl, rfl, rfl, trivial⟩
        refine W.drawP (γ := Unit) (L0 := [(8, Pv b19 0), (10, Pv b30 0), (11, Pv b31 0), (100, Bv (decide (x46 ≠ (0 : Int))))]) (L1 := [(9, Iv 0)]) () [5] [0, 1, 2, 3, 4, 6] (fun i => match i with | 0 => [] | 1 => [] | 2 => [1] | 3 => [2] | 4 => [3] | 5 => [0] | 6 => [0, 1, 2, 3, 4, 5] | _ => []) (fun i => match i with | 6 => [5] | _ => []) (fun i => match i with | 0 => [5] | _ => []) (fun i => match i with | 5 => [6] | _ => []) (fun _ => []) (fun (g : Unit) j => match g, j with | _, 0 => .agg #[Iv 0, Iv 0, Iv 0, Iv 0, Iv 0, Iv 0] | _, 1 => Pv b30 0 | _, 2 => Pv b30 0 | _, 3 => Pv b30 0 | _, 4 => Iv x46 | _, 6 => Iv x46 | _, _ => undef) (fun s (g : Unit) w => match g with | _ => (s 5 = false ∧ St w0 w noX [] [pt b19 (Cs #[Iv 0, Iv 0, Iv 0, Iv 0, Iv 0, Iv 0] 25), pt b30 (Cs #[Iv x46] 56), pt b31 (Cs #[Iv x47, Iv x48, Iv x49, Iv x50, Iv x51, Iv x52] 25)]) ∨ (s 5 = true ∧ St w0 w noX [] [pt b19 (Cs #[Iv 0, Iv 0, Iv 0, Iv 0, Iv 0, Iv 0] 25), pt b30 (Cs #[Iv x46] 56), pt b31 (Cs #[Iv x47, Iv x48, Iv x49, Iv x50, Iv x51, Iv x52] 25)])) P_mixed (by kernel_rfl) hf hf1 (Or.inl ⟨rfl, hS.drew⟩) ?_ ?_ ?_
        ·clear hf hf1 hS
         refine ⟨?_, ?_, ?_, ?_, ?_, ?_, trivial⟩
         ·intro s g w hsp hsb hD a hf
          rcases hD with (⟨h5_, hD⟩ | ⟨h5_, hD⟩)
          ·have hS : St w0 w noX [] [pt b19 (Cs #[Iv 0, Iv 0, Iv 0, Iv 0, Iv 0, Iv 0] 25), pt b30 (Cs #[Iv x46] 56), pt b31 (Cs #[Iv x47, Iv x48, Iv x49, Iv x50, Iv x51, Iv x52] 25)] := hD; clear hD
           replace hf : Fr a 107 [] [(8, Pv b19 0), (10, Pv b30 0), (11, Pv b31 0), (100, Bv (decide (x46 ≠ (0 : Int))))] := hf
           refine O.val (v := .agg #[Iv 0, Iv 0, Iv 0, Iv 0, Iv 0, Iv 0]) hf rfl rfl rfl (RunV.buildA (cs' := #[Iv 0, Iv 0, Iv 0, Iv 0, Iv 0, Iv 0]) T_arr_25 T_size_23 T_zero_25 rfl (by kernel_rfl)) ?_; clear hf a; intro a hf
           exact O.nil ⟨rfl, hf.to trivial, (fun d hd => by cases (show some 101 = some d from hd); exact hf.get _ _ rfl), (Or.inl ⟨h5_, hS⟩)⟩
          ·exact absurd ((hsb 5 (by simp)).symm.trans h5_) (by decide)
         ·intro s g w hsp hsb hD a hf
          rcases hD with (⟨h5_, hD⟩ | ⟨h5_, hD⟩)
          ·have hS : St w0 w noX [] [pt b19 (Cs #[Iv 0, Iv 0, Iv 0, Iv 0, Iv 0, Iv 0] 25), pt b30 (Cs #[Iv x46] 56), pt b31 (Cs #[Iv x47, Iv x48, Iv x49, Iv x50, Iv x51, Iv x52] 25)] := hD; clear hD
           replace hf : Fr a 107 [] [(8, Pv b19 0), (10, Pv b30 0), (11, Pv b31 0), (100, Bv (decide (x46 ≠ (0 : Int))))] := hf
           refine O.val hf rfl rfl rfl (RunV.move rfl) ?_; clear hf a; intro a hf
           exact O.nil ⟨rfl, hf.to trivial, (fun d hd => by cases (show some 102 = some d from hd); exact hf.get _ _ rfl), (Or.inl ⟨h5_, hS⟩)⟩
          ·have hS : St w0 w noX [] [pt b19 (Cs #[Iv 0, Iv 0, Iv 0, Iv 0, Iv 0, Iv 0] 25), pt b30 (Cs #[Iv x46] 56), pt b31 (Cs #[Iv x47, Iv x48, Iv x49, Iv x50, Iv x51, Iv x52] 25)] := hD; clear hD
           replace hf : Fr a 107 [] [(8, Pv b19 0), (10, Pv b30 0), (11, Pv b31 0), (100, Bv (decide (x46 ≠ (0 : Int))))] := hf
           refine O.val hf rfl rfl rfl (RunV.move rfl) ?_; clear hf a; intro a hf
           exact O.nil ⟨rfl, hf.to trivial, (fun d hd => by cases (show some 102 = some d from hd); exact hf.get _ _ rfl), (Or.inr ⟨h5_, hS⟩)⟩
         ·intro s g w hsp hsb hD a hf
          rcases hD with (⟨h5_, hD⟩ | ⟨h5_, hD⟩)
          ·have hS : St w0 w noX [] [pt b19 (Cs #[Iv 0, Iv 0, Iv 0, Iv 0, Iv 0, Iv 0] 25), pt b30 (Cs #[Iv x46] 56), pt b31 (Cs #[Iv x47, Iv x48, Iv x49, Iv x50, Iv x51, Iv x52] 25)] := hD; clear hD
           replace hf : Fr a 107 [] [(102, Pv b30 0), (8, Pv b19 0), (10, Pv b30 0), (11, Pv b31 0), (100, Bv (decide (x46 ≠ (0 : Int))))] := hf
           refine O.val hf rfl rfl rfl (RunV.nilCheck rfl) ?_; clear hf a; intro a hf
           exact O.nil ⟨rfl, hf.to trivial, (fun d hd => by cases (show some 103 = some d from hd); exact hf.get _ _ rfl), (Or.inl ⟨h5_, hS⟩)⟩
          ·have hS : St w0 w noX [] [pt b19 (Cs #[Iv 0, Iv 0, Iv 0, Iv 0, Iv 0, Iv 0] 25), pt b30 (Cs #[Iv x46] 56), pt b31 (Cs #[Iv x47, Iv x48, Iv x49, Iv x50, Iv x51, Iv x52] 25)] := hD; clear hD
           replace hf : Fr a 107 [] [(102, Pv b30 0), (8, Pv b19 0), (10, Pv b30 0), (11, Pv b31 0), (100, Bv (decide (x46 ≠ (0 : Int))))] := hf
           refine O.val hf rfl rfl rfl (RunV.nilCheck rfl) ?_; clear hf a; intro a hf
           exact O.nil ⟨rfl, hf.to trivial, (fun d hd => by cases (show some 103 = some d from hd); exact hf.get _ _ rfl), (Or.inr ⟨h5_, hS⟩)⟩
         ·intro s g w hsp hsb hD a hf
          rcases hD with (⟨h5_, hD⟩ | ⟨h5_, hD⟩)
          ·have hS : St w0 w noX [] [pt b19 (Cs #[Iv 0, Iv 0, Iv 0, Iv 0, Iv 0, Iv 0] 25), pt b30 (Cs #[Iv x46] 56), pt b31 (Cs #[Iv x47, Iv x48, Iv x49, Iv x50, Iv x51, Iv x52] 25)] := hD; clear hD
           replace hf : Fr a 107 [] [(103, Pv b30 0), (8, Pv b19 0), (10, Pv b30 0), (11, Pv b31 0), (100, Bv (decide (x46 ≠ (0 : Int))))] := hf
           refine O.val hf rfl rfl rfl (RunV.field T_field_56_0 rfl rfl) ?_; clear hf a; intro a hf
           exact O.nil ⟨rfl, hf.to trivial, (fun d hd => by cases (show some 104 = some d from hd); exact hf.get _ _ rfl), (Or.inl ⟨h5_, hS⟩)⟩
          ·have hS : St w0 w noX [] [pt b19 (Cs #[Iv 0, Iv 0, Iv 0, Iv 0, Iv 0, Iv 0] 25), pt b30 (Cs #[Iv x46] 56), pt b31 (Cs #[Iv x47, Iv x48, Iv x49, Iv x50, Iv x51, Iv x52] 25)] := hD; clear hD
           replace hf : Fr a 107 [] [(103, Pv b30 0), (8, Pv b19 0), (10, Pv b30 0), (11, Pv b31 0), (100, Bv (decide (x46 ≠ (0 : Int))))] := hf
           refine O.val hf rfl rfl rfl (RunV.field T_field_56_0 rfl rfl) ?_; clear hf a; intro a hf
           exact O.nil ⟨rfl, hf.to trivial, (fun d hd => by cases (show some 104 = some d from hd); exact hf.get _ _ rfl), (Or.inr ⟨h5_, hS⟩)⟩
         ·intro s g w hsp hsb hD a hf
          rcases hD with (⟨h5_, hD⟩ | ⟨h5_, hD⟩)
          ·have hS : St w0 w noX [] [pt b19 (Cs #[Iv 0, Iv 0, Iv 0, Iv 0, Iv 0, Iv 0] 25), pt b30 (Cs #[Iv x46] 56), pt b31 (Cs #[Iv x47, Iv x48, Iv x49, Iv x50, Iv x51, Iv x52] 25)] := hD; clear hD
           replace hf : Fr a 107 [] [(104, Pv b30 0), (8, Pv b19 0), (10, Pv b30 0), (11, Pv b31 0), (100, Bv (decide (x46 ≠ (0 : Int))))] := hf
           refine O.val hf rfl rfl rfl (RunV.load1 T_agg_3 rfl (hS.ptAt (i := 1) rfl) rfl) ?_; clear hf a; intro a hf
           exact O.nil ⟨rfl, hf.to trivial, (fun d hd => by cases (show some 105 = some d from hd); exact hf.get _ _ rfl), (Or.inl ⟨h5_, hS⟩)⟩
          ·have hS : St w0 w noX [] [pt b19 (Cs #[Iv 0, Iv 0, Iv 0, Iv 0, Iv 0, Iv 0] 25), pt b30 (Cs #[Iv x46] 56), pt b31 (Cs #[Iv x47, Iv x48, Iv x49, Iv x50, Iv x51, Iv x52] 25)] := hD; clear hD
           replace hf : Fr a 107 [] [(104, Pv b30 0), (8, Pv b19 0), (10, Pv b30 0), (11, Pv b31 0), (100, Bv (decide (x46 ≠ (0 : Int))))] := hf
           refine O.val hf rfl rfl rfl (RunV.load1 T_agg_3 rfl (hS.ptAt (i := 1) rfl) rfl) ?_; clear hf a; intro a hf
           exact O.nil ⟨rfl, hf.to trivial, (fun d hd => by cases (show some 105 = some d from hd); exact hf.get _ _ rfl), (Or.inr ⟨h5_, hS⟩)⟩
         ·intro s g w hsp hsb hD a hf
          rcases hD with (⟨h5_, hD⟩ | ⟨h5_, hD⟩)
          ·exact absurd ((hsp 5 (by simp)).symm.trans h5_) (by decide)
          ·have hS : St w0 w noX [] [pt b19 (Cs #[Iv 0, Iv 0, Iv 0, Iv 0, Iv 0, Iv 0] 25), pt b30 (Cs #[Iv x46] 56), pt b31 (Cs #[Iv x47, Iv x48, Iv x49, Iv x50, Iv x51, Iv x52] 25)] := hD; clear hD
           replace hf : Fr a 107 [] [(101, .agg #[Iv 0, Iv 0, Iv 0, Iv 0, Iv 0, Iv 0]), (102, Pv b30 0), (103, Pv b30 0), (104, Pv b30 0), (105, Iv x46), (8, Pv b19 0), (10, Pv b30 0), (11, Pv b31 0), (100, Bv (decide (x46 ≠ (0 : Int))))] := hf
           refine O.val hf rfl rfl rfl (RunV.assign rfl) ?_; clear hf a; intro a hf
           exact O.nil ⟨rfl, hf.to trivial, (fun d hd => by cases (show some 9 = some d from hd); exact hf.get _ _ rfl), (Or.inr ⟨h5_, hS⟩)⟩
        ·clear hf hf1 hS
         refine ⟨?_, trivial⟩
         ·intro s g w hs0 hsp hsb hD a hf
          rcases hD with (⟨h5_, hD⟩ | ⟨h5_, hD⟩)
          ·have hS : St w0 w noX [] [pt b19 (Cs #[Iv 0, Iv 0, Iv 0, Iv 0, Iv 0, Iv 0] 25), pt b30 (Cs #[Iv x46] 56), pt b31 (Cs #[Iv x47, Iv x48, Iv x49, Iv x50, Iv x51, Iv x52] 25)] := hD; clear hD
           replace hf : Fr a 107 [] [(101, .agg #[Iv 0, Iv 0, Iv 0, Iv 0, Iv 0, Iv 0]), (8, Pv b19 0), (10, Pv b30 0), (11, Pv b31 0), (100, Bv (decide (x46 ≠ (0 : Int))))] := hf
           refine O.store (j := 0) (cs' := #[Iv 0, Iv 0, Iv 0, Iv 0, Iv 0, Iv 0]) (M' := [pt b19 (Cs #[Iv 0, Iv 0, Iv 0, Iv 0, Iv 0, Iv 0] 25), pt b30 (Cs #[Iv x46] 56), pt b31 (Cs #[Iv x47, Iv x48, Iv x49, Iv x50, Iv x51, Iv x52] 25)]) hf hS rfl rfl rfl T_size_25 rfl rfl rfl (Nat.le_of_ble_eq_true rfl) rfl rfl ?_
           clear hS; intro w hS
           exact O.nil ⟨rfl, (), hf.to trivial, (fun d hd => by cases (show none = some d from hd)), (fun j hj hk => match j, hj, hk with | 0, hj, hk => rfl | 1, hj, hk => rfl | 2, hj, hk => rfl | 3, hj, hk => rfl | 4, hj, hk => rfl | 5, hj, hk => absurd rfl hj | 6, hj, hk => absurd hk (by decide) | _ + 7, _, _ => rfl), (Or.inr ⟨rfl, hS⟩)⟩
          ·exact absurd (hs0.symm.trans h5_) (by decide)
        clear hf hf1 hS; intro s g a w hs hf hD
        rcases hD with (⟨h5_, hD⟩ | ⟨h5_, hD⟩)
        · exact absurd ((hs 5 (by simp)).symm.trans h5_) (by decide)
        have hS : St w0 w noX [] [pt b19 (Cs #[Iv 0, Iv 0, Iv 0, Iv 0, Iv 0, Iv 0] 25), pt b30 (Cs #[Iv x46] 56), pt b31 (Cs #[Iv x47, Iv x48, Iv x49, Iv x50, Iv x51, Iv x52] 25)] := hD; clear hD
        replace hf : Fr a 107 [] [(101, .agg #[Iv 0, Iv 0, Iv 0, Iv 0, Iv 0, Iv 0]), (102, Pv b30 0), (103, Pv b30 0), (104, Pv b30 0), (105, Iv x46), (9, Iv x46), (8, Pv b19 0), (10, Pv b30 0), (11, Pv b31 0), (100, Bv (decide (x46 ≠ (0 : Int))))] := hf
        refine k_seq ?_
        replace hf : Fr a 107 [] [(8, Pv b19 0), (9, Iv x46), (11, Pv b31 0)] := hf.to ⟨rfl, rfl, rfl, trivial⟩
        refine W.ret ?_
        refine k_then_ret ?_
        obtain rfl := Option.some.inj hm
        refine post2 hf rfl (ResOK.cellN (cs' := #[Iv 0, Iv 0, Iv 0, Iv 0, Iv 0, Iv 0]) rfl T_agg_25 T_size_25 (hS.ptAt (i := 0) rfl) (Nat.le_of_ble_eq_true rfl) rfl) (ResOK.tmp rfl) ?_
        replace hS := hS.sub (N := []) (.cons _ (.cons _ (.cons _ .slnil)))
        exact ⟨(), rfl, hS.noB⟩
       ·replace hm := hm_n hm hc53
        refine W.skip ?_
        refine k_seq ?_
        replace hf : Fr a 107 [] [(8, Pv b19 0), (9, Iv 0), (11, Pv b31 0)] := hf.to ⟨rfl, rfl, rfl, trivial⟩
        refine W.seq ?_
        -- region 24
        refine W.regionL (l := [0, 1, 2]) rfl ?_
        refine O.val hf rfl rfl rfl (RunV.loadN (cs' := #[Iv x47, Iv x48, Iv x49, Iv x50, Iv x51, Iv x52]) T_agg_25 T_size_25 rfl (hS.ptAt (i := 2) rfl) (Nat.le_of_ble_eq_true rfl) rfl) ?_; clear hf a; intro a hf
        refine O.store (j := 0) (cs' := #[Iv x47, Iv x48, Iv x49, Iv x50, Iv x51, Iv x52]) (M' := [pt b19 (Cs #[Iv x47, Iv x48, Iv x49, Iv x50, Iv x51, Iv x52] 25), pt b30 (Cs #[Iv x46] 56), pt b31 (Cs #[Iv x47, Iv x48, Iv x49, Iv x50, Iv x51, Iv x52] 25)]) hf hS rfl rfl rfl T_size_25 rfl rfl rfl (Nat.le_of_ble_eq_true rfl) rfl rfl ?_
        clear hS; intro w hS
        refine O.val hf rfl rfl rfl (RunV.assign rfl) ?_; clear hf a; intro a hf
        refine O.nil ?_
        refine k_seq ?_
        replace hf : Fr a 107 [] [(8, Pv b19 0), (9, Iv 0)] := hf.to ⟨rfl, rfl, trivial⟩
        refine W.ret ?_
        obtain rfl := Option.some.inj hm
        refine post2 hf rfl (ResOK.cellN (cs' := #[Iv x47, Iv x48, Iv x49, Iv x50, Iv x51, Iv x52]) rfl T_agg_25 T_size_25 (hS.ptAt (i := 0) rfl) (Nat.le_of_ble_eq_true rfl) rfl) (ResOK.tmp rfl) ?_
        replace hS := hS.sub (N := []) (.cons _ (.cons _ (.cons _ .slnil)))
        exact ⟨(), rfl, hS.noB⟩

def m_law30_CellsAsks (F : Nat)  (x1 : Int) (x2 : Int) (x3 : Int) (x4 : Int) (x5 : Int) (x6 : Int) (x7 : Int) (x8 : Int) (x9 : Int) (x10 : Int) (x11 : Int) (x12 : Int) (x13 : Int) (x14 : Int) (x15 : Int) (x16 : Int) (x17 : Int) (x18 : Int) : Option Bool :=
  (m_cells_Of F x1 x2 x3).bind fun x22 => (m_ref30_Of F x1 x2 x3).bind fun x24 => (m_cells_Ahead F x4 x5 x6 x7 x8 x9 x10 x11 x12 x13 x14 x15 x16 x17 x18).bind fun x26 => (m_ref30_Ahead F x4 x5 x6 x7 x8 x9 x10 x11 x12 x13 x14 x15 x16 x17 x18).bind fun x28 => some (((((x22.1 == x24.1) && ((x22.2.1 == x24.2.1) && ((x22.2.2.1 == x24.2.2.1) && (true)))) && (decide (x22.2.2.2 = (x24.2.2.2 : Int)))) && (((x26.1 == x28.1) && ((x26.2.1 == x28.2.1) && (true))) && (((x26.2.2.1 == x28.2.2.1) && ((x26.2.2.2.1 == x28.2.2.2.1) && (true))) && (((x26.2.2.2.2.1 == x28.2.2.2.2.1) && ((x26.2.2.2.2.2.1 == x28.2.2.2.2.2.1) && (true))) && (true))))) && (decide (x26.2.2.2.2.2.2 = (x28.2.2.2.2.2.2 : Int))))
set_option maxHeartbeats 1000000 in
set_option maxRecDepth 8000 in
theorem m_law30_CellsAsks_ok (F : Nat)   (x1 : Int) (x2 : Int) (x3 : Int) (x4 : Int) (x5 : Int) (x6 : Int) (x7 : Int) (x8 : Int) (x9 : Int) (x10 : Int) (x11 : Int) (x12 : Int) (x13 : Int) (x14 : Int) (x15 : Int) (x16 : Int) (x17 : Int) (x18 : Int) (w0 : World)  (r : Bool) (hm : m_law30_CellsAsks F x1 x2 x3 x4 x5 x6 x7 x8 x9 x10 x11 x12 x13 x14 x15 x16 x17 x18 = some r) :
    Ret Try.prog 3 #[Iv x1, Iv x2, Iv x3, .agg #[Iv x4, Iv x5, Iv x6, Iv x7, Iv x8, Iv x9], .agg #[Iv x10, Iv x11, Iv x12, Iv x13, Iv x14, Iv x15], Iv x16, .agg #[Iv x17, Iv x18]] w0 (G := Unit) (fun _ => Bv r) (fun _ w => St w0 w noX [] []) := by
 unfold m_law30_CellsAsks at hm
 refine ret_of_W (lv := [Iv x1, Iv x2, Iv x3, .agg #[Iv x4, Iv x5, Iv x6, Iv x7, Iv x8, Iv x9], .agg #[Iv x10, Iv x11, Iv x12, Iv x13, Iv x14, Iv x15], Iv x16, .agg #[Iv x17, Iv x18]]) Try.func3 rfl rfl rfl (fun a hf => ?_)
 replace hf : Fr a 71 [] [(0, Iv x1), (1, Iv x2), (2, Iv x3), (3, .agg #[Iv x4, Iv x5, Iv x6, Iv x7, Iv x8, Iv x9]), (4, .agg #[Iv x10, Iv x11, Iv x12, Iv x13, Iv x14, Iv x15]), (5, Iv x16), (6, .agg #[Iv x17, Iv x18])] := hf
 have hS : St w0 w0 noX [] [] := St.borrow lendAll_nil
 refine W.seq ?_
 -- region 0
 refine W.regionL (l := [0, 1, 2, 3]) rfl ?_
 refine O.box (cs := #[Iv x4, Iv x5, Iv x6, Iv x7, Iv x8, Iv x9]) hf hS rfl rfl rfl rfl ?_
 clear hf hS a; intro b19 w a hb19 hS hf
 refine O.box (cs := #[Iv x10, Iv x11, Iv x12, Iv x13, Iv x14, Iv x15]) hf hS rfl rfl rfl rfl ?_
 clear hf hS a; intro b20 w a hb20 hS hf
 refine O.box (cs := #[Iv x17, Iv x18]) hf hS rfl rfl rfl rfl ?_
 clear hf hS a; intro b21 w a hb21 hS hf
 refine O.val hf rfl rfl rfl (RunV.assign rfl) ?_; clear hf a; intro a hf
 refine O.nil ?_
 refine k_seq ?_
 replace hf : Fr a 71 [] [(0, Iv x1), (1, Iv x2), (2, Iv x3), (5, Iv x16), (10, Pv b19 0), (11, Pv b20 0), (13, Pv b21 0), (14, Bv false)] := hf.to ⟨rfl, rfl, rfl, rfl, rfl, rfl, rfl, rfl, trivial⟩
 refine W.seq ?_
 -- region 1
 refine W.regionL (l := [0, 1, 2, 3, 4, 5, 6, 7, 8, 9]) rfl ?_
 refine O.val hf rfl rfl rfl (RunV.move rfl) ?_; clear hf a; intro a hf
 refine O.val hf rfl rfl rfl (RunV.move rfl) ?_; clear hf a; intro a hf
 refine O.val hf rfl rfl rfl (RunV.move rfl) ?_; clear hf a; intro a hf
 obtain ⟨x22, hx22, hm⟩ := hm_b hm
 refine O.callR hf rfl rfl rfl (RunE.call (av := #[Iv x1, Iv x2, Iv x3]) C_ok_4 rfl rfl rfl) (m_cells_Of_ok F x1 x2 x3 _ x22 hx22) ?_
 clear hf a; rintro _ w hS1 a hf
 replace hf : Fr a _ _ ((27, .tuple #[.agg #[Iv x22.1, Iv x22.2.1, Iv x22.2.2.1], Iv x22.2.2.2]) :: _) := hf
 replace hS := (hS.call hS1).eqM (N := [pt b21 (Cs #[Iv x17, Iv x18] 23), pt b20 (Cs #[Iv x10, Iv x11, Iv x12, Iv x13, Iv x14, Iv x15] 25), pt b19 (Cs #[Iv x4, Iv x5, Iv x6, Iv x7, Iv x8, Iv x9] 25)]) rfl
 clear hS1
 refine O.val hf rfl rfl rfl (RunV.move rfl) ?_; clear hf a; intro a hf
 refine O.val hf rfl rfl rfl (RunV.extract rfl rfl) ?_; clear hf a; intro a hf
 refine O.val hf rfl rfl rfl (RunV.extract rfl rfl) ?_; clear hf a; intro a hf
 refine O.alloc (cs := #[Iv 0, Iv 0, Iv 0]) hf hS rfl rfl T_zero_27 rfl ?_
 clear hf hS a; intro b23 w a hb23 hS hf
 refine O.store (j := 0) (cs' := #[Iv x22.1, Iv x22.2.1, Iv x22.2.2.1]) (M' := [pt b23 (Cs #[Iv x22.1, Iv x22.2.1, Iv x22.2.2.1] 27), pt b21 (Cs #[Iv x17, Iv x18] 23), pt b20 (Cs #[Iv x10, Iv x11, Iv x12, Iv x13, Iv x14, Iv x15] 25), pt b19 (Cs #[Iv x4, Iv x5, Iv x6, Iv x7, Iv x8, Iv x9] 25)]) hf hS rfl rfl rfl T_size_27 rfl rfl rfl (Nat.le_of_ble_eq_true rfl) rfl rfl ?_
 clear hS; intro w hS
 refine O.val hf rfl rfl rfl (RunV.assign rfl) ?_; clear hf a; intro a hf
 refine O.nil ?_
 refine k_seq ?_
 replace hf : Fr a 71 [] [(0, Iv x1), (1, Iv x2), (2, Iv x3), (5, Iv x16), (10, Pv b19 0), (11, Pv b20 0), (13, Pv b21 0), (14, Bv false), (15, Pv b23 0), (16, Iv x22.2.2.2)] := hf.to ⟨rfl, rfl, rfl, rfl, rfl, rfl, rfl, rfl, rfl, rfl, trivial⟩
 refine W.seq ?_
 -- region 2
 refine W.regionL (l := [0, 1, 2, 3, 4, 5, 6, 7, 8, 9]) rfl ?_
 refine O.val hf rfl rfl rfl (RunV.move rfl) ?_; clear hf a; intro a hf
 refine O.val hf rfl rfl rfl (RunV.move rfl) ?_; clear hf a; intro a hf
 refine O.val hf rfl rfl rfl (RunV.move rfl) ?_; clear hf a; intro a hf
 obtain ⟨x24, hx24, hm⟩ := hm_b hm
 refine O.callR hf rfl rfl rfl (RunE.call (av := #[Iv x1, Iv x2, Iv x3]) C_ok_5 rfl rfl rfl) (m_ref30_Of_ok F x1 x2 x3 _ x24 hx24) ?_
 clear hf a; rintro _ w hS1 a hf
 replace hf : Fr a _ _ ((34, .tuple #[.agg #[Iv x24.1, Iv x24.2.1, Iv x24.2.2.1], Iv x24.2.2.2]) :: _) := hf
 replace hS := (hS.call hS1).eqM (N := [pt b23 (Cs #[Iv x22.1, Iv x22.2.1, Iv x22.2.2.1] 27), pt b21 (Cs #[Iv x17, Iv x18] 23), pt b20 (Cs #[Iv x10, Iv x11, Iv x12, Iv x13, Iv x14, Iv x15] 25), pt b19 (Cs #[Iv x4, Iv x5, Iv x6, Iv x7, Iv x8, Iv x9] 25)]) rfl
 clear hS1
 refine O.val hf rfl rfl rfl (RunV.move rfl) ?_; clear hf a; intro a hf
 refine O.val hf rfl rfl rfl (RunV.extract rfl rfl) ?_; clear hf a; intro a hf
 refine O.val hf rfl rfl rfl (RunV.extract rfl rfl) ?_; clear hf a; intro a hf
 refine O.alloc (cs := #[Iv 0, Iv 0, Iv 0]) hf hS rfl rfl T_zero_27 rfl ?_
 clear hf hS a; intro b25 w a hb25 hS hf
 refine O.store (j := 0) (cs' := #[Iv x24.1, Iv x24.2.1, Iv x24.2.2.1]) (M' := [pt b25 (Cs #[Iv x24.1, Iv x24.2.1, Iv x24.2.2.1] 27), pt b23 (Cs #[Iv x22.1, Iv x22.2.1, Iv x22.2.2.1] 27), pt b21 (Cs #[Iv x17, Iv x18] 23), pt b20 (Cs #[Iv x10, Iv x11, Iv x12, Iv x13, Iv x14, Iv x15] 25), pt b19 (Cs #[Iv x4, Iv x5, Iv x6, Iv x7, Iv x8, Iv x9] 25)]) hf hS rfl rfl rfl T_size_27 rfl rfl rfl (Nat.le_of_ble_eq_true rfl) rfl rfl ?_
 clear hS; intro w hS
 refine O.val hf rfl rfl rfl (RunV.assign rfl) ?_; clear hf a; intro a hf
 refine O.nil ?_
 refine k_seq ?_
 replace hf : Fr a 71 [] [(5, Iv x16), (10, Pv b19 0), (11, Pv b20 0), (13, Pv b21 0), (14, Bv false), (15, Pv b23 0), (16, Iv x22.2.2.2), (17, Pv b25 0), (18, Iv x24.2.2.2)] := hf.to ⟨rfl, rfl, rfl, rfl, rfl, rfl, rfl, rfl, rfl, trivial⟩
 refine W.seq ?_
 -- region 3
 refine W.regionL (l := [0, 1, 2, 3, 4, 5, 6, 7, 8, 9, 10]) rfl ?_
 refine O.val hf rfl rfl rfl (RunV.loadN (cs' := #[Iv x4, Iv x5, Iv x6, Iv x7, Iv x8, Iv x9]) T_agg_25 T_size_25 rfl (hS.ptAt (i := 4) rfl) (Nat.le_of_ble_eq_true rfl) rfl) ?_; clear hf a; intro a hf
 refine O.val hf rfl rfl rfl (RunV.loadN (cs' := #[Iv x10, Iv x11, Iv x12, Iv x13, Iv x14, Iv x15]) T_agg_25 T_size_25 rfl (hS.ptAt (i := 3) rfl) (Nat.le_of_ble_eq_true rfl) rfl) ?_; clear hf a; intro a hf
 refine O.val hf rfl rfl rfl (RunV.move rfl) ?_; clear hf a; intro a hf
 refine O.val hf rfl rfl rfl (RunV.loadN (cs' := #[Iv x17, Iv x18]) T_agg_23 T_size_23 rfl (hS.ptAt (i := 2) rfl) (Nat.le_of_ble_eq_true rfl) rfl) ?_; clear hf a; intro a hf
 obtain ⟨x26, hx26, hm⟩ := hm_b hm
 refine O.callR hf rfl rfl rfl (RunE.call (av := #[.agg #[Iv x4, Iv x5, Iv x6, Iv x7, Iv x8, Iv x9], .agg #[Iv x10, Iv x11, Iv x12, Iv x13, Iv x14, Iv x15], Iv x16, .agg #[Iv x17, Iv x18]]) C_ok_6 rfl rfl rfl) (m_cells_Ahead_ok F x4 x5 x6 x7 x8 x9 x10 x11 x12 x13 x14 x15 x16 x17 x18 _ x26 hx26) ?_
 clear hf a; rintro _ w hS1 a hf
 replace hf : Fr a _ _ ((42, .tuple #[.agg #[Iv x26.1, Iv x26.2.1, Iv x26.2.2.1, Iv x26.2.2.2.1, Iv x26.2.2.2.2.1, Iv x26.2.2.2.2.2.1], Iv x26.2.2.2.2.2.2]) :: _) := hf
 replace hS := (hS.call hS1).eqM (N := [pt b25 (Cs #[Iv x24.1, Iv x24.2.1, Iv x24.2.2.1] 27), pt b23 (Cs #[Iv x22.1, Iv x22.2.1, Iv x22.2.2.1] 27), pt b21 (Cs #[Iv x17, Iv x18] 23), pt b20 (Cs #[Iv x10, Iv x11, Iv x12, Iv x13, Iv x14, Iv x15] 25), pt b19 (Cs #[Iv x4, Iv x5, Iv x6, Iv x7, Iv x8, Iv x9] 25)]) rfl
 clear hS1
 refine O.val hf rfl rfl rfl (RunV.move rfl) ?_; clear hf a; intro a hf
 refine O.val hf rfl rfl rfl (RunV.extract rfl rfl) ?_; clear hf a; intro a hf
 refine O.val hf rfl rfl rfl (RunV.extract rfl rfl) ?_; clear hf a; intro a hf
 refine O.alloc (cs := #[Iv 0, Iv 0, Iv 0, Iv 0, Iv 0, Iv 0]) hf hS rfl rfl T_zero_25 rfl ?_
 clear hf hS a; intro b27 w a hb27 hS hf
 refine O.store (j := 0) (cs' := #[Iv x26.1, Iv x26.2.1, Iv x26.2.2.1, Iv x26.2.2.2.1, Iv x26.2.2.2.2.1, Iv x26.2.2.2.2.2.1]) (M' := [pt b27 (Cs #[Iv x26.1, Iv x26.2.1, Iv x26.2.2.1, Iv x26.2.2.2.1, Iv x26.2.2.2.2.1, Iv x26.2.2.2.2.2.1] 25), pt b25 (Cs #[Iv x24.1, Iv x24.2.1, Iv x24.2.2.1] 27), pt b23 (Cs #[Iv x22.1, Iv x22.2.1, Iv x22.2.2.1] 27), pt b21 (Cs #[Iv x17, Iv x18] 23), pt b20 (Cs #[Iv x10, Iv x11, Iv x12, Iv x13, Iv x14, Iv x15] 25), pt b19 (Cs #[Iv x4, Iv x5, Iv x6, Iv x7, Iv x8, Iv x9] 25)]) hf hS rfl rfl rfl T_size_25 rfl rfl rfl (Nat.le_of_ble_eq_true rfl) rfl rfl ?_
 clear hS; intro w hS
 refine O.val hf rfl rfl rfl (RunV.assign rfl) ?_; clear hf a; intro a hf
 refine O.nil ?_
 refine k_seq ?_
 replace hf : Fr a 71 [] [(5, Iv x16), (10, Pv b19 0), (11, Pv b20 0), (13, Pv b21 0), (14, Bv false), (15, Pv b23 0), (16, Iv x22.2.2.2), (17, Pv b25 0), (18, Iv x24.2.2.2), (19, Pv b27 0), (20, Iv x26.2.2.2.2.2.2)] := hf.to ⟨rfl, rfl, rfl, rfl, rfl, rfl, rfl, rfl, rfl, rfl, rfl, trivial⟩
 refine W.seq ?_
 -- region 4
 refine W.regionL (l := [0, 1, 2, 3, 4, 5, 6, 7, 8, 9, 10]) rfl ?_
 refine O.val hf rfl rfl rfl (RunV.loadN (cs' := #[Iv x4, Iv x5, Iv x6, Iv x7, Iv x8, Iv x9]) T_agg_25 T_size_25 rfl (hS.ptAt (i := 5) rfl) (Nat.le_of_ble_eq_true rfl) rfl) ?_; clear hf a; intro a hf
 refine O.val hf rfl rfl rfl (RunV.loadN (cs' := #[Iv x10, Iv x11, Iv x12, Iv x13, Iv x14, Iv x15]) T_agg_25 T_size_25 rfl (hS.ptAt (i := 4) rfl) (Nat.le_of_ble_eq_true rfl) rfl) ?_; clear hf a; intro a hf
 refine O.val hf rfl rfl rfl (RunV.move rfl) ?_; clear hf a; intro a hf
 refine O.val hf rfl rfl rfl (RunV.loadN (cs' := #[Iv x17, Iv x18]) T_agg_23 T_size_23 rfl (hS.ptAt (i := 3) rfl) (Nat.le_of_ble_eq_true rfl) rfl) ?_; clear hf a; intro a hf
 obtain ⟨x28, hx28, hm⟩ := hm_b hm
 refine O.callR hf rfl rfl rfl (RunE.call (av := #[.agg #[Iv x4, Iv x5, Iv x6, Iv x7, Iv x8, Iv x9], .agg #[Iv x10, Iv x11, Iv x12, Iv x13, Iv x14, Iv x15], Iv x16, .agg #[Iv x17, Iv x18]]) C_ok_7 rfl rfl rfl) (m_ref30_Ahead_ok F x4 x5 x6 x7 x8 x9 x10 x11 x12 x13 x14 x15 x16 x17 x18 _ x28 hx28) ?_
 clear hf a; rintro _ w hS1 a hf
 replace hf : Fr a _ _ ((50, .tuple #[.agg #[Iv x28.1, Iv x28.2.1, Iv x28.2.2.1, Iv x28.2.2.2.1, Iv x28.2.2.2.2.1, Iv x28.2.2.2.2.2.1], Iv x28.2.2.2.2.2.2]) :: _) := hf
 replace hS := (hS.call hS1).eqM (N := [pt b27 (Cs #[Iv x26.1, Iv x26.2.1, Iv x26.2.2.1, Iv x26.2.2.2.1, Iv x26.2.2.2.2.1, Iv x26.2.2.2.2.2.1] 25), pt b25 (Cs #[Iv x24.1, Iv x24.2.1, Iv x24.2.2.1] 27), pt b23 (Cs #[Iv x22.1, Iv x22.2.1, Iv x22.2.2.1] 27), pt b21 (Cs #[Iv x17, Iv x18] 23), pt b20 (Cs #[Iv x10, Iv x11, Iv x12, Iv x13, Iv x14, Iv x15] 25), pt b19 (Cs #[Iv x4, Iv x5, Iv x6, Iv x7, Iv x8, Iv x9] 25)]) rfl
 clear hS1
 refine O.val hf rfl rfl rfl (RunV.move rfl) ?_; clear hf a; intro a hf
 refine O.val hf rfl rfl rfl (RunV.extract rfl rfl) ?_; clear hf a; intro a hf
 refine O.val hf rfl rfl rfl (RunV.extract rfl rfl) ?_; clear hf a; intro a hf
 refine O.alloc (cs := #[Iv 0, Iv 0, Iv 0, Iv 0, Iv 0, Iv 0]) hf hS rfl rfl T_zero_25 rfl ?_
 clear hf hS a; intro b29 w a hb29 hS hf
 refine O.store (j := 0) (cs' := #[Iv x28.1, Iv x28.2.1, Iv x28.2.2.1, Iv x28.2.2.2.1, Iv x28.2.2.2.2.1, Iv x28.2.2.2.2.2.1]) (M' := [pt b29 (Cs #[Iv x28.1, Iv x28.2.1, Iv x28.2.2.1, Iv x28.2.2.2.1, Iv x28.2.2.2.2.1, Iv x28.2.2.2.2.2.1] 25), pt b27 (Cs #[Iv x26.1, Iv x26.2.1, Iv x26.2.2.1, Iv x26.2.2.2.1, Iv x26.2.2.2.2.1, Iv x26.2.2.2.2.2.1] 25), pt b25 (Cs #[Iv x24.1, Iv x24.2.1, Iv x24.2.2.1] 27), pt b23 (Cs #[Iv x22.1, Iv x22.2.1, Iv x22.2.2.1] 27), pt b21 (Cs #[Iv x17, Iv x18] 23), pt b20 (Cs #[Iv x10, Iv x11, Iv x12, Iv x13, Iv x14, Iv x15] 25), pt b19 (Cs #[Iv x4, Iv x5, Iv x6, Iv x7, Iv x8, Iv x9] 25)]) hf hS rfl rfl rfl T_size_25 rfl rfl rfl (Nat.le_of_ble_eq_true rfl) rfl rfl ?_
 clear hS; intro w hS
 refine O.val hf rfl rfl rfl (RunV.assign rfl) ?_; clear hf a; intro a hf
 refine O.nil ?_
 refine k_seq ?_
 replace hf : Fr a 71 [] [(14, Bv false), (15, Pv b23 0), (16, Iv x22.2.2.2), (17, Pv b25 0), (18, Iv x24.2.2.2), (19, Pv b27 0), (20, Iv x26.2.2.2.2.2.2), (21, Pv b29 0), (22, Iv x28.2.2.2.2.2.2)] := hf.to ⟨rfl, rfl, rfl, rfl, rfl, rfl, rfl, rfl, rfl, trivial⟩
 refine W.seq ?_
 -- region 5
 refine W.regionL (l := [0, 1, 2, 3, 4, 5, 6, 7, 8, 9, 10, 11, 12, 13, 14, 15, 16, 17, 18]) rfl ?_
 refine O.val hf rfl rfl rfl (RunV.loadN (cs' := #[Iv x22.1, Iv x22.2.1, Iv x22.2.2.1]) T_agg_27 T_size_27 rfl (hS.ptAt (i := 3) rfl) (Nat.le_of_ble_eq_true rfl) rfl) ?_; clear hf a; intro a hf
 refine O.val hf rfl rfl rfl (RunV.loadN (cs' := #[Iv x24.1, Iv x24.2.1, Iv x24.2.2.1]) T_agg_27 T_size_27 rfl (hS.ptAt (i := 2) rfl) (Nat.le_of_ble_eq_true rfl) rfl) ?_; clear hf a; intro a hf
 refine O.val (v := Bv ((x22.1 == x24.1) && ((x22.2.1 == x24.2.1) && ((x22.2.2.1 == x24.2.2.1) && (true))))) hf rfl rfl rfl (RunV.eqAgg (d := 10) rfl T_eqg_27 rfl rfl (EqR.struct (d := 9999) T_fs_27 (EqL.cons (PartR.one (v := Iv x22.1) T_agg_3 rfl) (PartR.one (v := Iv x24.1) T_agg_3 rfl) (EqR.int (d := 9998) T_int_3) (EqL.cons (PartR.one (v := Iv x22.2.1) T_agg_3 rfl) (PartR.one (v := Iv x24.2.1) T_agg_3 rfl) (EqR.int (d := 9998) T_int_3) (EqL.cons (PartR.one (v := Iv x22.2.2.1) T_agg_3 rfl) (PartR.one (v := Iv x24.2.2.1) T_agg_3 rfl) (EqR.int (d := 9998) T_int_3) EqL.nil))))) ?_; clear hf a; intro a hf
 refine O.val hf rfl rfl rfl (RunV.move rfl) ?_; clear hf a; intro a hf
 refine O.cutN (l₁ := [4, 5, 6, 7]) (l₂ := _) (fun a w => Fr a 71 [] [(14, Bv false), (19, Pv b27 0), (20, Iv x26.2.2.2.2.2.2), (21, Pv b29 0), (22, Iv x28.2.2.2.2.2.2), (60, Bv (((x22.1 == x24.1) && ((x22.2.1 == x24.2.1) && ((x22.2.2.1 == x24.2.2.1) && (true)))) && (decide (x22.2.2.2 = (x24.2.2.2 : Int)))))] ∧ St w0 w noX [] [pt b29 (Cs #[Iv x28.1, Iv x28.2.1, Iv x28.2.2.1, Iv x28.2.2.2.1, Iv x28.2.2.2.2.1, Iv x28.2.2.2.2.2.1] 25), pt b27 (Cs #[Iv x26.1, Iv x26.2.1, Iv x26.2.2.1, Iv x26.2.2.2.1, Iv x26.2.2.2.2.1, Iv x26.2.2.2.2.2.1] 25), pt b25 (Cs #[Iv x24.1, Iv x24.2.1, Iv x24.2.2.1] 27), pt b23 (Cs #[Iv x22.1, Iv x22.2.1, Iv x22.2.2.1] 27), pt b21 (Cs #[Iv x17, Iv x18] 23), pt b20 (Cs #[Iv x10, Iv x11, Iv x12, Iv x13, Iv x14, Iv x15] 25), pt b19 (Cs #[Iv x4, Iv x5, Iv x6, Iv x7, Iv x8, Iv x9] 25)]) rfl ?_ ?_
 ·rcases Bool.eq_false_or_eq_true ((x22.1 == x24.1) && ((x22.2.1 == x24.2.1) && ((x22.2.2.1 == x24.2.2.1) && (true)))) with hb30 | hb30
  ·refine O.gvalB hf rfl rfl rfl hb30 rfl rfl (RunV.move rfl) ?_; clear hf a; intro a hf
   refine O.gvalB hf rfl rfl rfl hb30 rfl rfl (RunV.move rfl) ?_; clear hf a; intro a hf
   refine O.gvalB (v := Bv (decide (x22.2.2.2 = (x24.2.2.2 : Int)))) hf rfl rfl rfl hb30 rfl rfl (RunV.eql rfl rfl) ?_; clear hf a; intro a hf
   refine O.val (v := Bv (((x22.1 == x24.1) && ((x22.2.1 == x24.2.1) && ((x22.2.2.1 == x24.2.2.1) && (true)))) && (decide (x22.2.2.2 = (x24.2.2.2 : Int))))) hf rfl rfl rfl (RunV.pick rfl rfl rfl (by rw [hb30]; rfl)) ?_; clear hf a; intro a hf
   exact O.nil ⟨rfl, hf.to ⟨rfl, rfl, rfl, rfl, rfl, rfl, trivial⟩, hS⟩
  ·refine O.skipB hf rfl rfl rfl hb30 rfl ?_; clear hf a; intro a hf
   refine O.skipB hf rfl rfl rfl hb30 rfl ?_; clear hf a; intro a hf
   refine O.skipB hf rfl rfl rfl hb30 rfl ?_; clear hf a; intro a hf
   refine O.val (v := Bv (((x22.1 == x24.1) && ((x22.2.1 == x24.2.1) && ((x22.2.2.1 == x24.2.2.1) && (true)))) && (decide (x22.2.2.2 = (x24.2.2.2 : Int))))) hf rfl rfl rfl (RunV.pick rfl rfl rfl (by rw [hb30]; rfl)) ?_; clear hf a; intro a hf
   exact O.nil ⟨rfl, hf.to ⟨rfl, rfl, rfl, rfl, rfl, rfl, trivial⟩, hS⟩
 clear hf hS a; try clear w
 rintro a w ⟨hf, hS⟩
 refine O.val hf rfl rfl rfl (RunV.move rfl) ?_; clear hf a; intro a hf
 refine O.cutN (l₁ := [9, 10, 11, 12]) (l₂ := _) (fun a w => Fr a 71 [] [(14, Bv false), (20, Iv x26.2.2.2.2.2.2), (22, Iv x28.2.2.2.2.2.2), (65, Bv ((((x22.1 == x24.1) && ((x22.2.1 == x24.2.1) && ((x22.2.2.1 == x24.2.2.1) && (true)))) && (decide (x22.2.2.2 = (x24.2.2.2 : Int)))) && (((x26.1 == x28.1) && ((x26.2.1 == x28.2.1) && (true))) && (((x26.2.2.1 == x28.2.2.1) && ((x26.2.2.2.1 == x28.2.2.2.1) && (true))) && (((x26.2.2.2.2.1 == x28.2.2.2.2.1) && ((x26.2.2.2.2.2.1 == x28.2.2.2.2.2.1) && (true))) && (true))))))] ∧ St w0 w noX [] [pt b29 (Cs #[Iv x28.1, Iv x28.2.1, Iv x28.2.2.1, Iv x28.2.2.2.1, Iv x28.2.2.2.2.1, Iv x28.2.2.2.2.2.1] 25), pt b27 (Cs #[Iv x26.1, Iv x26.2.1, Iv x26.2.2.1, Iv x26.2.2.2.1, Iv x26.2.2.2.2.1, Iv x26.2.2.2.2.2.1] 25), pt b25 (Cs #[Iv x24.1, Iv x24.2.1, Iv x24.2.2.1] 27), pt b23 (Cs #[Iv x22.1, Iv x22.2.1, Iv x22.2.2.1] 27), pt b21 (Cs #[Iv x17, Iv x18] 23), pt b20 (Cs #[Iv x10, Iv x11, Iv x12, Iv x13, Iv x14, Iv x15] 25), pt b19 (Cs #[Iv x4, Iv x5, Iv x6, Iv x7, Iv x8, Iv x9] 25)]) rfl ?_ ?_
 ·rcases Bool.eq_false_or_eq_true (((x22.1 == x24.1) && ((x22.2.1 == x24.2.1) && ((x22.2.2.1 == x24.2.2.1) && (true)))) && (decide (x22.2.2.2 = (x24.2.2.2 : Int)))) with hb31 | hb31
  ·refine O.gvalB hf rfl rfl rfl hb31 rfl rfl (RunV.loadN (cs' := #[Iv x26.1, Iv x26.2.1, Iv x26.2.2.1, Iv x26.2.2.2.1, Iv x26.2.2.2.2.1, Iv x26.2.2.2.2.2.1]) T_agg_25 T_size_25 rfl (hS.ptAt (i := 1) rfl) (Nat.le_of_ble_eq_true rfl) rfl) ?_; clear hf a; intro a hf
   refine O.gvalB hf rfl rfl rfl hb31 rfl rfl (RunV.loadN (cs' := #[Iv x28.1, Iv x28.2.1, Iv x28.2.2.1, Iv x28.2.2.2.1, Iv x28.2.2.2.2.1, Iv x28.2.2.2.2.2.1]) T_agg_25 T_size_25 rfl (hS.ptAt (i := 0) rfl) (Nat.le_of_ble_eq_true rfl) rfl) ?_; clear hf a; intro a hf
   refine O.gvalB (v := Bv (((x26.1 == x28.1) && ((x26.2.1 == x28.2.1) && (true))) && (((x26.2.2.1 == x28.2.2.1) && ((x26.2.2.2.1 == x28.2.2.2.1) && (true))) && (((x26.2.2.2.2.1 == x28.2.2.2.2.1) && ((x26.2.2.2.2.2.1 == x28.2.2.2.2.2.1) && (true))) && (true))))) hf rfl rfl rfl hb31 rfl rfl (RunV.eqAgg (d := 10) rfl T_eqg_25 rfl rfl (EqR.arr (d := 9999) T_arr_25 T_cells_23 T_info_23 (EqI.cons (PartR.agg (cs' := #[Iv x26.1, Iv x26.2.1]) T_agg_23 T_size_23 rfl) (PartR.agg (cs' := #[Iv x28.1, Iv x28.2.1]) T_agg_23 T_size_23 rfl) (EqR.struct (d := 9998) T_fs_23 (EqL.cons (PartR.one (v := Iv x26.1) T_agg_2 rfl) (PartR.one (v := Iv x28.1) T_agg_2 rfl) (EqR.int (d := 9997) T_int_2) (EqL.cons (PartR.one (v := Iv x26.2.1) T_agg_2 rfl) (PartR.one (v := Iv x28.2.1) T_agg_2 rfl) (EqR.int (d := 9997) T_int_2) EqL.nil))) (EqI.cons (PartR.agg (cs' := #[Iv x26.2.2.1, Iv x26.2.2.2.1]) T_agg_23 T_size_23 rfl) (PartR.agg (cs' := #[Iv x28.2.2.1, Iv x28.2.2.2.1]) T_agg_23 T_size_23 rfl) (EqR.struct (d := 9998) T_fs_23 (EqL.cons (PartR.one (v := Iv x26.2.2.1) T_agg_2 rfl) (PartR.one (v := Iv x28.2.2.1) T_agg_2 rfl) (EqR.int (d := 9997) T_int_2) (EqL.cons (PartR.one (v := Iv x26.2.2.2.1) T_agg_2 rfl) (PartR.one (v := Iv x28.2.2.2.1) T_agg_2 rfl) (EqR.int (d := 9997) T_int_2) EqL.nil))) (EqI.cons (PartR.agg (cs' := #[Iv x26.2.2.2.2.1, Iv x26.2.2.2.2.2.1]) T_agg_23 T_size_23 rfl) (PartR.agg (cs' := #[Iv x28.2.2.2.2.1, Iv x28.2.2.2.2.2.1]) T_agg_23 T_size_23 rfl) (EqR.struct (d := 9998) T_fs_23 (EqL.cons (PartR.one (v := Iv x26.2.2.2.2.1) T_agg_2 rfl) (PartR.one (v := Iv x28.2.2.2.2.1) T_agg_2 rfl) (EqR.int (d := 9997) T_int_2) (EqL.cons (PartR.one (v := Iv x26.2.2.2.2.2.1) T_agg_2 rfl) (PartR.one (v := Iv x28.2.2.2.2.2.1) T_agg_2 rfl) (EqR.int (d := 9997) T_int_2) EqL.nil))) EqI.nil))))) ?_; clear hf a; intro a hf
   refine O.val (v := Bv ((((x22.1 == x24.1) && ((x22.2.1 == x24.2.1) && ((x22.2.2.1 == x24.2.2.1) && (true)))) && (decide (x22.2.2.2 = (x24.2.2.2 : Int)))) && (((x26.1 == x28.1) && ((x26.2.1 == x28.2.1) && (true))) && (((x26.2.2.1 == x28.2.2.1) && ((x26.2.2.2.1 == x28.2.2.2.1) && (true))) && (((x26.2.2.2.2.1 == x28.2.2.2.2.1) && ((x26.2.2.2.2.2.1 == x28.2.2.2.2.2.1) && (true))) && (true)))))) hf rfl rfl rfl (RunV.pick rfl rfl rfl (by rw [hb31]; rfl)) ?_; clear hf a; intro a hf
   exact O.nil ⟨rfl, hf.to ⟨rfl, rfl, rfl, rfl, trivial⟩, hS⟩
  ·refine O.skipB hf rfl rfl rfl hb31 rfl ?_; clear hf a; intro a hf
   refine O.skipB hf rfl rfl rfl hb31 rfl ?_; clear hf a; intro a hf
   refine O.skipB hf rfl rfl rfl hb31 rfl ?_; clear hf a; intro a hf
   refine O.val (v := Bv ((((x22.1 == x24.1) && ((x22.2.1 == x24.2.1) && ((x22.2.2.1 == x24.2.2.1) && (true)))) && (decide (x22.2.2.2 = (x24.2.2.2 : Int)))) && (((x26.1 == x28.1) && ((x26.2.1 == x28.2.1) && (true))) && (((x26.2.2.1 == x28.2.2.1) && ((x26.2.2.2.1 == x28.2.2.2.1) && (true))) && (((x26.2.2.2.2.1 == x28.2.2.2.2.1) && ((x26.2.2.2.2.2.1 == x28.2.2.2.2.2.1) && (true))) && (true)))))) hf rfl rfl rfl (RunV.pick rfl rfl rfl (by rw [hb31]; rfl)) ?_; clear hf a; intro a hf
   exact O.nil ⟨rfl, hf.to ⟨rfl, rfl, rfl, rfl, trivial⟩, hS⟩
 clear hf hS a; try clear w
 rintro a w ⟨hf, hS⟩
 refine O.val hf rfl rfl rfl (RunV.move rfl) ?_; clear hf a; intro a hf
 refine O.cutN (l₁ := [14, 15, 16, 17]) (l₂ := _) (fun a w => Fr a 71 [] [(14, Bv false), (70, Bv (((((x22.1 == x24.1) && ((x22.2.1 == x24.2.1) && ((x22.2.2.1 == x24.2.2.1) && (true)))) && (decide (x22.2.2.2 = (x24.2.2.2 : Int)))) && (((x26.1 == x28.1) && ((x26.2.1 == x28.2.1) && (true))) && (((x26.2.2.1 == x28.2.2.1) && ((x26.2.2.2.1 == x28.2.2.2.1) && (true))) && (((x26.2.2.2.2.1 == x28.2.2.2.2.1) && ((x26.2.2.2.2.2.1 == x28.2.2.2.2.2.1) && (true))) && (true))))) && (decide (x26.2.2.2.2.2.2 = (x28.2.2.2.2.2.2 : Int)))))] ∧ St w0 w noX [] [pt b29 (Cs #[Iv x28.1, Iv x28.2.1, Iv x28.2.2.1, Iv x28.2.2.2.1, Iv x28.2.2.2.2.1, Iv x28.2.2.2.2.2.1] 25), pt b27 (Cs #[Iv x26.1, Iv x26.2.1, Iv x26.2.2.1, Iv x26.2.2.2.1, Iv x26.2.2.2.2.1, Iv x26.2.2.2.2.2.1] 25), pt b25 (Cs #[Iv x24.1, Iv x24.2.1, Iv x24.2.2.1] 27), pt b23 (Cs #[Iv x22.1, Iv x22.2.1, Iv x22.2.2.1] 27), pt b21 (Cs #[Iv x17, Iv x18] 23), pt b20 (Cs #[Iv x10, Iv x11, Iv x12, Iv x13, Iv x14, Iv x15] 25), pt b19 (Cs #[Iv x4, Iv x5, Iv x6, Iv x7, Iv x8, Iv x9] 25)]) rfl ?_ ?_
 ·rcases Bool.eq_false_or_eq_true ((((x22.1 == x24.1) && ((x22.2.1 == x24.2.1) && ((x22.2.2.1 == x24.2.2.1) && (true)))) && (decide (x22.2.2.2 = (x24.2.2.2 : Int)))) && (((x26.1 == x28.1) && ((x26.2.1 == x28.2.1) && (true))) && (((x26.2.2.1 == x28.2.2.1) && ((x26.2.2.2.1 == x28.2.2.2.1) && (true))) && (((x26.2.2.2.2.1 == x28.2.2.2.2.1) && ((x26.2.2.2.2.2.1 == x28.2.2.2.2.2.1) && (true))) && (true))))) with hb32 | hb32
  ·refine O.gvalB hf rfl rfl rfl hb32 rfl rfl (RunV.move rfl) ?_; clear hf a; intro a hf
   refine O.gvalB hf rfl rfl rfl hb32 rfl rfl (RunV.move rfl) ?_; clear hf a; intro a hf
   refine O.gvalB (v := Bv (decide (x26.2.2.2.2.2.2 = (x28.2.2.2.2.2.2 : Int)))) hf rfl rfl rfl hb32 rfl rfl (RunV.eql rfl rfl) ?_; clear hf a; intro a hf
   refine O.val (v := Bv (((((x22.1 == x24.1) && ((x22.2.1 == x24.2.1) && ((x22.2.2.1 == x24.2.2.1) && (true)))) && (decide (x22.2.2.2 = (x24.2.2.2 : Int)))) && (((x26.1 == x28.1) && ((x26.2.1 == x28.2.1) && (true))) && (((x26.2.2.1 == x28.2.2.1) && ((x26.2.2.2.1 == x28.2.2.2.1) && (true))) && (((x26.2.2.2.2.1 == x28.2.2.2.2.1) && ((x26.2.2.2.2.2.1 == x28.2.2.2.2.2.1) && (true))) && (true))))) && (decide (x26.2.2.2.2.2.2 = (x28.2.2.2.2.2.2 : Int))))) hf rfl rfl rfl (RunV.pick rfl rfl rfl (by rw [hb32]; rfl)) ?_; clear hf a; intro a hf
   exact O.nil ⟨rfl, hf.to ⟨rfl, rfl, trivial⟩, hS⟩
  ·refine O.skipB hf rfl rfl rfl hb32 rfl ?_; clear hf a; intro a hf
   refine O.skipB hf rfl rfl rfl hb32 rfl ?_; clear hf a; intro a hf
   refine O.skipB hf rfl rfl rfl hb32 rfl ?_; clear hf a; intro a hf
   refine O.val (v := Bv (((((x22.1 == x24.1) && ((x22.2.1 == x24.2.1) && ((x22.2.2.1 == x24.2.2.1) && (true)))) && (decide (x22.2.2.2 = (x24.2.2.2 : Int)))) && (((x26.1 == x28.1) && ((x26.2.1 == x28.2.1) && (true))) && (((x26.2.2.1 == x28.2.2.1) && ((x26.2.2.2.1 == x28.2.2.2.1) && (true))) && (((x26.2.2.2.2.1 == x28.2.2.2.2.1) && ((x26.2.2.2.2.2.1 == x28.2.2.2.2.2.1) && (true))) && (true))))) && (decide (x26.2.2.2.2.2.2 = (x28.2.2.2.2.2.2 : Int))))) hf rfl rfl rfl (RunV.pick rfl rfl rfl (by rw [hb32]; rfl)) ?_; clear hf a; intro a hf
   exact O.nil ⟨rfl, hf.to ⟨rfl, rfl, trivial⟩, hS⟩
 clear hf hS a; try clear w
 rintro a w ⟨hf, hS⟩
 refine O.val hf rfl rfl rfl (RunV.assign rfl) ?_; clear hf a; intro a hf
 refine O.nil ?_
 refine k_seq ?_
 replace hf : Fr a 71 [] [(14, Bv (((((x22.1 == x24.1) && ((x22.2.1 == x24.2.1) && ((x22.2.2.1 == x24.2.2.1) && (true)))) && (decide (x22.2.2.2 = (x24.2.2.2 : Int)))) && (((x26.1 == x28.1) && ((x26.2.1 == x28.2.1) && (true))) && (((x26.2.2.1 == x28.2.2.1) && ((x26.2.2.2.1 == x28.2.2.2.1) && (true))) && (((x26.2.2.2.2.1 == x28.2.2.2.2.1) && ((x26.2.2.2.2.2.1 == x28.2.2.2.2.2.1) && (true))) && (true))))) && (decide (x26.2.2.2.2.2.2 = (x28.2.2.2.2.2.2 : Int)))))] := hf.to ⟨rfl, trivial⟩
 refine W.ret ?_
 obtain rfl := Option.some.inj hm
 refine post1 hf rfl (ResOK.tmp rfl) ?_
 replace hS := hS.sub (N := []) (.cons _ (.cons _ (.cons _ (.cons _ (.cons _ (.cons _ (.cons _ .slnil)))))))
 exact ⟨(), rfl, hS.noB⟩
end Go.Proofs.Ytplgfmincflodaa
