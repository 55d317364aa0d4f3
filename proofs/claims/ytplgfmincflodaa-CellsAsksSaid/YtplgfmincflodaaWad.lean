/- Part of a proof: walks printed by a program. -/
import Derived.Test.YtplgfmincflodaaWac
set_option linter.unusedVariables false
set_option linter.unusedSimpArgs false
namespace Go.Proofs.Ytplgfmincflodaa
open Go Go.SL
def m_ref03_Check (F : Nat)  (x1 : Int) (x2 : Int) : Option Int :=
  if (((decide (x1 > (x2 : Int))) || (decide (x1 < (-2305843009213693952 : Int)))) || (decide (x2 > (2305843009213693952 : Int)))) = true then (some 8) else (some 0)
set_option maxHeartbeats 1000000 in
set_option maxRecDepth 8000 in
theorem m_ref03_Check_ok (F : Nat)   (x1 : Int) (x2 : Int) (w0 : World)  (r : Int) (hm : m_ref03_Check F x1 x2 = some r) :
    Ret Try.prog 17 #[.agg #[Iv x1, Iv x2]] w0 (G := Unit) (fun _ => Iv r) (fun _ w => St w0 w noX [] []) := by
 unfold m_ref03_Check at hm
 refine ret_of_W (lv := [.agg #[Iv x1, Iv x2]]) Try.func17 rfl rfl rfl (fun a hf => ?_)
 replace hf : Fr a 18 [] [(0, .agg #[Iv x1, Iv x2])] := hf
 have hS : St w0 w0 noX [] [] := St.borrow lendAll_nil
 refine W.seq ?_
 -- region 0
 refine W.regionL (l := [0, 1]) rfl ?_
 refine O.box (cs := #[Iv x1, Iv x2]) hf hS rfl rfl rfl rfl ?_
 clear hf hS a; intro b3 w a hb3 hS hf
 refine O.val hf rfl rfl rfl (RunV.assign rfl) ?_; clear hf a; intro a hf
 refine O.nil ?_
 refine k_seq ?_
 replace hf : Fr a 18 [] [(1, Pv b3 0), (2, Iv 0)] := hf.to ⟨rfl, rfl, trivial⟩
 refine W.seq ?_
 refine W.seq ?_
 -- region 1
 refine W.regionL (l := [0, 1, 2, 3, 4, 5, 6, 7, 8, 9, 10, 11, 12, 13, 14]) rfl ?_
 refine O.val hf rfl rfl rfl (RunV.field T_field_23_0 rfl rfl) ?_; clear hf a; intro a hf
 refine O.val hf rfl rfl rfl (RunV.load1 T_agg_2 rfl (hS.ptAt (i := 0) rfl) rfl) ?_; clear hf a; intro a hf
 refine O.val hf rfl rfl rfl (RunV.field T_field_23_1 rfl rfl) ?_; clear hf a; intro a hf
 refine O.val hf rfl rfl rfl (RunV.load1 T_agg_2 rfl (hS.ptAt (i := 0) rfl) rfl) ?_; clear hf a; intro a hf
 refine O.val (v := Bv (decide (x1 > (x2 : Int)))) hf rfl rfl rfl (RunV.gtr rfl rfl) ?_; clear hf a; intro a hf
 refine O.val hf rfl rfl rfl (RunV.move rfl) ?_; clear hf a; intro a hf
 refine O.cutN (l₁ := [6, 7, 8, 9]) (l₂ := _) (fun a w => Fr a 18 [] [(1, Pv b3 0), (2, Iv 0), (12, Bv ((decide (x1 > (x2 : Int))) || (decide (x1 < (-2305843009213693952 : Int)))))] ∧ St w0 w noX [] [pt b3 (Cs #[Iv x1, Iv x2] 23)]) rfl ?_ ?_
 ·rcases Bool.eq_false_or_eq_true (decide (x1 > (x2 : Int))) with hb4 | hb4
  ·refine O.skipB hf rfl rfl rfl hb4 rfl ?_; clear hf a; intro a hf
   refine O.skipB hf rfl rfl rfl hb4 rfl ?_; clear hf a; intro a hf
   refine O.skipB hf rfl rfl rfl hb4 rfl ?_; clear hf a; intro a hf
   refine O.val (v := Bv ((decide (x1 > (x2 : Int))) || (decide (x1 < (-2305843009213693952 : Int))))) hf rfl rfl rfl (RunV.pick rfl rfl rfl (by rw [hb4]; rfl)) ?_; clear hf a; intro a hf
   exact O.nil ⟨rfl, hf.to ⟨rfl, rfl, rfl, trivial⟩, hS⟩
  ·refine O.gvalB hf rfl rfl rfl hb4 rfl rfl (RunV.field T_field_23_0 rfl rfl) ?_; clear hf a; intro a hf
   refine O.gvalB hf rfl rfl rfl hb4 rfl rfl (RunV.load1 T_agg_2 rfl (hS.ptAt (i := 0) rfl) rfl) ?_; clear hf a; intro a hf
   refine O.gvalB (v := Bv (decide (x1 < (-2305843009213693952 : Int)))) hf rfl rfl rfl hb4 rfl rfl (RunV.lss rfl rfl) ?_; clear hf a; intro a hf
   refine O.val (v := Bv ((decide (x1 > (x2 : Int))) || (decide (x1 < (-2305843009213693952 : Int))))) hf rfl rfl rfl (RunV.pick rfl rfl rfl (by rw [hb4]; rfl)) ?_; clear hf a; intro a hf
   exact O.nil ⟨rfl, hf.to ⟨rfl, rfl, rfl, trivial⟩, hS⟩
 clear hf hS a; try clear w
 rintro a w ⟨hf, hS⟩
 refine O.val hf rfl rfl rfl (RunV.move rfl) ?_; clear hf a; intro a hf
 refine O.cutN (l₁ := [11, 12, 13, 14]) (l₂ := _) (fun a w => Fr a 18 [] [(2, Iv 0), (17, Bv (((decide (x1 > (x2 : Int))) || (decide (x1 < (-2305843009213693952 : Int)))) || (decide (x2 > (2305843009213693952 : Int)))))] ∧ St w0 w noX [] [pt b3 (Cs #[Iv x1, Iv x2] 23)]) rfl ?_ ?_
 ·rcases Bool.eq_false_or_eq_true ((decide (x1 > (x2 : Int))) || (decide (x1 < (-2305843009213693952 : Int)))) with hb5 | hb5
  ·refine O.skipB hf rfl rfl rfl hb5 rfl ?_; clear hf a; intro a hf
   refine O.skipB hf rfl rfl rfl hb5 rfl ?_; clear hf a; intro a hf
   refine O.skipB hf rfl rfl rfl hb5 rfl ?_; clear hf a; intro a hf
   refine O.val (v := Bv (((decide (x1 > (x2 : Int))) || (decide (x1 < (-2305843009213693952 : Int)))) || (decide (x2 > (2305843009213693952 : Int))))) hf rfl rfl rfl (RunV.pick rfl rfl rfl (by rw [hb5]; rfl)) ?_; clear hf a; intro a hf
   exact O.nil ⟨rfl, hf.to ⟨rfl, rfl, trivial⟩, hS⟩
  ·refine O.gvalB hf rfl rfl rfl hb5 rfl rfl (RunV.field T_field_23_1 rfl rfl) ?_; clear hf a; intro a hf
   refine O.gvalB hf rfl rfl rfl hb5 rfl rfl (RunV.load1 T_agg_2 rfl (hS.ptAt (i := 0) rfl) rfl) ?_; clear hf a; intro a hf
   refine O.gvalB (v := Bv (decide (x2 > (2305843009213693952 : Int)))) hf rfl rfl rfl hb5 rfl rfl (RunV.gtr rfl rfl) ?_; clear hf a; intro a hf
   refine O.val (v := Bv (((decide (x1 > (x2 : Int))) || (decide (x1 < (-2305843009213693952 : Int)))) || (decide (x2 > (2305843009213693952 : Int))))) hf rfl rfl rfl (RunV.pick rfl rfl rfl (by rw [hb5]; rfl)) ?_; clear hf a; intro a hf
   exact O.nil ⟨rfl, hf.to ⟨rfl, rfl, trivial⟩, hS⟩
 clear hf hS a; try clear w
 rintro a w ⟨hf, hS⟩
 refine O.nil ?_
 refine k_seq ?_
 refine W.if_ hf rfl (fun hc6 => ?_) (fun hc6 => ?_)
 ·replace hm := hm_t hm hc6
  refine W.seq ?_
  -- region 2
  refine W.regionL (l := [0]) rfl ?_
  refine O.val hf rfl rfl rfl (RunV.assign rfl) ?_; clear hf a; intro a hf
  refine O.nil ?_
  refine k_seq ?_
  replace hf : Fr a 18 [] [(2, Iv 8)] := hf.to ⟨rfl, trivial⟩
  refine W.ret ?_
  refine k_then_ret ?_
  obtain rfl := Option.some.inj hm
  refine post1 hf rfl (ResOK.tmp rfl) ?_
  replace hS := hS.sub (N := []) (.cons _ .slnil)
  exact ⟨(), rfl, hS.noB⟩
 ·replace hm := hm_f hm hc6
  refine W.skip ?_
  refine k_seq ?_
  replace hf : Fr a 18 [] [(2, Iv 0)] := hf.to ⟨rfl, trivial⟩
  refine W.seq ?_
  -- region 3
  refine W.regionL (l := [0]) rfl ?_
  refine O.val hf rfl rfl rfl (RunV.assign rfl) ?_; clear hf a; intro a hf
  refine O.nil ?_
  refine k_seq ?_
  refine W.ret ?_
  obtain rfl := Option.some.inj hm
  refine post1 hf rfl (ResOK.tmp rfl) ?_
  replace hS := hS.sub (N := []) (.cons _ .slnil)
  exact ⟨(), rfl, hS.noB⟩

def m_ref17_Check_j1 (F : Nat)  : Option Int :=
  some 0
def m_ref17_Check (F : Nat)  (x1 : Int) (x2 : Int) (x3 : Int) (x4 : Int) (x5 : Int) (x6 : Int) : Option Int :=
  (m_ref03_Check F x1 x2).bind fun x8 => if x8 ≠ (0 : Int) then ((m_ref03_Check F x1 x2).bind fun x10 => some x10) else ((m_ref03_Check F x3 x4).bind fun x11 => if x11 ≠ (0 : Int) then ((m_ref03_Check F x3 x4).bind fun x13 => some x13) else ((m_ref03_Check F x5 x6).bind fun x14 => if x14 ≠ (0 : Int) then ((m_ref03_Check F x5 x6).bind fun x16 => some x16) else (m_ref17_Check_j1 F)))
set_option maxHeartbeats 1000000 in
set_option maxRecDepth 8000 in
theorem m_ref17_Check_ok (F : Nat)   (x1 : Int) (x2 : Int) (x3 : Int) (x4 : Int) (x5 : Int) (x6 : Int) (w0 : World)  (r : Int) (hm : m_ref17_Check F x1 x2 x3 x4 x5 x6 = some r) :
    Ret Try.prog 16 #[.agg #[Iv x1, Iv x2, Iv x3, Iv x4, Iv x5, Iv x6]] w0 (G := Unit) (fun _ => Iv r) (fun _ w => St w0 w noX [] []) := by
 unfold m_ref17_Check at hm
 refine ret_of_W (lv := [.agg #[Iv x1, Iv x2, Iv x3, Iv x4, Iv x5, Iv x6]]) Try.func16 rfl rfl rfl (fun a hf => ?_)
 replace hf : Fr a 17 [] [(0, .agg #[Iv x1, Iv x2, Iv x3, Iv x4, Iv x5, Iv x6])] := hf
 have hS : St w0 w0 noX [] [] := St.borrow lendAll_nil
 refine W.seq ?_
 -- region 0
 refine W.regionL (l := [0, 1]) rfl ?_
 refine O.box (cs := #[Iv x1, Iv x2, Iv x3, Iv x4, Iv x5, Iv x6]) hf hS rfl rfl rfl rfl ?_
 clear hf hS a; intro b7 w a hb7 hS hf
 refine O.val hf rfl rfl rfl (RunV.assign rfl) ?_; clear hf a; intro a hf
 refine O.nil ?_
 refine k_seq ?_
 replace hf : Fr a 17 [] [(1, Pv b7 0), (2, Iv 0)] := hf.to ⟨rfl, rfl, trivial⟩
 refine W.seqR (fun a w => Fr a 17 [] [(2, Iv 0)] ∧ St w0 w noX [] [] ∧ m_ref17_Check_j1 F = some r) ?_ ?_
 ·refine W.seq ?_
  -- region 1
  refine W.regionL (l := [0]) rfl ?_
  refine O.val hf rfl rfl rfl (RunV.assign rfl) ?_; clear hf a; intro a hf
  refine O.nil ?_
  refine k_seq ?_
  refine W.block ?_
  refine W.loopH (LH.step ?_)
  refine W.seq ?_
  refine W.seq ?_
  -- region 2
  refine W.regionL (l := [0, 1]) rfl ?_
  refine O.val hf rfl rfl rfl (RunV.move rfl) ?_; clear hf a; intro a hf
  refine O.val (v := Bv true) hf rfl rfl rfl (RunV.lss (p := 0) (q := 3) rfl rfl) ?_; clear hf a; intro a hf
  refine O.nil ?_
  refine k_seq ?_
  refine W.if_tt hf rfl ?_
  refine W.skip ?_
  refine k_seq ?_
  refine W.seq ?_
  refine W.block ?_
  refine W.seq ?_
  -- region 4
  refine W.regionL (l := [0, 1, 2, 3, 4]) rfl ?_
  refine O.val hf rfl rfl rfl (RunV.move rfl) ?_; clear hf a; intro a hf
  refine O.val hf rfl rfl rfl (RunV.indexArr (j := 0) (m := 0) T_arr_25 T_size_23 rfl rfl rfl (by decide) rfl) ?_; clear hf a; intro a hf
  refine O.val hf rfl rfl rfl (RunV.loadN (cs' := #[Iv x1, Iv x2]) T_agg_23 T_size_23 rfl (hS.ptAt (i := 0) rfl) (Nat.le_of_ble_eq_true rfl) rfl) ?_; clear hf a; intro a hf
  obtain ⟨x8, hx8, hm⟩ := hm_b hm
  refine O.callR hf rfl rfl rfl (RunE.call (av := #[.agg #[Iv x1, Iv x2]]) C_ok_17 rfl rfl rfl) (m_ref03_Check_ok F x1 x2 _ x8 hx8) ?_
  clear hf a; rintro _ w hS1 a hf
  replace hf : Fr a _ _ ((11, Iv x8) :: _) := hf
  replace hS := (hS.call hS1).eqM (N := [pt b7 (Cs #[Iv x1, Iv x2, Iv x3, Iv x4, Iv x5, Iv x6] 25)]) rfl
  clear hS1
  refine O.val (v := Bv (decide (x8 ≠ (0 : Int)))) hf rfl rfl rfl (RunV.neq rfl rfl) ?_; clear hf a; intro a hf
  refine O.nil ?_
  refine k_seq ?_
  refine W.ifdI hf rfl (fun hc9 => ?_) (fun hc9 => ?_)
  ·replace hm := hm_p hm hc9
   refine W.seq ?_
   -- region 5
   refine W.regionL (l := [0, 1, 2, 3, 4]) rfl ?_
   refine O.val hf rfl rfl rfl (RunV.move rfl) ?_; clear hf a; intro a hf
   refine O.val hf rfl rfl rfl (RunV.indexArr (j := 0) (m := 0) T_arr_25 T_size_23 rfl rfl rfl (by decide) rfl) ?_; clear hf a; intro a hf
   refine O.val hf rfl rfl rfl (RunV.loadN (cs' := #[Iv x1, Iv x2]) T_agg_23 T_size_23 rfl (hS.ptAt (i := 0) rfl) (Nat.le_of_ble_eq_true rfl) rfl) ?_; clear hf a; intro a hf
   obtain ⟨x10, hx10, hm⟩ := hm_b hm
   refine O.callR hf rfl rfl rfl (RunE.call (av := #[.agg #[Iv x1, Iv x2]]) C_ok_17 rfl rfl rfl) (m_ref03_Check_ok F x1 x2 _ x10 hx10) ?_
   clear hf a; rintro _ w hS1 a hf
   replace hf : Fr a _ _ ((16, Iv x10) :: _) := hf
   replace hS := (hS.call hS1).eqM (N := [pt b7 (Cs #[Iv x1, Iv x2, Iv x3, Iv x4, Iv x5, Iv x6] 25)]) rfl
   clear hS1
   refine O.val hf rfl rfl rfl (RunV.assign rfl) ?_; clear hf a; intro a hf
   refine O.nil ?_
   refine k_seq ?_
   refine W.ret ?_
   refine k_blk_ret ?_
   refine k_then_ret ?_
   refine k_then_ret ?_
   refine k_blk_ret ?_
   refine k_then_ret ?_
   obtain rfl := Option.some.inj hm
   refine post1 hf rfl (ResOK.tmp rfl) ?_
   replace hS := hS.sub (N := []) (.cons _ .slnil)
   exact ⟨(), rfl, hS.noB⟩
  ·replace hm := hm_n hm hc9
   refine W.skip ?_
   refine k_blk_normal ?_
   refine k_seq ?_
   -- region 3
   refine W.regionL (l := [0, 1, 2]) rfl ?_
   refine O.val hf rfl rfl rfl (RunV.move rfl) ?_; clear hf a; intro a hf
   refine O.val (v := Iv 1) hf rfl rfl rfl (RunV.add (p := 0) (q := 1) rfl rfl) ?_; clear hf a; intro a hf
   refine O.val hf rfl rfl rfl (RunV.assign rfl) ?_; clear hf a; intro a hf
   refine O.nil ?_
   refine k_then (LH.step ?_)
   refine W.seq ?_
   refine W.seq ?_
   -- region 2
   refine W.regionL (l := [0, 1]) rfl ?_
   refine O.val hf rfl rfl rfl (RunV.move rfl) ?_; clear hf a; intro a hf
   refine O.val (v := Bv true) hf rfl rfl rfl (RunV.lss (p := 1) (q := 3) rfl rfl) ?_; clear hf a; intro a hf
   refine O.nil ?_
   refine k_seq ?_
   refine W.if_tt hf rfl ?_
   refine W.skip ?_
   refine k_seq ?_
   refine W.seq ?_
   refine W.block ?_
   refine W.seq ?_
   -- region 4
   refine W.regionL (l := [0, 1, 2, 3, 4]) rfl ?_
   refine O.val hf rfl rfl rfl (RunV.move rfl) ?_; clear hf a; intro a hf
   refine O.val hf rfl rfl rfl (RunV.indexArr (j := 1) (m := 2) T_arr_25 T_size_23 rfl rfl rfl (by decide) rfl) ?_; clear hf a; intro a hf
   refine O.val hf rfl rfl rfl (RunV.loadN (cs' := #[Iv x3, Iv x4]) T_agg_23 T_size_23 rfl (hS.ptAt (i := 0) rfl) (Nat.le_of_ble_eq_true rfl) rfl) ?_; clear hf a; intro a hf
   obtain ⟨x11, hx11, hm⟩ := hm_b hm
   refine O.callR hf rfl rfl rfl (RunE.call (av := #[.agg #[Iv x3, Iv x4]]) C_ok_17 rfl rfl rfl) (m_ref03_Check_ok F x3 x4 _ x11 hx11) ?_
   clear hf a; rintro _ w hS1 a hf
   replace hf : Fr a _ _ ((11, Iv x11) :: _) := hf
   replace hS := (hS.call hS1).eqM (N := [pt b7 (Cs #[Iv x1, Iv x2, Iv x3, Iv x4, Iv x5, Iv x6] 25)]) rfl
   clear hS1
   refine O.val (v := Bv (decide (x11 ≠ (0 : Int)))) hf rfl rfl rfl (RunV.neq rfl rfl) ?_; clear hf a; intro a hf
   refine O.nil ?_
   refine k_seq ?_
   refine W.ifdI hf rfl (fun hc12 => ?_) (fun hc12 => ?_)
   ·replace hm := hm_p hm hc12
    refine W.seq ?_
    -- region 5
    refine W.regionL (l := [0, 1, 2, 3, 4]) rfl ?_
    refine O.val hf rfl rfl rfl (RunV.move rfl) ?_; clear hf a; intro a hf
    refine O.val hf rfl rfl rfl (RunV.indexArr (j := 1) (m := 2) T_arr_25 T_size_23 rfl rfl rfl (by decide) rfl) ?_; clear hf a; intro a hf
    refine O.val hf rfl rfl rfl (RunV.loadN (cs' := #[Iv x3, Iv x4]) T_agg_23 T_size_23 rfl (hS.ptAt (i := 0) rfl) (Nat.le_of_ble_eq_true rfl) rfl) ?_; clear hf a; intro a hf
    obtain ⟨x13, hx13, hm⟩ := hm_b hm
    refine O.callR hf rfl rfl rfl (RunE.call (av := #[.agg #[Iv x3, Iv x4]]) C_ok_17 rfl rfl rfl) (m_ref03_Check_ok F x3 x4 _ x13 hx13) ?_
    clear hf a; rintro _ w hS1 a hf
    replace hf : Fr a _ _ ((16, Iv x13) :: _) := hf
    replace hS := (hS.call hS1).eqM (N := [pt b7 (Cs #[Iv x1, Iv x2, Iv x3, Iv x4, Iv x5, Iv x6] 25)]) rfl
    clear hS1
    refine O.val hf rfl rfl rfl (RunV.assign rfl) ?_; clear hf a; intro a hf
    refine O.nil ?_
    refine k_seq ?_
    refine W.ret ?_
    refine k_blk_ret ?_
    refine k_then_ret ?_
    refine k_then_ret ?_
    refine k_blk_ret ?_
    refine k_then_ret ?_
    obtain rfl := Option.some.inj hm
    refine post1 hf rfl (ResOK.tmp rfl) ?_
    replace hS := hS.sub (N := []) (.cons _ .slnil)
    exact ⟨(), rfl, hS.noB⟩
   ·replace hm := hm_n hm hc12
    refine W.skip ?_
    refine k_blk_normal ?_
    refine k_seq ?_
    -- region 3
    refine W.regionL (l := [0, 1, 2]) rfl ?_
    refine O.val hf rfl rfl rfl (RunV.move rfl) ?_; clear hf a; intro a hf
    refine O.val (v := Iv 2) hf rfl rfl rfl (RunV.add (p := 1) (q := 1) rfl rfl) ?_; clear hf a; intro a hf
    refine O.val hf rfl rfl rfl (RunV.assign rfl) ?_; clear hf a; intro a hf
    refine O.nil ?_
    refine k_then (LH.step ?_)
    refine W.seq ?_
    refine W.seq ?_
    -- region 2
    refine W.regionL (l := [0, 1]) rfl ?_
    refine O.val hf rfl rfl rfl (RunV.move rfl) ?_; clear hf a; intro a hf
    refine O.val (v := Bv true) hf rfl rfl rfl (RunV.lss (p := 2) (q := 3) rfl rfl) ?_; clear hf a; intro a hf
    refine O.nil ?_
    refine k_seq ?_
    refine W.if_tt hf rfl ?_
    refine W.skip ?_
    refine k_seq ?_
    refine W.seq ?_
    refine W.block ?_
    refine W.seq ?_
    -- region 4
    refine W.regionL (l := [0, 1, 2, 3, 4]) rfl ?_
    refine O.val hf rfl rfl rfl (RunV.move rfl) ?_; clear hf a; intro a hf
    refine O.val hf rfl rfl rfl (RunV.indexArr (j := 2) (m := 4) T_arr_25 T_size_23 rfl rfl rfl (by decide) rfl) ?_; clear hf a; intro a hf
    refine O.val hf rfl rfl rfl (RunV.loadN (cs' := #[Iv x5, Iv x6]) T_agg_23 T_size_23 rfl (hS.ptAt (i := 0) rfl) (Nat.le_of_ble_eq_true rfl) rfl) ?_; clear hf a; intro a hf
    obtain ⟨x14, hx14, hm⟩ := hm_b hm
    refine O.callR hf rfl rfl rfl (RunE.call (av := #[.agg #[Iv x5, Iv x6]]) C_ok_17 rfl rfl rfl) (m_ref03_Check_ok F x5 x6 _ x14 hx14) ?_
    clear hf a; rintro _ w hS1 a hf
    replace hf : Fr a _ _ ((11, Iv x14) :: _) := hf
    replace hS := (hS.call hS1).eqM (N := [pt b7 (Cs #[Iv x1, Iv x2, Iv x3, Iv x4, Iv x5, Iv x6] 25)]) rfl
    clear hS1
    refine O.val (v := Bv (decide (x14 ≠ (0 : Int)))) hf rfl rfl rfl (RunV.neq rfl rfl) ?_; clear hf a; intro a hf
    refine O.nil ?_
    refine k_seq ?_
    refine W.ifdI hf rfl (fun hc15 => ?_) (fun hc15 => ?_)
    ·replace hm := hm_p hm hc15
     refine W.seq ?_
     -- region 5
     refine W.regionL (l := [0, 1, 2, 3, 4]) rfl ?_
     refine O.val hf rfl rfl rfl (RunV.move rfl) ?_; clear hf a; intro a hf
     refine O.val hf rfl rfl rfl (RunV.indexArr (j := 2) (m := 4) T_arr_25 T_size_23 rfl rfl rfl (by decide) rfl) ?_; clear hf a; intro a hf
     refine O.val hf rfl rfl rfl (RunV.loadN (cs' := #[Iv x5, Iv x6]) T_agg_23 T_size_23 rfl (hS.ptAt (i := 0) rfl) (Nat.le_of_ble_eq_true rfl) rfl) ?_; clear hf a; intro a hf
     obtain ⟨x16, hx16, hm⟩ := hm_b hm
     refine O.callR hf rfl rfl rfl (RunE.call (av := #[.agg #[Iv x5, Iv x6]]) C_ok_17 rfl rfl rfl) (m_ref03_Check_ok F x5 x6 _ x16 hx16) ?_
     clear hf a; rintro _ w hS1 a hf
     replace hf : Fr a _ _ ((16, Iv x16) :: _) := hf
     replace hS := (hS.call hS1).eqM (N := [pt b7 (Cs #[Iv x1, Iv x2, Iv x3, Iv x4, Iv x5, Iv x6] 25)]) rfl
     clear hS1
     refine O.val hf rfl rfl rfl (RunV.assign rfl) ?_; clear hf a; intro a hf
     refine O.nil ?_
     refine k_seq ?_
     refine W.ret ?_
     refine k_blk_ret ?_
     refine k_then_ret ?_
     refine k_then_ret ?_
     refine k_blk_ret ?_
     refine k_then_ret ?_
     obtain rfl := Option.some.inj hm
     refine post1 hf rfl (ResOK.tmp rfl) ?_
     replace hS := hS.sub (N := []) (.cons _ .slnil)
     exact ⟨(), rfl, hS.noB⟩
    ·replace hm := hm_n hm hc15
     refine W.skip ?_
     refine k_blk_normal ?_
     refine k_seq ?_
     -- region 3
     refine W.regionL (l := [0, 1, 2]) rfl ?_
     refine O.val hf rfl rfl rfl (RunV.move rfl) ?_; clear hf a; intro a hf
     refine O.val (v := Iv 3) hf rfl rfl rfl (RunV.add (p := 2) (q := 1) rfl rfl) ?_; clear hf a; intro a hf
     refine O.val hf rfl rfl rfl (RunV.assign rfl) ?_; clear hf a; intro a hf
     refine O.nil ?_
     refine k_then (LH.step ?_)
     refine W.seq ?_
     refine W.seq ?_
     -- region 2
     refine W.regionL (l := [0, 1]) rfl ?_
     refine O.val hf rfl rfl rfl (RunV.move rfl) ?_; clear hf a; intro a hf
     refine O.val (v := Bv false) hf rfl rfl rfl (RunV.lss (p := 3) (q := 3) rfl rfl) ?_; clear hf a; intro a hf
     refine O.nil ?_
     refine k_seq ?_
     refine W.if_ff hf rfl ?_
     refine W.exit ?_
     refine k_then_exit ?_
     refine k_then_exit ?_
     refine k_blk ?_
     replace hS := hS.sub (N := []) (.cons _ .slnil)
     exact k_then ⟨hf.to ⟨rfl, trivial⟩, hS, hm⟩
 ·clear hf hS hm a; try clear w
  rintro a w ⟨hf, hS, hm⟩
  unfold m_ref17_Check_j1 at hm
  refine W.seq ?_
  -- region 6
  refine W.regionL (l := [0]) rfl ?_
  refine O.val hf rfl rfl rfl (RunV.assign rfl) ?_; clear hf a; intro a hf
  refine O.nil ?_
  refine k_seq ?_
  refine W.ret ?_
  obtain rfl := Option.some.inj hm
  refine post1 hf rfl (ResOK.tmp rfl) ?_
  exact ⟨(), rfl, hS.noB⟩

def m_ref03_size (F : Nat)  (x1 : Int) : Option Int :=
  if x1 < (0 : Int) then ((some (IntKind.u64.wrap (0 - (IntKind.u64.wrap x1)))).bind fun x3 => some x3) else (some (IntKind.u64.wrap x1))
set_option maxHeartbeats 1000000 in
set_option maxRecDepth 8000 in
theorem m_ref03_size_ok (F : Nat)   (x1 : Int) (w0 : World)  (r : Int) (hm : m_ref03_size F x1 = some r) :
    Ret Try.prog 39 #[Iv x1] w0 (G := Unit) (fun _ => Uv r) (fun _ w => St w0 w noX [] []) := by
 unfold m_ref03_size at hm
 refine ret_of_W (lv := [Iv x1]) Try.func39 rfl rfl rfl (fun a hf => ?_)
 replace hf : Fr a 10 [] [(0, Iv x1)] := hf
 have hS : St w0 w0 noX [] [] := St.borrow lendAll_nil
 refine W.seq ?_
 -- region 0
 refine W.regionL (l := [0]) rfl ?_
 refine O.val hf rfl rfl rfl (RunV.assign rfl) ?_; clear hf a; intro a hf
 refine O.nil ?_
 refine k_seq ?_
 refine W.seq ?_
 refine W.seq ?_
 -- region 1
 refine W.regionL (l := [0, 1]) rfl ?_
 refine O.val hf rfl rfl rfl (RunV.move rfl) ?_; clear hf a; intro a hf
 refine O.val (v := Bv (decide (x1 < (0 : Int)))) hf rfl rfl rfl (RunV.lss rfl rfl) ?_; clear hf a; intro a hf
 refine O.nil ?_
 refine k_seq ?_
 replace hf : Fr a 10 [] [(0, Iv x1), (2, Uv 0), (4, Bv (decide (x1 < (0 : Int))))] := hf.to ⟨rfl, rfl, rfl, trivial⟩
 refine W.ifdI hf rfl (fun hc2 => ?_) (fun hc2 => ?_)
 ·replace hm := hm_p hm hc2
  refine W.seq ?_
  -- region 2
  refine W.regionL (l := [0, 1, 2, 3]) rfl ?_
  refine O.val hf rfl rfl rfl (RunV.move rfl) ?_; clear hf a; intro a hf
  refine O.val (v := Uv (IntKind.u64.wrap x1)) hf rfl rfl rfl (RunV.conv T_und_2 T_int_62 rfl) ?_; clear hf a; intro a hf
  refine O.val (v := Uv (IntKind.u64.wrap (0 - (IntKind.u64.wrap x1)))) hf rfl rfl rfl (RunV.neg rfl) ?_; clear hf a; intro a hf
  refine O.val hf rfl rfl rfl (RunV.assign rfl) ?_; clear hf a; intro a hf
  refine O.nil ?_
  refine k_seq ?_
  replace hf : Fr a 10 [] [(0, Iv x1), (2, Uv (IntKind.u64.wrap (0 - (IntKind.u64.wrap x1))))] := hf.to ⟨rfl, rfl, trivial⟩
  obtain ⟨x3, hx3, hm⟩ := hm_b hm
  rw [Option.some.inj hx3] at hf
  refine W.ret ?_
  refine k_then_ret ?_
  obtain rfl := Option.some.inj hm
  refine post1 hf rfl (ResOK.tmp rfl) ?_
  exact ⟨(), rfl, hS.noB⟩
 ·replace hm := hm_n hm hc2
  refine W.skip ?_
  refine k_seq ?_
  replace hf : Fr a 10 [] [(0, Iv x1), (2, Uv 0)] := hf.to ⟨rfl, rfl, trivial⟩
  refine W.seq ?_
  -- region 3
  refine W.regionL (l := [0, 1, 2]) rfl ?_
  refine O.val hf rfl rfl rfl (RunV.move rfl) ?_; clear hf a; intro a hf
  refine O.val (v := Uv (IntKind.u64.wrap x1)) hf rfl rfl rfl (RunV.conv T_und_2 T_int_62 rfl) ?_; clear hf a; intro a hf
  refine O.val hf rfl rfl rfl (RunV.assign rfl) ?_; clear hf a; intro a hf
  refine O.nil ?_
  refine k_seq ?_
  replace hf : Fr a 10 [] [(2, Uv (IntKind.u64.wrap x1))] := hf.to ⟨rfl, trivial⟩
  refine W.ret ?_
  obtain rfl := Option.some.inj hm
  refine post1 hf rfl (ResOK.tmp rfl) ?_
  exact ⟨(), rfl, hS.noB⟩

def m_ref03_Times (F : Nat)  (x1 : Int) (x2 : Int) : Option (Bool × Int × Int) :=
  (m_ref03_size F x1).bind fun x4 => (m_ref03_size F x2).bind fun x5 => (m_math_bits_Mul64 F x4 x5).bind fun x6 => some ((!((decide (x1 < (0 : Int))) == (decide (x2 < (0 : Int))))) && ((decide (x6.1 > (0 : Int))) || (decide (x6.2 > (0 : Int)))), x6.1, x6.2)
set_option maxHeartbeats 1000000 in
set_option maxRecDepth 8000 in
theorem m_ref03_Times_ok (F : Nat)   (x1 : Int) (x2 : Int) (w0 : World)  (r : Bool × Int × Int) (hm : m_ref03_Times F x1 x2 = some r) :
    Ret Try.prog 34 #[Iv x1, Iv x2] w0 (G := Unit) (fun _ => .agg #[Bv r.1, Uv r.2.1, Uv r.2.2]) (fun _ w => St w0 w noX [] []) := by
 unfold m_ref03_Times at hm
 refine ret_of_W (lv := [Iv x1, Iv x2]) Try.func34 rfl rfl rfl (fun a hf => ?_)
 replace hf : Fr a 31 [] [(0, Iv x1), (1, Iv x2)] := hf
 have hS : St w0 w0 noX [] [] := St.borrow lendAll_nil
 refine W.seq ?_
 -- region 0
 refine W.regionL (l := [0]) rfl ?_
 refine O.alloc (cs := #[Bv false, Uv 0, Uv 0]) hf hS rfl rfl T_zero_72 rfl ?_
 clear hf hS a; intro b3 w a hb3 hS hf
 refine O.nil ?_
 refine k_seq ?_
 refine W.seq ?_
 -- region 1
 refine W.regionL (l := [0, 1, 2, 3, 4, 5, 6, 7, 8, 9]) rfl ?_
 refine O.val hf rfl rfl rfl (RunV.move rfl) ?_; clear hf a; intro a hf
 obtain ⟨x4, hx4, hm⟩ := hm_b hm
 refine O.callR hf rfl rfl rfl (RunE.call (av := #[Iv x1]) C_ok_39 rfl rfl rfl) (m_ref03_size_ok F x1 _ x4 hx4) ?_
 clear hf a; rintro _ w hS1 a hf
 replace hf : Fr a _ _ ((9, Uv x4) :: _) := hf
 replace hS := (hS.call hS1).eqM (N := [pt b3 (Cs #[Bv false, Uv 0, Uv 0] 72)]) rfl
 clear hS1
 refine O.val hf rfl rfl rfl (RunV.move rfl) ?_; clear hf a; intro a hf
 obtain ⟨x5, hx5, hm⟩ := hm_b hm
 refine O.callR hf rfl rfl rfl (RunE.call (av := #[Iv x2]) C_ok_39 rfl rfl rfl) (m_ref03_size_ok F x2 _ x5 hx5) ?_
 clear hf a; rintro _ w hS1 a hf
 replace hf : Fr a _ _ ((11, Uv x5) :: _) := hf
 replace hS := (hS.call hS1).eqM (N := [pt b3 (Cs #[Bv false, Uv 0, Uv 0] 72)]) rfl
 clear hS1
 obtain ⟨x6, hx6, hm⟩ := hm_b hm
 refine O.callR hf rfl rfl rfl (RunE.call (av := #[Uv x4, Uv x5]) C_ok_40 rfl rfl rfl) (m_math_bits_Mul64_ok F x4 x5 _ x6 hx6) ?_
 clear hf a; rintro _ w hS1 a hf
 replace hf : Fr a _ _ ((12, .tuple #[Uv x6.1, Uv x6.2]) :: _) := hf
 replace hS := (hS.call hS1).eqM (N := [pt b3 (Cs #[Bv false, Uv 0, Uv 0] 72)]) rfl
 clear hS1
 refine O.val hf rfl rfl rfl (RunV.move rfl) ?_; clear hf a; intro a hf
 refine O.val hf rfl rfl rfl (RunV.extract rfl rfl) ?_; clear hf a; intro a hf
 refine O.val hf rfl rfl rfl (RunV.extract rfl rfl) ?_; clear hf a; intro a hf
 refine O.val hf rfl rfl rfl (RunV.assign rfl) ?_; clear hf a; intro a hf
 refine O.val hf rfl rfl rfl (RunV.assign rfl) ?_; clear hf a; intro a hf
 refine O.nil ?_
 refine k_seq ?_
 replace hf : Fr a 31 [] [(0, Iv x1), (1, Iv x2), (4, Pv b3 0), (5, Uv x6.1), (6, Uv x6.2)] := hf.to ⟨rfl, rfl, rfl, rfl, rfl, trivial⟩
 refine W.seq ?_
 -- region 2
 refine W.regionL (l := [0, 1, 2, 3, 4, 5, 6, 7, 8, 9, 10, 11, 12, 13, 14, 15, 16]) rfl ?_
 refine O.val hf rfl rfl rfl (RunV.move rfl) ?_; clear hf a; intro a hf
 refine O.val (v := Bv (decide (x1 < (0 : Int)))) hf rfl rfl rfl (RunV.lss rfl rfl) ?_; clear hf a; intro a hf
 refine O.val hf rfl rfl rfl (RunV.move rfl) ?_; clear hf a; intro a hf
 refine O.val (v := Bv (decide (x2 < (0 : Int)))) hf rfl rfl rfl (RunV.lss rfl rfl) ?_; clear hf a; intro a hf
 refine O.val (v := Bv (!((decide (x1 < (0 : Int))) == (decide (x2 < (0 : Int)))))) hf rfl rfl rfl (RunV.neBool T_bool_4 rfl rfl) ?_; clear hf a; intro a hf
 refine O.val hf rfl rfl rfl (RunV.move rfl) ?_; clear hf a; intro a hf
 refine O.cutN (l₁ := [6, 7, 8, 9, 10, 11, 12]) (l₂ := _) (fun a w => Fr a 31 [] [(4, Pv b3 0), (5, Uv x6.1), (6, Uv x6.2), (27, Bv ((!((decide (x1 < (0 : Int))) == (decide (x2 < (0 : Int))))) && ((decide (x6.1 > (0 : Int))) || (decide (x6.2 > (0 : Int))))))] ∧ St w0 w noX [] [pt b3 (Cs #[Bv false, Uv 0, Uv 0] 72)]) rfl ?_ ?_
 ·rcases Bool.eq_false_or_eq_true (!((decide (x1 < (0 : Int))) == (decide (x2 < (0 : Int))))) with hb7 | hb7
  ·refine O.gvalB hf rfl rfl rfl hb7 rfl rfl (RunV.move rfl) ?_; clear hf a; intro a hf
   refine O.gvalB (v := Bv (decide (x6.1 > (0 : Int)))) hf rfl rfl rfl hb7 rfl rfl (RunV.gtr rfl rfl) ?_; clear hf a; intro a hf
   refine O.gvalB hf rfl rfl rfl hb7 rfl rfl (RunV.move rfl) ?_; clear hf a; intro a hf
   refine O.cutN (l₁ := [9, 10, 11]) (l₂ := _) (fun a w => Fr a 31 [] [(0, Iv x1), (1, Iv x2), (4, Pv b3 0), (5, Uv x6.1), (6, Uv x6.2), (15, Iv x1), (16, Bv (decide (x1 < (0 : Int)))), (17, Iv x2), (18, Bv (decide (x2 < (0 : Int)))), (19, Bv (!((decide (x1 < (0 : Int))) == (decide (x2 < (0 : Int)))))), (20, Bv (!((decide (x1 < (0 : Int))) == (decide (x2 < (0 : Int)))))), (21, Uv x6.1), (22, Bv (decide (x6.1 > (0 : Int)))), (23, Bv (decide (x6.1 > (0 : Int)))), (26, Bv ((decide (x6.1 > (0 : Int))) || (decide (x6.2 > (0 : Int)))))] ∧ St w0 w noX [] [pt b3 (Cs #[Bv false, Uv 0, Uv 0] 72)]) rfl ?_ ?_
   ·rcases Bool.eq_false_or_eq_true (decide (x6.1 > (0 : Int))) with hb8 | hb8
    ·refine O.skipB hf rfl rfl rfl hb8 rfl ?_; clear hf a; intro a hf
     refine O.skipB hf rfl rfl rfl hb8 rfl ?_; clear hf a; intro a hf
     refine O.gvalB (v := Bv ((decide (x6.1 > (0 : Int))) || (decide (x6.2 > (0 : Int))))) hf rfl rfl rfl hb7 rfl rfl (RunV.pick rfl rfl rfl (by rw [hb8]; rfl)) ?_; clear hf a; intro a hf
     exact O.nil ⟨rfl, hf.to ⟨rfl, rfl, rfl, rfl, rfl, rfl, rfl, rfl, rfl, rfl, rfl, rfl, rfl, rfl, rfl, trivial⟩, hS⟩
    ·refine O.gvalB hf rfl rfl rfl hb8 rfl rfl (RunV.move rfl) ?_; clear hf a; intro a hf
     refine O.gvalB (v := Bv (decide (x6.2 > (0 : Int)))) hf rfl rfl rfl hb8 rfl rfl (RunV.gtr rfl rfl) ?_; clear hf a; intro a hf
     refine O.gvalB (v := Bv ((decide (x6.1 > (0 : Int))) || (decide (x6.2 > (0 : Int))))) hf rfl rfl rfl hb7 rfl rfl (RunV.pick rfl rfl rfl (by rw [hb8]; rfl)) ?_; clear hf a; intro a hf
     exact O.nil ⟨rfl, hf.to ⟨rfl, rfl, rfl, rfl, rfl, rfl, rfl, rfl, rfl, rfl, rfl, rfl, rfl, rfl, rfl, trivial⟩, hS⟩
   clear hf hS a; try clear w
   rintro a w ⟨hf, hS⟩
   refine O.val (v := Bv ((!((decide (x1 < (0 : Int))) == (decide (x2 < (0 : Int))))) && ((decide (x6.1 > (0 : Int))) || (decide (x6.2 > (0 : Int)))))) hf rfl rfl rfl (RunV.pick rfl rfl rfl (by rw [hb7]; rfl)) ?_; clear hf a; intro a hf
   exact O.nil ⟨rfl, hf.to ⟨rfl, rfl, rfl, rfl, trivial⟩, hS⟩
  ·refine O.skipB hf rfl rfl rfl hb7 rfl ?_; clear hf a; intro a hf
   refine O.skipB hf rfl rfl rfl hb7 rfl ?_; clear hf a; intro a hf
   refine O.skipB hf rfl rfl rfl hb7 rfl ?_; clear hf a; intro a hf
   refine O.skipU hf rfl rfl rfl rfl ?_; clear hf a; intro a hf
   refine O.skipU hf rfl rfl rfl rfl ?_; clear hf a; intro a hf
   refine O.skipB hf rfl rfl rfl hb7 rfl ?_; clear hf a; intro a hf
   refine O.val (v := Bv ((!((decide (x1 < (0 : Int))) == (decide (x2 < (0 : Int))))) && ((decide (x6.1 > (0 : Int))) || (decide (x6.2 > (0 : Int)))))) hf rfl rfl rfl (RunV.pick rfl rfl rfl (by rw [hb7]; rfl)) ?_; clear hf a; intro a hf
   exact O.nil ⟨rfl, hf.to ⟨rfl, rfl, rfl, rfl, trivial⟩, hS⟩
 clear hf hS a; try clear w
 rintro a w ⟨hf, hS⟩
 refine O.val hf rfl rfl rfl (RunV.move rfl) ?_; clear hf a; intro a hf
 refine O.val hf rfl rfl rfl (RunV.move rfl) ?_; clear hf a; intro a hf
 refine O.val (v := .agg #[Bv ((!((decide (x1 < (0 : Int))) == (decide (x2 < (0 : Int))))) && ((decide (x6.1 > (0 : Int))) || (decide (x6.2 > (0 : Int))))), Uv x6.1, Uv x6.2]) hf rfl rfl rfl (RunV.buildS (cs' := #[Bv ((!((decide (x1 < (0 : Int))) == (decide (x2 < (0 : Int))))) && ((decide (x6.1 > (0 : Int))) || (decide (x6.2 > (0 : Int))))), Uv x6.1, Uv x6.2]) T_places_72 T_zero_72 rfl (by kernel_rfl)) ?_; clear hf a; intro a hf
 refine O.store (j := 0) (cs' := #[Bv ((!((decide (x1 < (0 : Int))) == (decide (x2 < (0 : Int))))) && ((decide (x6.1 > (0 : Int))) || (decide (x6.2 > (0 : Int))))), Uv x6.1, Uv x6.2]) (M' := [pt b3 (Cs #[Bv ((!((decide (x1 < (0 : Int))) == (decide (x2 < (0 : Int))))) && ((decide (x6.1 > (0 : Int))) || (decide (x6.2 > (0 : Int))))), Uv x6.1, Uv x6.2] 72)]) hf hS rfl rfl rfl T_size_72 rfl rfl rfl (Nat.le_of_ble_eq_true rfl) rfl rfl ?_
 clear hS; intro w hS
 refine O.nil ?_
 refine k_seq ?_
 replace hf : Fr a 31 [] [(4, Pv b3 0)] := hf.to ⟨rfl, trivial⟩
 refine W.ret ?_
 obtain rfl := Option.some.inj hm
 refine post1 hf rfl (ResOK.cellN (cs' := #[Bv ((!((decide (x1 < (0 : Int))) == (decide (x2 < (0 : Int))))) && ((decide (x6.1 > (0 : Int))) || (decide (x6.2 > (0 : Int))))), Uv x6.1, Uv x6.2]) rfl T_agg_72 T_size_72 (hS.ptAt (i := 0) rfl) (Nat.le_of_ble_eq_true rfl) rfl) ?_
 replace hS := hS.sub (N := []) (.cons _ .slnil)
 exact ⟨(), rfl, hS.noB⟩

def m_ref03_less_j1 (F : Nat) (x12 : Bool) (x13 : Int) (x14 : Int) (x15 : Bool) (x16 : Int) (x17 : Int) : Option Bool :=
  some ((decide (x13 < (x16 : Int))) || ((decide (x13 = (x16 : Int))) && (decide (x14 < (x17 : Int)))))
def m_ref03_less (F : Nat)  (x1 : Bool) (x2 : Int) (x3 : Int) (x4 : Bool) (x5 : Int) (x6 : Int) : Option Bool :=
  if (!(x1 == x4)) = true then (some x1) else (if (x1) = true then (m_ref03_less_j1 F x4 x5 x6 x1 x2 x3) else (m_ref03_less_j1 F x1 x2 x3 x4 x5 x6))
set_option maxHeartbeats 1000000 in
set_option maxRecDepth 8000 in
theorem m_ref03_less_ok (F : Nat)   (x1 : Bool) (x2 : Int) (x3 : Int) (x4 : Bool) (x5 : Int) (x6 : Int) (w0 : World)  (r : Bool) (hm : m_ref03_less F x1 x2 x3 x4 x5 x6 = some r) :
    Ret Try.prog 35 #[.agg #[Bv x1, Uv x2, Uv x3], .agg #[Bv x4, Uv x5, Uv x6]] w0 (G := Unit) (fun _ => Bv r) (fun _ w => St w0 w noX [] []) := by
 unfold m_ref03_less at hm
 refine ret_of_W (lv := [.agg #[Bv x1, Uv x2, Uv x3], .agg #[Bv x4, Uv x5, Uv x6]]) Try.func35 rfl rfl rfl (fun a hf => ?_)
 replace hf : Fr a 39 [] [(0, .agg #[Bv x1, Uv x2, Uv x3]), (1, .agg #[Bv x4, Uv x5, Uv x6])] := hf
 have hS : St w0 w0 noX [] [] := St.borrow lendAll_nil
 refine W.seq ?_
 -- region 0
 refine W.regionL (l := [0, 1, 2]) rfl ?_
 refine O.box (cs := #[Bv x1, Uv x2, Uv x3]) hf hS rfl rfl rfl rfl ?_
 clear hf hS a; intro b7 w a hb7 hS hf
 refine O.box (cs := #[Bv x4, Uv x5, Uv x6]) hf hS rfl rfl rfl rfl ?_
 clear hf hS a; intro b8 w a hb8 hS hf
 refine O.val hf rfl rfl rfl (RunV.assign rfl) ?_; clear hf a; intro a hf
 refine O.nil ?_
 refine k_seq ?_
 replace hf : Fr a 39 [] [(2, Pv b7 0), (3, Pv b8 0), (4, Bv false)] := hf.to ⟨rfl, rfl, rfl, trivial⟩
 refine W.seq ?_
 refine W.seq ?_
 -- region 1
 refine W.regionL (l := [0, 1, 2, 3, 4]) rfl ?_
 refine O.val hf rfl rfl rfl (RunV.field T_field_72_0 rfl rfl) ?_; clear hf a; intro a hf
 refine O.val hf rfl rfl rfl (RunV.load1 T_agg_4 rfl (hS.ptAt (i := 1) rfl) rfl) ?_; clear hf a; intro a hf
 refine O.val hf rfl rfl rfl (RunV.field T_field_72_0 rfl rfl) ?_; clear hf a; intro a hf
 refine O.val hf rfl rfl rfl (RunV.load1 T_agg_4 rfl (hS.ptAt (i := 0) rfl) rfl) ?_; clear hf a; intro a hf
 refine O.val (v := Bv (!(x1 == x4))) hf rfl rfl rfl (RunV.neBool T_bool_4 rfl rfl) ?_; clear hf a; intro a hf
 refine O.nil ?_
 refine k_seq ?_
 replace hf : Fr a 39 [] [(2, Pv b7 0), (3, Pv b8 0), (4, Bv false), (11, Bv (!(x1 == x4)))] := hf.to ⟨rfl, rfl, rfl, rfl, trivial⟩
 refine W.if_ hf rfl (fun hc9 => ?_) (fun hc9 => ?_)
 ·replace hm := hm_t hm hc9
  refine W.seq ?_
  -- region 2
  refine W.regionL (l := [0, 1, 2]) rfl ?_
  refine O.val hf rfl rfl rfl (RunV.field T_field_72_0 rfl rfl) ?_; clear hf a; intro a hf
  refine O.val hf rfl rfl rfl (RunV.load1 T_agg_4 rfl (hS.ptAt (i := 1) rfl) rfl) ?_; clear hf a; intro a hf
  refine O.val hf rfl rfl rfl (RunV.assign rfl) ?_; clear hf a; intro a hf
  refine O.nil ?_
  refine k_seq ?_
  replace hf : Fr a 39 [] [(2, Pv b7 0), (3, Pv b8 0), (4, Bv x1)] := hf.to ⟨rfl, rfl, rfl, trivial⟩
  refine W.ret ?_
  refine k_then_ret ?_
  obtain rfl := Option.some.inj hm
  refine post1 hf rfl (ResOK.tmp rfl) ?_
  replace hS := hS.sub (N := []) (.cons _ (.cons _ .slnil))
  exact ⟨(), rfl, hS.noB⟩
 ·replace hm := hm_f hm hc9
  refine W.skip ?_
  refine k_seq ?_
  replace hf : Fr a 39 [] [(2, Pv b7 0), (3, Pv b8 0), (4, Bv false)] := hf.to ⟨rfl, rfl, rfl, trivial⟩
  refine W.seq ?_
  -- region 3, which draws its order
  -- [2, 3, 4, 5] turn memory
  have hf1 : Fr a 39 [] [] := hf.to trivial
  replace hf : Fr a 39 [] [(2, Pv b7 0), (3, Pv b8 0), (4, Bv false)] := hf.to ⟨rfl, rfl, rfl, trivial⟩
  refine W.drawP (γ := Nat × Nat) (L0 := [(2, Pv b7 0), (3, Pv b8 0), (4, Bv false)]) (L1 := []) (0, 0) [2, 3, 4, 5] [0, 1] (fun i => match i with | 0 => [] | 1 => [] | 2 => [] | 3 => [] | 4 => [0, 2, 3] | 5 => [0, 1, 2, 3, 4] | _ => []) (fun i => match i with | 4 => [2, 3] | 5 => [2, 3, 4] | _ => []) (fun i => match i with | 0 => [4, 5] | 1 => [5] | 2 => [4, 5] | 3 => [4, 5] | 4 => [5] | _ => []) (fun i => match i with | 2 => [4, 5] | 3 => [4, 5] | 4 => [5] | 5 => [] | _ => []) (fun _ => []) (fun (g : Nat × Nat) j => match g, j with | (b10, b11), 0 => .agg #[Bv x1, Uv x2, Uv x3] | (b10, b11), 1 => .agg #[Bv x4, Uv x5, Uv x6] | (b10, b11), 2 => Pv b10 0 | (b10, b11), 3 => Pv b11 0 | _, _ => undef) (fun s (g : Nat × Nat) w => match g with | (b10, b11) => (s 2 = false ∧ s 3 = false ∧ s 4 = false ∧ s 5 = false ∧ St w0 w noX [] [pt b8 (Cs #[Bv x4, Uv x5, Uv x6] 72), pt b7 (Cs #[Bv x1, Uv x2, Uv x3] 72)]) ∨ (s 2 = true ∧ s 3 = false ∧ s 4 = false ∧ s 5 = false ∧ St w0 w noX [] [pt b10 (Cs #[Bv false, Uv 0, Uv 0] 72), pt b8 (Cs #[Bv x4, Uv x5, Uv x6] 72), pt b7 (Cs #[Bv x1, Uv x2, Uv x3] 72)]) ∨ (s 2 = false ∧ s 3 = true ∧ s 4 = false ∧ s 5 = false ∧ St w0 w noX [] [pt b11 (Cs #[Bv false, Uv 0, Uv 0] 72), pt b8 (Cs #[Bv x4, Uv x5, Uv x6] 72), pt b7 (Cs #[Bv x1, Uv x2, Uv x3] 72)]) ∨ (s 2 = true ∧ s 3 = true ∧ s 4 = false ∧ s 5 = false ∧ St w0 w noX [] [pt b11 (Cs #[Bv false, Uv 0, Uv 0] 72), pt b10 (Cs #[Bv false, Uv 0, Uv 0] 72), pt b8 (Cs #[Bv x4, Uv x5, Uv x6] 72), pt b7 (Cs #[Bv x1, Uv x2, Uv x3] 72)]) ∨ (s 2 = true ∧ s 3 = true ∧ s 4 = true ∧ s 5 = false ∧ St w0 w noX [] [pt b11 (Cs #[Bv false, Uv 0, Uv 0] 72), pt b10 (Cs #[Bv x1, Uv x2, Uv x3] 72), pt b8 (Cs #[Bv x4, Uv x5, Uv x6] 72), pt b7 (Cs #[Bv x1, Uv x2, Uv x3] 72)]) ∨ (s 2 = true ∧ s 3 = true ∧ s 4 = true ∧ s 5 = true ∧ St w0 w noX [] [pt b11 (Cs #[Bv x4, Uv x5, Uv x6] 72), pt b10 (Cs #[Bv x1, Uv x2, Uv x3] 72), pt b8 (Cs #[Bv x4, Uv x5, Uv x6] 72), pt b7 (Cs #[Bv x1, Uv x2, Uv x3] 72)])) P_mixed (by kernel_rfl) hf hf1 (Or.inl ⟨rfl, rfl, rfl, rfl, hS.drew⟩) ?_ ?_ ?_
  ·clear hf hf1 hS
   refine ⟨?_, ?_, trivial⟩
   ·intro s g w hsp hsb hD a hf
    obtain ⟨b10, b11⟩ := g
    rcases hD with (⟨h2_, h3_, h4_, h5_, hD⟩ | ⟨h2_, h3_, h4_, h5_, hD⟩ | ⟨h2_, h3_, h4_, h5_, hD⟩ | ⟨h2_, h3_, h4_, h5_, hD⟩ | ⟨h2_, h3_, h4_, h5_, hD⟩ | ⟨h2_, h3_, h4_, h5_, hD⟩)
    ·have hS : St w0 w noX [] [pt b8 (Cs #[Bv x4, Uv x5, Uv x6] 72), pt b7 (Cs #[Bv x1, Uv x2, Uv x3] 72)] := hD; clear hD
     replace hf : Fr a 39 [] [(2, Pv b7 0), (3, Pv b8 0), (4, Bv false)] := hf
     refine O.val hf rfl rfl rfl (RunV.loadN (cs' := #[Bv x1, Uv x2, Uv x3]) T_agg_72 T_size_72 rfl (hS.ptAt (i := 1) rfl) (Nat.le_of_ble_eq_true rfl) rfl) ?_; clear hf a; intro a hf
     exact O.nil ⟨rfl, hf.to trivial, (fun d hd => by cases (show some 14 = some d from hd); exact hf.get _ _ rfl), (Or.inl ⟨h2_, h3_, h4_, h5_, hS⟩)⟩
    ·have hS : St w0 w noX [] [pt b10 (Cs #[Bv false, Uv 0, Uv 0] 72), pt b8 (Cs #[Bv x4, Uv x5, Uv x6] 72), pt b7 (Cs #[Bv x1, Uv x2, Uv x3] 72)] := hD; clear hD
     replace hf : Fr a 39 [] [(2, Pv b7 0), (3, Pv b8 0), (4, Bv false)] := hf
     refine O.val hf rfl rfl rfl (RunV.loadN (cs' := #[Bv x1, Uv x2, Uv x3]) T_agg_72 T_size_72 rfl (hS.ptAt (i := 2) rfl) (Nat.le_of_ble_eq_true rfl) rfl) ?_; clear hf a; intro a hf
     exact O.nil ⟨rfl, hf.to trivial, (fun d hd => by cases (show some 14 = some d from hd); exact hf.get _ _ rfl), (Or.inr (Or.inl ⟨h2_, h3_, h4_, h5_, hS⟩))⟩
    ·have hS : St w0 w noX [] [pt b11 (Cs #[Bv false, Uv 0, Uv 0] 72), pt b8 (Cs #[Bv x4, Uv x5, Uv x6] 72), pt b7 (Cs #[Bv x1, Uv x2, Uv x3] 72)] := hD; clear hD
     replace hf : Fr a 39 [] [(2, Pv b7 0), (3, Pv b8 0), (4, Bv false)] := hf
     refine O.val hf rfl rfl rfl (RunV.loadN (cs' := #[Bv x1, Uv x2, Uv x3]) T_agg_72 T_size_72 rfl (hS.ptAt (i := 2) rfl) (Nat.le_of_ble_eq_true rfl) rfl) ?_; clear hf a; intro a hf
     exact O.nil ⟨rfl, hf.to trivial, (fun d hd => by cases (show some 14 = some d from hd); exact hf.get _ _ rfl), (Or.inr (Or.inr (Or.inl ⟨h2_, h3_, h4_, h5_, hS⟩)))⟩
    ·have hS : St w0 w noX [] [pt b11 (Cs #[Bv false, Uv 0, Uv 0] 72), pt b10 (Cs #[Bv false, Uv 0, Uv 0] 72), pt b8 (Cs #[Bv x4, Uv x5, Uv x6] 72), pt b7 (Cs #[Bv x1, Uv x2, Uv x3] 72)] := hD; clear hD
     replace hf : Fr a 39 [] [(2, Pv b7 0), (3, Pv b8 0), (4, Bv false)] := hf
     refine O.val hf rfl rfl rfl (RunV.loadN (cs' := #[Bv x1, Uv x2, Uv x3]) T_agg_72 T_size_72 rfl (hS.ptAt (i := 3) rfl) (Nat.le_of_ble_eq_true rfl) rfl) ?_; clear hf a; intro a hf
     exact O.nil ⟨rfl, hf.to trivial, (fun d hd => by cases (show some 14 = some d from hd); exact hf.get _ _ rfl), (Or.inr (Or.inr (Or.inr (Or.inl ⟨h2_, h3_, h4_, h5_, hS⟩))))⟩
    ·exact absurd ((hsb 4 (by simp)).symm.trans h4_) (by decide)
    ·exact absurd ((hsb 4 (by simp)).symm.trans h4_) (by decide)
   ·intro s g w hsp hsb hD a hf
    obtain ⟨b10, b11⟩ := g
    rcases hD with (⟨h2_, h3_, h4_, h5_, hD⟩ | ⟨h2_, h3_, h4_, h5_, hD⟩ | ⟨h2_, h3_, h4_, h5_, hD⟩ | ⟨h2_, h3_, h4_, h5_, hD⟩ | ⟨h2_, h3_, h4_, h5_, hD⟩ | ⟨h2_, h3_, h4_, h5_, hD⟩)
    ·have hS : St w0 w noX [] [pt b8 (Cs #[Bv x4, Uv x5, Uv x6] 72), pt b7 (Cs #[Bv x1, Uv x2, Uv x3] 72)] := hD; clear hD
     replace hf : Fr a 39 [] [(2, Pv b7 0), (3, Pv b8 0), (4, Bv false)] := hf
     refine O.val hf rfl rfl rfl (RunV.loadN (cs' := #[Bv x4, Uv x5, Uv x6]) T_agg_72 T_size_72 rfl (hS.ptAt (i := 0) rfl) (Nat.le_of_ble_eq_true rfl) rfl) ?_; clear hf a; intro a hf
     exact O.nil ⟨rfl, hf.to trivial, (fun d hd => by cases (show some 15 = some d from hd); exact hf.get _ _ rfl), (Or.inl ⟨h2_, h3_, h4_, h5_, hS⟩)⟩
    ·have hS : St w0 w noX [] [pt b10 (Cs #[Bv false, Uv 0, Uv 0] 72), pt b8 (Cs #[Bv x4, Uv x5, Uv x6] 72), pt b7 (Cs #[Bv x1, Uv x2, Uv x3] 72)] := hD; clear hD
     replace hf : Fr a 39 [] [(2, Pv b7 0), (3, Pv b8 0), (4, Bv false)] := hf
     refine O.val hf rfl rfl rfl (RunV.loadN (cs' := #[Bv x4, Uv x5, Uv x6]) T_agg_72 T_size_72 rfl (hS.ptAt (i := 1) rfl) (Nat.le_of_ble_eq_true rfl) rfl) ?_; clear hf a; intro a hf
     exact O.nil ⟨rfl, hf.to trivial, (fun d hd => by cases (show some 15 = some d from hd); exact hf.get _ _ rfl), (Or.inr (Or.inl ⟨h2_, h3_, h4_, h5_, hS⟩))⟩
    ·have hS : St w0 w noX [] [pt b11 (Cs #[Bv false, Uv 0, Uv 0] 72), pt b8 (Cs #[Bv x4, Uv x5, Uv x6] 72), pt b7 (Cs #[Bv x1, Uv x2, Uv x3] 72)] := hD; clear hD
     replace hf : Fr a 39 [] [(2, Pv b7 0), (3, Pv b8 0), (4, Bv false)] := hf
     refine O.val hf rfl rfl rfl (RunV.loadN (cs' := #[Bv x4, Uv x5, Uv x6]) T_agg_72 T_size_72 rfl (hS.ptAt (i := 1) rfl) (Nat.le_of_ble_eq_true rfl) rfl) ?_; clear hf a; intro a hf
     exact O.nil ⟨rfl, hf.to trivial, (fun d hd => by cases (show some 15 = some d from hd); exact hf.get _ _ rfl), (Or.inr (Or.inr (Or.inl ⟨h2_, h3_, h4_, h5_, hS⟩)))⟩
    ·have hS : St w0 w noX [] [pt b11 (Cs #[Bv false, Uv 0, Uv 0] 72), pt b10 (Cs #[Bv false, Uv 0, Uv 0] 72), pt b8 (Cs #[Bv x4, Uv x5, Uv x6] 72), pt b7 (Cs #[Bv x1, Uv x2, Uv x3] 72)] := hD; clear hD
     replace hf : Fr a 39 [] [(2, Pv b7 0), (3, Pv b8 0), (4, Bv false)] := hf
     refine O.val hf rfl rfl rfl (RunV.loadN (cs' := #[Bv x4, Uv x5, Uv x6]) T_agg_72 T_size_72 rfl (hS.ptAt (i := 2) rfl) (Nat.le_of_ble_eq_true rfl) rfl) ?_; clear hf a; intro a hf
     exact O.nil ⟨rfl, hf.to trivial, (fun d hd => by cases (show some 15 = some d from hd); exact hf.get _ _ rfl), (Or.inr (Or.inr (Or.inr (Or.inl ⟨h2_, h3_, h4_, h5_, hS⟩))))⟩
    ·have hS : St w0 w noX [] [pt b11 (Cs #[Bv false, Uv 0, Uv 0] 72), pt b10 (Cs #[Bv x1, Uv x2, Uv x3] 72), pt b8 (Cs #[Bv x4, Uv x5, Uv x6] 72), pt b7 (Cs #[Bv x1, Uv x2, Uv x3] 72)] := hD; clear hD
     replace hf : Fr a 39 [] [(2, Pv b7 0), (3, Pv b8 0), (4, Bv false)] := hf
     refine O.val hf rfl rfl rfl (RunV.loadN (cs' := #[Bv x4, Uv x5, Uv x6]) T_agg_72 T_size_72 rfl (hS.ptAt (i := 2) rfl) (Nat.le_of_ble_eq_true rfl) rfl) ?_; clear hf a; intro a hf
     exact O.nil ⟨rfl, hf.to trivial, (fun d hd => by cases (show some 15 = some d from hd); exact hf.get _ _ rfl), (Or.inr (Or.inr (Or.inr (Or.inr (Or.inl ⟨h2_, h3_, h4_, h5_, hS⟩)))))⟩
    ·exact absurd ((hsb 5 (by simp)).symm.trans h5_) (by decide)
  ·clear hf hf1 hS
   refine ⟨?_, ?_, ?_, ?_, trivial⟩
   ·intro s g w hs0 hsp hsb hD a hf
    obtain ⟨b10, b11⟩ := g
    rcases hD with (⟨h2_, h3_, h4_, h5_, hD⟩ | ⟨h2_, h3_, h4_, h5_, hD⟩ | ⟨h2_, h3_, h4_, h5_, hD⟩ | ⟨h2_, h3_, h4_, h5_, hD⟩ | ⟨h2_, h3_, h4_, h5_, hD⟩ | ⟨h2_, h3_, h4_, h5_, hD⟩)
    ·have hS : St w0 w noX [] [pt b8 (Cs #[Bv x4, Uv x5, Uv x6] 72), pt b7 (Cs #[Bv x1, Uv x2, Uv x3] 72)] := hD; clear hD
     replace hf : Fr a 39 [] [(2, Pv b7 0), (3, Pv b8 0), (4, Bv false)] := hf
     refine O.alloc (cs := #[Bv false, Uv 0, Uv 0]) hf hS rfl rfl T_zero_72 rfl ?_
     clear hf hS a; intro b10 w a hb10 hS hf
     exact O.nil ⟨rfl, (b10, b11), hf.to trivial, (fun d hd => by cases (show some 5 = some d from hd); exact hf.get _ _ rfl), (fun j hj hk => match j, hj, hk with | 0, hj, hk => rfl | 1, hj, hk => rfl | 2, hj, hk => absurd rfl hj | 3, hj, hk => rfl | 4, hj, hk => absurd hk (by decide) | 5, hj, hk => absurd hk (by decide) | _ + 6, _, _ => rfl), (Or.inr (Or.inl ⟨rfl, h3_, h4_, h5_, hS⟩))⟩
    ·exact absurd (hs0.symm.trans h2_) (by decide)
    ·have hS : St w0 w noX [] [pt b11 (Cs #[Bv false, Uv 0, Uv 0] 72), pt b8 (Cs #[Bv x4, Uv x5, Uv x6] 72), pt b7 (Cs #[Bv x1, Uv x2, Uv x3] 72)] := hD; clear hD
     replace hf : Fr a 39 [] [(2, Pv b7 0), (3, Pv b8 0), (4, Bv false)] := hf
     refine O.alloc (cs := #[Bv false, Uv 0, Uv 0]) hf hS rfl rfl T_zero_72 rfl ?_
     clear hf hS a; intro b10 w a hb10 hS hf
     replace hS := hS.front (i := 3) (M' := [pt b7 (Cs #[Bv x1, Uv x2, Uv x3] 72), pt b10 (Cs #[Bv false, Uv 0, Uv 0] 72), pt b11 (Cs #[Bv false, Uv 0, Uv 0] 72), pt b8 (Cs #[Bv x4, Uv x5, Uv x6] 72)]) rfl rfl
     replace hS := hS.front (i := 3) (M' := [pt b8 (Cs #[Bv x4, Uv x5, Uv x6] 72), pt b7 (Cs #[Bv x1, Uv x2, Uv x3] 72), pt b10 (Cs #[Bv false, Uv 0, Uv 0] 72), pt b11 (Cs #[Bv false, Uv 0, Uv 0] 72)]) rfl rfl
     replace hS := hS.front (i := 2) (M' := [pt b10 (Cs #[Bv false, Uv 0, Uv 0] 72), pt b8 (Cs #[Bv x4, Uv x5, Uv x6] 72), pt b7 (Cs #[Bv x1, Uv x2, Uv x3] 72), pt b11 (Cs #[Bv false, Uv 0, Uv 0] 72)]) rfl rfl
     replace hS := hS.front (i := 3) (M' := [pt b11 (Cs #[Bv false, Uv 0, Uv 0] 72), pt b10 (Cs #[Bv false, Uv 0, Uv 0] 72), pt b8 (Cs #[Bv x4, Uv x5, Uv x6] 72), pt b7 (Cs #[Bv x1, Uv x2, Uv x3] 72)]) rfl rfl
     exact O.nil ⟨rfl, (b10, b11), hf.to trivial, (fun d hd => by cases (show some 5 = some d from hd); exact hf.get _ _ rfl), (fun j hj hk => match j, hj, hk with | 0, hj, hk => rfl | 1, hj, hk => rfl | 2, hj, hk => absurd rfl hj | 3, hj, hk => rfl | 4, hj, hk => absurd hk (by decide) | 5, hj, hk => absurd hk (by decide) | _ + 6, _, _ => rfl), (Or.inr (Or.inr (Or.inr (Or.inl ⟨rfl, h3_, h4_, h5_, hS⟩))))⟩
    ·exact absurd (hs0.symm.trans h2_) (by decide)
    ·exact absurd (hs0.symm.trans h2_) (by decide)
    ·exact absurd (hs0.symm.trans h2_) (by decide)
   ·intro s g w hs0 hsp hsb hD a hf
    obtain ⟨b10, b11⟩ := g
    rcases hD with (⟨h2_, h3_, h4_, h5_, hD⟩ | ⟨h2_, h3_, h4_, h5_, hD⟩ | ⟨h2_, h3_, h4_, h5_, hD⟩ | ⟨h2_, h3_, h4_, h5_, hD⟩ | ⟨h2_, h3_, h4_, h5_, hD⟩ | ⟨h2_, h3_, h4_, h5_, hD⟩)
    ·have hS : St w0 w noX [] [pt b8 (Cs #[Bv x4, Uv x5, Uv x6] 72), pt b7 (Cs #[Bv x1, Uv x2, Uv x3] 72)] := hD; clear hD
     replace hf : Fr a 39 [] [(2, Pv b7 0), (3, Pv b8 0), (4, Bv false)] := hf
     refine O.alloc (cs := #[Bv false, Uv 0, Uv 0]) hf hS rfl rfl T_zero_72 rfl ?_
     clear hf hS a; intro b11 w a hb11 hS hf
     exact O.nil ⟨rfl, (b10, b11), hf.to trivial, (fun d hd => by cases (show some 6 = some d from hd); exact hf.get _ _ rfl), (fun j hj hk => match j, hj, hk with | 0, hj, hk => rfl | 1, hj, hk => rfl | 2, hj, hk => rfl | 3, hj, hk => absurd rfl hj | 4, hj, hk => absurd hk (by decide) | 5, hj, hk => absurd hk (by decide) | _ + 6, _, _ => rfl), (Or.inr (Or.inr (Or.inl ⟨h2_, rfl, h4_, h5_, hS⟩)))⟩
    ·have hS : St w0 w noX [] [pt b10 (Cs #[Bv false, Uv 0, Uv 0] 72), pt b8 (Cs #[Bv x4, Uv x5, Uv x6] 72), pt b7 (Cs #[Bv x1, Uv x2, Uv x3] 72)] := hD; clear hD
     replace hf : Fr a 39 [] [(2, Pv b7 0), (3, Pv b8 0), (4, Bv false)] := hf
     refine O.alloc (cs := #[Bv false, Uv 0, Uv 0]) hf hS rfl rfl T_zero_72 rfl ?_
     clear hf hS a; intro b11 w a hb11 hS hf
     exact O.nil ⟨rfl, (b10, b11), hf.to trivial, (fun d hd => by cases (show some 6 = some d from hd); exact hf.get _ _ rfl), (fun j hj hk => match j, hj, hk with | 0, hj, hk => rfl | 1, hj, hk => rfl | 2, hj, hk => rfl | 3, hj, hk => absurd rfl hj | 4, hj, hk => absurd hk (by decide) | 5, hj, hk => absurd hk (by decide) | _ + 6, _, _ => rfl), (Or.inr (Or.inr (Or.inr (Or.inl ⟨h2_, rfl, h4_, h5_, hS⟩))))⟩
    ·exact absurd (hs0.symm.trans h3_) (by decide)
    ·exact absurd (hs0.symm.trans h3_) (by decide)
    ·exact absurd (hs0.symm.trans h3_) (by decide)
    ·exact absurd (hs0.symm.trans h3_) (by decide)
   ·intro s g w hs0 hsp hsb hD a hf
    obtain ⟨b10, b11⟩ := g
    rcases hD with (⟨h2_, h3_, h4_, h5_, hD⟩ | ⟨h2_, h3_, h4_, h5_, hD⟩ | ⟨h2_, h3_, h4_, h5_, hD⟩ | ⟨h2_, h3_, h4_, h5_, hD⟩ | ⟨h2_, h3_, h4_, h5_, hD⟩ | ⟨h2_, h3_, h4_, h5_, hD⟩)
    ·exact absurd ((hsp 2 (by simp)).symm.trans h2_) (by decide)
    ·exact absurd ((hsp 3 (by simp)).symm.trans h3_) (by decide)
    ·exact absurd ((hsp 2 (by simp)).symm.trans h2_) (by decide)
    ·have hS : St w0 w noX [] [pt b11 (Cs #[Bv false, Uv 0, Uv 0] 72), pt b10 (Cs #[Bv false, Uv 0, Uv 0] 72), pt b8 (Cs #[Bv x4, Uv x5, Uv x6] 72), pt b7 (Cs #[Bv x1, Uv x2, Uv x3] 72)] := hD; clear hD
     replace hf : Fr a 39 [] [(14, .agg #[Bv x1, Uv x2, Uv x3]), (5, Pv b10 0), (6, Pv b11 0), (2, Pv b7 0), (3, Pv b8 0), (4, Bv false)] := hf
     refine O.store (j := 1) (cs' := #[Bv x1, Uv x2, Uv x3]) (M' := [pt b11 (Cs #[Bv false, Uv 0, Uv 0] 72), pt b10 (Cs #[Bv x1, Uv x2, Uv x3] 72), pt b8 (Cs #[Bv x4, Uv x5, Uv x6] 72), pt b7 (Cs #[Bv x1, Uv x2, Uv x3] 72)]) hf hS rfl rfl rfl T_size_72 rfl rfl rfl (Nat.le_of_ble_eq_true rfl) rfl rfl ?_
     clear hS; intro w hS
     exact O.nil ⟨rfl, (b10, b11), hf.to trivial, (fun d hd => by cases (show none = some d from hd)), (fun j hj hk => match j, hj, hk with | 0, hj, hk => rfl | 1, hj, hk => rfl | 2, hj, hk => rfl | 3, hj, hk => rfl | 4, hj, hk => absurd rfl hj | 5, hj, hk => absurd hk (by decide) | _ + 6, _, _ => rfl), (Or.inr (Or.inr (Or.inr (Or.inr (Or.inl ⟨h2_, h3_, rfl, h5_, hS⟩)))))⟩
    ·exact absurd (hs0.symm.trans h4_) (by decide)
    ·exact absurd (hs0.symm.trans h4_) (by decide)
   ·intro s g w hs0 hsp hsb hD a hf
    obtain ⟨b10, b11⟩ := g
    rcases hD with (⟨h2_, h3_, h4_, h5_, hD⟩ | ⟨h2_, h3_, h4_, h5_, hD⟩ | ⟨h2_, h3_, h4_, h5_, hD⟩ | ⟨h2_, h3_, h4_, h5_, hD⟩ | ⟨h2_, h3_, h4_, h5_, hD⟩ | ⟨h2_, h3_, h4_, h5_, hD⟩)
    ·exact absurd ((hsp 2 (by simp)).symm.trans h2_) (by decide)
    ·exact absurd ((hsp 3 (by simp)).symm.trans h3_) (by decide)
    ·exact absurd ((hsp 2 (by simp)).symm.trans h2_) (by decide)
    ·exact absurd ((hsp 4 (by simp)).symm.trans h4_) (by decide)
    ·have hS : St w0 w noX [] [pt b11 (Cs #[Bv false, Uv 0, Uv 0] 72), pt b10 (Cs #[Bv x1, Uv x2, Uv x3] 72), pt b8 (Cs #[Bv x4, Uv x5, Uv x6] 72), pt b7 (Cs #[Bv x1, Uv x2, Uv x3] 72)] := hD; clear hD
     replace hf : Fr a 39 [] [(14, .agg #[Bv x1, Uv x2, Uv x3]), (15, .agg #[Bv x4, Uv x5, Uv x6]), (5, Pv b10 0), (6, Pv b11 0), (2, Pv b7 0), (3, Pv b8 0), (4, Bv false)] := hf
     refine O.store (j := 0) (cs' := #[Bv x4, Uv x5, Uv x6]) (M' := [pt b11 (Cs #[Bv x4, Uv x5, Uv x6] 72), pt b10 (Cs #[Bv x1, Uv x2, Uv x3] 72), pt b8 (Cs #[Bv x4, Uv x5, Uv x6] 72), pt b7 (Cs #[Bv x1, Uv x2, Uv x3] 72)]) hf hS rfl rfl rfl T_size_72 rfl rfl rfl (Nat.le_of_ble_eq_true rfl) rfl rfl ?_
     clear hS; intro w hS
     exact O.nil ⟨rfl, (b10, b11), hf.to trivial, (fun d hd => by cases (show none = some d from hd)), (fun j hj hk => match j, hj, hk with | 0, hj, hk => rfl | 1, hj, hk => rfl | 2, hj, hk => rfl | 3, hj, hk => rfl | 4, hj, hk => rfl | 5, hj, hk => absurd rfl hj | _ + 6, _, _ => rfl), (Or.inr (Or.inr (Or.inr (Or.inr (Or.inr ⟨h2_, h3_, h4_, rfl, hS⟩)))))⟩
    ·exact absurd (hs0.symm.trans h5_) (by decide)
  clear hf hf1 hS; intro s g a w hs hf hD
  obtain ⟨b10, b11⟩ := g
  rcases hD with (⟨h2_, h3_, h4_, h5_, hD⟩ | ⟨h2_, h3_, h4_, h5_, hD⟩ | ⟨h2_, h3_, h4_, h5_, hD⟩ | ⟨h2_, h3_, h4_, h5_, hD⟩ | ⟨h2_, h3_, h4_, h5_, hD⟩ | ⟨h2_, h3_, h4_, h5_, hD⟩)
  · exact absurd ((hs 2 (by simp)).symm.trans h2_) (by decide)
  · exact absurd ((hs 3 (by simp)).symm.trans h3_) (by decide)
  · exact absurd ((hs 2 (by simp)).symm.trans h2_) (by decide)
  · exact absurd ((hs 4 (by simp)).symm.trans h4_) (by decide)
  · exact absurd ((hs 5 (by simp)).symm.trans h5_) (by decide)
  have hS : St w0 w noX [] [pt b11 (Cs #[Bv x4, Uv x5, Uv x6] 72), pt b10 (Cs #[Bv x1, Uv x2, Uv x3] 72), pt b8 (Cs #[Bv x4, Uv x5, Uv x6] 72), pt b7 (Cs #[Bv x1, Uv x2, Uv x3] 72)] := hD; clear hD
  replace hf : Fr a 39 [] [(14, .agg #[Bv x1, Uv x2, Uv x3]), (15, .agg #[Bv x4, Uv x5, Uv x6]), (5, Pv b10 0), (6, Pv b11 0), (2, Pv b7 0), (3, Pv b8 0), (4, Bv false)] := hf
  refine k_seq ?_
  replace hf : Fr a 39 [] [(2, Pv b7 0), (3, Pv b8 0), (4, Bv false), (5, Pv b10 0), (6, Pv b11 0)] := hf.to ⟨rfl, rfl, rfl, rfl, rfl, trivial⟩
  refine W.seqR (fun a w => ∃ (x12 : Bool) (x13 : Int) (x14 : Int) (x15 : Bool) (x16 : Int) (x17 : Int), Fr a 39 [] [(4, Bv false), (5, Pv b10 0), (6, Pv b11 0)] ∧ St w0 w noX [] [pt b10 (Cs #[Bv x12, Uv x13, Uv x14] 72), pt b11 (Cs #[Bv x15, Uv x16, Uv x17] 72)] ∧ m_ref03_less_j1 F x12 x13 x14 x15 x16 x17 = some r) ?_ ?_
  ·refine W.seq ?_
   -- region 4
   refine W.regionL (l := [0, 1]) rfl ?_
   refine O.val hf rfl rfl rfl (RunV.field T_field_72_0 rfl rfl) ?_; clear hf a; intro a hf
   refine O.val hf rfl rfl rfl (RunV.load1 T_agg_4 rfl (hS.ptAt (i := 3) rfl) rfl) ?_; clear hf a; intro a hf
   refine O.nil ?_
   refine k_seq ?_
   replace hf : Fr a 39 [] [(2, Pv b7 0), (3, Pv b8 0), (4, Bv false), (5, Pv b10 0), (6, Pv b11 0), (17, Bv x1)] := hf.to ⟨rfl, rfl, rfl, rfl, rfl, rfl, trivial⟩
   refine W.if_ hf rfl (fun hc20 => ?_) (fun hc20 => ?_)
   ·replace hm := hm_t hm hc20
    -- region 5, which draws its order
    -- [2, 3] turn memory
    have hf1 : Fr a 39 [] [] := hf.to trivial
    replace hf : Fr a 39 [] [(2, Pv b7 0), (3, Pv b8 0), (4, Bv false), (5, Pv b10 0), (6, Pv b11 0), (17, Bv x1)] := hf.to ⟨rfl, rfl, rfl, rfl, rfl, rfl, trivial⟩
    refine W.drawP (γ := Unit) (L0 := [(2, Pv b7 0), (3, Pv b8 0), (4, Bv false), (5, Pv b10 0), (6, Pv b11 0), (17, Bv x1)]) (L1 := []) () [2, 3] [0, 1] (fun i => match i with | 0 => [] | 1 => [] | 2 => [0] | 3 => [0, 1, 2] | _ => []) (fun i => match i with | 3 => [2] | _ => []) (fun i => match i with | 0 => [2, 3] | 1 => [3] | 2 => [3] | _ => []) (fun i => match i with | 2 => [3] | 3 => [] | _ => []) (fun _ => []) (fun (g : Unit) j => match g, j with | _, 0 => .agg #[Bv x4, Uv x5, Uv x6] | _, 1 => .agg #[Bv x1, Uv x2, Uv x3] | _, _ => undef) (fun s (g : Unit) w => match g with | _ => (s 2 = false ∧ s 3 = false ∧ St w0 w noX [] [pt b11 (Cs #[Bv x4, Uv x5, Uv x6] 72), pt b10 (Cs #[Bv x1, Uv x2, Uv x3] 72), pt b8 (Cs #[Bv x4, Uv x5, Uv x6] 72), pt b7 (Cs #[Bv x1, Uv x2, Uv x3] 72)]) ∨ (s 2 = true ∧ s 3 = false ∧ St w0 w noX [] [pt b11 (Cs #[Bv x4, Uv x5, Uv x6] 72), pt b10 (Cs #[Bv x4, Uv x5, Uv x6] 72), pt b8 (Cs #[Bv x4, Uv x5, Uv x6] 72), pt b7 (Cs #[Bv x1, Uv x2, Uv x3] 72)]) ∨ (s 2 = true ∧ s 3 = true ∧ St w0 w noX [] [pt b11 (Cs #[Bv x1, Uv x2, Uv x3] 72), pt b10 (Cs #[Bv x4, Uv x5, Uv x6] 72), pt b8 (Cs #[Bv x4, Uv x5, Uv x6] 72), pt b7 (Cs #[Bv x1, Uv x2, Uv x3] 72)])) P_mixed (by kernel_rfl) hf hf1 (Or.inl ⟨rfl, rfl, hS.drew⟩) ?_ ?_ ?_
    ·clear hf hf1 hS
     refine ⟨?_, ?_, trivial⟩
     ·intro s g w hsp hsb hD a hf
      rcases hD with (⟨h2_, h3_, hD⟩ | ⟨h2_, h3_, hD⟩ | ⟨h2_, h3_, hD⟩)
      ·have hS : St w0 w noX [] [pt b11 (Cs #[Bv x4, Uv x5, Uv x6] 72), pt b10 (Cs #[Bv x1, Uv x2, Uv x3] 72), pt b8 (Cs #[Bv x4, Uv x5, Uv x6] 72), pt b7 (Cs #[Bv x1, Uv x2, Uv x3] 72)] := hD; clear hD
       replace hf : Fr a 39 [] [(2, Pv b7 0), (3, Pv b8 0), (4, Bv false), (5, Pv b10 0), (6, Pv b11 0), (17, Bv x1)] := hf
       refine O.val hf rfl rfl rfl (RunV.loadN (cs' := #[Bv x4, Uv x5, Uv x6]) T_agg_72 T_size_72 rfl (hS.ptAt (i := 2) rfl) (Nat.le_of_ble_eq_true rfl) rfl) ?_; clear hf a; intro a hf
       exact O.nil ⟨rfl, hf.to trivial, (fun d hd => by cases (show some 18 = some d from hd); exact hf.get _ _ rfl), (Or.inl ⟨h2_, h3_, hS⟩)⟩
      ·exact absurd ((hsb 2 (by simp)).symm.trans h2_) (by decide)
      ·exact absurd ((hsb 2 (by simp)).symm.trans h2_) (by decide)
     ·intro s g w hsp hsb hD a hf
      rcases hD with (⟨h2_, h3_, hD⟩ | ⟨h2_, h3_, hD⟩ | ⟨h2_, h3_, hD⟩)
      ·have hS : St w0 w noX [] [pt b11 (Cs #[Bv x4, Uv x5, Uv x6] 72), pt b10 (Cs #[Bv x1, Uv x2, Uv x3] 72), pt b8 (Cs #[Bv x4, Uv x5, Uv x6] 72), pt b7 (Cs #[Bv x1, Uv x2, Uv x3] 72)] := hD; clear hD
       replace hf : Fr a 39 [] [(2, Pv b7 0), (3, Pv b8 0), (4, Bv false), (5, Pv b10 0), (6, Pv b11 0), (17, Bv x1)] := hf
       refine O.val hf rfl rfl rfl (RunV.loadN (cs' := #[Bv x1, Uv x2, Uv x3]) T_agg_72 T_size_72 rfl (hS.ptAt (i := 3) rfl) (Nat.le_of_ble_eq_true rfl) rfl) ?_; clear hf a; intro a hf
       exact O.nil ⟨rfl, hf.to trivial, (fun d hd => by cases (show some 19 = some d from hd); exact hf.get _ _ rfl), (Or.inl ⟨h2_, h3_, hS⟩)⟩
      ·have hS : St w0 w noX [] [pt b11 (Cs #[Bv x4, Uv x5, Uv x6] 72), pt b10 (Cs #[Bv x4, Uv x5, Uv x6] 72), pt b8 (Cs #[Bv x4, Uv x5, Uv x6] 72), pt b7 (Cs #[Bv x1, Uv x2, Uv x3] 72)] := hD; clear hD
       replace hf : Fr a 39 [] [(2, Pv b7 0), (3, Pv b8 0), (4, Bv false), (5, Pv b10 0), (6, Pv b11 0), (17, Bv x1)] := hf
       refine O.val hf rfl rfl rfl (RunV.loadN (cs' := #[Bv x1, Uv x2, Uv x3]) T_agg_72 T_size_72 rfl (hS.ptAt (i := 3) rfl) (Nat.le_of_ble_eq_true rfl) rfl) ?_; clear hf a; intro a hf
       exact O.nil ⟨rfl, hf.to trivial, (fun d hd => by cases (show some 19 = some d from hd); exact hf.get _ _ rfl), (Or.inr (Or.inl ⟨h2_, h3_, hS⟩))⟩
      ·exact absurd ((hsb 3 (by simp)).symm.trans h3_) (by decide)
    ·clear hf hf1 hS
     refine ⟨?_, ?_, trivial⟩
     ·intro s g w hs0 hsp hsb hD a hf
      rcases hD with (⟨h2_, h3_, hD⟩ | ⟨h2_, h3_, hD⟩ | ⟨h2_, h3_, hD⟩)
      ·have hS : St w0 w noX [] [pt b11 (Cs #[Bv x4, Uv x5, Uv x6] 72), pt b10 (Cs #[Bv x1, Uv x2, Uv x3] 72), pt b8 (Cs #[Bv x4, Uv x5, Uv x6] 72), pt b7 (Cs #[Bv x1, Uv x2, Uv x3] 72)] := hD; clear hD
       replace hf : Fr a 39 [] [(18, .agg #[Bv x4, Uv x5, Uv x6]), (2, Pv b7 0), (3, Pv b8 0), (4, Bv false), (5, Pv b10 0), (6, Pv b11 0), (17, Bv x1)] := hf
       refine O.store (j := 1) (cs' := #[Bv x4, Uv x5, Uv x6]) (M' := [pt b11 (Cs #[Bv x4, Uv x5, Uv x6] 72), pt b10 (Cs #[Bv x4, Uv x5, Uv x6] 72), pt b8 (Cs #[Bv x4, Uv x5, Uv x6] 72), pt b7 (Cs #[Bv x1, Uv x2, Uv x3] 72)]) hf hS rfl rfl rfl T_size_72 rfl rfl rfl (Nat.le_of_ble_eq_true rfl) rfl rfl ?_
       clear hS; intro w hS
       exact O.nil ⟨rfl, (), hf.to trivial, (fun d hd => by cases (show none = some d from hd)), (fun j hj hk => match j, hj, hk with | 0, hj, hk => rfl | 1, hj, hk => rfl | 2, hj, hk => absurd rfl hj | 3, hj, hk => absurd hk (by decide) | _ + 4, _, _ => rfl), (Or.inr (Or.inl ⟨rfl, h3_, hS⟩))⟩
      ·exact absurd (hs0.symm.trans h2_) (by decide)
      ·exact absurd (hs0.symm.trans h2_) (by decide)
     ·intro s g w hs0 hsp hsb hD a hf
      rcases hD with (⟨h2_, h3_, hD⟩ | ⟨h2_, h3_, hD⟩ | ⟨h2_, h3_, hD⟩)
      ·exact absurd ((hsp 2 (by simp)).symm.trans h2_) (by decide)
      ·have hS : St w0 w noX [] [pt b11 (Cs #[Bv x4, Uv x5, Uv x6] 72), pt b10 (Cs #[Bv x4, Uv x5, Uv x6] 72), pt b8 (Cs #[Bv x4, Uv x5, Uv x6] 72), pt b7 (Cs #[Bv x1, Uv x2, Uv x3] 72)] := hD; clear hD
       replace hf : Fr a 39 [] [(18, .agg #[Bv x4, Uv x5, Uv x6]), (19, .agg #[Bv x1, Uv x2, Uv x3]), (2, Pv b7 0), (3, Pv b8 0), (4, Bv false), (5, Pv b10 0), (6, Pv b11 0), (17, Bv x1)] := hf
       refine O.store (j := 0) (cs' := #[Bv x1, Uv x2, Uv x3]) (M' := [pt b11 (Cs #[Bv x1, Uv x2, Uv x3] 72), pt b10 (Cs #[Bv x4, Uv x5, Uv x6] 72), pt b8 (Cs #[Bv x4, Uv x5, Uv x6] 72), pt b7 (Cs #[Bv x1, Uv x2, Uv x3] 72)]) hf hS rfl rfl rfl T_size_72 rfl rfl rfl (Nat.le_of_ble_eq_true rfl) rfl rfl ?_
       clear hS; intro w hS
       exact O.nil ⟨rfl, (), hf.to trivial, (fun d hd => by cases (show none = some d from hd)), (fun j hj hk => match j, hj, hk with | 0, hj, hk => rfl | 1, hj, hk => rfl | 2, hj, hk => rfl | 3, hj, hk => absurd rfl hj | _ + 4, _, _ => rfl), (Or.inr (Or.inr ⟨h2_, rfl, hS⟩))⟩
      ·exact absurd (hs0.symm.trans h3_) (by decide)
    clear hf hf1 hS; intro s g a w hs hf hD
    rcases hD with (⟨h2_, h3_, hD⟩ | ⟨h2_, h3_, hD⟩ | ⟨h2_, h3_, hD⟩)
    · exact absurd ((hs 2 (by simp)).symm.trans h2_) (by decide)
    · exact absurd ((hs 3 (by simp)).symm.trans h3_) (by decide)
    have hS : St w0 w noX [] [pt b11 (Cs #[Bv x1, Uv x2, Uv x3] 72), pt b10 (Cs #[Bv x4, Uv x5, Uv x6] 72), pt b8 (Cs #[Bv x4, Uv x5, Uv x6] 72), pt b7 (Cs #[Bv x1, Uv x2, Uv x3] 72)] := hD; clear hD
    replace hf : Fr a 39 [] [(18, .agg #[Bv x4, Uv x5, Uv x6]), (19, .agg #[Bv x1, Uv x2, Uv x3]), (2, Pv b7 0), (3, Pv b8 0), (4, Bv false), (5, Pv b10 0), (6, Pv b11 0), (17, Bv x1)] := hf
    replace hS := hS.front (i := 1) (M' := [pt b10 (Cs #[Bv x4, Uv x5, Uv x6] 72), pt b11 (Cs #[Bv x1, Uv x2, Uv x3] 72), pt b8 (Cs #[Bv x4, Uv x5, Uv x6] 72), pt b7 (Cs #[Bv x1, Uv x2, Uv x3] 72)]) rfl rfl
    replace hS := hS.sub (N := [pt b10 (Cs #[Bv x4, Uv x5, Uv x6] 72), pt b11 (Cs #[Bv x1, Uv x2, Uv x3] 72)]) (.cons_cons _ (.cons_cons _ (.cons _ (.cons _ .slnil))))
    exact k_then ⟨x4, x5, x6, x1, x2, x3, hf.to ⟨rfl, rfl, rfl, trivial⟩, hS, hm⟩
   ·replace hm := hm_f hm hc20
    refine W.skip ?_
    replace hS := hS.front (i := 1) (M' := [pt b10 (Cs #[Bv x1, Uv x2, Uv x3] 72), pt b11 (Cs #[Bv x4, Uv x5, Uv x6] 72), pt b8 (Cs #[Bv x4, Uv x5, Uv x6] 72), pt b7 (Cs #[Bv x1, Uv x2, Uv x3] 72)]) rfl rfl
    replace hS := hS.sub (N := [pt b10 (Cs #[Bv x1, Uv x2, Uv x3] 72), pt b11 (Cs #[Bv x4, Uv x5, Uv x6] 72)]) (.cons_cons _ (.cons_cons _ (.cons _ (.cons _ .slnil))))
    exact k_then ⟨x1, x2, x3, x4, x5, x6, hf.to ⟨rfl, rfl, rfl, trivial⟩, hS, hm⟩
  ·clear hf hS hm a; try clear w
   rintro a w ⟨x12, x13, x14, x15, x16, x17, hf, hS, hm⟩
   unfold m_ref03_less_j1 at hm
   refine W.seq ?_
   -- region 6
   refine W.regionL (l := [0, 1, 2, 3, 4, 5, 6, 7, 8, 9, 10, 11, 12, 13, 14, 15, 16, 17, 18, 19]) rfl ?_
   refine O.val hf rfl rfl rfl (RunV.field T_field_72_1 rfl rfl) ?_; clear hf a; intro a hf
   refine O.val hf rfl rfl rfl (RunV.load1 T_agg_62 rfl (hS.ptAt (i := 0) rfl) rfl) ?_; clear hf a; intro a hf
   refine O.val hf rfl rfl rfl (RunV.field T_field_72_1 rfl rfl) ?_; clear hf a; intro a hf
   refine O.val hf rfl rfl rfl (RunV.load1 T_agg_62 rfl (hS.ptAt (i := 1) rfl) rfl) ?_; clear hf a; intro a hf
   refine O.val (v := Bv (decide (x13 < (x16 : Int)))) hf rfl rfl rfl (RunV.lss rfl rfl) ?_; clear hf a; intro a hf
   refine O.val hf rfl rfl rfl (RunV.move rfl) ?_; clear hf a; intro a hf
   refine O.cutN (l₁ := [6, 7, 8, 9, 10, 11, 12, 13, 14, 15, 16, 17, 18]) (l₂ := _) (fun a w => Fr a 39 [] [(4, Bv false), (38, Bv ((decide (x13 < (x16 : Int))) || ((decide (x13 = (x16 : Int))) && (decide (x14 < (x17 : Int))))))] ∧ St w0 w noX [] [pt b10 (Cs #[Bv x12, Uv x13, Uv x14] 72), pt b11 (Cs #[Bv x15, Uv x16, Uv x17] 72)]) rfl ?_ ?_
   ·rcases Bool.eq_false_or_eq_true (decide (x13 < (x16 : Int))) with hb18 | hb18
    ·refine O.skipB hf rfl rfl rfl hb18 rfl ?_; clear hf a; intro a hf
     refine O.skipB hf rfl rfl rfl hb18 rfl ?_; clear hf a; intro a hf
     refine O.skipB hf rfl rfl rfl hb18 rfl ?_; clear hf a; intro a hf
     refine O.skipB hf rfl rfl rfl hb18 rfl ?_; clear hf a; intro a hf
     refine O.skipB hf rfl rfl rfl hb18 rfl ?_; clear hf a; intro a hf
     refine O.skipB hf rfl rfl rfl hb18 rfl ?_; clear hf a; intro a hf
     refine O.skipU hf rfl rfl rfl rfl ?_; clear hf a; intro a hf
     refine O.skipU hf rfl rfl rfl rfl ?_; clear hf a; intro a hf
     refine O.skipU hf rfl rfl rfl rfl ?_; clear hf a; intro a hf
     refine O.skipU hf rfl rfl rfl rfl ?_; clear hf a; intro a hf
     refine O.skipU hf rfl rfl rfl rfl ?_; clear hf a; intro a hf
     refine O.skipB hf rfl rfl rfl hb18 rfl ?_; clear hf a; intro a hf
     refine O.val (v := Bv ((decide (x13 < (x16 : Int))) || ((decide (x13 = (x16 : Int))) && (decide (x14 < (x17 : Int)))))) hf rfl rfl rfl (RunV.pick rfl rfl rfl (by rw [hb18]; rfl)) ?_; clear hf a; intro a hf
     exact O.nil ⟨rfl, hf.to ⟨rfl, rfl, trivial⟩, hS⟩
    ·refine O.gvalB hf rfl rfl rfl hb18 rfl rfl (RunV.field T_field_72_1 rfl rfl) ?_; clear hf a; intro a hf
     refine O.gvalB hf rfl rfl rfl hb18 rfl rfl (RunV.load1 T_agg_62 rfl (hS.ptAt (i := 0) rfl) rfl) ?_; clear hf a; intro a hf
     refine O.gvalB hf rfl rfl rfl hb18 rfl rfl (RunV.field T_field_72_1 rfl rfl) ?_; clear hf a; intro a hf
     refine O.gvalB hf rfl rfl rfl hb18 rfl rfl (RunV.load1 T_agg_62 rfl (hS.ptAt (i := 1) rfl) rfl) ?_; clear hf a; intro a hf
     refine O.gvalB (v := Bv (decide (x13 = (x16 : Int)))) hf rfl rfl rfl hb18 rfl rfl (RunV.eql rfl rfl) ?_; clear hf a; intro a hf
     refine O.gvalB hf rfl rfl rfl hb18 rfl rfl (RunV.move rfl) ?_; clear hf a; intro a hf
     refine O.cutN (l₁ := [12, 13, 14, 15, 16, 17]) (l₂ := _) (fun a w => Fr a 39 [] [(4, Bv false), (5, Pv b10 0), (6, Pv b11 0), (20, Pv b10 1), (21, Uv x13), (22, Pv b11 1), (23, Uv x16), (24, Bv (decide (x13 < (x16 : Int)))), (25, Bv (decide (x13 < (x16 : Int)))), (26, Pv b10 1), (27, Uv x13), (28, Pv b11 1), (29, Uv x16), (30, Bv (decide (x13 = (x16 : Int)))), (31, Bv (decide (x13 = (x16 : Int)))), (37, Bv ((decide (x13 = (x16 : Int))) && (decide (x14 < (x17 : Int)))))] ∧ St w0 w noX [] [pt b10 (Cs #[Bv x12, Uv x13, Uv x14] 72), pt b11 (Cs #[Bv x15, Uv x16, Uv x17] 72)]) rfl ?_ ?_
     ·rcases Bool.eq_false_or_eq_true (decide (x13 = (x16 : Int))) with hb19 | hb19
      ·refine O.gvalB hf rfl rfl rfl hb19 rfl rfl (RunV.field T_field_72_2 rfl rfl) ?_; clear hf a; intro a hf
       refine O.gvalB hf rfl rfl rfl hb19 rfl rfl (RunV.load1 T_agg_62 rfl (hS.ptAt (i := 0) rfl) rfl) ?_; clear hf a; intro a hf
       refine O.gvalB hf rfl rfl rfl hb19 rfl rfl (RunV.field T_field_72_2 rfl rfl) ?_; clear hf a; intro a hf
       refine O.gvalB hf rfl rfl rfl hb19 rfl rfl (RunV.load1 T_agg_62 rfl (hS.ptAt (i := 1) rfl) rfl) ?_; clear hf a; intro a hf
       refine O.gvalB (v := Bv (decide (x14 < (x17 : Int)))) hf rfl rfl rfl hb19 rfl rfl (RunV.lss rfl rfl) ?_; clear hf a; intro a hf
       refine O.gvalB (v := Bv ((decide (x13 = (x16 : Int))) && (decide (x14 < (x17 : Int))))) hf rfl rfl rfl hb18 rfl rfl (RunV.pick rfl rfl rfl (by rw [hb19]; rfl)) ?_; clear hf a; intro a hf
       exact O.nil ⟨rfl, hf.to ⟨rfl, rfl, rfl, rfl, rfl, rfl, rfl, rfl, rfl, rfl, rfl, rfl, rfl, rfl, rfl, rfl, trivial⟩, hS⟩
      ·refine O.skipB hf rfl rfl rfl hb19 rfl ?_; clear hf a; intro a hf
       refine O.skipB hf rfl rfl rfl hb19 rfl ?_; clear hf a; intro a hf
       refine O.skipB hf rfl rfl rfl hb19 rfl ?_; clear hf a; intro a hf
       refine O.skipB hf rfl rfl rfl hb19 rfl ?_; clear hf a; intro a hf
       refine O.skipB hf rfl rfl rfl hb19 rfl ?_; clear hf a; intro a hf
       refine O.gvalB (v := Bv ((decide (x13 = (x16 : Int))) && (decide (x14 < (x17 : Int))))) hf rfl rfl rfl hb18 rfl rfl (RunV.pick rfl rfl rfl (by rw [hb19]; rfl)) ?_; clear hf a; intro a hf
       exact O.nil ⟨rfl, hf.to ⟨rfl, rfl, rfl, rfl, rfl, rfl, rfl, rfl, rfl, rfl, rfl, rfl, rfl, rfl, rfl, rfl, trivial⟩, hS⟩
     clear hf hS a; try clear w
     rintro a w ⟨hf, hS⟩
     refine O.val (v := Bv ((decide (x13 < (x16 : Int))) || ((decide (x13 = (x16 : Int))) && (decide (x14 < (x17 : Int)))))) hf rfl rfl rfl (RunV.pick rfl rfl rfl (by rw [hb18]; rfl)) ?_; clear hf a; intro a hf
     exact O.nil ⟨rfl, hf.to ⟨rfl, rfl, trivial⟩, hS⟩
   clear hf hS a; try clear w
   rintro a w ⟨hf, hS⟩
   refine O.val hf rfl rfl rfl (RunV.assign rfl) ?_; clear hf a; intro a hf
   refine O.nil ?_
   refine k_seq ?_
   replace hf : Fr a 39 [] [(4, Bv ((decide (x13 < (x16 : Int))) || ((decide (x13 = (x16 : Int))) && (decide (x14 < (x17 : Int))))))] := hf.to ⟨rfl, trivial⟩
   refine W.ret ?_
   obtain rfl := Option.some.inj hm
   refine post1 hf rfl (ResOK.tmp rfl) ?_
   replace hS := hS.sub (N := []) (.cons _ (.cons _ .slnil))
   exact ⟨(), rfl, hS.noB⟩

def m_ref03_turned (F : Nat)  (x1 : Bool) (x2 : Int) (x3 : Int) : Option Bool :=
  some ((!x1) && ((decide (x2 > (0 : Int))) || (decide (x3 > (0 : Int)))))
set_option maxHeartbeats 1000000 in
set_option maxRecDepth 8000 in
theorem m_ref03_turned_ok (F : Nat)   (x1 : Bool) (x2 : Int) (x3 : Int) (w0 : World)  (r : Bool) (hm : m_ref03_turned F x1 x2 x3 = some r) :
    Ret Try.prog 36 #[.agg #[Bv x1, Uv x2, Uv x3]] w0 (G := Unit) (fun _ => .agg #[Bv r, Uv x2, Uv x3]) (fun _ w => St w0 w noX [] []) := by
 unfold m_ref03_turned at hm
 refine ret_of_W (lv := [.agg #[Bv x1, Uv x2, Uv x3]]) Try.func36 rfl rfl rfl (fun a hf => ?_)
 replace hf : Fr a 21 [] [(0, .agg #[Bv x1, Uv x2, Uv x3])] := hf
 have hS : St w0 w0 noX [] [] := St.borrow lendAll_nil
 refine W.seq ?_
 -- region 0
 refine W.regionL (l := [0, 1]) rfl ?_
 refine O.box (cs := #[Bv x1, Uv x2, Uv x3]) hf hS rfl rfl rfl rfl ?_
 clear hf hS a; intro b4 w a hb4 hS hf
 refine O.alloc (cs := #[Bv false, Uv 0, Uv 0]) hf hS rfl rfl T_zero_72 rfl ?_
 clear hf hS a; intro b5 w a hb5 hS hf
 refine O.nil ?_
 refine k_seq ?_
 replace hf : Fr a 21 [] [(1, Pv b4 0), (2, Pv b5 0)] := hf.to ⟨rfl, rfl, trivial⟩
 refine W.seq ?_
 -- region 1
 refine W.regionL (l := [0, 1, 2, 3, 4, 5, 6, 7, 8, 9, 10, 11, 12, 13, 14, 15, 16, 17, 18]) rfl ?_
 refine O.val hf rfl rfl rfl (RunV.field T_field_72_0 rfl rfl) ?_; clear hf a; intro a hf
 refine O.val hf rfl rfl rfl (RunV.load1 T_agg_4 rfl (hS.ptAt (i := 1) rfl) rfl) ?_; clear hf a; intro a hf
 refine O.val (v := Bv (!x1)) hf rfl rfl rfl (RunV.not rfl) ?_; clear hf a; intro a hf
 refine O.val hf rfl rfl rfl (RunV.move rfl) ?_; clear hf a; intro a hf
 refine O.cutN (l₁ := [4, 5, 6, 7, 8, 9, 10, 11, 12]) (l₂ := _) (fun a w => Fr a 21 [] [(1, Pv b4 0), (2, Pv b5 0), (15, Bv ((!x1) && ((decide (x2 > (0 : Int))) || (decide (x3 > (0 : Int))))))] ∧ St w0 w noX [] [pt b5 (Cs #[Bv false, Uv 0, Uv 0] 72), pt b4 (Cs #[Bv x1, Uv x2, Uv x3] 72)]) rfl ?_ ?_
 ·rcases Bool.eq_false_or_eq_true (!x1) with hb6 | hb6
  ·refine O.gvalB hf rfl rfl rfl hb6 rfl rfl (RunV.field T_field_72_1 rfl rfl) ?_; clear hf a; intro a hf
   refine O.gvalB hf rfl rfl rfl hb6 rfl rfl (RunV.load1 T_agg_62 rfl (hS.ptAt (i := 1) rfl) rfl) ?_; clear hf a; intro a hf
   refine O.gvalB (v := Bv (decide (x2 > (0 : Int)))) hf rfl rfl rfl hb6 rfl rfl (RunV.gtr rfl rfl) ?_; clear hf a; intro a hf
   refine O.gvalB hf rfl rfl rfl hb6 rfl rfl (RunV.move rfl) ?_; clear hf a; intro a hf
   refine O.cutN (l₁ := [8, 9, 10, 11]) (l₂ := _) (fun a w => Fr a 21 [] [(1, Pv b4 0), (2, Pv b5 0), (3, Pv b4 0), (4, Bv x1), (5, Bv (!x1)), (6, Bv (!x1)), (7, Pv b4 1), (8, Uv x2), (9, Bv (decide (x2 > (0 : Int)))), (10, Bv (decide (x2 > (0 : Int)))), (14, Bv ((decide (x2 > (0 : Int))) || (decide (x3 > (0 : Int)))))] ∧ St w0 w noX [] [pt b5 (Cs #[Bv false, Uv 0, Uv 0] 72), pt b4 (Cs #[Bv x1, Uv x2, Uv x3] 72)]) rfl ?_ ?_
   ·rcases Bool.eq_false_or_eq_true (decide (x2 > (0 : Int))) with hb7 | hb7
    ·refine O.skipB hf rfl rfl rfl hb7 rfl ?_; clear hf a; intro a hf
     refine O.skipB hf rfl rfl rfl hb7 rfl ?_; clear hf a; intro a hf
     refine O.skipB hf rfl rfl rfl hb7 rfl ?_; clear hf a; intro a hf
     refine O.gvalB (v := Bv ((decide (x2 > (0 : Int))) || (decide (x3 > (0 : Int))))) hf rfl rfl rfl hb6 rfl rfl (RunV.pick rfl rfl rfl (by rw [hb7]; rfl)) ?_; clear hf a; intro a hf
     exact O.nil ⟨rfl, hf.to ⟨rfl, rfl, rfl, rfl, rfl, rfl, rfl, rfl, rfl, rfl, rfl, trivial⟩, hS⟩
    ·refine O.gvalB hf rfl rfl rfl hb7 rfl rfl (RunV.field T_field_72_2 rfl rfl) ?_; clear hf a; intro a hf
     refine O.gvalB hf rfl rfl rfl hb7 rfl rfl (RunV.load1 T_agg_62 rfl (hS.ptAt (i := 1) rfl) rfl) ?_; clear hf a; intro a hf
     refine O.gvalB (v := Bv (decide (x3 > (0 : Int)))) hf rfl rfl rfl hb7 rfl rfl (RunV.gtr rfl rfl) ?_; clear hf a; intro a hf
     refine O.gvalB (v := Bv ((decide (x2 > (0 : Int))) || (decide (x3 > (0 : Int))))) hf rfl rfl rfl hb6 rfl rfl (RunV.pick rfl rfl rfl (by rw [hb7]; rfl)) ?_; clear hf a; intro a hf
     exact O.nil ⟨rfl, hf.to ⟨rfl, rfl, rfl, rfl, rfl, rfl, rfl, rfl, rfl, rfl, rfl, trivial⟩, hS⟩
   clear hf hS a; try clear w
   rintro a w ⟨hf, hS⟩
   refine O.val (v := Bv ((!x1) && ((decide (x2 > (0 : Int))) || (decide (x3 > (0 : Int)))))) hf rfl rfl rfl (RunV.pick rfl rfl rfl (by rw [hb6]; rfl)) ?_; clear hf a; intro a hf
   exact O.nil ⟨rfl, hf.to ⟨rfl, rfl, rfl, trivial⟩, hS⟩
  ·refine O.skipB hf rfl rfl rfl hb6 rfl ?_; clear hf a; intro a hf
   refine O.skipB hf rfl rfl rfl hb6 rfl ?_; clear hf a; intro a hf
   refine O.skipB hf rfl rfl rfl hb6 rfl ?_; clear hf a; intro a hf
   refine O.skipB hf rfl rfl rfl hb6 rfl ?_; clear hf a; intro a hf
   refine O.skipU hf rfl rfl rfl rfl ?_; clear hf a; intro a hf
   refine O.skipU hf rfl rfl rfl rfl ?_; clear hf a; intro a hf
   refine O.skipU hf rfl rfl rfl rfl ?_; clear hf a; intro a hf
   refine O.skipB hf rfl rfl rfl hb6 rfl ?_; clear hf a; intro a hf
   refine O.val (v := Bv ((!x1) && ((decide (x2 > (0 : Int))) || (decide (x3 > (0 : Int)))))) hf rfl rfl rfl (RunV.pick rfl rfl rfl (by rw [hb6]; rfl)) ?_; clear hf a; intro a hf
   exact O.nil ⟨rfl, hf.to ⟨rfl, rfl, rfl, trivial⟩, hS⟩
 clear hf hS a; try clear w
 rintro a w ⟨hf, hS⟩
 refine O.val hf rfl rfl rfl (RunV.field T_field_72_1 rfl rfl) ?_; clear hf a; intro a hf
 refine O.val hf rfl rfl rfl (RunV.load1 T_agg_62 rfl (hS.ptAt (i := 1) rfl) rfl) ?_; clear hf a; intro a hf
 refine O.val hf rfl rfl rfl (RunV.field T_field_72_2 rfl rfl) ?_; clear hf a; intro a hf
 refine O.val hf rfl rfl rfl (RunV.load1 T_agg_62 rfl (hS.ptAt (i := 1) rfl) rfl) ?_; clear hf a; intro a hf
 refine O.val (v := .agg #[Bv ((!x1) && ((decide (x2 > (0 : Int))) || (decide (x3 > (0 : Int))))), Uv x2, Uv x3]) hf rfl rfl rfl (RunV.buildS (cs' := #[Bv ((!x1) && ((decide (x2 > (0 : Int))) || (decide (x3 > (0 : Int))))), Uv x2, Uv x3]) T_places_72 T_zero_72 rfl (by kernel_rfl)) ?_; clear hf a; intro a hf
 refine O.store (j := 0) (cs' := #[Bv ((!x1) && ((decide (x2 > (0 : Int))) || (decide (x3 > (0 : Int))))), Uv x2, Uv x3]) (M' := [pt b5 (Cs #[Bv ((!x1) && ((decide (x2 > (0 : Int))) || (decide (x3 > (0 : Int))))), Uv x2, Uv x3] 72), pt b4 (Cs #[Bv x1, Uv x2, Uv x3] 72)]) hf hS rfl rfl rfl T_size_72 rfl rfl rfl (Nat.le_of_ble_eq_true rfl) rfl rfl ?_
 clear hS; intro w hS
 refine O.nil ?_
 refine k_seq ?_
 replace hf : Fr a 21 [] [(2, Pv b5 0)] := hf.to ⟨rfl, trivial⟩
 refine W.ret ?_
 obtain rfl := Option.some.inj hm
 refine post1 hf rfl (ResOK.cellN (cs' := #[Bv ((!x1) && ((decide (x2 > (0 : Int))) || (decide (x3 > (0 : Int))))), Uv x2, Uv x3]) rfl T_agg_72 T_size_72 (hS.ptAt (i := 0) rfl) (Nat.le_of_ble_eq_true rfl) rfl) ?_
 replace hS := hS.sub (N := []) (.cons _ (.cons _ .slnil))
 exact ⟨(), rfl, hS.noB⟩

def m_ref03_over_j1 (F : Nat) (x1 : Bool) (x11 : Int) : Option Int :=
  if (x1) = true then ((some (IntKind.i64.wrap (0 - (IntKind.i64.wrap x11)))).bind fun x13 => some x13) else (some (IntKind.i64.wrap x11))
def m_ref03_over_j2 (F : Nat) (x5 : Bool) (x1 : Bool) (x9 : Int) (x10 : Int) : Option Int :=
  if ((decide (x10 > (0 : Int))) && (!(x5 == x1))) = true then (m_ref03_over_j1 F x1 (IntKind.u64.wrap (x9 + 1))) else (m_ref03_over_j1 F x1 x9)
def m_ref03_over_j3 (F : Nat) (x5 : Bool) (x1 : Bool) (x7 : Int) (x8 : Int) : Option Int :=
  if x7 ≥ (4611686018427387904 : Int) then (m_ref03_over_j2 F x5 x1 4611686018427387904 0) else (m_ref03_over_j2 F x5 x1 x7 x8)
def m_ref03_over (F : Nat)  (x1 : Bool) (x2 : Int) (x3 : Int) (x4 : Int) (x5 : Bool) : Option Int :=
  if x2 < (x4 : Int) then ((m_math_bits_Div64 F x2 x3 x4).bind fun x18 => m_ref03_over_j3 F x5 x1 x18.1 x18.2) else (m_ref03_over_j3 F x5 x1 4611686018427387904 0)
set_option maxHeartbeats 1000000 in
set_option maxRecDepth 8000 in
theorem m_ref03_over_ok (F : Nat)   (x1 : Bool) (x2 : Int) (x3 : Int) (x4 : Int) (x5 : Bool) (w0 : World)  (r : Int) (hm : m_ref03_over F x1 x2 x3 x4 x5 = some r) :
    Ret Try.prog 38 #[.agg #[Bv x1, Uv x2, Uv x3], Uv x4, Bv x5] w0 (G := Unit) (fun _ => Iv r) (fun _ w => St w0 w noX [] []) := by
 unfold m_ref03_over at hm
 refine ret_of_W (lv := [.agg #[Bv x1, Uv x2, Uv x3], Uv x4, Bv x5]) Try.func38 rfl rfl rfl (fun a hf => ?_)
 replace hf : Fr a 41 [] [(0, .agg #[Bv x1, Uv x2, Uv x3]), (1, Uv x4), (2, Bv x5)] := hf
 have hS : St w0 w0 noX [] [] := St.borrow lendAll_nil
 refine W.seq ?_
 -- region 0
 refine W.regionL (l := [0, 1]) rfl ?_
 refine O.box (cs := #[Bv x1, Uv x2, Uv x3]) hf hS rfl rfl rfl rfl ?_
 clear hf hS a; intro b6 w a hb6 hS hf
 refine O.val hf rfl rfl rfl (RunV.assign rfl) ?_; clear hf a; intro a hf
 refine O.nil ?_
 refine k_seq ?_
 replace hf : Fr a 41 [] [(1, Uv x4), (2, Bv x5), (3, Pv b6 0), (6, Iv 0)] := hf.to ⟨rfl, rfl, rfl, rfl, trivial⟩
 refine W.seq ?_
 -- region 1
 refine W.regionL (l := [0, 1]) rfl ?_
 refine O.val hf rfl rfl rfl (RunV.assign rfl) ?_; clear hf a; intro a hf
 refine O.val hf rfl rfl rfl (RunV.assign rfl) ?_; clear hf a; intro a hf
 refine O.nil ?_
 refine k_seq ?_
 refine W.seqR (fun a w => ∃ (x7 : Int) (x8 : Int), Fr a 41 [] [(2, Bv x5), (3, Pv b6 0), (6, Iv 0), (7, Uv x7), (8, Uv x8)] ∧ St w0 w noX [] [pt b6 (Cs #[Bv x1, Uv x2, Uv x3] 72)] ∧ m_ref03_over_j3 F x5 x1 x7 x8 = some r) ?_ ?_
 ·refine W.seq ?_
  -- region 2
  refine W.regionL (l := [0, 1, 2, 3]) rfl ?_
  refine O.val hf rfl rfl rfl (RunV.field T_field_72_1 rfl rfl) ?_; clear hf a; intro a hf
  refine O.val hf rfl rfl rfl (RunV.load1 T_agg_62 rfl (hS.ptAt (i := 0) rfl) rfl) ?_; clear hf a; intro a hf
  refine O.val hf rfl rfl rfl (RunV.move rfl) ?_; clear hf a; intro a hf
  refine O.val (v := Bv (decide (x2 < (x4 : Int)))) hf rfl rfl rfl (RunV.lss rfl rfl) ?_; clear hf a; intro a hf
  refine O.nil ?_
  refine k_seq ?_
  replace hf : Fr a 41 [] [(1, Uv x4), (2, Bv x5), (3, Pv b6 0), (6, Iv 0), (7, Uv 4611686018427387904), (8, Uv 0), (12, Bv (decide (x2 < (x4 : Int))))] := hf.to ⟨rfl, rfl, rfl, rfl, rfl, rfl, rfl, trivial⟩
  refine W.ifdI hf rfl (fun hc17 => ?_) (fun hc17 => ?_)
  ·replace hm := hm_p hm hc17
   -- region 3
   refine W.regionL (l := [0, 1, 2, 3, 4, 5, 6, 7, 8, 9, 10]) rfl ?_
   refine O.val hf rfl rfl rfl (RunV.field T_field_72_1 rfl rfl) ?_; clear hf a; intro a hf
   refine O.val hf rfl rfl rfl (RunV.load1 T_agg_62 rfl (hS.ptAt (i := 0) rfl) rfl) ?_; clear hf a; intro a hf
   refine O.val hf rfl rfl rfl (RunV.field T_field_72_2 rfl rfl) ?_; clear hf a; intro a hf
   refine O.val hf rfl rfl rfl (RunV.load1 T_agg_62 rfl (hS.ptAt (i := 0) rfl) rfl) ?_; clear hf a; intro a hf
   refine O.val hf rfl rfl rfl (RunV.move rfl) ?_; clear hf a; intro a hf
   obtain ⟨x18, hx18, hm⟩ := hm_b hm
   refine O.callR hf rfl rfl rfl (RunE.call (av := #[Uv x2, Uv x3, Uv x4]) C_ok_43 rfl rfl rfl) (m_math_bits_Div64_ok F x2 x3 x4 _ x18 hx18) ?_
   clear hf a; rintro _ w hS1 a hf
   replace hf : Fr a _ _ ((19, .tuple #[Uv x18.1, Uv x18.2]) :: _) := hf
   replace hS := (hS.call hS1).eqM (N := [pt b6 (Cs #[Bv x1, Uv x2, Uv x3] 72)]) rfl
   clear hS1
   refine O.val hf rfl rfl rfl (RunV.move rfl) ?_; clear hf a; intro a hf
   refine O.val hf rfl rfl rfl (RunV.extract rfl rfl) ?_; clear hf a; intro a hf
   refine O.val hf rfl rfl rfl (RunV.extract rfl rfl) ?_; clear hf a; intro a hf
   refine O.val hf rfl rfl rfl (RunV.assign rfl) ?_; clear hf a; intro a hf
   refine O.val hf rfl rfl rfl (RunV.assign rfl) ?_; clear hf a; intro a hf
   refine O.nil ?_
   exact k_then ⟨x18.1, x18.2, hf.to ⟨rfl, rfl, rfl, rfl, rfl, trivial⟩, hS, hm⟩
  ·replace hm := hm_n hm hc17
   refine W.skip ?_
   exact k_then ⟨4611686018427387904, 0, hf.to ⟨rfl, rfl, rfl, rfl, rfl, trivial⟩, hS, hm⟩
 ·clear hf hS hm a; try clear w
  rintro a w ⟨x7, x8, hf, hS, hm⟩
  unfold m_ref03_over_j3 at hm
  refine W.seqR (fun a w => ∃ (x9 : Int) (x10 : Int), Fr a 41 [] [(2, Bv x5), (3, Pv b6 0), (6, Iv 0), (7, Uv x9), (8, Uv x10)] ∧ St w0 w noX [] [pt b6 (Cs #[Bv x1, Uv x2, Uv x3] 72)] ∧ m_ref03_over_j2 F x5 x1 x9 x10 = some r) ?_ ?_
  ·refine W.seq ?_
   -- region 4
   refine W.regionL (l := [0, 1]) rfl ?_
   refine O.val hf rfl rfl rfl (RunV.move rfl) ?_; clear hf a; intro a hf
   refine O.val (v := Bv (decide (x7 ≥ (4611686018427387904 : Int)))) hf rfl rfl rfl (RunV.geq rfl rfl) ?_; clear hf a; intro a hf
   refine O.nil ?_
   refine k_seq ?_
   replace hf : Fr a 41 [] [(2, Bv x5), (3, Pv b6 0), (6, Iv 0), (7, Uv x7), (8, Uv x8), (23, Bv (decide (x7 ≥ (4611686018427387904 : Int))))] := hf.to ⟨rfl, rfl, rfl, rfl, rfl, rfl, trivial⟩
   refine W.ifdI hf rfl (fun hc16 => ?_) (fun hc16 => ?_)
   ·replace hm := hm_p hm hc16
    -- region 5
    refine W.regionL (l := [0, 1]) rfl ?_
    refine O.val hf rfl rfl rfl (RunV.assign rfl) ?_; clear hf a; intro a hf
    refine O.val hf rfl rfl rfl (RunV.assign rfl) ?_; clear hf a; intro a hf
    refine O.nil ?_
    exact k_then ⟨4611686018427387904, 0, hf.to ⟨rfl, rfl, rfl, rfl, rfl, trivial⟩, hS, hm⟩
   ·replace hm := hm_n hm hc16
    refine W.skip ?_
    exact k_then ⟨x7, x8, hf.to ⟨rfl, rfl, rfl, rfl, rfl, trivial⟩, hS, hm⟩
  ·clear hf hS hm a; try clear w
   rintro a w ⟨x9, x10, hf, hS, hm⟩
   unfold m_ref03_over_j2 at hm
   refine W.seqR (fun a w => ∃ (x11 : Int), Fr a 41 [] [(3, Pv b6 0), (6, Iv 0), (7, Uv x11)] ∧ St w0 w noX [] [pt b6 (Cs #[Bv x1, Uv x2, Uv x3] 72)] ∧ m_ref03_over_j1 F x1 x11 = some r) ?_ ?_
   ·refine W.seq ?_
    -- region 6
    refine W.regionL (l := [0, 1, 2, 3, 4, 5, 6, 7]) rfl ?_
    refine O.val hf rfl rfl rfl (RunV.move rfl) ?_; clear hf a; intro a hf
    refine O.val (v := Bv (decide (x10 > (0 : Int)))) hf rfl rfl rfl (RunV.gtr rfl rfl) ?_; clear hf a; intro a hf
    refine O.val hf rfl rfl rfl (RunV.move rfl) ?_; clear hf a; intro a hf
    refine O.cutN (l₁ := [3, 4, 5, 6, 7]) (l₂ := _) (fun a w => Fr a 41 [] [(3, Pv b6 0), (6, Iv 0), (7, Uv x9), (31, Bv ((decide (x10 > (0 : Int))) && (!(x5 == x1))))] ∧ St w0 w noX [] [pt b6 (Cs #[Bv x1, Uv x2, Uv x3] 72)]) rfl ?_ ?_
    ·rcases Bool.eq_false_or_eq_true (decide (x10 > (0 : Int))) with hb14 | hb14
     ·refine O.gvalB hf rfl rfl rfl hb14 rfl rfl (RunV.move rfl) ?_; clear hf a; intro a hf
      refine O.gvalB hf rfl rfl rfl hb14 rfl rfl (RunV.field T_field_72_0 rfl rfl) ?_; clear hf a; intro a hf
      refine O.gvalB hf rfl rfl rfl hb14 rfl rfl (RunV.load1 T_agg_4 rfl (hS.ptAt (i := 0) rfl) rfl) ?_; clear hf a; intro a hf
      refine O.gvalB (v := Bv (!(x5 == x1))) hf rfl rfl rfl hb14 rfl rfl (RunV.neBool T_bool_4 rfl rfl) ?_; clear hf a; intro a hf
      refine O.val (v := Bv ((decide (x10 > (0 : Int))) && (!(x5 == x1)))) hf rfl rfl rfl (RunV.pick rfl rfl rfl (by rw [hb14]; rfl)) ?_; clear hf a; intro a hf
      exact O.nil ⟨rfl, hf.to ⟨rfl, rfl, rfl, rfl, trivial⟩, hS⟩
     ·refine O.skipB hf rfl rfl rfl hb14 rfl ?_; clear hf a; intro a hf
      refine O.skipB hf rfl rfl rfl hb14 rfl ?_; clear hf a; intro a hf
      refine O.skipB hf rfl rfl rfl hb14 rfl ?_; clear hf a; intro a hf
      refine O.skipB hf rfl rfl rfl hb14 rfl ?_; clear hf a; intro a hf
      refine O.val (v := Bv ((decide (x10 > (0 : Int))) && (!(x5 == x1)))) hf rfl rfl rfl (RunV.pick rfl rfl rfl (by rw [hb14]; rfl)) ?_; clear hf a; intro a hf
      exact O.nil ⟨rfl, hf.to ⟨rfl, rfl, rfl, rfl, trivial⟩, hS⟩
    clear hf hS a; try clear w
    rintro a w ⟨hf, hS⟩
    refine O.nil ?_
    refine k_seq ?_
    refine W.if_ hf rfl (fun hc15 => ?_) (fun hc15 => ?_)
    ·replace hm := hm_t hm hc15
     -- region 7
     refine W.regionL (l := [0, 1, 2]) rfl ?_
     refine O.val hf rfl rfl rfl (RunV.move rfl) ?_; clear hf a; intro a hf
     refine O.val (v := Uv (IntKind.u64.wrap (x9 + 1))) hf rfl rfl rfl (RunV.add rfl rfl) ?_; clear hf a; intro a hf
     refine O.val hf rfl rfl rfl (RunV.assign rfl) ?_; clear hf a; intro a hf
     refine O.nil ?_
     exact k_then ⟨IntKind.u64.wrap (x9 + 1), hf.to ⟨rfl, rfl, rfl, trivial⟩, hS, hm⟩
    ·replace hm := hm_f hm hc15
     refine W.skip ?_
     exact k_then ⟨x9, hf.to ⟨rfl, rfl, rfl, trivial⟩, hS, hm⟩
   ·clear hf hS hm a; try clear w
    rintro a w ⟨x11, hf, hS, hm⟩
    unfold m_ref03_over_j1 at hm
    refine W.seq ?_
    refine W.seq ?_
    -- region 8
    refine W.regionL (l := [0, 1]) rfl ?_
    refine O.val hf rfl rfl rfl (RunV.field T_field_72_0 rfl rfl) ?_; clear hf a; intro a hf
    refine O.val hf rfl rfl rfl (RunV.load1 T_agg_4 rfl (hS.ptAt (i := 0) rfl) rfl) ?_; clear hf a; intro a hf
    refine O.nil ?_
    refine k_seq ?_
    replace hf : Fr a 41 [] [(6, Iv 0), (7, Uv x11), (35, Bv x1)] := hf.to ⟨rfl, rfl, rfl, trivial⟩
    refine W.if_ hf rfl (fun hc12 => ?_) (fun hc12 => ?_)
    ·replace hm := hm_t hm hc12
     refine W.seq ?_
     -- region 9
     refine W.regionL (l := [0, 1, 2, 3]) rfl ?_
     refine O.val hf rfl rfl rfl (RunV.move rfl) ?_; clear hf a; intro a hf
     refine O.val (v := Iv (IntKind.i64.wrap x11)) hf rfl rfl rfl (RunV.conv T_und_62 T_int_2 rfl) ?_; clear hf a; intro a hf
     refine O.val (v := Iv (IntKind.i64.wrap (0 - (IntKind.i64.wrap x11)))) hf rfl rfl rfl (RunV.neg rfl) ?_; clear hf a; intro a hf
     refine O.val hf rfl rfl rfl (RunV.assign rfl) ?_; clear hf a; intro a hf
     refine O.nil ?_
     refine k_seq ?_
     replace hf : Fr a 41 [] [(6, Iv (IntKind.i64.wrap (0 - (IntKind.i64.wrap x11)))), (7, Uv x11)] := hf.to ⟨rfl, rfl, trivial⟩
     obtain ⟨x13, hx13, hm⟩ := hm_b hm
     rw [Option.some.inj hx13] at hf
     refine W.ret ?_
     refine k_then_ret ?_
     obtain rfl := Option.some.inj hm
     refine post1 hf rfl (ResOK.tmp rfl) ?_
     replace hS := hS.sub (N := []) (.cons _ .slnil)
     exact ⟨(), rfl, hS.noB⟩
    ·replace hm := hm_f hm hc12
     refine W.skip ?_
     refine k_seq ?_
     replace hf : Fr a 41 [] [(6, Iv 0), (7, Uv x11)] := hf.to ⟨rfl, rfl, trivial⟩
     refine W.seq ?_
     -- region 10
     refine W.regionL (l := [0, 1, 2]) rfl ?_
     refine O.val hf rfl rfl rfl (RunV.move rfl) ?_; clear hf a; intro a hf
     refine O.val (v := Iv (IntKind.i64.wrap x11)) hf rfl rfl rfl (RunV.conv T_und_62 T_int_2 rfl) ?_; clear hf a; intro a hf
     refine O.val hf rfl rfl rfl (RunV.assign rfl) ?_; clear hf a; intro a hf
     refine O.nil ?_
     refine k_seq ?_
     replace hf : Fr a 41 [] [(6, Iv (IntKind.i64.wrap x11))] := hf.to ⟨rfl, trivial⟩
     refine W.ret ?_
     obtain rfl := Option.some.inj hm
     refine post1 hf rfl (ResOK.tmp rfl) ?_
     replace hS := hS.sub (N := []) (.cons _ .slnil)
     exact ⟨(), rfl, hS.noB⟩

def m_ref03_made (F : Nat)  (x1 : Int) (x2 : Int) : Option (Int × Int × Int) :=
  if ((decide (x1 < (-2305843009213693952 : Int))) || (decide (x2 > (2305843009213693952 : Int)))) = true then (some (0, 0, 16)) else (some (x1, x2, 0))
set_option maxHeartbeats 1000000 in
set_option maxRecDepth 8000 in
theorem m_ref03_made_ok (F : Nat)   (x1 : Int) (x2 : Int) (w0 : World)  (r : Int × Int × Int) (hm : m_ref03_made F x1 x2 = some r) :
    Ret Try.prog 37 #[Iv x1, Iv x2] w0 (G := Unit) (fun _ => .tuple #[.agg #[Iv r.1, Iv r.2.1], Iv r.2.2]) (fun _ w => St w0 w noX [] []) := by
 unfold m_ref03_made at hm
 refine ret_of_W (lv := [Iv x1, Iv x2]) Try.func37 rfl rfl rfl (fun a hf => ?_)
 replace hf : Fr a 16 [] [(0, Iv x1), (1, Iv x2)] := hf
 have hS : St w0 w0 noX [] [] := St.borrow lendAll_nil
 refine W.seq ?_
 -- region 0
 refine W.regionL (l := [0, 1]) rfl ?_
 refine O.alloc (cs := #[Iv 0, Iv 0]) hf hS rfl rfl T_zero_23 rfl ?_
 clear hf hS a; intro b3 w a hb3 hS hf
 refine O.val hf rfl rfl rfl (RunV.assign rfl) ?_; clear hf a; intro a hf
 refine O.nil ?_
 refine k_seq ?_
 refine W.seq ?_
 refine W.seq ?_
 -- region 1
 refine W.regionL (l := [0, 1, 2, 3, 4, 5]) rfl ?_
 refine O.val hf rfl rfl rfl (RunV.move rfl) ?_; clear hf a; intro a hf
 refine O.val (v := Bv (decide (x1 < (-2305843009213693952 : Int)))) hf rfl rfl rfl (RunV.lss rfl rfl) ?_; clear hf a; intro a hf
 refine O.val hf rfl rfl rfl (RunV.move rfl) ?_; clear hf a; intro a hf
 refine O.cutN (l₁ := [3, 4, 5]) (l₂ := _) (fun a w => Fr a 16 [] [(0, Iv x1), (1, Iv x2), (4, Pv b3 0), (5, Iv 0), (11, Bv ((decide (x1 < (-2305843009213693952 : Int))) || (decide (x2 > (2305843009213693952 : Int)))))] ∧ St w0 w noX [] [pt b3 (Cs #[Iv 0, Iv 0] 23)]) rfl ?_ ?_
 ·rcases Bool.eq_false_or_eq_true (decide (x1 < (-2305843009213693952 : Int))) with hb4 | hb4
  ·refine O.skipB hf rfl rfl rfl hb4 rfl ?_; clear hf a; intro a hf
   refine O.skipB hf rfl rfl rfl hb4 rfl ?_; clear hf a; intro a hf
   refine O.val (v := Bv ((decide (x1 < (-2305843009213693952 : Int))) || (decide (x2 > (2305843009213693952 : Int))))) hf rfl rfl rfl (RunV.pick rfl rfl rfl (by rw [hb4]; rfl)) ?_; clear hf a; intro a hf
   exact O.nil ⟨rfl, hf.to ⟨rfl, rfl, rfl, rfl, rfl, trivial⟩, hS⟩
  ·refine O.gvalB hf rfl rfl rfl hb4 rfl rfl (RunV.move rfl) ?_; clear hf a; intro a hf
   refine O.gvalB (v := Bv (decide (x2 > (2305843009213693952 : Int)))) hf rfl rfl rfl hb4 rfl rfl (RunV.gtr rfl rfl) ?_; clear hf a; intro a hf
   refine O.val (v := Bv ((decide (x1 < (-2305843009213693952 : Int))) || (decide (x2 > (2305843009213693952 : Int))))) hf rfl rfl rfl (RunV.pick rfl rfl rfl (by rw [hb4]; rfl)) ?_; clear hf a; intro a hf
   exact O.nil ⟨rfl, hf.to ⟨rfl, rfl, rfl, rfl, rfl, trivial⟩, hS⟩
 clear hf hS a; try clear w
 rintro a w ⟨hf, hS⟩
 refine O.nil ?_
 refine k_seq ?_
 refine W.if_ hf rfl (fun hc5 => ?_) (fun hc5 => ?_)
 ·replace hm := hm_t hm hc5
  refine W.seq ?_
  -- region 2
  refine W.regionL (l := [0, 1, 2]) rfl ?_
  refine O.val (v := .agg #[Iv 0, Iv 0]) hf rfl rfl rfl (RunV.buildS (cs' := #[Iv 0, Iv 0]) T_places_23 T_zero_23 rfl (by kernel_rfl)) ?_; clear hf a; intro a hf
  refine O.store (j := 0) (cs' := #[Iv 0, Iv 0]) (M' := [pt b3 (Cs #[Iv 0, Iv 0] 23)]) hf hS rfl rfl rfl T_size_23 rfl rfl rfl (Nat.le_of_ble_eq_true rfl) rfl rfl ?_
  clear hS; intro w hS
  refine O.val hf rfl rfl rfl (RunV.assign rfl) ?_; clear hf a; intro a hf
  refine O.nil ?_
  refine k_seq ?_
  replace hf : Fr a 16 [] [(0, Iv x1), (1, Iv x2), (4, Pv b3 0), (5, Iv 16)] := hf.to ⟨rfl, rfl, rfl, rfl, trivial⟩
  refine W.ret ?_
  refine k_then_ret ?_
  obtain rfl := Option.some.inj hm
  refine post2 hf rfl (ResOK.cellN (cs' := #[Iv 0, Iv 0]) rfl T_agg_23 T_size_23 (hS.ptAt (i := 0) rfl) (Nat.le_of_ble_eq_true rfl) rfl) (ResOK.tmp rfl) ?_
  replace hS := hS.sub (N := []) (.cons _ .slnil)
  exact ⟨(), rfl, hS.noB⟩
 ·replace hm := hm_f hm hc5
  refine W.skip ?_
  refine k_seq ?_
  replace hf : Fr a 16 [] [(0, Iv x1), (1, Iv x2), (4, Pv b3 0), (5, Iv 0)] := hf.to ⟨rfl, rfl, rfl, rfl, trivial⟩
  refine W.seq ?_
  -- region 3
  refine W.regionL (l := [0, 1, 2, 3, 4]) rfl ?_
  refine O.val hf rfl rfl rfl (RunV.move rfl) ?_; clear hf a; intro a hf
  refine O.val hf rfl rfl rfl (RunV.move rfl) ?_; clear hf a; intro a hf
  refine O.val (v := .agg #[Iv x1, Iv x2]) hf rfl rfl rfl (RunV.buildS (cs' := #[Iv x1, Iv x2]) T_places_23 T_zero_23 rfl (by kernel_rfl)) ?_; clear hf a; intro a hf
  refine O.store (j := 0) (cs' := #[Iv x1, Iv x2]) (M' := [pt b3 (Cs #[Iv x1, Iv x2] 23)]) hf hS rfl rfl rfl T_size_23 rfl rfl rfl (Nat.le_of_ble_eq_true rfl) rfl rfl ?_
  clear hS; intro w hS
  refine O.val hf rfl rfl rfl (RunV.assign rfl) ?_; clear hf a; intro a hf
  refine O.nil ?_
  refine k_seq ?_
  replace hf : Fr a 16 [] [(4, Pv b3 0), (5, Iv 0)] := hf.to ⟨rfl, rfl, trivial⟩
  refine W.ret ?_
  obtain rfl := Option.some.inj hm
  refine post2 hf rfl (ResOK.cellN (cs' := #[Iv x1, Iv x2]) rfl T_agg_23 T_size_23 (hS.ptAt (i := 0) rfl) (Nat.le_of_ble_eq_true rfl) rfl) (ResOK.tmp rfl) ?_
  replace hS := hS.sub (N := []) (.cons _ .slnil)
  exact ⟨(), rfl, hS.noB⟩

def m_ref03_Scale_j1 (F : Nat) (x4 : Int) (x21 : Bool) (x22 : Int) (x23 : Int) (x24 : Bool) (x25 : Int) (x26 : Int) : Option (Int × Int × Int) :=
  (m_ref03_size F x4).bind fun x27 => (m_ref03_over F x21 x22 x23 x27 false).bind fun x28 => (m_ref03_size F x4).bind fun x29 => (m_ref03_over F x24 x25 x26 x29 true).bind fun x30 => (m_ref03_made F x28 x30).bind fun x31 => some x31
def m_ref03_Scale_j2 (F : Nat) (x4 : Int) (x15 : Bool) (x16 : Int) (x17 : Int) (x18 : Bool) (x19 : Int) (x20 : Int) : Option (Int × Int × Int) :=
  if x4 < (0 : Int) then ((m_ref03_turned F x18 x19 x20).bind fun x33 => (m_ref03_turned F x15 x16 x17).bind fun x34 => m_ref03_Scale_j1 F x4 x33 x19 x20 x34 x16 x17) else (m_ref03_Scale_j1 F x4 x15 x16 x17 x18 x19 x20)
def m_ref03_Scale (F : Nat)  (x1 : Int) (x2 : Int) (x3 : Int) (x4 : Int) : Option (Int × Int × Int) :=
  (m_ref03_Check F x1 x2).bind fun x7 => if x7 ≠ (0 : Int) then ((m_ref03_Check F x1 x2).bind fun x9 => some (0, 0, x9)) else (if x4 = (0 : Int) then (some (0, 0, 18)) else ((m_ref03_Times F x1 x3).bind fun x11 => (m_ref03_Times F x2 x3).bind fun x12 => (m_ref03_less F x12.1 x12.2.1 x12.2.2 x11.1 x11.2.1 x11.2.2).bind fun x35 => if (x35) = true then (m_ref03_Scale_j2 F x4 x12.1 x12.2.1 x12.2.2 x11.1 x11.2.1 x11.2.2) else (m_ref03_Scale_j2 F x4 x11.1 x11.2.1 x11.2.2 x12.1 x12.2.1 x12.2.2)))
set_option maxHeartbeats 1000000 in
set_option maxRecDepth 8000 in
theorem m_ref03_Scale_ok (F : Nat)   (x1 : Int) (x2 : Int) (x3 : Int) (x4 : Int) (w0 : World)  (r : Int × Int × Int) (hm : m_ref03_Scale F x1 x2 x3 x4 = some r) :
    Ret Try.prog 20 #[.agg #[Iv x1, Iv x2], Iv x3, Iv x4] w0 (G := Unit) (fun _ => .tuple #[.agg #[Iv r.1, Iv r.2.1], Iv r.2.2]) (fun _ w => St w0 w noX [] []) := by
 unfold m_ref03_Scale at hm
 refine ret_of_W (lv := [.agg #[Iv x1, Iv x2], Iv x3, Iv x4]) Try.func20 rfl rfl rfl (fun a hf => ?_)
 replace hf : Fr a 49 [] [(0, .agg #[Iv x1, Iv x2]), (1, Iv x3), (2, Iv x4)] := hf
 have hS : St w0 w0 noX [] [] := St.borrow lendAll_nil
 refine W.seq ?_
 -- region 0
 refine W.regionL (l := [0, 1, 2]) rfl ?_
 refine O.box (cs := #[Iv x1, Iv x2]) hf hS rfl rfl rfl rfl ?_
 clear hf hS a; intro b5 w a hb5 hS hf
 refine O.alloc (cs := #[Iv 0, Iv 0]) hf hS rfl rfl T_zero_23 rfl ?_
 clear hf hS a; intro b6 w a hb6 hS hf
 refine O.val hf rfl rfl rfl (RunV.assign rfl) ?_; clear hf a; intro a hf
 refine O.nil ?_
 refine k_seq ?_
 replace hf : Fr a 49 [] [(1, Iv x3), (2, Iv x4), (3, Pv b5 0), (6, Pv b6 0), (7, Iv 0)] := hf.to ⟨rfl, rfl, rfl, rfl, rfl, trivial⟩
 refine W.seq ?_
 refine W.seq ?_
 -- region 1
 refine W.regionL (l := [0, 1, 2]) rfl ?_
 refine O.val hf rfl rfl rfl (RunV.loadN (cs' := #[Iv x1, Iv x2]) T_agg_23 T_size_23 rfl (hS.ptAt (i := 1) rfl) (Nat.le_of_ble_eq_true rfl) rfl) ?_; clear hf a; intro a hf
 obtain ⟨x7, hx7, hm⟩ := hm_b hm
 refine O.callR hf rfl rfl rfl (RunE.call (av := #[.agg #[Iv x1, Iv x2]]) C_ok_17 rfl rfl rfl) (m_ref03_Check_ok F x1 x2 _ x7 hx7) ?_
 clear hf a; rintro _ w hS1 a hf
 replace hf : Fr a _ _ ((11, Iv x7) :: _) := hf
 replace hS := (hS.call hS1).eqM (N := [pt b6 (Cs #[Iv 0, Iv 0] 23), pt b5 (Cs #[Iv x1, Iv x2] 23)]) rfl
 clear hS1
 refine O.val (v := Bv (decide (x7 ≠ (0 : Int)))) hf rfl rfl rfl (RunV.neq rfl rfl) ?_; clear hf a; intro a hf
 refine O.nil ?_
 refine k_seq ?_
 replace hf : Fr a 49 [] [(1, Iv x3), (2, Iv x4), (3, Pv b5 0), (6, Pv b6 0), (7, Iv 0), (12, Bv (decide (x7 ≠ (0 : Int))))] := hf.to ⟨rfl, rfl, rfl, rfl, rfl, rfl, trivial⟩
 refine W.ifdI hf rfl (fun hc8 => ?_) (fun hc8 => ?_)
 ·replace hm := hm_p hm hc8
  refine W.seq ?_
  -- region 2
  refine W.regionL (l := [0, 1, 2, 3, 4]) rfl ?_
  refine O.val (v := .agg #[Iv 0, Iv 0]) hf rfl rfl rfl (RunV.buildS (cs' := #[Iv 0, Iv 0]) T_places_23 T_zero_23 rfl (by kernel_rfl)) ?_; clear hf a; intro a hf
  refine O.val hf rfl rfl rfl (RunV.loadN (cs' := #[Iv x1, Iv x2]) T_agg_23 T_size_23 rfl (hS.ptAt (i := 1) rfl) (Nat.le_of_ble_eq_true rfl) rfl) ?_; clear hf a; intro a hf
  obtain ⟨x9, hx9, hm⟩ := hm_b hm
  refine O.callR hf rfl rfl rfl (RunE.call (av := #[.agg #[Iv x1, Iv x2]]) C_ok_17 rfl rfl rfl) (m_ref03_Check_ok F x1 x2 _ x9 hx9) ?_
  clear hf a; rintro _ w hS1 a hf
  replace hf : Fr a _ _ ((15, Iv x9) :: _) := hf
  replace hS := (hS.call hS1).eqM (N := [pt b6 (Cs #[Iv 0, Iv 0] 23), pt b5 (Cs #[Iv x1, Iv x2] 23)]) rfl
  clear hS1
  refine O.store (j := 0) (cs' := #[Iv 0, Iv 0]) (M' := [pt b6 (Cs #[Iv 0, Iv 0] 23), pt b5 (Cs #[Iv x1, Iv x2] 23)]) hf hS rfl rfl rfl T_size_23 rfl rfl rfl (Nat.le_of_ble_eq_true rfl) rfl rfl ?_
  clear hS; intro w hS
  refine O.val hf rfl rfl rfl (RunV.assign rfl) ?_; clear hf a; intro a hf
  refine O.nil ?_
  refine k_seq ?_
  replace hf : Fr a 49 [] [(1, Iv x3), (2, Iv x4), (3, Pv b5 0), (6, Pv b6 0), (7, Iv x9)] := hf.to ⟨rfl, rfl, rfl, rfl, rfl, trivial⟩
  refine W.ret ?_
  refine k_then_ret ?_
  obtain rfl := Option.some.inj hm
  refine post2 hf rfl (ResOK.cellN (cs' := #[Iv 0, Iv 0]) rfl T_agg_23 T_size_23 (hS.ptAt (i := 0) rfl) (Nat.le_of_ble_eq_true rfl) rfl) (ResOK.tmp rfl) ?_
  replace hS := hS.sub (N := []) (.cons _ (.cons _ .slnil))
  exact ⟨(), rfl, hS.noB⟩
 ·replace hm := hm_n hm hc8
  refine W.skip ?_
  refine k_seq ?_
  replace hf : Fr a 49 [] [(1, Iv x3), (2, Iv x4), (3, Pv b5 0), (6, Pv b6 0), (7, Iv 0)] := hf.to ⟨rfl, rfl, rfl, rfl, rfl, trivial⟩
  refine W.seq ?_
  refine W.seq ?_
  -- region 3
  refine W.regionL (l := [0, 1]) rfl ?_
  refine O.val hf rfl rfl rfl (RunV.move rfl) ?_; clear hf a; intro a hf
  refine O.val (v := Bv (decide (x4 = (0 : Int)))) hf rfl rfl rfl (RunV.eql rfl rfl) ?_; clear hf a; intro a hf
  refine O.nil ?_
  refine k_seq ?_
  replace hf : Fr a 49 [] [(1, Iv x3), (2, Iv x4), (3, Pv b5 0), (6, Pv b6 0), (7, Iv 0), (17, Bv (decide (x4 = (0 : Int))))] := hf.to ⟨rfl, rfl, rfl, rfl, rfl, rfl, trivial⟩
  refine W.ifdI hf rfl (fun hc10 => ?_) (fun hc10 => ?_)
  ·replace hm := hm_p hm hc10
   refine W.seq ?_
   -- region 4
   refine W.regionL (l := [0, 1, 2]) rfl ?_
   refine O.val (v := .agg #[Iv 0, Iv 0]) hf rfl rfl rfl (RunV.buildS (cs' := #[Iv 0, Iv 0]) T_places_23 T_zero_23 rfl (by kernel_rfl)) ?_; clear hf a; intro a hf
   refine O.store (j := 0) (cs' := #[Iv 0, Iv 0]) (M' := [pt b6 (Cs #[Iv 0, Iv 0] 23), pt b5 (Cs #[Iv x1, Iv x2] 23)]) hf hS rfl rfl rfl T_size_23 rfl rfl rfl (Nat.le_of_ble_eq_true rfl) rfl rfl ?_
   clear hS; intro w hS
   refine O.val hf rfl rfl rfl (RunV.assign rfl) ?_; clear hf a; intro a hf
   refine O.nil ?_
   refine k_seq ?_
   replace hf : Fr a 49 [] [(1, Iv x3), (2, Iv x4), (3, Pv b5 0), (6, Pv b6 0), (7, Iv 18)] := hf.to ⟨rfl, rfl, rfl, rfl, rfl, trivial⟩
   refine W.ret ?_
   refine k_then_ret ?_
   obtain rfl := Option.some.inj hm
   refine post2 hf rfl (ResOK.cellN (cs' := #[Iv 0, Iv 0]) rfl T_agg_23 T_size_23 (hS.ptAt (i := 0) rfl) (Nat.le_of_ble_eq_true rfl) rfl) (ResOK.tmp rfl) ?_
   replace hS := hS.sub (N := []) (.cons _ (.cons _ .slnil))
   exact ⟨(), rfl, hS.noB⟩
  ·replace hm := hm_n hm hc10
   refine W.skip ?_
   refine k_seq ?_
   replace hf : Fr a 49 [] [(1, Iv x3), (2, Iv x4), (3, Pv b5 0), (6, Pv b6 0), (7, Iv 0)] := hf.to ⟨rfl, rfl, rfl, rfl, rfl, trivial⟩
   refine W.seq ?_
   -- region 5, which draws its order
   -- [8, 9, 10, 11] turn memory
   have hf1 : Fr a 49 [] [] := hf.to trivial
   replace hf : Fr a 49 [] [(1, Iv x3), (2, Iv x4), (3, Pv b5 0), (6, Pv b6 0), (7, Iv 0)] := hf.to ⟨rfl, rfl, rfl, rfl, rfl, trivial⟩
   obtain ⟨x11, hx11, hm⟩ := hm_b hm
   obtain ⟨x12, hx12, hm⟩ := hm_b hm
   refine W.drawP (γ := Nat × Nat) (L0 := [(1, Iv x3), (2, Iv x4), (3, Pv b5 0), (6, Pv b6 0), (7, Iv 0)]) (L1 := []) (0, 0) [8, 9, 10, 11] [0, 1, 2, 3, 4, 5, 6, 7] (fun i => match i with | 0 => [] | 1 => [0] | 2 => [] | 3 => [1, 2] | 4 => [] | 5 => [4] | 6 => [] | 7 => [3, 5, 6] | 8 => [] | 9 => [] | 10 => [0, 1, 2, 3, 7, 8, 9] | 11 => [0, 1, 2, 3, 4, 5, 6, 7, 8, 9, 10] | _ => []) (fun i => match i with | 10 => [8, 9] | 11 => [8, 9, 10] | _ => []) (fun i => match i with | 0 => [10, 11] | 1 => [10, 11] | 2 => [10, 11] | 3 => [10, 11] | 4 => [10, 11] | 5 => [10, 11] | 6 => [10, 11] | 7 => [10, 11] | 8 => [10, 11] | 9 => [10, 11] | 10 => [11] | _ => []) (fun i => match i with | 8 => [10, 11] | 9 => [10, 11] | 10 => [11] | 11 => [] | _ => []) (fun _ => []) (fun (g : Nat × Nat) j => match g, j with | (b13, b14), 0 => Pv b5 0 | (b13, b14), 1 => Iv x1 | (b13, b14), 2 => Iv x3 | (b13, b14), 3 => .agg #[Bv x11.1, Uv x11.2.1, Uv x11.2.2] | (b13, b14), 4 => Pv b5 1 | (b13, b14), 5 => Iv x2 | (b13, b14), 6 => Iv x3 | (b13, b14), 7 => .agg #[Bv x12.1, Uv x12.2.1, Uv x12.2.2] | (b13, b14), 8 => Pv b13 0 | (b13, b14), 9 => Pv b14 0 | _, _ => undef) (fun s (g : Nat × Nat) w => match g with | (b13, b14) => (s 8 = false ∧ s 9 = false ∧ s 10 = false ∧ s 11 = false ∧ St w0 w noX [] [pt b6 (Cs #[Iv 0, Iv 0] 23), pt b5 (Cs #[Iv x1, Iv x2] 23)]) ∨ (s 8 = true ∧ s 9 = false ∧ s 10 = false ∧ s 11 = false ∧ St w0 w noX [] [pt b13 (Cs #[Bv false, Uv 0, Uv 0] 72), pt b6 (Cs #[Iv 0, Iv 0] 23), pt b5 (Cs #[Iv x1, Iv x2] 23)]) ∨ (s 8 = false ∧ s 9 = true ∧ s 10 = false ∧ s 11 = false ∧ St w0 w noX [] [pt b14 (Cs #[Bv false, Uv 0, Uv 0] 72), pt b6 (Cs #[Iv 0, Iv 0] 23), pt b5 (Cs #[Iv x1, Iv x2] 23)]) ∨ (s 8 = true ∧ s 9 = true ∧ s 10 = false ∧ s 11 = false ∧ St w0 w noX [] [pt b14 (Cs #[Bv false, Uv 0, Uv 0] 72), pt b13 (Cs #[Bv false, Uv 0, Uv 0] 72), pt b6 (Cs #[Iv 0, Iv 0] 23), pt b5 (Cs #[Iv x1, Iv x2] 23)]) ∨ (s 8 = true ∧ s 9 = true ∧ s 10 = true ∧ s 11 = false ∧ St w0 w noX [] [pt b14 (Cs #[Bv false, Uv 0, Uv 0] 72), pt b13 (Cs #[Bv x11.1, Uv x11.2.1, Uv x11.2.2] 72), pt b6 (Cs #[Iv 0, Iv 0] 23), pt b5 (Cs #[Iv x1, Iv x2] 23)]) ∨ (s 8 = true ∧ s 9 = true ∧ s 10 = true ∧ s 11 = true ∧ St w0 w noX [] [pt b14 (Cs #[Bv x12.1, Uv x12.2.1, Uv x12.2.2] 72), pt b13 (Cs #[Bv x11.1, Uv x11.2.1, Uv x11.2.2] 72), pt b6 (Cs #[Iv 0, Iv 0] 23), pt b5 (Cs #[Iv x1, Iv x2] 23)])) P_mixed (by kernel_rfl) hf hf1 (Or.inl ⟨rfl, rfl, rfl, rfl, hS.drew⟩) ?_ ?_ ?_
   ·clear hf hf1 hS
    refine ⟨?_, ?_, ?_, ?_, ?_, ?_, ?_, ?_, trivial⟩
    ·intro s g w hsp hsb hD a hf
     obtain ⟨b13, b14⟩ := g
     rcases hD with (⟨h8_, h9_, h10_, h11_, hD⟩ | ⟨h8_, h9_, h10_, h11_, hD⟩ | ⟨h8_, h9_, h10_, h11_, hD⟩ | ⟨h8_, h9_, h10_, h11_, hD⟩ | ⟨h8_, h9_, h10_, h11_, hD⟩ | ⟨h8_, h9_, h10_, h11_, hD⟩)
     ·have hS : St w0 w noX [] [pt b6 (Cs #[Iv 0, Iv 0] 23), pt b5 (Cs #[Iv x1, Iv x2] 23)] := hD; clear hD
      replace hf : Fr a 49 [] [(1, Iv x3), (2, Iv x4), (3, Pv b5 0), (6, Pv b6 0), (7, Iv 0)] := hf
      refine O.val hf rfl rfl rfl (RunV.field T_field_23_0 rfl rfl) ?_; clear hf a; intro a hf
      exact O.nil ⟨rfl, hf.to trivial, (fun d hd => by cases (show some 19 = some d from hd); exact hf.get _ _ rfl), (Or.inl ⟨h8_, h9_, h10_, h11_, hS⟩)⟩
     ·have hS : St w0 w noX [] [pt b13 (Cs #[Bv false, Uv 0, Uv 0] 72), pt b6 (Cs #[Iv 0, Iv 0] 23), pt b5 (Cs #[Iv x1, Iv x2] 23)] := hD; clear hD
      replace hf : Fr a 49 [] [(1, Iv x3), (2, Iv x4), (3, Pv b5 0), (6, Pv b6 0), (7, Iv 0)] := hf
      refine O.val hf rfl rfl rfl (RunV.field T_field_23_0 rfl rfl) ?_; clear hf a; intro a hf
      exact O.nil ⟨rfl, hf.to trivial, (fun d hd => by cases (show some 19 = some d from hd); exact hf.get _ _ rfl), (Or.inr (Or.inl ⟨h8_, h9_, h10_, h11_, hS⟩))⟩
     ·have hS : St w0 w noX [] [pt b14 (Cs #[Bv false, Uv 0, Uv 0] 72), pt b6 (Cs #[Iv 0, Iv 0] 23), pt b5 (Cs #[Iv x1, Iv x2] 23)] := hD; clear hD
      replace hf : Fr a 49 [] [(1, Iv x3), (2, Iv x4), (3, Pv b5 0), (6, Pv b6 0), (7, Iv 0)] := hf
      refine O.val hf rfl rfl rfl (RunV.field T_field_23_0 rfl rfl) ?_; clear hf a; intro a hf
      exact O.nil ⟨rfl, hf.to trivial, (fun d hd => by cases (show some 19 = some d from hd); exact hf.get _ _ rfl), (Or.inr (Or.inr (Or.inl ⟨h8_, h9_, h10_, h11_, hS⟩)))⟩
     ·have hS : St w0 w noX [] [pt b14 (Cs #[Bv false, Uv 0, Uv 0] 72), pt b13 (Cs #[Bv false, Uv 0, Uv 0] 72), pt b6 (Cs #[Iv 0, Iv 0] 23), pt b5 (Cs #[Iv x1, Iv x2] 23)] := hD; clear hD
      replace hf : Fr a 49 [] [(1, Iv x3), (2, Iv x4), (3, Pv b5 0), (6, Pv b6 0), (7, Iv 0)] := hf
      refine O.val hf rfl rfl rfl (RunV.field T_field_23_0 rfl rfl) ?_; clear hf a; intro a hf
      exact O.nil ⟨rfl, hf.to trivial, (fun d hd => by cases (show some 19 = some d from hd); exact hf.get _ _ rfl), (Or.inr (Or.inr (Or.inr (Or.inl ⟨h8_, h9_, h10_, h11_, hS⟩))))⟩
     ·exact absurd ((hsb 10 (by simp)).symm.trans h10_) (by decide)
     ·exact absurd ((hsb 10 (by simp)).symm.trans h10_) (by decide)
    ·intro s g w hsp hsb hD a hf
     obtain ⟨b13, b14⟩ := g
     rcases hD with (⟨h8_, h9_, h10_, h11_, hD⟩ | ⟨h8_, h9_, h10_, h11_, hD⟩ | ⟨h8_, h9_, h10_, h11_, hD⟩ | ⟨h8_, h9_, h10_, h11_, hD⟩ | ⟨h8_, h9_, h10_, h11_, hD⟩ | ⟨h8_, h9_, h10_, h11_, hD⟩)
     ·have hS : St w0 w noX [] [pt b6 (Cs #[Iv 0, Iv 0] 23), pt b5 (Cs #[Iv x1, Iv x2] 23)] := hD; clear hD
      replace hf : Fr a 49 [] [(19, Pv b5 0), (1, Iv x3), (2, Iv x4), (3, Pv b5 0), (6, Pv b6 0), (7, Iv 0)] := hf
      refine O.val hf rfl rfl rfl (RunV.load1 T_agg_2 rfl (hS.ptAt (i := 1) rfl) rfl) ?_; clear hf a; intro a hf
      exact O.nil ⟨rfl, hf.to trivial, (fun d hd => by cases (show some 20 = some d from hd); exact hf.get _ _ rfl), (Or.inl ⟨h8_, h9_, h10_, h11_, hS⟩)⟩
     ·have hS : St w0 w noX [] [pt b13 (Cs #[Bv false, Uv 0, Uv 0] 72), pt b6 (Cs #[Iv 0, Iv 0] 23), pt b5 (Cs #[Iv x1, Iv x2] 23)] := hD; clear hD
      replace hf : Fr a 49 [] [(19, Pv b5 0), (1, Iv x3), (2, Iv x4), (3, Pv b5 0), (6, Pv b6 0), (7, Iv 0)] := hf
      refine O.val hf rfl rfl rfl (RunV.load1 T_agg_2 rfl (hS.ptAt (i := 2) rfl) rfl) ?_; clear hf a; intro a hf
      exact O.nil ⟨rfl, hf.to trivial, (fun d hd => by cases (show some 20 = some d from hd); exact hf.get _ _ rfl), (Or.inr (Or.inl ⟨h8_, h9_, h10_, h11_, hS⟩))⟩
     ·have hS : St w0 w noX [] [pt b14 (Cs #[Bv false, Uv 0, Uv 0] 72), pt b6 (Cs #[Iv 0, Iv 0] 23), pt b5 (Cs #[Iv x1, Iv x2] 23)] := hD; clear hD
      replace hf : Fr a 49 [] [(19, Pv b5 0), (1, Iv x3), (2, Iv x4), (3, Pv b5 0), (6, Pv b6 0), (7, Iv 0)] := hf
      refine O.val hf rfl rfl rfl (RunV.load1 T_agg_2 rfl (hS.ptAt (i := 2) rfl) rfl) ?_; clear hf a; intro a hf
      exact O.nil ⟨rfl, hf.to trivial, (fun d hd => by cases (show some 20 = some d from hd); exact hf.get _ _ rfl), (Or.inr (Or.inr (Or.inl ⟨h8_, h9_, h10_, h11_, hS⟩)))⟩
     ·have hS : St w0 w noX [] [pt b14 (Cs #[Bv false, Uv 0, Uv 0] 72), pt b13 (Cs #[Bv false, Uv 0, Uv 0] 72), pt b6 (Cs #[Iv 0, Iv 0] 23), pt b5 (Cs #[Iv x1, Iv x2] 23)] := hD; clear hD
      replace hf : Fr a 49 [] [(19, Pv b5 0), (1, Iv x3), (2, Iv x4), (3, Pv b5 0), (6, Pv b6 0), (7, Iv 0)] := hf
      refine O.val hf rfl rfl rfl (RunV.load1 T_agg_2 rfl (hS.ptAt (i := 3) rfl) rfl) ?_; clear hf a; intro a hf
      exact O.nil ⟨rfl, hf.to trivial, (fun d hd => by cases (show some 20 = some d from hd); exact hf.get _ _ rfl), (Or.inr (Or.inr (Or.inr (Or.inl ⟨h8_, h9_, h10_, h11_, hS⟩))))⟩
     ·exact absurd ((hsb 10 (by simp)).symm.trans h10_) (by decide)
     ·exact absurd ((hsb 10 (by simp)).symm.trans h10_) (by decide)
    ·intro s g w hsp hsb hD a hf
     obtain ⟨b13, b14⟩ := g
     rcases hD with (⟨h8_, h9_, h10_, h11_, hD⟩ | ⟨h8_, h9_, h10_, h11_, hD⟩ | ⟨h8_, h9_, h10_, h11_, hD⟩ | ⟨h8_, h9_, h10_, h11_, hD⟩ | ⟨h8_, h9_, h10_, h11_, hD⟩ | ⟨h8_, h9_, h10_, h11_, hD⟩)
     ·have hS : St w0 w noX [] [pt b6 (Cs #[Iv 0, Iv 0] 23), pt b5 (Cs #[Iv x1, Iv x2] 23)] := hD; clear hD
      replace hf : Fr a 49 [] [(1, Iv x3), (2, Iv x4), (3, Pv b5 0), (6, Pv b6 0), (7, Iv 0)] := hf
      refine O.val hf rfl rfl rfl (RunV.move rfl) ?_; clear hf a; intro a hf
      exact O.nil ⟨rfl, hf.to trivial, (fun d hd => by cases (show some 21 = some d from hd); exact hf.get _ _ rfl), (Or.inl ⟨h8_, h9_, h10_, h11_, hS⟩)⟩
     ·have hS : St w0 w noX [] [pt b13 (Cs #[Bv false, Uv 0, Uv 0] 72), pt b6 (Cs #[Iv 0, Iv 0] 23), pt b5 (Cs #[Iv x1, Iv x2] 23)] := hD; clear hD
      replace hf : Fr a 49 [] [(1, Iv x3), (2, Iv x4), (3, Pv b5 0), (6, Pv b6 0), (7, Iv 0)] := hf
      refine O.val hf rfl rfl rfl (RunV.move rfl) ?_; clear hf a; intro a hf
      exact O.nil ⟨rfl, hf.to trivial, (fun d hd => by cases (show some 21 = some d from hd); exact hf.get _ _ rfl), (Or.inr (Or.inl ⟨h8_, h9_, h10_, h11_, hS⟩))⟩
     ·have hS : St w0 w noX [] [pt b14 (Cs #[Bv false, Uv 0, Uv 0] 72), pt b6 (Cs #[Iv 0, Iv 0] 23), pt b5 (Cs #[Iv x1, Iv x2] 23)] := hD; clear hD
      replace hf : Fr a 49 [] [(1, Iv x3), (2, Iv x4), (3, Pv b5 0), (6, Pv b6 0), (7, Iv 0)] := hf
      refine O.val hf rfl rfl rfl (RunV.move rfl) ?_; clear hf a; intro a hf
      exact O.nil ⟨rfl, hf.to trivial, (fun d hd => by cases (show some 21 = some d from hd); exact hf.get _ _ rfl), (Or.inr (Or.inr (Or.inl ⟨h8_, h9_, h10_, h11_, hS⟩)))⟩
     ·have hS : St w0 w noX [] [pt b14 (Cs #[Bv false, Uv 0, Uv 0] 72), pt b13 (Cs #[Bv false, Uv 0, Uv 0] 72), pt b6 (Cs #[Iv 0, Iv 0] 23), pt b5 (Cs #[Iv x1, Iv x2] 23)] := hD; clear hD
      replace hf : Fr a 49 [] [(1, Iv x3), (2, Iv x4), (3, Pv b5 0), (6, Pv b6 0), (7, Iv 0)] := hf
      refine O.val hf rfl rfl rfl (RunV.move rfl) ?_; clear hf a; intro a hf
      exact O.nil ⟨rfl, hf.to trivial, (fun d hd => by cases (show some 21 = some d from hd); exact hf.get _ _ rfl), (Or.inr (Or.inr (Or.inr (Or.inl ⟨h8_, h9_, h10_, h11_, hS⟩))))⟩
     ·exact absurd ((hsb 10 (by simp)).symm.trans h10_) (by decide)
     ·exact absurd ((hsb 10 (by simp)).symm.trans h10_) (by decide)
    ·intro s g w hsp hsb hD a hf
     obtain ⟨b13, b14⟩ := g
     rcases hD with (⟨h8_, h9_, h10_, h11_, hD⟩ | ⟨h8_, h9_, h10_, h11_, hD⟩ | ⟨h8_, h9_, h10_, h11_, hD⟩ | ⟨h8_, h9_, h10_, h11_, hD⟩ | ⟨h8_, h9_, h10_, h11_, hD⟩ | ⟨h8_, h9_, h10_, h11_, hD⟩)
     ·have hS : St w0 w noX [] [pt b6 (Cs #[Iv 0, Iv 0] 23), pt b5 (Cs #[Iv x1, Iv x2] 23)] := hD; clear hD
      replace hf : Fr a 49 [] [(20, Iv x1), (21, Iv x3), (1, Iv x3), (2, Iv x4), (3, Pv b5 0), (6, Pv b6 0), (7, Iv 0)] := hf
      refine O.callR hf rfl rfl rfl (RunE.call (av := #[Iv x1, Iv x3]) C_ok_34 rfl rfl rfl) (m_ref03_Times_ok F x1 x3 _ x11 hx11) ?_
      clear hf a; rintro _ w hS1 a hf
      replace hf : Fr a _ _ ((22, .agg #[Bv x11.1, Uv x11.2.1, Uv x11.2.2]) :: _) := hf
      replace hS := (hS.call hS1).eqM (N := [pt b6 (Cs #[Iv 0, Iv 0] 23), pt b5 (Cs #[Iv x1, Iv x2] 23)]) rfl
      clear hS1
      exact O.nil ⟨rfl, hf.to trivial, (fun d hd => by cases (show some 22 = some d from hd); exact hf.get _ _ rfl), (Or.inl ⟨h8_, h9_, h10_, h11_, hS⟩)⟩
     ·have hS : St w0 w noX [] [pt b13 (Cs #[Bv false, Uv 0, Uv 0] 72), pt b6 (Cs #[Iv 0, Iv 0] 23), pt b5 (Cs #[Iv x1, Iv x2] 23)] := hD; clear hD
      replace hf : Fr a 49 [] [(20, Iv x1), (21, Iv x3), (1, Iv x3), (2, Iv x4), (3, Pv b5 0), (6, Pv b6 0), (7, Iv 0)] := hf
      refine O.callR hf rfl rfl rfl (RunE.call (av := #[Iv x1, Iv x3]) C_ok_34 rfl rfl rfl) (m_ref03_Times_ok F x1 x3 _ x11 hx11) ?_
      clear hf a; rintro _ w hS1 a hf
      replace hf : Fr a _ _ ((22, .agg #[Bv x11.1, Uv x11.2.1, Uv x11.2.2]) :: _) := hf
      replace hS := (hS.call hS1).eqM (N := [pt b13 (Cs #[Bv false, Uv 0, Uv 0] 72), pt b6 (Cs #[Iv 0, Iv 0] 23), pt b5 (Cs #[Iv x1, Iv x2] 23)]) rfl
      clear hS1
      exact O.nil ⟨rfl, hf.to trivial, (fun d hd => by cases (show some 22 = some d from hd); exact hf.get _ _ rfl), (Or.inr (Or.inl ⟨h8_, h9_, h10_, h11_, hS⟩))⟩
     ·have hS : St w0 w noX [] [pt b14 (Cs #[Bv false, Uv 0, Uv 0] 72), pt b6 (Cs #[Iv 0, Iv 0] 23), pt b5 (Cs #[Iv x1, Iv x2] 23)] := hD; clear hD
      replace hf : Fr a 49 [] [(20, Iv x1), (21, Iv x3), (1, Iv x3), (2, Iv x4), (3, Pv b5 0), (6, Pv b6 0), (7, Iv 0)] := hf
      refine O.callR hf rfl rfl rfl (RunE.call (av := #[Iv x1, Iv x3]) C_ok_34 rfl rfl rfl) (m_ref03_Times_ok F x1 x3 _ x11 hx11) ?_
      clear hf a; rintro _ w hS1 a hf
      replace hf : Fr a _ _ ((22, .agg #[Bv x11.1, Uv x11.2.1, Uv x11.2.2]) :: _) := hf
      replace hS := (hS.call hS1).eqM (N := [pt b14 (Cs #[Bv false, Uv 0, Uv 0] 72), pt b6 (Cs #[Iv 0, Iv 0] 23), pt b5 (Cs #[Iv x1, Iv x2] 23)]) rfl
      clear hS1
      exact O.nil ⟨rfl, hf.to trivial, (fun d hd => by cases (show some 22 = some d from hd); exact hf.get _ _ rfl), (Or.inr (Or.inr (Or.inl ⟨h8_, h9_, h10_, h11_, hS⟩)))⟩
     ·have hS : St w0 w noX [] [pt b14 (Cs #[Bv false, Uv 0, Uv 0] 72), pt b13 (Cs #[Bv false, Uv 0, Uv 0] 72), pt b6 (Cs #[Iv 0, Iv 0] 23), pt b5 (Cs #[Iv x1, Iv x2] 23)] := hD; clear hD
      replace hf : Fr a 49 [] [(20, Iv x1), (21, Iv x3), (1, Iv x3), (2, Iv x4), (3, Pv b5 0), (6, Pv b6 0), (7, Iv 0)] := hf
      refine O.callR hf rfl rfl rfl (RunE.call (av := #[Iv x1, Iv x3]) C_ok_34 rfl rfl rfl) (m_ref03_Times_ok F x1 x3 _ x11 hx11) ?_
      clear hf a; rintro _ w hS1 a hf
      replace hf : Fr a _ _ ((22, .agg #[Bv x11.1, Uv x11.2.1, Uv x11.2.2]) :: _) := hf
      replace hS := (hS.call hS1).eqM (N := [pt b14 (Cs #[Bv false, Uv 0, Uv 0] 72), pt b13 (Cs #[Bv false, Uv 0, Uv 0] 72), pt b6 (Cs #[Iv 0, Iv 0] 23), pt b5 (Cs #[Iv x1, Iv x2] 23)]) rfl
      clear hS1
      exact O.nil ⟨rfl, hf.to trivial, (fun d hd => by cases (show some 22 = some d from hd); exact hf.get _ _ rfl), (Or.inr (Or.inr (Or.inr (Or.inl ⟨h8_, h9_, h10_, h11_, hS⟩))))⟩
     ·exact absurd ((hsb 10 (by simp)).symm.trans h10_) (by decide)
     ·exact absurd ((hsb 10 (by simp)).symm.trans h10_) (by decide)
    ·intro s g w hsp hsb hD a hf
     obtain ⟨b13, b14⟩ := g
     rcases hD with (⟨h8_, h9_, h10_, h11_, hD⟩ | ⟨h8_, h9_, h10_, h11_, hD⟩ | ⟨h8_, h9_, h10_, h11_, hD⟩ | ⟨h8_, h9_, h10_, h11_, hD⟩ | ⟨h8_, h9_, h10_, h11_, hD⟩ | ⟨h8_, h9_, h10_, h11_, hD⟩)
     ·have hS : St w0 w noX [] [pt b6 (Cs #[Iv 0, Iv 0] 23), pt b5 (Cs #[Iv x1, Iv x2] 23)] := hD; clear hD
      replace hf : Fr a 49 [] [(1, Iv x3), (2, Iv x4), (3, Pv b5 0), (6, Pv b6 0), (7, Iv 0)] := hf
      refine O.val hf rfl rfl rfl (RunV.field T_field_23_1 rfl rfl) ?_; clear hf a; intro a hf
      exact O.nil ⟨rfl, hf.to trivial, (fun d hd => by cases (show some 23 = some d from hd); exact hf.get _ _ rfl), (Or.inl ⟨h8_, h9_, h10_, h11_, hS⟩)⟩
     ·have hS : St w0 w noX [] [pt b13 (Cs #[Bv false, Uv 0, Uv 0] 72), pt b6 (Cs #[Iv 0, Iv 0] 23), pt b5 (Cs #[Iv x1, Iv x2] 23)] := hD; clear hD
      replace hf : Fr a 49 [] [(1, Iv x3), (2, Iv x4), (3, Pv b5 0), (6, Pv b6 0), (7, Iv 0)] := hf
      refine O.val hf rfl rfl rfl (RunV.field T_field_23_1 rfl rfl) ?_; clear hf a; intro a hf
      exact O.nil ⟨rfl, hf.to trivial, (fun d hd => by cases (show some 23 = some d from hd); exact hf.get _ _ rfl), (Or.inr (Or.inl ⟨h8_, h9_, h10_, h11_, hS⟩))⟩
     ·have hS : St w0 w noX [] [pt b14 (Cs #[Bv false, Uv 0, Uv 0] 72), pt b6 (Cs #[Iv 0, Iv 0] 23), pt b5 (Cs #[Iv x1, Iv x2] 23)] := hD; clear hD
      replace hf : Fr a 49 [] [(1, Iv x3), (2, Iv x4), (3, Pv b5 0), (6, Pv b6 0), (7, Iv 0)] := hf
      refine O.val hf rfl rfl rfl (RunV.field T_field_23_1 rfl rfl) ?_; clear hf a; intro a hf
      exact O.nil ⟨rfl, hf.to trivial, (fun d hd => by cases (show some 23 = some d from hd); exact hf.get _ _ rfl), (Or.inr (Or.inr (Or.inl ⟨h8_, h9_, h10_, h11_, hS⟩)))⟩
     ·have hS : St w0 w noX [] [pt b14 (Cs #[Bv false, Uv 0, Uv 0] 72), pt b13 (Cs #[Bv false, Uv 0, Uv 0] 72), pt b6 (Cs #[Iv 0, Iv 0] 23), pt b5 (Cs #[Iv x1, Iv x2] 23)] := hD; clear hD
      replace hf : Fr a 49 [] [(1, Iv x3), (2, Iv x4), (3, Pv b5 0), (6, Pv b6 0), (7, Iv 0)] := hf
      refine O.val hf rfl rfl rfl (RunV.field T_field_23_1 rfl rfl) ?_; clear hf a; intro a hf
      exact O.nil ⟨rfl, hf.to trivial, (fun d hd => by cases (show some 23 = some d from hd); exact hf.get _ _ rfl), (Or.inr (Or.inr (Or.inr (Or.inl ⟨h8_, h9_, h10_, h11_, hS⟩))))⟩
     ·exact absurd ((hsb 10 (by simp)).symm.trans h10_) (by decide)
     ·exact absurd ((hsb 10 (by simp)).symm.trans h10_) (by decide)
    ·intro s g w hsp hsb hD a hf
     obtain ⟨b13, b14⟩ := g
     rcases hD with (⟨h8_, h9_, h10_, h11_, hD⟩ | ⟨h8_, h9_, h10_, h11_, hD⟩ | ⟨h8_, h9_, h10_, h11_, hD⟩ | ⟨h8_, h9_, h10_, h11_, hD⟩ | ⟨h8_, h9_, h10_, h11_, hD⟩ | ⟨h8_, h9_, h10_, h11_, hD⟩)
     ·have hS : St w0 w noX [] [pt b6 (Cs #[Iv 0, Iv 0] 23), pt b5 (Cs #[Iv x1, Iv x2] 23)] := hD; clear hD
      replace hf : Fr a 49 [] [(23, Pv b5 1), (1, Iv x3), (2, Iv x4), (3, Pv b5 0), (6, Pv b6 0), (7, Iv 0)] := hf
      refine O.val hf rfl rfl rfl (RunV.load1 T_agg_2 rfl (hS.ptAt (i := 1) rfl) rfl) ?_; clear hf a; intro a hf
      exact O.nil ⟨rfl, hf.to trivial, (fun d hd => by cases (show some 24 = some d from hd); exact hf.get _ _ rfl), (Or.inl ⟨h8_, h9_, h10_, h11_, hS⟩)⟩
     ·have hS : St w0 w noX [] [pt b13 (Cs #[Bv false, Uv 0, Uv 0] 72), pt b6 (Cs #[Iv 0, Iv 0] 23), pt b5 (Cs #[Iv x1, Iv x2] 23)] := hD; clear hD
      replace hf : Fr a 49 [] [(23, Pv b5 1), (1, Iv x3), (2, Iv x4), (3, Pv b5 0), (6, Pv b6 0), (7, Iv 0)] := hf
      refine O.val hf rfl rfl rfl (RunV.load1 T_agg_2 rfl (hS.ptAt (i := 2) rfl) rfl) ?_; clear hf a; intro a hf
      exact O.nil ⟨rfl, hf.to trivial, (fun d hd => by cases (show some 24 = some d from hd); exact hf.get _ _ rfl), (Or.inr (Or.inl ⟨h8_, h9_, h10_, h11_, hS⟩))⟩
     ·have hS : St w0 w noX [] [pt b14 (Cs #[Bv false, Uv 0, Uv 0] 72), pt b6 (Cs #[Iv 0, Iv 0] 23), pt b5 (Cs #[Iv x1, Iv x2] 23)] := hD; clear hD
      replace hf : Fr a 49 [] [(23, Pv b5 1), (1, Iv x3), (2, Iv x4), (3, Pv b5 0), (6, Pv b6 0), (7, Iv 0)] := hf
      refine O.val hf rfl rfl rfl (RunV.load1 T_agg_2 rfl (hS.ptAt (i := 2) rfl) rfl) ?_; clear hf a; intro a hf
      exact O.nil ⟨rfl, hf.to trivial, (fun d hd => by cases (show some 24 = some d from hd); exact hf.get _ _ rfl), (Or.inr (Or.inr (Or.inl ⟨h8_, h9_, h10_, h11_, hS⟩)))⟩
     ·have hS : St w0 w noX [] [pt b14 (Cs #[Bv false, Uv 0, Uv 0] 72), pt b13 (Cs #[Bv false, Uv 0, Uv 0] 72), pt b6 (Cs #[Iv 0, Iv 0] 23), pt b5 (Cs #[Iv x1, Iv x2] 23)] := hD; clear hD
      replace hf : Fr a 49 [] [(23, Pv b5 1), (1, Iv x3), (2, Iv x4), (3, Pv b5 0), (6, Pv b6 0), (7, Iv 0)] := hf
      refine O.val hf rfl rfl rfl (RunV.load1 T_agg_2 rfl (hS.ptAt (i := 3) rfl) rfl) ?_; clear hf a; intro a hf
      exact O.nil ⟨rfl, hf.to trivial, (fun d hd => by cases (show some 24 = some d from hd); exact hf.get _ _ rfl), (Or.inr (Or.inr (Or.inr (Or.inl ⟨h8_, h9_, h10_, h11_, hS⟩))))⟩
     ·exact absurd ((hsb 10 (by simp)).symm.trans h10_) (by decide)
     ·exact absurd ((hsb 10 (by simp)).symm.trans h10_) (by decide)
    ·intro s g w hsp hsb hD a hf
     obtain ⟨b13, b14⟩ := g
     rcases hD with (⟨h8_, h9_, h10_, h11_, hD⟩ | ⟨h8_, h9_, h10_, h11_, hD⟩ | ⟨h8_, h9_, h10_, h11_, hD⟩ | ⟨h8_, h9_, h10_, h11_, hD⟩ | ⟨h8_, h9_, h10_, h11_, hD⟩ | ⟨h8_, h9_, h10_, h11_, hD⟩)
     ·have hS : St w0 w noX [] [pt b6 (Cs #[Iv 0, Iv 0] 23), pt b5 (Cs #[Iv x1, Iv x2] 23)] := hD; clear hD
      replace hf : Fr a 49 [] [(1, Iv x3), (2, Iv x4), (3, Pv b5 0), (6, Pv b6 0), (7, Iv 0)] := hf
      refine O.val hf rfl rfl rfl (RunV.move rfl) ?_; clear hf a; intro a hf
      exact O.nil ⟨rfl, hf.to trivial, (fun d hd => by cases (show some 25 = some d from hd); exact hf.get _ _ rfl), (Or.inl ⟨h8_, h9_, h10_, h11_, hS⟩)⟩
     ·have hS : St w0 w noX [] [pt b13 (Cs #[Bv false, Uv 0, Uv 0] 72), pt b6 (Cs #[Iv 0, Iv 0] 23), pt b5 (Cs #[Iv x1, Iv x2] 23)] := hD; clear hD
      replace hf : Fr a 49 [] [(1, Iv x3), (2, Iv x4), (3, Pv b5 0), (6, Pv b6 0), (7, Iv 0)] := hf
      refine O.val hf rfl rfl rfl (RunV.move rfl) ?_; clear hf a; intro a hf
      exact O.nil ⟨rfl, hf.to trivial, (fun d hd => by cases (show some 25 = some d from hd); exact hf.get _ _ rfl), (Or.inr (Or.inl ⟨h8_, h9_, h10_, h11_, hS⟩))⟩
     ·have hS : St w0 w noX [] [pt b14 (Cs #[Bv false, Uv 0, Uv 0] 72), pt b6 (Cs #[Iv 0, Iv 0] 23), pt b5 (Cs #[Iv x1, Iv x2] 23)] := hD; clear hD
      replace hf : Fr a 49 [] [(1, Iv x3), (2, Iv x4), (3, Pv b5 0), (6, Pv b6 0), (7, Iv 0)] := hf
      refine O.val hf rfl rfl rfl (RunV.move rfl) ?_; clear hf a; intro a hf
      exact O.nil ⟨rfl, hf.to trivial, (fun d hd => by cases (show some 25 = some d from hd); exact hf.get _ _ rfl), (Or.inr (Or.inr (Or.inl ⟨h8_, h9_, h10_, h11_, hS⟩)))⟩
     ·have hS : St w0 w noX [] [pt b14 (Cs #[Bv false, Uv 0, Uv 0] 72), pt b13 (Cs #[Bv false, Uv 0, Uv 0] 72), pt b6 (Cs #[Iv 0, Iv 0] 23), pt b5 (Cs #[Iv x1, Iv x2] 23)] := hD; clear hD
      replace hf : Fr a 49 [] [(1, Iv x3), (2, Iv x4), (3, Pv b5 0), (6, Pv b6 0), (7, Iv 0)] := hf
      refine O.val hf rfl rfl rfl (RunV.move rfl) ?_; clear hf a; intro a hf
      exact O.nil ⟨rfl, hf.to trivial, (fun d hd => by cases (show some 25 = some d from hd); exact hf.get _ _ rfl), (Or.inr (Or.inr (Or.inr (Or.inl ⟨h8_, h9_, h10_, h11_, hS⟩))))⟩
     ·exact absurd ((hsb 10 (by simp)).symm.trans h10_) (by decide)
     ·exact absurd ((hsb 10 (by simp)).symm.trans h10_) (by decide)
    ·intro s g w hsp hsb hD a hf
     obtain ⟨b13, b14⟩ := g
     rcases hD with (⟨h8_, h9_, h10_, h11_, hD⟩ | ⟨h8_, h9_, h10_, h11_, hD⟩ | ⟨h8_, h9_, h10_, h11_, hD⟩ | ⟨h8_, h9_, h10_, h11_, hD⟩ | ⟨h8_, h9_, h10_, h11_, hD⟩ | ⟨h8_, h9_, h10_, h11_, hD⟩)
     ·have hS : St w0 w noX [] [pt b6 (Cs #[Iv 0, Iv 0] 23), pt b5 (Cs #[Iv x1, Iv x2] 23)] := hD; clear hD
      replace hf : Fr a 49 [] [(22, .agg #[Bv x11.1, Uv x11.2.1, Uv x11.2.2]), (24, Iv x2), (25, Iv x3), (1, Iv x3), (2, Iv x4), (3, Pv b5 0), (6, Pv b6 0), (7, Iv 0)] := hf
      refine O.callR hf rfl rfl rfl (RunE.call (av := #[Iv x2, Iv x3]) C_ok_34 rfl rfl rfl) (m_ref03_Times_ok F x2 x3 _ x12 hx12) ?_
      clear hf a; rintro _ w hS1 a hf
      replace hf : Fr a _ _ ((26, .agg #[Bv x12.1, Uv x12.2.1, Uv x12.2.2]) :: _) := hf
      replace hS := (hS.call hS1).eqM (N := [pt b6 (Cs #[Iv 0, Iv 0] 23), pt b5 (Cs #[Iv x1, Iv x2] 23)]) rfl
      clear hS1
      exact O.nil ⟨rfl, hf.to trivial, (fun d hd => by cases (show some 26 = some d from hd); exact hf.get _ _ rfl), (Or.inl ⟨h8_, h9_, h10_, h11_, hS⟩)⟩
     ·have hS : St w0 w noX [] [pt b13 (Cs #[Bv false, Uv 0, Uv 0] 72), pt b6 (Cs #[Iv 0, Iv 0] 23), pt b5 (Cs #[Iv x1, Iv x2] 23)] := hD; clear hD
      replace hf : Fr a 49 [] [(22, .agg #[Bv x11.1, Uv x11.2.1, Uv x11.2.2]), (24, Iv x2), (25, Iv x3), (1, Iv x3), (2, Iv x4), (3, Pv b5 0), (6, Pv b6 0), (7, Iv 0)] := hf
      refine O.callR hf rfl rfl rfl (RunE.call (av := #[Iv x2, Iv x3]) C_ok_34 rfl rfl rfl) (m_ref03_Times_ok F x2 x3 _ x12 hx12) ?_
      clear hf a; rintro _ w hS1 a hf
      replace hf : Fr a _ _ ((26, .agg #[Bv x12.1, Uv x12.2.1, Uv x12.2.2]) :: _) := hf
      replace hS := (hS.call hS1).eqM (N := [pt b13 (Cs #[Bv false, Uv 0, Uv 0] 72), pt b6 (Cs #[Iv 0, Iv 0] 23), pt b5 (Cs #[Iv x1, Iv x2] 23)]) rfl
      clear hS1
      exact O.nil ⟨rfl, hf.to trivial, (fun d hd => by cases (show some 26 = some d from hd); exact hf.get _ _ rfl), (Or.inr (Or.inl ⟨h8_, h9_, h10_, h11_, hS⟩))⟩
     ·have hS : St w0 w noX [] [pt b14 (Cs #[Bv false, Uv 0, Uv 0] 72), pt b6 (Cs #[Iv 0, Iv 0] 23), pt b5 (Cs #[Iv x1, Iv x2] 23)] := hD; clear hD
      replace hf : Fr a 49 [] [(22, .agg #[Bv x11.1, Uv x11.2.1, Uv x11.2.2]), (24, Iv x2), (25, Iv x3), (1, Iv x3), (2, Iv x4), (3, Pv b5 0), (6, Pv b6 0), (7, Iv 0)] := hf
      refine O.callR hf rfl rfl rfl (RunE.call (av := #[Iv x2, Iv x3]) C_ok_34 rfl rfl rfl) (m_ref03_Times_ok F x2 x3 _ x12 hx12) ?_
      clear hf a; rintro _ w hS1 a hf
      replace hf : Fr a _ _ ((26, .agg #[Bv x12.1, Uv x12.2.1, Uv x12.2.2]) :: _) := hf
      replace hS := (hS.call hS1).eqM (N := [pt b14 (Cs #[Bv false, Uv 0, Uv 0] 72), pt b6 (Cs #[Iv 0, Iv 0] 23), pt b5 (Cs #[Iv x1, Iv x2] 23)]) rfl
      clear hS1
      exact O.nil ⟨rfl, hf.to trivial, (fun d hd => by cases (show some 26 = some d from hd); exact hf.get _ _ rfl), (Or.inr (Or.inr (Or.inl ⟨h8_, h9_, h10_, h11_, hS⟩)))⟩
     ·have hS : St w0 w noX [] [pt b14 (Cs #[Bv false, Uv 0, Uv 0] 72), pt b13 (Cs #[Bv false, Uv 0, Uv 0] 72), pt b6 (Cs #[Iv 0, Iv 0] 23), pt b5 (Cs #[Iv x1, Iv x2] 23)] := hD; clear hD
      replace hf : Fr a 49 [] [(22, .agg #[Bv x11.1, Uv x11.2.1, Uv x11.2.2]), (24, Iv x2), (25, Iv x3), (1, Iv x3), (2, Iv x4), (3, Pv b5 0), (6, Pv b6 0), (7, Iv 0)] := hf
      refine O.callR hf rfl rfl rfl (RunE.call (av := #[Iv x2, Iv x3]) C_ok_34 rfl rfl rfl) (m_ref03_Times_ok F x2 x3 _ x12 hx12) ?_
      clear hf a; rintro _ w hS1 a hf
      replace hf : Fr a _ _ ((26, .agg #[Bv x12.1, Uv x12.2.1, Uv x12.2.2]) :: _) := hf
      replace hS := (hS.call hS1).eqM (N := [pt b14 (Cs #[Bv false, Uv 0, Uv 0] 72), pt b13 (Cs #[Bv false, Uv 0, Uv 0] 72), pt b6 (Cs #[Iv 0, Iv 0] 23), pt b5 (Cs #[Iv x1, Iv x2] 23)]) rfl
      clear hS1
      exact O.nil ⟨rfl, hf.to trivial, (fun d hd => by cases (show some 26 = some d from hd); exact hf.get _ _ rfl), (Or.inr (Or.inr (Or.inr (Or.inl ⟨h8_, h9_, h10_, h11_, hS⟩))))⟩
     ·exact absurd ((hsb 10 (by simp)).symm.trans h10_) (by decide)
     ·exact absurd ((hsb 10 (by simp)).symm.trans h10_) (by decide)
   ·clear hf hf1 hS
    refine ⟨?_, ?_, ?_, ?_, trivial⟩
    ·intro s g w hs0 hsp hsb hD a hf
     obtain ⟨b13, b14⟩ := g
     rcases hD with (⟨h8_, h9_, h10_, h11_, hD⟩ | ⟨h8_, h9_, h10_, h11_, hD⟩ | ⟨h8_, h9_, h10_, h11_, hD⟩ | ⟨h8_, h9_, h10_, h11_, hD⟩ | ⟨h8_, h9_, h10_, h11_, hD⟩ | ⟨h8_, h9_, h10_, h11_, hD⟩)
     ·have hS : St w0 w noX [] [pt b6 (Cs #[Iv 0, Iv 0] 23), pt b5 (Cs #[Iv x1, Iv x2] 23)] := hD; clear hD
      replace hf : Fr a 49 [] [(1, Iv x3), (2, Iv x4), (3, Pv b5 0), (6, Pv b6 0), (7, Iv 0)] := hf
      refine O.alloc (cs := #[Bv false, Uv 0, Uv 0]) hf hS rfl rfl T_zero_72 rfl ?_
      clear hf hS a; intro b13 w a hb13 hS hf
      exact O.nil ⟨rfl, (b13, b14), hf.to trivial, (fun d hd => by cases (show some 8 = some d from hd); exact hf.get _ _ rfl), (fun j hj hk => match j, hj, hk with | 0, hj, hk => rfl | 1, hj, hk => rfl | 2, hj, hk => rfl | 3, hj, hk => rfl | 4, hj, hk => rfl | 5, hj, hk => rfl | 6, hj, hk => rfl | 7, hj, hk => rfl | 8, hj, hk => absurd rfl hj | 9, hj, hk => rfl | 10, hj, hk => absurd hk (by decide) | 11, hj, hk => absurd hk (by decide) | _ + 12, _, _ => rfl), (Or.inr (Or.inl ⟨rfl, h9_, h10_, h11_, hS⟩))⟩
     ·exact absurd (hs0.symm.trans h8_) (by decide)
     ·have hS : St w0 w noX [] [pt b14 (Cs #[Bv false, Uv 0, Uv 0] 72), pt b6 (Cs #[Iv 0, Iv 0] 23), pt b5 (Cs #[Iv x1, Iv x2] 23)] := hD; clear hD
      replace hf : Fr a 49 [] [(1, Iv x3), (2, Iv x4), (3, Pv b5 0), (6, Pv b6 0), (7, Iv 0)] := hf
      refine O.alloc (cs := #[Bv false, Uv 0, Uv 0]) hf hS rfl rfl T_zero_72 rfl ?_
      clear hf hS a; intro b13 w a hb13 hS hf
      replace hS := hS.front (i := 3) (M' := [pt b5 (Cs #[Iv x1, Iv x2] 23), pt b13 (Cs #[Bv false, Uv 0, Uv 0] 72), pt b14 (Cs #[Bv false, Uv 0, Uv 0] 72), pt b6 (Cs #[Iv 0, Iv 0] 23)]) rfl rfl
      replace hS := hS.front (i := 3) (M' := [pt b6 (Cs #[Iv 0, Iv 0] 23), pt b5 (Cs #[Iv x1, Iv x2] 23), pt b13 (Cs #[Bv false, Uv 0, Uv 0] 72), pt b14 (Cs #[Bv false, Uv 0, Uv 0] 72)]) rfl rfl
      replace hS := hS.front (i := 2) (M' := [pt b13 (Cs #[Bv false, Uv 0, Uv 0] 72), pt b6 (Cs #[Iv 0, Iv 0] 23), pt b5 (Cs #[Iv x1, Iv x2] 23), pt b14 (Cs #[Bv false, Uv 0, Uv 0] 72)]) rfl rfl
      replace hS := hS.front (i := 3) (M' := [pt b14 (Cs #[Bv false, Uv 0, Uv 0] 72), pt b13 (Cs #[Bv false, Uv 0, Uv 0] 72), pt b6 (Cs #[Iv 0, Iv 0] 23), pt b5 (Cs #[Iv x1, Iv x2] 23)]) rfl rfl
      exact O.nil ⟨rfl, (b13, b14), hf.to trivial, (fun d hd => by cases (show some 8 = some d from hd); exact hf.get _ _ rfl), (fun j hj hk => match j, hj, hk with | 0, hj, hk => rfl | 1, hj, hk => rfl | 2, hj, hk => rfl | 3, hj, hk => rfl | 4, hj, hk => rfl | 5, hj, hk => rfl | 6, hj, hk => rfl | 7, hj, hk => rfl | 8, hj, hk => absurd rfl hj | 9, hj, hk => rfl | 10, hj, hk => absurd hk (by decide) | 11, hj, hk => absurd hk (by decide) | _ + 12, _, _ => rfl), (Or.inr (Or.inr (Or.inr (Or.inl ⟨rfl, h9_, h10_, h11_, hS⟩))))⟩
     ·exact absurd (hs0.symm.trans h8_) (by decide)
     ·exact absurd (hs0.symm.trans h8_) (by decide)
     ·exact absurd (hs0.symm.trans h8_) (by decide)
    ·intro s g w hs0 hsp hsb hD a hf
     obtain ⟨b13, b14⟩ := g
     rcases hD with (⟨h8_, h9_, h10_, h11_, hD⟩ | ⟨h8_, h9_, h10_, h11_, hD⟩ | ⟨h8_, h9_, h10_, h11_, hD⟩ | ⟨h8_, h9_, h10_, h11_, hD⟩ | ⟨h8_, h9_, h10_, h11_, hD⟩ | ⟨h8_, h9_, h10_, h11_, hD⟩)
     ·have hS : St w0 w noX [] [pt b6 (Cs #[Iv 0, Iv 0] 23), pt b5 (Cs #[Iv x1, Iv x2] 23)] := hD; clear hD
      replace hf : Fr a 49 [] [(1, Iv x3), (2, Iv x4), (3, Pv b5 0), (6, Pv b6 0), (7, Iv 0)] := hf
      refine O.alloc (cs := #[Bv false, Uv 0, Uv 0]) hf hS rfl rfl T_zero_72 rfl ?_
      clear hf hS a; intro b14 w a hb14 hS hf
      exact O.nil ⟨rfl, (b13, b14), hf.to trivial, (fun d hd => by cases (show some 9 = some d from hd); exact hf.get _ _ rfl), (fun j hj hk => match j, hj, hk with | 0, hj, hk => rfl | 1, hj, hk => rfl | 2, hj, hk => rfl | 3, hj, hk => rfl | 4, hj, hk => rfl | 5, hj, hk => rfl | 6, hj, hk => rfl | 7, hj, hk => rfl | 8, hj, hk => rfl | 9, hj, hk => absurd rfl hj | 10, hj, hk => absurd hk (by decide) | 11, hj, hk => absurd hk (by decide) | _ + 12, _, _ => rfl), (Or.inr (Or.inr (Or.inl ⟨h8_, rfl, h10_, h11_, hS⟩)))⟩
     ·have hS : St w0 w noX [] [pt b13 (Cs #[Bv false, Uv 0, Uv 0] 72), pt b6 (Cs #[Iv 0, Iv 0] 23), pt b5 (Cs #[Iv x1, Iv x2] 23)] := hD; clear hD
      replace hf : Fr a 49 [] [(1, Iv x3), (2, Iv x4), (3, Pv b5 0), (6, Pv b6 0), (7, Iv 0)] := hf
      refine O.alloc (cs := #[Bv false, Uv 0, Uv 0]) hf hS rfl rfl T_zero_72 rfl ?_
      clear hf hS a; intro b14 w a hb14 hS hf
      exact O.nil ⟨rfl, (b13, b14), hf.to trivial, (fun d hd => by cases (show some 9 = some d from hd); exact hf.get _ _ rfl), (fun j hj hk => match j, hj, hk with | 0, hj, hk => rfl | 1, hj, hk => rfl | 2, hj, hk => rfl | 3, hj, hk => rfl | 4, hj, hk => rfl | 5, hj, hk => rfl | 6, hj, hk => rfl | 7, hj, hk => rfl | 8, hj, hk => rfl | 9, hj, hk => absurd rfl hj | 10, hj, hk => absurd hk (by decide) | 11, hj, hk => absurd hk (by decide) | _ + 12, _, _ => rfl), (Or.inr (Or.inr (Or.inr (Or.inl ⟨h8_, rfl, h10_, h11_, hS⟩))))⟩
     ·exact absurd (hs0.symm.trans h9_) (by decide)
     ·exact absurd (hs0.symm.trans h9_) (by decide)
     ·exact absurd (hs0.symm.trans h9_) (by decide)
     ·exact absurd (hs0.symm.trans h9_) (by decide)
    ·intro s g w hs0 hsp hsb hD a hf
     obtain ⟨b13, b14⟩ := g
     rcases hD with (⟨h8_, h9_, h10_, h11_, hD⟩ | ⟨h8_, h9_, h10_, h11_, hD⟩ | ⟨h8_, h9_, h10_, h11_, hD⟩ | ⟨h8_, h9_, h10_, h11_, hD⟩ | ⟨h8_, h9_, h10_, h11_, hD⟩ | ⟨h8_, h9_, h10_, h11_, hD⟩)
     ·exact absurd ((hsp 8 (by simp)).symm.trans h8_) (by decide)
     ·exact absurd ((hsp 9 (by simp)).symm.trans h9_) (by decide)
     ·exact absurd ((hsp 8 (by simp)).symm.trans h8_) (by decide)
     ·have hS : St w0 w noX [] [pt b14 (Cs #[Bv false, Uv 0, Uv 0] 72), pt b13 (Cs #[Bv false, Uv 0, Uv 0] 72), pt b6 (Cs #[Iv 0, Iv 0] 23), pt b5 (Cs #[Iv x1, Iv x2] 23)] := hD; clear hD
      replace hf : Fr a 49 [] [(19, Pv b5 0), (20, Iv x1), (21, Iv x3), (22, .agg #[Bv x11.1, Uv x11.2.1, Uv x11.2.2]), (26, .agg #[Bv x12.1, Uv x12.2.1, Uv x12.2.2]), (8, Pv b13 0), (9, Pv b14 0), (1, Iv x3), (2, Iv x4), (3, Pv b5 0), (6, Pv b6 0), (7, Iv 0)] := hf
      refine O.store (j := 1) (cs' := #[Bv x11.1, Uv x11.2.1, Uv x11.2.2]) (M' := [pt b14 (Cs #[Bv false, Uv 0, Uv 0] 72), pt b13 (Cs #[Bv x11.1, Uv x11.2.1, Uv x11.2.2] 72), pt b6 (Cs #[Iv 0, Iv 0] 23), pt b5 (Cs #[Iv x1, Iv x2] 23)]) hf hS rfl rfl rfl T_size_72 rfl rfl rfl (Nat.le_of_ble_eq_true rfl) rfl rfl ?_
      clear hS; intro w hS
      exact O.nil ⟨rfl, (b13, b14), hf.to trivial, (fun d hd => by cases (show none = some d from hd)), (fun j hj hk => match j, hj, hk with | 0, hj, hk => rfl | 1, hj, hk => rfl | 2, hj, hk => rfl | 3, hj, hk => rfl | 4, hj, hk => rfl | 5, hj, hk => rfl | 6, hj, hk => rfl | 7, hj, hk => rfl | 8, hj, hk => rfl | 9, hj, hk => rfl | 10, hj, hk => absurd rfl hj | 11, hj, hk => absurd hk (by decide) | _ + 12, _, _ => rfl), (Or.inr (Or.inr (Or.inr (Or.inr (Or.inl ⟨h8_, h9_, rfl, h11_, hS⟩)))))⟩
     ·exact absurd (hs0.symm.trans h10_) (by decide)
     ·exact absurd (hs0.symm.trans h10_) (by decide)
    ·intro s g w hs0 hsp hsb hD a hf
     obtain ⟨b13, b14⟩ := g
     rcases hD with (⟨h8_, h9_, h10_, h11_, hD⟩ | ⟨h8_, h9_, h10_, h11_, hD⟩ | ⟨h8_, h9_, h10_, h11_, hD⟩ | ⟨h8_, h9_, h10_, h11_, hD⟩ | ⟨h8_, h9_, h10_, h11_, hD⟩ | ⟨h8_, h9_, h10_, h11_, hD⟩)
     ·exact absurd ((hsp 8 (by simp)).symm.trans h8_) (by decide)
     ·exact absurd ((hsp 9 (by simp)).symm.trans h9_) (by decide)
     ·exact absurd ((hsp 8 (by simp)).symm.trans h8_) (by decide)
     ·exact absurd ((hsp 10 (by simp)).symm.trans h10_) (by decide)
     ·have hS : St w0 w noX [] [pt b14 (Cs #[Bv false, Uv 0, Uv 0] 72), pt b13 (Cs #[Bv x11.1, Uv x11.2.1, Uv x11.2.2] 72), pt b6 (Cs #[Iv 0, Iv 0] 23), pt b5 (Cs #[Iv x1, Iv x2] 23)] := hD; clear hD
      replace hf : Fr a 49 [] [(19, Pv b5 0), (20, Iv x1), (21, Iv x3), (22, .agg #[Bv x11.1, Uv x11.2.1, Uv x11.2.2]), (23, Pv b5 1), (24, Iv x2), (25, Iv x3), (26, .agg #[Bv x12.1, Uv x12.2.1, Uv x12.2.2]), (8, Pv b13 0), (9, Pv b14 0), (1, Iv x3), (2, Iv x4), (3, Pv b5 0), (6, Pv b6 0), (7, Iv 0)] := hf
      refine O.store (j := 0) (cs' := #[Bv x12.1, Uv x12.2.1, Uv x12.2.2]) (M' := [pt b14 (Cs #[Bv x12.1, Uv x12.2.1, Uv x12.2.2] 72), pt b13 (Cs #[Bv x11.1, Uv x11.2.1, Uv x11.2.2] 72), pt b6 (Cs #[Iv 0, Iv 0] 23), pt b5 (Cs #[Iv x1, Iv x2] 23)]) hf hS rfl rfl rfl T_size_72 rfl rfl rfl (Nat.le_of_ble_eq_true rfl) rfl rfl ?_
      clear hS; intro w hS
      exact O.nil ⟨rfl, (b13, b14), hf.to trivial, (fun d hd => by cases (show none = some d from hd)), (fun j hj hk => match j, hj, hk with | 0, hj, hk => rfl | 1, hj, hk => rfl | 2, hj, hk => rfl | 3, hj, hk => rfl | 4, hj, hk => rfl | 5, hj, hk => rfl | 6, hj, hk => rfl | 7, hj, hk => rfl | 8, hj, hk => rfl | 9, hj, hk => rfl | 10, hj, hk => rfl | 11, hj, hk => absurd rfl hj | _ + 12, _, _ => rfl), (Or.inr (Or.inr (Or.inr (Or.inr (Or.inr ⟨h8_, h9_, h10_, rfl, hS⟩)))))⟩
     ·exact absurd (hs0.symm.trans h11_) (by decide)
   clear hf hf1 hS; intro s g a w hs hf hD
   obtain ⟨b13, b14⟩ := g
   rcases hD with (⟨h8_, h9_, h10_, h11_, hD⟩ | ⟨h8_, h9_, h10_, h11_, hD⟩ | ⟨h8_, h9_, h10_, h11_, hD⟩ | ⟨h8_, h9_, h10_, h11_, hD⟩ | ⟨h8_, h9_, h10_, h11_, hD⟩ | ⟨h8_, h9_, h10_, h11_, hD⟩)
   · exact absurd ((hs 8 (by simp)).symm.trans h8_) (by decide)
   · exact absurd ((hs 9 (by simp)).symm.trans h9_) (by decide)
   · exact absurd ((hs 8 (by simp)).symm.trans h8_) (by decide)
   · exact absurd ((hs 10 (by simp)).symm.trans h10_) (by decide)
   · exact absurd ((hs 11 (by simp)).symm.trans h11_) (by decide)
   have hS : St w0 w noX [] [pt b14 (Cs #[Bv x12.1, Uv x12.2.1, Uv x12.2.2] 72), pt b13 (Cs #[Bv x11.1, Uv x11.2.1, Uv x11.2.2] 72), pt b6 (Cs #[Iv 0, Iv 0] 23), pt b5 (Cs #[Iv x1, Iv x2] 23)] := hD; clear hD
   replace hf : Fr a 49 [] [(19, Pv b5 0), (20, Iv x1), (21, Iv x3), (22, .agg #[Bv x11.1, Uv x11.2.1, Uv x11.2.2]), (23, Pv b5 1), (24, Iv x2), (25, Iv x3), (26, .agg #[Bv x12.1, Uv x12.2.1, Uv x12.2.2]), (8, Pv b13 0), (9, Pv b14 0), (1, Iv x3), (2, Iv x4), (3, Pv b5 0), (6, Pv b6 0), (7, Iv 0)] := hf
   refine k_seq ?_
   replace hf : Fr a 49 [] [(2, Iv x4), (6, Pv b6 0), (7, Iv 0), (8, Pv b13 0), (9, Pv b14 0)] := hf.to ⟨rfl, rfl, rfl, rfl, rfl, trivial⟩
   refine W.seqR (fun a w => ∃ (x15 : Bool) (x16 : Int) (x17 : Int) (x18 : Bool) (x19 : Int) (x20 : Int), Fr a 49 [] [(2, Iv x4), (6, Pv b6 0), (7, Iv 0), (8, Pv b13 0), (9, Pv b14 0)] ∧ St w0 w noX [] [pt b6 (Cs #[Iv 0, Iv 0] 23), pt b13 (Cs #[Bv x15, Uv x16, Uv x17] 72), pt b14 (Cs #[Bv x18, Uv x19, Uv x20] 72)] ∧ m_ref03_Scale_j2 F x4 x15 x16 x17 x18 x19 x20 = some r) ?_ ?_
   ·refine W.seq ?_
    -- region 6
    refine W.regionL (l := [0, 1, 2]) rfl ?_
    refine O.val hf rfl rfl rfl (RunV.loadN (cs' := #[Bv x12.1, Uv x12.2.1, Uv x12.2.2]) T_agg_72 T_size_72 rfl (hS.ptAt (i := 0) rfl) (Nat.le_of_ble_eq_true rfl) rfl) ?_; clear hf a; intro a hf
    refine O.val hf rfl rfl rfl (RunV.loadN (cs' := #[Bv x11.1, Uv x11.2.1, Uv x11.2.2]) T_agg_72 T_size_72 rfl (hS.ptAt (i := 1) rfl) (Nat.le_of_ble_eq_true rfl) rfl) ?_; clear hf a; intro a hf
    obtain ⟨x35, hx35, hm⟩ := hm_b hm
    refine O.callR hf rfl rfl rfl (RunE.call (av := #[.agg #[Bv x12.1, Uv x12.2.1, Uv x12.2.2], .agg #[Bv x11.1, Uv x11.2.1, Uv x11.2.2]]) C_ok_35 rfl rfl rfl) (m_ref03_less_ok F x12.1 x12.2.1 x12.2.2 x11.1 x11.2.1 x11.2.2 _ x35 hx35) ?_
    clear hf a; rintro _ w hS1 a hf
    replace hf : Fr a _ _ ((29, Bv x35) :: _) := hf
    replace hS := (hS.call hS1).eqM (N := [pt b14 (Cs #[Bv x12.1, Uv x12.2.1, Uv x12.2.2] 72), pt b13 (Cs #[Bv x11.1, Uv x11.2.1, Uv x11.2.2] 72), pt b6 (Cs #[Iv 0, Iv 0] 23), pt b5 (Cs #[Iv x1, Iv x2] 23)]) rfl
    clear hS1
    refine O.nil ?_
    refine k_seq ?_
    replace hf : Fr a 49 [] [(2, Iv x4), (6, Pv b6 0), (7, Iv 0), (8, Pv b13 0), (9, Pv b14 0), (29, Bv x35)] := hf.to ⟨rfl, rfl, rfl, rfl, rfl, rfl, trivial⟩
    refine W.if_ hf rfl (fun hc36 => ?_) (fun hc36 => ?_)
    ·replace hm := hm_t hm hc36
     -- region 7
     refine W.regionL (l := [0, 1, 2, 3]) rfl ?_
     refine O.val hf rfl rfl rfl (RunV.loadN (cs' := #[Bv x12.1, Uv x12.2.1, Uv x12.2.2]) T_agg_72 T_size_72 rfl (hS.ptAt (i := 0) rfl) (Nat.le_of_ble_eq_true rfl) rfl) ?_; clear hf a; intro a hf
     refine O.val hf rfl rfl rfl (RunV.loadN (cs' := #[Bv x11.1, Uv x11.2.1, Uv x11.2.2]) T_agg_72 T_size_72 rfl (hS.ptAt (i := 1) rfl) (Nat.le_of_ble_eq_true rfl) rfl) ?_; clear hf a; intro a hf
     refine O.store (j := 1) (cs' := #[Bv x12.1, Uv x12.2.1, Uv x12.2.2]) (M' := [pt b14 (Cs #[Bv x12.1, Uv x12.2.1, Uv x12.2.2] 72), pt b13 (Cs #[Bv x12.1, Uv x12.2.1, Uv x12.2.2] 72), pt b6 (Cs #[Iv 0, Iv 0] 23), pt b5 (Cs #[Iv x1, Iv x2] 23)]) hf hS rfl rfl rfl T_size_72 rfl rfl rfl (Nat.le_of_ble_eq_true rfl) rfl rfl ?_
     clear hS; intro w hS
     refine O.store (j := 0) (cs' := #[Bv x11.1, Uv x11.2.1, Uv x11.2.2]) (M' := [pt b14 (Cs #[Bv x11.1, Uv x11.2.1, Uv x11.2.2] 72), pt b13 (Cs #[Bv x12.1, Uv x12.2.1, Uv x12.2.2] 72), pt b6 (Cs #[Iv 0, Iv 0] 23), pt b5 (Cs #[Iv x1, Iv x2] 23)]) hf hS rfl rfl rfl T_size_72 rfl rfl rfl (Nat.le_of_ble_eq_true rfl) rfl rfl ?_
     clear hS; intro w hS
     refine O.nil ?_
     replace hS := hS.front (i := 1) (M' := [pt b13 (Cs #[Bv x12.1, Uv x12.2.1, Uv x12.2.2] 72), pt b14 (Cs #[Bv x11.1, Uv x11.2.1, Uv x11.2.2] 72), pt b6 (Cs #[Iv 0, Iv 0] 23), pt b5 (Cs #[Iv x1, Iv x2] 23)]) rfl rfl
     replace hS := hS.front (i := 2) (M' := [pt b6 (Cs #[Iv 0, Iv 0] 23), pt b13 (Cs #[Bv x12.1, Uv x12.2.1, Uv x12.2.2] 72), pt b14 (Cs #[Bv x11.1, Uv x11.2.1, Uv x11.2.2] 72), pt b5 (Cs #[Iv x1, Iv x2] 23)]) rfl rfl
     replace hS := hS.sub (N := [pt b6 (Cs #[Iv 0, Iv 0] 23), pt b13 (Cs #[Bv x12.1, Uv x12.2.1, Uv x12.2.2] 72), pt b14 (Cs #[Bv x11.1, Uv x11.2.1, Uv x11.2.2] 72)]) (.cons_cons _ (.cons_cons _ (.cons_cons _ (.cons _ .slnil))))
     exact k_then ⟨x12.1, x12.2.1, x12.2.2, x11.1, x11.2.1, x11.2.2, hf.to ⟨rfl, rfl, rfl, rfl, rfl, trivial⟩, hS, hm⟩
    ·replace hm := hm_f hm hc36
     refine W.skip ?_
     replace hS := hS.front (i := 1) (M' := [pt b13 (Cs #[Bv x11.1, Uv x11.2.1, Uv x11.2.2] 72), pt b14 (Cs #[Bv x12.1, Uv x12.2.1, Uv x12.2.2] 72), pt b6 (Cs #[Iv 0, Iv 0] 23), pt b5 (Cs #[Iv x1, Iv x2] 23)]) rfl rfl
     replace hS := hS.front (i := 2) (M' := [pt b6 (Cs #[Iv 0, Iv 0] 23), pt b13 (Cs #[Bv x11.1, Uv x11.2.1, Uv x11.2.2] 72), pt b14 (Cs #[Bv x12.1, Uv x12.2.1, Uv x12.2.2] 72), pt b5 (Cs #[Iv x1, Iv x2] 23)]) rfl rfl
     replace hS := hS.sub (N := [pt b6 (Cs #[Iv 0, Iv 0] 23), pt b13 (Cs #[Bv x11.1, Uv x11.2.1, Uv x11.2.2] 72), pt b14 (Cs #[Bv x12.1, Uv x12.2.1, Uv x12.2.2] 72)]) (.cons_cons _ (.cons_cons _ (.cons_cons _ (.cons _ .slnil))))
     exact k_then ⟨x11.1, x11.2.1, x11.2.2, x12.1, x12.2.1, x12.2.2, hf.to ⟨rfl, rfl, rfl, rfl, rfl, trivial⟩, hS, hm⟩
   ·clear hf hS hm a; try clear w
    rintro a w ⟨x15, x16, x17, x18, x19, x20, hf, hS, hm⟩
    unfold m_ref03_Scale_j2 at hm
    refine W.seqR (fun a w => ∃ (x21 : Bool) (x22 : Int) (x23 : Int) (x24 : Bool) (x25 : Int) (x26 : Int), Fr a 49 [] [(2, Iv x4), (6, Pv b6 0), (7, Iv 0), (8, Pv b13 0), (9, Pv b14 0)] ∧ St w0 w noX [] [pt b6 (Cs #[Iv 0, Iv 0] 23), pt b13 (Cs #[Bv x21, Uv x22, Uv x23] 72), pt b14 (Cs #[Bv x24, Uv x25, Uv x26] 72)] ∧ m_ref03_Scale_j1 F x4 x21 x22 x23 x24 x25 x26 = some r) ?_ ?_
    ·refine W.seq ?_
     -- region 8
     refine W.regionL (l := [0, 1]) rfl ?_
     refine O.val hf rfl rfl rfl (RunV.move rfl) ?_; clear hf a; intro a hf
     refine O.val (v := Bv (decide (x4 < (0 : Int)))) hf rfl rfl rfl (RunV.lss rfl rfl) ?_; clear hf a; intro a hf
     refine O.nil ?_
     refine k_seq ?_
     replace hf : Fr a 49 [] [(2, Iv x4), (6, Pv b6 0), (7, Iv 0), (8, Pv b13 0), (9, Pv b14 0), (33, Bv (decide (x4 < (0 : Int))))] := hf.to ⟨rfl, rfl, rfl, rfl, rfl, rfl, trivial⟩
     refine W.ifdI hf rfl (fun hc32 => ?_) (fun hc32 => ?_)
     ·replace hm := hm_p hm hc32
      -- region 9, which draws its order
      -- [4, 5] turn memory
      have hf1 : Fr a 49 [] [] := hf.to trivial
      replace hf : Fr a 49 [] [(2, Iv x4), (6, Pv b6 0), (7, Iv 0), (8, Pv b13 0), (9, Pv b14 0), (33, Bv (decide (x4 < (0 : Int))))] := hf.to ⟨rfl, rfl, rfl, rfl, rfl, rfl, trivial⟩
      obtain ⟨x33, hx33, hm⟩ := hm_b hm
      obtain ⟨x34, hx34, hm⟩ := hm_b hm
      refine W.drawP (γ := Unit) (L0 := [(2, Iv x4), (6, Pv b6 0), (7, Iv 0), (8, Pv b13 0), (9, Pv b14 0), (33, Bv (decide (x4 < (0 : Int))))]) (L1 := []) () [4, 5] [0, 1, 2, 3] (fun i => match i with | 0 => [] | 1 => [0] | 2 => [] | 3 => [1, 2] | 4 => [0, 1, 2, 3] | 5 => [0, 1, 2, 3, 4] | _ => []) (fun i => match i with | 5 => [4] | _ => []) (fun i => match i with | 0 => [4, 5] | 1 => [4, 5] | 2 => [4, 5] | 3 => [4, 5] | 4 => [5] | _ => []) (fun i => match i with | 4 => [5] | 5 => [] | _ => []) (fun _ => []) (fun (g : Unit) j => match g, j with | _, 0 => .agg #[Bv x18, Uv x19, Uv x20] | _, 1 => .agg #[Bv x33, Uv x19, Uv x20] | _, 2 => .agg #[Bv x15, Uv x16, Uv x17] | _, 3 => .agg #[Bv x34, Uv x16, Uv x17] | _, _ => undef) (fun s (g : Unit) w => match g with | _ => (s 4 = false ∧ s 5 = false ∧ St w0 w noX [] [pt b6 (Cs #[Iv 0, Iv 0] 23), pt b13 (Cs #[Bv x15, Uv x16, Uv x17] 72), pt b14 (Cs #[Bv x18, Uv x19, Uv x20] 72)]) ∨ (s 4 = true ∧ s 5 = false ∧ St w0 w noX [] [pt b6 (Cs #[Iv 0, Iv 0] 23), pt b13 (Cs #[Bv x33, Uv x19, Uv x20] 72), pt b14 (Cs #[Bv x18, Uv x19, Uv x20] 72)]) ∨ (s 4 = true ∧ s 5 = true ∧ St w0 w noX [] [pt b6 (Cs #[Iv 0, Iv 0] 23), pt b13 (Cs #[Bv x33, Uv x19, Uv x20] 72), pt b14 (Cs #[Bv x34, Uv x16, Uv x17] 72)])) P_mixed (by kernel_rfl) hf hf1 (Or.inl ⟨rfl, rfl, hS.drew⟩) ?_ ?_ ?_
      ·clear hf hf1 hS
       refine ⟨?_, ?_, ?_, ?_, trivial⟩
       ·intro s g w hsp hsb hD a hf
        rcases hD with (⟨h4_, h5_, hD⟩ | ⟨h4_, h5_, hD⟩ | ⟨h4_, h5_, hD⟩)
        ·have hS : St w0 w noX [] [pt b6 (Cs #[Iv 0, Iv 0] 23), pt b13 (Cs #[Bv x15, Uv x16, Uv x17] 72), pt b14 (Cs #[Bv x18, Uv x19, Uv x20] 72)] := hD; clear hD
         replace hf : Fr a 49 [] [(2, Iv x4), (6, Pv b6 0), (7, Iv 0), (8, Pv b13 0), (9, Pv b14 0), (33, Bv (decide (x4 < (0 : Int))))] := hf
         refine O.val hf rfl rfl rfl (RunV.loadN (cs' := #[Bv x18, Uv x19, Uv x20]) T_agg_72 T_size_72 rfl (hS.ptAt (i := 2) rfl) (Nat.le_of_ble_eq_true rfl) rfl) ?_; clear hf a; intro a hf
         exact O.nil ⟨rfl, hf.to trivial, (fun d hd => by cases (show some 34 = some d from hd); exact hf.get _ _ rfl), (Or.inl ⟨h4_, h5_, hS⟩)⟩
        ·exact absurd ((hsb 4 (by simp)).symm.trans h4_) (by decide)
        ·exact absurd ((hsb 4 (by simp)).symm.trans h4_) (by decide)
       ·intro s g w hsp hsb hD a hf
        rcases hD with (⟨h4_, h5_, hD⟩ | ⟨h4_, h5_, hD⟩ | ⟨h4_, h5_, hD⟩)
        ·have hS : St w0 w noX [] [pt b6 (Cs #[Iv 0, Iv 0] 23), pt b13 (Cs #[Bv x15, Uv x16, Uv x17] 72), pt b14 (Cs #[Bv x18, Uv x19, Uv x20] 72)] := hD; clear hD
         replace hf : Fr a 49 [] [(34, .agg #[Bv x18, Uv x19, Uv x20]), (2, Iv x4), (6, Pv b6 0), (7, Iv 0), (8, Pv b13 0), (9, Pv b14 0), (33, Bv (decide (x4 < (0 : Int))))] := hf
         refine O.callR hf rfl rfl rfl (RunE.call (av := #[.agg #[Bv x18, Uv x19, Uv x20]]) C_ok_36 rfl rfl rfl) (m_ref03_turned_ok F x18 x19 x20 _ x33 hx33) ?_
         clear hf a; rintro _ w hS1 a hf
         replace hf : Fr a _ _ ((35, .agg #[Bv x33, Uv x19, Uv x20]) :: _) := hf
         replace hS := (hS.call hS1).eqM (N := [pt b6 (Cs #[Iv 0, Iv 0] 23), pt b13 (Cs #[Bv x15, Uv x16, Uv x17] 72), pt b14 (Cs #[Bv x18, Uv x19, Uv x20] 72)]) rfl
         clear hS1
         exact O.nil ⟨rfl, hf.to trivial, (fun d hd => by cases (show some 35 = some d from hd); exact hf.get _ _ rfl), (Or.inl ⟨h4_, h5_, hS⟩)⟩
        ·exact absurd ((hsb 4 (by simp)).symm.trans h4_) (by decide)
        ·exact absurd ((hsb 4 (by simp)).symm.trans h4_) (by decide)
       ·intro s g w hsp hsb hD a hf
        rcases hD with (⟨h4_, h5_, hD⟩ | ⟨h4_, h5_, hD⟩ | ⟨h4_, h5_, hD⟩)
        ·have hS : St w0 w noX [] [pt b6 (Cs #[Iv 0, Iv 0] 23), pt b13 (Cs #[Bv x15, Uv x16, Uv x17] 72), pt b14 (Cs #[Bv x18, Uv x19, Uv x20] 72)] := hD; clear hD
         replace hf : Fr a 49 [] [(2, Iv x4), (6, Pv b6 0), (7, Iv 0), (8, Pv b13 0), (9, Pv b14 0), (33, Bv (decide (x4 < (0 : Int))))] := hf
         refine O.val hf rfl rfl rfl (RunV.loadN (cs' := #[Bv x15, Uv x16, Uv x17]) T_agg_72 T_size_72 rfl (hS.ptAt (i := 1) rfl) (Nat.le_of_ble_eq_true rfl) rfl) ?_; clear hf a; intro a hf
         exact O.nil ⟨rfl, hf.to trivial, (fun d hd => by cases (show some 36 = some d from hd); exact hf.get _ _ rfl), (Or.inl ⟨h4_, h5_, hS⟩)⟩
        ·exact absurd ((hsb 4 (by simp)).symm.trans h4_) (by decide)
        ·exact absurd ((hsb 4 (by simp)).symm.trans h4_) (by decide)
       ·intro s g w hsp hsb hD a hf
        rcases hD with (⟨h4_, h5_, hD⟩ | ⟨h4_, h5_, hD⟩ | ⟨h4_, h5_, hD⟩)
        ·have hS : St w0 w noX [] [pt b6 (Cs #[Iv 0, Iv 0] 23), pt b13 (Cs #[Bv x15, Uv x16, Uv x17] 72), pt b14 (Cs #[Bv x18, Uv x19, Uv x20] 72)] := hD; clear hD
         replace hf : Fr a 49 [] [(35, .agg #[Bv x33, Uv x19, Uv x20]), (36, .agg #[Bv x15, Uv x16, Uv x17]), (2, Iv x4), (6, Pv b6 0), (7, Iv 0), (8, Pv b13 0), (9, Pv b14 0), (33, Bv (decide (x4 < (0 : Int))))] := hf
         refine O.callR hf rfl rfl rfl (RunE.call (av := #[.agg #[Bv x15, Uv x16, Uv x17]]) C_ok_36 rfl rfl rfl) (m_ref03_turned_ok F x15 x16 x17 _ x34 hx34) ?_
         clear hf a; rintro _ w hS1 a hf
         replace hf : Fr a _ _ ((37, .agg #[Bv x34, Uv x16, Uv x17]) :: _) := hf
         replace hS := (hS.call hS1).eqM (N := [pt b6 (Cs #[Iv 0, Iv 0] 23), pt b13 (Cs #[Bv x15, Uv x16, Uv x17] 72), pt b14 (Cs #[Bv x18, Uv x19, Uv x20] 72)]) rfl
         clear hS1
         exact O.nil ⟨rfl, hf.to trivial, (fun d hd => by cases (show some 37 = some d from hd); exact hf.get _ _ rfl), (Or.inl ⟨h4_, h5_, hS⟩)⟩
        ·exact absurd ((hsb 4 (by simp)).symm.trans h4_) (by decide)
        ·exact absurd ((hsb 4 (by simp)).symm.trans h4_) (by decide)
      ·clear hf hf1 hS
       refine ⟨?_, ?_, trivial⟩
       ·intro s g w hs0 hsp hsb hD a hf
        rcases hD with (⟨h4_, h5_, hD⟩ | ⟨h4_, h5_, hD⟩ | ⟨h4_, h5_, hD⟩)
        ·have hS : St w0 w noX [] [pt b6 (Cs #[Iv 0, Iv 0] 23), pt b13 (Cs #[Bv x15, Uv x16, Uv x17] 72), pt b14 (Cs #[Bv x18, Uv x19, Uv x20] 72)] := hD; clear hD
         replace hf : Fr a 49 [] [(34, .agg #[Bv x18, Uv x19, Uv x20]), (35, .agg #[Bv x33, Uv x19, Uv x20]), (36, .agg #[Bv x15, Uv x16, Uv x17]), (37, .agg #[Bv x34, Uv x16, Uv x17]), (2, Iv x4), (6, Pv b6 0), (7, Iv 0), (8, Pv b13 0), (9, Pv b14 0), (33, Bv (decide (x4 < (0 : Int))))] := hf
         refine O.store (j := 1) (cs' := #[Bv x33, Uv x19, Uv x20]) (M' := [pt b6 (Cs #[Iv 0, Iv 0] 23), pt b13 (Cs #[Bv x33, Uv x19, Uv x20] 72), pt b14 (Cs #[Bv x18, Uv x19, Uv x20] 72)]) hf hS rfl rfl rfl T_size_72 rfl rfl rfl (Nat.le_of_ble_eq_true rfl) rfl rfl ?_
         clear hS; intro w hS
         exact O.nil ⟨rfl, (), hf.to trivial, (fun d hd => by cases (show none = some d from hd)), (fun j hj hk => match j, hj, hk with | 0, hj, hk => rfl | 1, hj, hk => rfl | 2, hj, hk => rfl | 3, hj, hk => rfl | 4, hj, hk => absurd rfl hj | 5, hj, hk => absurd hk (by decide) | _ + 6, _, _ => rfl), (Or.inr (Or.inl ⟨rfl, h5_, hS⟩))⟩
        ·exact absurd (hs0.symm.trans h4_) (by decide)
        ·exact absurd (hs0.symm.trans h4_) (by decide)
       ·intro s g w hs0 hsp hsb hD a hf
        rcases hD with (⟨h4_, h5_, hD⟩ | ⟨h4_, h5_, hD⟩ | ⟨h4_, h5_, hD⟩)
        ·exact absurd ((hsp 4 (by simp)).symm.trans h4_) (by decide)
        ·have hS : St w0 w noX [] [pt b6 (Cs #[Iv 0, Iv 0] 23), pt b13 (Cs #[Bv x33, Uv x19, Uv x20] 72), pt b14 (Cs #[Bv x18, Uv x19, Uv x20] 72)] := hD; clear hD
         replace hf : Fr a 49 [] [(34, .agg #[Bv x18, Uv x19, Uv x20]), (35, .agg #[Bv x33, Uv x19, Uv x20]), (36, .agg #[Bv x15, Uv x16, Uv x17]), (37, .agg #[Bv x34, Uv x16, Uv x17]), (2, Iv x4), (6, Pv b6 0), (7, Iv 0), (8, Pv b13 0), (9, Pv b14 0), (33, Bv (decide (x4 < (0 : Int))))] := hf
         refine O.store (j := 2) (cs' := #[Bv x34, Uv x16, Uv x17]) (M' := [pt b6 (Cs #[Iv 0, Iv 0] 23), pt b13 (Cs #[Bv x33, Uv x19, Uv x20] 72), pt b14 (Cs #[Bv x34, Uv x16, Uv x17] 72)]) hf hS rfl rfl rfl T_size_72 rfl rfl rfl (Nat.le_of_ble_eq_true rfl) rfl rfl ?_
         clear hS; intro w hS
         exact O.nil ⟨rfl, (), hf.to trivial, (fun d hd => by cases (show none = some d from hd)), (fun j hj hk => match j, hj, hk with | 0, hj, hk => rfl | 1, hj, hk => rfl | 2, hj, hk => rfl | 3, hj, hk => rfl | 4, hj, hk => rfl | 5, hj, hk => absurd rfl hj | _ + 6, _, _ => rfl), (Or.inr (Or.inr ⟨h4_, rfl, hS⟩))⟩
        ·exact absurd (hs0.symm.trans h5_) (by decide)
      clear hf hf1 hS; intro s g a w hs hf hD
      rcases hD with (⟨h4_, h5_, hD⟩ | ⟨h4_, h5_, hD⟩ | ⟨h4_, h5_, hD⟩)
      · exact absurd ((hs 4 (by simp)).symm.trans h4_) (by decide)
      · exact absurd ((hs 5 (by simp)).symm.trans h5_) (by decide)
      have hS : St w0 w noX [] [pt b6 (Cs #[Iv 0, Iv 0] 23), pt b13 (Cs #[Bv x33, Uv x19, Uv x20] 72), pt b14 (Cs #[Bv x34, Uv x16, Uv x17] 72)] := hD; clear hD
      replace hf : Fr a 49 [] [(34, .agg #[Bv x18, Uv x19, Uv x20]), (35, .agg #[Bv x33, Uv x19, Uv x20]), (36, .agg #[Bv x15, Uv x16, Uv x17]), (37, .agg #[Bv x34, Uv x16, Uv x17]), (2, Iv x4), (6, Pv b6 0), (7, Iv 0), (8, Pv b13 0), (9, Pv b14 0), (33, Bv (decide (x4 < (0 : Int))))] := hf
      exact k_then ⟨x33, x19, x20, x34, x16, x17, hf.to ⟨rfl, rfl, rfl, rfl, rfl, trivial⟩, hS, hm⟩
     ·replace hm := hm_n hm hc32
      refine W.skip ?_
      exact k_then ⟨x15, x16, x17, x18, x19, x20, hf.to ⟨rfl, rfl, rfl, rfl, rfl, trivial⟩, hS, hm⟩
    ·clear hf hS hm a; try clear w
     rintro a w ⟨x21, x22, x23, x24, x25, x26, hf, hS, hm⟩
     unfold m_ref03_Scale_j1 at hm
     refine W.seq ?_
     -- region 10, which draws its order
     -- [11] turn memory
     have hf1 : Fr a 49 [] [(7, Iv 0)] := hf.to ⟨rfl, trivial⟩
     replace hf : Fr a 49 [] [(2, Iv x4), (6, Pv b6 0), (8, Pv b13 0), (9, Pv b14 0)] := hf.to ⟨rfl, rfl, rfl, rfl, trivial⟩
     obtain ⟨x27, hx27, hm⟩ := hm_b hm
     obtain ⟨x28, hx28, hm⟩ := hm_b hm
     obtain ⟨x29, hx29, hm⟩ := hm_b hm
     obtain ⟨x30, hx30, hm⟩ := hm_b hm
     obtain ⟨x31, hx31, hm⟩ := hm_b hm
     refine W.drawP (γ := Unit) (L0 := [(2, Iv x4), (6, Pv b6 0), (8, Pv b13 0), (9, Pv b14 0)]) (L1 := [(7, Iv 0)]) () [11] [0, 1, 2, 3, 4, 5, 6, 7, 8, 9, 10, 12] (fun i => match i with | 0 => [] | 1 => [] | 2 => [1] | 3 => [0, 2] | 4 => [] | 5 => [] | 6 => [3, 5] | 7 => [4, 6] | 8 => [3, 7] | 9 => [8] | 10 => [8] | 11 => [0, 1, 2, 3, 4, 5, 6, 7, 8, 9, 10] | 12 => [0, 1, 2, 3, 4, 5, 6, 7, 8, 9, 10, 11] | _ => []) (fun i => match i with | 12 => [11] | _ => []) (fun i => match i with | 0 => [11] | 1 => [11] | 2 => [11] | 3 => [11] | 4 => [11] | 5 => [11] | 6 => [11] | 7 => [11] | 8 => [11] | 9 => [11] | 10 => [11] | _ => []) (fun i => match i with | 11 => [12] | _ => []) (fun _ => []) (fun (g : Unit) j => match g, j with | _, 0 => .agg #[Bv x21, Uv x22, Uv x23] | _, 1 => Iv x4 | _, 2 => Uv x27 | _, 3 => Iv x28 | _, 4 => .agg #[Bv x24, Uv x25, Uv x26] | _, 5 => Iv x4 | _, 6 => Uv x29 | _, 7 => Iv x30 | _, 8 => .tuple #[.agg #[Iv x31.1, Iv x31.2.1], Iv x31.2.2] | _, 9 => .agg #[Iv x31.1, Iv x31.2.1] | _, 10 => Iv x31.2.2 | _, 12 => Iv x31.2.2 | _, _ => undef) (fun s (g : Unit) w => match g with | _ => (s 11 = false ∧ St w0 w noX [] [pt b6 (Cs #[Iv 0, Iv 0] 23), pt b13 (Cs #[Bv x21, Uv x22, Uv x23] 72), pt b14 (Cs #[Bv x24, Uv x25, Uv x26] 72)]) ∨ (s 11 = true ∧ St w0 w noX [] [pt b6 (Cs #[Iv x31.1, Iv x31.2.1] 23), pt b13 (Cs #[Bv x21, Uv x22, Uv x23] 72), pt b14 (Cs #[Bv x24, Uv x25, Uv x26] 72)])) P_mixed (by kernel_rfl) hf hf1 (Or.inl ⟨rfl, hS.drew⟩) ?_ ?_ ?_
     ·clear hf hf1 hS
      refine ⟨?_, ?_, ?_, ?_, ?_, ?_, ?_, ?_, ?_, ?_, ?_, ?_, trivial⟩
      ·intro s g w hsp hsb hD a hf
       rcases hD with (⟨h11_, hD⟩ | ⟨h11_, hD⟩)
       ·have hS : St w0 w noX [] [pt b6 (Cs #[Iv 0, Iv 0] 23), pt b13 (Cs #[Bv x21, Uv x22, Uv x23] 72), pt b14 (Cs #[Bv x24, Uv x25, Uv x26] 72)] := hD; clear hD
        replace hf : Fr a 49 [] [(2, Iv x4), (6, Pv b6 0), (8, Pv b13 0), (9, Pv b14 0)] := hf
        refine O.val hf rfl rfl rfl (RunV.loadN (cs' := #[Bv x21, Uv x22, Uv x23]) T_agg_72 T_size_72 rfl (hS.ptAt (i := 1) rfl) (Nat.le_of_ble_eq_true rfl) rfl) ?_; clear hf a; intro a hf
        exact O.nil ⟨rfl, hf.to trivial, (fun d hd => by cases (show some 38 = some d from hd); exact hf.get _ _ rfl), (Or.inl ⟨h11_, hS⟩)⟩
       ·exact absurd ((hsb 11 (by simp)).symm.trans h11_) (by decide)
      ·intro s g w hsp hsb hD a hf
       rcases hD with (⟨h11_, hD⟩ | ⟨h11_, hD⟩)
       ·have hS : St w0 w noX [] [pt b6 (Cs #[Iv 0, Iv 0] 23), pt b13 (Cs #[Bv x21, Uv x22, Uv x23] 72), pt b14 (Cs #[Bv x24, Uv x25, Uv x26] 72)] := hD; clear hD
        replace hf : Fr a 49 [] [(2, Iv x4), (6, Pv b6 0), (8, Pv b13 0), (9, Pv b14 0)] := hf
        refine O.val hf rfl rfl rfl (RunV.move rfl) ?_; clear hf a; intro a hf
        exact O.nil ⟨rfl, hf.to trivial, (fun d hd => by cases (show some 39 = some d from hd); exact hf.get _ _ rfl), (Or.inl ⟨h11_, hS⟩)⟩
       ·exact absurd ((hsb 11 (by simp)).symm.trans h11_) (by decide)
      ·intro s g w hsp hsb hD a hf
       rcases hD with (⟨h11_, hD⟩ | ⟨h11_, hD⟩)
       ·have hS : St w0 w noX [] [pt b6 (Cs #[Iv 0, Iv 0] 23), pt b13 (Cs #[Bv x21, Uv x22, Uv x23] 72), pt b14 (Cs #[Bv x24, Uv x25, Uv x26] 72)] := hD; clear hD
        replace hf : Fr a 49 [] [(39, Iv x4), (2, Iv x4), (6, Pv b6 0), (8, Pv b13 0), (9, Pv b14 0)] := hf
        refine O.callR hf rfl rfl rfl (RunE.call (av := #[Iv x4]) C_ok_39 rfl rfl rfl) (m_ref03_size_ok F x4 _ x27 hx27) ?_
        clear hf a; rintro _ w hS1 a hf
        replace hf : Fr a _ _ ((40, Uv x27) :: _) := hf
        replace hS := (hS.call hS1).eqM (N := [pt b6 (Cs #[Iv 0, Iv 0] 23), pt b13 (Cs #[Bv x21, Uv x22, Uv x23] 72), pt b14 (Cs #[Bv x24, Uv x25, Uv x26] 72)]) rfl
        clear hS1
        exact O.nil ⟨rfl, hf.to trivial, (fun d hd => by cases (show some 40 = some d from hd); exact hf.get _ _ rfl), (Or.inl ⟨h11_, hS⟩)⟩
       ·exact absurd ((hsb 11 (by simp)).symm.trans h11_) (by decide)
      ·intro s g w hsp hsb hD a hf
       rcases hD with (⟨h11_, hD⟩ | ⟨h11_, hD⟩)
       ·have hS : St w0 w noX [] [pt b6 (Cs #[Iv 0, Iv 0] 23), pt b13 (Cs #[Bv x21, Uv x22, Uv x23] 72), pt b14 (Cs #[Bv x24, Uv x25, Uv x26] 72)] := hD; clear hD
        replace hf : Fr a 49 [] [(38, .agg #[Bv x21, Uv x22, Uv x23]), (40, Uv x27), (2, Iv x4), (6, Pv b6 0), (8, Pv b13 0), (9, Pv b14 0)] := hf
        refine O.callR hf rfl rfl rfl (RunE.call (av := #[.agg #[Bv x21, Uv x22, Uv x23], Uv x27, Bv false]) C_ok_38 rfl rfl rfl) (m_ref03_over_ok F x21 x22 x23 x27 false _ x28 hx28) ?_
        clear hf a; rintro _ w hS1 a hf
        replace hf : Fr a _ _ ((41, Iv x28) :: _) := hf
        replace hS := (hS.call hS1).eqM (N := [pt b6 (Cs #[Iv 0, Iv 0] 23), pt b13 (Cs #[Bv x21, Uv x22, Uv x23] 72), pt b14 (Cs #[Bv x24, Uv x25, Uv x26] 72)]) rfl
        clear hS1
        exact O.nil ⟨rfl, hf.to trivial, (fun d hd => by cases (show some 41 = some d from hd); exact hf.get _ _ rfl), (Or.inl ⟨h11_, hS⟩)⟩
       ·exact absurd ((hsb 11 (by simp)).symm.trans h11_) (by decide)
      ·intro s g w hsp hsb hD a hf
       rcases hD with (⟨h11_, hD⟩ | ⟨h11_, hD⟩)
       ·have hS : St w0 w noX [] [pt b6 (Cs #[Iv 0, Iv 0] 23), pt b13 (Cs #[Bv x21, Uv x22, Uv x23] 72), pt b14 (Cs #[Bv x24, Uv x25, Uv x26] 72)] := hD; clear hD
        replace hf : Fr a 49 [] [(2, Iv x4), (6, Pv b6 0), (8, Pv b13 0), (9, Pv b14 0)] := hf
        refine O.val hf rfl rfl rfl (RunV.loadN (cs' := #[Bv x24, Uv x25, Uv x26]) T_agg_72 T_size_72 rfl (hS.ptAt (i := 2) rfl) (Nat.le_of_ble_eq_true rfl) rfl) ?_; clear hf a; intro a hf
        exact O.nil ⟨rfl, hf.to trivial, (fun d hd => by cases (show some 42 = some d from hd); exact hf.get _ _ rfl), (Or.inl ⟨h11_, hS⟩)⟩
       ·exact absurd ((hsb 11 (by simp)).symm.trans h11_) (by decide)
      ·intro s g w hsp hsb hD a hf
       rcases hD with (⟨h11_, hD⟩ | ⟨h11_, hD⟩)
       ·have hS : St w0 w noX [] [pt b6 (Cs #[Iv 0, Iv 0] 23), pt b13 (Cs #[Bv x21, Uv x22, Uv x23] 72), pt b14 (Cs #[Bv x24, Uv x25, Uv x26] 72)] := hD; clear hD
        replace hf : Fr a 49 [] [(2, Iv x4), (6, Pv b6 0), (8, Pv b13 0), (9, Pv b14 0)] := hf
        refine O.val hf rfl rfl rfl (RunV.move rfl) ?_; clear hf a; intro a hf
        exact O.nil ⟨rfl, hf.to trivial, (fun d hd => by cases (show some 43 = some d from hd); exact hf.get _ _ rfl), (Or.inl ⟨h11_, hS⟩)⟩
       ·exact absurd ((hsb 11 (by simp)).symm.trans h11_) (by decide)
      ·intro s g w hsp hsb hD a hf
       rcases hD with (⟨h11_, hD⟩ | ⟨h11_, hD⟩)
       ·have hS : St w0 w noX [] [pt b6 (Cs #[Iv 0, Iv 0] 23), pt b13 (Cs #[Bv x21, Uv x22, Uv x23] 72), pt b14 (Cs #[Bv x24, Uv x25, Uv x26] 72)] := hD; clear hD
        replace hf : Fr a 49 [] [(41, Iv x28), (43, Iv x4), (2, Iv x4), (6, Pv b6 0), (8, Pv b13 0), (9, Pv b14 0)] := hf
        refine O.callR hf rfl rfl rfl (RunE.call (av := #[Iv x4]) C_ok_39 rfl rfl rfl) (m_ref03_size_ok F x4 _ x29 hx29) ?_
        clear hf a; rintro _ w hS1 a hf
        replace hf : Fr a _ _ ((44, Uv x29) :: _) := hf
        replace hS := (hS.call hS1).eqM (N := [pt b6 (Cs #[Iv 0, Iv 0] 23), pt b13 (Cs #[Bv x21, Uv x22, Uv x23] 72), pt b14 (Cs #[Bv x24, Uv x25, Uv x26] 72)]) rfl
        clear hS1
        exact O.nil ⟨rfl, hf.to trivial, (fun d hd => by cases (show some 44 = some d from hd); exact hf.get _ _ rfl), (Or.inl ⟨h11_, hS⟩)⟩
       ·exact absurd ((hsb 11 (by simp)).symm.trans h11_) (by decide)
      ·intro s g w hsp hsb hD a hf
       rcases hD with (⟨h11_, hD⟩ | ⟨h11_, hD⟩)
       ·have hS : St w0 w noX [] [pt b6 (Cs #[Iv 0, Iv 0] 23), pt b13 (Cs #[Bv x21, Uv x22, Uv x23] 72), pt b14 (Cs #[Bv x24, Uv x25, Uv x26] 72)] := hD; clear hD
        replace hf : Fr a 49 [] [(42, .agg #[Bv x24, Uv x25, Uv x26]), (44, Uv x29), (2, Iv x4), (6, Pv b6 0), (8, Pv b13 0), (9, Pv b14 0)] := hf
        refine O.callR hf rfl rfl rfl (RunE.call (av := #[.agg #[Bv x24, Uv x25, Uv x26], Uv x29, Bv true]) C_ok_38 rfl rfl rfl) (m_ref03_over_ok F x24 x25 x26 x29 true _ x30 hx30) ?_
        clear hf a; rintro _ w hS1 a hf
        replace hf : Fr a _ _ ((45, Iv x30) :: _) := hf
        replace hS := (hS.call hS1).eqM (N := [pt b6 (Cs #[Iv 0, Iv 0] 23), pt b13 (Cs #[Bv x21, Uv x22, Uv x23] 72), pt b14 (Cs #[Bv x24, Uv x25, Uv x26] 72)]) rfl
        clear hS1
        exact O.nil ⟨rfl, hf.to trivial, (fun d hd => by cases (show some 45 = some d from hd); exact hf.get _ _ rfl), (Or.inl ⟨h11_, hS⟩)⟩
       ·exact absurd ((hsb 11 (by simp)).symm.trans h11_) (by decide)
      ·intro s g w hsp hsb hD a hf
       rcases hD with (⟨h11_, hD⟩ | ⟨h11_, hD⟩)
       ·have hS : St w0 w noX [] [pt b6 (Cs #[Iv 0, Iv 0] 23), pt b13 (Cs #[Bv x21, Uv x22, Uv x23] 72), pt b14 (Cs #[Bv x24, Uv x25, Uv x26] 72)] := hD; clear hD
        replace hf : Fr a 49 [] [(41, Iv x28), (45, Iv x30), (2, Iv x4), (6, Pv b6 0), (8, Pv b13 0), (9, Pv b14 0)] := hf
        refine O.callR hf rfl rfl rfl (RunE.call (av := #[Iv x28, Iv x30]) C_ok_37 rfl rfl rfl) (m_ref03_made_ok F x28 x30 _ x31 hx31) ?_
        clear hf a; rintro _ w hS1 a hf
        replace hf : Fr a _ _ ((46, .tuple #[.agg #[Iv x31.1, Iv x31.2.1], Iv x31.2.2]) :: _) := hf
        replace hS := (hS.call hS1).eqM (N := [pt b6 (Cs #[Iv 0, Iv 0] 23), pt b13 (Cs #[Bv x21, Uv x22, Uv x23] 72), pt b14 (Cs #[Bv x24, Uv x25, Uv x26] 72)]) rfl
        clear hS1
        exact O.nil ⟨rfl, hf.to trivial, (fun d hd => by cases (show some 46 = some d from hd); exact hf.get _ _ rfl), (Or.inl ⟨h11_, hS⟩)⟩
       ·exact absurd ((hsb 11 (by simp)).symm.trans h11_) (by decide)
      ·intro s g w hsp hsb hD a hf
       rcases hD with (⟨h11_, hD⟩ | ⟨h11_, hD⟩)
       ·have hS : St w0 w noX [] [pt b6 (Cs #[Iv 0, Iv 0] 23), pt b13 (Cs #[Bv x21, Uv x22, Uv x23] 72), pt b14 (Cs #[Bv x24, Uv x25, Uv x26] 72)] := hD; clear hD
        replace hf : Fr a 49 [] [(46, .tuple #[.agg #[Iv x31.1, Iv x31.2.1], Iv x31.2.2]), (2, Iv x4), (6, Pv b6 0), (8, Pv b13 0), (9, Pv b14 0)] := hf
        refine O.val hf rfl rfl rfl (RunV.extract rfl rfl) ?_; clear hf a; intro a hf
        exact O.nil ⟨rfl, hf.to trivial, (fun d hd => by cases (show some 47 = some d from hd); exact hf.get _ _ rfl), (Or.inl ⟨h11_, hS⟩)⟩
       ·exact absurd ((hsb 11 (by simp)).symm.trans h11_) (by decide)
      ·intro s g w hsp hsb hD a hf
       rcases hD with (⟨h11_, hD⟩ | ⟨h11_, hD⟩)
       ·have hS : St w0 w noX [] [pt b6 (Cs #[Iv 0, Iv 0] 23), pt b13 (Cs #[Bv x21, Uv x22, Uv x23] 72), pt b14 (Cs #[Bv x24, Uv x25, Uv x26] 72)] := hD; clear hD
        replace hf : Fr a 49 [] [(46, .tuple #[.agg #[Iv x31.1, Iv x31.2.1], Iv x31.2.2]), (2, Iv x4), (6, Pv b6 0), (8, Pv b13 0), (9, Pv b14 0)] := hf
        refine O.val hf rfl rfl rfl (RunV.extract rfl rfl) ?_; clear hf a; intro a hf
        exact O.nil ⟨rfl, hf.to trivial, (fun d hd => by cases (show some 48 = some d from hd); exact hf.get _ _ rfl), (Or.inl ⟨h11_, hS⟩)⟩
       ·exact absurd ((hsb 11 (by simp)).symm.trans h11_) (by decide)
      ·intro s g w hsp hsb hD a hf
       rcases hD with (⟨h11_, hD⟩ | ⟨h11_, hD⟩)
       ·exact absurd ((hsp 11 (by simp)).symm.trans h11_) (by decide)
       ·have hS : St w0 w noX [] [pt b6 (Cs #[Iv x31.1, Iv x31.2.1] 23), pt b13 (Cs #[Bv x21, Uv x22, Uv x23] 72), pt b14 (Cs #[Bv x24, Uv x25, Uv x26] 72)] := hD; clear hD
        replace hf : Fr a 49 [] [(38, .agg #[Bv x21, Uv x22, Uv x23]), (39, Iv x4), (40, Uv x27), (41, Iv x28), (42, .agg #[Bv x24, Uv x25, Uv x26]), (43, Iv x4), (44, Uv x29), (45, Iv x30), (46, .tuple #[.agg #[Iv x31.1, Iv x31.2.1], Iv x31.2.2]), (47, .agg #[Iv x31.1, Iv x31.2.1]), (48, Iv x31.2.2), (2, Iv x4), (6, Pv b6 0), (8, Pv b13 0), (9, Pv b14 0)] := hf
        refine O.val hf rfl rfl rfl (RunV.assign rfl) ?_; clear hf a; intro a hf
        exact O.nil ⟨rfl, hf.to trivial, (fun d hd => by cases (show some 7 = some d from hd); exact hf.get _ _ rfl), (Or.inr ⟨h11_, hS⟩)⟩
     ·clear hf hf1 hS
      refine ⟨?_, trivial⟩
      ·intro s g w hs0 hsp hsb hD a hf
       rcases hD with (⟨h11_, hD⟩ | ⟨h11_, hD⟩)
       ·have hS : St w0 w noX [] [pt b6 (Cs #[Iv 0, Iv 0] 23), pt b13 (Cs #[Bv x21, Uv x22, Uv x23] 72), pt b14 (Cs #[Bv x24, Uv x25, Uv x26] 72)] := hD; clear hD
        replace hf : Fr a 49 [] [(38, .agg #[Bv x21, Uv x22, Uv x23]), (39, Iv x4), (40, Uv x27), (41, Iv x28), (42, .agg #[Bv x24, Uv x25, Uv x26]), (43, Iv x4), (44, Uv x29), (45, Iv x30), (46, .tuple #[.agg #[Iv x31.1, Iv x31.2.1], Iv x31.2.2]), (47, .agg #[Iv x31.1, Iv x31.2.1]), (48, Iv x31.2.2), (2, Iv x4), (6, Pv b6 0), (8, Pv b13 0), (9, Pv b14 0)] := hf
        refine O.store (j := 0) (cs' := #[Iv x31.1, Iv x31.2.1]) (M' := [pt b6 (Cs #[Iv x31.1, Iv x31.2.1] 23), pt b13 (Cs #[Bv x21, Uv x22, Uv x23] 72), pt b14 (Cs #[Bv x24, Uv x25, Uv x26] 72)]) hf hS rfl rfl rfl T_size_23 rfl rfl rfl (Nat.le_of_ble_eq_true rfl) rfl rfl ?_
        clear hS; intro w hS
        exact O.nil ⟨rfl, (), hf.to trivial, (fun d hd => by cases (show none = some d from hd)), (fun j hj hk => match j, hj, hk with | 0, hj, hk => rfl | 1, hj, hk => rfl | 2, hj, hk => rfl | 3, hj, hk => rfl | 4, hj, hk => rfl | 5, hj, hk => rfl | 6, hj, hk => rfl | 7, hj, hk => rfl | 8, hj, hk => rfl | 9, hj, hk => rfl | 10, hj, hk => rfl | 11, hj, hk => absurd rfl hj | 12, hj, hk => absurd hk (by decide) | _ + 13, _, _ => rfl), (Or.inr ⟨rfl, hS⟩)⟩
       ·exact absurd (hs0.symm.trans h11_) (by decide)
     clear hf hf1 hS; intro s g a w hs hf hD
     rcases hD with (⟨h11_, hD⟩ | ⟨h11_, hD⟩)
     · exact absurd ((hs 11 (by simp)).symm.trans h11_) (by decide)
     have hS : St w0 w noX [] [pt b6 (Cs #[Iv x31.1, Iv x31.2.1] 23), pt b13 (Cs #[Bv x21, Uv x22, Uv x23] 72), pt b14 (Cs #[Bv x24, Uv x25, Uv x26] 72)] := hD; clear hD
     replace hf : Fr a 49 [] [(38, .agg #[Bv x21, Uv x22, Uv x23]), (39, Iv x4), (40, Uv x27), (41, Iv x28), (42, .agg #[Bv x24, Uv x25, Uv x26]), (43, Iv x4), (44, Uv x29), (45, Iv x30), (46, .tuple #[.agg #[Iv x31.1, Iv x31.2.1], Iv x31.2.2]), (47, .agg #[Iv x31.1, Iv x31.2.1]), (48, Iv x31.2.2), (7, Iv x31.2.2), (2, Iv x4), (6, Pv b6 0), (8, Pv b13 0), (9, Pv b14 0)] := hf
     refine k_seq ?_
     replace hf : Fr a 49 [] [(6, Pv b6 0), (7, Iv x31.2.2)] := hf.to ⟨rfl, rfl, trivial⟩
     refine W.ret ?_
     obtain rfl := Option.some.inj hm
     refine post2 hf rfl (ResOK.cellN (cs' := #[Iv x31.1, Iv x31.2.1]) rfl T_agg_23 T_size_23 (hS.ptAt (i := 0) rfl) (Nat.le_of_ble_eq_true rfl) rfl) (ResOK.tmp rfl) ?_
     replace hS := hS.sub (N := []) (.cons _ (.cons _ (.cons _ .slnil)))
     exact ⟨(), rfl, hS.noB⟩

def m_ref17_Calc_Keep_j1 (F : Nat) (x3 : Int) (x4 : Int) (x8 : Int) : Option (Int × Int × Int) :=
  if x8 ≠ (0 : Int) then (some (0, 0, x8)) else (some (x3, x4, x8))
def m_ref17_Calc_Keep (F : Nat)  (x2 : Int) (x3 : Int) (x4 : Int) (x5 : Int) : Option (Int × Int × Int) :=
  if x2 = (0 : Int) then (m_ref17_Calc_Keep_j1 F x3 x4 x5) else (m_ref17_Calc_Keep_j1 F x3 x4 x2)
set_option maxHeartbeats 1000000 in
set_option maxRecDepth 8000 in
theorem m_ref17_Calc_Keep_ok (F : Nat)   (b1 : Nat) (x2 : Int) (x3 : Int) (x4 : Int) (x5 : Int) (w0 : World) (h_b1 : w0.heap[b1]? = some (.cells #[Iv x2] 56 (0, 0))) (r : Int × Int × Int) (hm : m_ref17_Calc_Keep F x2 x3 x4 x5 = some r) :
    Ret Try.prog 19 #[Pv b1 0, .agg #[Iv x3, Iv x4], Iv x5] w0 (G := Unit) (fun _ => .agg #[Iv r.1, Iv r.2.1]) (fun _ w => St w0 w (fun k => k = b1) [] [pt b1 (Cs #[Iv r.2.2] 56)]) := by
 unfold m_ref17_Calc_Keep at hm
 refine ret_of_W (lv := [Pv b1 0, .agg #[Iv x3, Iv x4], Iv x5]) Try.func19 rfl rfl rfl (fun a hf => ?_)
 replace hf : Fr a 23 [] [(0, Pv b1 0), (1, .agg #[Iv x3, Iv x4]), (2, Iv x5)] := hf
 have hS : St w0 w0 (fun k => k = b1) [] [pt b1 (Cs #[Iv x2] 56)] := St.ownPt h_b1 lendAll_nil apart_nil
 refine W.seq ?_
 -- region 0
 refine W.regionL (l := [0, 1]) rfl ?_
 refine O.box (cs := #[Iv x3, Iv x4]) hf hS rfl rfl rfl rfl ?_
 clear hf hS a; intro b6 w a hb6 hS hf
 refine O.alloc (cs := #[Iv 0, Iv 0]) hf hS rfl rfl T_zero_23 rfl ?_
 clear hf hS a; intro b7 w a hb7 hS hf
 refine O.nil ?_
 refine k_seq ?_
 replace hf : Fr a 23 [] [(0, Pv b1 0), (2, Iv x5), (4, Pv b6 0), (6, Pv b7 0)] := hf.to ⟨rfl, rfl, rfl, rfl, trivial⟩
 refine W.seqR (fun a w => ∃ (x8 : Int), Fr a 23 [] [(0, Pv b1 0), (4, Pv b6 0), (6, Pv b7 0)] ∧ St w0 w (fun k => k = b1) [] [pt b1 (Cs #[Iv x8] 56), pt b6 (Cs #[Iv x3, Iv x4] 23), pt b7 (Cs #[Iv 0, Iv 0] 23)] ∧ m_ref17_Calc_Keep_j1 F x3 x4 x8 = some r) ?_ ?_
 ·refine W.seq ?_
  -- region 1
  refine W.regionL (l := [0, 1, 2, 3, 4]) rfl ?_
  refine O.val hf rfl rfl rfl (RunV.move rfl) ?_; clear hf a; intro a hf
  refine O.val hf rfl rfl rfl (RunV.nilCheck rfl) ?_; clear hf a; intro a hf
  refine O.val hf rfl rfl rfl (RunV.field T_field_56_0 rfl rfl) ?_; clear hf a; intro a hf
  refine O.val hf rfl rfl rfl (RunV.load1 T_agg_3 rfl (hS.ptAt (i := 2) rfl) rfl) ?_; clear hf a; intro a hf
  refine O.val (v := Bv (decide (x2 = (0 : Int)))) hf rfl rfl rfl (RunV.eql rfl rfl) ?_; clear hf a; intro a hf
  refine O.nil ?_
  refine k_seq ?_
  replace hf : Fr a 23 [] [(0, Pv b1 0), (2, Iv x5), (4, Pv b6 0), (6, Pv b7 0), (11, Bv (decide (x2 = (0 : Int))))] := hf.to ⟨rfl, rfl, rfl, rfl, rfl, trivial⟩
  refine W.ifdI hf rfl (fun hc10 => ?_) (fun hc10 => ?_)
  ·replace hm := hm_p hm hc10
   -- region 2
   refine W.regionL (l := [0, 1, 2, 3, 4]) rfl ?_
   refine O.val hf rfl rfl rfl (RunV.move rfl) ?_; clear hf a; intro a hf
   refine O.val hf rfl rfl rfl (RunV.move rfl) ?_; clear hf a; intro a hf
   refine O.val hf rfl rfl rfl (RunV.nilCheck rfl) ?_; clear hf a; intro a hf
   refine O.val hf rfl rfl rfl (RunV.field T_field_56_0 rfl rfl) ?_; clear hf a; intro a hf
   refine O.store (j := 2) (cs' := #[Iv x5]) (M' := [pt b7 (Cs #[Iv 0, Iv 0] 23), pt b6 (Cs #[Iv x3, Iv x4] 23), pt b1 (Cs #[Iv x5] 56)]) hf hS rfl rfl rfl T_size_3 rfl rfl rfl (Nat.le_of_ble_eq_true rfl) rfl rfl ?_
   clear hS; intro w hS
   refine O.nil ?_
   replace hS := hS.front (i := 1) (M' := [pt b6 (Cs #[Iv x3, Iv x4] 23), pt b7 (Cs #[Iv 0, Iv 0] 23), pt b1 (Cs #[Iv x5] 56)]) rfl rfl
   replace hS := hS.front (i := 2) (M' := [pt b1 (Cs #[Iv x5] 56), pt b6 (Cs #[Iv x3, Iv x4] 23), pt b7 (Cs #[Iv 0, Iv 0] 23)]) rfl rfl
   exact k_then ⟨x5, hf.to ⟨rfl, rfl, rfl, trivial⟩, hS, hm⟩
  ·replace hm := hm_n hm hc10
   refine W.skip ?_
   replace hS := hS.front (i := 1) (M' := [pt b6 (Cs #[Iv x3, Iv x4] 23), pt b7 (Cs #[Iv 0, Iv 0] 23), pt b1 (Cs #[Iv x2] 56)]) rfl rfl
   replace hS := hS.front (i := 2) (M' := [pt b1 (Cs #[Iv x2] 56), pt b6 (Cs #[Iv x3, Iv x4] 23), pt b7 (Cs #[Iv 0, Iv 0] 23)]) rfl rfl
   exact k_then ⟨x2, hf.to ⟨rfl, rfl, rfl, trivial⟩, hS, hm⟩
 ·clear hf hS hm a; try clear w
  rintro a w ⟨x8, hf, hS, hm⟩
  unfold m_ref17_Calc_Keep_j1 at hm
  refine W.seq ?_
  refine W.seq ?_
  -- region 3
  refine W.regionL (l := [0, 1, 2, 3, 4]) rfl ?_
  refine O.val hf rfl rfl rfl (RunV.move rfl) ?_; clear hf a; intro a hf
  refine O.val hf rfl rfl rfl (RunV.nilCheck rfl) ?_; clear hf a; intro a hf
  refine O.val hf rfl rfl rfl (RunV.field T_field_56_0 rfl rfl) ?_; clear hf a; intro a hf
  refine O.val hf rfl rfl rfl (RunV.load1 T_agg_3 rfl (hS.ptAt (i := 0) rfl) rfl) ?_; clear hf a; intro a hf
  refine O.val (v := Bv (decide (x8 ≠ (0 : Int)))) hf rfl rfl rfl (RunV.neq rfl rfl) ?_; clear hf a; intro a hf
  refine O.nil ?_
  refine k_seq ?_
  replace hf : Fr a 23 [] [(4, Pv b6 0), (6, Pv b7 0), (20, Bv (decide (x8 ≠ (0 : Int))))] := hf.to ⟨rfl, rfl, rfl, trivial⟩
  refine W.ifdI hf rfl (fun hc9 => ?_) (fun hc9 => ?_)
  ·replace hm := hm_p hm hc9
   refine W.seq ?_
   -- region 4
   refine W.regionL (l := [0, 1]) rfl ?_
   refine O.val (v := .agg #[Iv 0, Iv 0]) hf rfl rfl rfl (RunV.buildS (cs' := #[Iv 0, Iv 0]) T_places_23 T_zero_23 rfl (by kernel_rfl)) ?_; clear hf a; intro a hf
   refine O.store (j := 2) (cs' := #[Iv 0, Iv 0]) (M' := [pt b1 (Cs #[Iv x8] 56), pt b6 (Cs #[Iv x3, Iv x4] 23), pt b7 (Cs #[Iv 0, Iv 0] 23)]) hf hS rfl rfl rfl T_size_23 rfl rfl rfl (Nat.le_of_ble_eq_true rfl) rfl rfl ?_
   clear hS; intro w hS
   refine O.nil ?_
   refine k_seq ?_
   replace hf : Fr a 23 [] [(4, Pv b6 0), (6, Pv b7 0)] := hf.to ⟨rfl, rfl, trivial⟩
   refine W.ret ?_
   refine k_then_ret ?_
   obtain rfl := Option.some.inj hm
   refine post1 hf rfl (ResOK.cellN (cs' := #[Iv 0, Iv 0]) rfl T_agg_23 T_size_23 (hS.ptAt (i := 2) rfl) (Nat.le_of_ble_eq_true rfl) rfl) ?_
   replace hS := hS.sub (N := [pt b1 (Cs #[Iv x8] 56)]) (.cons_cons _ (.cons _ (.cons _ .slnil)))
   exact ⟨(), rfl, hS.noB⟩
  ·replace hm := hm_n hm hc9
   refine W.skip ?_
   refine k_seq ?_
   replace hf : Fr a 23 [] [(4, Pv b6 0), (6, Pv b7 0)] := hf.to ⟨rfl, rfl, trivial⟩
   refine W.seq ?_
   -- region 5
   refine W.regionL (l := [0, 1]) rfl ?_
   refine O.val hf rfl rfl rfl (RunV.loadN (cs' := #[Iv x3, Iv x4]) T_agg_23 T_size_23 rfl (hS.ptAt (i := 1) rfl) (Nat.le_of_ble_eq_true rfl) rfl) ?_; clear hf a; intro a hf
   refine O.store (j := 2) (cs' := #[Iv x3, Iv x4]) (M' := [pt b1 (Cs #[Iv x8] 56), pt b6 (Cs #[Iv x3, Iv x4] 23), pt b7 (Cs #[Iv x3, Iv x4] 23)]) hf hS rfl rfl rfl T_size_23 rfl rfl rfl (Nat.le_of_ble_eq_true rfl) rfl rfl ?_
   clear hS; intro w hS
   refine O.nil ?_
   refine k_seq ?_
   replace hf : Fr a 23 [] [(6, Pv b7 0)] := hf.to ⟨rfl, trivial⟩
   refine W.ret ?_
   obtain rfl := Option.some.inj hm
   refine post1 hf rfl (ResOK.cellN (cs' := #[Iv x3, Iv x4]) rfl T_agg_23 T_size_23 (hS.ptAt (i := 2) rfl) (Nat.le_of_ble_eq_true rfl) rfl) ?_
   replace hS := hS.sub (N := [pt b1 (Cs #[Iv x8] 56)]) (.cons_cons _ (.cons _ (.cons _ .slnil)))
   exact ⟨(), rfl, hS.noB⟩

def m_ref03_both (F : Nat)  (x1 : Int) (x2 : Int) (x3 : Int) (x4 : Int) : Option Int :=
  (m_ref03_Check F x1 x2).bind fun x7 => if x7 ≠ (0 : Int) then ((m_ref03_Check F x1 x2).bind fun x9 => some x9) else ((m_ref03_Check F x3 x4).bind fun x10 => some x10)
set_option maxHeartbeats 1000000 in
set_option maxRecDepth 8000 in
theorem m_ref03_both_ok (F : Nat)   (x1 : Int) (x2 : Int) (x3 : Int) (x4 : Int) (w0 : World)  (r : Int) (hm : m_ref03_both F x1 x2 x3 x4 = some r) :
    Ret Try.prog 44 #[.agg #[Iv x1, Iv x2], .agg #[Iv x3, Iv x4]] w0 (G := Unit) (fun _ => Iv r) (fun _ w => St w0 w noX [] []) := by
 unfold m_ref03_both at hm
 refine ret_of_W (lv := [.agg #[Iv x1, Iv x2], .agg #[Iv x3, Iv x4]]) Try.func44 rfl rfl rfl (fun a hf => ?_)
 replace hf : Fr a 12 [] [(0, .agg #[Iv x1, Iv x2]), (1, .agg #[Iv x3, Iv x4])] := hf
 have hS : St w0 w0 noX [] [] := St.borrow lendAll_nil
 refine W.seq ?_
 -- region 0
 refine W.regionL (l := [0, 1, 2]) rfl ?_
 refine O.box (cs := #[Iv x1, Iv x2]) hf hS rfl rfl rfl rfl ?_
 clear hf hS a; intro b5 w a hb5 hS hf
 refine O.box (cs := #[Iv x3, Iv x4]) hf hS rfl rfl rfl rfl ?_
 clear hf hS a; intro b6 w a hb6 hS hf
 refine O.val hf rfl rfl rfl (RunV.assign rfl) ?_; clear hf a; intro a hf
 refine O.nil ?_
 refine k_seq ?_
 replace hf : Fr a 12 [] [(2, Pv b5 0), (3, Pv b6 0), (4, Iv 0)] := hf.to ⟨rfl, rfl, rfl, trivial⟩
 refine W.seq ?_
 refine W.seq ?_
 -- region 1
 refine W.regionL (l := [0, 1, 2]) rfl ?_
 refine O.val hf rfl rfl rfl (RunV.loadN (cs' := #[Iv x1, Iv x2]) T_agg_23 T_size_23 rfl (hS.ptAt (i := 1) rfl) (Nat.le_of_ble_eq_true rfl) rfl) ?_; clear hf a; intro a hf
 obtain ⟨x7, hx7, hm⟩ := hm_b hm
 refine O.callR hf rfl rfl rfl (RunE.call (av := #[.agg #[Iv x1, Iv x2]]) C_ok_17 rfl rfl rfl) (m_ref03_Check_ok F x1 x2 _ x7 hx7) ?_
 clear hf a; rintro _ w hS1 a hf
 replace hf : Fr a _ _ ((6, Iv x7) :: _) := hf
 replace hS := (hS.call hS1).eqM (N := [pt b6 (Cs #[Iv x3, Iv x4] 23), pt b5 (Cs #[Iv x1, Iv x2] 23)]) rfl
 clear hS1
 refine O.val (v := Bv (decide (x7 ≠ (0 : Int)))) hf rfl rfl rfl (RunV.neq rfl rfl) ?_; clear hf a; intro a hf
 refine O.nil ?_
 refine k_seq ?_
 replace hf : Fr a 12 [] [(2, Pv b5 0), (3, Pv b6 0), (4, Iv 0), (7, Bv (decide (x7 ≠ (0 : Int))))] := hf.to ⟨rfl, rfl, rfl, rfl, trivial⟩
 refine W.ifdI hf rfl (fun hc8 => ?_) (fun hc8 => ?_)
 ·replace hm := hm_p hm hc8
  refine W.seq ?_
  -- region 2
  refine W.regionL (l := [0, 1, 2]) rfl ?_
  refine O.val hf rfl rfl rfl (RunV.loadN (cs' := #[Iv x1, Iv x2]) T_agg_23 T_size_23 rfl (hS.ptAt (i := 1) rfl) (Nat.le_of_ble_eq_true rfl) rfl) ?_; clear hf a; intro a hf
  obtain ⟨x9, hx9, hm⟩ := hm_b hm
  refine O.callR hf rfl rfl rfl (RunE.call (av := #[.agg #[Iv x1, Iv x2]]) C_ok_17 rfl rfl rfl) (m_ref03_Check_ok F x1 x2 _ x9 hx9) ?_
  clear hf a; rintro _ w hS1 a hf
  replace hf : Fr a _ _ ((9, Iv x9) :: _) := hf
  replace hS := (hS.call hS1).eqM (N := [pt b6 (Cs #[Iv x3, Iv x4] 23), pt b5 (Cs #[Iv x1, Iv x2] 23)]) rfl
  clear hS1
  refine O.val hf rfl rfl rfl (RunV.assign rfl) ?_; clear hf a; intro a hf
  refine O.nil ?_
  refine k_seq ?_
  replace hf : Fr a 12 [] [(3, Pv b6 0), (4, Iv x9)] := hf.to ⟨rfl, rfl, trivial⟩
  refine W.ret ?_
  refine k_then_ret ?_
  obtain rfl := Option.some.inj hm
  refine post1 hf rfl (ResOK.tmp rfl) ?_
  replace hS := hS.sub (N := []) (.cons _ (.cons _ .slnil))
  exact ⟨(), rfl, hS.noB⟩
 ·replace hm := hm_n hm hc8
  refine W.skip ?_
  refine k_seq ?_
  replace hf : Fr a 12 [] [(3, Pv b6 0), (4, Iv 0)] := hf.to ⟨rfl, rfl, trivial⟩
  refine W.seq ?_
  -- region 3
  refine W.regionL (l := [0, 1, 2]) rfl ?_
  refine O.val hf rfl rfl rfl (RunV.loadN (cs' := #[Iv x3, Iv x4]) T_agg_23 T_size_23 rfl (hS.ptAt (i := 0) rfl) (Nat.le_of_ble_eq_true rfl) rfl) ?_; clear hf a; intro a hf
  obtain ⟨x10, hx10, hm⟩ := hm_b hm
  refine O.callR hf rfl rfl rfl (RunE.call (av := #[.agg #[Iv x3, Iv x4]]) C_ok_17 rfl rfl rfl) (m_ref03_Check_ok F x3 x4 _ x10 hx10) ?_
  clear hf a; rintro _ w hS1 a hf
  replace hf : Fr a _ _ ((11, Iv x10) :: _) := hf
  replace hS := (hS.call hS1).eqM (N := [pt b6 (Cs #[Iv x3, Iv x4] 23), pt b5 (Cs #[Iv x1, Iv x2] 23)]) rfl
  clear hS1
  refine O.val hf rfl rfl rfl (RunV.assign rfl) ?_; clear hf a; intro a hf
  refine O.nil ?_
  refine k_seq ?_
  replace hf : Fr a 12 [] [(4, Iv x10)] := hf.to ⟨rfl, trivial⟩
  refine W.ret ?_
  obtain rfl := Option.some.inj hm
  refine post1 hf rfl (ResOK.tmp rfl) ?_
  replace hS := hS.sub (N := []) (.cons _ (.cons _ .slnil))
  exact ⟨(), rfl, hS.noB⟩

def m_ref03_Add (F : Nat)  (x1 : Int) (x2 : Int) (x3 : Int) (x4 : Int) : Option (Int × Int × Int) :=
  (m_ref03_both F x1 x2 x3 x4).bind fun x8 => if x8 ≠ (0 : Int) then ((m_ref03_both F x1 x2 x3 x4).bind fun x10 => some (0, 0, x10)) else ((m_ref03_made F (IntKind.i64.wrap (x1 + x3)) (IntKind.i64.wrap (x2 + x4))).bind fun x11 => some x11)
set_option maxHeartbeats 1000000 in
set_option maxRecDepth 8000 in
theorem m_ref03_Add_ok (F : Nat)   (x1 : Int) (x2 : Int) (x3 : Int) (x4 : Int) (w0 : World)  (r : Int × Int × Int) (hm : m_ref03_Add F x1 x2 x3 x4 = some r) :
    Ret Try.prog 33 #[.agg #[Iv x1, Iv x2], .agg #[Iv x3, Iv x4]] w0 (G := Unit) (fun _ => .tuple #[.agg #[Iv r.1, Iv r.2.1], Iv r.2.2]) (fun _ w => St w0 w noX [] []) := by
 unfold m_ref03_Add at hm
 refine ret_of_W (lv := [.agg #[Iv x1, Iv x2], .agg #[Iv x3, Iv x4]]) Try.func33 rfl rfl rfl (fun a hf => ?_)
 replace hf : Fr a 27 [] [(0, .agg #[Iv x1, Iv x2]), (1, .agg #[Iv x3, Iv x4])] := hf
 have hS : St w0 w0 noX [] [] := St.borrow lendAll_nil
 refine W.seq ?_
 -- region 0
 refine W.regionL (l := [0, 1, 2, 3]) rfl ?_
 refine O.box (cs := #[Iv x1, Iv x2]) hf hS rfl rfl rfl rfl ?_
 clear hf hS a; intro b5 w a hb5 hS hf
 refine O.box (cs := #[Iv x3, Iv x4]) hf hS rfl rfl rfl rfl ?_
 clear hf hS a; intro b6 w a hb6 hS hf
 refine O.alloc (cs := #[Iv 0, Iv 0]) hf hS rfl rfl T_zero_23 rfl ?_
 clear hf hS a; intro b7 w a hb7 hS hf
 refine O.val hf rfl rfl rfl (RunV.assign rfl) ?_; clear hf a; intro a hf
 refine O.nil ?_
 refine k_seq ?_
 replace hf : Fr a 27 [] [(2, Pv b5 0), (3, Pv b6 0), (4, Pv b7 0), (5, Iv 0)] := hf.to ⟨rfl, rfl, rfl, rfl, trivial⟩
 refine W.seq ?_
 refine W.seq ?_
 -- region 1
 refine W.regionL (l := [0, 1, 2, 3]) rfl ?_
 refine O.val hf rfl rfl rfl (RunV.loadN (cs' := #[Iv x1, Iv x2]) T_agg_23 T_size_23 rfl (hS.ptAt (i := 2) rfl) (Nat.le_of_ble_eq_true rfl) rfl) ?_; clear hf a; intro a hf
 refine O.val hf rfl rfl rfl (RunV.loadN (cs' := #[Iv x3, Iv x4]) T_agg_23 T_size_23 rfl (hS.ptAt (i := 1) rfl) (Nat.le_of_ble_eq_true rfl) rfl) ?_; clear hf a; intro a hf
 obtain ⟨x8, hx8, hm⟩ := hm_b hm
 refine O.callR hf rfl rfl rfl (RunE.call (av := #[.agg #[Iv x1, Iv x2], .agg #[Iv x3, Iv x4]]) C_ok_44 rfl rfl rfl) (m_ref03_both_ok F x1 x2 x3 x4 _ x8 hx8) ?_
 clear hf a; rintro _ w hS1 a hf
 replace hf : Fr a _ _ ((8, Iv x8) :: _) := hf
 replace hS := (hS.call hS1).eqM (N := [pt b7 (Cs #[Iv 0, Iv 0] 23), pt b6 (Cs #[Iv x3, Iv x4] 23), pt b5 (Cs #[Iv x1, Iv x2] 23)]) rfl
 clear hS1
 refine O.val (v := Bv (decide (x8 ≠ (0 : Int)))) hf rfl rfl rfl (RunV.neq rfl rfl) ?_; clear hf a; intro a hf
 refine O.nil ?_
 refine k_seq ?_
 replace hf : Fr a 27 [] [(2, Pv b5 0), (3, Pv b6 0), (4, Pv b7 0), (5, Iv 0), (9, Bv (decide (x8 ≠ (0 : Int))))] := hf.to ⟨rfl, rfl, rfl, rfl, rfl, trivial⟩
 refine W.ifdI hf rfl (fun hc9 => ?_) (fun hc9 => ?_)
 ·replace hm := hm_p hm hc9
  refine W.seq ?_
  -- region 2
  refine W.regionL (l := [0, 1, 2, 3, 4, 5]) rfl ?_
  refine O.val (v := .agg #[Iv 0, Iv 0]) hf rfl rfl rfl (RunV.buildS (cs' := #[Iv 0, Iv 0]) T_places_23 T_zero_23 rfl (by kernel_rfl)) ?_; clear hf a; intro a hf
  refine O.val hf rfl rfl rfl (RunV.loadN (cs' := #[Iv x1, Iv x2]) T_agg_23 T_size_23 rfl (hS.ptAt (i := 2) rfl) (Nat.le_of_ble_eq_true rfl) rfl) ?_; clear hf a; intro a hf
  refine O.val hf rfl rfl rfl (RunV.loadN (cs' := #[Iv x3, Iv x4]) T_agg_23 T_size_23 rfl (hS.ptAt (i := 1) rfl) (Nat.le_of_ble_eq_true rfl) rfl) ?_; clear hf a; intro a hf
  obtain ⟨x10, hx10, hm⟩ := hm_b hm
  refine O.callR hf rfl rfl rfl (RunE.call (av := #[.agg #[Iv x1, Iv x2], .agg #[Iv x3, Iv x4]]) C_ok_44 rfl rfl rfl) (m_ref03_both_ok F x1 x2 x3 x4 _ x10 hx10) ?_
  clear hf a; rintro _ w hS1 a hf
  replace hf : Fr a _ _ ((13, Iv x10) :: _) := hf
  replace hS := (hS.call hS1).eqM (N := [pt b7 (Cs #[Iv 0, Iv 0] 23), pt b6 (Cs #[Iv x3, Iv x4] 23), pt b5 (Cs #[Iv x1, Iv x2] 23)]) rfl
  clear hS1
  refine O.store (j := 0) (cs' := #[Iv 0, Iv 0]) (M' := [pt b7 (Cs #[Iv 0, Iv 0] 23), pt b6 (Cs #[Iv x3, Iv x4] 23), pt b5 (Cs #[Iv x1, Iv x2] 23)]) hf hS rfl rfl rfl T_size_23 rfl rfl rfl (Nat.le_of_ble_eq_true rfl) rfl rfl ?_
  clear hS; intro w hS
  refine O.val hf rfl rfl rfl (RunV.assign rfl) ?_; clear hf a; intro a hf
  refine O.nil ?_
  refine k_seq ?_
  replace hf : Fr a 27 [] [(2, Pv b5 0), (3, Pv b6 0), (4, Pv b7 0), (5, Iv x10)] := hf.to ⟨rfl, rfl, rfl, rfl, trivial⟩
  refine W.ret ?_
  refine k_then_ret ?_
  obtain rfl := Option.some.inj hm
  refine post2 hf rfl (ResOK.cellN (cs' := #[Iv 0, Iv 0]) rfl T_agg_23 T_size_23 (hS.ptAt (i := 0) rfl) (Nat.le_of_ble_eq_true rfl) rfl) (ResOK.tmp rfl) ?_
  replace hS := hS.sub (N := []) (.cons _ (.cons _ (.cons _ .slnil)))
  exact ⟨(), rfl, hS.noB⟩
 ·replace hm := hm_n hm hc9
  refine W.skip ?_
  refine k_seq ?_
  replace hf : Fr a 27 [] [(2, Pv b5 0), (3, Pv b6 0), (4, Pv b7 0), (5, Iv 0)] := hf.to ⟨rfl, rfl, rfl, rfl, trivial⟩
  refine W.seq ?_
  -- region 3
  refine W.regionL (l := [0, 1, 2, 3, 4, 5, 6, 7, 8, 9, 10, 11, 12, 13, 14]) rfl ?_
  refine O.val hf rfl rfl rfl (RunV.field T_field_23_0 rfl rfl) ?_; clear hf a; intro a hf
  refine O.val hf rfl rfl rfl (RunV.load1 T_agg_2 rfl (hS.ptAt (i := 2) rfl) rfl) ?_; clear hf a; intro a hf
  refine O.val hf rfl rfl rfl (RunV.field T_field_23_0 rfl rfl) ?_; clear hf a; intro a hf
  refine O.val hf rfl rfl rfl (RunV.load1 T_agg_2 rfl (hS.ptAt (i := 1) rfl) rfl) ?_; clear hf a; intro a hf
  refine O.val (v := Iv (IntKind.i64.wrap (x1 + x3))) hf rfl rfl rfl (RunV.add rfl rfl) ?_; clear hf a; intro a hf
  refine O.val hf rfl rfl rfl (RunV.field T_field_23_1 rfl rfl) ?_; clear hf a; intro a hf
  refine O.val hf rfl rfl rfl (RunV.load1 T_agg_2 rfl (hS.ptAt (i := 2) rfl) rfl) ?_; clear hf a; intro a hf
  refine O.val hf rfl rfl rfl (RunV.field T_field_23_1 rfl rfl) ?_; clear hf a; intro a hf
  refine O.val hf rfl rfl rfl (RunV.load1 T_agg_2 rfl (hS.ptAt (i := 1) rfl) rfl) ?_; clear hf a; intro a hf
  refine O.val (v := Iv (IntKind.i64.wrap (x2 + x4))) hf rfl rfl rfl (RunV.add rfl rfl) ?_; clear hf a; intro a hf
  obtain ⟨x11, hx11, hm⟩ := hm_b hm
  refine O.callR hf rfl rfl rfl (RunE.call (av := #[Iv (IntKind.i64.wrap (x1 + x3)), Iv (IntKind.i64.wrap (x2 + x4))]) C_ok_37 rfl rfl rfl) (m_ref03_made_ok F (IntKind.i64.wrap (x1 + x3)) (IntKind.i64.wrap (x2 + x4)) _ x11 hx11) ?_
  clear hf a; rintro _ w hS1 a hf
  replace hf : Fr a _ _ ((24, .tuple #[.agg #[Iv x11.1, Iv x11.2.1], Iv x11.2.2]) :: _) := hf
  replace hS := (hS.call hS1).eqM (N := [pt b7 (Cs #[Iv 0, Iv 0] 23), pt b6 (Cs #[Iv x3, Iv x4] 23), pt b5 (Cs #[Iv x1, Iv x2] 23)]) rfl
  clear hS1
  refine O.val hf rfl rfl rfl (RunV.extract rfl rfl) ?_; clear hf a; intro a hf
  refine O.val hf rfl rfl rfl (RunV.extract rfl rfl) ?_; clear hf a; intro a hf
  refine O.store (j := 0) (cs' := #[Iv x11.1, Iv x11.2.1]) (M' := [pt b7 (Cs #[Iv x11.1, Iv x11.2.1] 23), pt b6 (Cs #[Iv x3, Iv x4] 23), pt b5 (Cs #[Iv x1, Iv x2] 23)]) hf hS rfl rfl rfl T_size_23 rfl rfl rfl (Nat.le_of_ble_eq_true rfl) rfl rfl ?_
  clear hS; intro w hS
  refine O.val hf rfl rfl rfl (RunV.assign rfl) ?_; clear hf a; intro a hf
  refine O.nil ?_
  refine k_seq ?_
  replace hf : Fr a 27 [] [(4, Pv b7 0), (5, Iv x11.2.2)] := hf.to ⟨rfl, rfl, trivial⟩
  refine W.ret ?_
  obtain rfl := Option.some.inj hm
  refine post2 hf rfl (ResOK.cellN (cs' := #[Iv x11.1, Iv x11.2.1]) rfl T_agg_23 T_size_23 (hS.ptAt (i := 0) rfl) (Nat.le_of_ble_eq_true rfl) rfl) (ResOK.tmp rfl) ?_
  replace hS := hS.sub (N := []) (.cons _ (.cons _ (.cons _ .slnil)))
  exact ⟨(), rfl, hS.noB⟩

def m_ref17_Calc_Add (F : Nat)  (x2 : Int) (x3 : Int) (x4 : Int) (x5 : Int) (x6 : Int) : Option (Int × Int × Int) :=
  (m_ref03_Add F x3 x4 x5 x6).bind fun x10 => (m_ref17_Calc_Keep F x2 x10.1 x10.2.1 x10.2.2).bind fun x11 => some x11
set_option maxHeartbeats 1000000 in
set_option maxRecDepth 8000 in
theorem m_ref17_Calc_Add_ok (F : Nat)   (b1 : Nat) (x2 : Int) (x3 : Int) (x4 : Int) (x5 : Int) (x6 : Int) (w0 : World) (h_b1 : w0.heap[b1]? = some (.cells #[Iv x2] 56 (0, 0))) (r : Int × Int × Int) (hm : m_ref17_Calc_Add F x2 x3 x4 x5 x6 = some r) :
    Ret Try.prog 18 #[Pv b1 0, .agg #[Iv x3, Iv x4], .agg #[Iv x5, Iv x6]] w0 (G := Unit) (fun _ => .agg #[Iv r.1, Iv r.2.1]) (fun _ w => St w0 w (fun k => k = b1) [] [pt b1 (Cs #[Iv r.2.2] 56)]) := by
 unfold m_ref17_Calc_Add at hm
 refine ret_of_W (lv := [Pv b1 0, .agg #[Iv x3, Iv x4], .agg #[Iv x5, Iv x6]]) Try.func18 rfl rfl rfl (fun a hf => ?_)
 replace hf : Fr a 14 [] [(0, Pv b1 0), (1, .agg #[Iv x3, Iv x4]), (2, .agg #[Iv x5, Iv x6])] := hf
 have hS : St w0 w0 (fun k => k = b1) [] [pt b1 (Cs #[Iv x2] 56)] := St.ownPt h_b1 lendAll_nil apart_nil
 refine W.seq ?_
 -- region 0
 refine W.regionL (l := [0, 1, 2]) rfl ?_
 refine O.box (cs := #[Iv x3, Iv x4]) hf hS rfl rfl rfl rfl ?_
 clear hf hS a; intro b7 w a hb7 hS hf
 refine O.box (cs := #[Iv x5, Iv x6]) hf hS rfl rfl rfl rfl ?_
 clear hf hS a; intro b8 w a hb8 hS hf
 refine O.alloc (cs := #[Iv 0, Iv 0]) hf hS rfl rfl T_zero_23 rfl ?_
 clear hf hS a; intro b9 w a hb9 hS hf
 refine O.nil ?_
 refine k_seq ?_
 replace hf : Fr a 14 [] [(0, Pv b1 0), (4, Pv b7 0), (5, Pv b8 0), (6, Pv b9 0)] := hf.to ⟨rfl, rfl, rfl, rfl, trivial⟩
 refine W.seq ?_
 -- region 1
 refine W.regionL (l := [0, 1, 2, 3, 4, 5, 6, 7]) rfl ?_
 refine O.val hf rfl rfl rfl (RunV.move rfl) ?_; clear hf a; intro a hf
 refine O.val hf rfl rfl rfl (RunV.loadN (cs' := #[Iv x3, Iv x4]) T_agg_23 T_size_23 rfl (hS.ptAt (i := 2) rfl) (Nat.le_of_ble_eq_true rfl) rfl) ?_; clear hf a; intro a hf
 refine O.val hf rfl rfl rfl (RunV.loadN (cs' := #[Iv x5, Iv x6]) T_agg_23 T_size_23 rfl (hS.ptAt (i := 1) rfl) (Nat.le_of_ble_eq_true rfl) rfl) ?_; clear hf a; intro a hf
 obtain ⟨x10, hx10, hm⟩ := hm_b hm
 refine O.callR hf rfl rfl rfl (RunE.call (av := #[.agg #[Iv x3, Iv x4], .agg #[Iv x5, Iv x6]]) C_ok_33 rfl rfl rfl) (m_ref03_Add_ok F x3 x4 x5 x6 _ x10 hx10) ?_
 clear hf a; rintro _ w hS1 a hf
 replace hf : Fr a _ _ ((10, .tuple #[.agg #[Iv x10.1, Iv x10.2.1], Iv x10.2.2]) :: _) := hf
 replace hS := (hS.call hS1).eqM (N := [pt b9 (Cs #[Iv 0, Iv 0] 23), pt b8 (Cs #[Iv x5, Iv x6] 23), pt b7 (Cs #[Iv x3, Iv x4] 23), pt b1 (Cs #[Iv x2] 56)]) rfl
 clear hS1
 refine O.val hf rfl rfl rfl (RunV.extract rfl rfl) ?_; clear hf a; intro a hf
 refine O.val hf rfl rfl rfl (RunV.extract rfl rfl) ?_; clear hf a; intro a hf
 obtain ⟨x11, hx11, hm⟩ := hm_b hm
 refine O.callR hf rfl rfl rfl (RunE.call (av := #[Pv b1 0, .agg #[Iv x10.1, Iv x10.2.1], Iv x10.2.2]) C_ok_19 rfl rfl rfl) (m_ref17_Calc_Keep_ok F b1 x2 x10.1 x10.2.1 x10.2.2 _ (hS.ptAt (i := 3) rfl) x11 hx11) ?_
 clear hf a; rintro _ w hS1 a hf
 replace hf : Fr a _ _ ((13, .agg #[Iv x11.1, Iv x11.2.1]) :: _) := hf
 replace hS := (hS.callX1 hS1 (i := 3) rfl (fun _ h => h)).eqM (N := [pt b1 (Cs #[Iv x11.2.2] 56), pt b9 (Cs #[Iv 0, Iv 0] 23), pt b8 (Cs #[Iv x5, Iv x6] 23), pt b7 (Cs #[Iv x3, Iv x4] 23)]) rfl
 clear hS1
 refine O.store (j := 1) (cs' := #[Iv x11.1, Iv x11.2.1]) (M' := [pt b1 (Cs #[Iv x11.2.2] 56), pt b9 (Cs #[Iv x11.1, Iv x11.2.1] 23), pt b8 (Cs #[Iv x5, Iv x6] 23), pt b7 (Cs #[Iv x3, Iv x4] 23)]) hf hS rfl rfl rfl T_size_23 rfl rfl rfl (Nat.le_of_ble_eq_true rfl) rfl rfl ?_
 clear hS; intro w hS
 refine O.nil ?_
 refine k_seq ?_
 replace hf : Fr a 14 [] [(6, Pv b9 0)] := hf.to ⟨rfl, trivial⟩
 refine W.ret ?_
 obtain rfl := Option.some.inj hm
 refine post1 hf rfl (ResOK.cellN (cs' := #[Iv x11.1, Iv x11.2.1]) rfl T_agg_23 T_size_23 (hS.ptAt (i := 1) rfl) (Nat.le_of_ble_eq_true rfl) rfl) ?_
 replace hS := hS.sub (N := [pt b1 (Cs #[Iv x11.2.2] 56)]) (.cons_cons _ (.cons _ (.cons _ (.cons _ .slnil))))
 exact ⟨(), rfl, hS.noB⟩

def m_ref30_Ahead_j1 (F : Nat) (x46 : Int) (x47 : Int) (x48 : Int) (x49 : Int) (x50 : Int) (x51 : Int) (x52 : Int) : Option (Int × Int × Int × Int × Int × Int × Int) :=
  if x46 ≠ (0 : Int) then (some (0, 0, 0, 0, 0, 0, x46)) else (some (x47, x48, x49, x50, x51, x52, 0))
def m_ref30_Ahead_j2 (F : Nat) (x14 : Int) (x15 : Int) (x13 : Int) (x32 : Int) (x33 : Int) (x34 : Int) (x35 : Int) (x36 : Int) (x37 : Int) (x38 : Int) : Option (Int × Int × Int × Int × Int × Int × Int) :=
  (m_ref03_Scale F x14 x15 x13 86400000000).bind fun x39 => (m_ref17_Calc_Keep F x32 x39.1 x39.2.1 x39.2.2).bind fun x40 => (m_ref03_Scale F x40.1 x40.2.1 x13 86400000000).bind fun x42 => (m_ref17_Calc_Keep F x40.2.2 x42.1 x42.2.1 x42.2.2).bind fun x43 => (m_ref03_Scale F x43.1 x43.2.1 1 2).bind fun x44 => (m_ref17_Calc_Keep F x43.2.2 x44.1 x44.2.1 x44.2.2).bind fun x45 => (m_ref17_Calc_Add F x45.2.2 x33 x34 (IntKind.i64.wrap (0 - x45.2.1)) x45.2.1).bind fun x54 => (some (IntKind.i64.wrap (0 - x45.2.1))).bind fun x55 => (m_ref17_Calc_Add F x54.2.2 x35 x36 (IntKind.i64.wrap (0 - x45.2.1)) x45.2.1).bind fun x56 => (some (IntKind.i64.wrap (0 - x45.2.1))).bind fun x57 => (m_ref17_Calc_Add F x56.2.2 x37 x38 (IntKind.i64.wrap (0 - x45.2.1)) x45.2.1).bind fun x58 => (some (IntKind.i64.wrap (0 - x45.2.1))).bind fun x59 => m_ref30_Ahead_j1 F x58.2.2 x54.1 x54.2.1 x56.1 x56.2.1 x58.1 x58.2.1
def m_ref30_Ahead (F : Nat)  (x1 : Int) (x2 : Int) (x3 : Int) (x4 : Int) (x5 : Int) (x6 : Int) (x7 : Int) (x8 : Int) (x9 : Int) (x10 : Int) (x11 : Int) (x12 : Int) (x13 : Int) (x14 : Int) (x15 : Int) : Option (Int × Int × Int × Int × Int × Int × Int) :=
  (m_ref17_Check F x1 x2 x3 x4 x5 x6).bind fun x20 => if x20 ≠ (0 : Int) then ((m_ref17_Check F x1 x2 x3 x4 x5 x6).bind fun x22 => some (0, 0, 0, 0, 0, 0, x22)) else ((m_ref17_Check F x7 x8 x9 x10 x11 x12).bind fun x23 => if x23 ≠ (0 : Int) then ((m_ref17_Check F x7 x8 x9 x10 x11 x12).bind fun x25 => some (0, 0, 0, 0, 0, 0, x25)) else ((m_ref03_Check F x14 x15).bind fun x26 => if x26 ≠ (0 : Int) then ((m_ref03_Check F x14 x15).bind fun x28 => some (0, 0, 0, 0, 0, 0, x28)) else (if x14 < (0 : Int) then (some (0, 0, 0, 0, 0, 0, 2)) else ((m_ref03_Scale F x7 x8 x13 86400000000).bind fun x60 => (m_ref17_Calc_Keep F 0 x60.1 x60.2.1 x60.2.2).bind fun x61 => (m_ref17_Calc_Add F x61.2.2 x1 x2 x61.1 x61.2.1).bind fun x62 => (m_ref03_Scale F x9 x10 x13 86400000000).bind fun x63 => (m_ref17_Calc_Keep F x62.2.2 x63.1 x63.2.1 x63.2.2).bind fun x64 => (m_ref17_Calc_Add F x64.2.2 x3 x4 x64.1 x64.2.1).bind fun x65 => (m_ref03_Scale F x11 x12 x13 86400000000).bind fun x66 => (m_ref17_Calc_Keep F x65.2.2 x66.1 x66.2.1 x66.2.2).bind fun x67 => (m_ref17_Calc_Add F x67.2.2 x5 x6 x67.1 x67.2.1).bind fun x68 => m_ref30_Ahead_j2 F x14 x15 x13 x68.2.2 x62.1 x62.2.1 x65.1 x65.2.1 x68.1 x68.2.1))))
end Go.Proofs.Ytplgfmincflodaa
