/- Part of a proof: walks printed by a program. -/
import Derived.Test.YtipedambeemdaaaWac
set_option linter.unusedVariables false
set_option linter.unusedSimpArgs false
namespace Go.Proofs.Ytipedambeemdaaa
open Go Go.SL
set_option maxHeartbeats 1000000 in
set_option maxRecDepth 8000 in
theorem m_plan_Spread_ok (F : Nat)    (x1 : Int) (x2 : Int) (x3 : Int) (w0 : World)  (r : Int × Int) (hm : m_plan_Spread F x1 x2 x3 = some r) :
    Ret Try.prog 10 #[Iv x1, Iv x2, Iv x3] w0 (G := Unit) (fun _ => .tuple #[Iv r.1, Iv r.2]) (fun _ w => St w0 w noX [] []) := by
 unfold m_plan_Spread at hm
 refine ret_of_W (lv := [Iv x1, Iv x2, Iv x3]) Try.func10 rfl rfl rfl (fun a hf => ?_)
 replace hf : Fr a 109 [] [(0, Iv x1), (1, Iv x2), (2, Iv x3)] := hf
 have hS : St w0 w0 noX [] [] := St.borrow lendAll_nil
 refine W.seq ?_
 refine W.regionL (l := [0, 1]) rfl ?_
 refine O.val hf rfl rfl rfl (RunV.assign rfl) ?_; clear hf a; intro a hf
 refine O.val hf rfl rfl rfl (RunV.assign rfl) ?_; clear hf a; intro a hf
 refine O.nil ?_
 refine k_seq ?_
 refine W.seq ?_
 refine W.seq ?_
 refine W.regionL (l := [0, 1, 2, 3, 4, 5, 6, 7, 8, 9, 10, 11, 12, 13, 14, 15, 16, 17, 18, 19, 20, 21]) rfl ?_
 refine O.val hf rfl rfl rfl (RunV.move rfl) ?_; clear hf a; intro a hf
 refine O.val (v := Bv (decide (x1 < (0 : Int)))) hf rfl rfl rfl (RunV.lss rfl rfl) ?_; clear hf a; intro a hf
 refine O.val hf rfl rfl rfl (RunV.move rfl) ?_; clear hf a; intro a hf
 refine O.cutN (l₁ := [3, 4, 5]) (l₂ := _) (fun a w => Fr a 109 [] [(0, Iv x1), (1, Iv x2), (2, Iv x3), (6, Iv 0), (7, Iv 0), (21, Bv ((decide (x1 < (0 : Int))) || (decide (x1 > (10000000000 : Int)))))] ∧ St w0 w noX [] []) rfl ?_ ?_
 ·rcases Bool.eq_false_or_eq_true (decide (x1 < (0 : Int))) with hb4 | hb4
  ·refine O.skipB hf rfl rfl rfl hb4 rfl ?_; clear hf a; intro a hf
   refine O.skipB hf rfl rfl rfl hb4 rfl ?_; clear hf a; intro a hf
   refine O.val (v := Bv ((decide (x1 < (0 : Int))) || (decide (x1 > (10000000000 : Int))))) hf rfl rfl rfl (RunV.pick rfl rfl rfl (by rw [hb4]; rfl)) ?_; clear hf a; intro a hf
   exact O.nil ⟨rfl, hf.to ⟨rfl, rfl, rfl, rfl, rfl, rfl, trivial⟩, hS⟩
  ·refine O.gvalB hf rfl rfl rfl hb4 rfl rfl (RunV.move rfl) ?_; clear hf a; intro a hf
   refine O.gvalB (v := Bv (decide (x1 > (10000000000 : Int)))) hf rfl rfl rfl hb4 rfl rfl (RunV.gtr rfl rfl) ?_; clear hf a; intro a hf
   refine O.val (v := Bv ((decide (x1 < (0 : Int))) || (decide (x1 > (10000000000 : Int))))) hf rfl rfl rfl (RunV.pick rfl rfl rfl (by rw [hb4]; rfl)) ?_; clear hf a; intro a hf
   exact O.nil ⟨rfl, hf.to ⟨rfl, rfl, rfl, rfl, rfl, rfl, trivial⟩, hS⟩
 clear hf hS a; try clear w
 rintro a w ⟨hf, hS⟩
 refine O.val hf rfl rfl rfl (RunV.move rfl) ?_; clear hf a; intro a hf
 refine O.cutN (l₁ := [7, 8, 9]) (l₂ := _) (fun a w => Fr a 109 [] [(0, Iv x1), (1, Iv x2), (2, Iv x3), (6, Iv 0), (7, Iv 0), (25, Bv (((decide (x1 < (0 : Int))) || (decide (x1 > (10000000000 : Int)))) || (decide (x2 < (0 : Int)))))] ∧ St w0 w noX [] []) rfl ?_ ?_
 ·rcases Bool.eq_false_or_eq_true ((decide (x1 < (0 : Int))) || (decide (x1 > (10000000000 : Int)))) with hb5 | hb5
  ·refine O.skipB hf rfl rfl rfl hb5 rfl ?_; clear hf a; intro a hf
   refine O.skipB hf rfl rfl rfl hb5 rfl ?_; clear hf a; intro a hf
   refine O.val (v := Bv (((decide (x1 < (0 : Int))) || (decide (x1 > (10000000000 : Int)))) || (decide (x2 < (0 : Int))))) hf rfl rfl rfl (RunV.pick rfl rfl rfl (by rw [hb5]; rfl)) ?_; clear hf a; intro a hf
   exact O.nil ⟨rfl, hf.to ⟨rfl, rfl, rfl, rfl, rfl, rfl, trivial⟩, hS⟩
  ·refine O.gvalB hf rfl rfl rfl hb5 rfl rfl (RunV.move rfl) ?_; clear hf a; intro a hf
   refine O.gvalB (v := Bv (decide (x2 < (0 : Int)))) hf rfl rfl rfl hb5 rfl rfl (RunV.lss rfl rfl) ?_; clear hf a; intro a hf
   refine O.val (v := Bv (((decide (x1 < (0 : Int))) || (decide (x1 > (10000000000 : Int)))) || (decide (x2 < (0 : Int))))) hf rfl rfl rfl (RunV.pick rfl rfl rfl (by rw [hb5]; rfl)) ?_; clear hf a; intro a hf
   exact O.nil ⟨rfl, hf.to ⟨rfl, rfl, rfl, rfl, rfl, rfl, trivial⟩, hS⟩
 clear hf hS a; try clear w
 rintro a w ⟨hf, hS⟩
 refine O.val hf rfl rfl rfl (RunV.move rfl) ?_; clear hf a; intro a hf
 refine O.cutN (l₁ := [11, 12, 13]) (l₂ := _) (fun a w => Fr a 109 [] [(0, Iv x1), (1, Iv x2), (2, Iv x3), (6, Iv 0), (7, Iv 0), (29, Bv ((((decide (x1 < (0 : Int))) || (decide (x1 > (10000000000 : Int)))) || (decide (x2 < (0 : Int)))) || (decide (x2 > (72000000000 : Int)))))] ∧ St w0 w noX [] []) rfl ?_ ?_
 ·rcases Bool.eq_false_or_eq_true (((decide (x1 < (0 : Int))) || (decide (x1 > (10000000000 : Int)))) || (decide (x2 < (0 : Int)))) with hb6 | hb6
  ·refine O.skipB hf rfl rfl rfl hb6 rfl ?_; clear hf a; intro a hf
   refine O.skipB hf rfl rfl rfl hb6 rfl ?_; clear hf a; intro a hf
   refine O.val (v := Bv ((((decide (x1 < (0 : Int))) || (decide (x1 > (10000000000 : Int)))) || (decide (x2 < (0 : Int)))) || (decide (x2 > (72000000000 : Int))))) hf rfl rfl rfl (RunV.pick rfl rfl rfl (by rw [hb6]; rfl)) ?_; clear hf a; intro a hf
   exact O.nil ⟨rfl, hf.to ⟨rfl, rfl, rfl, rfl, rfl, rfl, trivial⟩, hS⟩
  ·refine O.gvalB hf rfl rfl rfl hb6 rfl rfl (RunV.move rfl) ?_; clear hf a; intro a hf
   refine O.gvalB (v := Bv (decide (x2 > (72000000000 : Int)))) hf rfl rfl rfl hb6 rfl rfl (RunV.gtr rfl rfl) ?_; clear hf a; intro a hf
   refine O.val (v := Bv ((((decide (x1 < (0 : Int))) || (decide (x1 > (10000000000 : Int)))) || (decide (x2 < (0 : Int)))) || (decide (x2 > (72000000000 : Int))))) hf rfl rfl rfl (RunV.pick rfl rfl rfl (by rw [hb6]; rfl)) ?_; clear hf a; intro a hf
   exact O.nil ⟨rfl, hf.to ⟨rfl, rfl, rfl, rfl, rfl, rfl, trivial⟩, hS⟩
 clear hf hS a; try clear w
 rintro a w ⟨hf, hS⟩
 refine O.val hf rfl rfl rfl (RunV.move rfl) ?_; clear hf a; intro a hf
 refine O.cutN (l₁ := [15, 16, 17]) (l₂ := _) (fun a w => Fr a 109 [] [(0, Iv x1), (1, Iv x2), (2, Iv x3), (6, Iv 0), (7, Iv 0), (33, Bv (((((decide (x1 < (0 : Int))) || (decide (x1 > (10000000000 : Int)))) || (decide (x2 < (0 : Int)))) || (decide (x2 > (72000000000 : Int)))) || (decide (x3 < (-8640000000000 : Int)))))] ∧ St w0 w noX [] []) rfl ?_ ?_
 ·rcases Bool.eq_false_or_eq_true ((((decide (x1 < (0 : Int))) || (decide (x1 > (10000000000 : Int)))) || (decide (x2 < (0 : Int)))) || (decide (x2 > (72000000000 : Int)))) with hb7 | hb7
  ·refine O.skipB hf rfl rfl rfl hb7 rfl ?_; clear hf a; intro a hf
   refine O.skipB hf rfl rfl rfl hb7 rfl ?_; clear hf a; intro a hf
   refine O.val (v := Bv (((((decide (x1 < (0 : Int))) || (decide (x1 > (10000000000 : Int)))) || (decide (x2 < (0 : Int)))) || (decide (x2 > (72000000000 : Int)))) || (decide (x3 < (-8640000000000 : Int))))) hf rfl rfl rfl (RunV.pick rfl rfl rfl (by rw [hb7]; rfl)) ?_; clear hf a; intro a hf
   exact O.nil ⟨rfl, hf.to ⟨rfl, rfl, rfl, rfl, rfl, rfl, trivial⟩, hS⟩
  ·refine O.gvalB hf rfl rfl rfl hb7 rfl rfl (RunV.move rfl) ?_; clear hf a; intro a hf
   refine O.gvalB (v := Bv (decide (x3 < (-8640000000000 : Int)))) hf rfl rfl rfl hb7 rfl rfl (RunV.lss rfl rfl) ?_; clear hf a; intro a hf
   refine O.val (v := Bv (((((decide (x1 < (0 : Int))) || (decide (x1 > (10000000000 : Int)))) || (decide (x2 < (0 : Int)))) || (decide (x2 > (72000000000 : Int)))) || (decide (x3 < (-8640000000000 : Int))))) hf rfl rfl rfl (RunV.pick rfl rfl rfl (by rw [hb7]; rfl)) ?_; clear hf a; intro a hf
   exact O.nil ⟨rfl, hf.to ⟨rfl, rfl, rfl, rfl, rfl, rfl, trivial⟩, hS⟩
 clear hf hS a; try clear w
 rintro a w ⟨hf, hS⟩
 refine O.val hf rfl rfl rfl (RunV.move rfl) ?_; clear hf a; intro a hf
 refine O.cutN (l₁ := [19, 20, 21]) (l₂ := _) (fun a w => Fr a 109 [] [(0, Iv x1), (1, Iv x2), (2, Iv x3), (6, Iv 0), (7, Iv 0), (37, Bv ((((((decide (x1 < (0 : Int))) || (decide (x1 > (10000000000 : Int)))) || (decide (x2 < (0 : Int)))) || (decide (x2 > (72000000000 : Int)))) || (decide (x3 < (-8640000000000 : Int)))) || (decide (x3 > (8640000000000 : Int)))))] ∧ St w0 w noX [] []) rfl ?_ ?_
 ·rcases Bool.eq_false_or_eq_true (((((decide (x1 < (0 : Int))) || (decide (x1 > (10000000000 : Int)))) || (decide (x2 < (0 : Int)))) || (decide (x2 > (72000000000 : Int)))) || (decide (x3 < (-8640000000000 : Int)))) with hb8 | hb8
  ·refine O.skipB hf rfl rfl rfl hb8 rfl ?_; clear hf a; intro a hf
   refine O.skipB hf rfl rfl rfl hb8 rfl ?_; clear hf a; intro a hf
   refine O.val (v := Bv ((((((decide (x1 < (0 : Int))) || (decide (x1 > (10000000000 : Int)))) || (decide (x2 < (0 : Int)))) || (decide (x2 > (72000000000 : Int)))) || (decide (x3 < (-8640000000000 : Int)))) || (decide (x3 > (8640000000000 : Int))))) hf rfl rfl rfl (RunV.pick rfl rfl rfl (by rw [hb8]; rfl)) ?_; clear hf a; intro a hf
   exact O.nil ⟨rfl, hf.to ⟨rfl, rfl, rfl, rfl, rfl, rfl, trivial⟩, hS⟩
  ·refine O.gvalB hf rfl rfl rfl hb8 rfl rfl (RunV.move rfl) ?_; clear hf a; intro a hf
   refine O.gvalB (v := Bv (decide (x3 > (8640000000000 : Int)))) hf rfl rfl rfl hb8 rfl rfl (RunV.gtr rfl rfl) ?_; clear hf a; intro a hf
   refine O.val (v := Bv ((((((decide (x1 < (0 : Int))) || (decide (x1 > (10000000000 : Int)))) || (decide (x2 < (0 : Int)))) || (decide (x2 > (72000000000 : Int)))) || (decide (x3 < (-8640000000000 : Int)))) || (decide (x3 > (8640000000000 : Int))))) hf rfl rfl rfl (RunV.pick rfl rfl rfl (by rw [hb8]; rfl)) ?_; clear hf a; intro a hf
   exact O.nil ⟨rfl, hf.to ⟨rfl, rfl, rfl, rfl, rfl, rfl, trivial⟩, hS⟩
 clear hf hS a; try clear w
 rintro a w ⟨hf, hS⟩
 refine O.nil ?_
 refine k_seq ?_
 refine W.if_ hf rfl (fun hc9 => ?_) (fun hc9 => ?_)
 ·replace hm := hm_t hm hc9
  refine W.seq ?_
  refine W.regionL (l := [0, 1]) rfl ?_
  refine O.val hf rfl rfl rfl (RunV.assign rfl) ?_; clear hf a; intro a hf
  refine O.val hf rfl rfl rfl (RunV.assign rfl) ?_; clear hf a; intro a hf
  refine O.nil ?_
  refine k_seq ?_
  replace hf : Fr a 109 [] [(0, Iv x1), (1, Iv x2), (2, Iv x3), (6, Iv 0), (7, Iv 2)] := hf.to ⟨rfl, rfl, rfl, rfl, rfl, trivial⟩
  refine W.ret ?_
  refine k_then_ret ?_
  obtain rfl := Option.some.inj hm
  refine post2 hf rfl (ResOK.tmp rfl) (ResOK.tmp rfl) ?_
  exact ⟨(), rfl, hS.noB⟩
 ·replace hm := hm_f hm hc9
  refine W.skip ?_
  refine k_seq ?_
  replace hf : Fr a 109 [] [(0, Iv x1), (1, Iv x2), (2, Iv x3), (6, Iv 0), (7, Iv 0)] := hf.to ⟨rfl, rfl, rfl, rfl, rfl, trivial⟩
  refine W.seq ?_
  refine W.regionL (l := [0]) rfl ?_
  refine O.alloc (cs := #[Iv 0]) hf hS rfl rfl T_zero_67 rfl ?_
  clear hf hS a; intro b10 w a hb10 hS hf
  refine O.nil ?_
  refine k_seq ?_
  refine W.seq ?_
  refine W.regionL (l := [0, 1, 2, 3, 4, 5, 6, 7, 8, 9, 10]) rfl ?_
  refine O.val hf rfl rfl rfl (RunV.move rfl) ?_; clear hf a; intro a hf
  obtain ⟨x11, hx11, hm⟩ := hm_b hm
  refine O.callR hf rfl rfl rfl (RunE.call (av := #[Pv b10 0, Iv x1, Iv 86400000000]) C_ok_26 rfl rfl rfl) (m_plan_calc_square_ok F b10 0 x1 86400000000 _ (hS.ptAt (i := 0) rfl) x11 hx11) ?_
  clear hf a; rintro s12 w hS1 a hf
  replace hf : Fr a _ _ ((39, .agg #[Bv x11.1, s12]) :: _) := hf
  replace hS := (hS.callX1 hS1 (i := 0) rfl (fun _ h => h)).eqM (N := [slE 98 1 E98 s12 x11.2.1, pt b10 (Cs #[Iv x11.2.2] 67)]) rfl
  clear hS1
  refine O.val hf rfl rfl rfl (RunV.move rfl) ?_; clear hf a; intro a hf
  refine O.val hf rfl rfl rfl (RunV.move rfl) ?_; clear hf a; intro a hf
  obtain ⟨x13, hx13, hm⟩ := hm_b hm
  refine O.callR hf rfl rfl rfl (RunE.call (av := #[Pv b10 0, Iv x2, Iv x3]) C_ok_26 rfl rfl rfl) (m_plan_calc_square_ok F b10 x11.2.2 x2 x3 _ (hS.ptAt (i := 1) rfl) x13 hx13) ?_
  clear hf a; rintro s14 w hS1 a hf
  replace hf : Fr a _ _ ((42, .agg #[Bv x13.1, s14]) :: _) := hf
  replace hS := (hS.callX1 hS1 (i := 1) rfl (fun _ h => h)).eqM (N := [slE 98 1 E98 s14 x13.2.1, pt b10 (Cs #[Iv x13.2.2] 67), slE 98 1 E98 s12 x11.2.1]) rfl
  clear hS1
  obtain ⟨x15, hx15, hm⟩ := hm_b hm
  refine O.callR hf rfl rfl rfl (RunE.call (av := #[.agg #[Bv x11.1, s12], .agg #[Bv x13.1, s14]]) C_ok_25 rfl rfl rfl) (m_wide_Add_ok F x11.1 s12 x11.2.1 x13.1 s14 x13.2.1 _ (hS.rdS (j := 2) rfl) (hS.rdS (j := 0) rfl) x15 hx15) ?_
  clear hf a; rintro s16 w hS1 a hf
  replace hf : Fr a _ _ ((43, .tuple #[.agg #[Bv x15.1, s16], Iv x15.2.2]) :: _) := hf
  replace hS := (hS.call hS1).eqM (N := [slE 98 1 E98 s16 x15.2.1, slE 98 1 E98 s14 x13.2.1, pt b10 (Cs #[Iv x13.2.2] 67), slE 98 1 E98 s12 x11.2.1]) rfl
  clear hS1
  refine O.val hf rfl rfl rfl (RunV.extract rfl rfl) ?_; clear hf a; intro a hf
  refine O.val hf rfl rfl rfl (RunV.extract rfl rfl) ?_; clear hf a; intro a hf
  obtain ⟨x17, hx17, hm⟩ := hm_b hm
  refine O.callR hf rfl rfl rfl (RunE.call (av := #[Pv b10 0, .agg #[Bv x15.1, s16], Iv x15.2.2]) C_ok_24 rfl rfl rfl) (m_plan_calc_keep_ok F b10 x13.2.2 x15.1 s16 x15.2.1 x15.2.2 _ (hS.rdS (j := 0) rfl) (hS.ptAt (i := 2) rfl) (apRd (hS.apMM (i := 2) (j := 0) rfl rfl (by decide))) x17 hx17) ?_
  clear hf a; rintro _ w hS1 a hf
  replace hf : Fr a _ _ ((46, .agg #[Bv x15.1, s16]) :: _) := hf
  replace hS := (hS.callX1 hS1 (i := 2) rfl (fun _ h => h)).eqM (N := [pt b10 (Cs #[Iv x17] 67), slE 98 1 E98 s16 x15.2.1, slE 98 1 E98 s14 x13.2.1, slE 98 1 E98 s12 x11.2.1]) rfl
  clear hS1
  refine O.alloc (cs := #[Bv false, .slice none 0 0]) hf hS rfl rfl T_zero_39 rfl ?_
  clear hf hS a; intro b18 w a hb18 hS hf
  refine O.store (j := 0) (cs' := #[Bv x15.1, s16]) (M' := [pt b18 (Cs #[Bv x15.1, s16] 39), pt b10 (Cs #[Iv x17] 67), slE 98 1 E98 s16 x15.2.1, slE 98 1 E98 s14 x13.2.1, slE 98 1 E98 s12 x11.2.1]) hf hS rfl rfl rfl T_size_39 rfl (oneCells_cc rfl (oneCells_cc (rdEOK_one (hS.rdS (j := 2) rfl)) rfl)) rfl (Nat.le_of_ble_eq_true rfl) rfl rfl ?_
  clear hS; intro w hS
  refine O.nil ?_
  refine k_seq ?_
  replace hf : Fr a 109 [] [(6, Iv 0), (7, Iv 0), (8, Pv b10 0), (9, Pv b18 0)] := hf.to ⟨rfl, rfl, rfl, rfl, trivial⟩
  refine W.seq ?_
  refine W.regionL (l := [0, 1, 2, 3, 4, 5, 6]) rfl ?_
  refine O.val hf rfl rfl rfl (RunV.loadN (cs' := #[Bv x15.1, s16]) T_agg_39 T_size_39 rfl (hS.ptAt (i := 0) rfl) (Nat.le_of_ble_eq_true rfl) rfl) ?_; clear hf a; intro a hf
  obtain ⟨x19, hx19, hm⟩ := hm_b hm
  refine O.callR hf rfl rfl rfl (RunE.call (av := #[.agg #[Bv x15.1, s16]]) C_ok_27 rfl rfl rfl) (m_wide_Sqrt_ok F x15.1 s16 x15.2.1 _ (hS.rdS (j := 2) rfl) x19 hx19) ?_
  clear hf a; rintro s20 w hS1 a hf
  replace hf : Fr a _ _ ((48, .tuple #[.agg #[Bv x19.1, s20], Iv x19.2.2]) :: _) := hf
  replace hS := (hS.call hS1).eqM (N := [slE 98 1 E98 s20 x19.2.1, pt b18 (Cs #[Bv x15.1, s16] 39), pt b10 (Cs #[Iv x17] 67), slE 98 1 E98 s16 x15.2.1, slE 98 1 E98 s14 x13.2.1, slE 98 1 E98 s12 x11.2.1]) rfl
  clear hS1
  refine O.val hf rfl rfl rfl (RunV.extract rfl rfl) ?_; clear hf a; intro a hf
  refine O.val hf rfl rfl rfl (RunV.extract rfl rfl) ?_; clear hf a; intro a hf
  obtain ⟨x21, hx21, hm⟩ := hm_b hm
  refine O.callR hf rfl rfl rfl (RunE.call (av := #[Pv b10 0, .agg #[Bv x19.1, s20], Iv x19.2.2]) C_ok_24 rfl rfl rfl) (m_plan_calc_keep_ok F b10 x17 x19.1 s20 x19.2.1 x19.2.2 _ (hS.rdS (j := 0) rfl) (hS.ptAt (i := 2) rfl) (apRd (hS.apMM (i := 2) (j := 0) rfl rfl (by decide))) x21 hx21) ?_
  clear hf a; rintro _ w hS1 a hf
  replace hf : Fr a _ _ ((51, .agg #[Bv x19.1, s20]) :: _) := hf
  replace hS := (hS.callX1 hS1 (i := 2) rfl (fun _ h => h)).eqM (N := [pt b10 (Cs #[Iv x21] 67), slE 98 1 E98 s20 x19.2.1, pt b18 (Cs #[Bv x15.1, s16] 39), slE 98 1 E98 s16 x15.2.1, slE 98 1 E98 s14 x13.2.1, slE 98 1 E98 s12 x11.2.1]) rfl
  clear hS1
  refine O.alloc (cs := #[Bv false, .slice none 0 0]) hf hS rfl rfl T_zero_39 rfl ?_
  clear hf hS a; intro b22 w a hb22 hS hf
  refine O.store (j := 0) (cs' := #[Bv x19.1, s20]) (M' := [pt b22 (Cs #[Bv x19.1, s20] 39), pt b10 (Cs #[Iv x21] 67), slE 98 1 E98 s20 x19.2.1, pt b18 (Cs #[Bv x15.1, s16] 39), slE 98 1 E98 s16 x15.2.1, slE 98 1 E98 s14 x13.2.1, slE 98 1 E98 s12 x11.2.1]) hf hS rfl rfl rfl T_size_39 rfl (oneCells_cc rfl (oneCells_cc (rdEOK_one (hS.rdS (j := 2) rfl)) rfl)) rfl (Nat.le_of_ble_eq_true rfl) rfl rfl ?_
  clear hS; intro w hS
  refine O.nil ?_
  refine k_seq ?_
  replace hf : Fr a 109 [] [(6, Iv 0), (7, Iv 0), (8, Pv b10 0), (9, Pv b18 0), (10, Pv b22 0)] := hf.to ⟨rfl, rfl, rfl, rfl, rfl, trivial⟩
  refine W.seq ?_
  have hf1 : Fr a 109 [] [] := hf.to trivial
  replace hf : Fr a 109 [] [(6, Iv 0), (7, Iv 0), (8, Pv b10 0), (9, Pv b18 0), (10, Pv b22 0)] := hf.to ⟨rfl, rfl, rfl, rfl, rfl, trivial⟩
  obtain ⟨x23, hx23, hm⟩ := hm_b hm
  obtain ⟨x25, hx25, hm⟩ := hm_b hm
  obtain ⟨x26, hx26, hm⟩ := hm_b hm
  refine W.drawC (γ := Value) (L0 := [(6, Iv 0), (7, Iv 0), (8, Pv b10 0), (9, Pv b18 0), (10, Pv b22 0)]) (L1 := []) (undef) [2, 5, 7] [] [0, 1, 3, 4, 6, 8, 9, 10, 11, 12] (fun i => match i with | 2 => [0, 1] | 3 => [2] | 4 => [2] | 5 => [2, 3, 4] | 7 => [5, 6] | 8 => [7] | 9 => [8] | 10 => [8] | 11 => [0, 1, 2, 3, 4, 5, 6, 7, 8, 9] | 12 => [0, 1, 2, 3, 4, 5, 6, 7, 8, 9, 10, 11] | _ => []) (fun i => match i with | 3 => [2] | 4 => [2] | 5 => [2] | 7 => [2, 5] | 8 => [2, 5, 7] | 9 => [2, 5, 7] | 10 => [2, 5, 7] | 11 => [2, 5, 7] | 12 => [2, 5, 7] | _ => []) (fun i => match i with | 0 => [2, 5, 7] | 1 => [2, 5, 7] | 2 => [5, 7] | 3 => [5, 7] | 4 => [5, 7] | 5 => [7] | 6 => [7] | _ => []) (fun _ => []) (fun i => match i with | 2 => [3, 4, 5, 7, 8, 9, 10, 11, 12] | 5 => [7, 8, 9, 10, 11, 12] | 7 => [8, 9, 10, 11, 12] | _ => []) (fun _ => []) (fun i => match i with | 3 => 1 | 4 => 1 | 5 => 1 | 7 => 2 | 8 => 3 | 9 => 3 | 10 => 3 | 11 => 3 | 12 => 3 | _ => 0) (fun i => match i with | 2 => 1 | 3 => 1 | 4 => 1 | 5 => 2 | 6 => 2 | 7 => 3 | 8 => 3 | 9 => 3 | 10 => 3 | 11 => 3 | 12 => 3 | _ => 0) (fun (g : Value) j => match j with | 0 => .agg #[Bv x19.1, s20] | 1 => .agg #[Bv x19.1, s20] | 2 => .tuple #[.agg #[Bv x23.1, g], Iv x23.2.2] | 3 => .agg #[Bv x23.1, g] | 4 => Iv x23.2.2 | 5 => .agg #[Bv x23.1, g] | 6 => .agg #[Bv x15.1, s16] | 7 => .tuple #[Iv x26.1, Iv x26.2] | 8 => .tuple #[Iv x26.1, Iv x26.2] | 9 => Iv x26.1 | 10 => Iv x26.2 | 11 => Iv x26.1 | 12 => Iv x26.2 | _ => undef) (fun k s (g : Value) w => match k with | 0 => St w0 w noX [] [pt b22 (Cs #[Bv x19.1, s20] 39), pt b10 (Cs #[Iv x21] 67), slE 98 1 E98 s20 x19.2.1, pt b18 (Cs #[Bv x15.1, s16] 39), slE 98 1 E98 s16 x15.2.1, slE 98 1 E98 s14 x13.2.1, slE 98 1 E98 s12 x11.2.1] | 1 => St w0 w noX [] [slE 98 1 E98 g x23.2.1, pt b22 (Cs #[Bv x19.1, s20] 39), pt b10 (Cs #[Iv x21] 67), slE 98 1 E98 s20 x19.2.1, pt b18 (Cs #[Bv x15.1, s16] 39), slE 98 1 E98 s16 x15.2.1, slE 98 1 E98 s14 x13.2.1, slE 98 1 E98 s12 x11.2.1] | 2 => St w0 w noX [] [pt b10 (Cs #[Iv x25] 67), slE 98 1 E98 g x23.2.1, pt b22 (Cs #[Bv x19.1, s20] 39), slE 98 1 E98 s20 x19.2.1, pt b18 (Cs #[Bv x15.1, s16] 39), slE 98 1 E98 s16 x15.2.1, slE 98 1 E98 s14 x13.2.1, slE 98 1 E98 s12 x11.2.1] | _ => St w0 w noX [] [pt b10 (Cs #[Iv x25] 67), slE 98 1 E98 g x23.2.1, pt b22 (Cs #[Bv x19.1, s20] 39), slE 98 1 E98 s20 x19.2.1, pt b18 (Cs #[Bv x15.1, s16] 39), slE 98 1 E98 s16 x15.2.1, slE 98 1 E98 s14 x13.2.1, slE 98 1 E98 s12 x11.2.1]) P_mixed (by kernel_rfl) (by kernel_rfl) (by kernel_rfl) hf hf1 hS.drew ?_ ?_ ?_ ?_
  ·clear hf hf1 hS
   refine ⟨?_, ?_, fun k s g w _ _ _ hD a hf => Q.val (v := .agg #[Bv x23.1, g]) rfl rfl rfl hD hf (RunV.extract rfl rfl), fun k s g w _ _ _ hD a hf => Q.val (v := Iv x23.2.2) rfl rfl rfl hD hf (RunV.extract rfl rfl), ?_, fun k s g w _ _ _ hD a hf => Q.val (v := .tuple #[Iv x26.1, Iv x26.2]) rfl rfl rfl hD hf (RunV.move rfl), fun k s g w _ _ _ hD a hf => Q.val (v := Iv x26.1) rfl rfl rfl hD hf (RunV.extract rfl rfl), fun k s g w _ _ _ hD a hf => Q.val (v := Iv x26.2) rfl rfl rfl hD hf (RunV.extract rfl rfl), fun k s g w _ _ _ hD a hf => Q.val (v := Iv x26.1) rfl rfl rfl hD hf (RunV.assign rfl), fun k s g w _ _ _ hD a hf => Q.val (v := Iv x26.2) rfl rfl rfl hD hf (RunV.assign rfl), trivial⟩
   ·intro k s s24 w h1_ h2_ hsp hD a hf
    rcases k with _ | k
    ·have hS : St w0 w noX [] [pt b22 (Cs #[Bv x19.1, s20] 39), pt b10 (Cs #[Iv x21] 67), slE 98 1 E98 s20 x19.2.1, pt b18 (Cs #[Bv x15.1, s16] 39), slE 98 1 E98 s16 x15.2.1, slE 98 1 E98 s14 x13.2.1, slE 98 1 E98 s12 x11.2.1] := hD; clear hD
     replace hf : Fr a 109 [] [(6, Iv 0), (7, Iv 0), (8, Pv b10 0), (9, Pv b18 0), (10, Pv b22 0)] := hf
     exact Q.val (v := .agg #[Bv x19.1, s20]) rfl rfl rfl hS hf (RunV.loadN (cs' := #[Bv x19.1, s20]) T_agg_39 T_size_39 rfl (hS.ptAt (i := 0) rfl) (Nat.le_of_ble_eq_true rfl) rfl)
    ·exact absurd h2_ (by simp)
   ·intro k s s24 w h1_ h2_ hsp hD a hf
    rcases k with _ | k
    ·have hS : St w0 w noX [] [pt b22 (Cs #[Bv x19.1, s20] 39), pt b10 (Cs #[Iv x21] 67), slE 98 1 E98 s20 x19.2.1, pt b18 (Cs #[Bv x15.1, s16] 39), slE 98 1 E98 s16 x15.2.1, slE 98 1 E98 s14 x13.2.1, slE 98 1 E98 s12 x11.2.1] := hD; clear hD
     replace hf : Fr a 109 [] [(6, Iv 0), (7, Iv 0), (8, Pv b10 0), (9, Pv b18 0), (10, Pv b22 0)] := hf
     exact Q.val (v := .agg #[Bv x19.1, s20]) rfl rfl rfl hS hf (RunV.loadN (cs' := #[Bv x19.1, s20]) T_agg_39 T_size_39 rfl (hS.ptAt (i := 0) rfl) (Nat.le_of_ble_eq_true rfl) rfl)
    ·exact absurd h2_ (by simp)
   ·intro k s s24 w h1_ h2_ hsp hD a hf
    rcases k with _ | _ | _ | k
    ·have hS : St w0 w noX [] [pt b22 (Cs #[Bv x19.1, s20] 39), pt b10 (Cs #[Iv x21] 67), slE 98 1 E98 s20 x19.2.1, pt b18 (Cs #[Bv x15.1, s16] 39), slE 98 1 E98 s16 x15.2.1, slE 98 1 E98 s14 x13.2.1, slE 98 1 E98 s12 x11.2.1] := hD; clear hD
     replace hf : Fr a 109 [] [(6, Iv 0), (7, Iv 0), (8, Pv b10 0), (9, Pv b18 0), (10, Pv b22 0)] := hf
     exact Q.val (v := .agg #[Bv x15.1, s16]) rfl rfl rfl hS hf (RunV.loadN (cs' := #[Bv x15.1, s16]) T_agg_39 T_size_39 rfl (hS.ptAt (i := 3) rfl) (Nat.le_of_ble_eq_true rfl) rfl)
    ·have hS : St w0 w noX [] [slE 98 1 E98 s24 x23.2.1, pt b22 (Cs #[Bv x19.1, s20] 39), pt b10 (Cs #[Iv x21] 67), slE 98 1 E98 s20 x19.2.1, pt b18 (Cs #[Bv x15.1, s16] 39), slE 98 1 E98 s16 x15.2.1, slE 98 1 E98 s14 x13.2.1, slE 98 1 E98 s12 x11.2.1] := hD; clear hD
     replace hf : Fr a 109 [] [(6, Iv 0), (7, Iv 0), (8, Pv b10 0), (9, Pv b18 0), (10, Pv b22 0)] := hf
     exact Q.val (v := .agg #[Bv x15.1, s16]) rfl rfl rfl hS hf (RunV.loadN (cs' := #[Bv x15.1, s16]) T_agg_39 T_size_39 rfl (hS.ptAt (i := 4) rfl) (Nat.le_of_ble_eq_true rfl) rfl)
    ·have hS : St w0 w noX [] [pt b10 (Cs #[Iv x25] 67), slE 98 1 E98 s24 x23.2.1, pt b22 (Cs #[Bv x19.1, s20] 39), slE 98 1 E98 s20 x19.2.1, pt b18 (Cs #[Bv x15.1, s16] 39), slE 98 1 E98 s16 x15.2.1, slE 98 1 E98 s14 x13.2.1, slE 98 1 E98 s12 x11.2.1] := hD; clear hD
     replace hf : Fr a 109 [] [(6, Iv 0), (7, Iv 0), (8, Pv b10 0), (9, Pv b18 0), (10, Pv b22 0)] := hf
     exact Q.val (v := .agg #[Bv x15.1, s16]) rfl rfl rfl hS hf (RunV.loadN (cs' := #[Bv x15.1, s16]) T_agg_39 T_size_39 rfl (hS.ptAt (i := 4) rfl) (Nat.le_of_ble_eq_true rfl) rfl)
    ·exact absurd h2_ (by simp)
  ·clear hf hf1 hS
   refine ⟨?_, ?_, ?_, trivial⟩
   ·intro s s24 w hsp hD a hf
    have hS : St w0 w noX [] [pt b22 (Cs #[Bv x19.1, s20] 39), pt b10 (Cs #[Iv x21] 67), slE 98 1 E98 s20 x19.2.1, pt b18 (Cs #[Bv x15.1, s16] 39), slE 98 1 E98 s16 x15.2.1, slE 98 1 E98 s14 x13.2.1, slE 98 1 E98 s12 x11.2.1] := hD; clear hD
    replace hf : Fr a 109 [] [(53, .agg #[Bv x19.1, s20]), (54, .agg #[Bv x19.1, s20]), (6, Iv 0), (7, Iv 0), (8, Pv b10 0), (9, Pv b18 0), (10, Pv b22 0)] := hf
    refine O.callR hf rfl rfl rfl (RunE.call (av := #[.agg #[Bv x19.1, s20], .agg #[Bv x19.1, s20]]) C_ok_29 rfl rfl rfl) (m_wide_Mul_ok F x19.1 s20 x19.2.1 x19.1 s20 x19.2.1 _ (hS.rdS (j := 2) rfl) (hS.rdS (j := 2) rfl) x23 hx23) ?_
    clear hf a; rintro s24 w hS1 a hf
    replace hf : Fr a _ _ ((55, .tuple #[.agg #[Bv x23.1, s24], Iv x23.2.2]) :: _) := hf
    replace hS := (hS.call hS1).eqM (N := [slE 98 1 E98 s24 x23.2.1, pt b22 (Cs #[Bv x19.1, s20] 39), pt b10 (Cs #[Iv x21] 67), slE 98 1 E98 s20 x19.2.1, pt b18 (Cs #[Bv x15.1, s16] 39), slE 98 1 E98 s16 x15.2.1, slE 98 1 E98 s14 x13.2.1, slE 98 1 E98 s12 x11.2.1]) rfl
    clear hS1
    exact O.nil ⟨rfl, s24, hf.to trivial, (fun d hd => by cases (show some 55 = some d from hd); exact hf.get _ _ rfl), (fun j hj hk => match j, hj, hk with | 0, hj, hk => rfl | 1, hj, hk => rfl | 2, hj, hk => absurd rfl hj | 3, hj, hk => absurd hk (by decide) | 4, hj, hk => absurd hk (by decide) | 5, hj, hk => absurd hk (by decide) | 6, hj, hk => rfl | 7, hj, hk => absurd hk (by decide) | 8, hj, hk => absurd hk (by decide) | 9, hj, hk => absurd hk (by decide) | 10, hj, hk => absurd hk (by decide) | 11, hj, hk => absurd hk (by decide) | 12, hj, hk => absurd hk (by decide) | _ + 13, _, _ => rfl), hS⟩
   ·intro s s24 w hsp hD a hf
    have hS : St w0 w noX [] [slE 98 1 E98 s24 x23.2.1, pt b22 (Cs #[Bv x19.1, s20] 39), pt b10 (Cs #[Iv x21] 67), slE 98 1 E98 s20 x19.2.1, pt b18 (Cs #[Bv x15.1, s16] 39), slE 98 1 E98 s16 x15.2.1, slE 98 1 E98 s14 x13.2.1, slE 98 1 E98 s12 x11.2.1] := hD; clear hD
    replace hf : Fr a 109 [] [(55, .tuple #[.agg #[Bv x23.1, s24], Iv x23.2.2]), (56, .agg #[Bv x23.1, s24]), (57, Iv x23.2.2), (6, Iv 0), (7, Iv 0), (8, Pv b10 0), (9, Pv b18 0), (10, Pv b22 0)] := hf
    refine O.callR hf rfl rfl rfl (RunE.call (av := #[Pv b10 0, .agg #[Bv x23.1, s24], Iv x23.2.2]) C_ok_24 rfl rfl rfl) (m_plan_calc_keep_ok F b10 x21 x23.1 s24 x23.2.1 x23.2.2 _ (hS.rdS (j := 0) rfl) (hS.ptAt (i := 2) rfl) (apRd (hS.apMM (i := 2) (j := 0) rfl rfl (by decide))) x25 hx25) ?_
    clear hf a; rintro _ w hS1 a hf
    replace hf : Fr a _ _ ((58, .agg #[Bv x23.1, s24]) :: _) := hf
    replace hS := (hS.callX1 hS1 (i := 2) rfl (fun _ h => h)).eqM (N := [pt b10 (Cs #[Iv x25] 67), slE 98 1 E98 s24 x23.2.1, pt b22 (Cs #[Bv x19.1, s20] 39), slE 98 1 E98 s20 x19.2.1, pt b18 (Cs #[Bv x15.1, s16] 39), slE 98 1 E98 s16 x15.2.1, slE 98 1 E98 s14 x13.2.1, slE 98 1 E98 s12 x11.2.1]) rfl
    clear hS1
    exact O.nil ⟨rfl, s24, hf.to trivial, (fun d hd => by cases (show some 58 = some d from hd); exact hf.get _ _ rfl), (fun _ _ _ => rfl), hS⟩
   ·intro s s24 w hsp hD a hf
    have hS : St w0 w noX [] [pt b10 (Cs #[Iv x25] 67), slE 98 1 E98 s24 x23.2.1, pt b22 (Cs #[Bv x19.1, s20] 39), slE 98 1 E98 s20 x19.2.1, pt b18 (Cs #[Bv x15.1, s16] 39), slE 98 1 E98 s16 x15.2.1, slE 98 1 E98 s14 x13.2.1, slE 98 1 E98 s12 x11.2.1] := hD; clear hD
    replace hf : Fr a 109 [] [(58, .agg #[Bv x23.1, s24]), (59, .agg #[Bv x15.1, s16]), (6, Iv 0), (7, Iv 0), (8, Pv b10 0), (9, Pv b18 0), (10, Pv b22 0)] := hf
    refine O.callR hf rfl rfl rfl (RunE.call (av := #[.agg #[Bv x23.1, s24], .agg #[Bv x15.1, s16]]) C_ok_28 rfl rfl rfl) (m_wide_Cmp_ok F x23.1 s24 x23.2.1 x15.1 s16 x15.2.1 _ (hS.rdS (j := 1) rfl) (hS.rdS (j := 5) rfl) x26 hx26) ?_
    clear hf a; rintro _ w hS1 a hf
    replace hf : Fr a _ _ ((60, .tuple #[Iv x26.1, Iv x26.2]) :: _) := hf
    replace hS := (hS.call hS1).eqM (N := [pt b10 (Cs #[Iv x25] 67), slE 98 1 E98 s24 x23.2.1, pt b22 (Cs #[Bv x19.1, s20] 39), slE 98 1 E98 s20 x19.2.1, pt b18 (Cs #[Bv x15.1, s16] 39), slE 98 1 E98 s16 x15.2.1, slE 98 1 E98 s14 x13.2.1, slE 98 1 E98 s12 x11.2.1]) rfl
    clear hS1
    exact O.nil ⟨rfl, s24, hf.to trivial, (fun d hd => by cases (show some 60 = some d from hd); exact hf.get _ _ rfl), (fun _ _ _ => rfl), hS⟩
  ·clear hf hf1 hS
   exact trivial
  clear hf hf1 hS; intro s s24 a w hs hf hD
  have hS : St w0 w noX [] [pt b10 (Cs #[Iv x25] 67), slE 98 1 E98 s24 x23.2.1, pt b22 (Cs #[Bv x19.1, s20] 39), slE 98 1 E98 s20 x19.2.1, pt b18 (Cs #[Bv x15.1, s16] 39), slE 98 1 E98 s16 x15.2.1, slE 98 1 E98 s14 x13.2.1, slE 98 1 E98 s12 x11.2.1] := hD; clear hD
  replace hf : Fr a 109 [] [(53, .agg #[Bv x19.1, s20]), (54, .agg #[Bv x19.1, s20]), (55, .tuple #[.agg #[Bv x23.1, s24], Iv x23.2.2]), (56, .agg #[Bv x23.1, s24]), (57, Iv x23.2.2), (58, .agg #[Bv x23.1, s24]), (59, .agg #[Bv x15.1, s16]), (60, .tuple #[Iv x26.1, Iv x26.2]), (52, .tuple #[Iv x26.1, Iv x26.2]), (61, Iv x26.1), (62, Iv x26.2), (11, Iv x26.1), (12, Iv x26.2), (6, Iv 0), (7, Iv 0), (8, Pv b10 0), (9, Pv b18 0), (10, Pv b22 0)] := hf
  refine k_seq ?_
  replace hf : Fr a 109 [] [(6, Iv 0), (7, Iv 0), (8, Pv b10 0), (10, Pv b22 0), (11, Iv x26.1), (12, Iv x26.2)] := hf.to ⟨rfl, rfl, rfl, rfl, rfl, rfl, trivial⟩
  refine W.seq ?_
  refine W.regionL (l := [0, 1, 2]) rfl ?_
  refine O.val (v := .agg #[Bv false, .slice none 0 0]) hf rfl rfl rfl (RunV.buildS (cs' := #[Bv false, .slice none 0 0]) T_places_39 T_zero_39 rfl (by kernel_rfl)) ?_; clear hf a; intro a hf
  refine O.val hf rfl rfl rfl (RunV.move rfl) ?_; clear hf a; intro a hf
  obtain ⟨x27, hx27, hm⟩ := hm_b hm
  refine O.callR hf rfl rfl rfl (RunE.call (av := #[Pv b10 0, .agg #[Bv false, .slice none 0 0], Iv x26.2]) C_ok_24 rfl rfl rfl) (m_plan_calc_keep_ok F b10 x25 false (.slice none 0 0) ([] : List Int) x26.2 _ rdEOK_nil (hS.ptAt (i := 0) rfl) (fun k hk => absurd hk.1 (Nat.lt_irrefl 0)) x27 hx27) ?_
  clear hf a; rintro _ w hS1 a hf
  replace hf : Fr a _ _ ((65, .agg #[Bv false, .slice none 0 0]) :: _) := hf
  replace hS := (hS.callX1 hS1 (i := 0) rfl (fun _ h => h)).eqM (N := [pt b10 (Cs #[Iv x27] 67), slE 98 1 E98 s24 x23.2.1, pt b22 (Cs #[Bv x19.1, s20] 39), slE 98 1 E98 s20 x19.2.1, pt b18 (Cs #[Bv x15.1, s16] 39), slE 98 1 E98 s16 x15.2.1, slE 98 1 E98 s14 x13.2.1, slE 98 1 E98 s12 x11.2.1]) rfl
  clear hS1
  refine O.nil ?_
  refine k_seq ?_
  replace hf : Fr a 109 [] [(6, Iv 0), (7, Iv 0), (8, Pv b10 0), (10, Pv b22 0), (11, Iv x26.1), (12, Iv x26.2)] := hf.to ⟨rfl, rfl, rfl, rfl, rfl, rfl, trivial⟩
  refine W.seqR (fun a w => ∃ (x28 : Int) (x29 : Bool) (s30 : Value) (x31 : List Int), Fr a 109 [] [(6, Iv 0), (7, Iv 0), (8, Pv b10 0), (10, Pv b22 0), (12, Iv x26.2)] ∧ St w0 w noX [] [pt b10 (Cs #[Iv x28] 67), slE 98 1 E98 s30 x31, pt b22 (Cs #[Bv x29, s30] 39)] ∧ m_plan_Spread_j2 F x28 x29 x31 = some r) ?_ ?_
  ·refine W.seq ?_
   refine W.regionL (l := [0, 1]) rfl ?_
   refine O.val hf rfl rfl rfl (RunV.move rfl) ?_; clear hf a; intro a hf
   refine O.val (v := Bv (decide (x26.1 < (0 : Int)))) hf rfl rfl rfl (RunV.lss rfl rfl) ?_; clear hf a; intro a hf
   refine O.nil ?_
   refine k_seq ?_
   replace hf : Fr a 109 [] [(6, Iv 0), (7, Iv 0), (8, Pv b10 0), (10, Pv b22 0), (12, Iv x26.2), (67, Bv (decide (x26.1 < (0 : Int))))] := hf.to ⟨rfl, rfl, rfl, rfl, rfl, rfl, trivial⟩
   refine W.ifdI hf rfl (fun hc54 => ?_) (fun hc54 => ?_)
   ·replace hm := hm_p hm hc54
    have hf1 : Fr a 109 [] [] := hf.to trivial
    replace hf : Fr a 109 [] [(6, Iv 0), (7, Iv 0), (8, Pv b10 0), (10, Pv b22 0), (12, Iv x26.2), (67, Bv (decide (x26.1 < (0 : Int))))] := hf.to ⟨rfl, rfl, rfl, rfl, rfl, rfl, trivial⟩
    obtain ⟨x55, hx55, hm⟩ := hm_b hm
    obtain ⟨x57, hx57, hm⟩ := hm_b hm
    obtain ⟨x59, hx59, hm⟩ := hm_b hm
    refine W.drawC (γ := Value × Value) (L0 := [(6, Iv 0), (7, Iv 0), (8, Pv b10 0), (10, Pv b22 0), (12, Iv x26.2), (67, Bv (decide (x26.1 < (0 : Int))))]) (L1 := []) (undef, undef) [1, 2, 5, 6] [] [0, 3, 4] (fun i => match i with | 2 => [0, 1] | 3 => [2] | 4 => [2] | 5 => [2, 3, 4] | 6 => [0, 1, 2, 3, 4, 5] | _ => []) (fun i => match i with | 2 => [1] | 3 => [1, 2] | 4 => [1, 2] | 5 => [1, 2] | 6 => [1, 2, 5] | _ => []) (fun i => match i with | 0 => [2, 5, 6] | 1 => [2, 5, 6] | 2 => [5, 6] | 3 => [5, 6] | 4 => [5, 6] | 5 => [6] | _ => []) (fun _ => []) (fun i => match i with | 1 => [2, 3, 4, 5, 6] | 2 => [3, 4, 5, 6] | 5 => [6] | _ => []) (fun _ => []) (fun i => match i with | 2 => 1 | 3 => 2 | 4 => 2 | 5 => 2 | 6 => 3 | _ => 0) (fun i => match i with | 0 => 1 | 1 => 1 | 2 => 2 | 3 => 2 | 4 => 2 | 5 => 3 | 6 => 4 | _ => 0) (fun (g : Value × Value) j => match j with | 0 => .agg #[Bv x19.1, s20] | 1 => .agg #[Bv x55.1, g.1] | 2 => .tuple #[.agg #[Bv x57.1, g.2], Iv x57.2.2] | 3 => .agg #[Bv x57.1, g.2] | 4 => Iv x57.2.2 | 5 => .agg #[Bv x57.1, g.2] | _ => undef) (fun k s (g : Value × Value) w => match k with | 0 => St w0 w noX [] [pt b10 (Cs #[Iv x27] 67), slE 98 1 E98 s24 x23.2.1, pt b22 (Cs #[Bv x19.1, s20] 39), slE 98 1 E98 s20 x19.2.1, pt b18 (Cs #[Bv x15.1, s16] 39), slE 98 1 E98 s16 x15.2.1, slE 98 1 E98 s14 x13.2.1, slE 98 1 E98 s12 x11.2.1] | 1 => St w0 w noX [] [slE 98 1 E98 g.1 x55.2, pt b10 (Cs #[Iv x27] 67), slE 98 1 E98 s24 x23.2.1, pt b22 (Cs #[Bv x19.1, s20] 39), slE 98 1 E98 s20 x19.2.1, pt b18 (Cs #[Bv x15.1, s16] 39), slE 98 1 E98 s16 x15.2.1, slE 98 1 E98 s14 x13.2.1, slE 98 1 E98 s12 x11.2.1] | 2 => St w0 w noX [] [slE 98 1 E98 g.2 x57.2.1, slE 98 1 E98 g.1 x55.2, pt b10 (Cs #[Iv x27] 67), slE 98 1 E98 s24 x23.2.1, pt b22 (Cs #[Bv x19.1, s20] 39), slE 98 1 E98 s20 x19.2.1, pt b18 (Cs #[Bv x15.1, s16] 39), slE 98 1 E98 s16 x15.2.1, slE 98 1 E98 s14 x13.2.1, slE 98 1 E98 s12 x11.2.1] | 3 => St w0 w noX [] [pt b10 (Cs #[Iv x59] 67), slE 98 1 E98 g.2 x57.2.1, slE 98 1 E98 g.1 x55.2, slE 98 1 E98 s24 x23.2.1, pt b22 (Cs #[Bv x19.1, s20] 39), slE 98 1 E98 s20 x19.2.1, pt b18 (Cs #[Bv x15.1, s16] 39), slE 98 1 E98 s16 x15.2.1, slE 98 1 E98 s14 x13.2.1, slE 98 1 E98 s12 x11.2.1] | _ => St w0 w noX [] [pt b10 (Cs #[Iv x59] 67), slE 98 1 E98 g.2 x57.2.1, slE 98 1 E98 g.1 x55.2, slE 98 1 E98 s24 x23.2.1, pt b22 (Cs #[Bv x57.1, g.2] 39), slE 98 1 E98 s20 x19.2.1, pt b18 (Cs #[Bv x15.1, s16] 39), slE 98 1 E98 s16 x15.2.1, slE 98 1 E98 s14 x13.2.1, slE 98 1 E98 s12 x11.2.1]) P_mixed (by kernel_rfl) (by kernel_rfl) (by kernel_rfl) hf hf1 hS.drew ?_ ?_ ?_ ?_
    ·clear hf hf1 hS
     refine ⟨?_, fun k s g w _ _ _ hD a hf => Q.val (v := .agg #[Bv x57.1, g.2]) rfl rfl rfl hD hf (RunV.extract rfl rfl), fun k s g w _ _ _ hD a hf => Q.val (v := Iv x57.2.2) rfl rfl rfl hD hf (RunV.extract rfl rfl), trivial⟩
     ·intro k s g w h1_ h2_ hsp hD a hf
      obtain ⟨s56, s58⟩ := g
      rcases k with _ | _ | k
      ·have hS : St w0 w noX [] [pt b10 (Cs #[Iv x27] 67), slE 98 1 E98 s24 x23.2.1, pt b22 (Cs #[Bv x19.1, s20] 39), slE 98 1 E98 s20 x19.2.1, pt b18 (Cs #[Bv x15.1, s16] 39), slE 98 1 E98 s16 x15.2.1, slE 98 1 E98 s14 x13.2.1, slE 98 1 E98 s12 x11.2.1] := hD; clear hD
       replace hf : Fr a 109 [] [(6, Iv 0), (7, Iv 0), (8, Pv b10 0), (10, Pv b22 0), (12, Iv x26.2), (67, Bv (decide (x26.1 < (0 : Int))))] := hf
       exact Q.val (v := .agg #[Bv x19.1, s20]) rfl rfl rfl hS hf (RunV.loadN (cs' := #[Bv x19.1, s20]) T_agg_39 T_size_39 rfl (hS.ptAt (i := 2) rfl) (Nat.le_of_ble_eq_true rfl) rfl)
      ·have hS : St w0 w noX [] [slE 98 1 E98 s56 x55.2, pt b10 (Cs #[Iv x27] 67), slE 98 1 E98 s24 x23.2.1, pt b22 (Cs #[Bv x19.1, s20] 39), slE 98 1 E98 s20 x19.2.1, pt b18 (Cs #[Bv x15.1, s16] 39), slE 98 1 E98 s16 x15.2.1, slE 98 1 E98 s14 x13.2.1, slE 98 1 E98 s12 x11.2.1] := hD; clear hD
       replace hf : Fr a 109 [] [(6, Iv 0), (7, Iv 0), (8, Pv b10 0), (10, Pv b22 0), (12, Iv x26.2), (67, Bv (decide (x26.1 < (0 : Int))))] := hf
       exact Q.val (v := .agg #[Bv x19.1, s20]) rfl rfl rfl hS hf (RunV.loadN (cs' := #[Bv x19.1, s20]) T_agg_39 T_size_39 rfl (hS.ptAt (i := 3) rfl) (Nat.le_of_ble_eq_true rfl) rfl)
      ·exact absurd h2_ (by simp)
    ·clear hf hf1 hS
     refine ⟨?_, ?_, ?_, ?_, trivial⟩
     ·intro s g w hsp hD a hf
      obtain ⟨s56, s58⟩ := g
      have hS : St w0 w noX [] [pt b10 (Cs #[Iv x27] 67), slE 98 1 E98 s24 x23.2.1, pt b22 (Cs #[Bv x19.1, s20] 39), slE 98 1 E98 s20 x19.2.1, pt b18 (Cs #[Bv x15.1, s16] 39), slE 98 1 E98 s16 x15.2.1, slE 98 1 E98 s14 x13.2.1, slE 98 1 E98 s12 x11.2.1] := hD; clear hD
      replace hf : Fr a 109 [] [(6, Iv 0), (7, Iv 0), (8, Pv b10 0), (10, Pv b22 0), (12, Iv x26.2), (67, Bv (decide (x26.1 < (0 : Int))))] := hf
      refine O.callR hf rfl rfl rfl (RunE.call (av := #[Iv 1]) C_ok_30 rfl rfl rfl) (m_wide_From_ok F 1 _ x55 hx55) ?_
      clear hf a; rintro s56 w hS1 a hf
      replace hf : Fr a _ _ ((69, .agg #[Bv x55.1, s56]) :: _) := hf
      replace hS := (hS.call hS1).eqM (N := [slE 98 1 E98 s56 x55.2, pt b10 (Cs #[Iv x27] 67), slE 98 1 E98 s24 x23.2.1, pt b22 (Cs #[Bv x19.1, s20] 39), slE 98 1 E98 s20 x19.2.1, pt b18 (Cs #[Bv x15.1, s16] 39), slE 98 1 E98 s16 x15.2.1, slE 98 1 E98 s14 x13.2.1, slE 98 1 E98 s12 x11.2.1]) rfl
      clear hS1
      exact O.nil ⟨rfl, (s56, s58), hf.to trivial, (fun d hd => by cases (show some 69 = some d from hd); exact hf.get _ _ rfl), (fun j hj hk => match j, hj, hk with | 0, hj, hk => rfl | 1, hj, hk => absurd rfl hj | 2, hj, hk => absurd hk (by decide) | 3, hj, hk => absurd hk (by decide) | 4, hj, hk => absurd hk (by decide) | 5, hj, hk => absurd hk (by decide) | 6, hj, hk => absurd hk (by decide) | _ + 7, _, _ => rfl), hS⟩
     ·intro s g w hsp hD a hf
      obtain ⟨s56, s58⟩ := g
      have hS : St w0 w noX [] [slE 98 1 E98 s56 x55.2, pt b10 (Cs #[Iv x27] 67), slE 98 1 E98 s24 x23.2.1, pt b22 (Cs #[Bv x19.1, s20] 39), slE 98 1 E98 s20 x19.2.1, pt b18 (Cs #[Bv x15.1, s16] 39), slE 98 1 E98 s16 x15.2.1, slE 98 1 E98 s14 x13.2.1, slE 98 1 E98 s12 x11.2.1] := hD; clear hD
      replace hf : Fr a 109 [] [(68, .agg #[Bv x19.1, s20]), (69, .agg #[Bv x55.1, s56]), (6, Iv 0), (7, Iv 0), (8, Pv b10 0), (10, Pv b22 0), (12, Iv x26.2), (67, Bv (decide (x26.1 < (0 : Int))))] := hf
      refine O.callR hf rfl rfl rfl (RunE.call (av := #[.agg #[Bv x19.1, s20], .agg #[Bv x55.1, s56]]) C_ok_25 rfl rfl rfl) (m_wide_Add_ok F x19.1 s20 x19.2.1 x55.1 s56 x55.2 _ (hS.rdS (j := 4) rfl) (hS.rdS (j := 0) rfl) x57 hx57) ?_
      clear hf a; rintro s58 w hS1 a hf
      replace hf : Fr a _ _ ((70, .tuple #[.agg #[Bv x57.1, s58], Iv x57.2.2]) :: _) := hf
      replace hS := (hS.call hS1).eqM (N := [slE 98 1 E98 s58 x57.2.1, slE 98 1 E98 s56 x55.2, pt b10 (Cs #[Iv x27] 67), slE 98 1 E98 s24 x23.2.1, pt b22 (Cs #[Bv x19.1, s20] 39), slE 98 1 E98 s20 x19.2.1, pt b18 (Cs #[Bv x15.1, s16] 39), slE 98 1 E98 s16 x15.2.1, slE 98 1 E98 s14 x13.2.1, slE 98 1 E98 s12 x11.2.1]) rfl
      clear hS1
      exact O.nil ⟨rfl, (s56, s58), hf.to trivial, (fun d hd => by cases (show some 70 = some d from hd); exact hf.get _ _ rfl), (fun j hj hk => match j, hj, hk with | 0, hj, hk => rfl | 1, hj, hk => rfl | 2, hj, hk => absurd rfl hj | 3, hj, hk => absurd hk (by decide) | 4, hj, hk => absurd hk (by decide) | 5, hj, hk => absurd hk (by decide) | 6, hj, hk => absurd hk (by decide) | _ + 7, _, _ => rfl), hS⟩
     ·intro s g w hsp hD a hf
      obtain ⟨s56, s58⟩ := g
      have hS : St w0 w noX [] [slE 98 1 E98 s58 x57.2.1, slE 98 1 E98 s56 x55.2, pt b10 (Cs #[Iv x27] 67), slE 98 1 E98 s24 x23.2.1, pt b22 (Cs #[Bv x19.1, s20] 39), slE 98 1 E98 s20 x19.2.1, pt b18 (Cs #[Bv x15.1, s16] 39), slE 98 1 E98 s16 x15.2.1, slE 98 1 E98 s14 x13.2.1, slE 98 1 E98 s12 x11.2.1] := hD; clear hD
      replace hf : Fr a 109 [] [(70, .tuple #[.agg #[Bv x57.1, s58], Iv x57.2.2]), (71, .agg #[Bv x57.1, s58]), (72, Iv x57.2.2), (6, Iv 0), (7, Iv 0), (8, Pv b10 0), (10, Pv b22 0), (12, Iv x26.2), (67, Bv (decide (x26.1 < (0 : Int))))] := hf
      refine O.callR hf rfl rfl rfl (RunE.call (av := #[Pv b10 0, .agg #[Bv x57.1, s58], Iv x57.2.2]) C_ok_24 rfl rfl rfl) (m_plan_calc_keep_ok F b10 x27 x57.1 s58 x57.2.1 x57.2.2 _ (hS.rdS (j := 0) rfl) (hS.ptAt (i := 2) rfl) (apRd (hS.apMM (i := 2) (j := 0) rfl rfl (by decide))) x59 hx59) ?_
      clear hf a; rintro _ w hS1 a hf
      replace hf : Fr a _ _ ((73, .agg #[Bv x57.1, s58]) :: _) := hf
      replace hS := (hS.callX1 hS1 (i := 2) rfl (fun _ h => h)).eqM (N := [pt b10 (Cs #[Iv x59] 67), slE 98 1 E98 s58 x57.2.1, slE 98 1 E98 s56 x55.2, slE 98 1 E98 s24 x23.2.1, pt b22 (Cs #[Bv x19.1, s20] 39), slE 98 1 E98 s20 x19.2.1, pt b18 (Cs #[Bv x15.1, s16] 39), slE 98 1 E98 s16 x15.2.1, slE 98 1 E98 s14 x13.2.1, slE 98 1 E98 s12 x11.2.1]) rfl
      clear hS1
      exact O.nil ⟨rfl, (s56, s58), hf.to trivial, (fun d hd => by cases (show some 73 = some d from hd); exact hf.get _ _ rfl), (fun _ _ _ => rfl), hS⟩
     ·intro s g w hsp hD a hf
      obtain ⟨s56, s58⟩ := g
      have hS : St w0 w noX [] [pt b10 (Cs #[Iv x59] 67), slE 98 1 E98 s58 x57.2.1, slE 98 1 E98 s56 x55.2, slE 98 1 E98 s24 x23.2.1, pt b22 (Cs #[Bv x19.1, s20] 39), slE 98 1 E98 s20 x19.2.1, pt b18 (Cs #[Bv x15.1, s16] 39), slE 98 1 E98 s16 x15.2.1, slE 98 1 E98 s14 x13.2.1, slE 98 1 E98 s12 x11.2.1] := hD; clear hD
      replace hf : Fr a 109 [] [(68, .agg #[Bv x19.1, s20]), (69, .agg #[Bv x55.1, s56]), (70, .tuple #[.agg #[Bv x57.1, s58], Iv x57.2.2]), (71, .agg #[Bv x57.1, s58]), (72, Iv x57.2.2), (73, .agg #[Bv x57.1, s58]), (6, Iv 0), (7, Iv 0), (8, Pv b10 0), (10, Pv b22 0), (12, Iv x26.2), (67, Bv (decide (x26.1 < (0 : Int))))] := hf
      refine O.store (j := 4) (cs' := #[Bv x57.1, s58]) (M' := [pt b10 (Cs #[Iv x59] 67), slE 98 1 E98 s58 x57.2.1, slE 98 1 E98 s56 x55.2, slE 98 1 E98 s24 x23.2.1, pt b22 (Cs #[Bv x57.1, s58] 39), slE 98 1 E98 s20 x19.2.1, pt b18 (Cs #[Bv x15.1, s16] 39), slE 98 1 E98 s16 x15.2.1, slE 98 1 E98 s14 x13.2.1, slE 98 1 E98 s12 x11.2.1]) hf hS rfl rfl rfl T_size_39 rfl (oneCells_cc rfl (oneCells_cc (rdEOK_one (hS.rdS (j := 1) rfl)) rfl)) rfl (Nat.le_of_ble_eq_true rfl) rfl rfl ?_
      clear hS; intro w hS
      exact O.nil ⟨rfl, (s56, s58), hf.to trivial, (fun d hd => by cases (show none = some d from hd)), (fun _ _ _ => rfl), hS⟩
    ·clear hf hf1 hS
     exact trivial
    clear hf hf1 hS; intro s g a w hs hf hD
    obtain ⟨s56, s58⟩ := g
    have hS : St w0 w noX [] [pt b10 (Cs #[Iv x59] 67), slE 98 1 E98 s58 x57.2.1, slE 98 1 E98 s56 x55.2, slE 98 1 E98 s24 x23.2.1, pt b22 (Cs #[Bv x57.1, s58] 39), slE 98 1 E98 s20 x19.2.1, pt b18 (Cs #[Bv x15.1, s16] 39), slE 98 1 E98 s16 x15.2.1, slE 98 1 E98 s14 x13.2.1, slE 98 1 E98 s12 x11.2.1] := hD; clear hD
    replace hf : Fr a 109 [] [(68, .agg #[Bv x19.1, s20]), (69, .agg #[Bv x55.1, s56]), (70, .tuple #[.agg #[Bv x57.1, s58], Iv x57.2.2]), (71, .agg #[Bv x57.1, s58]), (72, Iv x57.2.2), (73, .agg #[Bv x57.1, s58]), (6, Iv 0), (7, Iv 0), (8, Pv b10 0), (10, Pv b22 0), (12, Iv x26.2), (67, Bv (decide (x26.1 < (0 : Int))))] := hf
    replace hS := hS.sub (N := [pt b10 (Cs #[Iv x59] 67), slE 98 1 E98 s58 x57.2.1, pt b22 (Cs #[Bv x57.1, s58] 39)]) (.cons_cons _ (.cons_cons _ (.cons _ (.cons _ (.cons_cons _ (.cons _ (.cons _ (.cons _ (.cons _ (.cons _ .slnil))))))))))
    exact k_then ⟨x59, x57.1, s58, x57.2.1, hf.to ⟨rfl, rfl, rfl, rfl, rfl, trivial⟩, hS, hm⟩
   ·replace hm := hm_n hm hc54
    refine W.skip ?_
    replace hS := hS.front (i := 2) (M' := [pt b22 (Cs #[Bv x19.1, s20] 39), pt b10 (Cs #[Iv x27] 67), slE 98 1 E98 s24 x23.2.1, slE 98 1 E98 s20 x19.2.1, pt b18 (Cs #[Bv x15.1, s16] 39), slE 98 1 E98 s16 x15.2.1, slE 98 1 E98 s14 x13.2.1, slE 98 1 E98 s12 x11.2.1]) rfl rfl
    replace hS := hS.front (i := 3) (M' := [slE 98 1 E98 s20 x19.2.1, pt b22 (Cs #[Bv x19.1, s20] 39), pt b10 (Cs #[Iv x27] 67), slE 98 1 E98 s24 x23.2.1, pt b18 (Cs #[Bv x15.1, s16] 39), slE 98 1 E98 s16 x15.2.1, slE 98 1 E98 s14 x13.2.1, slE 98 1 E98 s12 x11.2.1]) rfl rfl
    replace hS := hS.front (i := 2) (M' := [pt b10 (Cs #[Iv x27] 67), slE 98 1 E98 s20 x19.2.1, pt b22 (Cs #[Bv x19.1, s20] 39), slE 98 1 E98 s24 x23.2.1, pt b18 (Cs #[Bv x15.1, s16] 39), slE 98 1 E98 s16 x15.2.1, slE 98 1 E98 s14 x13.2.1, slE 98 1 E98 s12 x11.2.1]) rfl rfl
    replace hS := hS.sub (N := [pt b10 (Cs #[Iv x27] 67), slE 98 1 E98 s20 x19.2.1, pt b22 (Cs #[Bv x19.1, s20] 39)]) (.cons_cons _ (.cons_cons _ (.cons_cons _ (.cons _ (.cons _ (.cons _ (.cons _ (.cons _ .slnil))))))))
    exact k_then ⟨x27, x19.1, s20, x19.2.1, hf.to ⟨rfl, rfl, rfl, rfl, rfl, trivial⟩, hS, hm⟩
  ·clear hf hS hm a; try clear w
   rintro a w ⟨x28, x29, s30, x31, hf, hS, hm⟩
   unfold m_plan_Spread_j2 at hm
   refine W.seq ?_
   have hf1 : Fr a 109 [] [(12, Iv x26.2)] := hf.to ⟨rfl, trivial⟩
   replace hf : Fr a 109 [] [(6, Iv 0), (7, Iv 0), (8, Pv b10 0), (10, Pv b22 0)] := hf.to ⟨rfl, rfl, rfl, rfl, trivial⟩
   obtain ⟨x32, hx32, hm⟩ := hm_b hm
   obtain ⟨x34, hx34, hm⟩ := hm_b hm
   replace hS := hS.drew
   replace hS := hS.emp
   replace hS := hS.emp
   refine W.drawC (γ := Nat × Nat × Value × Value × Value) (L0 := [(6, Iv 0), (7, Iv 0), (8, Pv b10 0), (10, Pv b22 0)]) (L1 := [(12, Iv x26.2)]) (0, 0, undef, undef, undef) [1, 2, 9, 10] [7, 8] [0, 3, 4, 5, 6, 11] (fun i => match i with | 2 => [0, 1] | 3 => [2] | 4 => [3] | 5 => [3] | 6 => [3] | 9 => [0, 1, 2, 3, 4, 7, 8] | 10 => [0, 1, 2, 3, 4, 5, 7, 8, 9] | 11 => [0, 1, 2, 3, 4, 5, 6, 7, 8, 9, 10] | _ => []) (fun i => match i with | 2 => [1] | 3 => [1, 2] | 4 => [1, 2] | 5 => [1, 2] | 6 => [1, 2] | 9 => [1, 2, 7, 8] | 10 => [1, 2, 9, 7, 8] | 11 => [1, 2, 9, 10, 7, 8] | _ => []) (fun i => match i with | 0 => [2, 9, 10] | 1 => [2, 9, 10] | 2 => [9, 10] | 3 => [9, 10] | 4 => [9, 10] | 5 => [10] | 7 => [9, 10] | 8 => [9, 10] | 9 => [10] | _ => []) (fun i => match i with | 9 => [7, 8] | 10 => [7, 8] | 11 => [7, 8] | _ => []) (fun i => match i with | 1 => [2, 3, 4, 5, 6, 9, 10, 11] | 2 => [3, 4, 5, 6, 9, 10, 11] | 7 => [9, 10, 11] | 8 => [9, 10, 11] | 9 => [10, 11] | 10 => [11] | _ => []) (fun _ => []) (fun i => match i with | 2 => 1 | 3 => 2 | 4 => 2 | 5 => 2 | 6 => 2 | 9 => 2 | 10 => 3 | 11 => 4 | _ => 0) (fun i => match i with | 0 => 1 | 1 => 1 | 2 => 2 | 3 => 2 | 4 => 2 | 5 => 3 | 6 => 4 | 7 => 2 | 8 => 2 | 9 => 3 | 10 => 4 | 11 => 4 | _ => 0) (fun (g : Nat × Nat × Value × Value × Value) j => match j with | 0 => .agg #[Bv x29, s30] | 1 => .agg #[Bv x32.1, g.2.2.1] | 2 => .tuple #[.agg #[Bv x34.1, g.2.2.2.1], .agg #[Bv x34.2.2.1, g.2.2.2.2], Iv x34.2.2.2.2] | 3 => .tuple #[.agg #[Bv x34.1, g.2.2.2.1], .agg #[Bv x34.2.2.1, g.2.2.2.2], Iv x34.2.2.2.2] | 4 => .agg #[Bv x34.1, g.2.2.2.1] | 5 => .agg #[Bv x34.2.2.1, g.2.2.2.2] | 6 => Iv x34.2.2.2.2 | 7 => Pv g.1 0 | 8 => Pv g.2.1 0 | 11 => Iv x34.2.2.2.2 | _ => undef) (fun k s (g : Nat × Nat × Value × Value × Value) w => match k with | 0 => St w0 w noX [] [condA (s 8) (pt g.2.1 (Cs #[Bv false, .slice none 0 0] 39)), condA (s 7) (pt g.1 (Cs #[Bv false, .slice none 0 0] 39)), pt b10 (Cs #[Iv x28] 67), slE 98 1 E98 s30 x31, pt b22 (Cs #[Bv x29, s30] 39)] | 1 => St w0 w noX [] [slE 98 1 E98 g.2.2.1 x32.2, condA (s 8) (pt g.2.1 (Cs #[Bv false, .slice none 0 0] 39)), condA (s 7) (pt g.1 (Cs #[Bv false, .slice none 0 0] 39)), pt b10 (Cs #[Iv x28] 67), slE 98 1 E98 s30 x31, pt b22 (Cs #[Bv x29, s30] 39)] | 2 => St w0 w noX [] [slE 98 1 E98 g.2.2.2.1 x34.2.1, slE 98 1 E98 g.2.2.2.2 x34.2.2.2.1, slE 98 1 E98 g.2.2.1 x32.2, condA (s 8) (pt g.2.1 (Cs #[Bv false, .slice none 0 0] 39)), condA (s 7) (pt g.1 (Cs #[Bv false, .slice none 0 0] 39)), pt b10 (Cs #[Iv x28] 67), slE 98 1 E98 s30 x31, pt b22 (Cs #[Bv x29, s30] 39)] | 3 => St w0 w noX [] [slE 98 1 E98 g.2.2.2.1 x34.2.1, slE 98 1 E98 g.2.2.2.2 x34.2.2.2.1, slE 98 1 E98 g.2.2.1 x32.2, pt g.2.1 (Cs #[Bv false, .slice none 0 0] 39), pt g.1 (Cs #[Bv x34.1, g.2.2.2.1] 39), pt b10 (Cs #[Iv x28] 67), slE 98 1 E98 s30 x31, pt b22 (Cs #[Bv x29, s30] 39)] | _ => St w0 w noX [] [slE 98 1 E98 g.2.2.2.1 x34.2.1, slE 98 1 E98 g.2.2.2.2 x34.2.2.2.1, slE 98 1 E98 g.2.2.1 x32.2, pt g.2.1 (Cs #[Bv x34.2.2.1, g.2.2.2.2] 39), pt g.1 (Cs #[Bv x34.1, g.2.2.2.1] 39), pt b10 (Cs #[Iv x28] 67), slE 98 1 E98 s30 x31, pt b22 (Cs #[Bv x29, s30] 39)]) P_mixed (by kernel_rfl) (by kernel_rfl) (by kernel_rfl) hf hf1 hS ?_ ?_ ?_ ?_
   ·clear hf hf1 hS
    refine ⟨?_, fun k s g w _ _ _ hD a hf => Q.val (v := .tuple #[.agg #[Bv x34.1, g.2.2.2.1], .agg #[Bv x34.2.2.1, g.2.2.2.2], Iv x34.2.2.2.2]) rfl rfl rfl hD hf (RunV.move rfl), fun k s g w _ _ _ hD a hf => Q.val (v := .agg #[Bv x34.1, g.2.2.2.1]) rfl rfl rfl hD hf (RunV.extract rfl rfl), fun k s g w _ _ _ hD a hf => Q.val (v := .agg #[Bv x34.2.2.1, g.2.2.2.2]) rfl rfl rfl hD hf (RunV.extract rfl rfl), fun k s g w _ _ _ hD a hf => Q.val (v := Iv x34.2.2.2.2) rfl rfl rfl hD hf (RunV.extract rfl rfl), fun k s g w _ _ _ hD a hf => Q.val (v := Iv x34.2.2.2.2) rfl rfl rfl hD hf (RunV.assign rfl), trivial⟩
    ·intro k s g w h1_ h2_ hsp hD a hf
     obtain ⟨b37, b38, s33, s35, s36⟩ := g
     rcases k with _ | _ | k
     ·have hS : St w0 w noX [] [condA (s 8) (pt b38 (Cs #[Bv false, .slice none 0 0] 39)), condA (s 7) (pt b37 (Cs #[Bv false, .slice none 0 0] 39)), pt b10 (Cs #[Iv x28] 67), slE 98 1 E98 s30 x31, pt b22 (Cs #[Bv x29, s30] 39)] := hD; clear hD
      replace hf : Fr a 109 [] [(6, Iv 0), (7, Iv 0), (8, Pv b10 0), (10, Pv b22 0)] := hf
      exact Q.val (v := .agg #[Bv x29, s30]) rfl rfl rfl hS hf (RunV.loadN (cs' := #[Bv x29, s30]) T_agg_39 T_size_39 rfl (hS.ptAt (i := 4) rfl) (Nat.le_of_ble_eq_true rfl) rfl)
     ·have hS : St w0 w noX [] [slE 98 1 E98 s33 x32.2, condA (s 8) (pt b38 (Cs #[Bv false, .slice none 0 0] 39)), condA (s 7) (pt b37 (Cs #[Bv false, .slice none 0 0] 39)), pt b10 (Cs #[Iv x28] 67), slE 98 1 E98 s30 x31, pt b22 (Cs #[Bv x29, s30] 39)] := hD; clear hD
      replace hf : Fr a 109 [] [(6, Iv 0), (7, Iv 0), (8, Pv b10 0), (10, Pv b22 0)] := hf
      exact Q.val (v := .agg #[Bv x29, s30]) rfl rfl rfl hS hf (RunV.loadN (cs' := #[Bv x29, s30]) T_agg_39 T_size_39 rfl (hS.ptAt (i := 5) rfl) (Nat.le_of_ble_eq_true rfl) rfl)
     ·exact absurd h2_ (by simp)
   ·clear hf hf1 hS
    refine ⟨?_, ?_, ?_, ?_, trivial⟩
    ·intro s g w hsp hD a hf
     obtain ⟨b37, b38, s33, s35, s36⟩ := g
     have hS : St w0 w noX [] [condA (s 8) (pt b38 (Cs #[Bv false, .slice none 0 0] 39)), condA (s 7) (pt b37 (Cs #[Bv false, .slice none 0 0] 39)), pt b10 (Cs #[Iv x28] 67), slE 98 1 E98 s30 x31, pt b22 (Cs #[Bv x29, s30] 39)] := hD; clear hD
     replace hf : Fr a 109 [] [(6, Iv 0), (7, Iv 0), (8, Pv b10 0), (10, Pv b22 0)] := hf
     refine O.callR hf rfl rfl rfl (RunE.call (av := #[Iv 86400000000]) C_ok_30 rfl rfl rfl) (m_wide_From_ok F 86400000000 _ x32 hx32) ?_
     clear hf a; rintro s33 w hS1 a hf
     replace hf : Fr a _ _ ((76, .agg #[Bv x32.1, s33]) :: _) := hf
     replace hS := (hS.call hS1).eqM (N := [slE 98 1 E98 s33 x32.2, condA (s 8) (pt b38 (Cs #[Bv false, .slice none 0 0] 39)), condA (s 7) (pt b37 (Cs #[Bv false, .slice none 0 0] 39)), pt b10 (Cs #[Iv x28] 67), slE 98 1 E98 s30 x31, pt b22 (Cs #[Bv x29, s30] 39)]) rfl
     clear hS1
     exact O.nil ⟨rfl, (b37, b38, s33, s35, s36), hf.to trivial, (fun d hd => by cases (show some 76 = some d from hd); exact hf.get _ _ rfl), (fun j hj hk => match j, hj, hk with | 0, hj, hk => rfl | 1, hj, hk => absurd rfl hj | 2, hj, hk => absurd hk (by decide) | 3, hj, hk => absurd hk (by decide) | 4, hj, hk => absurd hk (by decide) | 5, hj, hk => absurd hk (by decide) | 6, hj, hk => absurd hk (by decide) | 7, hj, hk => rfl | 8, hj, hk => rfl | 9, hj, hk => absurd hk (by decide) | 10, hj, hk => absurd hk (by decide) | 11, hj, hk => absurd hk (by decide) | _ + 12, _, _ => rfl), hS⟩
    ·intro s g w hsp hD a hf
     obtain ⟨b37, b38, s33, s35, s36⟩ := g
     have hS : St w0 w noX [] [slE 98 1 E98 s33 x32.2, condA (s 8) (pt b38 (Cs #[Bv false, .slice none 0 0] 39)), condA (s 7) (pt b37 (Cs #[Bv false, .slice none 0 0] 39)), pt b10 (Cs #[Iv x28] 67), slE 98 1 E98 s30 x31, pt b22 (Cs #[Bv x29, s30] 39)] := hD; clear hD
     replace hf : Fr a 109 [] [(75, .agg #[Bv x29, s30]), (76, .agg #[Bv x32.1, s33]), (6, Iv 0), (7, Iv 0), (8, Pv b10 0), (10, Pv b22 0)] := hf
     refine O.callR hf rfl rfl rfl (RunE.call (av := #[.agg #[Bv x29, s30], .agg #[Bv x32.1, s33]]) C_ok_31 rfl rfl rfl) (m_wide_DivMod_ok F x29 s30 x31 x32.1 s33 x32.2 _ (hS.rdS (j := 4) rfl) (hS.rdS (j := 0) rfl) x34 hx34) ?_
     clear hf a; rintro ⟨s35, s36⟩ w hS1 a hf
     replace hf : Fr a _ _ ((77, .tuple #[.agg #[Bv x34.1, s35], .agg #[Bv x34.2.2.1, s36], Iv x34.2.2.2.2]) :: _) := hf
     replace hS := (hS.call hS1).eqM (N := [slE 98 1 E98 s35 x34.2.1, slE 98 1 E98 s36 x34.2.2.2.1, slE 98 1 E98 s33 x32.2, condA (s 8) (pt b38 (Cs #[Bv false, .slice none 0 0] 39)), condA (s 7) (pt b37 (Cs #[Bv false, .slice none 0 0] 39)), pt b10 (Cs #[Iv x28] 67), slE 98 1 E98 s30 x31, pt b22 (Cs #[Bv x29, s30] 39)]) rfl
     clear hS1
     exact O.nil ⟨rfl, (b37, b38, s33, s35, s36), hf.to trivial, (fun d hd => by cases (show some 77 = some d from hd); exact hf.get _ _ rfl), (fun j hj hk => match j, hj, hk with | 0, hj, hk => rfl | 1, hj, hk => rfl | 2, hj, hk => absurd rfl hj | 3, hj, hk => absurd hk (by decide) | 4, hj, hk => absurd hk (by decide) | 5, hj, hk => absurd hk (by decide) | 6, hj, hk => absurd hk (by decide) | 7, hj, hk => rfl | 8, hj, hk => rfl | 9, hj, hk => absurd hk (by decide) | 10, hj, hk => absurd hk (by decide) | 11, hj, hk => absurd hk (by decide) | _ + 12, _, _ => rfl), hS⟩
    ·intro s g w hsp hD a hf
     obtain ⟨b37, b38, s33, s35, s36⟩ := g
     have h7_ : s 7 = true := hsp 7 (by simp)
     have h8_ : s 8 = true := hsp 8 (by simp)
     have hS : St w0 w noX [] [slE 98 1 E98 s35 x34.2.1, slE 98 1 E98 s36 x34.2.2.2.1, slE 98 1 E98 s33 x32.2, condA (s 8) (pt b38 (Cs #[Bv false, .slice none 0 0] 39)), condA (s 7) (pt b37 (Cs #[Bv false, .slice none 0 0] 39)), pt b10 (Cs #[Iv x28] 67), slE 98 1 E98 s30 x31, pt b22 (Cs #[Bv x29, s30] 39)] := hD; clear hD; rw [h7_, h8_] at hS
     replace hS : St w0 w noX [] [slE 98 1 E98 s35 x34.2.1, slE 98 1 E98 s36 x34.2.2.2.1, slE 98 1 E98 s33 x32.2, pt b38 (Cs #[Bv false, .slice none 0 0] 39), pt b37 (Cs #[Bv false, .slice none 0 0] 39), pt b10 (Cs #[Iv x28] 67), slE 98 1 E98 s30 x31, pt b22 (Cs #[Bv x29, s30] 39)] := hS
     replace hf : Fr a 109 [] [(75, .agg #[Bv x29, s30]), (76, .agg #[Bv x32.1, s33]), (77, .tuple #[.agg #[Bv x34.1, s35], .agg #[Bv x34.2.2.1, s36], Iv x34.2.2.2.2]), (74, .tuple #[.agg #[Bv x34.1, s35], .agg #[Bv x34.2.2.1, s36], Iv x34.2.2.2.2]), (78, .agg #[Bv x34.1, s35]), (13, Pv b37 0), (14, Pv b38 0), (6, Iv 0), (7, Iv 0), (8, Pv b10 0), (10, Pv b22 0)] := hf
     refine O.store (j := 4) (cs' := #[Bv x34.1, s35]) (M' := [slE 98 1 E98 s35 x34.2.1, slE 98 1 E98 s36 x34.2.2.2.1, slE 98 1 E98 s33 x32.2, pt b38 (Cs #[Bv false, .slice none 0 0] 39), pt b37 (Cs #[Bv x34.1, s35] 39), pt b10 (Cs #[Iv x28] 67), slE 98 1 E98 s30 x31, pt b22 (Cs #[Bv x29, s30] 39)]) hf hS rfl rfl rfl T_size_39 rfl (oneCells_cc rfl (oneCells_cc (rdEOK_one (hS.rdS (j := 0) rfl)) rfl)) rfl (Nat.le_of_ble_eq_true rfl) rfl rfl ?_
     clear hS; intro w hS
     exact O.nil ⟨rfl, (b37, b38, s33, s35, s36), hf.to trivial, (fun d hd => by cases (show none = some d from hd)), (fun _ _ _ => rfl), hS⟩
    ·intro s g w hsp hD a hf
     obtain ⟨b37, b38, s33, s35, s36⟩ := g
     have h7_ : s 7 = true := hsp 7 (by simp)
     have h8_ : s 8 = true := hsp 8 (by simp)
     have hS : St w0 w noX [] [slE 98 1 E98 s35 x34.2.1, slE 98 1 E98 s36 x34.2.2.2.1, slE 98 1 E98 s33 x32.2, pt b38 (Cs #[Bv false, .slice none 0 0] 39), pt b37 (Cs #[Bv x34.1, s35] 39), pt b10 (Cs #[Iv x28] 67), slE 98 1 E98 s30 x31, pt b22 (Cs #[Bv x29, s30] 39)] := hD; clear hD
     replace hf : Fr a 109 [] [(75, .agg #[Bv x29, s30]), (76, .agg #[Bv x32.1, s33]), (77, .tuple #[.agg #[Bv x34.1, s35], .agg #[Bv x34.2.2.1, s36], Iv x34.2.2.2.2]), (74, .tuple #[.agg #[Bv x34.1, s35], .agg #[Bv x34.2.2.1, s36], Iv x34.2.2.2.2]), (78, .agg #[Bv x34.1, s35]), (79, .agg #[Bv x34.2.2.1, s36]), (13, Pv b37 0), (14, Pv b38 0), (6, Iv 0), (7, Iv 0), (8, Pv b10 0), (10, Pv b22 0)] := hf
     refine O.store (j := 3) (cs' := #[Bv x34.2.2.1, s36]) (M' := [slE 98 1 E98 s35 x34.2.1, slE 98 1 E98 s36 x34.2.2.2.1, slE 98 1 E98 s33 x32.2, pt b38 (Cs #[Bv x34.2.2.1, s36] 39), pt b37 (Cs #[Bv x34.1, s35] 39), pt b10 (Cs #[Iv x28] 67), slE 98 1 E98 s30 x31, pt b22 (Cs #[Bv x29, s30] 39)]) hf hS rfl rfl rfl T_size_39 rfl (oneCells_cc rfl (oneCells_cc (rdEOK_one (hS.rdS (j := 1) rfl)) rfl)) rfl (Nat.le_of_ble_eq_true rfl) rfl rfl ?_
     clear hS; intro w hS
     exact O.nil ⟨rfl, (b37, b38, s33, s35, s36), hf.to trivial, (fun d hd => by cases (show none = some d from hd)), (fun _ _ _ => rfl), hS⟩
   ·clear hf hf1 hS
    refine ⟨?_, ?_, trivial⟩
    ·intro k s g w h1_ h2_ hs0 hD a hf
     obtain ⟨b37, b38, s33, s35, s36⟩ := g
     rcases k with _ | _ | _ | k
     ·have hS : St w0 w noX [] [condA (s 8) (pt b38 (Cs #[Bv false, .slice none 0 0] 39)), condA (s 7) (pt b37 (Cs #[Bv false, .slice none 0 0] 39)), pt b10 (Cs #[Iv x28] 67), slE 98 1 E98 s30 x31, pt b22 (Cs #[Bv x29, s30] 39)] := hD; clear hD
      refine O.allocC (j := 1) (cs := #[Bv false, .slice none 0 0]) hf hS rfl hs0 rfl rfl T_zero_39 rfl ?_; clear hf hS a; intro b37 w a hS hf
      exact O.nil ⟨rfl, (b37, b38, s33, s35, s36), hf.to trivial, (fun d hd => by cases (show some 13 = some d from hd); exact hf.get _ _ rfl), (fun j hj hk => match j, hj, hk with | 0, hj, hk => rfl | 1, hj, hk => rfl | 2, hj, hk => rfl | 3, hj, hk => rfl | 4, hj, hk => rfl | 5, hj, hk => rfl | 6, hj, hk => rfl | 7, hj, hk => absurd rfl hj | 8, hj, hk => rfl | 9, hj, hk => absurd hk (by decide) | 10, hj, hk => absurd hk (by decide) | 11, hj, hk => absurd hk (by decide) | _ + 12, _, _ => rfl), hS⟩
     ·have hS : St w0 w noX [] [slE 98 1 E98 s33 x32.2, condA (s 8) (pt b38 (Cs #[Bv false, .slice none 0 0] 39)), condA (s 7) (pt b37 (Cs #[Bv false, .slice none 0 0] 39)), pt b10 (Cs #[Iv x28] 67), slE 98 1 E98 s30 x31, pt b22 (Cs #[Bv x29, s30] 39)] := hD; clear hD
      refine O.allocC (j := 2) (cs := #[Bv false, .slice none 0 0]) hf hS rfl hs0 rfl rfl T_zero_39 rfl ?_; clear hf hS a; intro b37 w a hS hf
      exact O.nil ⟨rfl, (b37, b38, s33, s35, s36), hf.to trivial, (fun d hd => by cases (show some 13 = some d from hd); exact hf.get _ _ rfl), (fun j hj hk => match j, hj, hk with | 0, hj, hk => rfl | 1, hj, hk => rfl | 2, hj, hk => rfl | 3, hj, hk => rfl | 4, hj, hk => rfl | 5, hj, hk => rfl | 6, hj, hk => rfl | 7, hj, hk => absurd rfl hj | 8, hj, hk => rfl | 9, hj, hk => absurd hk (by decide) | 10, hj, hk => absurd hk (by decide) | 11, hj, hk => absurd hk (by decide) | _ + 12, _, _ => rfl), hS⟩
     ·have hS : St w0 w noX [] [slE 98 1 E98 s35 x34.2.1, slE 98 1 E98 s36 x34.2.2.2.1, slE 98 1 E98 s33 x32.2, condA (s 8) (pt b38 (Cs #[Bv false, .slice none 0 0] 39)), condA (s 7) (pt b37 (Cs #[Bv false, .slice none 0 0] 39)), pt b10 (Cs #[Iv x28] 67), slE 98 1 E98 s30 x31, pt b22 (Cs #[Bv x29, s30] 39)] := hD; clear hD
      refine O.allocC (j := 4) (cs := #[Bv false, .slice none 0 0]) hf hS rfl hs0 rfl rfl T_zero_39 rfl ?_; clear hf hS a; intro b37 w a hS hf
      exact O.nil ⟨rfl, (b37, b38, s33, s35, s36), hf.to trivial, (fun d hd => by cases (show some 13 = some d from hd); exact hf.get _ _ rfl), (fun j hj hk => match j, hj, hk with | 0, hj, hk => rfl | 1, hj, hk => rfl | 2, hj, hk => rfl | 3, hj, hk => rfl | 4, hj, hk => rfl | 5, hj, hk => rfl | 6, hj, hk => rfl | 7, hj, hk => absurd rfl hj | 8, hj, hk => rfl | 9, hj, hk => absurd hk (by decide) | 10, hj, hk => absurd hk (by decide) | 11, hj, hk => absurd hk (by decide) | _ + 12, _, _ => rfl), hS⟩
     ·exact absurd h2_ (by simp)
    ·intro k s g w h1_ h2_ hs0 hD a hf
     obtain ⟨b37, b38, s33, s35, s36⟩ := g
     rcases k with _ | _ | _ | k
     ·have hS : St w0 w noX [] [condA (s 8) (pt b38 (Cs #[Bv false, .slice none 0 0] 39)), condA (s 7) (pt b37 (Cs #[Bv false, .slice none 0 0] 39)), pt b10 (Cs #[Iv x28] 67), slE 98 1 E98 s30 x31, pt b22 (Cs #[Bv x29, s30] 39)] := hD; clear hD
      refine O.allocC (j := 0) (cs := #[Bv false, .slice none 0 0]) hf hS rfl hs0 rfl rfl T_zero_39 rfl ?_; clear hf hS a; intro b38 w a hS hf
      exact O.nil ⟨rfl, (b37, b38, s33, s35, s36), hf.to trivial, (fun d hd => by cases (show some 14 = some d from hd); exact hf.get _ _ rfl), (fun j hj hk => match j, hj, hk with | 0, hj, hk => rfl | 1, hj, hk => rfl | 2, hj, hk => rfl | 3, hj, hk => rfl | 4, hj, hk => rfl | 5, hj, hk => rfl | 6, hj, hk => rfl | 7, hj, hk => rfl | 8, hj, hk => absurd rfl hj | 9, hj, hk => absurd hk (by decide) | 10, hj, hk => absurd hk (by decide) | 11, hj, hk => absurd hk (by decide) | _ + 12, _, _ => rfl), hS⟩
     ·have hS : St w0 w noX [] [slE 98 1 E98 s33 x32.2, condA (s 8) (pt b38 (Cs #[Bv false, .slice none 0 0] 39)), condA (s 7) (pt b37 (Cs #[Bv false, .slice none 0 0] 39)), pt b10 (Cs #[Iv x28] 67), slE 98 1 E98 s30 x31, pt b22 (Cs #[Bv x29, s30] 39)] := hD; clear hD
      refine O.allocC (j := 1) (cs := #[Bv false, .slice none 0 0]) hf hS rfl hs0 rfl rfl T_zero_39 rfl ?_; clear hf hS a; intro b38 w a hS hf
      exact O.nil ⟨rfl, (b37, b38, s33, s35, s36), hf.to trivial, (fun d hd => by cases (show some 14 = some d from hd); exact hf.get _ _ rfl), (fun j hj hk => match j, hj, hk with | 0, hj, hk => rfl | 1, hj, hk => rfl | 2, hj, hk => rfl | 3, hj, hk => rfl | 4, hj, hk => rfl | 5, hj, hk => rfl | 6, hj, hk => rfl | 7, hj, hk => rfl | 8, hj, hk => absurd rfl hj | 9, hj, hk => absurd hk (by decide) | 10, hj, hk => absurd hk (by decide) | 11, hj, hk => absurd hk (by decide) | _ + 12, _, _ => rfl), hS⟩
     ·have hS : St w0 w noX [] [slE 98 1 E98 s35 x34.2.1, slE 98 1 E98 s36 x34.2.2.2.1, slE 98 1 E98 s33 x32.2, condA (s 8) (pt b38 (Cs #[Bv false, .slice none 0 0] 39)), condA (s 7) (pt b37 (Cs #[Bv false, .slice none 0 0] 39)), pt b10 (Cs #[Iv x28] 67), slE 98 1 E98 s30 x31, pt b22 (Cs #[Bv x29, s30] 39)] := hD; clear hD
      refine O.allocC (j := 3) (cs := #[Bv false, .slice none 0 0]) hf hS rfl hs0 rfl rfl T_zero_39 rfl ?_; clear hf hS a; intro b38 w a hS hf
      exact O.nil ⟨rfl, (b37, b38, s33, s35, s36), hf.to trivial, (fun d hd => by cases (show some 14 = some d from hd); exact hf.get _ _ rfl), (fun j hj hk => match j, hj, hk with | 0, hj, hk => rfl | 1, hj, hk => rfl | 2, hj, hk => rfl | 3, hj, hk => rfl | 4, hj, hk => rfl | 5, hj, hk => rfl | 6, hj, hk => rfl | 7, hj, hk => rfl | 8, hj, hk => absurd rfl hj | 9, hj, hk => absurd hk (by decide) | 10, hj, hk => absurd hk (by decide) | 11, hj, hk => absurd hk (by decide) | _ + 12, _, _ => rfl), hS⟩
     ·exact absurd h2_ (by simp)
   clear hf hf1 hS; intro s g a w hs hf hD
   obtain ⟨b37, b38, s33, s35, s36⟩ := g
   have h7_ : s 7 = true := hs 7 (by simp)
   have h8_ : s 8 = true := hs 8 (by simp)
   have hS : St w0 w noX [] [slE 98 1 E98 s35 x34.2.1, slE 98 1 E98 s36 x34.2.2.2.1, slE 98 1 E98 s33 x32.2, pt b38 (Cs #[Bv x34.2.2.1, s36] 39), pt b37 (Cs #[Bv x34.1, s35] 39), pt b10 (Cs #[Iv x28] 67), slE 98 1 E98 s30 x31, pt b22 (Cs #[Bv x29, s30] 39)] := hD; clear hD
   replace hf : Fr a 109 [] [(75, .agg #[Bv x29, s30]), (76, .agg #[Bv x32.1, s33]), (77, .tuple #[.agg #[Bv x34.1, s35], .agg #[Bv x34.2.2.1, s36], Iv x34.2.2.2.2]), (74, .tuple #[.agg #[Bv x34.1, s35], .agg #[Bv x34.2.2.1, s36], Iv x34.2.2.2.2]), (78, .agg #[Bv x34.1, s35]), (79, .agg #[Bv x34.2.2.1, s36]), (80, Iv x34.2.2.2.2), (13, Pv b37 0), (14, Pv b38 0), (12, Iv x34.2.2.2.2), (6, Iv 0), (7, Iv 0), (8, Pv b10 0), (10, Pv b22 0)] := hf
   refine k_seq ?_
   replace hf : Fr a 109 [] [(6, Iv 0), (7, Iv 0), (8, Pv b10 0), (12, Iv x34.2.2.2.2), (13, Pv b37 0), (14, Pv b38 0)] := hf.to ⟨rfl, rfl, rfl, rfl, rfl, rfl, trivial⟩
   refine W.seq ?_
   refine W.regionL (l := [0, 1, 2]) rfl ?_
   refine O.val hf rfl rfl rfl (RunV.loadN (cs' := #[Bv x34.1, s35]) T_agg_39 T_size_39 rfl (hS.ptAt (i := 4) rfl) (Nat.le_of_ble_eq_true rfl) rfl) ?_; clear hf a; intro a hf
   refine O.val hf rfl rfl rfl (RunV.move rfl) ?_; clear hf a; intro a hf
   obtain ⟨x39, hx39, hm⟩ := hm_b hm
   refine O.callR hf rfl rfl rfl (RunE.call (av := #[Pv b10 0, .agg #[Bv x34.1, s35], Iv x34.2.2.2.2]) C_ok_24 rfl rfl rfl) (m_plan_calc_keep_ok F b10 x28 x34.1 s35 x34.2.1 x34.2.2.2.2 _ (hS.rdS (j := 0) rfl) (hS.ptAt (i := 5) rfl) (apRd (hS.apMM (i := 5) (j := 0) rfl rfl (by decide))) x39 hx39) ?_
   clear hf a; rintro _ w hS1 a hf
   replace hf : Fr a _ _ ((83, .agg #[Bv x34.1, s35]) :: _) := hf
   replace hS := (hS.callX1 hS1 (i := 5) rfl (fun _ h => h)).eqM (N := [pt b10 (Cs #[Iv x39] 67), slE 98 1 E98 s35 x34.2.1, slE 98 1 E98 s36 x34.2.2.2.1, slE 98 1 E98 s33 x32.2, pt b38 (Cs #[Bv x34.2.2.1, s36] 39), pt b37 (Cs #[Bv x34.1, s35] 39), slE 98 1 E98 s30 x31, pt b22 (Cs #[Bv x29, s30] 39)]) rfl
   clear hS1
   refine O.nil ?_
   refine k_seq ?_
   replace hf : Fr a 109 [] [(6, Iv 0), (7, Iv 0), (8, Pv b10 0), (12, Iv x34.2.2.2.2), (13, Pv b37 0), (14, Pv b38 0)] := hf.to ⟨rfl, rfl, rfl, rfl, rfl, rfl, trivial⟩
   refine W.seq ?_
   refine W.regionL (l := [0, 1, 2, 3, 4, 5, 6]) rfl ?_
   refine O.val hf rfl rfl rfl (RunV.loadN (cs' := #[Bv x34.2.2.1, s36]) T_agg_39 T_size_39 rfl (hS.ptAt (i := 4) rfl) (Nat.le_of_ble_eq_true rfl) rfl) ?_; clear hf a; intro a hf
   obtain ⟨x40, hx40, hm⟩ := hm_b hm
   refine O.callR hf rfl rfl rfl (RunE.call (av := #[.agg #[Bv x34.2.2.1, s36]]) C_ok_32 rfl rfl rfl) (m_wide_Sign_ok F x34.2.2.1 s36 x34.2.2.2.1 _ (hS.rdS (j := 2) rfl) x40 hx40) ?_
   clear hf a; rintro _ w hS1 a hf
   replace hf : Fr a _ _ ((86, .tuple #[Iv x40.1, Iv x40.2]) :: _) := hf
   replace hS := (hS.call hS1).eqM (N := [pt b10 (Cs #[Iv x39] 67), slE 98 1 E98 s35 x34.2.1, slE 98 1 E98 s36 x34.2.2.2.1, slE 98 1 E98 s33 x32.2, pt b38 (Cs #[Bv x34.2.2.1, s36] 39), pt b37 (Cs #[Bv x34.1, s35] 39), slE 98 1 E98 s30 x31, pt b22 (Cs #[Bv x29, s30] 39)]) rfl
   clear hS1
   refine O.val hf rfl rfl rfl (RunV.move rfl) ?_; clear hf a; intro a hf
   refine O.val hf rfl rfl rfl (RunV.extract rfl rfl) ?_; clear hf a; intro a hf
   refine O.val hf rfl rfl rfl (RunV.extract rfl rfl) ?_; clear hf a; intro a hf
   refine O.val hf rfl rfl rfl (RunV.assign rfl) ?_; clear hf a; intro a hf
   refine O.val hf rfl rfl rfl (RunV.assign rfl) ?_; clear hf a; intro a hf
   refine O.nil ?_
   refine k_seq ?_
   replace hf : Fr a 109 [] [(6, Iv 0), (7, Iv 0), (8, Pv b10 0), (12, Iv x40.2), (13, Pv b37 0), (15, Iv x40.1)] := hf.to ⟨rfl, rfl, rfl, rfl, rfl, rfl, trivial⟩
   refine W.seq ?_
   refine W.regionL (l := [0, 1, 2]) rfl ?_
   refine O.val hf rfl rfl rfl (RunV.loadN (cs' := #[Bv x34.1, s35]) T_agg_39 T_size_39 rfl (hS.ptAt (i := 5) rfl) (Nat.le_of_ble_eq_true rfl) rfl) ?_; clear hf a; intro a hf
   refine O.val hf rfl rfl rfl (RunV.move rfl) ?_; clear hf a; intro a hf
   obtain ⟨x41, hx41, hm⟩ := hm_b hm
   refine O.callR hf rfl rfl rfl (RunE.call (av := #[Pv b10 0, .agg #[Bv x34.1, s35], Iv x40.2]) C_ok_24 rfl rfl rfl) (m_plan_calc_keep_ok F b10 x39 x34.1 s35 x34.2.1 x40.2 _ (hS.rdS (j := 1) rfl) (hS.ptAt (i := 0) rfl) (apRd (hS.apMM (i := 0) (j := 1) rfl rfl (by decide))) x41 hx41) ?_
   clear hf a; rintro _ w hS1 a hf
   replace hf : Fr a _ _ ((91, .agg #[Bv x34.1, s35]) :: _) := hf
   replace hS := (hS.callX1 hS1 (i := 0) rfl (fun _ h => h)).eqM (N := [pt b10 (Cs #[Iv x41] 67), slE 98 1 E98 s35 x34.2.1, slE 98 1 E98 s36 x34.2.2.2.1, slE 98 1 E98 s33 x32.2, pt b38 (Cs #[Bv x34.2.2.1, s36] 39), pt b37 (Cs #[Bv x34.1, s35] 39), slE 98 1 E98 s30 x31, pt b22 (Cs #[Bv x29, s30] 39)]) rfl
   clear hS1
   refine O.nil ?_
   refine k_seq ?_
   replace hf : Fr a 109 [] [(6, Iv 0), (7, Iv 0), (8, Pv b10 0), (13, Pv b37 0), (15, Iv x40.1)] := hf.to ⟨rfl, rfl, rfl, rfl, rfl, trivial⟩
   refine W.seqR (fun a w => ∃ (x42 : Int) (x43 : Bool) (s44 : Value) (x45 : List Int), Fr a 109 [] [(6, Iv 0), (7, Iv 0), (8, Pv b10 0), (13, Pv b37 0)] ∧ St w0 w noX [] [pt b10 (Cs #[Iv x42] 67), slE 98 1 E98 s44 x45, pt b37 (Cs #[Bv x43, s44] 39)] ∧ m_plan_Spread_j1 F x42 x43 x45 = some r) ?_ ?_
   ·refine W.seq ?_
    refine W.regionL (l := [0, 1]) rfl ?_
    refine O.val hf rfl rfl rfl (RunV.move rfl) ?_; clear hf a; intro a hf
    refine O.val (v := Bv (decide (x40.1 > (0 : Int)))) hf rfl rfl rfl (RunV.gtr rfl rfl) ?_; clear hf a; intro a hf
    refine O.nil ?_
    refine k_seq ?_
    replace hf : Fr a 109 [] [(6, Iv 0), (7, Iv 0), (8, Pv b10 0), (13, Pv b37 0), (93, Bv (decide (x40.1 > (0 : Int))))] := hf.to ⟨rfl, rfl, rfl, rfl, rfl, trivial⟩
    refine W.ifdI hf rfl (fun hc48 => ?_) (fun hc48 => ?_)
    ·replace hm := hm_p hm hc48
     have hf1 : Fr a 109 [] [] := hf.to trivial
     replace hf : Fr a 109 [] [(6, Iv 0), (7, Iv 0), (8, Pv b10 0), (13, Pv b37 0), (93, Bv (decide (x40.1 > (0 : Int))))] := hf.to ⟨rfl, rfl, rfl, rfl, rfl, trivial⟩
     obtain ⟨x49, hx49, hm⟩ := hm_b hm
     obtain ⟨x51, hx51, hm⟩ := hm_b hm
     obtain ⟨x53, hx53, hm⟩ := hm_b hm
     refine W.drawC (γ := Value × Value) (L0 := [(6, Iv 0), (7, Iv 0), (8, Pv b10 0), (13, Pv b37 0), (93, Bv (decide (x40.1 > (0 : Int))))]) (L1 := []) (undef, undef) [1, 2, 5, 6] [] [0, 3, 4] (fun i => match i with | 2 => [0, 1] | 3 => [2] | 4 => [2] | 5 => [2, 3, 4] | 6 => [0, 1, 2, 3, 4, 5] | _ => []) (fun i => match i with | 2 => [1] | 3 => [1, 2] | 4 => [1, 2] | 5 => [1, 2] | 6 => [1, 2, 5] | _ => []) (fun i => match i with | 0 => [2, 5, 6] | 1 => [2, 5, 6] | 2 => [5, 6] | 3 => [5, 6] | 4 => [5, 6] | 5 => [6] | _ => []) (fun _ => []) (fun i => match i with | 1 => [2, 3, 4, 5, 6] | 2 => [3, 4, 5, 6] | 5 => [6] | _ => []) (fun _ => []) (fun i => match i with | 2 => 1 | 3 => 2 | 4 => 2 | 5 => 2 | 6 => 3 | _ => 0) (fun i => match i with | 0 => 1 | 1 => 1 | 2 => 2 | 3 => 2 | 4 => 2 | 5 => 3 | 6 => 4 | _ => 0) (fun (g : Value × Value) j => match j with | 0 => .agg #[Bv x34.1, s35] | 1 => .agg #[Bv x49.1, g.1] | 2 => .tuple #[.agg #[Bv x51.1, g.2], Iv x51.2.2] | 3 => .agg #[Bv x51.1, g.2] | 4 => Iv x51.2.2 | 5 => .agg #[Bv x51.1, g.2] | _ => undef) (fun k s (g : Value × Value) w => match k with | 0 => St w0 w noX [] [pt b10 (Cs #[Iv x41] 67), slE 98 1 E98 s35 x34.2.1, slE 98 1 E98 s36 x34.2.2.2.1, slE 98 1 E98 s33 x32.2, pt b38 (Cs #[Bv x34.2.2.1, s36] 39), pt b37 (Cs #[Bv x34.1, s35] 39), slE 98 1 E98 s30 x31, pt b22 (Cs #[Bv x29, s30] 39)] | 1 => St w0 w noX [] [slE 98 1 E98 g.1 x49.2, pt b10 (Cs #[Iv x41] 67), slE 98 1 E98 s35 x34.2.1, slE 98 1 E98 s36 x34.2.2.2.1, slE 98 1 E98 s33 x32.2, pt b38 (Cs #[Bv x34.2.2.1, s36] 39), pt b37 (Cs #[Bv x34.1, s35] 39), slE 98 1 E98 s30 x31, pt b22 (Cs #[Bv x29, s30] 39)] | 2 => St w0 w noX [] [slE 98 1 E98 g.2 x51.2.1, slE 98 1 E98 g.1 x49.2, pt b10 (Cs #[Iv x41] 67), slE 98 1 E98 s35 x34.2.1, slE 98 1 E98 s36 x34.2.2.2.1, slE 98 1 E98 s33 x32.2, pt b38 (Cs #[Bv x34.2.2.1, s36] 39), pt b37 (Cs #[Bv x34.1, s35] 39), slE 98 1 E98 s30 x31, pt b22 (Cs #[Bv x29, s30] 39)] | 3 => St w0 w noX [] [pt b10 (Cs #[Iv x53] 67), slE 98 1 E98 g.2 x51.2.1, slE 98 1 E98 g.1 x49.2, slE 98 1 E98 s35 x34.2.1, slE 98 1 E98 s36 x34.2.2.2.1, slE 98 1 E98 s33 x32.2, pt b38 (Cs #[Bv x34.2.2.1, s36] 39), pt b37 (Cs #[Bv x34.1, s35] 39), slE 98 1 E98 s30 x31, pt b22 (Cs #[Bv x29, s30] 39)] | _ => St w0 w noX [] [pt b10 (Cs #[Iv x53] 67), slE 98 1 E98 g.2 x51.2.1, slE 98 1 E98 g.1 x49.2, slE 98 1 E98 s35 x34.2.1, slE 98 1 E98 s36 x34.2.2.2.1, slE 98 1 E98 s33 x32.2, pt b38 (Cs #[Bv x34.2.2.1, s36] 39), pt b37 (Cs #[Bv x51.1, g.2] 39), slE 98 1 E98 s30 x31, pt b22 (Cs #[Bv x29, s30] 39)]) P_mixed (by kernel_rfl) (by kernel_rfl) (by kernel_rfl) hf hf1 hS.drew ?_ ?_ ?_ ?_
     ·clear hf hf1 hS
      refine ⟨?_, fun k s g w _ _ _ hD a hf => Q.val (v := .agg #[Bv x51.1, g.2]) rfl rfl rfl hD hf (RunV.extract rfl rfl), fun k s g w _ _ _ hD a hf => Q.val (v := Iv x51.2.2) rfl rfl rfl hD hf (RunV.extract rfl rfl), trivial⟩
      ·intro k s g w h1_ h2_ hsp hD a hf
       obtain ⟨s50, s52⟩ := g
       rcases k with _ | _ | k
       ·have hS : St w0 w noX [] [pt b10 (Cs #[Iv x41] 67), slE 98 1 E98 s35 x34.2.1, slE 98 1 E98 s36 x34.2.2.2.1, slE 98 1 E98 s33 x32.2, pt b38 (Cs #[Bv x34.2.2.1, s36] 39), pt b37 (Cs #[Bv x34.1, s35] 39), slE 98 1 E98 s30 x31, pt b22 (Cs #[Bv x29, s30] 39)] := hD; clear hD
        replace hf : Fr a 109 [] [(6, Iv 0), (7, Iv 0), (8, Pv b10 0), (13, Pv b37 0), (93, Bv (decide (x40.1 > (0 : Int))))] := hf
        exact Q.val (v := .agg #[Bv x34.1, s35]) rfl rfl rfl hS hf (RunV.loadN (cs' := #[Bv x34.1, s35]) T_agg_39 T_size_39 rfl (hS.ptAt (i := 5) rfl) (Nat.le_of_ble_eq_true rfl) rfl)
       ·have hS : St w0 w noX [] [slE 98 1 E98 s50 x49.2, pt b10 (Cs #[Iv x41] 67), slE 98 1 E98 s35 x34.2.1, slE 98 1 E98 s36 x34.2.2.2.1, slE 98 1 E98 s33 x32.2, pt b38 (Cs #[Bv x34.2.2.1, s36] 39), pt b37 (Cs #[Bv x34.1, s35] 39), slE 98 1 E98 s30 x31, pt b22 (Cs #[Bv x29, s30] 39)] := hD; clear hD
        replace hf : Fr a 109 [] [(6, Iv 0), (7, Iv 0), (8, Pv b10 0), (13, Pv b37 0), (93, Bv (decide (x40.1 > (0 : Int))))] := hf
        exact Q.val (v := .agg #[Bv x34.1, s35]) rfl rfl rfl hS hf (RunV.loadN (cs' := #[Bv x34.1, s35]) T_agg_39 T_size_39 rfl (hS.ptAt (i := 6) rfl) (Nat.le_of_ble_eq_true rfl) rfl)
       ·exact absurd h2_ (by simp)
     ·clear hf hf1 hS
      refine ⟨?_, ?_, ?_, ?_, trivial⟩
      ·intro s g w hsp hD a hf
       obtain ⟨s50, s52⟩ := g
       have hS : St w0 w noX [] [pt b10 (Cs #[Iv x41] 67), slE 98 1 E98 s35 x34.2.1, slE 98 1 E98 s36 x34.2.2.2.1, slE 98 1 E98 s33 x32.2, pt b38 (Cs #[Bv x34.2.2.1, s36] 39), pt b37 (Cs #[Bv x34.1, s35] 39), slE 98 1 E98 s30 x31, pt b22 (Cs #[Bv x29, s30] 39)] := hD; clear hD
       replace hf : Fr a 109 [] [(6, Iv 0), (7, Iv 0), (8, Pv b10 0), (13, Pv b37 0), (93, Bv (decide (x40.1 > (0 : Int))))] := hf
       refine O.callR hf rfl rfl rfl (RunE.call (av := #[Iv 1]) C_ok_30 rfl rfl rfl) (m_wide_From_ok F 1 _ x49 hx49) ?_
       clear hf a; rintro s50 w hS1 a hf
       replace hf : Fr a _ _ ((95, .agg #[Bv x49.1, s50]) :: _) := hf
       replace hS := (hS.call hS1).eqM (N := [slE 98 1 E98 s50 x49.2, pt b10 (Cs #[Iv x41] 67), slE 98 1 E98 s35 x34.2.1, slE 98 1 E98 s36 x34.2.2.2.1, slE 98 1 E98 s33 x32.2, pt b38 (Cs #[Bv x34.2.2.1, s36] 39), pt b37 (Cs #[Bv x34.1, s35] 39), slE 98 1 E98 s30 x31, pt b22 (Cs #[Bv x29, s30] 39)]) rfl
       clear hS1
       exact O.nil ⟨rfl, (s50, s52), hf.to trivial, (fun d hd => by cases (show some 95 = some d from hd); exact hf.get _ _ rfl), (fun j hj hk => match j, hj, hk with | 0, hj, hk => rfl | 1, hj, hk => absurd rfl hj | 2, hj, hk => absurd hk (by decide) | 3, hj, hk => absurd hk (by decide) | 4, hj, hk => absurd hk (by decide) | 5, hj, hk => absurd hk (by decide) | 6, hj, hk => absurd hk (by decide) | _ + 7, _, _ => rfl), hS⟩
      ·intro s g w hsp hD a hf
       obtain ⟨s50, s52⟩ := g
       have hS : St w0 w noX [] [slE 98 1 E98 s50 x49.2, pt b10 (Cs #[Iv x41] 67), slE 98 1 E98 s35 x34.2.1, slE 98 1 E98 s36 x34.2.2.2.1, slE 98 1 E98 s33 x32.2, pt b38 (Cs #[Bv x34.2.2.1, s36] 39), pt b37 (Cs #[Bv x34.1, s35] 39), slE 98 1 E98 s30 x31, pt b22 (Cs #[Bv x29, s30] 39)] := hD; clear hD
       replace hf : Fr a 109 [] [(94, .agg #[Bv x34.1, s35]), (95, .agg #[Bv x49.1, s50]), (6, Iv 0), (7, Iv 0), (8, Pv b10 0), (13, Pv b37 0), (93, Bv (decide (x40.1 > (0 : Int))))] := hf
       refine O.callR hf rfl rfl rfl (RunE.call (av := #[.agg #[Bv x34.1, s35], .agg #[Bv x49.1, s50]]) C_ok_25 rfl rfl rfl) (m_wide_Add_ok F x34.1 s35 x34.2.1 x49.1 s50 x49.2 _ (hS.rdS (j := 2) rfl) (hS.rdS (j := 0) rfl) x51 hx51) ?_
       clear hf a; rintro s52 w hS1 a hf
       replace hf : Fr a _ _ ((96, .tuple #[.agg #[Bv x51.1, s52], Iv x51.2.2]) :: _) := hf
       replace hS := (hS.call hS1).eqM (N := [slE 98 1 E98 s52 x51.2.1, slE 98 1 E98 s50 x49.2, pt b10 (Cs #[Iv x41] 67), slE 98 1 E98 s35 x34.2.1, slE 98 1 E98 s36 x34.2.2.2.1, slE 98 1 E98 s33 x32.2, pt b38 (Cs #[Bv x34.2.2.1, s36] 39), pt b37 (Cs #[Bv x34.1, s35] 39), slE 98 1 E98 s30 x31, pt b22 (Cs #[Bv x29, s30] 39)]) rfl
       clear hS1
       exact O.nil ⟨rfl, (s50, s52), hf.to trivial, (fun d hd => by cases (show some 96 = some d from hd); exact hf.get _ _ rfl), (fun j hj hk => match j, hj, hk with | 0, hj, hk => rfl | 1, hj, hk => rfl | 2, hj, hk => absurd rfl hj | 3, hj, hk => absurd hk (by decide) | 4, hj, hk => absurd hk (by decide) | 5, hj, hk => absurd hk (by decide) | 6, hj, hk => absurd hk (by decide) | _ + 7, _, _ => rfl), hS⟩
      ·intro s g w hsp hD a hf
       obtain ⟨s50, s52⟩ := g
       have hS : St w0 w noX [] [slE 98 1 E98 s52 x51.2.1, slE 98 1 E98 s50 x49.2, pt b10 (Cs #[Iv x41] 67), slE 98 1 E98 s35 x34.2.1, slE 98 1 E98 s36 x34.2.2.2.1, slE 98 1 E98 s33 x32.2, pt b38 (Cs #[Bv x34.2.2.1, s36] 39), pt b37 (Cs #[Bv x34.1, s35] 39), slE 98 1 E98 s30 x31, pt b22 (Cs #[Bv x29, s30] 39)] := hD; clear hD
       replace hf : Fr a 109 [] [(96, .tuple #[.agg #[Bv x51.1, s52], Iv x51.2.2]), (97, .agg #[Bv x51.1, s52]), (98, Iv x51.2.2), (6, Iv 0), (7, Iv 0), (8, Pv b10 0), (13, Pv b37 0), (93, Bv (decide (x40.1 > (0 : Int))))] := hf
       refine O.callR hf rfl rfl rfl (RunE.call (av := #[Pv b10 0, .agg #[Bv x51.1, s52], Iv x51.2.2]) C_ok_24 rfl rfl rfl) (m_plan_calc_keep_ok F b10 x41 x51.1 s52 x51.2.1 x51.2.2 _ (hS.rdS (j := 0) rfl) (hS.ptAt (i := 2) rfl) (apRd (hS.apMM (i := 2) (j := 0) rfl rfl (by decide))) x53 hx53) ?_
       clear hf a; rintro _ w hS1 a hf
       replace hf : Fr a _ _ ((99, .agg #[Bv x51.1, s52]) :: _) := hf
       replace hS := (hS.callX1 hS1 (i := 2) rfl (fun _ h => h)).eqM (N := [pt b10 (Cs #[Iv x53] 67), slE 98 1 E98 s52 x51.2.1, slE 98 1 E98 s50 x49.2, slE 98 1 E98 s35 x34.2.1, slE 98 1 E98 s36 x34.2.2.2.1, slE 98 1 E98 s33 x32.2, pt b38 (Cs #[Bv x34.2.2.1, s36] 39), pt b37 (Cs #[Bv x34.1, s35] 39), slE 98 1 E98 s30 x31, pt b22 (Cs #[Bv x29, s30] 39)]) rfl
       clear hS1
       exact O.nil ⟨rfl, (s50, s52), hf.to trivial, (fun d hd => by cases (show some 99 = some d from hd); exact hf.get _ _ rfl), (fun _ _ _ => rfl), hS⟩
      ·intro s g w hsp hD a hf
       obtain ⟨s50, s52⟩ := g
       have hS : St w0 w noX [] [pt b10 (Cs #[Iv x53] 67), slE 98 1 E98 s52 x51.2.1, slE 98 1 E98 s50 x49.2, slE 98 1 E98 s35 x34.2.1, slE 98 1 E98 s36 x34.2.2.2.1, slE 98 1 E98 s33 x32.2, pt b38 (Cs #[Bv x34.2.2.1, s36] 39), pt b37 (Cs #[Bv x34.1, s35] 39), slE 98 1 E98 s30 x31, pt b22 (Cs #[Bv x29, s30] 39)] := hD; clear hD
       replace hf : Fr a 109 [] [(94, .agg #[Bv x34.1, s35]), (95, .agg #[Bv x49.1, s50]), (96, .tuple #[.agg #[Bv x51.1, s52], Iv x51.2.2]), (97, .agg #[Bv x51.1, s52]), (98, Iv x51.2.2), (99, .agg #[Bv x51.1, s52]), (6, Iv 0), (7, Iv 0), (8, Pv b10 0), (13, Pv b37 0), (93, Bv (decide (x40.1 > (0 : Int))))] := hf
       refine O.store (j := 7) (cs' := #[Bv x51.1, s52]) (M' := [pt b10 (Cs #[Iv x53] 67), slE 98 1 E98 s52 x51.2.1, slE 98 1 E98 s50 x49.2, slE 98 1 E98 s35 x34.2.1, slE 98 1 E98 s36 x34.2.2.2.1, slE 98 1 E98 s33 x32.2, pt b38 (Cs #[Bv x34.2.2.1, s36] 39), pt b37 (Cs #[Bv x51.1, s52] 39), slE 98 1 E98 s30 x31, pt b22 (Cs #[Bv x29, s30] 39)]) hf hS rfl rfl rfl T_size_39 rfl (oneCells_cc rfl (oneCells_cc (rdEOK_one (hS.rdS (j := 1) rfl)) rfl)) rfl (Nat.le_of_ble_eq_true rfl) rfl rfl ?_
       clear hS; intro w hS
       exact O.nil ⟨rfl, (s50, s52), hf.to trivial, (fun d hd => by cases (show none = some d from hd)), (fun _ _ _ => rfl), hS⟩
     ·clear hf hf1 hS
      exact trivial
     clear hf hf1 hS; intro s g a w hs hf hD
     obtain ⟨s50, s52⟩ := g
     have hS : St w0 w noX [] [pt b10 (Cs #[Iv x53] 67), slE 98 1 E98 s52 x51.2.1, slE 98 1 E98 s50 x49.2, slE 98 1 E98 s35 x34.2.1, slE 98 1 E98 s36 x34.2.2.2.1, slE 98 1 E98 s33 x32.2, pt b38 (Cs #[Bv x34.2.2.1, s36] 39), pt b37 (Cs #[Bv x51.1, s52] 39), slE 98 1 E98 s30 x31, pt b22 (Cs #[Bv x29, s30] 39)] := hD; clear hD
     replace hf : Fr a 109 [] [(94, .agg #[Bv x34.1, s35]), (95, .agg #[Bv x49.1, s50]), (96, .tuple #[.agg #[Bv x51.1, s52], Iv x51.2.2]), (97, .agg #[Bv x51.1, s52]), (98, Iv x51.2.2), (99, .agg #[Bv x51.1, s52]), (6, Iv 0), (7, Iv 0), (8, Pv b10 0), (13, Pv b37 0), (93, Bv (decide (x40.1 > (0 : Int))))] := hf
     replace hS := hS.sub (N := [pt b10 (Cs #[Iv x53] 67), slE 98 1 E98 s52 x51.2.1, pt b37 (Cs #[Bv x51.1, s52] 39)]) (.cons_cons _ (.cons_cons _ (.cons _ (.cons _ (.cons _ (.cons _ (.cons _ (.cons_cons _ (.cons _ (.cons _ .slnil))))))))))
     exact k_then ⟨x53, x51.1, s52, x51.2.1, hf.to ⟨rfl, rfl, rfl, rfl, trivial⟩, hS, hm⟩
    ·replace hm := hm_n hm hc48
     refine W.skip ?_
     replace hS := hS.sub (N := [pt b10 (Cs #[Iv x41] 67), slE 98 1 E98 s35 x34.2.1, pt b37 (Cs #[Bv x34.1, s35] 39)]) (.cons_cons _ (.cons_cons _ (.cons _ (.cons _ (.cons _ (.cons_cons _ (.cons _ (.cons _ .slnil))))))))
     exact k_then ⟨x41, x34.1, s35, x34.2.1, hf.to ⟨rfl, rfl, rfl, rfl, trivial⟩, hS, hm⟩
   ·clear hf hS hm a; try clear w
    rintro a w ⟨x42, x43, s44, x45, hf, hS, hm⟩
    unfold m_plan_Spread_j1 at hm
    refine W.seq ?_
    refine W.seq ?_
    refine W.regionL (l := [0, 1, 2]) rfl ?_
    refine O.val hf rfl rfl rfl (RunV.field T_field_67_0 rfl rfl) ?_; clear hf a; intro a hf
    refine O.val hf rfl rfl rfl (RunV.load1 T_agg_28 rfl (hS.ptAt (i := 0) rfl) rfl) ?_; clear hf a; intro a hf
    refine O.val (v := Bv (decide (x42 ≠ (0 : Int)))) hf rfl rfl rfl (RunV.neq rfl rfl) ?_; clear hf a; intro a hf
    refine O.nil ?_
    refine k_seq ?_
    replace hf : Fr a 109 [] [(6, Iv 0), (7, Iv 0), (8, Pv b10 0), (13, Pv b37 0), (102, Bv (decide (x42 ≠ (0 : Int))))] := hf.to ⟨rfl, rfl, rfl, rfl, rfl, trivial⟩
    refine W.ifdI hf rfl (fun hc46 => ?_) (fun hc46 => ?_)
    ·replace hm := hm_p hm hc46
     refine W.seq ?_
     refine W.drawQ (fun w => St w0 w noX [] [pt b10 (Cs #[Iv x42] 67), slE 98 1 E98 s44 x45, pt b37 (Cs #[Bv x43, s44] 39)]) P_mixed rfl (by kernel_rfl) rfl hS.drew ?_
     clear hS; try clear w
     refine OQ.val (v := Pv b10 0) hf rfl (fun w hS => RunV.field T_field_67_0 rfl rfl) ?_; clear hf a; intro a hf
     refine OQ.val (v := Iv x42) hf rfl (fun w hS => RunV.load1 T_agg_28 rfl (hS.ptAt (i := 0) rfl) rfl) ?_; clear hf a; intro a hf
     refine OQ.val (v := Iv 0) hf rfl (fun w hS => RunV.assign rfl) ?_; clear hf a; intro a hf
     refine OQ.val (v := Iv x42) hf rfl (fun w hS => RunV.assign rfl) ?_; clear hf a; intro a hf
     refine OQ.nil ?_; intro w hS
     refine k_seq ?_
     replace hf : Fr a 109 [] [(6, Iv 0), (7, Iv x42), (13, Pv b37 0)] := hf.to ⟨rfl, rfl, rfl, trivial⟩
     refine W.ret ?_
     refine k_then_ret ?_
     obtain rfl := Option.some.inj hm
     refine post2 hf rfl (ResOK.tmp rfl) (ResOK.tmp rfl) ?_
     replace hS := hS.sub (N := []) (.cons _ (.cons _ (.cons _ .slnil)))
     exact ⟨(), rfl, hS.noB⟩
    ·replace hm := hm_n hm hc46
     refine W.skip ?_
     refine k_seq ?_
     replace hf : Fr a 109 [] [(6, Iv 0), (7, Iv 0), (13, Pv b37 0)] := hf.to ⟨rfl, rfl, rfl, trivial⟩
     refine W.seq ?_
     refine W.regionL (l := [0, 1, 2, 3, 4, 5]) rfl ?_
     refine O.val hf rfl rfl rfl (RunV.loadN (cs' := #[Bv x43, s44]) T_agg_39 T_size_39 rfl (hS.ptAt (i := 2) rfl) (Nat.le_of_ble_eq_true rfl) rfl) ?_; clear hf a; intro a hf
     obtain ⟨x47, hx47, hm⟩ := hm_b hm
     refine O.callR hf rfl rfl rfl (RunE.call (av := #[.agg #[Bv x43, s44]]) C_ok_33 rfl rfl rfl) (m_wide_Int_ok F x43 s44 x45 _ (hS.rdS (j := 1) rfl) x47 hx47) ?_
     clear hf a; rintro _ w hS1 a hf
     replace hf : Fr a _ _ ((106, .tuple #[Iv x47.1, Iv x47.2]) :: _) := hf
     replace hS := (hS.call hS1).eqM (N := [pt b10 (Cs #[Iv x42] 67), slE 98 1 E98 s44 x45, pt b37 (Cs #[Bv x43, s44] 39)]) rfl
     clear hS1
     refine O.val hf rfl rfl rfl (RunV.extract rfl rfl) ?_; clear hf a; intro a hf
     refine O.val hf rfl rfl rfl (RunV.extract rfl rfl) ?_; clear hf a; intro a hf
     refine O.val hf rfl rfl rfl (RunV.assign rfl) ?_; clear hf a; intro a hf
     refine O.val hf rfl rfl rfl (RunV.assign rfl) ?_; clear hf a; intro a hf
     refine O.nil ?_
     refine k_seq ?_
     replace hf : Fr a 109 [] [(6, Iv x47.1), (7, Iv x47.2)] := hf.to ⟨rfl, rfl, trivial⟩
     refine W.ret ?_
     obtain rfl := Option.some.inj hm
     refine post2 hf rfl (ResOK.tmp rfl) (ResOK.tmp rfl) ?_
     replace hS := hS.sub (N := []) (.cons _ (.cons _ (.cons _ .slnil)))
     exact ⟨(), rfl, hS.noB⟩

def m_law42_spreads (F : Nat)  (x1 : Int) (x2 : Int) (x3 : Int) (x4 : Int) : Option Bool :=
  (m_plan_Spread F x1 x2 x3).bind fun x5 => some ((decide (x5.2 = (0 : Int))) && (decide (x5.1 = (x4 : Int))))
set_option maxHeartbeats 1000000 in
set_option maxRecDepth 8000 in
theorem m_law42_spreads_ok (F : Nat)    (x1 : Int) (x2 : Int) (x3 : Int) (x4 : Int) (w0 : World)  (r : Bool) (hm : m_law42_spreads F x1 x2 x3 x4 = some r) :
    Ret Try.prog 20 #[Iv x1, Iv x2, Iv x3, Iv x4] w0 (G := Unit) (fun _ => Bv r) (fun _ w => St w0 w noX [] []) := by
 unfold m_law42_spreads at hm
 refine ret_of_W (lv := [Iv x1, Iv x2, Iv x3, Iv x4]) Try.func20 rfl rfl rfl (fun a hf => ?_)
 replace hf : Fr a 25 [] [(0, Iv x1), (1, Iv x2), (2, Iv x3), (3, Iv x4)] := hf
 have hS : St w0 w0 noX [] [] := St.borrow lendAll_nil
 refine W.seq ?_
 refine W.regionL (l := [0]) rfl ?_
 refine O.val hf rfl rfl rfl (RunV.assign rfl) ?_; clear hf a; intro a hf
 refine O.nil ?_
 refine k_seq ?_
 refine W.seq ?_
 refine W.regionL (l := [0, 1, 2, 3, 4, 5, 6, 7, 8]) rfl ?_
 refine O.val hf rfl rfl rfl (RunV.move rfl) ?_; clear hf a; intro a hf
 refine O.val hf rfl rfl rfl (RunV.move rfl) ?_; clear hf a; intro a hf
 refine O.val hf rfl rfl rfl (RunV.move rfl) ?_; clear hf a; intro a hf
 obtain ⟨x5, hx5, hm⟩ := hm_b hm
 refine O.callR hf rfl rfl rfl (RunE.call (av := #[Iv x1, Iv x2, Iv x3]) C_ok_10 rfl rfl rfl) (m_plan_Spread_ok F x1 x2 x3 _ x5 hx5) ?_
 clear hf a; rintro _ w hS1 a hf
 replace hf : Fr a _ _ ((15, .tuple #[Iv x5.1, Iv x5.2]) :: _) := hf
 replace hS := (hS.call hS1).eqM (N := []) rfl
 clear hS1
 refine O.val hf rfl rfl rfl (RunV.move rfl) ?_; clear hf a; intro a hf
 refine O.val hf rfl rfl rfl (RunV.extract rfl rfl) ?_; clear hf a; intro a hf
 refine O.val hf rfl rfl rfl (RunV.extract rfl rfl) ?_; clear hf a; intro a hf
 refine O.val hf rfl rfl rfl (RunV.assign rfl) ?_; clear hf a; intro a hf
 refine O.val hf rfl rfl rfl (RunV.assign rfl) ?_; clear hf a; intro a hf
 refine O.nil ?_
 refine k_seq ?_
 replace hf : Fr a 25 [] [(3, Iv x4), (8, Bv false), (9, Iv x5.1), (10, Iv x5.2)] := hf.to ⟨rfl, rfl, rfl, rfl, trivial⟩
 refine W.seq ?_
 refine W.regionL (l := [0, 1, 2, 3, 4, 5, 6, 7]) rfl ?_
 refine O.val hf rfl rfl rfl (RunV.move rfl) ?_; clear hf a; intro a hf
 refine O.val (v := Bv (decide (x5.2 = (0 : Int)))) hf rfl rfl rfl (RunV.eql rfl rfl) ?_; clear hf a; intro a hf
 refine O.val hf rfl rfl rfl (RunV.move rfl) ?_; clear hf a; intro a hf
 refine O.cutN (l₁ := [3, 4, 5, 6]) (l₂ := _) (fun a w => Fr a 25 [] [(8, Bv false), (24, Bv ((decide (x5.2 = (0 : Int))) && (decide (x5.1 = (x4 : Int)))))] ∧ St w0 w noX [] []) rfl ?_ ?_
 ·rcases Bool.eq_false_or_eq_true (decide (x5.2 = (0 : Int))) with hb6 | hb6
  ·refine O.gvalB hf rfl rfl rfl hb6 rfl rfl (RunV.move rfl) ?_; clear hf a; intro a hf
   refine O.gvalB hf rfl rfl rfl hb6 rfl rfl (RunV.move rfl) ?_; clear hf a; intro a hf
   refine O.gvalB (v := Bv (decide (x5.1 = (x4 : Int)))) hf rfl rfl rfl hb6 rfl rfl (RunV.eql rfl rfl) ?_; clear hf a; intro a hf
   refine O.val (v := Bv ((decide (x5.2 = (0 : Int))) && (decide (x5.1 = (x4 : Int))))) hf rfl rfl rfl (RunV.pick rfl rfl rfl (by rw [hb6]; rfl)) ?_; clear hf a; intro a hf
   exact O.nil ⟨rfl, hf.to ⟨rfl, rfl, trivial⟩, hS⟩
  ·refine O.skipB hf rfl rfl rfl hb6 rfl ?_; clear hf a; intro a hf
   refine O.skipB hf rfl rfl rfl hb6 rfl ?_; clear hf a; intro a hf
   refine O.skipB hf rfl rfl rfl hb6 rfl ?_; clear hf a; intro a hf
   refine O.val (v := Bv ((decide (x5.2 = (0 : Int))) && (decide (x5.1 = (x4 : Int))))) hf rfl rfl rfl (RunV.pick rfl rfl rfl (by rw [hb6]; rfl)) ?_; clear hf a; intro a hf
   exact O.nil ⟨rfl, hf.to ⟨rfl, rfl, trivial⟩, hS⟩
 clear hf hS a; try clear w
 rintro a w ⟨hf, hS⟩
 refine O.val hf rfl rfl rfl (RunV.assign rfl) ?_; clear hf a; intro a hf
 refine O.nil ?_
 refine k_seq ?_
 replace hf : Fr a 25 [] [(8, Bv ((decide (x5.2 = (0 : Int))) && (decide (x5.1 = (x4 : Int)))))] := hf.to ⟨rfl, trivial⟩
 refine W.ret ?_
 obtain rfl := Option.some.inj hm
 refine post1 hf rfl (ResOK.tmp rfl) ?_
 exact ⟨(), rfl, hS.noB⟩

def m_ref42_SameSlots_2_j1 (F : Nat)  : Option Bool :=
  some true
def m_ref42_SameSlots_2_b2 (F : Nat) (x2 : List (Int × Int)) (x4 : List (Int × Int)) (rec7 : Int → Option Bool) (x6 : Int) : Option Bool :=
  if x6 < ((x2.length : Int) : Int) then ((idx x2 x6).bind fun x9 => (idx x4 x6).bind fun x10 => if (!((x9.1 == x10.1) && ((x9.2 == x10.2) && (true)))) = true then (some false) else (rec7 (IntKind.i64.wrap (x6 + 1)))) else (m_ref42_SameSlots_2_j1 F)
def m_ref42_SameSlots_2_l2 (F : Nat) (x2 : List (Int × Int)) (x4 : List (Int × Int)) : Nat → Int → Option Bool
  | 0, _ => none
  | n + 1, x6 => m_ref42_SameSlots_2_b2 F x2 x4 (m_ref42_SameSlots_2_l2 F x2 x4 n) x6
def m_ref42_SameSlots_2 (F : Nat)  (x2 : List (Int × Int)) (x4 : List (Int × Int)) : Option Bool :=
  if (x2.length : Int) ≠ ((x4.length : Int) : Int) then (some false) else (m_ref42_SameSlots_2_l2 F x2 x4 F 0)
set_option maxHeartbeats 1000000 in
set_option maxRecDepth 8000 in
theorem m_ref42_SameSlots_2_ok (F : Nat)    (s1 : Value) (x2 : List (Int × Int)) (s3 : Value) (x4 : List (Int × Int)) (w0 : World) (h_s1 : rdEOK (hp w0) 2 E33 s1 x2) (h_s3 : rdEOK (hp w0) 2 E33 s3 x4) (r : Bool) (hm : m_ref42_SameSlots_2 F x2 x4 = some r) :
    Ret Try.prog 17 #[s1, s3] w0 (G := Unit) (fun _ => Bv r) (fun _ w => St w0 w noX [] []) := by
 unfold m_ref42_SameSlots_2 at hm
 refine ret_of_W (lv := [s1, s3]) Try.func17 rfl rfl rfl (fun a hf => ?_)
 replace hf : Fr a 26 [] [(0, s1), (1, s3)] := hf
 have hS : St w0 w0 noX [rdE 2 E33 s1 x2, rdE 2 E33 s3 x4] [] := St.borrow (lendAll_cons (lendRd h_s1) (lendAll_cons (lendRd h_s3) lendAll_nil))
 refine W.seq ?_
 refine W.regionL (l := [0]) rfl ?_
 refine O.val hf rfl rfl rfl (RunV.assign rfl) ?_; clear hf a; intro a hf
 refine O.nil ?_
 refine k_seq ?_
 refine W.seq ?_
 refine W.seq ?_
 refine W.regionL (l := [0, 1, 2, 3, 4]) rfl ?_
 refine O.val hf rfl rfl rfl (RunV.move rfl) ?_; clear hf a; intro a hf
 refine O.val (v := Iv (x2.length : Int)) hf rfl rfl rfl (RunV.lenE (e := 33) (by simpa using T_elem_27) rfl (hS.rdB (j := 0) rfl)) ?_; clear hf a; intro a hf
 refine O.val hf rfl rfl rfl (RunV.move rfl) ?_; clear hf a; intro a hf
 refine O.val (v := Iv (x4.length : Int)) hf rfl rfl rfl (RunV.lenE (e := 33) (by simpa using T_elem_27) rfl (hS.rdB (j := 1) rfl)) ?_; clear hf a; intro a hf
 refine O.val (v := Bv (decide ((x2.length : Int) ≠ ((x4.length : Int) : Int)))) hf rfl rfl rfl (RunV.neq rfl rfl) ?_; clear hf a; intro a hf
 refine O.nil ?_
 refine k_seq ?_
 replace hf : Fr a 26 [] [(0, s1), (1, s3), (4, Bv false), (10, Bv (decide ((x2.length : Int) ≠ ((x4.length : Int) : Int))))] := hf.to ⟨rfl, rfl, rfl, rfl, trivial⟩
 refine W.ifdI hf rfl (fun hc5 => ?_) (fun hc5 => ?_)
 ·replace hm := hm_p hm hc5
  refine W.seq ?_
  refine W.regionL (l := [0]) rfl ?_
  refine O.val hf rfl rfl rfl (RunV.assign rfl) ?_; clear hf a; intro a hf
  refine O.nil ?_
  refine k_seq ?_
  replace hf : Fr a 26 [] [(0, s1), (1, s3), (4, Bv false)] := hf.to ⟨rfl, rfl, rfl, trivial⟩
  refine W.ret ?_
  refine k_then_ret ?_
  obtain rfl := Option.some.inj hm
  refine post1 hf rfl (ResOK.tmp rfl) ?_
  exact ⟨(), rfl, hS.noB⟩
 ·replace hm := hm_n hm hc5
  refine W.skip ?_
  refine k_seq ?_
  replace hf : Fr a 26 [] [(0, s1), (1, s3), (4, Bv false)] := hf.to ⟨rfl, rfl, rfl, trivial⟩
  refine W.seqR (fun a w => Fr a 26 [] [(4, Bv false)] ∧ St w0 w noX [rdE 2 E33 s1 x2, rdE 2 E33 s3 x4] [] ∧ m_ref42_SameSlots_2_j1 F = some r) ?_ ?_
  ·refine W.seq ?_
   refine W.regionL (l := [0]) rfl ?_
   refine O.val hf rfl rfl rfl (RunV.assign rfl) ?_; clear hf a; intro a hf
   refine O.nil ?_
   refine k_seq ?_
   refine W.block ?_
   refine W.loop (G := Nat × Int) (fun g a w => match g with | (k7, x6) => Fr a 26 [] [(0, s1), (1, s3), (4, Bv false), (5, Iv x6)] ∧ St w0 w noX [rdE 2 E33 s1 x2, rdE 2 E33 s3 x4] [] ∧ m_ref42_SameSlots_2_l2 F x2 x4 k7 x6 = some r) (fun g => match g with | (k7, x6) => k7) (F, 0) ⟨hf.to ⟨rfl, rfl, rfl, rfl, trivial⟩, hS, hm⟩ ?_
   clear hf hS hm a; try clear w
   rintro ⟨k7, x6⟩ a w ⟨hf, hS, hm⟩
   rcases k7 with _ | k7
   · exact absurd (show none = some r from hm) (by simp)
   replace hm : m_ref42_SameSlots_2_b2 F x2 x4 (m_ref42_SameSlots_2_l2 F x2 x4 k7) x6 = some r := hm
   obtain ⟨rec7, hrec7⟩ : ∃ f, f = m_ref42_SameSlots_2_l2 F x2 x4 k7 := ⟨_, rfl⟩
   rw [← hrec7] at hm; unfold m_ref42_SameSlots_2_b2 at hm
   refine W.seq ?_
   refine W.seq ?_
   refine W.regionL (l := [0, 1, 2, 3]) rfl ?_
   refine O.val hf rfl rfl rfl (RunV.move rfl) ?_; clear hf a; intro a hf
   refine O.val hf rfl rfl rfl (RunV.move rfl) ?_; clear hf a; intro a hf
   refine O.val (v := Iv (x2.length : Int)) hf rfl rfl rfl (RunV.lenE (e := 33) (by simpa using T_elem_27) rfl (hS.rdB (j := 0) rfl)) ?_; clear hf a; intro a hf
   refine O.val (v := Bv (decide (x6 < ((x2.length : Int) : Int)))) hf rfl rfl rfl (RunV.lss rfl rfl) ?_; clear hf a; intro a hf
   refine O.nil ?_
   refine k_seq ?_
   refine W.ifdI hf rfl (fun hc8 => ?_) (fun hc8 => ?_)
   ·replace hm := hm_p hm hc8
    refine W.skip ?_
    refine k_seq ?_
    refine W.seq ?_
    refine W.block ?_
    refine W.seq ?_
    obtain ⟨x9, hx9, hm⟩ := hm_b hm
    obtain ⟨x10, hx10, hm⟩ := hm_b hm
    refine W.drawQ (fun w => St w0 w noX [rdE 2 E33 s1 x2, rdE 2 E33 s3 x4] []) P_mixed rfl (by kernel_rfl) rfl hS.drew ?_
    clear hS; try clear w
    refine OQ.val (v := s1) hf rfl (fun w hS => RunV.move rfl) ?_; clear hf a; intro a hf
    refine OQ.val (v := Iv x6) hf rfl (fun w hS => RunV.move rfl) ?_; clear hf a; intro a hf
    refine OQ.val (v := ix s1 (Int.toNat x6 * 2)) hf rfl (fun w hS => RunV.ixE T_elem_27 T_size_33 rfl rfl (hS.rdB (j := 0) rfl) hx9) ?_; clear hf a; intro a hf
    refine OQ.val (v := .agg #[Iv x9.1, Iv x9.2]) hf rfl (fun w hS => RunV.ldEN (us := [Iv x9.1, Iv x9.2]) (o := 0) T_agg_33 T_size_33 rfl E33_len rfl (hS.rdB (j := 0) rfl) hx9 rfl rfl rfl) ?_; clear hf a; intro a hf
    refine OQ.val (v := s3) hf rfl (fun w hS => RunV.move rfl) ?_; clear hf a; intro a hf
    refine OQ.val (v := Iv x6) hf rfl (fun w hS => RunV.move rfl) ?_; clear hf a; intro a hf
    refine OQ.val (v := ix s3 (Int.toNat x6 * 2)) hf rfl (fun w hS => RunV.ixE T_elem_27 T_size_33 rfl rfl (hS.rdB (j := 1) rfl) hx10) ?_; clear hf a; intro a hf
    refine OQ.val (v := .agg #[Iv x10.1, Iv x10.2]) hf rfl (fun w hS => RunV.ldEN (us := [Iv x10.1, Iv x10.2]) (o := 0) T_agg_33 T_size_33 rfl E33_len rfl (hS.rdB (j := 1) rfl) hx10 rfl rfl rfl) ?_; clear hf a; intro a hf
    refine OQ.val (v := Bv (!((x9.1 == x10.1) && ((x9.2 == x10.2) && (true))))) hf rfl (fun w hS => RunV.neAgg (d := 10) rfl T_eqg_33 rfl rfl (EqR.struct (d := 9999) T_fs_33 (EqL.cons (PartR.one (v := Iv x9.1) T_agg_3 rfl) (PartR.one (v := Iv x10.1) T_agg_3 rfl) (EqR.int (d := 9998) T_int_3) (EqL.cons (PartR.one (v := Iv x9.2) T_agg_2 rfl) (PartR.one (v := Iv x10.2) T_agg_2 rfl) (EqR.int (d := 9998) T_int_2) EqL.nil)))) ?_; clear hf a; intro a hf
    refine OQ.nil ?_; intro w hS
    refine k_seq ?_
    refine W.if_ hf rfl (fun hc11 => ?_) (fun hc11 => ?_)
    ·replace hm := hm_t hm hc11
     refine W.seq ?_
     refine W.regionL (l := [0]) rfl ?_
     refine O.val hf rfl rfl rfl (RunV.assign rfl) ?_; clear hf a; intro a hf
     refine O.nil ?_
     refine k_seq ?_
     refine W.ret ?_
     refine k_blk_ret ?_
     refine k_then_ret ?_
     refine k_then_ret ?_
     refine k_blk_ret ?_
     refine k_then_ret ?_
     obtain rfl := Option.some.inj hm
     refine post1 hf rfl (ResOK.tmp rfl) ?_
     exact ⟨(), rfl, hS.noB⟩
    ·replace hm := hm_f hm hc11
     refine W.skip ?_
     refine k_blk_normal ?_
     refine k_seq ?_
     refine W.regionL (l := [0, 1, 2]) rfl ?_
     refine O.val hf rfl rfl rfl (RunV.move rfl) ?_; clear hf a; intro a hf
     refine O.val (v := Iv (IntKind.i64.wrap (x6 + 1))) hf rfl rfl rfl (RunV.add rfl rfl) ?_; clear hf a; intro a hf
     refine O.val hf rfl rfl rfl (RunV.assign rfl) ?_; clear hf a; intro a hf
     refine O.nil ?_
     refine k_then ⟨(k7, IntKind.i64.wrap (x6 + 1)), ⟨hf.to ⟨rfl, rfl, rfl, rfl, trivial⟩, hS, ?_⟩, Nat.lt_succ_self _⟩
     rw [hrec7] at hm; exact hm
   ·replace hm := hm_n hm hc8
    refine W.exit ?_
    refine k_then_exit ?_
    refine k_then_exit ?_
    refine k_blk ?_
    exact k_then ⟨hf.to ⟨rfl, trivial⟩, hS, hm⟩
  ·clear hf hS hm a; try clear w
   rintro a w ⟨hf, hS, hm⟩
   unfold m_ref42_SameSlots_2_j1 at hm
   refine W.seq ?_
   refine W.regionL (l := [0]) rfl ?_
   refine O.val hf rfl rfl rfl (RunV.assign rfl) ?_; clear hf a; intro a hf
   refine O.nil ?_
   refine k_seq ?_
   refine W.ret ?_
   obtain rfl := Option.some.inj hm
   refine post1 hf rfl (ResOK.tmp rfl) ?_
   exact ⟨(), rfl, hS.noB⟩

def m_law42_alive_j1 (F : Nat) (x9 : Bool) : Option Bool :=
  some x9
def m_law42_alive_j2 (F : Nat) (x3 : (List (Int × Int)) × Int × Int) (x6 : Bool) : Option Bool :=
  if ((x6 && (decide (x3.2.2 = (0 : Int)))) && (decide (x3.2.1 = (7 : Int)))) = true then ((m_ref42_SameSlots_2 F x3.1 ([(0, 0), (2, 5)])).bind fun x13 => m_law42_alive_j1 F x13) else (m_law42_alive_j1 F false)
def m_law42_alive (F : Nat)   : Option Bool :=
  (m_law42_given F).bind fun x1 => (m_plan_Best F x1).bind fun x3 => (m_law42_spreads F 3000 4000 86400000000 5000).bind fun x5 => if (x5) = true then ((m_law42_spreads F 1 1 86400000000 2).bind fun x15 => m_law42_alive_j2 F x3 x15) else (m_law42_alive_j2 F x3 false)
set_option maxHeartbeats 1000000 in
set_option maxRecDepth 8000 in
theorem m_law42_alive_ok (F : Nat)     (w0 : World)  (r : Bool) (hm : m_law42_alive F = some r) :
    Ret Try.prog 7 #[] w0 (G := Unit) (fun _ => Bv r) (fun _ w => St w0 w noX [] []) := by
 unfold m_law42_alive at hm
 refine ret_of_W (lv := []) Try.func7 rfl rfl rfl (fun a hf => ?_)
 replace hf : Fr a 29 [] [] := hf
 have hS : St w0 w0 noX [] [] := St.borrow lendAll_nil
 refine W.seq ?_
 refine W.regionL (l := [0]) rfl ?_
 refine O.val hf rfl rfl rfl (RunV.assign rfl) ?_; clear hf a; intro a hf
 refine O.nil ?_
 refine k_seq ?_
 refine W.seq ?_
 refine W.regionL (l := [0, 1, 2, 3, 4, 5, 6, 7, 8]) rfl ?_
 obtain ⟨x1, hx1, hm⟩ := hm_b hm
 refine O.callR hf rfl rfl rfl (RunE.call (av := #[]) C_ok_19 rfl rfl rfl) (m_law42_given_ok F _ x1 hx1) ?_
 clear hf a; rintro s2 w hS1 a hf
 replace hf : Fr a _ _ ((5, s2) :: _) := hf
 replace hS := (hS.call hS1).eqM (N := [slE 24 4 E24 s2 x1]) rfl
 clear hS1
 obtain ⟨x3, hx3, hm⟩ := hm_b hm
 refine O.callR hf rfl rfl rfl (RunE.call (av := #[s2]) C_ok_9 rfl rfl rfl) (m_plan_Best_ok F s2 x1 _ (hS.rdS (j := 0) rfl) x3 hx3) ?_
 clear hf a; rintro s4 w hS1 a hf
 replace hf : Fr a _ _ ((6, .tuple #[s4, Iv x3.2.1, Iv x3.2.2]) :: _) := hf
 replace hS := (hS.call hS1).eqM (N := [slE 33 2 E33 s4 x3.1, slE 24 4 E24 s2 x1]) rfl
 clear hS1
 refine O.val hf rfl rfl rfl (RunV.move rfl) ?_; clear hf a; intro a hf
 refine O.val hf rfl rfl rfl (RunV.extract rfl rfl) ?_; clear hf a; intro a hf
 refine O.val hf rfl rfl rfl (RunV.extract rfl rfl) ?_; clear hf a; intro a hf
 refine O.val hf rfl rfl rfl (RunV.extract rfl rfl) ?_; clear hf a; intro a hf
 refine O.val hf rfl rfl rfl (RunV.assign rfl) ?_; clear hf a; intro a hf
 refine O.val hf rfl rfl rfl (RunV.assign rfl) ?_; clear hf a; intro a hf
 refine O.val hf rfl rfl rfl (RunV.assign rfl) ?_; clear hf a; intro a hf
 refine O.nil ?_
 refine k_seq ?_
 replace hf : Fr a 29 [] [(0, Bv false), (1, s4), (2, Iv x3.2.1), (3, Iv x3.2.2)] := hf.to ⟨rfl, rfl, rfl, rfl, trivial⟩
 refine W.seq ?_
 refine W.regionL (l := [0, 1, 2, 3, 4, 5, 6, 7, 8, 9, 10, 11, 12, 13, 14, 15, 16, 17, 18, 19]) rfl ?_
 obtain ⟨x5, hx5, hm⟩ := hm_b hm
 refine O.callR hf rfl rfl rfl (RunE.call (av := #[Iv 3000, Iv 4000, Iv 86400000000, Iv 5000]) C_ok_20 rfl rfl rfl) (m_law42_spreads_ok F 3000 4000 86400000000 5000 _ x5 hx5) ?_
 clear hf a; rintro _ w hS1 a hf
 replace hf : Fr a _ _ ((10, Bv x5) :: _) := hf
 replace hS := (hS.call hS1).eqM (N := [slE 33 2 E33 s4 x3.1, slE 24 4 E24 s2 x1]) rfl
 clear hS1
 refine O.val hf rfl rfl rfl (RunV.move rfl) ?_; clear hf a; intro a hf
 refine O.cutN (l₁ := [2, 3]) (l₂ := _) (fun a w => ∃ (x6 : Bool), Fr a 29 [] [(0, Bv false), (1, s4), (2, Iv x3.2.1), (3, Iv x3.2.2), (13, Bv x6)] ∧ St w0 w noX [] [slE 33 2 E33 s4 x3.1] ∧ m_law42_alive_j2 F x3 x6 = some r) rfl ?_ ?_
 ·rcases Bool.eq_false_or_eq_true (x5) with hb14 | hb14
  ·replace hm := hm_t hm hb14
   obtain ⟨x15, hx15, hm⟩ := hm_b hm
   refine O.gcallR hf rfl rfl rfl hb14 rfl rfl (RunE.call (av := #[Iv 1, Iv 1, Iv 86400000000, Iv 2]) C_ok_20 rfl rfl rfl) (m_law42_spreads_ok F 1 1 86400000000 2 _ x15 hx15) ?_
   clear hf a; rintro _ w hS1 a hf
   replace hf : Fr a _ _ ((12, Bv x15) :: _) := hf
   replace hS := (hS.call hS1).eqM (N := [slE 33 2 E33 s4 x3.1, slE 24 4 E24 s2 x1]) rfl
   clear hS1
   refine O.val (v := Bv x15) hf rfl rfl rfl (RunV.pick rfl rfl rfl (by rw [hb14]; rfl)) ?_; clear hf a; intro a hf
   replace hS := hS.sub (N := [slE 33 2 E33 s4 x3.1]) (.cons_cons _ (.cons _ .slnil))
   exact O.nil ⟨rfl, x15, hf.to ⟨rfl, rfl, rfl, rfl, rfl, trivial⟩, hS, hm⟩
  ·replace hm := hm_f hm hb14
   refine O.skipB hf rfl rfl rfl hb14 rfl ?_; clear hf a; intro a hf
   refine O.val (v := Bv false) hf rfl rfl rfl (RunV.pick rfl rfl rfl (by rw [hb14]; rfl)) ?_; clear hf a; intro a hf
   replace hS := hS.sub (N := [slE 33 2 E33 s4 x3.1]) (.cons_cons _ (.cons _ .slnil))
   exact O.nil ⟨rfl, false, hf.to ⟨rfl, rfl, rfl, rfl, rfl, trivial⟩, hS, hm⟩
 clear hf hS hm a; try clear w
 rintro a w ⟨x6, hf, hS, hm⟩
 unfold m_law42_alive_j2 at hm
 refine O.val hf rfl rfl rfl (RunV.move rfl) ?_; clear hf a; intro a hf
 refine O.cutN (l₁ := [5, 6, 7]) (l₂ := _) (fun a w => Fr a 29 [] [(0, Bv false), (1, s4), (2, Iv x3.2.1), (17, Bv (x6 && (decide (x3.2.2 = (0 : Int)))))] ∧ St w0 w noX [] [slE 33 2 E33 s4 x3.1]) rfl ?_ ?_
 ·rcases Bool.eq_false_or_eq_true (x6) with hb7 | hb7
  ·refine O.gvalB hf rfl rfl rfl hb7 rfl rfl (RunV.move rfl) ?_; clear hf a; intro a hf
   refine O.gvalB (v := Bv (decide (x3.2.2 = (0 : Int)))) hf rfl rfl rfl hb7 rfl rfl (RunV.eql rfl rfl) ?_; clear hf a; intro a hf
   refine O.val (v := Bv (x6 && (decide (x3.2.2 = (0 : Int))))) hf rfl rfl rfl (RunV.pick rfl rfl rfl (by rw [hb7]; rfl)) ?_; clear hf a; intro a hf
   exact O.nil ⟨rfl, hf.to ⟨rfl, rfl, rfl, rfl, trivial⟩, hS⟩
  ·refine O.skipB hf rfl rfl rfl hb7 rfl ?_; clear hf a; intro a hf
   refine O.skipB hf rfl rfl rfl hb7 rfl ?_; clear hf a; intro a hf
   refine O.val (v := Bv (x6 && (decide (x3.2.2 = (0 : Int))))) hf rfl rfl rfl (RunV.pick rfl rfl rfl (by rw [hb7]; rfl)) ?_; clear hf a; intro a hf
   exact O.nil ⟨rfl, hf.to ⟨rfl, rfl, rfl, rfl, trivial⟩, hS⟩
 clear hf hS a; try clear w
 rintro a w ⟨hf, hS⟩
 refine O.val hf rfl rfl rfl (RunV.move rfl) ?_; clear hf a; intro a hf
 refine O.cutN (l₁ := [9, 10, 11]) (l₂ := _) (fun a w => Fr a 29 [] [(0, Bv false), (1, s4), (21, Bv ((x6 && (decide (x3.2.2 = (0 : Int)))) && (decide (x3.2.1 = (7 : Int)))))] ∧ St w0 w noX [] [slE 33 2 E33 s4 x3.1]) rfl ?_ ?_
 ·rcases Bool.eq_false_or_eq_true (x6 && (decide (x3.2.2 = (0 : Int)))) with hb8 | hb8
  ·refine O.gvalB hf rfl rfl rfl hb8 rfl rfl (RunV.move rfl) ?_; clear hf a; intro a hf
   refine O.gvalB (v := Bv (decide (x3.2.1 = (7 : Int)))) hf rfl rfl rfl hb8 rfl rfl (RunV.eql rfl rfl) ?_; clear hf a; intro a hf
   refine O.val (v := Bv ((x6 && (decide (x3.2.2 = (0 : Int)))) && (decide (x3.2.1 = (7 : Int))))) hf rfl rfl rfl (RunV.pick rfl rfl rfl (by rw [hb8]; rfl)) ?_; clear hf a; intro a hf
   exact O.nil ⟨rfl, hf.to ⟨rfl, rfl, rfl, trivial⟩, hS⟩
  ·refine O.skipB hf rfl rfl rfl hb8 rfl ?_; clear hf a; intro a hf
   refine O.skipB hf rfl rfl rfl hb8 rfl ?_; clear hf a; intro a hf
   refine O.val (v := Bv ((x6 && (decide (x3.2.2 = (0 : Int)))) && (decide (x3.2.1 = (7 : Int))))) hf rfl rfl rfl (RunV.pick rfl rfl rfl (by rw [hb8]; rfl)) ?_; clear hf a; intro a hf
   exact O.nil ⟨rfl, hf.to ⟨rfl, rfl, rfl, trivial⟩, hS⟩
 clear hf hS a; try clear w
 rintro a w ⟨hf, hS⟩
 refine O.val hf rfl rfl rfl (RunV.move rfl) ?_; clear hf a; intro a hf
 refine O.cutN (l₁ := [13, 14, 15, 16, 17, 18]) (l₂ := _) (fun a w => ∃ (x9 : Bool), Fr a 29 [] [(0, Bv false), (28, Bv x9)] ∧ St w0 w noX [] [] ∧ m_law42_alive_j1 F x9 = some r) rfl ?_ ?_
 ·rcases Bool.eq_false_or_eq_true ((x6 && (decide (x3.2.2 = (0 : Int)))) && (decide (x3.2.1 = (7 : Int)))) with hb10 | hb10
  ·replace hm := hm_t hm hb10
   refine O.gvalB hf rfl rfl rfl hb10 rfl rfl (RunV.move rfl) ?_; clear hf a; intro a hf
   refine O.gvalB (v := .agg #[Iv 0, Iv 0]) hf rfl rfl rfl hb10 rfl rfl (RunV.buildS (cs' := #[Iv 0, Iv 0]) T_places_33 T_zero_33 rfl (by kernel_rfl)) ?_; clear hf a; intro a hf
   refine O.gvalB (v := .agg #[Iv 2, Iv 5]) hf rfl rfl rfl hb10 rfl rfl (RunV.buildS (cs' := #[Iv 2, Iv 5]) T_places_33 T_zero_33 rfl (by kernel_rfl)) ?_; clear hf a; intro a hf
   refine O.unguard hf rfl rfl rfl hb10 ?_
   refine O.buildSlice (cs' := #[Iv 0, Iv 0, Iv 2, Iv 5]) (zs := #[Iv 0, Iv 0, Iv 0, Iv 0]) hf hS rfl rfl T_elem_27 T_size_33 T_zero_33 rfl rfl rfl rfl rfl ?_
   clear hf hS a; intro b11 w a hb11 hS hf
   refine O.nil ⟨rfl, ?_⟩
   replace hS := hS.ptE (j := 0) (enc := E33) (xs := [(0, 0), (2, 5)]) (N := 2) (M' := [slE 33 2 E33 (.slice (some ⟨b11, 0, none⟩) 2 2) ([(0, 0), (2, 5)]), slE 33 2 E33 s4 x3.1]) rfl rfl rfl rfl rfl rfl
   obtain ⟨s12, hs12⟩ : ∃ v, v = (.slice (some ⟨b11, 0, none⟩) 2 2 : Value) := ⟨_, rfl⟩
   rw [← hs12] at hf hS
   replace hS : St w0 _ noX [] [slE 33 2 E33 s12 ([(0, 0), (2, 5)]), slE 33 2 E33 s4 x3.1] := hS
   replace hf : Fr a 29 [] [(0, Bv false), (1, s4), (21, Bv ((x6 && (decide (x3.2.2 = (0 : Int)))) && (decide (x3.2.1 = (7 : Int))))), (22, Bv ((x6 && (decide (x3.2.2 = (0 : Int)))) && (decide (x3.2.1 = (7 : Int))))), (23, s4), (24, .agg #[Iv 0, Iv 0]), (25, .agg #[Iv 2, Iv 5]), (26, s12)] := hf.to ⟨rfl, rfl, rfl, rfl, rfl, rfl, rfl, rfl, trivial⟩
   obtain ⟨x13, hx13, hm⟩ := hm_b hm
   refine O.gcallR hf rfl rfl rfl hb10 rfl rfl (RunE.call (av := #[s4, s12]) C_ok_17 rfl rfl rfl) (m_ref42_SameSlots_2_ok F s4 x3.1 s12 ([(0, 0), (2, 5)]) _ (hS.rdS (j := 1) rfl) (hS.rdS (j := 0) rfl) x13 hx13) ?_
   clear hf a; rintro _ w hS1 a hf
   replace hf : Fr a _ _ ((27, Bv x13) :: _) := hf
   replace hS := (hS.call hS1).eqM (N := [slE 33 2 E33 s12 ([(0, 0), (2, 5)]), slE 33 2 E33 s4 x3.1]) rfl
   clear hS1
   refine O.val (v := Bv x13) hf rfl rfl rfl (RunV.pick rfl rfl rfl (by rw [hb10]; rfl)) ?_; clear hf a; intro a hf
   replace hS := hS.sub (N := []) (.cons _ (.cons _ .slnil))
   exact O.nil ⟨rfl, x13, hf.to ⟨rfl, rfl, trivial⟩, hS, hm⟩
  ·replace hm := hm_f hm hb10
   refine O.skipB hf rfl rfl rfl hb10 rfl ?_; clear hf a; intro a hf
   refine O.skipB hf rfl rfl rfl hb10 rfl ?_; clear hf a; intro a hf
   refine O.skipB hf rfl rfl rfl hb10 rfl ?_; clear hf a; intro a hf
   refine O.skipB hf rfl rfl rfl hb10 rfl ?_; clear hf a; intro a hf
   refine O.skipB hf rfl rfl rfl hb10 rfl ?_; clear hf a; intro a hf
   refine O.val (v := Bv false) hf rfl rfl rfl (RunV.pick rfl rfl rfl (by rw [hb10]; rfl)) ?_; clear hf a; intro a hf
   replace hS := hS.sub (N := []) (.cons _ .slnil)
   exact O.nil ⟨rfl, false, hf.to ⟨rfl, rfl, trivial⟩, hS, hm⟩
 clear hf hS hm a; try clear w
 rintro a w ⟨x9, hf, hS, hm⟩
 unfold m_law42_alive_j1 at hm
 refine O.val hf rfl rfl rfl (RunV.assign rfl) ?_; clear hf a; intro a hf
 refine O.nil ?_
 refine k_seq ?_
 replace hf : Fr a 29 [] [(0, Bv x9)] := hf.to ⟨rfl, trivial⟩
 refine W.ret ?_
 obtain rfl := Option.some.inj hm
 refine post1 hf rfl (ResOK.tmp rfl) ?_
 exact ⟨(), rfl, hS.noB⟩

def m_law42_great (F : Nat)  (x2 : List (Int × Int × Int × Int)) : Option Bool :=
  some (((decide ((x2.length : Int) > (5 : Int))) && (decide ((x2.length : Int) ≤ (8 : Int)))) || (decide ((x2.length : Int) > (20 : Int))))
set_option maxHeartbeats 1000000 in
set_option maxRecDepth 8000 in
theorem m_law42_great_ok (F : Nat)    (s1 : Value) (x2 : List (Int × Int × Int × Int)) (w0 : World) (h_s1 : rdEOK (hp w0) 4 E24 s1 x2) (r : Bool) (hm : m_law42_great F x2 = some r) :
    Ret Try.prog 15 #[s1] w0 (G := Unit) (fun _ => Bv r) (fun _ w => St w0 w noX [] []) := by
 unfold m_law42_great at hm
 refine ret_of_W (lv := [s1]) Try.func15 rfl rfl rfl (fun a hf => ?_)
 replace hf : Fr a 16 [] [(0, s1)] := hf
 have hS : St w0 w0 noX [rdE 4 E24 s1 x2] [] := St.borrow (lendAll_cons (lendRd h_s1) lendAll_nil)
 refine W.seq ?_
 refine W.regionL (l := [0]) rfl ?_
 refine O.val hf rfl rfl rfl (RunV.assign rfl) ?_; clear hf a; intro a hf
 refine O.nil ?_
 refine k_seq ?_
 refine W.seq ?_
 refine W.regionL (l := [0, 1, 2, 3, 4, 5, 6, 7, 8, 9, 10, 11, 12, 13]) rfl ?_
 refine O.val hf rfl rfl rfl (RunV.move rfl) ?_; clear hf a; intro a hf
 refine O.val (v := Iv (x2.length : Int)) hf rfl rfl rfl (RunV.lenE (e := 24) (by simpa using T_elem_22) rfl (hS.rdB (j := 0) rfl)) ?_; clear hf a; intro a hf
 refine O.val (v := Bv (decide ((x2.length : Int) > (5 : Int)))) hf rfl rfl rfl (RunV.gtr rfl rfl) ?_; clear hf a; intro a hf
 refine O.val hf rfl rfl rfl (RunV.move rfl) ?_; clear hf a; intro a hf
 refine O.cutN (l₁ := [4, 5, 6, 7]) (l₂ := _) (fun a w => Fr a 16 [] [(0, s1), (2, Bv false), (10, Bv ((decide ((x2.length : Int) > (5 : Int))) && (decide ((x2.length : Int) ≤ (8 : Int)))))] ∧ St w0 w noX [rdE 4 E24 s1 x2] []) rfl ?_ ?_
 ·rcases Bool.eq_false_or_eq_true (decide ((x2.length : Int) > (5 : Int))) with hb3 | hb3
  ·refine O.gvalB hf rfl rfl rfl hb3 rfl rfl (RunV.move rfl) ?_; clear hf a; intro a hf
   refine O.gvalB (v := Iv (x2.length : Int)) hf rfl rfl rfl hb3 rfl rfl (RunV.lenE (e := 24) (by simpa using T_elem_22) rfl (hS.rdB (j := 0) rfl)) ?_; clear hf a; intro a hf
   refine O.gvalB (v := Bv (decide ((x2.length : Int) ≤ (8 : Int)))) hf rfl rfl rfl hb3 rfl rfl (RunV.leq rfl rfl) ?_; clear hf a; intro a hf
   refine O.val (v := Bv ((decide ((x2.length : Int) > (5 : Int))) && (decide ((x2.length : Int) ≤ (8 : Int))))) hf rfl rfl rfl (RunV.pick rfl rfl rfl (by rw [hb3]; rfl)) ?_; clear hf a; intro a hf
   exact O.nil ⟨rfl, hf.to ⟨rfl, rfl, rfl, trivial⟩, hS⟩
  ·refine O.skipB hf rfl rfl rfl hb3 rfl ?_; clear hf a; intro a hf
   refine O.skipB hf rfl rfl rfl hb3 rfl ?_; clear hf a; intro a hf
   refine O.skipB hf rfl rfl rfl hb3 rfl ?_; clear hf a; intro a hf
   refine O.val (v := Bv ((decide ((x2.length : Int) > (5 : Int))) && (decide ((x2.length : Int) ≤ (8 : Int))))) hf rfl rfl rfl (RunV.pick rfl rfl rfl (by rw [hb3]; rfl)) ?_; clear hf a; intro a hf
   exact O.nil ⟨rfl, hf.to ⟨rfl, rfl, rfl, trivial⟩, hS⟩
 clear hf hS a; try clear w
 rintro a w ⟨hf, hS⟩
 refine O.val hf rfl rfl rfl (RunV.move rfl) ?_; clear hf a; intro a hf
 refine O.cutN (l₁ := [9, 10, 11, 12]) (l₂ := _) (fun a w => Fr a 16 [] [(2, Bv false), (15, Bv (((decide ((x2.length : Int) > (5 : Int))) && (decide ((x2.length : Int) ≤ (8 : Int)))) || (decide ((x2.length : Int) > (20 : Int)))))] ∧ St w0 w noX [rdE 4 E24 s1 x2] []) rfl ?_ ?_
 ·rcases Bool.eq_false_or_eq_true ((decide ((x2.length : Int) > (5 : Int))) && (decide ((x2.length : Int) ≤ (8 : Int)))) with hb4 | hb4
  ·refine O.skipB hf rfl rfl rfl hb4 rfl ?_; clear hf a; intro a hf
   refine O.skipB hf rfl rfl rfl hb4 rfl ?_; clear hf a; intro a hf
   refine O.skipB hf rfl rfl rfl hb4 rfl ?_; clear hf a; intro a hf
   refine O.val (v := Bv (((decide ((x2.length : Int) > (5 : Int))) && (decide ((x2.length : Int) ≤ (8 : Int)))) || (decide ((x2.length : Int) > (20 : Int))))) hf rfl rfl rfl (RunV.pick rfl rfl rfl (by rw [hb4]; rfl)) ?_; clear hf a; intro a hf
   exact O.nil ⟨rfl, hf.to ⟨rfl, rfl, trivial⟩, hS⟩
  ·refine O.gvalB hf rfl rfl rfl hb4 rfl rfl (RunV.move rfl) ?_; clear hf a; intro a hf
   refine O.gvalB (v := Iv (x2.length : Int)) hf rfl rfl rfl hb4 rfl rfl (RunV.lenE (e := 24) (by simpa using T_elem_22) rfl (hS.rdB (j := 0) rfl)) ?_; clear hf a; intro a hf
   refine O.gvalB (v := Bv (decide ((x2.length : Int) > (20 : Int)))) hf rfl rfl rfl hb4 rfl rfl (RunV.gtr rfl rfl) ?_; clear hf a; intro a hf
   refine O.val (v := Bv (((decide ((x2.length : Int) > (5 : Int))) && (decide ((x2.length : Int) ≤ (8 : Int)))) || (decide ((x2.length : Int) > (20 : Int))))) hf rfl rfl rfl (RunV.pick rfl rfl rfl (by rw [hb4]; rfl)) ?_; clear hf a; intro a hf
   exact O.nil ⟨rfl, hf.to ⟨rfl, rfl, trivial⟩, hS⟩
 clear hf hS a; try clear w
 rintro a w ⟨hf, hS⟩
 refine O.val hf rfl rfl rfl (RunV.assign rfl) ?_; clear hf a; intro a hf
 refine O.nil ?_
 refine k_seq ?_
 replace hf : Fr a 16 [] [(2, Bv (((decide ((x2.length : Int) > (5 : Int))) && (decide ((x2.length : Int) ≤ (8 : Int)))) || (decide ((x2.length : Int) > (20 : Int)))))] := hf.to ⟨rfl, trivial⟩
 refine W.ret ?_
 obtain rfl := Option.some.inj hm
 refine post1 hf rfl (ResOK.tmp rfl) ?_
 exact ⟨(), rfl, hS.noB⟩

def m_ref42_Check_j1 (F : Nat)  : Option Int :=
  some 0
def m_ref42_Check_b2 (F : Nat) (x2 : List (Int × Int × Int × Int)) (rec5 : Int → Option Int) (x4 : Int) : Option Int :=
  if x4 < ((x2.length : Int) : Int) then ((idx x2 x4).bind fun x7 => if ((((((((decide (x7.1 < (-5000000000000000 : Int))) || (decide (x7.1 > (5000000000000000 : Int)))) || (decide (x7.2.1 < (-5000000000000000 : Int)))) || (decide (x7.2.1 > (5000000000000000 : Int)))) || (decide (x7.2.2.1 < (1 : Int)))) || (decide (x7.2.2.1 > (IntKind.i64.wrap (x7.2.1 - x7.1) : Int)))) || (decide (x7.2.2.2 < (1 : Int)))) || (decide (x7.2.2.2 > (1000000 : Int)))) = true then (some 8) else (rec5 (IntKind.i64.wrap (x4 + 1)))) else (m_ref42_Check_j1 F)
def m_ref42_Check_l2 (F : Nat) (x2 : List (Int × Int × Int × Int)) : Nat → Int → Option Int
  | 0, _ => none
  | n + 1, x4 => m_ref42_Check_b2 F x2 (m_ref42_Check_l2 F x2 n) x4
def m_ref42_Check (F : Nat)  (x2 : List (Int × Int × Int × Int)) : Option Int :=
  if (x2.length : Int) > (8 : Int) then (some 4) else (m_ref42_Check_l2 F x2 F 0)
set_option maxHeartbeats 1000000 in
set_option maxRecDepth 8000 in
theorem m_ref42_Check_ok (F : Nat)    (s1 : Value) (x2 : List (Int × Int × Int × Int)) (w0 : World) (h_s1 : rdEOK (hp w0) 4 E24 s1 x2) (r : Int) (hm : m_ref42_Check F x2 = some r) :
    Ret Try.prog 8 #[s1] w0 (G := Unit) (fun _ => Iv r) (fun _ w => St w0 w noX [] []) := by
 unfold m_ref42_Check at hm
 refine ret_of_W (lv := [s1]) Try.func8 rfl rfl rfl (fun a hf => ?_)
 replace hf : Fr a 61 [] [(0, s1)] := hf
 have hS : St w0 w0 noX [rdE 4 E24 s1 x2] [] := St.borrow (lendAll_cons (lendRd h_s1) lendAll_nil)
 refine W.seq ?_
 refine W.regionL (l := [0]) rfl ?_
 refine O.val hf rfl rfl rfl (RunV.assign rfl) ?_; clear hf a; intro a hf
 refine O.nil ?_
 refine k_seq ?_
 refine W.seq ?_
 refine W.seq ?_
 refine W.regionL (l := [0, 1, 2]) rfl ?_
 refine O.val hf rfl rfl rfl (RunV.move rfl) ?_; clear hf a; intro a hf
 refine O.val (v := Iv (x2.length : Int)) hf rfl rfl rfl (RunV.lenE (e := 24) (by simpa using T_elem_22) rfl (hS.rdB (j := 0) rfl)) ?_; clear hf a; intro a hf
 refine O.val (v := Bv (decide ((x2.length : Int) > (8 : Int)))) hf rfl rfl rfl (RunV.gtr rfl rfl) ?_; clear hf a; intro a hf
 refine O.nil ?_
 refine k_seq ?_
 replace hf : Fr a 61 [] [(0, s1), (2, Iv 0), (7, Bv (decide ((x2.length : Int) > (8 : Int))))] := hf.to ⟨rfl, rfl, rfl, trivial⟩
 refine W.ifdI hf rfl (fun hc3 => ?_) (fun hc3 => ?_)
 ·replace hm := hm_p hm hc3
  refine W.seq ?_
  refine W.regionL (l := [0]) rfl ?_
  refine O.val hf rfl rfl rfl (RunV.assign rfl) ?_; clear hf a; intro a hf
  refine O.nil ?_
  refine k_seq ?_
  replace hf : Fr a 61 [] [(0, s1), (2, Iv 4)] := hf.to ⟨rfl, rfl, trivial⟩
  refine W.ret ?_
  refine k_then_ret ?_
  obtain rfl := Option.some.inj hm
  refine post1 hf rfl (ResOK.tmp rfl) ?_
  exact ⟨(), rfl, hS.noB⟩
 ·replace hm := hm_n hm hc3
  refine W.skip ?_
  refine k_seq ?_
  replace hf : Fr a 61 [] [(0, s1), (2, Iv 0)] := hf.to ⟨rfl, rfl, trivial⟩
  refine W.seqR (fun a w => Fr a 61 [] [(2, Iv 0)] ∧ St w0 w noX [rdE 4 E24 s1 x2] [] ∧ m_ref42_Check_j1 F = some r) ?_ ?_
  ·refine W.seq ?_
   refine W.regionL (l := [0]) rfl ?_
   refine O.val hf rfl rfl rfl (RunV.assign rfl) ?_; clear hf a; intro a hf
   refine O.nil ?_
   refine k_seq ?_
   refine W.block ?_
   refine W.loop (G := Nat × Int) (fun g a w => match g with | (k5, x4) => Fr a 61 [] [(0, s1), (2, Iv 0), (3, Iv x4)] ∧ St w0 w noX [rdE 4 E24 s1 x2] [] ∧ m_ref42_Check_l2 F x2 k5 x4 = some r) (fun g => match g with | (k5, x4) => k5) (F, 0) ⟨hf.to ⟨rfl, rfl, rfl, trivial⟩, hS, hm⟩ ?_
   clear hf hS hm a; try clear w
   rintro ⟨k5, x4⟩ a w ⟨hf, hS, hm⟩
   rcases k5 with _ | k5
   · exact absurd (show none = some r from hm) (by simp)
   replace hm : m_ref42_Check_b2 F x2 (m_ref42_Check_l2 F x2 k5) x4 = some r := hm
   obtain ⟨rec5, hrec5⟩ : ∃ f, f = m_ref42_Check_l2 F x2 k5 := ⟨_, rfl⟩
   rw [← hrec5] at hm; unfold m_ref42_Check_b2 at hm
   refine W.seq ?_
   refine W.seq ?_
   refine W.regionL (l := [0, 1, 2, 3]) rfl ?_
   refine O.val hf rfl rfl rfl (RunV.move rfl) ?_; clear hf a; intro a hf
   refine O.val hf rfl rfl rfl (RunV.move rfl) ?_; clear hf a; intro a hf
   refine O.val (v := Iv (x2.length : Int)) hf rfl rfl rfl (RunV.lenE (e := 24) (by simpa using T_elem_22) rfl (hS.rdB (j := 0) rfl)) ?_; clear hf a; intro a hf
   refine O.val (v := Bv (decide (x4 < ((x2.length : Int) : Int)))) hf rfl rfl rfl (RunV.lss rfl rfl) ?_; clear hf a; intro a hf
   refine O.nil ?_
   refine k_seq ?_
   refine W.ifdI hf rfl (fun hc6 => ?_) (fun hc6 => ?_)
   ·replace hm := hm_p hm hc6
    refine W.skip ?_
    refine k_seq ?_
    refine W.seq ?_
    refine W.block ?_
    refine W.seq ?_
    refine W.regionL (l := [0, 1, 2, 3, 4, 5]) rfl ?_
    refine O.val hf rfl rfl rfl (RunV.move rfl) ?_; clear hf a; intro a hf
    refine O.val hf rfl rfl rfl (RunV.move rfl) ?_; clear hf a; intro a hf
    obtain ⟨x7, hx7, hm⟩ := hm_b hm
    refine O.val hf rfl rfl rfl (RunV.ixE T_elem_22 T_size_24 rfl rfl (hS.rdB (j := 0) rfl) hx7) ?_; clear hf a; intro a hf
    refine O.val hf rfl rfl rfl (RunV.ldEN (us := [Iv x7.1, Iv x7.2.1, Iv x7.2.2.1, Iv x7.2.2.2]) (o := 0) T_agg_24 T_size_24 rfl E24_len rfl (hS.rdB (j := 0) rfl) hx7 rfl rfl rfl) ?_; clear hf a; intro a hf
    refine O.alloc (cs := #[Iv 0, Iv 0, Iv 0, Iv 0]) hf hS rfl rfl T_zero_24 rfl ?_
    clear hf hS a; intro b8 w a hb8 hS hf
    refine O.store (j := 0) (cs' := #[Iv x7.1, Iv x7.2.1, Iv x7.2.2.1, Iv x7.2.2.2]) (M' := [pt b8 (Cs #[Iv x7.1, Iv x7.2.1, Iv x7.2.2.1, Iv x7.2.2.2] 24)]) hf hS rfl rfl rfl T_size_24 rfl rfl rfl (Nat.le_of_ble_eq_true rfl) rfl rfl ?_
    clear hS; intro w hS
    refine O.nil ?_
    refine k_seq ?_
    refine W.seq ?_
    refine W.regionL (l := [0, 1, 2, 3, 4, 5, 6, 7, 8, 9, 10, 11, 12, 13, 14, 15, 16, 17, 18, 19, 20, 21, 22, 23, 24, 25, 26, 27, 28, 29, 30, 31, 32, 33, 34, 35, 36, 37, 38, 39, 40, 41, 42]) rfl ?_
    refine O.val hf rfl rfl rfl (RunV.field T_field_24_0 rfl rfl) ?_; clear hf a; intro a hf
    refine O.val hf rfl rfl rfl (RunV.load1 T_agg_2 rfl (hS.ptAt (i := 0) rfl) rfl) ?_; clear hf a; intro a hf
    refine O.val (v := Bv (decide (x7.1 < (-5000000000000000 : Int)))) hf rfl rfl rfl (RunV.lss rfl rfl) ?_; clear hf a; intro a hf
    refine O.val hf rfl rfl rfl (RunV.move rfl) ?_; clear hf a; intro a hf
    refine O.cutN (l₁ := [4, 5, 6, 7]) (l₂ := _) (fun a w => Fr a 61 [] [(0, s1), (2, Iv 0), (3, Iv x4), (4, Pv b8 0), (8, Iv x4), (9, s1), (10, Iv (x2.length : Int)), (11, Bv (decide (x4 < ((x2.length : Int) : Int)))), (14, s1), (15, Iv x4), (16, ix s1 (Int.toNat x4 * 4)), (17, .agg #[Iv x7.1, Iv x7.2.1, Iv x7.2.2.1, Iv x7.2.2.2]), (18, Pv b8 0), (19, Iv x7.1), (20, Bv (decide (x7.1 < (-5000000000000000 : Int)))), (21, Bv (decide (x7.1 < (-5000000000000000 : Int)))), (25, Bv ((decide (x7.1 < (-5000000000000000 : Int))) || (decide (x7.1 > (5000000000000000 : Int)))))] ∧ St w0 w noX [rdE 4 E24 s1 x2] [pt b8 (Cs #[Iv x7.1, Iv x7.2.1, Iv x7.2.2.1, Iv x7.2.2.2] 24)]) rfl ?_ ?_
    ·rcases Bool.eq_false_or_eq_true (decide (x7.1 < (-5000000000000000 : Int))) with hb9 | hb9
     ·refine O.skipB hf rfl rfl rfl hb9 rfl ?_; clear hf a; intro a hf
      refine O.skipB hf rfl rfl rfl hb9 rfl ?_; clear hf a; intro a hf
      refine O.skipB hf rfl rfl rfl hb9 rfl ?_; clear hf a; intro a hf
      refine O.val (v := Bv ((decide (x7.1 < (-5000000000000000 : Int))) || (decide (x7.1 > (5000000000000000 : Int))))) hf rfl rfl rfl (RunV.pick rfl rfl rfl (by rw [hb9]; rfl)) ?_; clear hf a; intro a hf
      exact O.nil ⟨rfl, hf.to ⟨rfl, rfl, rfl, rfl, rfl, rfl, rfl, rfl, rfl, rfl, rfl, rfl, rfl, rfl, rfl, rfl, rfl, trivial⟩, hS⟩
     ·refine O.gvalB hf rfl rfl rfl hb9 rfl rfl (RunV.field T_field_24_0 rfl rfl) ?_; clear hf a; intro a hf
      refine O.gvalB hf rfl rfl rfl hb9 rfl rfl (RunV.load1 T_agg_2 rfl (hS.ptAt (i := 0) rfl) rfl) ?_; clear hf a; intro a hf
      refine O.gvalB (v := Bv (decide (x7.1 > (5000000000000000 : Int)))) hf rfl rfl rfl hb9 rfl rfl (RunV.gtr rfl rfl) ?_; clear hf a; intro a hf
      refine O.val (v := Bv ((decide (x7.1 < (-5000000000000000 : Int))) || (decide (x7.1 > (5000000000000000 : Int))))) hf rfl rfl rfl (RunV.pick rfl rfl rfl (by rw [hb9]; rfl)) ?_; clear hf a; intro a hf
      exact O.nil ⟨rfl, hf.to ⟨rfl, rfl, rfl, rfl, rfl, rfl, rfl, rfl, rfl, rfl, rfl, rfl, rfl, rfl, rfl, rfl, rfl, trivial⟩, hS⟩
    clear hf hS a; try clear w
    rintro a w ⟨hf, hS⟩
    refine O.val hf rfl rfl rfl (RunV.move rfl) ?_; clear hf a; intro a hf
    refine O.cutN (l₁ := [9, 10, 11, 12]) (l₂ := _) (fun a w => Fr a 61 [] [(0, s1), (2, Iv 0), (3, Iv x4), (4, Pv b8 0), (8, Iv x4), (9, s1), (10, Iv (x2.length : Int)), (11, Bv (decide (x4 < ((x2.length : Int) : Int)))), (14, s1), (15, Iv x4), (16, ix s1 (Int.toNat x4 * 4)), (17, .agg #[Iv x7.1, Iv x7.2.1, Iv x7.2.2.1, Iv x7.2.2.2]), (18, Pv b8 0), (19, Iv x7.1), (20, Bv (decide (x7.1 < (-5000000000000000 : Int)))), (21, Bv (decide (x7.1 < (-5000000000000000 : Int)))), (25, Bv ((decide (x7.1 < (-5000000000000000 : Int))) || (decide (x7.1 > (5000000000000000 : Int))))), (26, Bv ((decide (x7.1 < (-5000000000000000 : Int))) || (decide (x7.1 > (5000000000000000 : Int))))), (30, Bv (((decide (x7.1 < (-5000000000000000 : Int))) || (decide (x7.1 > (5000000000000000 : Int)))) || (decide (x7.2.1 < (-5000000000000000 : Int)))))] ∧ St w0 w noX [rdE 4 E24 s1 x2] [pt b8 (Cs #[Iv x7.1, Iv x7.2.1, Iv x7.2.2.1, Iv x7.2.2.2] 24)]) rfl ?_ ?_
    ·rcases Bool.eq_false_or_eq_true ((decide (x7.1 < (-5000000000000000 : Int))) || (decide (x7.1 > (5000000000000000 : Int)))) with hb10 | hb10
     ·refine O.skipB hf rfl rfl rfl hb10 rfl ?_; clear hf a; intro a hf
      refine O.skipB hf rfl rfl rfl hb10 rfl ?_; clear hf a; intro a hf
      refine O.skipB hf rfl rfl rfl hb10 rfl ?_; clear hf a; intro a hf
      refine O.val (v := Bv (((decide (x7.1 < (-5000000000000000 : Int))) || (decide (x7.1 > (5000000000000000 : Int)))) || (decide (x7.2.1 < (-5000000000000000 : Int))))) hf rfl rfl rfl (RunV.pick rfl rfl rfl (by rw [hb10]; rfl)) ?_; clear hf a; intro a hf
      exact O.nil ⟨rfl, hf.to ⟨rfl, rfl, rfl, rfl, rfl, rfl, rfl, rfl, rfl, rfl, rfl, rfl, rfl, rfl, rfl, rfl, rfl, rfl, rfl, trivial⟩, hS⟩
     ·refine O.gvalB hf rfl rfl rfl hb10 rfl rfl (RunV.field T_field_24_1 rfl rfl) ?_; clear hf a; intro a hf
      refine O.gvalB hf rfl rfl rfl hb10 rfl rfl (RunV.load1 T_agg_2 rfl (hS.ptAt (i := 0) rfl) rfl) ?_; clear hf a; intro a hf
      refine O.gvalB (v := Bv (decide (x7.2.1 < (-5000000000000000 : Int)))) hf rfl rfl rfl hb10 rfl rfl (RunV.lss rfl rfl) ?_; clear hf a; intro a hf
      refine O.val (v := Bv (((decide (x7.1 < (-5000000000000000 : Int))) || (decide (x7.1 > (5000000000000000 : Int)))) || (decide (x7.2.1 < (-5000000000000000 : Int))))) hf rfl rfl rfl (RunV.pick rfl rfl rfl (by rw [hb10]; rfl)) ?_; clear hf a; intro a hf
      exact O.nil ⟨rfl, hf.to ⟨rfl, rfl, rfl, rfl, rfl, rfl, rfl, rfl, rfl, rfl, rfl, rfl, rfl, rfl, rfl, rfl, rfl, rfl, rfl, trivial⟩, hS⟩
    clear hf hS a; try clear w
    rintro a w ⟨hf, hS⟩
    refine O.val hf rfl rfl rfl (RunV.move rfl) ?_; clear hf a; intro a hf
    refine O.cutN (l₁ := [14, 15, 16, 17]) (l₂ := _) (fun a w => Fr a 61 [] [(0, s1), (2, Iv 0), (3, Iv x4), (4, Pv b8 0), (8, Iv x4), (9, s1), (10, Iv (x2.length : Int)), (11, Bv (decide (x4 < ((x2.length : Int) : Int)))), (14, s1), (15, Iv x4), (16, ix s1 (Int.toNat x4 * 4)), (17, .agg #[Iv x7.1, Iv x7.2.1, Iv x7.2.2.1, Iv x7.2.2.2]), (18, Pv b8 0), (19, Iv x7.1), (20, Bv (decide (x7.1 < (-5000000000000000 : Int)))), (21, Bv (decide (x7.1 < (-5000000000000000 : Int)))), (25, Bv ((decide (x7.1 < (-5000000000000000 : Int))) || (decide (x7.1 > (5000000000000000 : Int))))), (26, Bv ((decide (x7.1 < (-5000000000000000 : Int))) || (decide (x7.1 > (5000000000000000 : Int))))), (30, Bv (((decide (x7.1 < (-5000000000000000 : Int))) || (decide (x7.1 > (5000000000000000 : Int)))) || (decide (x7.2.1 < (-5000000000000000 : Int))))), (31, Bv (((decide (x7.1 < (-5000000000000000 : Int))) || (decide (x7.1 > (5000000000000000 : Int)))) || (decide (x7.2.1 < (-5000000000000000 : Int))))), (35, Bv ((((decide (x7.1 < (-5000000000000000 : Int))) || (decide (x7.1 > (5000000000000000 : Int)))) || (decide (x7.2.1 < (-5000000000000000 : Int)))) || (decide (x7.2.1 > (5000000000000000 : Int)))))] ∧ St w0 w noX [rdE 4 E24 s1 x2] [pt b8 (Cs #[Iv x7.1, Iv x7.2.1, Iv x7.2.2.1, Iv x7.2.2.2] 24)]) rfl ?_ ?_
    ·rcases Bool.eq_false_or_eq_true (((decide (x7.1 < (-5000000000000000 : Int))) || (decide (x7.1 > (5000000000000000 : Int)))) || (decide (x7.2.1 < (-5000000000000000 : Int)))) with hb11 | hb11
     ·refine O.skipB hf rfl rfl rfl hb11 rfl ?_; clear hf a; intro a hf
      refine O.skipB hf rfl rfl rfl hb11 rfl ?_; clear hf a; intro a hf
      refine O.skipB hf rfl rfl rfl hb11 rfl ?_; clear hf a; intro a hf
      refine O.val (v := Bv ((((decide (x7.1 < (-5000000000000000 : Int))) || (decide (x7.1 > (5000000000000000 : Int)))) || (decide (x7.2.1 < (-5000000000000000 : Int)))) || (decide (x7.2.1 > (5000000000000000 : Int))))) hf rfl rfl rfl (RunV.pick rfl rfl rfl (by rw [hb11]; rfl)) ?_; clear hf a; intro a hf
      exact O.nil ⟨rfl, hf.to ⟨rfl, rfl, rfl, rfl, rfl, rfl, rfl, rfl, rfl, rfl, rfl, rfl, rfl, rfl, rfl, rfl, rfl, rfl, rfl, rfl, rfl, trivial⟩, hS⟩
     ·refine O.gvalB hf rfl rfl rfl hb11 rfl rfl (RunV.field T_field_24_1 rfl rfl) ?_; clear hf a; intro a hf
      refine O.gvalB hf rfl rfl rfl hb11 rfl rfl (RunV.load1 T_agg_2 rfl (hS.ptAt (i := 0) rfl) rfl) ?_; clear hf a; intro a hf
      refine O.gvalB (v := Bv (decide (x7.2.1 > (5000000000000000 : Int)))) hf rfl rfl rfl hb11 rfl rfl (RunV.gtr rfl rfl) ?_; clear hf a; intro a hf
      refine O.val (v := Bv ((((decide (x7.1 < (-5000000000000000 : Int))) || (decide (x7.1 > (5000000000000000 : Int)))) || (decide (x7.2.1 < (-5000000000000000 : Int)))) || (decide (x7.2.1 > (5000000000000000 : Int))))) hf rfl rfl rfl (RunV.pick rfl rfl rfl (by rw [hb11]; rfl)) ?_; clear hf a; intro a hf
      exact O.nil ⟨rfl, hf.to ⟨rfl, rfl, rfl, rfl, rfl, rfl, rfl, rfl, rfl, rfl, rfl, rfl, rfl, rfl, rfl, rfl, rfl, rfl, rfl, rfl, rfl, trivial⟩, hS⟩
    clear hf hS a; try clear w
    rintro a w ⟨hf, hS⟩
    refine O.val hf rfl rfl rfl (RunV.move rfl) ?_; clear hf a; intro a hf
    refine O.cutN (l₁ := [19, 20, 21, 22]) (l₂ := _) (fun a w => Fr a 61 [] [(0, s1), (2, Iv 0), (3, Iv x4), (4, Pv b8 0), (8, Iv x4), (9, s1), (10, Iv (x2.length : Int)), (11, Bv (decide (x4 < ((x2.length : Int) : Int)))), (14, s1), (15, Iv x4), (16, ix s1 (Int.toNat x4 * 4)), (17, .agg #[Iv x7.1, Iv x7.2.1, Iv x7.2.2.1, Iv x7.2.2.2]), (18, Pv b8 0), (19, Iv x7.1), (20, Bv (decide (x7.1 < (-5000000000000000 : Int)))), (21, Bv (decide (x7.1 < (-5000000000000000 : Int)))), (25, Bv ((decide (x7.1 < (-5000000000000000 : Int))) || (decide (x7.1 > (5000000000000000 : Int))))), (26, Bv ((decide (x7.1 < (-5000000000000000 : Int))) || (decide (x7.1 > (5000000000000000 : Int))))), (30, Bv (((decide (x7.1 < (-5000000000000000 : Int))) || (decide (x7.1 > (5000000000000000 : Int)))) || (decide (x7.2.1 < (-5000000000000000 : Int))))), (31, Bv (((decide (x7.1 < (-5000000000000000 : Int))) || (decide (x7.1 > (5000000000000000 : Int)))) || (decide (x7.2.1 < (-5000000000000000 : Int))))), (35, Bv ((((decide (x7.1 < (-5000000000000000 : Int))) || (decide (x7.1 > (5000000000000000 : Int)))) || (decide (x7.2.1 < (-5000000000000000 : Int)))) || (decide (x7.2.1 > (5000000000000000 : Int))))), (36, Bv ((((decide (x7.1 < (-5000000000000000 : Int))) || (decide (x7.1 > (5000000000000000 : Int)))) || (decide (x7.2.1 < (-5000000000000000 : Int)))) || (decide (x7.2.1 > (5000000000000000 : Int))))), (40, Bv (((((decide (x7.1 < (-5000000000000000 : Int))) || (decide (x7.1 > (5000000000000000 : Int)))) || (decide (x7.2.1 < (-5000000000000000 : Int)))) || (decide (x7.2.1 > (5000000000000000 : Int)))) || (decide (x7.2.2.1 < (1 : Int)))))] ∧ St w0 w noX [rdE 4 E24 s1 x2] [pt b8 (Cs #[Iv x7.1, Iv x7.2.1, Iv x7.2.2.1, Iv x7.2.2.2] 24)]) rfl ?_ ?_
    ·rcases Bool.eq_false_or_eq_true ((((decide (x7.1 < (-5000000000000000 : Int))) || (decide (x7.1 > (5000000000000000 : Int)))) || (decide (x7.2.1 < (-5000000000000000 : Int)))) || (decide (x7.2.1 > (5000000000000000 : Int)))) with hb12 | hb12
     ·refine O.skipB hf rfl rfl rfl hb12 rfl ?_; clear hf a; intro a hf
      refine O.skipB hf rfl rfl rfl hb12 rfl ?_; clear hf a; intro a hf
      refine O.skipB hf rfl rfl rfl hb12 rfl ?_; clear hf a; intro a hf
      refine O.val (v := Bv (((((decide (x7.1 < (-5000000000000000 : Int))) || (decide (x7.1 > (5000000000000000 : Int)))) || (decide (x7.2.1 < (-5000000000000000 : Int)))) || (decide (x7.2.1 > (5000000000000000 : Int)))) || (decide (x7.2.2.1 < (1 : Int))))) hf rfl rfl rfl (RunV.pick rfl rfl rfl (by rw [hb12]; rfl)) ?_; clear hf a; intro a hf
      exact O.nil ⟨rfl, hf.to ⟨rfl, rfl, rfl, rfl, rfl, rfl, rfl, rfl, rfl, rfl, rfl, rfl, rfl, rfl, rfl, rfl, rfl, rfl, rfl, rfl, rfl, rfl, rfl, trivial⟩, hS⟩
     ·refine O.gvalB hf rfl rfl rfl hb12 rfl rfl (RunV.field T_field_24_2 rfl rfl) ?_; clear hf a; intro a hf
      refine O.gvalB hf rfl rfl rfl hb12 rfl rfl (RunV.load1 T_agg_2 rfl (hS.ptAt (i := 0) rfl) rfl) ?_; clear hf a; intro a hf
      refine O.gvalB (v := Bv (decide (x7.2.2.1 < (1 : Int)))) hf rfl rfl rfl hb12 rfl rfl (RunV.lss rfl rfl) ?_; clear hf a; intro a hf
      refine O.val (v := Bv (((((decide (x7.1 < (-5000000000000000 : Int))) || (decide (x7.1 > (5000000000000000 : Int)))) || (decide (x7.2.1 < (-5000000000000000 : Int)))) || (decide (x7.2.1 > (5000000000000000 : Int)))) || (decide (x7.2.2.1 < (1 : Int))))) hf rfl rfl rfl (RunV.pick rfl rfl rfl (by rw [hb12]; rfl)) ?_; clear hf a; intro a hf
      exact O.nil ⟨rfl, hf.to ⟨rfl, rfl, rfl, rfl, rfl, rfl, rfl, rfl, rfl, rfl, rfl, rfl, rfl, rfl, rfl, rfl, rfl, rfl, rfl, rfl, rfl, rfl, rfl, trivial⟩, hS⟩
    clear hf hS a; try clear w
    rintro a w ⟨hf, hS⟩
    refine O.val hf rfl rfl rfl (RunV.move rfl) ?_; clear hf a; intro a hf
    refine O.cutN (l₁ := [24, 25, 26, 27, 28, 29, 30, 31, 32]) (l₂ := _) (fun a w => Fr a 61 [] [(0, s1), (2, Iv 0), (3, Iv x4), (4, Pv b8 0), (8, Iv x4), (9, s1), (10, Iv (x2.length : Int)), (11, Bv (decide (x4 < ((x2.length : Int) : Int)))), (14, s1), (15, Iv x4), (16, ix s1 (Int.toNat x4 * 4)), (17, .agg #[Iv x7.1, Iv x7.2.1, Iv x7.2.2.1, Iv x7.2.2.2]), (18, Pv b8 0), (19, Iv x7.1), (20, Bv (decide (x7.1 < (-5000000000000000 : Int)))), (21, Bv (decide (x7.1 < (-5000000000000000 : Int)))), (25, Bv ((decide (x7.1 < (-5000000000000000 : Int))) || (decide (x7.1 > (5000000000000000 : Int))))), (26, Bv ((decide (x7.1 < (-5000000000000000 : Int))) || (decide (x7.1 > (5000000000000000 : Int))))), (30, Bv (((decide (x7.1 < (-5000000000000000 : Int))) || (decide (x7.1 > (5000000000000000 : Int)))) || (decide (x7.2.1 < (-5000000000000000 : Int))))), (31, Bv (((decide (x7.1 < (-5000000000000000 : Int))) || (decide (x7.1 > (5000000000000000 : Int)))) || (decide (x7.2.1 < (-5000000000000000 : Int))))), (35, Bv ((((decide (x7.1 < (-5000000000000000 : Int))) || (decide (x7.1 > (5000000000000000 : Int)))) || (decide (x7.2.1 < (-5000000000000000 : Int)))) || (decide (x7.2.1 > (5000000000000000 : Int))))), (36, Bv ((((decide (x7.1 < (-5000000000000000 : Int))) || (decide (x7.1 > (5000000000000000 : Int)))) || (decide (x7.2.1 < (-5000000000000000 : Int)))) || (decide (x7.2.1 > (5000000000000000 : Int))))), (40, Bv (((((decide (x7.1 < (-5000000000000000 : Int))) || (decide (x7.1 > (5000000000000000 : Int)))) || (decide (x7.2.1 < (-5000000000000000 : Int)))) || (decide (x7.2.1 > (5000000000000000 : Int)))) || (decide (x7.2.2.1 < (1 : Int))))), (41, Bv (((((decide (x7.1 < (-5000000000000000 : Int))) || (decide (x7.1 > (5000000000000000 : Int)))) || (decide (x7.2.1 < (-5000000000000000 : Int)))) || (decide (x7.2.1 > (5000000000000000 : Int)))) || (decide (x7.2.2.1 < (1 : Int))))), (50, Bv ((((((decide (x7.1 < (-5000000000000000 : Int))) || (decide (x7.1 > (5000000000000000 : Int)))) || (decide (x7.2.1 < (-5000000000000000 : Int)))) || (decide (x7.2.1 > (5000000000000000 : Int)))) || (decide (x7.2.2.1 < (1 : Int)))) || (decide (x7.2.2.1 > (IntKind.i64.wrap (x7.2.1 - x7.1) : Int)))))] ∧ St w0 w noX [rdE 4 E24 s1 x2] [pt b8 (Cs #[Iv x7.1, Iv x7.2.1, Iv x7.2.2.1, Iv x7.2.2.2] 24)]) rfl ?_ ?_
    ·rcases Bool.eq_false_or_eq_true (((((decide (x7.1 < (-5000000000000000 : Int))) || (decide (x7.1 > (5000000000000000 : Int)))) || (decide (x7.2.1 < (-5000000000000000 : Int)))) || (decide (x7.2.1 > (5000000000000000 : Int)))) || (decide (x7.2.2.1 < (1 : Int)))) with hb13 | hb13
     ·refine O.skipB hf rfl rfl rfl hb13 rfl ?_; clear hf a; intro a hf
      refine O.skipB hf rfl rfl rfl hb13 rfl ?_; clear hf a; intro a hf
      refine O.skipB hf rfl rfl rfl hb13 rfl ?_; clear hf a; intro a hf
      refine O.skipB hf rfl rfl rfl hb13 rfl ?_; clear hf a; intro a hf
      refine O.skipB hf rfl rfl rfl hb13 rfl ?_; clear hf a; intro a hf
      refine O.skipB hf rfl rfl rfl hb13 rfl ?_; clear hf a; intro a hf
      refine O.skipB hf rfl rfl rfl hb13 rfl ?_; clear hf a; intro a hf
      refine O.skipB hf rfl rfl rfl hb13 rfl ?_; clear hf a; intro a hf
      refine O.val (v := Bv ((((((decide (x7.1 < (-5000000000000000 : Int))) || (decide (x7.1 > (5000000000000000 : Int)))) || (decide (x7.2.1 < (-5000000000000000 : Int)))) || (decide (x7.2.1 > (5000000000000000 : Int)))) || (decide (x7.2.2.1 < (1 : Int)))) || (decide (x7.2.2.1 > (IntKind.i64.wrap (x7.2.1 - x7.1) : Int))))) hf rfl rfl rfl (RunV.pick rfl rfl rfl (by rw [hb13]; rfl)) ?_; clear hf a; intro a hf
      exact O.nil ⟨rfl, hf.to ⟨rfl, rfl, rfl, rfl, rfl, rfl, rfl, rfl, rfl, rfl, rfl, rfl, rfl, rfl, rfl, rfl, rfl, rfl, rfl, rfl, rfl, rfl, rfl, rfl, rfl, trivial⟩, hS⟩
     ·refine O.gvalB hf rfl rfl rfl hb13 rfl rfl (RunV.field T_field_24_2 rfl rfl) ?_; clear hf a; intro a hf
      refine O.gvalB hf rfl rfl rfl hb13 rfl rfl (RunV.load1 T_agg_2 rfl (hS.ptAt (i := 0) rfl) rfl) ?_; clear hf a; intro a hf
      refine O.gvalB hf rfl rfl rfl hb13 rfl rfl (RunV.field T_field_24_1 rfl rfl) ?_; clear hf a; intro a hf
      refine O.gvalB hf rfl rfl rfl hb13 rfl rfl (RunV.load1 T_agg_2 rfl (hS.ptAt (i := 0) rfl) rfl) ?_; clear hf a; intro a hf
      refine O.gvalB hf rfl rfl rfl hb13 rfl rfl (RunV.field T_field_24_0 rfl rfl) ?_; clear hf a; intro a hf
      refine O.gvalB hf rfl rfl rfl hb13 rfl rfl (RunV.load1 T_agg_2 rfl (hS.ptAt (i := 0) rfl) rfl) ?_; clear hf a; intro a hf
      refine O.gvalB (v := Iv (IntKind.i64.wrap (x7.2.1 - x7.1))) hf rfl rfl rfl hb13 rfl rfl (RunV.sub rfl rfl) ?_; clear hf a; intro a hf
      refine O.gvalB (v := Bv (decide (x7.2.2.1 > (IntKind.i64.wrap (x7.2.1 - x7.1) : Int)))) hf rfl rfl rfl hb13 rfl rfl (RunV.gtr rfl rfl) ?_; clear hf a; intro a hf
      refine O.val (v := Bv ((((((decide (x7.1 < (-5000000000000000 : Int))) || (decide (x7.1 > (5000000000000000 : Int)))) || (decide (x7.2.1 < (-5000000000000000 : Int)))) || (decide (x7.2.1 > (5000000000000000 : Int)))) || (decide (x7.2.2.1 < (1 : Int)))) || (decide (x7.2.2.1 > (IntKind.i64.wrap (x7.2.1 - x7.1) : Int))))) hf rfl rfl rfl (RunV.pick rfl rfl rfl (by rw [hb13]; rfl)) ?_; clear hf a; intro a hf
      exact O.nil ⟨rfl, hf.to ⟨rfl, rfl, rfl, rfl, rfl, rfl, rfl, rfl, rfl, rfl, rfl, rfl, rfl, rfl, rfl, rfl, rfl, rfl, rfl, rfl, rfl, rfl, rfl, rfl, rfl, trivial⟩, hS⟩
    clear hf hS a; try clear w
    rintro a w ⟨hf, hS⟩
    refine O.val hf rfl rfl rfl (RunV.move rfl) ?_; clear hf a; intro a hf
    refine O.cutN (l₁ := [34, 35, 36, 37]) (l₂ := _) (fun a w => Fr a 61 [] [(0, s1), (2, Iv 0), (3, Iv x4), (4, Pv b8 0), (8, Iv x4), (9, s1), (10, Iv (x2.length : Int)), (11, Bv (decide (x4 < ((x2.length : Int) : Int)))), (14, s1), (15, Iv x4), (16, ix s1 (Int.toNat x4 * 4)), (17, .agg #[Iv x7.1, Iv x7.2.1, Iv x7.2.2.1, Iv x7.2.2.2]), (18, Pv b8 0), (19, Iv x7.1), (20, Bv (decide (x7.1 < (-5000000000000000 : Int)))), (21, Bv (decide (x7.1 < (-5000000000000000 : Int)))), (25, Bv ((decide (x7.1 < (-5000000000000000 : Int))) || (decide (x7.1 > (5000000000000000 : Int))))), (26, Bv ((decide (x7.1 < (-5000000000000000 : Int))) || (decide (x7.1 > (5000000000000000 : Int))))), (30, Bv (((decide (x7.1 < (-5000000000000000 : Int))) || (decide (x7.1 > (5000000000000000 : Int)))) || (decide (x7.2.1 < (-5000000000000000 : Int))))), (31, Bv (((decide (x7.1 < (-5000000000000000 : Int))) || (decide (x7.1 > (5000000000000000 : Int)))) || (decide (x7.2.1 < (-5000000000000000 : Int))))), (35, Bv ((((decide (x7.1 < (-5000000000000000 : Int))) || (decide (x7.1 > (5000000000000000 : Int)))) || (decide (x7.2.1 < (-5000000000000000 : Int)))) || (decide (x7.2.1 > (5000000000000000 : Int))))), (36, Bv ((((decide (x7.1 < (-5000000000000000 : Int))) || (decide (x7.1 > (5000000000000000 : Int)))) || (decide (x7.2.1 < (-5000000000000000 : Int)))) || (decide (x7.2.1 > (5000000000000000 : Int))))), (40, Bv (((((decide (x7.1 < (-5000000000000000 : Int))) || (decide (x7.1 > (5000000000000000 : Int)))) || (decide (x7.2.1 < (-5000000000000000 : Int)))) || (decide (x7.2.1 > (5000000000000000 : Int)))) || (decide (x7.2.2.1 < (1 : Int))))), (41, Bv (((((decide (x7.1 < (-5000000000000000 : Int))) || (decide (x7.1 > (5000000000000000 : Int)))) || (decide (x7.2.1 < (-5000000000000000 : Int)))) || (decide (x7.2.1 > (5000000000000000 : Int)))) || (decide (x7.2.2.1 < (1 : Int))))), (50, Bv ((((((decide (x7.1 < (-5000000000000000 : Int))) || (decide (x7.1 > (5000000000000000 : Int)))) || (decide (x7.2.1 < (-5000000000000000 : Int)))) || (decide (x7.2.1 > (5000000000000000 : Int)))) || (decide (x7.2.2.1 < (1 : Int)))) || (decide (x7.2.2.1 > (IntKind.i64.wrap (x7.2.1 - x7.1) : Int))))), (51, Bv ((((((decide (x7.1 < (-5000000000000000 : Int))) || (decide (x7.1 > (5000000000000000 : Int)))) || (decide (x7.2.1 < (-5000000000000000 : Int)))) || (decide (x7.2.1 > (5000000000000000 : Int)))) || (decide (x7.2.2.1 < (1 : Int)))) || (decide (x7.2.2.1 > (IntKind.i64.wrap (x7.2.1 - x7.1) : Int))))), (55, Bv (((((((decide (x7.1 < (-5000000000000000 : Int))) || (decide (x7.1 > (5000000000000000 : Int)))) || (decide (x7.2.1 < (-5000000000000000 : Int)))) || (decide (x7.2.1 > (5000000000000000 : Int)))) || (decide (x7.2.2.1 < (1 : Int)))) || (decide (x7.2.2.1 > (IntKind.i64.wrap (x7.2.1 - x7.1) : Int)))) || (decide (x7.2.2.2 < (1 : Int)))))] ∧ St w0 w noX [rdE 4 E24 s1 x2] [pt b8 (Cs #[Iv x7.1, Iv x7.2.1, Iv x7.2.2.1, Iv x7.2.2.2] 24)]) rfl ?_ ?_
    ·rcases Bool.eq_false_or_eq_true ((((((decide (x7.1 < (-5000000000000000 : Int))) || (decide (x7.1 > (5000000000000000 : Int)))) || (decide (x7.2.1 < (-5000000000000000 : Int)))) || (decide (x7.2.1 > (5000000000000000 : Int)))) || (decide (x7.2.2.1 < (1 : Int)))) || (decide (x7.2.2.1 > (IntKind.i64.wrap (x7.2.1 - x7.1) : Int)))) with hb14 | hb14
     ·refine O.skipB hf rfl rfl rfl hb14 rfl ?_; clear hf a; intro a hf
      refine O.skipB hf rfl rfl rfl hb14 rfl ?_; clear hf a; intro a hf
      refine O.skipB hf rfl rfl rfl hb14 rfl ?_; clear hf a; intro a hf
      refine O.val (v := Bv (((((((decide (x7.1 < (-5000000000000000 : Int))) || (decide (x7.1 > (5000000000000000 : Int)))) || (decide (x7.2.1 < (-5000000000000000 : Int)))) || (decide (x7.2.1 > (5000000000000000 : Int)))) || (decide (x7.2.2.1 < (1 : Int)))) || (decide (x7.2.2.1 > (IntKind.i64.wrap (x7.2.1 - x7.1) : Int)))) || (decide (x7.2.2.2 < (1 : Int))))) hf rfl rfl rfl (RunV.pick rfl rfl rfl (by rw [hb14]; rfl)) ?_; clear hf a; intro a hf
      exact O.nil ⟨rfl, hf.to ⟨rfl, rfl, rfl, rfl, rfl, rfl, rfl, rfl, rfl, rfl, rfl, rfl, rfl, rfl, rfl, rfl, rfl, rfl, rfl, rfl, rfl, rfl, rfl, rfl, rfl, rfl, rfl, trivial⟩, hS⟩
     ·refine O.gvalB hf rfl rfl rfl hb14 rfl rfl (RunV.field T_field_24_3 rfl rfl) ?_; clear hf a; intro a hf
      refine O.gvalB hf rfl rfl rfl hb14 rfl rfl (RunV.load1 T_agg_3 rfl (hS.ptAt (i := 0) rfl) rfl) ?_; clear hf a; intro a hf
      refine O.gvalB (v := Bv (decide (x7.2.2.2 < (1 : Int)))) hf rfl rfl rfl hb14 rfl rfl (RunV.lss rfl rfl) ?_; clear hf a; intro a hf
      refine O.val (v := Bv (((((((decide (x7.1 < (-5000000000000000 : Int))) || (decide (x7.1 > (5000000000000000 : Int)))) || (decide (x7.2.1 < (-5000000000000000 : Int)))) || (decide (x7.2.1 > (5000000000000000 : Int)))) || (decide (x7.2.2.1 < (1 : Int)))) || (decide (x7.2.2.1 > (IntKind.i64.wrap (x7.2.1 - x7.1) : Int)))) || (decide (x7.2.2.2 < (1 : Int))))) hf rfl rfl rfl (RunV.pick rfl rfl rfl (by rw [hb14]; rfl)) ?_; clear hf a; intro a hf
      exact O.nil ⟨rfl, hf.to ⟨rfl, rfl, rfl, rfl, rfl, rfl, rfl, rfl, rfl, rfl, rfl, rfl, rfl, rfl, rfl, rfl, rfl, rfl, rfl, rfl, rfl, rfl, rfl, rfl, rfl, rfl, rfl, trivial⟩, hS⟩
    clear hf hS a; try clear w
    rintro a w ⟨hf, hS⟩
    refine O.val hf rfl rfl rfl (RunV.move rfl) ?_; clear hf a; intro a hf
    refine O.cutN (l₁ := [39, 40, 41, 42]) (l₂ := _) (fun a w => Fr a 61 [] [(0, s1), (2, Iv 0), (3, Iv x4), (4, Pv b8 0), (8, Iv x4), (9, s1), (10, Iv (x2.length : Int)), (11, Bv (decide (x4 < ((x2.length : Int) : Int)))), (14, s1), (15, Iv x4), (16, ix s1 (Int.toNat x4 * 4)), (17, .agg #[Iv x7.1, Iv x7.2.1, Iv x7.2.2.1, Iv x7.2.2.2]), (18, Pv b8 0), (19, Iv x7.1), (20, Bv (decide (x7.1 < (-5000000000000000 : Int)))), (21, Bv (decide (x7.1 < (-5000000000000000 : Int)))), (25, Bv ((decide (x7.1 < (-5000000000000000 : Int))) || (decide (x7.1 > (5000000000000000 : Int))))), (26, Bv ((decide (x7.1 < (-5000000000000000 : Int))) || (decide (x7.1 > (5000000000000000 : Int))))), (30, Bv (((decide (x7.1 < (-5000000000000000 : Int))) || (decide (x7.1 > (5000000000000000 : Int)))) || (decide (x7.2.1 < (-5000000000000000 : Int))))), (31, Bv (((decide (x7.1 < (-5000000000000000 : Int))) || (decide (x7.1 > (5000000000000000 : Int)))) || (decide (x7.2.1 < (-5000000000000000 : Int))))), (35, Bv ((((decide (x7.1 < (-5000000000000000 : Int))) || (decide (x7.1 > (5000000000000000 : Int)))) || (decide (x7.2.1 < (-5000000000000000 : Int)))) || (decide (x7.2.1 > (5000000000000000 : Int))))), (36, Bv ((((decide (x7.1 < (-5000000000000000 : Int))) || (decide (x7.1 > (5000000000000000 : Int)))) || (decide (x7.2.1 < (-5000000000000000 : Int)))) || (decide (x7.2.1 > (5000000000000000 : Int))))), (40, Bv (((((decide (x7.1 < (-5000000000000000 : Int))) || (decide (x7.1 > (5000000000000000 : Int)))) || (decide (x7.2.1 < (-5000000000000000 : Int)))) || (decide (x7.2.1 > (5000000000000000 : Int)))) || (decide (x7.2.2.1 < (1 : Int))))), (41, Bv (((((decide (x7.1 < (-5000000000000000 : Int))) || (decide (x7.1 > (5000000000000000 : Int)))) || (decide (x7.2.1 < (-5000000000000000 : Int)))) || (decide (x7.2.1 > (5000000000000000 : Int)))) || (decide (x7.2.2.1 < (1 : Int))))), (50, Bv ((((((decide (x7.1 < (-5000000000000000 : Int))) || (decide (x7.1 > (5000000000000000 : Int)))) || (decide (x7.2.1 < (-5000000000000000 : Int)))) || (decide (x7.2.1 > (5000000000000000 : Int)))) || (decide (x7.2.2.1 < (1 : Int)))) || (decide (x7.2.2.1 > (IntKind.i64.wrap (x7.2.1 - x7.1) : Int))))), (51, Bv ((((((decide (x7.1 < (-5000000000000000 : Int))) || (decide (x7.1 > (5000000000000000 : Int)))) || (decide (x7.2.1 < (-5000000000000000 : Int)))) || (decide (x7.2.1 > (5000000000000000 : Int)))) || (decide (x7.2.2.1 < (1 : Int)))) || (decide (x7.2.2.1 > (IntKind.i64.wrap (x7.2.1 - x7.1) : Int))))), (55, Bv (((((((decide (x7.1 < (-5000000000000000 : Int))) || (decide (x7.1 > (5000000000000000 : Int)))) || (decide (x7.2.1 < (-5000000000000000 : Int)))) || (decide (x7.2.1 > (5000000000000000 : Int)))) || (decide (x7.2.2.1 < (1 : Int)))) || (decide (x7.2.2.1 > (IntKind.i64.wrap (x7.2.1 - x7.1) : Int)))) || (decide (x7.2.2.2 < (1 : Int))))), (56, Bv (((((((decide (x7.1 < (-5000000000000000 : Int))) || (decide (x7.1 > (5000000000000000 : Int)))) || (decide (x7.2.1 < (-5000000000000000 : Int)))) || (decide (x7.2.1 > (5000000000000000 : Int)))) || (decide (x7.2.2.1 < (1 : Int)))) || (decide (x7.2.2.1 > (IntKind.i64.wrap (x7.2.1 - x7.1) : Int)))) || (decide (x7.2.2.2 < (1 : Int))))), (60, Bv ((((((((decide (x7.1 < (-5000000000000000 : Int))) || (decide (x7.1 > (5000000000000000 : Int)))) || (decide (x7.2.1 < (-5000000000000000 : Int)))) || (decide (x7.2.1 > (5000000000000000 : Int)))) || (decide (x7.2.2.1 < (1 : Int)))) || (decide (x7.2.2.1 > (IntKind.i64.wrap (x7.2.1 - x7.1) : Int)))) || (decide (x7.2.2.2 < (1 : Int)))) || (decide (x7.2.2.2 > (1000000 : Int)))))] ∧ St w0 w noX [rdE 4 E24 s1 x2] [pt b8 (Cs #[Iv x7.1, Iv x7.2.1, Iv x7.2.2.1, Iv x7.2.2.2] 24)]) rfl ?_ ?_
    ·rcases Bool.eq_false_or_eq_true (((((((decide (x7.1 < (-5000000000000000 : Int))) || (decide (x7.1 > (5000000000000000 : Int)))) || (decide (x7.2.1 < (-5000000000000000 : Int)))) || (decide (x7.2.1 > (5000000000000000 : Int)))) || (decide (x7.2.2.1 < (1 : Int)))) || (decide (x7.2.2.1 > (IntKind.i64.wrap (x7.2.1 - x7.1) : Int)))) || (decide (x7.2.2.2 < (1 : Int)))) with hb15 | hb15
     ·refine O.skipB hf rfl rfl rfl hb15 rfl ?_; clear hf a; intro a hf
      refine O.skipB hf rfl rfl rfl hb15 rfl ?_; clear hf a; intro a hf
      refine O.skipB hf rfl rfl rfl hb15 rfl ?_; clear hf a; intro a hf
      refine O.val (v := Bv ((((((((decide (x7.1 < (-5000000000000000 : Int))) || (decide (x7.1 > (5000000000000000 : Int)))) || (decide (x7.2.1 < (-5000000000000000 : Int)))) || (decide (x7.2.1 > (5000000000000000 : Int)))) || (decide (x7.2.2.1 < (1 : Int)))) || (decide (x7.2.2.1 > (IntKind.i64.wrap (x7.2.1 - x7.1) : Int)))) || (decide (x7.2.2.2 < (1 : Int)))) || (decide (x7.2.2.2 > (1000000 : Int))))) hf rfl rfl rfl (RunV.pick rfl rfl rfl (by rw [hb15]; rfl)) ?_; clear hf a; intro a hf
      exact O.nil ⟨rfl, hf.to ⟨rfl, rfl, rfl, rfl, rfl, rfl, rfl, rfl, rfl, rfl, rfl, rfl, rfl, rfl, rfl, rfl, rfl, rfl, rfl, rfl, rfl, rfl, rfl, rfl, rfl, rfl, rfl, rfl, rfl, trivial⟩, hS⟩
     ·refine O.gvalB hf rfl rfl rfl hb15 rfl rfl (RunV.field T_field_24_3 rfl rfl) ?_; clear hf a; intro a hf
      refine O.gvalB hf rfl rfl rfl hb15 rfl rfl (RunV.load1 T_agg_3 rfl (hS.ptAt (i := 0) rfl) rfl) ?_; clear hf a; intro a hf
      refine O.gvalB (v := Bv (decide (x7.2.2.2 > (1000000 : Int)))) hf rfl rfl rfl hb15 rfl rfl (RunV.gtr rfl rfl) ?_; clear hf a; intro a hf
      refine O.val (v := Bv ((((((((decide (x7.1 < (-5000000000000000 : Int))) || (decide (x7.1 > (5000000000000000 : Int)))) || (decide (x7.2.1 < (-5000000000000000 : Int)))) || (decide (x7.2.1 > (5000000000000000 : Int)))) || (decide (x7.2.2.1 < (1 : Int)))) || (decide (x7.2.2.1 > (IntKind.i64.wrap (x7.2.1 - x7.1) : Int)))) || (decide (x7.2.2.2 < (1 : Int)))) || (decide (x7.2.2.2 > (1000000 : Int))))) hf rfl rfl rfl (RunV.pick rfl rfl rfl (by rw [hb15]; rfl)) ?_; clear hf a; intro a hf
      exact O.nil ⟨rfl, hf.to ⟨rfl, rfl, rfl, rfl, rfl, rfl, rfl, rfl, rfl, rfl, rfl, rfl, rfl, rfl, rfl, rfl, rfl, rfl, rfl, rfl, rfl, rfl, rfl, rfl, rfl, rfl, rfl, rfl, rfl, trivial⟩, hS⟩
    clear hf hS a; try clear w
    rintro a w ⟨hf, hS⟩
    refine O.nil ?_
    refine k_seq ?_
    refine W.if_ hf rfl (fun hc16 => ?_) (fun hc16 => ?_)
    ·replace hm := hm_t hm hc16
     refine W.seq ?_
     refine W.regionL (l := [0]) rfl ?_
     refine O.val hf rfl rfl rfl (RunV.assign rfl) ?_; clear hf a; intro a hf
     refine O.nil ?_
     refine k_seq ?_
     refine W.ret ?_
     refine k_blk_ret ?_
     refine k_then_ret ?_
     refine k_then_ret ?_
     refine k_blk_ret ?_
     refine k_then_ret ?_
     obtain rfl := Option.some.inj hm
     refine post1 hf rfl (ResOK.tmp rfl) ?_
     replace hS := hS.sub (N := []) (.cons _ .slnil)
     exact ⟨(), rfl, hS.noB⟩
    ·replace hm := hm_f hm hc16
     refine W.skip ?_
     refine k_blk_normal ?_
     refine k_seq ?_
     refine W.regionL (l := [0, 1, 2]) rfl ?_
     refine O.val hf rfl rfl rfl (RunV.move rfl) ?_; clear hf a; intro a hf
     refine O.val (v := Iv (IntKind.i64.wrap (x4 + 1))) hf rfl rfl rfl (RunV.add rfl rfl) ?_; clear hf a; intro a hf
     refine O.val hf rfl rfl rfl (RunV.assign rfl) ?_; clear hf a; intro a hf
     refine O.nil ?_
     replace hS := hS.sub (N := []) (.cons _ .slnil)
     refine k_then ⟨(k5, IntKind.i64.wrap (x4 + 1)), ⟨hf.to ⟨rfl, rfl, rfl, trivial⟩, hS, ?_⟩, Nat.lt_succ_self _⟩
     rw [hrec5] at hm; exact hm
   ·replace hm := hm_n hm hc6
    refine W.exit ?_
    refine k_then_exit ?_
    refine k_then_exit ?_
    refine k_blk ?_
    exact k_then ⟨hf.to ⟨rfl, trivial⟩, hS, hm⟩
  ·clear hf hS hm a; try clear w
   rintro a w ⟨hf, hS, hm⟩
   unfold m_ref42_Check_j1 at hm
   refine W.seq ?_
   refine W.regionL (l := [0]) rfl ?_
   refine O.val hf rfl rfl rfl (RunV.assign rfl) ?_; clear hf a; intro a hf
   refine O.nil ?_
   refine k_seq ?_
   refine W.ret ?_
   obtain rfl := Option.some.inj hm
   refine post1 hf rfl (ResOK.tmp rfl) ?_
   exact ⟨(), rfl, hS.noB⟩

def m_plan_Follow_1 (F : Nat)  (x1 : Int) (x4 : List (Int × Int × Int × Int)) : Option Bool :=
  some ((decide (x1 < (0 : Int))) || (decide (x1 ≥ ((x4.length : Int) : Int))))
set_option maxHeartbeats 1000000 in
set_option maxRecDepth 8000 in
theorem m_plan_Follow_1_ok (F : Nat)    (x1 : Int) (b2 : Nat) (s3 : Value) (x4 : List (Int × Int × Int × Int)) (w0 : World) (h_s3 : rdEOK (hp w0) 4 E24 s3 x4) (h_b2 : w0.heap[b2]? = some (.cells #[s3] 22 (0, 0))) (r : Bool) (hm : m_plan_Follow_1 F x1 x4 = some r) :
    Ret Try.prog 47 #[Iv x1, Pv b2 0] w0 (G := Unit) (fun _ => Bv r) (fun _ w => St w0 w noX [] []) := by
 unfold m_plan_Follow_1 at hm
 refine ret_of_W (lv := [Iv x1, Pv b2 0]) Try.func47 rfl rfl rfl (fun a hf => ?_)
 replace hf : Fr a 12 [] [(0, Iv x1), (1, Pv b2 0)] := hf
 have hS : St w0 w0 noX [rdE 4 E24 s3 x4, pt b2 (Cs #[s3] 22)] [] := St.borrow (lendAll_cons (lendRd h_s3) (lendAll_cons (lendPt h_b2) lendAll_nil))
 refine W.seq ?_
 refine W.regionL (l := [0]) rfl ?_
 refine O.val hf rfl rfl rfl (RunV.assign rfl) ?_; clear hf a; intro a hf
 refine O.nil ?_
 refine k_seq ?_
 refine W.seq ?_
 refine W.regionL (l := [0, 1, 2, 3, 4, 5, 6, 7, 8]) rfl ?_
 refine O.val hf rfl rfl rfl (RunV.move rfl) ?_; clear hf a; intro a hf
 refine O.val (v := Bv (decide (x1 < (0 : Int)))) hf rfl rfl rfl (RunV.lss rfl rfl) ?_; clear hf a; intro a hf
 refine O.val hf rfl rfl rfl (RunV.move rfl) ?_; clear hf a; intro a hf
 refine O.cutN (l₁ := [3, 4, 5, 6, 7]) (l₂ := _) (fun a w => Fr a 12 [] [(3, Bv false), (11, Bv ((decide (x1 < (0 : Int))) || (decide (x1 ≥ ((x4.length : Int) : Int)))))] ∧ St w0 w noX [rdE 4 E24 s3 x4, pt b2 (Cs #[s3] 22)] []) rfl ?_ ?_
 ·rcases Bool.eq_false_or_eq_true (decide (x1 < (0 : Int))) with hb5 | hb5
  ·refine O.skipB hf rfl rfl rfl hb5 rfl ?_; clear hf a; intro a hf
   refine O.skipB hf rfl rfl rfl hb5 rfl ?_; clear hf a; intro a hf
   refine O.skipB hf rfl rfl rfl hb5 rfl ?_; clear hf a; intro a hf
   refine O.skipB hf rfl rfl rfl hb5 rfl ?_; clear hf a; intro a hf
   refine O.val (v := Bv ((decide (x1 < (0 : Int))) || (decide (x1 ≥ ((x4.length : Int) : Int))))) hf rfl rfl rfl (RunV.pick rfl rfl rfl (by rw [hb5]; rfl)) ?_; clear hf a; intro a hf
   exact O.nil ⟨rfl, hf.to ⟨rfl, rfl, trivial⟩, hS⟩
  ·refine O.gvalB hf rfl rfl rfl hb5 rfl rfl (RunV.move rfl) ?_; clear hf a; intro a hf
   refine O.gvalB hf rfl rfl rfl hb5 rfl rfl (RunV.load1 T_agg_22 rfl (hS.bptAt (i := 1) rfl) rfl) ?_; clear hf a; intro a hf
   refine O.gvalB (v := Iv (x4.length : Int)) hf rfl rfl rfl hb5 rfl rfl (RunV.lenE (e := 24) (by simpa using T_elem_22) rfl (hS.rdB (j := 0) rfl)) ?_; clear hf a; intro a hf
   refine O.gvalB (v := Bv (decide (x1 ≥ ((x4.length : Int) : Int)))) hf rfl rfl rfl hb5 rfl rfl (RunV.geq rfl rfl) ?_; clear hf a; intro a hf
   refine O.val (v := Bv ((decide (x1 < (0 : Int))) || (decide (x1 ≥ ((x4.length : Int) : Int))))) hf rfl rfl rfl (RunV.pick rfl rfl rfl (by rw [hb5]; rfl)) ?_; clear hf a; intro a hf
   exact O.nil ⟨rfl, hf.to ⟨rfl, rfl, trivial⟩, hS⟩
 clear hf hS a; try clear w
 rintro a w ⟨hf, hS⟩
 refine O.val hf rfl rfl rfl (RunV.assign rfl) ?_; clear hf a; intro a hf
 refine O.nil ?_
 refine k_seq ?_
 replace hf : Fr a 12 [] [(3, Bv ((decide (x1 < (0 : Int))) || (decide (x1 ≥ ((x4.length : Int) : Int)))))] := hf.to ⟨rfl, trivial⟩
 refine W.ret ?_
 obtain rfl := Option.some.inj hm
 refine post1 hf rfl (ResOK.tmp rfl) ?_
 exact ⟨(), rfl, hS.noB⟩

def m_slices_IndexFunc_int_int_j1 (F : Nat)  : Option Int :=
  some (-1)
def m_slices_IndexFunc_int_int_b2 (F : Nat) (x2 : List Int) (x5 : List (Int × Int × Int × Int)) (rec7 : Int → Option Int) (x6 : Int) : Option Int :=
  if x6 < ((x2.length : Int) : Int) then ((idx x2 x6).bind fun x9 => (m_plan_Follow_1 F x9 x5).bind fun x10 => if (x10) = true then (some x6) else (rec7 (IntKind.i64.wrap (x6 + 1)))) else (m_slices_IndexFunc_int_int_j1 F)
def m_slices_IndexFunc_int_int_l2 (F : Nat) (x2 : List Int) (x5 : List (Int × Int × Int × Int)) : Nat → Int → Option Int
  | 0, _ => none
  | n + 1, x6 => m_slices_IndexFunc_int_int_b2 F x2 x5 (m_slices_IndexFunc_int_int_l2 F x2 x5 n) x6
def m_slices_IndexFunc_int_int (F : Nat)  (x2 : List Int) (x5 : List (Int × Int × Int × Int)) : Option Int :=
  m_slices_IndexFunc_int_int_l2 F x2 x5 F 0
set_option maxHeartbeats 1000000 in
set_option maxRecDepth 8000 in
theorem m_slices_IndexFunc_int_int_ok (F : Nat)    (s1 : Value) (x2 : List Int) (b3 : Nat) (s4 : Value) (x5 : List (Int × Int × Int × Int)) (w0 : World) (h_s1 : rdEOK (hp w0) 1 E3 s1 x2) (h_s4 : rdEOK (hp w0) 4 E24 s4 x5) (h_b3 : w0.heap[b3]? = some (.cells #[s4] 22 (0, 0))) (r : Int) (hm : m_slices_IndexFunc_int_int F x2 x5 = some r) :
    Ret Try.prog 74 #[s1, .func (.func 47) #[] #[Pv b3 0]] w0 (G := Unit) (fun _ => Iv r) (fun _ w => St w0 w noX [] []) := by
 unfold m_slices_IndexFunc_int_int at hm
 refine ret_of_W (lv := [s1, .func (.func 47) #[] #[Pv b3 0]]) Try.func74 rfl rfl rfl (fun a hf => ?_)
 replace hf : Fr a 19 [] [(0, s1), (1, .func (.func 47) #[] #[Pv b3 0])] := hf
 have hS : St w0 w0 noX [rdE 1 E3 s1 x2, rdE 4 E24 s4 x5, pt b3 (Cs #[s4] 22)] [] := St.borrow (lendAll_cons (lendRd h_s1) (lendAll_cons (lendRd h_s4) (lendAll_cons (lendPt h_b3) lendAll_nil)))
 refine W.seq ?_
 refine W.regionL (l := [0]) rfl ?_
 refine O.val hf rfl rfl rfl (RunV.assign rfl) ?_; clear hf a; intro a hf
 refine O.nil ?_
 refine k_seq ?_
 refine W.seqR (fun a w => Fr a 19 [] [(4, Iv 0)] ∧ St w0 w noX [rdE 1 E3 s1 x2, rdE 4 E24 s4 x5, pt b3 (Cs #[s4] 22)] [] ∧ m_slices_IndexFunc_int_int_j1 F = some r) ?_ ?_
 ·refine W.seq ?_
  refine W.regionL (l := [0, 1, 2]) rfl ?_
  refine O.val hf rfl rfl rfl (RunV.move rfl) ?_; clear hf a; intro a hf
  refine O.val (v := Iv (x2.length : Int)) hf rfl rfl rfl (RunV.lenE (e := 3) (by simpa using T_elem_49) rfl (hS.rdB (j := 0) rfl)) ?_; clear hf a; intro a hf
  refine O.val hf rfl rfl rfl (RunV.move rfl) ?_; clear hf a; intro a hf
  refine O.nil ?_
  refine k_seq ?_
  replace hf : Fr a 19 [] [(0, s1), (1, .func (.func 47) #[] #[Pv b3 0]), (4, Iv 0), (7, Iv (x2.length : Int)), (8, Iv 0)] := hf.to ⟨rfl, rfl, rfl, rfl, rfl, trivial⟩
  refine W.block ?_
  refine W.loop (G := Nat × Int) (fun g a w => match g with | (k7, x6) => Fr a 19 [] [(0, s1), (1, .func (.func 47) #[] #[Pv b3 0]), (4, Iv 0), (7, Iv (x2.length : Int)), (8, Iv x6)] ∧ St w0 w noX [rdE 1 E3 s1 x2, rdE 4 E24 s4 x5, pt b3 (Cs #[s4] 22)] [] ∧ m_slices_IndexFunc_int_int_l2 F x2 x5 k7 x6 = some r) (fun g => match g with | (k7, x6) => k7) (F, 0) ⟨hf.to ⟨rfl, rfl, rfl, rfl, rfl, trivial⟩, hS, hm⟩ ?_
  clear hf hS hm a; try clear w
  rintro ⟨k7, x6⟩ a w ⟨hf, hS, hm⟩
  rcases k7 with _ | k7
  · exact absurd (show none = some r from hm) (by simp)
  replace hm : m_slices_IndexFunc_int_int_b2 F x2 x5 (m_slices_IndexFunc_int_int_l2 F x2 x5 k7) x6 = some r := hm
  obtain ⟨rec7, hrec7⟩ : ∃ f, f = m_slices_IndexFunc_int_int_l2 F x2 x5 k7 := ⟨_, rfl⟩
  rw [← hrec7] at hm; unfold m_slices_IndexFunc_int_int_b2 at hm
  refine W.seq ?_
  refine W.regionL (l := [0]) rfl ?_
  refine O.val (v := Bv (decide (x6 < ((x2.length : Int) : Int)))) hf rfl rfl rfl (RunV.lss rfl rfl) ?_; clear hf a; intro a hf
  refine O.nil ?_
  refine k_seq ?_
  refine W.seq ?_
  refine W.ifdI hf rfl (fun hc8 => ?_) (fun hc8 => ?_)
  ·replace hm := hm_p hm hc8
   refine W.skip ?_
   refine k_seq ?_
   refine W.seq ?_
   refine W.block ?_
   refine W.seq ?_
   refine W.regionL (l := [0, 1]) rfl ?_
   refine O.val hf rfl rfl rfl (RunV.move rfl) ?_; clear hf a; intro a hf
   refine O.val hf rfl rfl rfl (RunV.assign rfl) ?_; clear hf a; intro a hf
   refine O.nil ?_
   refine k_seq ?_
   refine W.seq ?_
   refine W.regionL (l := [0, 1, 2, 3, 4, 5]) rfl ?_
   refine O.val hf rfl rfl rfl (RunV.move rfl) ?_; clear hf a; intro a hf
   refine O.val hf rfl rfl rfl (RunV.move rfl) ?_; clear hf a; intro a hf
   refine O.val hf rfl rfl rfl (RunV.move rfl) ?_; clear hf a; intro a hf
   obtain ⟨x9, hx9, hm⟩ := hm_b hm
   refine O.val hf rfl rfl rfl (RunV.ixE T_elem_49 T_size_3 rfl rfl (hS.rdB (j := 0) rfl) hx9) ?_; clear hf a; intro a hf
   refine O.val hf rfl rfl rfl (RunV.ldE1 (o := 0) T_agg_3 E3_len rfl (hS.rdB (j := 0) rfl) hx9 rfl rfl) ?_; clear hf a; intro a hf
   obtain ⟨x10, hx10, hm⟩ := hm_b hm
   refine O.callR hf rfl rfl rfl (RunE.call (av := #[Iv x9, Pv b3 0]) C_ok_47 rfl rfl rfl) (m_plan_Follow_1_ok F x9 b3 s4 x5 _ (hS.rdB (j := 1) rfl) (hS.bptAt (i := 2) rfl) x10 hx10) ?_
   clear hf a; rintro _ w hS1 a hf
   replace hf : Fr a _ _ ((16, Bv x10) :: _) := hf
   replace hS := (hS.call hS1).eqM (N := []) rfl
   clear hS1
   refine O.nil ?_
   refine k_seq ?_
   refine W.if_ hf rfl (fun hc11 => ?_) (fun hc11 => ?_)
   ·replace hm := hm_t hm hc11
    refine W.seq ?_
    refine W.regionL (l := [0, 1]) rfl ?_
    refine O.val hf rfl rfl rfl (RunV.move rfl) ?_; clear hf a; intro a hf
    refine O.val hf rfl rfl rfl (RunV.assign rfl) ?_; clear hf a; intro a hf
    refine O.nil ?_
    refine k_seq ?_
    refine W.ret ?_
    refine k_blk_ret ?_
    refine k_then_ret ?_
    refine k_then_ret ?_
    refine k_blk_ret ?_
    refine k_then_ret ?_
    obtain rfl := Option.some.inj hm
    refine post1 hf rfl (ResOK.tmp rfl) ?_
    exact ⟨(), rfl, hS.noB⟩
   ·replace hm := hm_f hm hc11
    refine W.skip ?_
    refine k_blk_normal ?_
    refine k_seq ?_
    refine W.regionL (l := [0, 1]) rfl ?_
    refine O.val (v := Iv (IntKind.i64.wrap (x6 + 1))) hf rfl rfl rfl (RunV.add rfl rfl) ?_; clear hf a; intro a hf
    refine O.val hf rfl rfl rfl (RunV.move rfl) ?_; clear hf a; intro a hf
    refine O.nil ?_
    refine k_then ⟨(k7, IntKind.i64.wrap (x6 + 1)), ⟨hf.to ⟨rfl, rfl, rfl, rfl, rfl, trivial⟩, hS, ?_⟩, Nat.lt_succ_self _⟩
    rw [hrec7] at hm; exact hm
  ·replace hm := hm_n hm hc8
   refine W.exit ?_
   refine k_then_exit ?_
   refine k_then_exit ?_
   refine k_blk ?_
   exact k_then ⟨hf.to ⟨rfl, trivial⟩, hS, hm⟩
 ·clear hf hS hm a; try clear w
  rintro a w ⟨hf, hS, hm⟩
  unfold m_slices_IndexFunc_int_int_j1 at hm
  refine W.seq ?_
  refine W.regionL (l := [0]) rfl ?_
  refine O.val hf rfl rfl rfl (RunV.assign rfl) ?_; clear hf a; intro a hf
  refine O.nil ?_
  refine k_seq ?_
  refine W.ret ?_
  obtain rfl := Option.some.inj hm
  refine post1 hf rfl (ResOK.tmp rfl) ?_
  exact ⟨(), rfl, hS.noB⟩

def m_slices_ContainsFunc_int_int (F : Nat)  (x2 : List Int) (x5 : List (Int × Int × Int × Int)) : Option Bool :=
  (m_slices_IndexFunc_int_int F x2 x5).bind fun x6 => some (decide (x6 ≥ (0 : Int)))
set_option maxHeartbeats 1000000 in
set_option maxRecDepth 8000 in
theorem m_slices_ContainsFunc_int_int_ok (F : Nat)    (s1 : Value) (x2 : List Int) (b3 : Nat) (s4 : Value) (x5 : List (Int × Int × Int × Int)) (w0 : World) (h_s1 : rdEOK (hp w0) 1 E3 s1 x2) (h_s4 : rdEOK (hp w0) 4 E24 s4 x5) (h_b3 : w0.heap[b3]? = some (.cells #[s4] 22 (0, 0))) (r : Bool) (hm : m_slices_ContainsFunc_int_int F x2 x5 = some r) :
    Ret Try.prog 46 #[s1, .func (.func 47) #[] #[Pv b3 0]] w0 (G := Unit) (fun _ => Bv r) (fun _ w => St w0 w noX [] []) := by
 unfold m_slices_ContainsFunc_int_int at hm
 refine ret_of_W (lv := [s1, .func (.func 47) #[] #[Pv b3 0]]) Try.func46 rfl rfl rfl (fun a hf => ?_)
 replace hf : Fr a 9 [] [(0, s1), (1, .func (.func 47) #[] #[Pv b3 0])] := hf
 have hS : St w0 w0 noX [rdE 1 E3 s1 x2, rdE 4 E24 s4 x5, pt b3 (Cs #[s4] 22)] [] := St.borrow (lendAll_cons (lendRd h_s1) (lendAll_cons (lendRd h_s4) (lendAll_cons (lendPt h_b3) lendAll_nil)))
 refine W.seq ?_
 refine W.regionL (l := [0]) rfl ?_
 refine O.val hf rfl rfl rfl (RunV.assign rfl) ?_; clear hf a; intro a hf
 refine O.nil ?_
 refine k_seq ?_
 refine W.seq ?_
 refine W.regionL (l := [0, 1, 2, 3, 4]) rfl ?_
 refine O.val hf rfl rfl rfl (RunV.move rfl) ?_; clear hf a; intro a hf
 refine O.val hf rfl rfl rfl (RunV.move rfl) ?_; clear hf a; intro a hf
 obtain ⟨x6, hx6, hm⟩ := hm_b hm
 refine O.callR hf rfl rfl rfl (RunE.call (av := #[s1, .func (.func 47) #[] #[Pv b3 0]]) C_ok_74 rfl rfl rfl) (m_slices_IndexFunc_int_int_ok F s1 x2 b3 s4 x5 _ (hS.rdB (j := 0) rfl) (hS.rdB (j := 1) rfl) (hS.bptAt (i := 2) rfl) x6 hx6) ?_
 clear hf a; rintro _ w hS1 a hf
 replace hf : Fr a _ _ ((7, Iv x6) :: _) := hf
 replace hS := (hS.call hS1).eqM (N := []) rfl
 clear hS1
 refine O.val (v := Bv (decide (x6 ≥ (0 : Int)))) hf rfl rfl rfl (RunV.geq rfl rfl) ?_; clear hf a; intro a hf
 refine O.val hf rfl rfl rfl (RunV.assign rfl) ?_; clear hf a; intro a hf
 refine O.nil ?_
 refine k_seq ?_
 replace hf : Fr a 9 [] [(4, Bv (decide (x6 ≥ (0 : Int))))] := hf.to ⟨rfl, trivial⟩
 refine W.ret ?_
 obtain rfl := Option.some.inj hm
 refine post1 hf rfl (ResOK.tmp rfl) ?_
 exact ⟨(), rfl, hS.noB⟩

def m_slices_Clone_int_int (F : Nat)  (x2 : List Int) : Option (List Int) :=
  if (([] : List Int).length : Int) ≤ 4294967296 then if (x2.length : Int) ≤ 4294967296 then some (([] : List Int) ++ x2) else none else none
set_option maxHeartbeats 1000000 in
set_option maxRecDepth 8000 in
theorem m_slices_Clone_int_int_ok (F : Nat)    (s1 : Value) (x2 : List Int) (w0 : World) (h_s1 : rdEOK (hp w0) 1 E3 s1 x2) (r : List Int) (hm : m_slices_Clone_int_int F x2 = some r) :
    Ret Try.prog 48 #[s1] w0 (G := Value) (fun g1 => g1) (fun g1 w => St w0 w noX [] [slE 3 1 E3 g1 r]) := by
 unfold m_slices_Clone_int_int at hm
 refine ret_of_W (lv := [s1]) Try.func48 rfl rfl rfl (fun a hf => ?_)
 replace hf : Fr a 8 [] [(0, s1)] := hf
 have hS : St w0 w0 noX [rdE 1 E3 s1 x2] [] := St.borrow (lendAll_cons (lendRd h_s1) lendAll_nil)
 refine W.seq ?_
 refine W.regionL (l := [0]) rfl ?_
 refine O.val hf rfl rfl rfl (RunV.assign rfl) ?_; clear hf a; intro a hf
 refine O.nil ?_
 refine k_seq ?_
 refine W.seq ?_
 refine W.seq ?_
 refine W.regionL (l := [0, 1]) rfl ?_
 refine O.val hf rfl rfl rfl (RunV.move rfl) ?_; clear hf a; intro a hf
 rcases nil_or (hS.rdB (j := 0) rfl) with ⟨_, hn3, hl⟩ | ⟨_, _, _, hn3⟩
 ·refine O.val (v := .bool true) hf rfl rfl rfl (RunV.eqNil1 T_elem_49 hn3 rfl rfl) ?_; clear hf a; intro a hf
  subst hl
  replace hm : some [] = some r := by simpa using hm
  refine O.nil ?_
  refine k_seq ?_
  replace hf : Fr a 8 [] [(0, s1), (2, .slice none 0 0), (4, Bv true)] := hf.to ⟨rfl, rfl, rfl, trivial⟩
  refine W.if_tt hf rfl ?_
  refine W.seq ?_
  refine W.regionL (l := [0]) rfl ?_
  refine O.val hf rfl rfl rfl (RunV.assign rfl) ?_; clear hf a; intro a hf
  refine O.nil ?_
  refine k_seq ?_
  replace hf : Fr a 8 [] [(0, s1), (2, .slice none 0 0)] := hf.to ⟨rfl, rfl, trivial⟩
  refine W.ret ?_
  refine k_then_ret ?_
  replace hS := hS.nilE 3 1 E3
  obtain rfl := Option.some.inj hm
  refine post1 hf rfl (ResOK.tmp rfl) ?_
  replace hS := hS.nilE 3 1 E3
  replace hS := hS.sub (N := [slE 3 1 E3 (.slice none 0 0) ([] : List Int)]) (.cons_cons _ (.cons _ .slnil))
  replace hS := hS.selB (B' := []) [] rfl
  exact ⟨(.slice none 0 0), rfl, hS.noB⟩
 ·refine O.val (v := .bool false) hf rfl rfl rfl (RunV.eqNil2 T_elem_49 hn3 rfl rfl) ?_; clear hf a; intro a hf
  refine O.nil ?_
  refine k_seq ?_
  replace hf : Fr a 8 [] [(0, s1), (2, .slice none 0 0), (4, Bv false)] := hf.to ⟨rfl, rfl, rfl, trivial⟩
  refine W.if_ff hf rfl ?_
  refine W.skip ?_
  refine k_seq ?_
  replace hf : Fr a 8 [] [(0, s1), (2, .slice none 0 0)] := hf.to ⟨rfl, rfl, trivial⟩
  refine W.seq ?_
  refine W.regionL (l := [0, 1, 2, 3]) rfl ?_
  refine O.buildSlice0 hf hS rfl rfl T_elem_49 T_size_3 rfl ?_
  clear hf hS a; intro b4 w a hb4 hS hf
  obtain ⟨s5, hs5⟩ : ∃ v, v = Value.slice (some ⟨b4, 0, none⟩) 0 0 := ⟨_, rfl⟩
  rw [← hs5] at hf hS
  replace hS : St w0 _ noX [rdE 1 E3 s1 x2] [slE 3 1 E3 s5 ([] : List Int)] := hS
  refine O.val hf rfl rfl rfl (RunV.move rfl) ?_; clear hf a; intro a hf
  obtain ⟨hg6, hm⟩ := hm_g hm
  obtain ⟨hg7, hm⟩ := hm_g hm
  refine O.appendEV (j := 0) (l' := ([] : List Int) ++ x2) hf hS rfl rfl T_elem_49 T_size_3 T_bytes_3 T_zero_3 rfl rfl rfl rfl rfl (hS.rdB (j := 0) rfl) E3_one hg6 hg7 rfl rfl ?_
  clear hf hS a; intro s8 w a hS hf
  replace hS : St w0 _ noX [rdE 1 E3 s1 x2] [slE 3 1 E3 s8 (([] : List Int) ++ x2)] := hS
  refine O.val hf rfl rfl rfl (RunV.assign rfl) ?_; clear hf a; intro a hf
  refine O.nil ?_
  refine k_seq ?_
  replace hf : Fr a 8 [] [(2, s8)] := hf.to ⟨rfl, trivial⟩
  refine W.ret ?_
  obtain rfl := Option.some.inj hm
  refine post1 hf rfl (ResOK.tmp rfl) ?_
  replace hS := hS.selB (B' := []) [] rfl
  exact ⟨s8, rfl, hS.noB⟩

def m_slices_Sort_int_int_2 (F : Nat) (x2 : List Int) : Option (List Int) :=
  if x2.length ≤ 10000 then some (srtI x2) else none
theorem m_slices_Sort_int_int_2_ok (F : Nat) (s1 : Value) (x2 : List Int) (w0 : World) (h_s1 : slOK (hp w0) 3 1 s1 x2.length (encs E3 x2)) (r : List Int) (hm : m_slices_Sort_int_int_2 F x2 = some r) :
    Ret Try.prog 49 #[s1] w0 (G := Unit) (fun _ => .tuple #[]) (fun _ w => St w0 w (fun k => s1.ownBlock = some k) [] [slE 3 1 E3 s1 r]) := by
 unfold m_slices_Sort_int_int_2 at hm
 obtain ⟨hl, hm⟩ := hm_g hm
 exact sort_E Try.sortA rfl (fun _ => rfl) 3 s1 x2 r w0 h_s1 hl (Option.some.inj hm)

def m_slices_Compact_int_int_2_j1 (F : Nat) (x2 : List Int) : Option (List Int) :=
  some x2
def m_slices_Compact_int_int_2_j3 (F : Nat) (rec5 : Int → Option (List Int)) (x4 : Int) (x7 : Int) (x8 : Int) (x9 : Bool) : Option (List Int) :=
  rec5 (IntKind.i64.wrap (x4 + 1))
def m_slices_Compact_int_int_2_j4 (F : Nat) (x14 : List Int) (x15 : Int) (x16 : Int) (x17 : Int) (x18 : Int) (x19 : Bool) : Option (List Int) :=
  if sbd x15 (x14.length : Int) (x14.length : Int) then if sbd 0 x15 ((lcopy x14 (List.replicate (Int.toNat (x14.length : Int) - Int.toNat x15) (0 : Int)) x15 (Int.toNat (x14.length : Int) - Int.toNat x15)).length : Int) then some (lsub (lcopy x14 (List.replicate (Int.toNat (x14.length : Int) - Int.toNat x15) (0 : Int)) x15 (Int.toNat (x14.length : Int) - Int.toNat x15)) 0 x15) else none else none
def m_slices_Compact_int_int_2_j6 (F : Nat) (rec25 : (List Int) → Int → Int → Option (List Int)) (x24 : Int) (x29 : List Int) (x30 : Int) (x31 : Int) (x32 : Int) (x33 : Bool) : Option (List Int) :=
  rec25 x29 x30 (IntKind.i64.wrap (x24 + 1))
def m_slices_Compact_int_int_2_b5 (F : Nat) (x4 : Int) (x2 : List Int) (rec25 : (List Int) → Int → Int → Option (List Int)) (x22 : List Int) (x23 : Int) (x24 : Int) : Option (List Int) :=
  if sbd x4 (x2.length : Int) (x22.length : Int) then (some ((lsub x22 x4 (x2.length : Int)).length : Int)).bind fun x27 => if x24 < (x27 : Int) then ((idx (lsub x22 x4 (x2.length : Int)) x24).bind fun x34 => (idx (lsub x22 x4 (x2.length : Int)) (IntKind.i64.wrap (x24 - 1))).bind fun x35 => if x34 ≠ (x35 : Int) then ((idx x22 x23).bind fun x37 => m_slices_Compact_int_int_2_j6 F rec25 x24 (x22.set (Int.toNat x23) x34) (IntKind.i64.wrap (x23 + 1)) x34 x35 (decide (x34 ≠ (x35 : Int)))) else (m_slices_Compact_int_int_2_j6 F rec25 x24 x22 x23 x34 x35 (decide (x34 ≠ (x35 : Int))))) else (m_slices_Compact_int_int_2_j4 F x22 x23 x24 x24 x27 (decide (x24 < (x27 : Int)))) else none
def m_slices_Compact_int_int_2_l5 (F : Nat) (x4 : Int) (x2 : List Int) : Nat → (List Int) → Int → Int → Option (List Int)
  | 0, _, _, _ => none
  | n + 1, x22, x23, x24 => m_slices_Compact_int_int_2_b5 F x4 x2 (m_slices_Compact_int_int_2_l5 F x4 x2 n) x22 x23 x24
def m_slices_Compact_int_int_2_b2 (F : Nat) (x2 : List Int) (rec5 : Int → Option (List Int)) (x4 : Int) : Option (List Int) :=
  if x4 < ((x2.length : Int) : Int) then ((idx x2 x4).bind fun x10 => (idx x2 (IntKind.i64.wrap (x4 - 1))).bind fun x11 => if x10 = (x11 : Int) then (if sbd x4 (x2.length : Int) (x2.length : Int) then m_slices_Compact_int_int_2_l5 F x4 x2 F x2 x4 1 else none) else (m_slices_Compact_int_int_2_j3 F rec5 x4 x10 x11 (decide (x10 = (x11 : Int))))) else (m_slices_Compact_int_int_2_j1 F x2)
def m_slices_Compact_int_int_2_l2 (F : Nat) (x2 : List Int) : Nat → Int → Option (List Int)
  | 0, _ => none
  | n + 1, x4 => m_slices_Compact_int_int_2_b2 F x2 (m_slices_Compact_int_int_2_l2 F x2 n) x4
def m_slices_Compact_int_int_2 (F : Nat)  (x2 : List Int) : Option (List Int) :=
  if (x2.length : Int) < (2 : Int) then (some x2) else (m_slices_Compact_int_int_2_l2 F x2 F 1)
set_option maxHeartbeats 1000000 in
set_option maxRecDepth 8000 in
theorem m_slices_Compact_int_int_2_ok (F : Nat)    (s1 : Value) (x2 : List Int) (w0 : World) (h_s1 : slOK (hp w0) 3 1 s1 x2.length (encs E3 x2)) (r : List Int) (hm : m_slices_Compact_int_int_2 F x2 = some r) :
    Ret Try.prog 50 #[s1] w0 (G := Value) (fun g1 => g1) (fun g1 w => St w0 w (fun k => s1.ownBlock = some k) [] [slE 3 1 E3 g1 r]) := by
 unfold m_slices_Compact_int_int_2 at hm
 refine ret_of_W (lv := [s1]) Try.func50 rfl rfl rfl (fun a hf => ?_)
 replace hf : Fr a 61 [] [(0, s1)] := hf
 have hS : St w0 w0 (fun k => s1.ownBlock = some k) [] [slE 3 1 E3 s1 x2] := St.ownE h_s1 lendAll_nil (apAll_nil (q := slE 3 1 E3 s1 x2))
 refine W.seq ?_
 refine W.regionL (l := [0]) rfl ?_
 refine O.val hf rfl rfl rfl (RunV.assign rfl) ?_; clear hf a; intro a hf
 refine O.nil ?_
 refine k_seq ?_
 refine W.seq ?_
 refine W.seq ?_
 refine W.regionL (l := [0, 1, 2]) rfl ?_
 refine O.val hf rfl rfl rfl (RunV.move rfl) ?_; clear hf a; intro a hf
 refine O.val (v := Iv (x2.length : Int)) hf rfl rfl rfl (RunV.lenE (e := 3) (by simpa using T_elem_49) rfl (hS.rdS (j := 0) rfl)) ?_; clear hf a; intro a hf
 refine O.val (v := Bv (decide ((x2.length : Int) < (2 : Int)))) hf rfl rfl rfl (RunV.lss rfl rfl) ?_; clear hf a; intro a hf
 refine O.nil ?_
 refine k_seq ?_
 replace hf : Fr a 61 [] [(0, s1), (2, .slice none 0 0), (8, Bv (decide ((x2.length : Int) < (2 : Int))))] := hf.to ⟨rfl, rfl, rfl, trivial⟩
 refine W.ifdI hf rfl (fun hc3 => ?_) (fun hc3 => ?_)
 ·replace hm := hm_p hm hc3
  refine W.seq ?_
  refine W.regionL (l := [0, 1]) rfl ?_
  refine O.val hf rfl rfl rfl (RunV.move rfl) ?_; clear hf a; intro a hf
  refine O.val hf rfl rfl rfl (RunV.assign rfl) ?_; clear hf a; intro a hf
  refine O.nil ?_
  refine k_seq ?_
  replace hf : Fr a 61 [] [(0, s1), (2, s1)] := hf.to ⟨rfl, rfl, trivial⟩
  refine W.ret ?_
  refine k_then_ret ?_
  obtain rfl := Option.some.inj hm
  refine post1 hf rfl (ResOK.tmp rfl) ?_
  exact ⟨s1, rfl, hS.noB⟩
 ·replace hm := hm_n hm hc3
  refine W.skip ?_
  refine k_seq ?_
  replace hf : Fr a 61 [] [(0, s1), (2, .slice none 0 0)] := hf.to ⟨rfl, rfl, trivial⟩
  refine W.seqR (fun a w => Fr a 61 [] [(0, s1), (2, .slice none 0 0)] ∧ St w0 w (fun k => s1.ownBlock = some k) [] [slE 3 1 E3 s1 x2] ∧ m_slices_Compact_int_int_2_j1 F x2 = some r) ?_ ?_
  ·refine W.seq ?_
   refine W.regionL (l := [0]) rfl ?_
   refine O.val hf rfl rfl rfl (RunV.assign rfl) ?_; clear hf a; intro a hf
   refine O.nil ?_
   refine k_seq ?_
   refine W.block ?_
   refine W.loop (G := Nat × Int) (fun g a w => match g with | (k5, x4) => Fr a 61 [] [(0, s1), (2, .slice none 0 0), (3, Iv x4)] ∧ St w0 w (fun k => s1.ownBlock = some k) [] [slE 3 1 E3 s1 x2] ∧ m_slices_Compact_int_int_2_l2 F x2 k5 x4 = some r) (fun g => match g with | (k5, x4) => k5) (F, 1) ⟨hf.to ⟨rfl, rfl, rfl, trivial⟩, hS, hm⟩ ?_
   clear hf hS hm a; try clear w
   rintro ⟨k5, x4⟩ a w ⟨hf, hS, hm⟩
   rcases k5 with _ | k5
   · exact absurd (show none = some r from hm) (by simp)
   replace hm : m_slices_Compact_int_int_2_b2 F x2 (m_slices_Compact_int_int_2_l2 F x2 k5) x4 = some r := hm
   obtain ⟨rec5, hrec5⟩ : ∃ f, f = m_slices_Compact_int_int_2_l2 F x2 k5 := ⟨_, rfl⟩
   rw [← hrec5] at hm; unfold m_slices_Compact_int_int_2_b2 at hm
   refine W.seq ?_
   refine W.seq ?_
   refine W.regionL (l := [0, 1, 2, 3]) rfl ?_
   refine O.val hf rfl rfl rfl (RunV.move rfl) ?_; clear hf a; intro a hf
   refine O.val hf rfl rfl rfl (RunV.move rfl) ?_; clear hf a; intro a hf
   refine O.val (v := Iv (x2.length : Int)) hf rfl rfl rfl (RunV.lenE (e := 3) (by simpa using T_elem_49) rfl (hS.rdS (j := 0) rfl)) ?_; clear hf a; intro a hf
   refine O.val (v := Bv (decide (x4 < ((x2.length : Int) : Int)))) hf rfl rfl rfl (RunV.lss rfl rfl) ?_; clear hf a; intro a hf
   refine O.nil ?_
   refine k_seq ?_
   refine W.ifdI hf rfl (fun hc6 => ?_) (fun hc6 => ?_)
   ·replace hm := hm_p hm hc6
    refine W.skip ?_
    refine k_seq ?_
    refine W.seqR (fun a w => ∃ (x7 : Int) (x8 : Int) (x9 : Bool), Fr a 61 [] [(0, s1), (2, .slice none 0 0), (3, Iv x4), (10, Iv x4), (11, s1), (12, Iv (x2.length : Int)), (13, Bv (decide (x4 < ((x2.length : Int) : Int)))), (16, s1), (17, Iv x4), (18, ix s1 (Int.toNat x4 * 1)), (19, Iv x7), (20, s1), (21, Iv x4), (22, Iv (IntKind.i64.wrap (x4 - 1))), (23, ix s1 (Int.toNat (IntKind.i64.wrap (x4 - 1)) * 1)), (24, Iv x8), (25, Bv x9)] ∧ St w0 w (fun k => s1.ownBlock = some k) [] [slE 3 1 E3 s1 x2] ∧ m_slices_Compact_int_int_2_j3 F rec5 x4 x7 x8 x9 = some r) ?_ ?_
    ·refine W.block ?_
     refine W.seq ?_
     obtain ⟨x10, hx10, hm⟩ := hm_b hm
     obtain ⟨x11, hx11, hm⟩ := hm_b hm
     refine W.drawQ (fun w => St w0 w (fun k => s1.ownBlock = some k) [] [slE 3 1 E3 s1 x2]) P_mixed rfl (by kernel_rfl) rfl hS.drew ?_
     clear hS; try clear w
     refine OQ.val (v := s1) hf rfl (fun w hS => RunV.move rfl) ?_; clear hf a; intro a hf
     refine OQ.val (v := Iv x4) hf rfl (fun w hS => RunV.move rfl) ?_; clear hf a; intro a hf
     refine OQ.val (v := ix s1 (Int.toNat x4 * 1)) hf rfl (fun w hS => RunV.ixE T_elem_49 T_size_3 rfl rfl (hS.rdS (j := 0) rfl) hx10) ?_; clear hf a; intro a hf
     refine OQ.val (v := Iv x10) hf rfl (fun w hS => RunV.ldE1 (o := 0) T_agg_3 E3_len rfl (hS.rdS (j := 0) rfl) hx10 rfl rfl) ?_; clear hf a; intro a hf
     refine OQ.val (v := s1) hf rfl (fun w hS => RunV.move rfl) ?_; clear hf a; intro a hf
     refine OQ.val (v := Iv x4) hf rfl (fun w hS => RunV.move rfl) ?_; clear hf a; intro a hf
     refine OQ.val (v := Iv (IntKind.i64.wrap (x4 - 1))) hf rfl (fun w hS => RunV.sub rfl rfl) ?_; clear hf a; intro a hf
     refine OQ.val (v := ix s1 (Int.toNat (IntKind.i64.wrap (x4 - 1)) * 1)) hf rfl (fun w hS => RunV.ixE T_elem_49 T_size_3 rfl rfl (hS.rdS (j := 0) rfl) hx11) ?_; clear hf a; intro a hf
     refine OQ.val (v := Iv x11) hf rfl (fun w hS => RunV.ldE1 (o := 0) T_agg_3 E3_len rfl (hS.rdS (j := 0) rfl) hx11 rfl rfl) ?_; clear hf a; intro a hf
     refine OQ.val (v := Bv (decide (x10 = (x11 : Int)))) hf rfl (fun w hS => RunV.eql rfl rfl) ?_; clear hf a; intro a hf
     refine OQ.nil ?_; intro w hS
     refine k_seq ?_
     refine W.ifdI hf rfl (fun hc12 => ?_) (fun hc12 => ?_)
     ·replace hm := hm_p hm hc12
      refine W.seq ?_
      refine W.regionL (l := [0, 1, 2, 3]) rfl ?_
      refine O.val hf rfl rfl rfl (RunV.move rfl) ?_; clear hf a; intro a hf
      refine O.val hf rfl rfl rfl (RunV.move rfl) ?_; clear hf a; intro a hf
      obtain ⟨hg13, hm⟩ := hm_g hm
      refine O.val (v := vsub 1 s1 x4 (x2.length : Int)) hf rfl rfl rfl (RunV.sliceL T_elem_49 T_size_3 rfl rfl (hS.rdS (j := 0) rfl) hg13) ?_; clear hf a; intro a hf
      refine O.val hf rfl rfl rfl (RunV.assign rfl) ?_; clear hf a; intro a hf
      refine O.nil ?_
      refine k_seq ?_
      refine W.seqR (fun a w => ∃ (x14 : List Int) (x15 : Int) (x16 : Int) (x17 : Int) (x18 : Int) (x19 : Bool), Fr a 61 [] [(0, s1), (2, .slice none 0 0), (3, Iv x15), (4, vsub 1 s1 x4 (x2.length : Int)), (5, Iv x16), (10, Iv x4), (11, s1), (12, Iv (x2.length : Int)), (13, Bv (decide (x4 < ((x2.length : Int) : Int)))), (16, s1), (17, Iv x4), (18, ix s1 (Int.toNat x4 * 1)), (19, Iv x10), (20, s1), (21, Iv x4), (22, Iv (IntKind.i64.wrap (x4 - 1))), (23, ix s1 (Int.toNat (IntKind.i64.wrap (x4 - 1)) * 1)), (24, Iv x11), (25, Bv (decide (x10 = (x11 : Int)))), (26, s1), (27, Iv x4), (28, vsub 1 s1 x4 (x2.length : Int)), (29, Iv x17), (30, vsub 1 s1 x4 (x2.length : Int)), (31, Iv x18), (32, Bv x19)] ∧ St w0 w (fun k => s1.ownBlock = some k) [] [slE 3 1 E3 s1 x14] ∧ m_slices_Compact_int_int_2_j4 F x14 x15 x16 x17 x18 x19 = some r) ?_ ?_
      ·refine W.seq ?_
       refine W.regionL (l := [0]) rfl ?_
       refine O.val hf rfl rfl rfl (RunV.assign rfl) ?_; clear hf a; intro a hf
       refine O.nil ?_
       refine k_seq ?_
       refine W.block ?_
       refine W.loop (G := Nat × (List Int) × Int × Int) (fun g a w => match g with | (k25, x22, x23, x24) => Fr a 61 [] [(0, s1), (2, .slice none 0 0), (3, Iv x23), (4, vsub 1 s1 x4 (x2.length : Int)), (5, Iv x24), (10, Iv x4), (11, s1), (12, Iv (x2.length : Int)), (13, Bv (decide (x4 < ((x2.length : Int) : Int)))), (16, s1), (17, Iv x4), (18, ix s1 (Int.toNat x4 * 1)), (19, Iv x10), (20, s1), (21, Iv x4), (22, Iv (IntKind.i64.wrap (x4 - 1))), (23, ix s1 (Int.toNat (IntKind.i64.wrap (x4 - 1)) * 1)), (24, Iv x11), (25, Bv (decide (x10 = (x11 : Int)))), (26, s1), (27, Iv x4), (28, vsub 1 s1 x4 (x2.length : Int))] ∧ St w0 w (fun k => s1.ownBlock = some k) [] [slE 3 1 E3 s1 x22] ∧ m_slices_Compact_int_int_2_l5 F x4 x2 k25 x22 x23 x24 = some r) (fun g => match g with | (k25, x22, x23, x24) => k25) (F, x2, x4, 1) ⟨hf.to ⟨rfl, rfl, rfl, rfl, rfl, rfl, rfl, rfl, rfl, rfl, rfl, rfl, rfl, rfl, rfl, rfl, rfl, rfl, rfl, rfl, rfl, rfl, trivial⟩, hS, hm⟩ ?_
       clear hf hS hm a; try clear w
       rintro ⟨k25, x22, x23, x24⟩ a w ⟨hf, hS, hm⟩
       rcases k25 with _ | k25
       · exact absurd (show none = some r from hm) (by simp)
       replace hm : m_slices_Compact_int_int_2_b5 F x4 x2 (m_slices_Compact_int_int_2_l5 F x4 x2 k25) x22 x23 x24 = some r := hm
       obtain ⟨rec25, hrec25⟩ : ∃ f, f = m_slices_Compact_int_int_2_l5 F x4 x2 k25 := ⟨_, rfl⟩
       rw [← hrec25] at hm; unfold m_slices_Compact_int_int_2_b5 at hm
       refine W.seq ?_
       refine W.seq ?_
       refine W.regionL (l := [0, 1, 2, 3]) rfl ?_
       refine O.val hf rfl rfl rfl (RunV.move rfl) ?_; clear hf a; intro a hf
       refine O.val hf rfl rfl rfl (RunV.move rfl) ?_; clear hf a; intro a hf
       obtain ⟨hg26, hm⟩ := hm_g hm
       refine O.val (v := Iv ((lsub x22 x4 (x2.length : Int)).length : Int)) hf rfl rfl rfl (RunV.lenE (e := 3) (by simpa using T_elem_49) rfl (rdEOK.sub (hS.rdS (j := 0) rfl) E3_len hg26)) ?_; clear hf a; intro a hf
       refine O.val (v := Bv (decide (x24 < (((lsub x22 x4 (x2.length : Int)).length : Int) : Int)))) hf rfl rfl rfl (RunV.lss rfl rfl) ?_; clear hf a; intro a hf
       refine O.nil ?_
       refine k_seq ?_
       obtain ⟨x27, hx27, hm⟩ := hm_b hm
       rw [Option.some.inj hx27] at hf
       refine W.ifdI hf rfl (fun hc28 => ?_) (fun hc28 => ?_)
       ·replace hm := hm_p hm hc28
        refine W.skip ?_
        refine k_seq ?_
        refine W.seqR (fun a w => ∃ (x29 : List Int) (x30 : Int) (x31 : Int) (x32 : Int) (x33 : Bool), Fr a 61 [] [(0, s1), (2, .slice none 0 0), (3, Iv x30), (4, vsub 1 s1 x4 (x2.length : Int)), (5, Iv x24), (10, Iv x4), (11, s1), (12, Iv (x2.length : Int)), (13, Bv (decide (x4 < ((x2.length : Int) : Int)))), (16, s1), (17, Iv x4), (18, ix s1 (Int.toNat x4 * 1)), (19, Iv x10), (20, s1), (21, Iv x4), (22, Iv (IntKind.i64.wrap (x4 - 1))), (23, ix s1 (Int.toNat (IntKind.i64.wrap (x4 - 1)) * 1)), (24, Iv x11), (25, Bv (decide (x10 = (x11 : Int)))), (26, s1), (27, Iv x4), (28, vsub 1 s1 x4 (x2.length : Int)), (29, Iv x24), (30, vsub 1 s1 x4 (x2.length : Int)), (31, Iv x27), (32, Bv (decide (x24 < (x27 : Int)))), (35, vsub 1 s1 x4 (x2.length : Int)), (36, Iv x24), (37, ix s1 (Int.toNat (x4 + x24) * 1)), (38, Iv x31), (39, vsub 1 s1 x4 (x2.length : Int)), (40, Iv x24), (41, Iv (IntKind.i64.wrap (x24 - 1))), (42, ix s1 (Int.toNat (x4 + (IntKind.i64.wrap (x24 - 1))) * 1)), (43, Iv x32), (44, Bv x33)] ∧ St w0 w (fun k => s1.ownBlock = some k) [] [slE 3 1 E3 s1 x29] ∧ m_slices_Compact_int_int_2_j6 F rec25 x24 x29 x30 x31 x32 x33 = some r) ?_ ?_
        ·refine W.block ?_
         refine W.seq ?_
         obtain ⟨x34, hx34, hm⟩ := hm_b hm
         obtain ⟨x35, hx35, hm⟩ := hm_b hm
         refine W.drawQ (fun w => St w0 w (fun k => s1.ownBlock = some k) [] [slE 3 1 E3 s1 x22]) P_mixed rfl (by kernel_rfl) rfl hS.drew ?_
         clear hS; try clear w
         refine OQ.val (v := vsub 1 s1 x4 (x2.length : Int)) hf rfl (fun w hS => RunV.move rfl) ?_; clear hf a; intro a hf
         refine OQ.val (v := Iv x24) hf rfl (fun w hS => RunV.move rfl) ?_; clear hf a; intro a hf
         refine OQ.val (v := ix s1 (Int.toNat (x4 + x24) * 1)) hf rfl (fun w hS => RunV.ixW T_elem_49 T_size_3 rfl rfl (hS.rdS (j := 0) rfl) E3_len hg26 hx34) ?_; clear hf a; intro a hf
         refine OQ.val (v := Iv x34) hf rfl (fun w hS => RunV.ldE1 (o := 0) T_agg_3 E3_len rfl (hS.rdS (j := 0) rfl) (idx_lsub hg26 hx34) rfl rfl) ?_; clear hf a; intro a hf
         refine OQ.val (v := vsub 1 s1 x4 (x2.length : Int)) hf rfl (fun w hS => RunV.move rfl) ?_; clear hf a; intro a hf
         refine OQ.val (v := Iv x24) hf rfl (fun w hS => RunV.move rfl) ?_; clear hf a; intro a hf
         refine OQ.val (v := Iv (IntKind.i64.wrap (x24 - 1))) hf rfl (fun w hS => RunV.sub rfl rfl) ?_; clear hf a; intro a hf
         refine OQ.val (v := ix s1 (Int.toNat (x4 + (IntKind.i64.wrap (x24 - 1))) * 1)) hf rfl (fun w hS => RunV.ixW T_elem_49 T_size_3 rfl rfl (hS.rdS (j := 0) rfl) E3_len hg26 hx35) ?_; clear hf a; intro a hf
         refine OQ.val (v := Iv x35) hf rfl (fun w hS => RunV.ldE1 (o := 0) T_agg_3 E3_len rfl (hS.rdS (j := 0) rfl) (idx_lsub hg26 hx35) rfl rfl) ?_; clear hf a; intro a hf
         refine OQ.val (v := Bv (decide (x34 ≠ (x35 : Int)))) hf rfl (fun w hS => RunV.neq rfl rfl) ?_; clear hf a; intro a hf
         refine OQ.nil ?_; intro w hS
         refine k_seq ?_
         refine W.ifdI hf rfl (fun hc36 => ?_) (fun hc36 => ?_)
         ·replace hm := hm_p hm hc36
          refine W.seq ?_
          refine W.regionL (l := [0, 1, 2, 3, 4, 5, 6, 7]) rfl ?_
          refine O.val hf rfl rfl rfl (RunV.move rfl) ?_; clear hf a; intro a hf
          refine O.val hf rfl rfl rfl (RunV.move rfl) ?_; clear hf a; intro a hf
          refine O.val hf rfl rfl rfl (RunV.move rfl) ?_; clear hf a; intro a hf
          refine O.val hf rfl rfl rfl (RunV.move rfl) ?_; clear hf a; intro a hf
          refine O.val hf rfl rfl rfl (RunV.ixW T_elem_49 T_size_3 rfl rfl (hS.rdS (j := 0) rfl) E3_len hg26 hx34) ?_; clear hf a; intro a hf
          refine O.val hf rfl rfl rfl (RunV.ldE1 (o := 0) T_agg_3 E3_len rfl (hS.rdS (j := 0) rfl) (idx_lsub hg26 hx34) rfl rfl) ?_; clear hf a; intro a hf
          obtain ⟨x37, hx37, hm⟩ := hm_b hm
          refine O.val hf rfl rfl rfl (RunV.ixE T_elem_49 T_size_3 rfl rfl (hS.rdS (j := 0) rfl) hx37) ?_; clear hf a; intro a hf
          refine O.storeE (j := 0) (o := 0) (y0 := x34) (l' := x22.set (Int.toNat x23) x34) (M' := [slE 3 1 E3 s1 (x22.set (Int.toNat x23) x34)]) hf hS rfl rfl rfl T_size_3 rfl rfl rfl E3_len hx37 rfl rfl rfl rfl ?_
          clear hS; intro w hS
          refine O.nil ?_
          refine k_seq ?_
          refine W.regionL (l := [0, 1, 2]) rfl ?_
          refine O.val hf rfl rfl rfl (RunV.move rfl) ?_; clear hf a; intro a hf
          refine O.val (v := Iv (IntKind.i64.wrap (x23 + 1))) hf rfl rfl rfl (RunV.add rfl rfl) ?_; clear hf a; intro a hf
          refine O.val hf rfl rfl rfl (RunV.assign rfl) ?_; clear hf a; intro a hf
          refine O.nil ?_
          refine k_blk_normal ?_
          exact k_then ⟨x22.set (Int.toNat x23) x34, IntKind.i64.wrap (x23 + 1), x34, x35, decide (x34 ≠ (x35 : Int)), hf.to ⟨rfl, rfl, rfl, rfl, rfl, rfl, rfl, rfl, rfl, rfl, rfl, rfl, rfl, rfl, rfl, rfl, rfl, rfl, rfl, rfl, rfl, rfl, rfl, rfl, rfl, rfl, rfl, rfl, rfl, rfl, rfl, rfl, rfl, rfl, rfl, rfl, trivial⟩, hS, hm⟩
         ·replace hm := hm_n hm hc36
          refine W.skip ?_
          refine k_blk_normal ?_
          exact k_then ⟨x22, x23, x34, x35, decide (x34 ≠ (x35 : Int)), hf.to ⟨rfl, rfl, rfl, rfl, rfl, rfl, rfl, rfl, rfl, rfl, rfl, rfl, rfl, rfl, rfl, rfl, rfl, rfl, rfl, rfl, rfl, rfl, rfl, rfl, rfl, rfl, rfl, rfl, rfl, rfl, rfl, rfl, rfl, rfl, rfl, rfl, trivial⟩, hS, hm⟩
        ·clear hf hS hm a; try clear w
         rintro a w ⟨x29, x30, x31, x32, x33, hf, hS, hm⟩
         unfold m_slices_Compact_int_int_2_j6 at hm
         refine W.regionL (l := [0, 1, 2]) rfl ?_
         refine O.val hf rfl rfl rfl (RunV.move rfl) ?_; clear hf a; intro a hf
         refine O.val (v := Iv (IntKind.i64.wrap (x24 + 1))) hf rfl rfl rfl (RunV.add rfl rfl) ?_; clear hf a; intro a hf
         refine O.val hf rfl rfl rfl (RunV.assign rfl) ?_; clear hf a; intro a hf
         refine O.nil ?_
         refine k_then ⟨(k25, x29, x30, IntKind.i64.wrap (x24 + 1)), ⟨hf.to ⟨rfl, rfl, rfl, rfl, rfl, rfl, rfl, rfl, rfl, rfl, rfl, rfl, rfl, rfl, rfl, rfl, rfl, rfl, rfl, rfl, rfl, rfl, trivial⟩, hS, ?_⟩, Nat.lt_succ_self _⟩
         rw [hrec25] at hm; exact hm
       ·replace hm := hm_n hm hc28
        refine W.exit ?_
        refine k_then_exit ?_
        refine k_then_exit ?_
        refine k_blk ?_
        exact k_then ⟨x22, x23, x24, x24, x27, decide (x24 < (x27 : Int)), hf.to ⟨rfl, rfl, rfl, rfl, rfl, rfl, rfl, rfl, rfl, rfl, rfl, rfl, rfl, rfl, rfl, rfl, rfl, rfl, rfl, rfl, rfl, rfl, rfl, rfl, rfl, rfl, trivial⟩, hS, hm⟩
      ·clear hf hS hm a; try clear w
       rintro a w ⟨x14, x15, x16, x17, x18, x19, hf, hS, hm⟩
       unfold m_slices_Compact_int_int_2_j4 at hm
       refine W.seq ?_
       refine W.regionL (l := [0, 1, 2, 3]) rfl ?_
       refine O.val hf rfl rfl rfl (RunV.move rfl) ?_; clear hf a; intro a hf
       refine O.val hf rfl rfl rfl (RunV.move rfl) ?_; clear hf a; intro a hf
       obtain ⟨hg20, hm⟩ := hm_g hm
       refine O.val (v := vsub 1 s1 x15 (x14.length : Int)) hf rfl rfl rfl (RunV.sliceL T_elem_49 T_size_3 rfl rfl (hS.rdS (j := 0) rfl) hg20) ?_; clear hf a; intro a hf
       refine O.clearW (j := 0) (enc := E3) (x0 := (0 : Int)) (M' := [slE 3 1 E3 s1 (lcopy x14 (List.replicate (Int.toNat (x14.length : Int) - Int.toNat x15) (0 : Int)) x15 (Int.toNat (x14.length : Int) - Int.toNat x15))]) hf hS rfl T_elem_49 T_size_3 T_zero_3 rfl (by decide) rfl rfl E3_len E3_one hg20 rfl rfl ?_; clear hS; intro w hS
       refine O.nil ?_
       refine k_seq ?_
       refine W.seq ?_
       refine W.regionL (l := [0, 1, 2, 3]) rfl ?_
       refine O.val hf rfl rfl rfl (RunV.move rfl) ?_; clear hf a; intro a hf
       refine O.val hf rfl rfl rfl (RunV.move rfl) ?_; clear hf a; intro a hf
       obtain ⟨hg21, hm⟩ := hm_g hm
       refine O.val (v := vsub 1 s1 0 x15) hf rfl rfl rfl (RunV.sliceH T_elem_49 T_size_3 rfl rfl (hS.rdS (j := 0) rfl) hg21) ?_; clear hf a; intro a hf
       refine O.val hf rfl rfl rfl (RunV.assign rfl) ?_; clear hf a; intro a hf
       refine O.nil ?_
       refine k_seq ?_
       refine W.ret ?_
       refine k_blk_ret ?_
       refine k_then_ret ?_
       refine k_then_ret ?_
       refine k_blk_ret ?_
       refine k_then_ret ?_
       replace hS := hS.takeS (j := 0) (M' := [slE 3 1 E3 (vsub 1 s1 0 x15) (lsub (lcopy x14 (List.replicate (Int.toNat (x14.length : Int) - Int.toNat x15) (0 : Int)) x15 (Int.toNat (x14.length : Int) - Int.toNat x15)) 0 x15)]) rfl E3_len hg21 rfl
       obtain rfl := Option.some.inj hm
       refine post1 hf rfl (ResOK.tmp rfl) ?_
       exact ⟨vsub 1 s1 0 x15, rfl, hS.noB⟩
     ·replace hm := hm_n hm hc12
      refine W.skip ?_
      refine k_blk_normal ?_
      exact k_then ⟨x10, x11, decide (x10 = (x11 : Int)), hf.to ⟨rfl, rfl, rfl, rfl, rfl, rfl, rfl, rfl, rfl, rfl, rfl, rfl, rfl, rfl, rfl, rfl, rfl, trivial⟩, hS, hm⟩
    ·clear hf hS hm a; try clear w
     rintro a w ⟨x7, x8, x9, hf, hS, hm⟩
     unfold m_slices_Compact_int_int_2_j3 at hm
     refine W.regionL (l := [0, 1, 2]) rfl ?_
     refine O.val hf rfl rfl rfl (RunV.move rfl) ?_; clear hf a; intro a hf
     refine O.val (v := Iv (IntKind.i64.wrap (x4 + 1))) hf rfl rfl rfl (RunV.add rfl rfl) ?_; clear hf a; intro a hf
     refine O.val hf rfl rfl rfl (RunV.assign rfl) ?_; clear hf a; intro a hf
     refine O.nil ?_
     refine k_then ⟨(k5, IntKind.i64.wrap (x4 + 1)), ⟨hf.to ⟨rfl, rfl, rfl, trivial⟩, hS, ?_⟩, Nat.lt_succ_self _⟩
     rw [hrec5] at hm; exact hm
   ·replace hm := hm_n hm hc6
    refine W.exit ?_
    refine k_then_exit ?_
    refine k_then_exit ?_
    refine k_blk ?_
    exact k_then ⟨hf.to ⟨rfl, rfl, trivial⟩, hS, hm⟩
  ·clear hf hS hm a; try clear w
   rintro a w ⟨hf, hS, hm⟩
   unfold m_slices_Compact_int_int_2_j1 at hm
   refine W.seq ?_
   refine W.regionL (l := [0, 1]) rfl ?_
   refine O.val hf rfl rfl rfl (RunV.move rfl) ?_; clear hf a; intro a hf
   refine O.val hf rfl rfl rfl (RunV.assign rfl) ?_; clear hf a; intro a hf
   refine O.nil ?_
   refine k_seq ?_
   replace hf : Fr a 61 [] [(2, s1)] := hf.to ⟨rfl, trivial⟩
   refine W.ret ?_
   obtain rfl := Option.some.inj hm
   refine post1 hf rfl (ResOK.tmp rfl) ?_
   exact ⟨s1, rfl, hS.noB⟩

def m_plan_Follow_j1 (F : Nat) (x18 : List (Int × Int)) (x19 : Int) (x20 : Int) : Option ((List (Int × Int)) × Int) :=
  some (x18, 0)
def m_plan_Follow_b2 (F : Nat) (x4 : List Int) (x2 : List (Int × Int × Int × Int)) (rec26 : (List (Int × Int)) → Int → Int → Int → Option ((List (Int × Int)) × Int)) (x22 : List (Int × Int)) (x23 : Int) (x24 : Int) (x25 : Int) : Option ((List (Int × Int)) × Int) :=
  if x25 < ((x4.length : Int) : Int) then ((idx x4 x25).bind fun x28 => (idx x2 x28).bind fun x29 => (m_plan_run_then_2 F x22 x23 x24 x28 x29.1 x29.2.1 x29.2.2.1 x29.2.2.2).bind fun x30 => if (!x30.2.2.2) = true then (some (([] : List (Int × Int)), 16)) else (rec26 x30.1 x30.2.1 x30.2.2.1 (IntKind.i64.wrap (x25 + 1)))) else (m_plan_Follow_j1 F x22 x23 x24)
def m_plan_Follow_l2 (F : Nat) (x4 : List Int) (x2 : List (Int × Int × Int × Int)) : Nat → (List (Int × Int)) → Int → Int → Int → Option ((List (Int × Int)) × Int)
  | 0, _, _, _, _ => none
  | n + 1, x22, x23, x24, x25 => m_plan_Follow_b2 F x4 x2 (m_plan_Follow_l2 F x4 x2 n) x22 x23 x24 x25
def m_plan_Follow (F : Nat)  (x2 : List (Int × Int × Int × Int)) (x4 : List Int) : Option ((List (Int × Int)) × Int) :=
  (m_plan_Check F x2).bind fun x6 => if x6 ≠ (0 : Int) then (some (([] : List (Int × Int)), x6)) else ((m_slices_ContainsFunc_int_int F x4 x2).bind fun x8 => if (x8) = true then (some (([] : List (Int × Int)), 2)) else ((m_slices_Clone_int_int F x4).bind fun x10 => (m_slices_Sort_int_int_2 F x10).bind fun x12 => (m_slices_Compact_int_int_2 F x12).bind fun x13 => if (x13.length : Int) ≠ ((x4.length : Int) : Int) then (some (([] : List (Int × Int)), 14)) else (m_plan_Follow_l2 F x4 x2 F ([] : List (Int × Int)) 0 0 0)))
set_option maxHeartbeats 1000000 in
set_option maxRecDepth 8000 in
theorem m_plan_Follow_ok (F : Nat)    (s1 : Value) (x2 : List (Int × Int × Int × Int)) (s3 : Value) (x4 : List Int) (w0 : World) (h_s1 : rdEOK (hp w0) 4 E24 s1 x2) (h_s3 : rdEOK (hp w0) 1 E3 s3 x4) (r : (List (Int × Int)) × Int) (hm : m_plan_Follow F x2 x4 = some r) :
    Ret Try.prog 16 #[s1, s3] w0 (G := Value) (fun g1 => .tuple #[g1, Iv r.2]) (fun g1 w => St w0 w noX [] [slE 33 2 E33 g1 r.1]) := by
 unfold m_plan_Follow at hm
 refine ret_of_W (lv := [s1, s3]) Try.func16 rfl rfl rfl (fun a hf => ?_)
 replace hf : Fr a 53 [] [(0, s1), (1, s3)] := hf
 have hS : St w0 w0 noX [rdE 4 E24 s1 x2, rdE 1 E3 s3 x4] [] := St.borrow (lendAll_cons (lendRd h_s1) (lendAll_cons (lendRd h_s3) lendAll_nil))
 refine W.seq ?_
 refine W.regionL (l := [0, 1, 2]) rfl ?_
 refine O.box (cs := #[s1]) hf hS rfl rfl rfl (rdEOK_cells (hS.rdB (j := 0) rfl)) ?_
 clear hf hS a; intro b5 w a hb5 hS hf
 refine O.val hf rfl rfl rfl (RunV.assign rfl) ?_; clear hf a; intro a hf
 refine O.val hf rfl rfl rfl (RunV.assign rfl) ?_; clear hf a; intro a hf
 refine O.nil ?_
 refine k_seq ?_
 replace hf : Fr a 53 [] [(1, s3), (2, Pv b5 0), (4, .slice none 0 0), (5, Iv 0)] := hf.to ⟨rfl, rfl, rfl, rfl, trivial⟩
 refine W.seq ?_
 refine W.seq ?_
 refine W.regionL (l := [0, 1, 2]) rfl ?_
 refine O.val hf rfl rfl rfl (RunV.load1 T_agg_22 rfl (hS.ptAt (i := 0) rfl) rfl) ?_; clear hf a; intro a hf
 obtain ⟨x6, hx6, hm⟩ := hm_b hm
 refine O.callR hf rfl rfl rfl (RunE.call (av := #[s1]) C_ok_21 rfl rfl rfl) (m_plan_Check_ok F s1 x2 _ (hS.rdB (j := 0) rfl) x6 hx6) ?_
 clear hf a; rintro _ w hS1 a hf
 replace hf : Fr a _ _ ((14, Iv x6) :: _) := hf
 replace hS := (hS.call hS1).eqM (N := [pt b5 (Cs #[s1] 22)]) rfl
 clear hS1
 refine O.val hf rfl rfl rfl (RunV.assign rfl) ?_; clear hf a; intro a hf
 refine O.nil ?_
 refine k_seq ?_
 replace hf : Fr a 53 [] [(1, s3), (2, Pv b5 0), (4, .slice none 0 0), (5, Iv 0), (6, Iv x6)] := hf.to ⟨rfl, rfl, rfl, rfl, rfl, trivial⟩
 refine W.seq ?_
 refine W.regionL (l := [0, 1]) rfl ?_
 refine O.val hf rfl rfl rfl (RunV.move rfl) ?_; clear hf a; intro a hf
 refine O.val (v := Bv (decide (x6 ≠ (0 : Int)))) hf rfl rfl rfl (RunV.neq rfl rfl) ?_; clear hf a; intro a hf
 refine O.nil ?_
 refine k_seq ?_
 replace hf : Fr a 53 [] [(1, s3), (2, Pv b5 0), (4, .slice none 0 0), (5, Iv 0), (6, Iv x6), (16, Bv (decide (x6 ≠ (0 : Int))))] := hf.to ⟨rfl, rfl, rfl, rfl, rfl, rfl, trivial⟩
 refine W.ifdI hf rfl (fun hc7 => ?_) (fun hc7 => ?_)
 ·replace hm := hm_p hm hc7
  refine W.seq ?_
  refine W.regionL (l := [0, 1, 2]) rfl ?_
  refine O.val hf rfl rfl rfl (RunV.move rfl) ?_; clear hf a; intro a hf
  refine O.val hf rfl rfl rfl (RunV.assign rfl) ?_; clear hf a; intro a hf
  refine O.val hf rfl rfl rfl (RunV.assign rfl) ?_; clear hf a; intro a hf
  refine O.nil ?_
  refine k_seq ?_
  replace hf : Fr a 53 [] [(1, s3), (2, Pv b5 0), (4, .slice none 0 0), (5, Iv x6)] := hf.to ⟨rfl, rfl, rfl, rfl, trivial⟩
  refine W.ret ?_
  refine k_then_ret ?_
  replace hS := hS.nilE 33 2 E33
  obtain rfl := Option.some.inj hm
  refine post2 hf rfl (ResOK.tmp rfl) (ResOK.tmp rfl) ?_
  replace hS := hS.nilE 33 2 E33
  replace hS := hS.sub (N := [slE 33 2 E33 (.slice none 0 0) ([] : List (Int × Int))]) (.cons_cons _ (.cons _ (.cons _ .slnil)))
  exact ⟨(.slice none 0 0), rfl, hS.noB⟩
 ·replace hm := hm_n hm hc7
  refine W.skip ?_
  refine k_seq ?_
  replace hf : Fr a 53 [] [(1, s3), (2, Pv b5 0), (4, .slice none 0 0), (5, Iv 0)] := hf.to ⟨rfl, rfl, rfl, rfl, trivial⟩
  refine W.seq ?_
  refine W.seq ?_
  refine W.regionL (l := [0, 1, 2]) rfl ?_
  refine O.val hf rfl rfl rfl (RunV.move rfl) ?_; clear hf a; intro a hf
  refine O.val (v := .func (.func 47) #[] #[Pv b5 0]) hf rfl rfl rfl (RunV.makeFunc rfl rfl rfl rfl) ?_; clear hf a; intro a hf
  obtain ⟨x8, hx8, hm⟩ := hm_b hm
  refine O.callR hf rfl rfl rfl (RunE.call (av := #[s3, .func (.func 47) #[] #[Pv b5 0]]) C_ok_46 rfl rfl rfl) (m_slices_ContainsFunc_int_int_ok F s3 x4 b5 s1 x2 _ (hS.rdB (j := 1) rfl) (hS.rdB (j := 0) rfl) (hS.ptAt (i := 0) rfl) x8 hx8) ?_
  clear hf a; rintro _ w hS1 a hf
  replace hf : Fr a _ _ ((20, Bv x8) :: _) := hf
  replace hS := (hS.call hS1).eqM (N := [pt b5 (Cs #[s1] 22)]) rfl
  clear hS1
  refine O.nil ?_
  refine k_seq ?_
  replace hf : Fr a 53 [] [(1, s3), (2, Pv b5 0), (4, .slice none 0 0), (5, Iv 0), (20, Bv x8)] := hf.to ⟨rfl, rfl, rfl, rfl, rfl, trivial⟩
  refine W.if_ hf rfl (fun hc9 => ?_) (fun hc9 => ?_)
  ·replace hm := hm_t hm hc9
   refine W.seq ?_
   refine W.regionL (l := [0, 1]) rfl ?_
   refine O.val hf rfl rfl rfl (RunV.assign rfl) ?_; clear hf a; intro a hf
   refine O.val hf rfl rfl rfl (RunV.assign rfl) ?_; clear hf a; intro a hf
   refine O.nil ?_
   refine k_seq ?_
   replace hf : Fr a 53 [] [(1, s3), (2, Pv b5 0), (4, .slice none 0 0), (5, Iv 2)] := hf.to ⟨rfl, rfl, rfl, rfl, trivial⟩
   refine W.ret ?_
   refine k_then_ret ?_
   replace hS := hS.nilE 33 2 E33
   obtain rfl := Option.some.inj hm
   refine post2 hf rfl (ResOK.tmp rfl) (ResOK.tmp rfl) ?_
   replace hS := hS.nilE 33 2 E33
   replace hS := hS.sub (N := [slE 33 2 E33 (.slice none 0 0) ([] : List (Int × Int))]) (.cons_cons _ (.cons _ (.cons _ .slnil)))
   exact ⟨(.slice none 0 0), rfl, hS.noB⟩
  ·replace hm := hm_f hm hc9
   refine W.skip ?_
   refine k_seq ?_
   replace hf : Fr a 53 [] [(1, s3), (2, Pv b5 0), (4, .slice none 0 0), (5, Iv 0)] := hf.to ⟨rfl, rfl, rfl, rfl, trivial⟩
   refine W.seq ?_
   refine W.regionL (l := [0, 1, 2]) rfl ?_
   refine O.val hf rfl rfl rfl (RunV.move rfl) ?_; clear hf a; intro a hf
   obtain ⟨x10, hx10, hm⟩ := hm_b hm
   refine O.callR hf rfl rfl rfl (RunE.call (av := #[s3]) C_ok_48 rfl rfl rfl) (m_slices_Clone_int_int_ok F s3 x4 _ (hS.rdB (j := 1) rfl) x10 hx10) ?_
   clear hf a; rintro s11 w hS1 a hf
   replace hf : Fr a _ _ ((22, s11) :: _) := hf
   replace hS := (hS.call hS1).eqM (N := [slE 3 1 E3 s11 x10, pt b5 (Cs #[s1] 22)]) rfl
   clear hS1
   refine O.val hf rfl rfl rfl (RunV.assign rfl) ?_; clear hf a; intro a hf
   refine O.nil ?_
   refine k_seq ?_
   replace hf : Fr a 53 [] [(1, s3), (2, Pv b5 0), (4, .slice none 0 0), (5, Iv 0), (7, s11)] := hf.to ⟨rfl, rfl, rfl, rfl, rfl, trivial⟩
   refine W.seq ?_
   refine W.regionL (l := [0, 1]) rfl ?_
   refine O.val hf rfl rfl rfl (RunV.move rfl) ?_; clear hf a; intro a hf
   obtain ⟨x12, hx12, hm⟩ := hm_b hm
   refine O.callR hf rfl rfl rfl (RunE.call (av := #[s11]) C_ok_49 rfl rfl rfl) (m_slices_Sort_int_int_2_ok F s11 x10 _ (hS.slS (j := 0) rfl) x12 hx12) ?_
   clear hf a; rintro _ w hS1 a hf
   replace hf : Fr a _ _ ((24, .tuple #[]) :: _) := hf
   replace hS := (hS.callX1 hS1 (i := 0) rfl (fun _ h => h)).eqM (N := [slE 3 1 E3 s11 x12, pt b5 (Cs #[s1] 22)]) rfl
   clear hS1
   refine O.nil ?_
   refine k_seq ?_
   replace hf : Fr a 53 [] [(1, s3), (2, Pv b5 0), (4, .slice none 0 0), (5, Iv 0), (7, s11)] := hf.to ⟨rfl, rfl, rfl, rfl, rfl, trivial⟩
   refine W.seq ?_
   refine W.seq ?_
   refine W.regionL (l := [0, 1, 2, 3, 4, 5]) rfl ?_
   refine O.val hf rfl rfl rfl (RunV.move rfl) ?_; clear hf a; intro a hf
   obtain ⟨x13, hx13, hm⟩ := hm_b hm
   refine O.callR hf rfl rfl rfl (RunE.call (av := #[s11]) C_ok_50 rfl rfl rfl) (m_slices_Compact_int_int_2_ok F s11 x12 _ (hS.slS (j := 0) rfl) x13 hx13) ?_
   clear hf a; rintro s14 w hS1 a hf
   replace hf : Fr a _ _ ((26, s14) :: _) := hf
   replace hS := (hS.callX1 hS1 (i := 0) rfl (fun _ h => h)).eqM (N := [slE 3 1 E3 s14 x13, pt b5 (Cs #[s1] 22)]) rfl
   clear hS1
   refine O.val (v := Iv (x13.length : Int)) hf rfl rfl rfl (RunV.lenE (e := 3) (by simpa using T_elem_49) rfl (hS.rdS (j := 0) rfl)) ?_; clear hf a; intro a hf
   refine O.val hf rfl rfl rfl (RunV.move rfl) ?_; clear hf a; intro a hf
   refine O.val (v := Iv (x4.length : Int)) hf rfl rfl rfl (RunV.lenE (e := 3) (by simpa using T_elem_49) rfl (hS.rdB (j := 1) rfl)) ?_; clear hf a; intro a hf
   refine O.val (v := Bv (decide ((x13.length : Int) ≠ ((x4.length : Int) : Int)))) hf rfl rfl rfl (RunV.neq rfl rfl) ?_; clear hf a; intro a hf
   refine O.nil ?_
   refine k_seq ?_
   replace hf : Fr a 53 [] [(1, s3), (2, Pv b5 0), (4, .slice none 0 0), (5, Iv 0), (30, Bv (decide ((x13.length : Int) ≠ ((x4.length : Int) : Int))))] := hf.to ⟨rfl, rfl, rfl, rfl, rfl, trivial⟩
   refine W.ifdI hf rfl (fun hc15 => ?_) (fun hc15 => ?_)
   ·replace hm := hm_p hm hc15
    refine W.seq ?_
    refine W.regionL (l := [0, 1]) rfl ?_
    refine O.val hf rfl rfl rfl (RunV.assign rfl) ?_; clear hf a; intro a hf
    refine O.val hf rfl rfl rfl (RunV.assign rfl) ?_; clear hf a; intro a hf
    refine O.nil ?_
    refine k_seq ?_
    replace hf : Fr a 53 [] [(1, s3), (2, Pv b5 0), (4, .slice none 0 0), (5, Iv 14)] := hf.to ⟨rfl, rfl, rfl, rfl, trivial⟩
    refine W.ret ?_
    refine k_then_ret ?_
    replace hS := hS.nilE 33 2 E33
    obtain rfl := Option.some.inj hm
    refine post2 hf rfl (ResOK.tmp rfl) (ResOK.tmp rfl) ?_
    replace hS := hS.nilE 33 2 E33
    replace hS := hS.sub (N := [slE 33 2 E33 (.slice none 0 0) ([] : List (Int × Int))]) (.cons_cons _ (.cons _ (.cons _ (.cons _ .slnil))))
    exact ⟨(.slice none 0 0), rfl, hS.noB⟩
   ·replace hm := hm_n hm hc15
    refine W.skip ?_
    refine k_seq ?_
    replace hf : Fr a 53 [] [(1, s3), (2, Pv b5 0), (4, .slice none 0 0), (5, Iv 0)] := hf.to ⟨rfl, rfl, rfl, rfl, trivial⟩
    refine W.seq ?_
    refine W.regionL (l := [0]) rfl ?_
    refine O.alloc (cs := #[.slice none 0 0, Iv 0, Iv 0]) hf hS rfl rfl T_zero_61 rfl ?_
    clear hf hS a; intro b16 w a hb16 hS hf
    refine O.nil ?_
    refine k_seq ?_
    refine W.seqR (fun a w => ∃ (s17 : Value) (x18 : List (Int × Int)) (x19 : Int) (x20 : Int), Fr a 53 [] [(4, .slice none 0 0), (5, Iv 0), (8, Pv b16 0)] ∧ St w0 w noX [rdE 4 E24 s1 x2, rdE 1 E3 s3 x4] [slE 33 2 E33 s17 x18, pt b16 (Cs #[s17, Iv x19, Iv x20] 61)] ∧ m_plan_Follow_j1 F x18 x19 x20 = some r) ?_ ?_
    ·refine W.seq ?_
     refine W.regionL (l := [0, 1, 2]) rfl ?_
     refine O.val hf rfl rfl rfl (RunV.move rfl) ?_; clear hf a; intro a hf
     refine O.val (v := Iv (x4.length : Int)) hf rfl rfl rfl (RunV.lenE (e := 3) (by simpa using T_elem_49) rfl (hS.rdB (j := 1) rfl)) ?_; clear hf a; intro a hf
     refine O.val hf rfl rfl rfl (RunV.move rfl) ?_; clear hf a; intro a hf
     refine O.nil ?_
     refine k_seq ?_
     replace hf : Fr a 53 [] [(2, Pv b5 0), (4, .slice none 0 0), (5, Iv 0), (8, Pv b16 0), (31, s3), (32, Iv (x4.length : Int)), (33, Iv 0)] := hf.to ⟨rfl, rfl, rfl, rfl, rfl, rfl, rfl, trivial⟩
     refine W.block ?_
     replace hS := hS.nilE 33 2 E33
     replace hS := hS.front (i := 1) (M' := [pt b16 (Cs #[.slice none 0 0, Iv 0, Iv 0] 61), slE 33 2 E33 (.slice none 0 0) ([] : List (Int × Int)), slE 3 1 E3 s14 x13, pt b5 (Cs #[s1] 22)]) rfl rfl
     replace hS := hS.front (i := 1) (M' := [slE 33 2 E33 (.slice none 0 0) ([] : List (Int × Int)), pt b16 (Cs #[.slice none 0 0, Iv 0, Iv 0] 61), slE 3 1 E3 s14 x13, pt b5 (Cs #[s1] 22)]) rfl rfl
     replace hS := hS.front (i := 3) (M' := [pt b5 (Cs #[s1] 22), slE 33 2 E33 (.slice none 0 0) ([] : List (Int × Int)), pt b16 (Cs #[.slice none 0 0, Iv 0, Iv 0] 61), slE 3 1 E3 s14 x13]) rfl rfl
     replace hS := hS.sub (N := [pt b5 (Cs #[s1] 22), slE 33 2 E33 (.slice none 0 0) ([] : List (Int × Int)), pt b16 (Cs #[.slice none 0 0, Iv 0, Iv 0] 61)]) (.cons_cons _ (.cons_cons _ (.cons_cons _ (.cons _ .slnil))))
     refine W.loop (G := Nat × Value × (List (Int × Int)) × Int × Int × Int) (fun g a w => match g with | (k26, s21, x22, x23, x24, x25) => Fr a 53 [] [(2, Pv b5 0), (4, .slice none 0 0), (5, Iv 0), (8, Pv b16 0), (31, s3), (32, Iv (x4.length : Int)), (33, Iv x25)] ∧ St w0 w noX [rdE 4 E24 s1 x2, rdE 1 E3 s3 x4] [pt b5 (Cs #[s1] 22), slE 33 2 E33 s21 x22, pt b16 (Cs #[s21, Iv x23, Iv x24] 61)] ∧ m_plan_Follow_l2 F x4 x2 k26 x22 x23 x24 x25 = some r) (fun g => match g with | (k26, s21, x22, x23, x24, x25) => k26) (F, (.slice none 0 0), ([] : List (Int × Int)), 0, 0, 0) ⟨hf.to ⟨rfl, rfl, rfl, rfl, rfl, rfl, rfl, trivial⟩, hS, hm⟩ ?_
     clear hf hS hm a; try clear w
     rintro ⟨k26, s21, x22, x23, x24, x25⟩ a w ⟨hf, hS, hm⟩
     rcases k26 with _ | k26
     · exact absurd (show none = some r from hm) (by simp)
     replace hm : m_plan_Follow_b2 F x4 x2 (m_plan_Follow_l2 F x4 x2 k26) x22 x23 x24 x25 = some r := hm
     obtain ⟨rec26, hrec26⟩ : ∃ f, f = m_plan_Follow_l2 F x4 x2 k26 := ⟨_, rfl⟩
     rw [← hrec26] at hm; unfold m_plan_Follow_b2 at hm
     refine W.seq ?_
     refine W.regionL (l := [0]) rfl ?_
     refine O.val (v := Bv (decide (x25 < ((x4.length : Int) : Int)))) hf rfl rfl rfl (RunV.lss rfl rfl) ?_; clear hf a; intro a hf
     refine O.nil ?_
     refine k_seq ?_
     refine W.seq ?_
     refine W.ifdI hf rfl (fun hc27 => ?_) (fun hc27 => ?_)
     ·replace hm := hm_p hm hc27
      refine W.skip ?_
      refine k_seq ?_
      refine W.seq ?_
      refine W.block ?_
      refine W.seq ?_
      refine W.regionL (l := [0, 1, 2]) rfl ?_
      obtain ⟨x28, hx28, hm⟩ := hm_b hm
      refine O.val hf rfl rfl rfl (RunV.ixE T_elem_49 T_size_3 rfl rfl (hS.rdB (j := 1) rfl) hx28) ?_; clear hf a; intro a hf
      refine O.val hf rfl rfl rfl (RunV.ldE1 (o := 0) T_agg_3 E3_len rfl (hS.rdB (j := 1) rfl) hx28 rfl rfl) ?_; clear hf a; intro a hf
      refine O.val hf rfl rfl rfl (RunV.assign rfl) ?_; clear hf a; intro a hf
      refine O.nil ?_
      refine k_seq ?_
      refine W.seq ?_
      have hf1 : Fr a 53 [] [] := hf.to trivial
      replace hf : Fr a 53 [] [(2, Pv b5 0), (4, .slice none 0 0), (5, Iv 0), (8, Pv b16 0), (10, Iv x28), (31, s3), (32, Iv (x4.length : Int)), (33, Iv x25), (34, Bv (decide (x25 < ((x4.length : Int) : Int)))), (35, ix s3 (Int.toNat x25 * 1)), (36, Iv x28)] := hf.to ⟨rfl, rfl, rfl, rfl, rfl, rfl, rfl, rfl, rfl, rfl, rfl, trivial⟩
      obtain ⟨x29, hx29, hm⟩ := hm_b hm
      obtain ⟨x30, hx30, hm⟩ := hm_b hm
      replace hS := hS.drew
      replace hS := hS.emp
      refine W.drawC (γ := Nat × Value) (L0 := [(2, Pv b5 0), (4, .slice none 0 0), (5, Iv 0), (8, Pv b16 0), (10, Iv x28), (31, s3), (32, Iv (x4.length : Int)), (33, Iv x25), (34, Bv (decide (x25 < ((x4.length : Int) : Int)))), (35, ix s3 (Int.toNat x25 * 1)), (36, Iv x28)]) (L1 := []) (0, undef) [6, 11] [10] [0, 1, 2, 3, 4, 5, 7, 8, 9, 12] (fun i => match i with | 4 => [2, 3] | 5 => [4] | 6 => [0, 1, 5] | 7 => [6] | 8 => [7] | 9 => [7] | 11 => [0, 1, 2, 3, 4, 5, 6, 7, 8, 10] | 12 => [0, 1, 2, 3, 4, 5, 6, 7, 8, 9, 10, 11] | _ => []) (fun i => match i with | 7 => [6] | 8 => [6] | 9 => [6] | 11 => [6, 10] | 12 => [6, 11, 10] | _ => []) (fun i => match i with | 0 => [6, 11] | 1 => [6, 11] | 2 => [6, 11] | 3 => [6, 11] | 4 => [6, 11] | 5 => [6, 11] | 6 => [11] | 7 => [11] | 8 => [11] | 10 => [11] | _ => []) (fun i => match i with | 11 => [10] | 12 => [10] | _ => []) (fun i => match i with | 6 => [7, 8, 9, 11, 12] | 10 => [11, 12] | 11 => [12] | _ => []) (fun _ => []) (fun i => match i with | 7 => 1 | 8 => 1 | 9 => 1 | 11 => 1 | 12 => 2 | _ => 0) (fun i => match i with | 6 => 1 | 7 => 1 | 8 => 1 | 9 => 2 | 10 => 1 | 11 => 2 | 12 => 2 | _ => 0) (fun (g : Nat × Value) j => match j with | 0 => .agg #[s21, Iv x23, Iv x24] | 1 => Iv x28 | 2 => s1 | 3 => Iv x28 | 4 => ix s1 (Int.toNat x28 * 4) | 5 => .agg #[Iv x29.1, Iv x29.2.1, Iv x29.2.2.1, Iv x29.2.2.2] | 6 => .tuple #[.agg #[g.2, Iv x30.2.1, Iv x30.2.2.1], Bv x30.2.2.2] | 7 => .tuple #[.agg #[g.2, Iv x30.2.1, Iv x30.2.2.1], Bv x30.2.2.2] | 8 => .agg #[g.2, Iv x30.2.1, Iv x30.2.2.1] | 9 => Bv x30.2.2.2 | 10 => Pv g.1 0 | 12 => Bv x30.2.2.2 | _ => undef) (fun k s (g : Nat × Value) w => match k with | 0 => St w0 w noX [rdE 4 E24 s1 x2, rdE 1 E3 s3 x4] [condA (s 10) (pt g.1 (Cs #[.slice none 0 0, Iv 0, Iv 0] 61)), pt b5 (Cs #[s1] 22), slE 33 2 E33 s21 x22, pt b16 (Cs #[s21, Iv x23, Iv x24] 61)] | 1 => St w0 w noX [rdE 4 E24 s1 x2, rdE 1 E3 s3 x4] [slE 33 2 E33 g.2 x30.1, condA (s 10) (pt g.1 (Cs #[.slice none 0 0, Iv 0, Iv 0] 61)), pt b5 (Cs #[s1] 22), slE 33 2 E33 s21 x22, pt b16 (Cs #[s21, Iv x23, Iv x24] 61)] | _ => St w0 w noX [rdE 4 E24 s1 x2, rdE 1 E3 s3 x4] [slE 33 2 E33 g.2 x30.1, pt g.1 (Cs #[g.2, Iv x30.2.1, Iv x30.2.2.1] 61), pt b5 (Cs #[s1] 22), slE 33 2 E33 s21 x22, pt b16 (Cs #[s21, Iv x23, Iv x24] 61)]) P_mixed (by kernel_rfl) (by kernel_rfl) (by kernel_rfl) hf hf1 hS ?_ ?_ ?_ ?_
      ·clear hf hf1 hS
       refine ⟨?_, fun k s g w _ _ _ hD a hf => Q.val (v := Iv x28) rfl rfl rfl hD hf (RunV.move rfl), ?_, fun k s g w _ _ _ hD a hf => Q.val (v := Iv x28) rfl rfl rfl hD hf (RunV.move rfl), ?_, ?_, fun k s g w _ _ _ hD a hf => Q.val (v := .tuple #[.agg #[g.2, Iv x30.2.1, Iv x30.2.2.1], Bv x30.2.2.2]) rfl rfl rfl hD hf (RunV.move rfl), fun k s g w _ _ _ hD a hf => Q.val (v := .agg #[g.2, Iv x30.2.1, Iv x30.2.2.1]) rfl rfl rfl hD hf (RunV.extract rfl rfl), fun k s g w _ _ _ hD a hf => Q.val (v := Bv x30.2.2.2) rfl rfl rfl hD hf (RunV.extract rfl rfl), fun k s g w _ _ _ hD a hf => Q.val (v := Bv x30.2.2.2) rfl rfl rfl hD hf (RunV.assign rfl), trivial⟩
       ·intro k s g w h1_ h2_ hsp hD a hf
        obtain ⟨b32, s31⟩ := g
        rcases k with _ | k
        ·have hS : St w0 w noX [rdE 4 E24 s1 x2, rdE 1 E3 s3 x4] [condA (s 10) (pt b32 (Cs #[.slice none 0 0, Iv 0, Iv 0] 61)), pt b5 (Cs #[s1] 22), slE 33 2 E33 s21 x22, pt b16 (Cs #[s21, Iv x23, Iv x24] 61)] := hD; clear hD
         replace hf : Fr a 53 [] [(2, Pv b5 0), (4, .slice none 0 0), (5, Iv 0), (8, Pv b16 0), (10, Iv x28), (31, s3), (32, Iv (x4.length : Int)), (33, Iv x25), (34, Bv (decide (x25 < ((x4.length : Int) : Int)))), (35, ix s3 (Int.toNat x25 * 1)), (36, Iv x28)] := hf
         exact Q.val (v := .agg #[s21, Iv x23, Iv x24]) rfl rfl rfl hS hf (RunV.loadN (cs' := #[s21, Iv x23, Iv x24]) T_agg_61 T_size_61 rfl (hS.ptAt (i := 3) rfl) (Nat.le_of_ble_eq_true rfl) rfl)
        ·exact absurd h2_ (by simp)
       ·intro k s g w h1_ h2_ hsp hD a hf
        obtain ⟨b32, s31⟩ := g
        rcases k with _ | k
        ·have hS : St w0 w noX [rdE 4 E24 s1 x2, rdE 1 E3 s3 x4] [condA (s 10) (pt b32 (Cs #[.slice none 0 0, Iv 0, Iv 0] 61)), pt b5 (Cs #[s1] 22), slE 33 2 E33 s21 x22, pt b16 (Cs #[s21, Iv x23, Iv x24] 61)] := hD; clear hD
         replace hf : Fr a 53 [] [(2, Pv b5 0), (4, .slice none 0 0), (5, Iv 0), (8, Pv b16 0), (10, Iv x28), (31, s3), (32, Iv (x4.length : Int)), (33, Iv x25), (34, Bv (decide (x25 < ((x4.length : Int) : Int)))), (35, ix s3 (Int.toNat x25 * 1)), (36, Iv x28)] := hf
         exact Q.val (v := s1) rfl rfl rfl hS hf (RunV.load1 T_agg_22 rfl (hS.ptAt (i := 1) rfl) rfl)
        ·exact absurd h2_ (by simp)
       ·intro k s g w h1_ h2_ hsp hD a hf
        obtain ⟨b32, s31⟩ := g
        rcases k with _ | k
        ·have hS : St w0 w noX [rdE 4 E24 s1 x2, rdE 1 E3 s3 x4] [condA (s 10) (pt b32 (Cs #[.slice none 0 0, Iv 0, Iv 0] 61)), pt b5 (Cs #[s1] 22), slE 33 2 E33 s21 x22, pt b16 (Cs #[s21, Iv x23, Iv x24] 61)] := hD; clear hD
         replace hf : Fr a 53 [] [(40, s1), (41, Iv x28), (2, Pv b5 0), (4, .slice none 0 0), (5, Iv 0), (8, Pv b16 0), (10, Iv x28), (31, s3), (32, Iv (x4.length : Int)), (33, Iv x25), (34, Bv (decide (x25 < ((x4.length : Int) : Int)))), (35, ix s3 (Int.toNat x25 * 1)), (36, Iv x28)] := hf
         exact Q.val (v := ix s1 (Int.toNat x28 * 4)) rfl rfl rfl hS hf (RunV.ixE T_elem_22 T_size_24 rfl rfl (hS.rdB (j := 0) rfl) hx29)
        ·exact absurd h2_ (by simp)
       ·intro k s g w h1_ h2_ hsp hD a hf
        obtain ⟨b32, s31⟩ := g
        rcases k with _ | k
        ·have hS : St w0 w noX [rdE 4 E24 s1 x2, rdE 1 E3 s3 x4] [condA (s 10) (pt b32 (Cs #[.slice none 0 0, Iv 0, Iv 0] 61)), pt b5 (Cs #[s1] 22), slE 33 2 E33 s21 x22, pt b16 (Cs #[s21, Iv x23, Iv x24] 61)] := hD; clear hD
         replace hf : Fr a 53 [] [(42, ix s1 (Int.toNat x28 * 4)), (2, Pv b5 0), (4, .slice none 0 0), (5, Iv 0), (8, Pv b16 0), (10, Iv x28), (31, s3), (32, Iv (x4.length : Int)), (33, Iv x25), (34, Bv (decide (x25 < ((x4.length : Int) : Int)))), (35, ix s3 (Int.toNat x25 * 1)), (36, Iv x28)] := hf
         exact Q.val (v := .agg #[Iv x29.1, Iv x29.2.1, Iv x29.2.2.1, Iv x29.2.2.2]) rfl rfl rfl hS hf (RunV.ldEN (us := [Iv x29.1, Iv x29.2.1, Iv x29.2.2.1, Iv x29.2.2.2]) (o := 0) T_agg_24 T_size_24 rfl E24_len rfl (hS.rdB (j := 0) rfl) hx29 rfl rfl rfl)
        ·exact absurd h2_ (by simp)
      ·clear hf hf1 hS
       refine ⟨?_, ?_, trivial⟩
       ·intro s g w hsp hD a hf
        obtain ⟨b32, s31⟩ := g
        have hS : St w0 w noX [rdE 4 E24 s1 x2, rdE 1 E3 s3 x4] [condA (s 10) (pt b32 (Cs #[.slice none 0 0, Iv 0, Iv 0] 61)), pt b5 (Cs #[s1] 22), slE 33 2 E33 s21 x22, pt b16 (Cs #[s21, Iv x23, Iv x24] 61)] := hD; clear hD
        replace hf : Fr a 53 [] [(38, .agg #[s21, Iv x23, Iv x24]), (39, Iv x28), (43, .agg #[Iv x29.1, Iv x29.2.1, Iv x29.2.2.1, Iv x29.2.2.2]), (2, Pv b5 0), (4, .slice none 0 0), (5, Iv 0), (8, Pv b16 0), (10, Iv x28), (31, s3), (32, Iv (x4.length : Int)), (33, Iv x25), (34, Bv (decide (x25 < ((x4.length : Int) : Int)))), (35, ix s3 (Int.toNat x25 * 1)), (36, Iv x28)] := hf
        refine O.callR hf rfl rfl rfl (RunE.call (av := #[.agg #[s21, Iv x23, Iv x24], Iv x28, .agg #[Iv x29.1, Iv x29.2.1, Iv x29.2.2.1, Iv x29.2.2.2]]) C_ok_23 rfl rfl rfl) (m_plan_run_then_2_ok F s21 x22 x23 x24 x28 x29.1 x29.2.1 x29.2.2.1 x29.2.2.2 _ (hS.rdS (j := 2) rfl) x30 hx30) ?_
        clear hf a; rintro s31 w hS1 a hf
        replace hf : Fr a _ _ ((44, .tuple #[.agg #[s31, Iv x30.2.1, Iv x30.2.2.1], Bv x30.2.2.2]) :: _) := hf
        replace hS := (hS.call hS1).eqM (N := [slE 33 2 E33 s31 x30.1, condA (s 10) (pt b32 (Cs #[.slice none 0 0, Iv 0, Iv 0] 61)), pt b5 (Cs #[s1] 22), slE 33 2 E33 s21 x22, pt b16 (Cs #[s21, Iv x23, Iv x24] 61)]) rfl
        clear hS1
        exact O.nil ⟨rfl, (b32, s31), hf.to trivial, (fun d hd => by cases (show some 44 = some d from hd); exact hf.get _ _ rfl), (fun j hj hk => match j, hj, hk with | 0, hj, hk => rfl | 1, hj, hk => rfl | 2, hj, hk => rfl | 3, hj, hk => rfl | 4, hj, hk => rfl | 5, hj, hk => rfl | 6, hj, hk => absurd rfl hj | 7, hj, hk => absurd hk (by decide) | 8, hj, hk => absurd hk (by decide) | 9, hj, hk => absurd hk (by decide) | 10, hj, hk => rfl | 11, hj, hk => absurd hk (by decide) | 12, hj, hk => absurd hk (by decide) | _ + 13, _, _ => rfl), hS⟩
       ·intro s g w hsp hD a hf
        obtain ⟨b32, s31⟩ := g
        have h10_ : s 10 = true := hsp 10 (by simp)
        have hS : St w0 w noX [rdE 4 E24 s1 x2, rdE 1 E3 s3 x4] [slE 33 2 E33 s31 x30.1, condA (s 10) (pt b32 (Cs #[.slice none 0 0, Iv 0, Iv 0] 61)), pt b5 (Cs #[s1] 22), slE 33 2 E33 s21 x22, pt b16 (Cs #[s21, Iv x23, Iv x24] 61)] := hD; clear hD; rw [h10_] at hS
        replace hS : St w0 w noX [rdE 4 E24 s1 x2, rdE 1 E3 s3 x4] [slE 33 2 E33 s31 x30.1, pt b32 (Cs #[.slice none 0 0, Iv 0, Iv 0] 61), pt b5 (Cs #[s1] 22), slE 33 2 E33 s21 x22, pt b16 (Cs #[s21, Iv x23, Iv x24] 61)] := hS
        replace hf : Fr a 53 [] [(38, .agg #[s21, Iv x23, Iv x24]), (39, Iv x28), (40, s1), (41, Iv x28), (42, ix s1 (Int.toNat x28 * 4)), (43, .agg #[Iv x29.1, Iv x29.2.1, Iv x29.2.2.1, Iv x29.2.2.2]), (44, .tuple #[.agg #[s31, Iv x30.2.1, Iv x30.2.2.1], Bv x30.2.2.2]), (37, .tuple #[.agg #[s31, Iv x30.2.1, Iv x30.2.2.1], Bv x30.2.2.2]), (45, .agg #[s31, Iv x30.2.1, Iv x30.2.2.1]), (11, Pv b32 0), (2, Pv b5 0), (4, .slice none 0 0), (5, Iv 0), (8, Pv b16 0), (10, Iv x28), (31, s3), (32, Iv (x4.length : Int)), (33, Iv x25), (34, Bv (decide (x25 < ((x4.length : Int) : Int)))), (35, ix s3 (Int.toNat x25 * 1)), (36, Iv x28)] := hf
        refine O.store (j := 1) (cs' := #[s31, Iv x30.2.1, Iv x30.2.2.1]) (M' := [slE 33 2 E33 s31 x30.1, pt b32 (Cs #[s31, Iv x30.2.1, Iv x30.2.2.1] 61), pt b5 (Cs #[s1] 22), slE 33 2 E33 s21 x22, pt b16 (Cs #[s21, Iv x23, Iv x24] 61)]) hf hS rfl rfl rfl T_size_61 rfl (oneCells_cc (rdEOK_one (hS.rdS (j := 0) rfl)) (oneCells_cc rfl (oneCells_cc rfl rfl))) rfl (Nat.le_of_ble_eq_true rfl) rfl rfl ?_
        clear hS; intro w hS
        exact O.nil ⟨rfl, (b32, s31), hf.to trivial, (fun d hd => by cases (show none = some d from hd)), (fun _ _ _ => rfl), hS⟩
      ·clear hf hf1 hS
       refine ⟨?_, trivial⟩
       ·intro k s g w h1_ h2_ hs0 hD a hf
        obtain ⟨b32, s31⟩ := g
        rcases k with _ | _ | k
        ·have hS : St w0 w noX [rdE 4 E24 s1 x2, rdE 1 E3 s3 x4] [condA (s 10) (pt b32 (Cs #[.slice none 0 0, Iv 0, Iv 0] 61)), pt b5 (Cs #[s1] 22), slE 33 2 E33 s21 x22, pt b16 (Cs #[s21, Iv x23, Iv x24] 61)] := hD; clear hD
         refine O.allocC (j := 0) (cs := #[.slice none 0 0, Iv 0, Iv 0]) hf hS rfl hs0 rfl rfl T_zero_61 rfl ?_; clear hf hS a; intro b32 w a hS hf
         exact O.nil ⟨rfl, (b32, s31), hf.to trivial, (fun d hd => by cases (show some 11 = some d from hd); exact hf.get _ _ rfl), (fun j hj hk => match j, hj, hk with | 0, hj, hk => rfl | 1, hj, hk => rfl | 2, hj, hk => rfl | 3, hj, hk => rfl | 4, hj, hk => rfl | 5, hj, hk => rfl | 6, hj, hk => rfl | 7, hj, hk => rfl | 8, hj, hk => rfl | 9, hj, hk => rfl | 10, hj, hk => absurd rfl hj | 11, hj, hk => absurd hk (by decide) | 12, hj, hk => absurd hk (by decide) | _ + 13, _, _ => rfl), hS⟩
        ·have hS : St w0 w noX [rdE 4 E24 s1 x2, rdE 1 E3 s3 x4] [slE 33 2 E33 s31 x30.1, condA (s 10) (pt b32 (Cs #[.slice none 0 0, Iv 0, Iv 0] 61)), pt b5 (Cs #[s1] 22), slE 33 2 E33 s21 x22, pt b16 (Cs #[s21, Iv x23, Iv x24] 61)] := hD; clear hD
         refine O.allocC (j := 1) (cs := #[.slice none 0 0, Iv 0, Iv 0]) hf hS rfl hs0 rfl rfl T_zero_61 rfl ?_; clear hf hS a; intro b32 w a hS hf
         exact O.nil ⟨rfl, (b32, s31), hf.to trivial, (fun d hd => by cases (show some 11 = some d from hd); exact hf.get _ _ rfl), (fun j hj hk => match j, hj, hk with | 0, hj, hk => rfl | 1, hj, hk => rfl | 2, hj, hk => rfl | 3, hj, hk => rfl | 4, hj, hk => rfl | 5, hj, hk => rfl | 6, hj, hk => rfl | 7, hj, hk => rfl | 8, hj, hk => rfl | 9, hj, hk => rfl | 10, hj, hk => absurd rfl hj | 11, hj, hk => absurd hk (by decide) | 12, hj, hk => absurd hk (by decide) | _ + 13, _, _ => rfl), hS⟩
        ·exact absurd h2_ (by simp)
      clear hf hf1 hS; intro s g a w hs hf hD
      obtain ⟨b32, s31⟩ := g
      have h10_ : s 10 = true := hs 10 (by simp)
      have hS : St w0 w noX [rdE 4 E24 s1 x2, rdE 1 E3 s3 x4] [slE 33 2 E33 s31 x30.1, pt b32 (Cs #[s31, Iv x30.2.1, Iv x30.2.2.1] 61), pt b5 (Cs #[s1] 22), slE 33 2 E33 s21 x22, pt b16 (Cs #[s21, Iv x23, Iv x24] 61)] := hD; clear hD
      replace hf : Fr a 53 [] [(38, .agg #[s21, Iv x23, Iv x24]), (39, Iv x28), (40, s1), (41, Iv x28), (42, ix s1 (Int.toNat x28 * 4)), (43, .agg #[Iv x29.1, Iv x29.2.1, Iv x29.2.2.1, Iv x29.2.2.2]), (44, .tuple #[.agg #[s31, Iv x30.2.1, Iv x30.2.2.1], Bv x30.2.2.2]), (37, .tuple #[.agg #[s31, Iv x30.2.1, Iv x30.2.2.1], Bv x30.2.2.2]), (45, .agg #[s31, Iv x30.2.1, Iv x30.2.2.1]), (46, Bv x30.2.2.2), (11, Pv b32 0), (12, Bv x30.2.2.2), (2, Pv b5 0), (4, .slice none 0 0), (5, Iv 0), (8, Pv b16 0), (10, Iv x28), (31, s3), (32, Iv (x4.length : Int)), (33, Iv x25), (34, Bv (decide (x25 < ((x4.length : Int) : Int)))), (35, ix s3 (Int.toNat x25 * 1)), (36, Iv x28)] := hf
      refine k_seq ?_
      refine W.seq ?_
      refine W.seq ?_
      refine W.regionL (l := [0, 1]) rfl ?_
      refine O.val hf rfl rfl rfl (RunV.move rfl) ?_; clear hf a; intro a hf
      refine O.val (v := Bv (!x30.2.2.2)) hf rfl rfl rfl (RunV.not rfl) ?_; clear hf a; intro a hf
      refine O.nil ?_
      refine k_seq ?_
      refine W.if_ hf rfl (fun hc33 => ?_) (fun hc33 => ?_)
      ·replace hm := hm_t hm hc33
       refine W.seq ?_
       refine W.regionL (l := [0, 1]) rfl ?_
       refine O.val hf rfl rfl rfl (RunV.assign rfl) ?_; clear hf a; intro a hf
       refine O.val hf rfl rfl rfl (RunV.assign rfl) ?_; clear hf a; intro a hf
       refine O.nil ?_
       refine k_seq ?_
       refine W.ret ?_
       refine k_then_ret ?_
       refine k_blk_ret ?_
       refine k_then_ret ?_
       refine k_then_ret ?_
       refine k_blk_ret ?_
       refine k_then_ret ?_
       replace hS := hS.nilE 33 2 E33
       obtain rfl := Option.some.inj hm
       refine post2 hf rfl (ResOK.tmp rfl) (ResOK.tmp rfl) ?_
       replace hS := hS.nilE 33 2 E33
       replace hS := hS.sub (N := [slE 33 2 E33 (.slice none 0 0) ([] : List (Int × Int))]) (.cons_cons _ (.cons _ (.cons _ (.cons _ (.cons _ (.cons _ (.cons _ .slnil)))))))
       exact ⟨(.slice none 0 0), rfl, hS.noB⟩
      ·replace hm := hm_f hm hc33
       refine W.skip ?_
       refine k_seq ?_
       refine W.regionL (l := [0, 1]) rfl ?_
       refine O.val hf rfl rfl rfl (RunV.loadN (cs' := #[s31, Iv x30.2.1, Iv x30.2.2.1]) T_agg_61 T_size_61 rfl (hS.ptAt (i := 1) rfl) (Nat.le_of_ble_eq_true rfl) rfl) ?_; clear hf a; intro a hf
       refine O.store (j := 4) (cs' := #[s31, Iv x30.2.1, Iv x30.2.2.1]) (M' := [slE 33 2 E33 s31 x30.1, pt b32 (Cs #[s31, Iv x30.2.1, Iv x30.2.2.1] 61), pt b5 (Cs #[s1] 22), slE 33 2 E33 s21 x22, pt b16 (Cs #[s31, Iv x30.2.1, Iv x30.2.2.1] 61)]) hf hS rfl rfl rfl T_size_61 rfl (oneCells_cc (rdEOK_one (hS.rdS (j := 0) rfl)) (oneCells_cc rfl (oneCells_cc rfl rfl))) rfl (Nat.le_of_ble_eq_true rfl) rfl rfl ?_
       clear hS; intro w hS
       refine O.nil ?_
       refine k_blk_normal ?_
       refine k_seq ?_
       refine W.regionL (l := [0, 1]) rfl ?_
       refine O.val (v := Iv (IntKind.i64.wrap (x25 + 1))) hf rfl rfl rfl (RunV.add rfl rfl) ?_; clear hf a; intro a hf
       refine O.val hf rfl rfl rfl (RunV.move rfl) ?_; clear hf a; intro a hf
       refine O.nil ?_
       replace hS := hS.front (i := 4) (M' := [pt b16 (Cs #[s31, Iv x30.2.1, Iv x30.2.2.1] 61), slE 33 2 E33 s31 x30.1, pt b32 (Cs #[s31, Iv x30.2.1, Iv x30.2.2.1] 61), pt b5 (Cs #[s1] 22), slE 33 2 E33 s21 x22]) rfl rfl
       replace hS := hS.front (i := 1) (M' := [slE 33 2 E33 s31 x30.1, pt b16 (Cs #[s31, Iv x30.2.1, Iv x30.2.2.1] 61), pt b32 (Cs #[s31, Iv x30.2.1, Iv x30.2.2.1] 61), pt b5 (Cs #[s1] 22), slE 33 2 E33 s21 x22]) rfl rfl
       replace hS := hS.front (i := 3) (M' := [pt b5 (Cs #[s1] 22), slE 33 2 E33 s31 x30.1, pt b16 (Cs #[s31, Iv x30.2.1, Iv x30.2.2.1] 61), pt b32 (Cs #[s31, Iv x30.2.1, Iv x30.2.2.1] 61), slE 33 2 E33 s21 x22]) rfl rfl
       replace hS := hS.sub (N := [pt b5 (Cs #[s1] 22), slE 33 2 E33 s31 x30.1, pt b16 (Cs #[s31, Iv x30.2.1, Iv x30.2.2.1] 61)]) (.cons_cons _ (.cons_cons _ (.cons_cons _ (.cons _ (.cons _ .slnil)))))
       refine k_then ⟨(k26, s31, x30.1, x30.2.1, x30.2.2.1, IntKind.i64.wrap (x25 + 1)), ⟨hf.to ⟨rfl, rfl, rfl, rfl, rfl, rfl, rfl, trivial⟩, hS, ?_⟩, Nat.lt_succ_self _⟩
       rw [hrec26] at hm; exact hm
     ·replace hm := hm_n hm hc27
      refine W.exit ?_
      refine k_then_exit ?_
      refine k_then_exit ?_
      refine k_blk ?_
      replace hS := hS.sub (N := [slE 33 2 E33 s21 x22, pt b16 (Cs #[s21, Iv x23, Iv x24] 61)]) (.cons _ (.cons_cons _ (.cons_cons _ .slnil)))
      exact k_then ⟨s21, x22, x23, x24, hf.to ⟨rfl, rfl, rfl, trivial⟩, hS, hm⟩
    ·clear hf hS hm a; try clear w
     rintro a w ⟨s17, x18, x19, x20, hf, hS, hm⟩
     unfold m_plan_Follow_j1 at hm
     refine W.seq ?_
     refine W.regionL (l := [0, 1, 2, 3]) rfl ?_
     refine O.val hf rfl rfl rfl (RunV.field T_field_61_0 rfl rfl) ?_; clear hf a; intro a hf
     refine O.val hf rfl rfl rfl (RunV.load1 T_agg_27 rfl (hS.ptAt (i := 1) rfl) rfl) ?_; clear hf a; intro a hf
     refine O.val hf rfl rfl rfl (RunV.assign rfl) ?_; clear hf a; intro a hf
     refine O.val hf rfl rfl rfl (RunV.assign rfl) ?_; clear hf a; intro a hf
     refine O.nil ?_
     refine k_seq ?_
     replace hf : Fr a 53 [] [(4, s17), (5, Iv 0)] := hf.to ⟨rfl, rfl, trivial⟩
     refine W.ret ?_
     obtain rfl := Option.some.inj hm
     refine post2 hf rfl (ResOK.tmp rfl) (ResOK.tmp rfl) ?_
     replace hS := hS.sub (N := [slE 33 2 E33 s17 x18]) (.cons_cons _ (.cons _ .slnil))
     exact ⟨s17, rfl, hS.noB⟩

def m_ref42_Value_j1 (F : Nat) (x5 : Int) : Option Int :=
  some x5
def m_ref42_Value_b2 (F : Nat) (x4 : List Int) (x2 : List (Int × Int × Int × Int)) (rec8 : Int → Int → Option Int) (x6 : Int) (x7 : Int) : Option Int :=
  if x7 < ((x4.length : Int) : Int) then ((idx x4 x7).bind fun x10 => (idx x2 x10).bind fun x11 => (some (IntKind.i64.wrap (x6 + x11.2.2.2))).bind fun x12 => rec8 x12 (IntKind.i64.wrap (x7 + 1))) else (m_ref42_Value_j1 F x6)
def m_ref42_Value_l2 (F : Nat) (x4 : List Int) (x2 : List (Int × Int × Int × Int)) : Nat → Int → Int → Option Int
  | 0, _, _ => none
  | n + 1, x6, x7 => m_ref42_Value_b2 F x4 x2 (m_ref42_Value_l2 F x4 x2 n) x6 x7
def m_ref42_Value (F : Nat)  (x2 : List (Int × Int × Int × Int)) (x4 : List Int) : Option Int :=
  m_ref42_Value_l2 F x4 x2 F 0 0
set_option maxHeartbeats 1000000 in
set_option maxRecDepth 8000 in
theorem m_ref42_Value_ok (F : Nat)    (s1 : Value) (x2 : List (Int × Int × Int × Int)) (s3 : Value) (x4 : List Int) (w0 : World) (h_s1 : rdEOK (hp w0) 4 E24 s1 x2) (h_s3 : rdEOK (hp w0) 1 E3 s3 x4) (r : Int) (hm : m_ref42_Value F x2 x4 = some r) :
    Ret Try.prog 18 #[s1, s3] w0 (G := Unit) (fun _ => Iv r) (fun _ w => St w0 w noX [] []) := by
 unfold m_ref42_Value at hm
 refine ret_of_W (lv := [s1, s3]) Try.func18 rfl rfl rfl (fun a hf => ?_)
 replace hf : Fr a 24 [] [(0, s1), (1, s3)] := hf
 have hS : St w0 w0 noX [rdE 4 E24 s1 x2, rdE 1 E3 s3 x4] [] := St.borrow (lendAll_cons (lendRd h_s1) (lendAll_cons (lendRd h_s3) lendAll_nil))
 refine W.seq ?_
 refine W.regionL (l := [0]) rfl ?_
 refine O.val hf rfl rfl rfl (RunV.assign rfl) ?_; clear hf a; intro a hf
 refine O.nil ?_
 refine k_seq ?_
 refine W.seq ?_
 refine W.regionL (l := [0]) rfl ?_
 refine O.val hf rfl rfl rfl (RunV.assign rfl) ?_; clear hf a; intro a hf
 refine O.nil ?_
 refine k_seq ?_
 refine W.seqR (fun a w => ∃ (x5 : Int), Fr a 24 [] [(4, Iv 0), (5, Iv x5)] ∧ St w0 w noX [rdE 4 E24 s1 x2, rdE 1 E3 s3 x4] [] ∧ m_ref42_Value_j1 F x5 = some r) ?_ ?_
 ·refine W.seq ?_
  refine W.regionL (l := [0]) rfl ?_
  refine O.val hf rfl rfl rfl (RunV.assign rfl) ?_; clear hf a; intro a hf
  refine O.nil ?_
  refine k_seq ?_
  refine W.block ?_
  refine W.loop (G := Nat × Int × Int) (fun g a w => match g with | (k8, x6, x7) => Fr a 24 [] [(0, s1), (1, s3), (4, Iv 0), (5, Iv x6), (6, Iv x7)] ∧ St w0 w noX [rdE 4 E24 s1 x2, rdE 1 E3 s3 x4] [] ∧ m_ref42_Value_l2 F x4 x2 k8 x6 x7 = some r) (fun g => match g with | (k8, x6, x7) => k8) (F, 0, 0) ⟨hf.to ⟨rfl, rfl, rfl, rfl, rfl, trivial⟩, hS, hm⟩ ?_
  clear hf hS hm a; try clear w
  rintro ⟨k8, x6, x7⟩ a w ⟨hf, hS, hm⟩
  rcases k8 with _ | k8
  · exact absurd (show none = some r from hm) (by simp)
  replace hm : m_ref42_Value_b2 F x4 x2 (m_ref42_Value_l2 F x4 x2 k8) x6 x7 = some r := hm
  obtain ⟨rec8, hrec8⟩ : ∃ f, f = m_ref42_Value_l2 F x4 x2 k8 := ⟨_, rfl⟩
  rw [← hrec8] at hm; unfold m_ref42_Value_b2 at hm
  refine W.seq ?_
  refine W.seq ?_
  refine W.regionL (l := [0, 1, 2, 3]) rfl ?_
  refine O.val hf rfl rfl rfl (RunV.move rfl) ?_; clear hf a; intro a hf
  refine O.val hf rfl rfl rfl (RunV.move rfl) ?_; clear hf a; intro a hf
  refine O.val (v := Iv (x4.length : Int)) hf rfl rfl rfl (RunV.lenE (e := 3) (by simpa using T_elem_49) rfl (hS.rdB (j := 1) rfl)) ?_; clear hf a; intro a hf
  refine O.val (v := Bv (decide (x7 < ((x4.length : Int) : Int)))) hf rfl rfl rfl (RunV.lss rfl rfl) ?_; clear hf a; intro a hf
  refine O.nil ?_
  refine k_seq ?_
  refine W.ifdI hf rfl (fun hc9 => ?_) (fun hc9 => ?_)
  ·replace hm := hm_p hm hc9
   refine W.skip ?_
   refine k_seq ?_
   refine W.seq ?_
   refine W.block ?_
   refine W.regionL (l := [0, 1, 2, 3, 4, 5, 6, 7, 8, 9, 10]) rfl ?_
   refine O.val hf rfl rfl rfl (RunV.move rfl) ?_; clear hf a; intro a hf
   refine O.val hf rfl rfl rfl (RunV.move rfl) ?_; clear hf a; intro a hf
   refine O.val hf rfl rfl rfl (RunV.move rfl) ?_; clear hf a; intro a hf
   refine O.val hf rfl rfl rfl (RunV.move rfl) ?_; clear hf a; intro a hf
   obtain ⟨x10, hx10, hm⟩ := hm_b hm
   refine O.val hf rfl rfl rfl (RunV.ixE T_elem_49 T_size_3 rfl rfl (hS.rdB (j := 1) rfl) hx10) ?_; clear hf a; intro a hf
   refine O.val hf rfl rfl rfl (RunV.ldE1 (o := 0) T_agg_3 E3_len rfl (hS.rdB (j := 1) rfl) hx10 rfl rfl) ?_; clear hf a; intro a hf
   obtain ⟨x11, hx11, hm⟩ := hm_b hm
   refine O.val hf rfl rfl rfl (RunV.ixE T_elem_22 T_size_24 rfl rfl (hS.rdB (j := 0) rfl) hx11) ?_; clear hf a; intro a hf
   refine O.val hf rfl rfl rfl (RunV.ixFE T_field_24_3 rfl (hS.rdB (j := 0) rfl) hx11 rfl) ?_; clear hf a; intro a hf
   refine O.val hf rfl rfl rfl (RunV.ldE1 (o := 3) T_agg_3 E24_len rfl (hS.rdB (j := 0) rfl) hx11 rfl rfl) ?_; clear hf a; intro a hf
   refine O.val (v := Iv (IntKind.i64.wrap (x6 + x11.2.2.2))) hf rfl rfl rfl (RunV.add rfl rfl) ?_; clear hf a; intro a hf
   refine O.val hf rfl rfl rfl (RunV.assign rfl) ?_; clear hf a; intro a hf
   refine O.nil ?_
   refine k_blk_normal ?_
   refine k_seq ?_
   obtain ⟨x12, hx12, hm⟩ := hm_b hm
   rw [Option.some.inj hx12] at hf
   refine W.regionL (l := [0, 1, 2]) rfl ?_
   refine O.val hf rfl rfl rfl (RunV.move rfl) ?_; clear hf a; intro a hf
   refine O.val (v := Iv (IntKind.i64.wrap (x7 + 1))) hf rfl rfl rfl (RunV.add rfl rfl) ?_; clear hf a; intro a hf
   refine O.val hf rfl rfl rfl (RunV.assign rfl) ?_; clear hf a; intro a hf
   refine O.nil ?_
   refine k_then ⟨(k8, x12, IntKind.i64.wrap (x7 + 1)), ⟨hf.to ⟨rfl, rfl, rfl, rfl, rfl, trivial⟩, hS, ?_⟩, Nat.lt_succ_self _⟩
   rw [hrec8] at hm; exact hm
  ·replace hm := hm_n hm hc9
   refine W.exit ?_
   refine k_then_exit ?_
   refine k_then_exit ?_
   refine k_blk ?_
   exact k_then ⟨x6, hf.to ⟨rfl, rfl, trivial⟩, hS, hm⟩
 ·clear hf hS hm a; try clear w
  rintro a w ⟨x5, hf, hS, hm⟩
  unfold m_ref42_Value_j1 at hm
  refine W.seq ?_
  refine W.regionL (l := [0, 1]) rfl ?_
  refine O.val hf rfl rfl rfl (RunV.move rfl) ?_; clear hf a; intro a hf
  refine O.val hf rfl rfl rfl (RunV.assign rfl) ?_; clear hf a; intro a hf
  refine O.nil ?_
  refine k_seq ?_
  replace hf : Fr a 24 [] [(4, Iv x5)] := hf.to ⟨rfl, trivial⟩
  refine W.ret ?_
  obtain rfl := Option.some.inj hm
  refine post1 hf rfl (ResOK.tmp rfl) ?_
  exact ⟨(), rfl, hS.noB⟩

def m_law42_PlanBest_j1 (F : Nat) (x36 : Bool) : Option Bool :=
  some x36
def m_law42_PlanBest_j2 (F : Nat) (x2 : List (Int × Int × Int × Int)) (x4 : List Int) (x5 : Bool) (x12 : (List (Int × Int)) × Int × Int) (x17 : (List (Int × Int)) × Int) (x20 : Bool) : Option Bool :=
  if (x20) = true then (some false) else ((m_plan_Follow F x2 x4).bind fun x22 => if x22.2 ≠ (0 : Int) then (some (x5 && (((decide (x22.2 = (2 : Int))) || (decide (x22.2 = (14 : Int)))) || (decide (x22.2 = (16 : Int)))))) else ((m_ref42_Value F x2 x4).bind fun x28 => if ((decide (x28 ≠ (x12.2.1 : Int))) || (decide ((x22.1.length : Int) = (0 : Int)))) = true then (some (x5 && (decide (x28 ≤ (x12.2.1 : Int))))) else ((idx x17.1 (IntKind.i64.wrap ((x17.1.length : Int) - 1))).bind fun x32 => (idx x22.1 (IntKind.i64.wrap ((x22.1.length : Int) - 1))).bind fun x33 => (idx x2 x32.1).bind fun x37 => (idx x2 x33.1).bind fun x38 => if (x5) = true then ((idx x2 x32.1).bind fun x40 => (idx x2 x33.1).bind fun x41 => m_law42_PlanBest_j1 F (decide ((IntKind.i64.wrap (x32.2 + x40.2.2.1)) ≤ (IntKind.i64.wrap (x33.2 + x41.2.2.1) : Int)))) else (m_law42_PlanBest_j1 F false))))
def m_law42_PlanBest_j3 (F : Nat) (x2 : List (Int × Int × Int × Int)) (x4 : List Int) (x5 : Bool) (x12 : (List (Int × Int)) × Int × Int) (x17 : (List (Int × Int)) × Int) (x16 : List Int) (x19 : Bool) : Option Bool :=
  if (x19) = true then (m_law42_PlanBest_j2 F x2 x4 x5 x12 x17 true) else ((m_ref42_Value F x2 x16).bind fun x43 => m_law42_PlanBest_j2 F x2 x4 x5 x12 x17 (decide (x43 ≠ (x12.2.1 : Int))))
def m_law42_PlanBest_j4 (F : Nat) (x2 : List (Int × Int × Int × Int)) (x4 : List Int) (x5 : Bool) (x12 : (List (Int × Int)) × Int × Int) (x16 : List Int) : Option Bool :=
  (m_plan_Follow F x2 x16).bind fun x17 => if x17.2 ≠ (0 : Int) then (m_law42_PlanBest_j3 F x2 x4 x5 x12 x17 x16 true) else ((m_ref42_SameSlots_2 F x17.1 x12.1).bind fun x45 => m_law42_PlanBest_j3 F x2 x4 x5 x12 x17 x16 (!x45))
def m_law42_PlanBest_b5 (F : Nat) (x12 : (List (Int × Int)) × Int × Int) (x2 : List (Int × Int × Int × Int)) (x4 : List Int) (x5 : Bool) (rec49 : (List Int) → Int → Option Bool) (x47 : List Int) (x48 : Int) : Option Bool :=
  if x48 < ((x12.1.length : Int) : Int) then ((idx x12.1 x48).bind fun x51 => if ((decide (x51.1 < (0 : Int))) || (decide (x51.1 ≥ ((x2.length : Int) : Int)))) = true then (some false) else (if (x47.length : Int) ≤ 4294967296 then rec49 (x47 ++ [x51.1]) (IntKind.i64.wrap (x48 + 1)) else none)) else (m_law42_PlanBest_j4 F x2 x4 x5 x12 x47)
def m_law42_PlanBest_l5 (F : Nat) (x12 : (List (Int × Int)) × Int × Int) (x2 : List (Int × Int × Int × Int)) (x4 : List Int) (x5 : Bool) : Nat → (List Int) → Int → Option Bool
  | 0, _, _ => none
  | n + 1, x47, x48 => m_law42_PlanBest_b5 F x12 x2 x4 x5 (m_law42_PlanBest_l5 F x12 x2 x4 x5 n) x47 x48
def m_law42_PlanBest_j6 (F : Nat) (x4 : List Int) (x5 : Bool) (x2 : List (Int × Int × Int × Int)) (x8 : Bool) : Option Bool :=
  if ((x8 || (decide ((x4.length : Int) > (8 : Int)))) || (!x5)) = true then (some x5) else ((m_plan_Best F x2).bind fun x12 => if x12.2.2 ≠ (0 : Int) then (some false) else (m_law42_PlanBest_l5 F x12 x2 x4 x5 F ([] : List Int) 0))
def m_law42_PlanBest (F : Nat)  (x2 : List (Int × Int × Int × Int)) (x4 : List Int) : Option Bool :=
  (m_law42_alive F).bind fun x5 => (m_law42_great F x2).bind fun x6 => if (x6 || (decide ((x2.length : Int) > (5 : Int)))) = true then (m_law42_PlanBest_j6 F x4 x5 x2 true) else ((m_ref42_Check F x2).bind fun x58 => m_law42_PlanBest_j6 F x4 x5 x2 (decide (x58 ≠ (0 : Int))))
end Go.Proofs.Ytipedambeemdaaa
