/- Part of a proof: walks printed by a program. -/
import Derived.Test.YtplgfmincflodaaWaa
set_option linter.unusedVariables false
set_option linter.unusedSimpArgs false
namespace Go.Proofs.Ytplgfmincflodaa
open Go Go.SL
set_option maxHeartbeats 1000000 in
set_option maxRecDepth 8000 in
theorem m_span_Scale_ok (F : Nat)   (x1 : Int) (x2 : Int) (x3 : Int) (x4 : Int) (w0 : World)  (r : Int × Int × Int) (hm : m_span_Scale F x1 x2 x3 x4 = some r) :
    Ret Try.prog 15 #[.agg #[Iv x1, Iv x2], Iv x3, Iv x4] w0 (G := Unit) (fun _ => .tuple #[.agg #[Iv r.1, Iv r.2.1], Iv r.2.2]) (fun _ w => St w0 w noX [] []) := by
 unfold m_span_Scale at hm
 refine ret_of_W (lv := [.agg #[Iv x1, Iv x2], Iv x3, Iv x4]) Try.func15 rfl rfl rfl (fun a hf => ?_)
 replace hf : Fr a 55 [] [(0, .agg #[Iv x1, Iv x2]), (1, Iv x3), (2, Iv x4)] := hf
 have hS : St w0 w0 noX [] [] := St.borrow lendAll_nil
 refine W.seq ?_
 -- region 0
 refine W.regionL (l := [0, 1, 2]) rfl ?_
 refine O.box (cs := #[Iv x1, Iv x2]) hf hS rfl rfl rfl rfl ?_
 clear hf hS a; intro b5 w a hb5 hS hf
 refine O.alloc (cs := #[Iv 0, Iv 0]) hf hS rfl rfl T_zero_23 rfl ?_
 clear hf hS a; intro b6 w a hb6 hS hf
 refine O.val hf rfl rfl rfl (RunV.assign rfl) ?_; clear hf a; intro a hf
 refine O.nil ?_
 refine k_seq ?_
 replace hf : Fr a 55 [] [(1, Iv x3), (2, Iv x4), (3, Pv b5 0), (6, Pv b6 0), (7, Iv 0)] := hf.to ⟨rfl, rfl, rfl, rfl, rfl, trivial⟩
 refine W.seq ?_
 refine W.seq ?_
 -- region 1
 refine W.regionL (l := [0, 1, 2, 3]) rfl ?_
 refine O.val hf rfl rfl rfl (RunV.loadN (cs' := #[Iv x1, Iv x2]) T_agg_23 T_size_23 rfl (hS.ptAt (i := 1) rfl) (Nat.le_of_ble_eq_true rfl) rfl) ?_; clear hf a; intro a hf
 refine O.buildSlice (cs' := #[Iv x1, Iv x2]) (zs := #[Iv 0, Iv 0]) hf hS rfl rfl T_elem_79 T_size_23 T_zero_23 rfl rfl rfl rfl rfl ?_
 clear hf hS a; intro b7 w a hb7 hS hf
 obtain ⟨x8, hx8, hm⟩ := hm_b hm
 refine O.callR hf rfl rfl rfl (RunE.call (av := #[.slice (some ⟨b7, 0, none⟩) 1 1]) C_ok_21 rfl rfl rfl) (m_span_check_ok F b7 x1 x2 _ (hS.ptAt (i := 0) rfl) x8 hx8) ?_
 clear hf a; rintro _ w hS1 a hf
 replace hf : Fr a _ _ ((14, Iv x8) :: _) := hf
 replace hS := (hS.call hS1).eqM (N := [pt b7 (Cs #[Iv x1, Iv x2] 23), pt b6 (Cs #[Iv 0, Iv 0] 23), pt b5 (Cs #[Iv x1, Iv x2] 23)]) rfl
 clear hS1
 refine O.val hf rfl rfl rfl (RunV.assign rfl) ?_; clear hf a; intro a hf
 refine O.nil ?_
 refine k_seq ?_
 replace hf : Fr a 55 [] [(1, Iv x3), (2, Iv x4), (3, Pv b5 0), (6, Pv b6 0), (7, Iv 0), (8, Iv x8)] := hf.to ⟨rfl, rfl, rfl, rfl, rfl, rfl, trivial⟩
 refine W.seq ?_
 -- region 2
 refine W.regionL (l := [0, 1]) rfl ?_
 refine O.val hf rfl rfl rfl (RunV.move rfl) ?_; clear hf a; intro a hf
 refine O.val (v := Bv (decide (x8 ≠ (0 : Int)))) hf rfl rfl rfl (RunV.neq rfl rfl) ?_; clear hf a; intro a hf
 refine O.nil ?_
 refine k_seq ?_
 replace hf : Fr a 55 [] [(1, Iv x3), (2, Iv x4), (3, Pv b5 0), (6, Pv b6 0), (7, Iv 0), (8, Iv x8), (16, Bv (decide (x8 ≠ (0 : Int))))] := hf.to ⟨rfl, rfl, rfl, rfl, rfl, rfl, rfl, trivial⟩
 refine W.ifdI hf rfl (fun hc9 => ?_) (fun hc9 => ?_)
 ·replace hm := hm_p hm hc9
  refine W.seq ?_
  -- region 3
  refine W.regionL (l := [0, 1, 2, 3]) rfl ?_
  refine O.val (v := .agg #[Iv 0, Iv 0]) hf rfl rfl rfl (RunV.buildS (cs' := #[Iv 0, Iv 0]) T_places_23 T_zero_23 rfl (by kernel_rfl)) ?_; clear hf a; intro a hf
  refine O.val hf rfl rfl rfl (RunV.move rfl) ?_; clear hf a; intro a hf
  refine O.store (j := 1) (cs' := #[Iv 0, Iv 0]) (M' := [pt b7 (Cs #[Iv x1, Iv x2] 23), pt b6 (Cs #[Iv 0, Iv 0] 23), pt b5 (Cs #[Iv x1, Iv x2] 23)]) hf hS rfl rfl rfl T_size_23 rfl rfl rfl (Nat.le_of_ble_eq_true rfl) rfl rfl ?_
  clear hS; intro w hS
  refine O.val hf rfl rfl rfl (RunV.assign rfl) ?_; clear hf a; intro a hf
  refine O.nil ?_
  refine k_seq ?_
  replace hf : Fr a 55 [] [(1, Iv x3), (2, Iv x4), (3, Pv b5 0), (6, Pv b6 0), (7, Iv x8)] := hf.to ⟨rfl, rfl, rfl, rfl, rfl, trivial⟩
  refine W.ret ?_
  refine k_then_ret ?_
  obtain rfl := Option.some.inj hm
  refine post2 hf rfl (ResOK.cellN (cs' := #[Iv 0, Iv 0]) rfl T_agg_23 T_size_23 (hS.ptAt (i := 1) rfl) (Nat.le_of_ble_eq_true rfl) rfl) (ResOK.tmp rfl) ?_
  replace hS := hS.sub (N := []) (.cons _ (.cons _ (.cons _ .slnil)))
  exact ⟨(), rfl, hS.noB⟩
 ·replace hm := hm_n hm hc9
  refine W.skip ?_
  refine k_seq ?_
  replace hf : Fr a 55 [] [(1, Iv x3), (2, Iv x4), (3, Pv b5 0), (6, Pv b6 0), (7, Iv 0)] := hf.to ⟨rfl, rfl, rfl, rfl, rfl, trivial⟩
  refine W.seq ?_
  refine W.seq ?_
  -- region 4
  refine W.regionL (l := [0, 1]) rfl ?_
  refine O.val hf rfl rfl rfl (RunV.move rfl) ?_; clear hf a; intro a hf
  refine O.val (v := Bv (decide (x4 = (0 : Int)))) hf rfl rfl rfl (RunV.eql rfl rfl) ?_; clear hf a; intro a hf
  refine O.nil ?_
  refine k_seq ?_
  replace hf : Fr a 55 [] [(1, Iv x3), (2, Iv x4), (3, Pv b5 0), (6, Pv b6 0), (7, Iv 0), (20, Bv (decide (x4 = (0 : Int))))] := hf.to ⟨rfl, rfl, rfl, rfl, rfl, rfl, trivial⟩
  refine W.ifdI hf rfl (fun hc10 => ?_) (fun hc10 => ?_)
  ·replace hm := hm_p hm hc10
   refine W.seq ?_
   -- region 5
   refine W.regionL (l := [0, 1, 2]) rfl ?_
   refine O.val (v := .agg #[Iv 0, Iv 0]) hf rfl rfl rfl (RunV.buildS (cs' := #[Iv 0, Iv 0]) T_places_23 T_zero_23 rfl (by kernel_rfl)) ?_; clear hf a; intro a hf
   refine O.store (j := 1) (cs' := #[Iv 0, Iv 0]) (M' := [pt b7 (Cs #[Iv x1, Iv x2] 23), pt b6 (Cs #[Iv 0, Iv 0] 23), pt b5 (Cs #[Iv x1, Iv x2] 23)]) hf hS rfl rfl rfl T_size_23 rfl rfl rfl (Nat.le_of_ble_eq_true rfl) rfl rfl ?_
   clear hS; intro w hS
   refine O.val hf rfl rfl rfl (RunV.assign rfl) ?_; clear hf a; intro a hf
   refine O.nil ?_
   refine k_seq ?_
   replace hf : Fr a 55 [] [(1, Iv x3), (2, Iv x4), (3, Pv b5 0), (6, Pv b6 0), (7, Iv 18)] := hf.to ⟨rfl, rfl, rfl, rfl, rfl, trivial⟩
   refine W.ret ?_
   refine k_then_ret ?_
   obtain rfl := Option.some.inj hm
   refine post2 hf rfl (ResOK.cellN (cs' := #[Iv 0, Iv 0]) rfl T_agg_23 T_size_23 (hS.ptAt (i := 1) rfl) (Nat.le_of_ble_eq_true rfl) rfl) (ResOK.tmp rfl) ?_
   replace hS := hS.sub (N := []) (.cons _ (.cons _ (.cons _ .slnil)))
   exact ⟨(), rfl, hS.noB⟩
  ·replace hm := hm_n hm hc10
   refine W.skip ?_
   refine k_seq ?_
   replace hf : Fr a 55 [] [(1, Iv x3), (2, Iv x4), (3, Pv b5 0), (6, Pv b6 0), (7, Iv 0)] := hf.to ⟨rfl, rfl, rfl, rfl, rfl, trivial⟩
   refine W.seq ?_
   -- region 6, which draws its order
   -- [8, 9, 10, 11] turn memory
   have hf1 : Fr a 55 [] [] := hf.to trivial
   replace hf : Fr a 55 [] [(1, Iv x3), (2, Iv x4), (3, Pv b5 0), (6, Pv b6 0), (7, Iv 0)] := hf.to ⟨rfl, rfl, rfl, rfl, rfl, trivial⟩
   obtain ⟨x11, hx11, hm⟩ := hm_b hm
   obtain ⟨x12, hx12, hm⟩ := hm_b hm
   refine W.drawP (γ := Nat × Nat) (L0 := [(1, Iv x3), (2, Iv x4), (3, Pv b5 0), (6, Pv b6 0), (7, Iv 0)]) (L1 := []) (0, 0) [8, 9, 10, 11] [0, 1, 2, 3, 4, 5, 6, 7] (fun i => match i with | 0 => [] | 1 => [0] | 2 => [] | 3 => [1, 2] | 4 => [] | 5 => [4] | 6 => [] | 7 => [3, 5, 6] | 8 => [] | 9 => [] | 10 => [0, 1, 2, 3, 7, 8, 9] | 11 => [0, 1, 2, 3, 4, 5, 6, 7, 8, 9, 10] | _ => []) (fun i => match i with | 10 => [8, 9] | 11 => [8, 9, 10] | _ => []) (fun i => match i with | 0 => [10, 11] | 1 => [10, 11] | 2 => [10, 11] | 3 => [10, 11] | 4 => [10, 11] | 5 => [10, 11] | 6 => [10, 11] | 7 => [10, 11] | 8 => [10, 11] | 9 => [10, 11] | 10 => [11] | _ => []) (fun i => match i with | 8 => [10, 11] | 9 => [10, 11] | 10 => [11] | 11 => [] | _ => []) (fun _ => []) (fun (g : Nat × Nat) j => match g, j with | (b13, b14), 0 => Pv b5 0 | (b13, b14), 1 => Iv x1 | (b13, b14), 2 => Iv x3 | (b13, b14), 3 => .agg #[Iv x11.1, Uv x11.2] | (b13, b14), 4 => Pv b5 1 | (b13, b14), 5 => Iv x2 | (b13, b14), 6 => Iv x3 | (b13, b14), 7 => .agg #[Iv x12.1, Uv x12.2] | (b13, b14), 8 => Pv b13 0 | (b13, b14), 9 => Pv b14 0 | _, _ => undef) (fun s (g : Nat × Nat) w => match g with | (b13, b14) => (s 8 = false ∧ s 9 = false ∧ s 10 = false ∧ s 11 = false ∧ St w0 w noX [] [pt b7 (Cs #[Iv x1, Iv x2] 23), pt b6 (Cs #[Iv 0, Iv 0] 23), pt b5 (Cs #[Iv x1, Iv x2] 23)]) ∨ (s 8 = true ∧ s 9 = false ∧ s 10 = false ∧ s 11 = false ∧ St w0 w noX [] [pt b13 (Cs #[Iv 0, Uv 0] 64), pt b7 (Cs #[Iv x1, Iv x2] 23), pt b6 (Cs #[Iv 0, Iv 0] 23), pt b5 (Cs #[Iv x1, Iv x2] 23)]) ∨ (s 8 = false ∧ s 9 = true ∧ s 10 = false ∧ s 11 = false ∧ St w0 w noX [] [pt b14 (Cs #[Iv 0, Uv 0] 64), pt b7 (Cs #[Iv x1, Iv x2] 23), pt b6 (Cs #[Iv 0, Iv 0] 23), pt b5 (Cs #[Iv x1, Iv x2] 23)]) ∨ (s 8 = true ∧ s 9 = true ∧ s 10 = false ∧ s 11 = false ∧ St w0 w noX [] [pt b14 (Cs #[Iv 0, Uv 0] 64), pt b13 (Cs #[Iv 0, Uv 0] 64), pt b7 (Cs #[Iv x1, Iv x2] 23), pt b6 (Cs #[Iv 0, Iv 0] 23), pt b5 (Cs #[Iv x1, Iv x2] 23)]) ∨ (s 8 = true ∧ s 9 = true ∧ s 10 = true ∧ s 11 = false ∧ St w0 w noX [] [pt b14 (Cs #[Iv 0, Uv 0] 64), pt b13 (Cs #[Iv x11.1, Uv x11.2] 64), pt b7 (Cs #[Iv x1, Iv x2] 23), pt b6 (Cs #[Iv 0, Iv 0] 23), pt b5 (Cs #[Iv x1, Iv x2] 23)]) ∨ (s 8 = true ∧ s 9 = true ∧ s 10 = true ∧ s 11 = true ∧ St w0 w noX [] [pt b14 (Cs #[Iv x12.1, Uv x12.2] 64), pt b13 (Cs #[Iv x11.1, Uv x11.2] 64), pt b7 (Cs #[Iv x1, Iv x2] 23), pt b6 (Cs #[Iv 0, Iv 0] 23), pt b5 (Cs #[Iv x1, Iv x2] 23)])) P_mixed (by kernel_rfl) hf hf1 (Or.inl ⟨rfl, rfl, rfl, rfl, hS.drew⟩) ?_ ?_ ?_
   ·clear hf hf1 hS
    refine ⟨?_, ?_, ?_, ?_, ?_, ?_, ?_, ?_, trivial⟩
    ·intro s g w hsp hsb hD a hf
     obtain ⟨b13, b14⟩ := g
     rcases hD with (⟨h8_, h9_, h10_, h11_, hD⟩ | ⟨h8_, h9_, h10_, h11_, hD⟩ | ⟨h8_, h9_, h10_, h11_, hD⟩ | ⟨h8_, h9_, h10_, h11_, hD⟩ | ⟨h8_, h9_, h10_, h11_, hD⟩ | ⟨h8_, h9_, h10_, h11_, hD⟩)
     ·have hS : St w0 w noX [] [pt b7 (Cs #[Iv x1, Iv x2] 23), pt b6 (Cs #[Iv 0, Iv 0] 23), pt b5 (Cs #[Iv x1, Iv x2] 23)] := hD; clear hD
      replace hf : Fr a 55 [] [(1, Iv x3), (2, Iv x4), (3, Pv b5 0), (6, Pv b6 0), (7, Iv 0)] := hf
      refine O.val hf rfl rfl rfl (RunV.field T_field_23_0 rfl rfl) ?_; clear hf a; intro a hf
      exact O.nil ⟨rfl, hf.to trivial, (fun d hd => by cases (show some 22 = some d from hd); exact hf.get _ _ rfl), (Or.inl ⟨h8_, h9_, h10_, h11_, hS⟩)⟩
     ·have hS : St w0 w noX [] [pt b13 (Cs #[Iv 0, Uv 0] 64), pt b7 (Cs #[Iv x1, Iv x2] 23), pt b6 (Cs #[Iv 0, Iv 0] 23), pt b5 (Cs #[Iv x1, Iv x2] 23)] := hD; clear hD
      replace hf : Fr a 55 [] [(1, Iv x3), (2, Iv x4), (3, Pv b5 0), (6, Pv b6 0), (7, Iv 0)] := hf
      refine O.val hf rfl rfl rfl (RunV.field T_field_23_0 rfl rfl) ?_; clear hf a; intro a hf
      exact O.nil ⟨rfl, hf.to trivial, (fun d hd => by cases (show some 22 = some d from hd); exact hf.get _ _ rfl), (Or.inr (Or.inl ⟨h8_, h9_, h10_, h11_, hS⟩))⟩
     ·have hS : St w0 w noX [] [pt b14 (Cs #[Iv 0, Uv 0] 64), pt b7 (Cs #[Iv x1, Iv x2] 23), pt b6 (Cs #[Iv 0, Iv 0] 23), pt b5 (Cs #[Iv x1, Iv x2] 23)] := hD; clear hD
      replace hf : Fr a 55 [] [(1, Iv x3), (2, Iv x4), (3, Pv b5 0), (6, Pv b6 0), (7, Iv 0)] := hf
      refine O.val hf rfl rfl rfl (RunV.field T_field_23_0 rfl rfl) ?_; clear hf a; intro a hf
      exact O.nil ⟨rfl, hf.to trivial, (fun d hd => by cases (show some 22 = some d from hd); exact hf.get _ _ rfl), (Or.inr (Or.inr (Or.inl ⟨h8_, h9_, h10_, h11_, hS⟩)))⟩
     ·have hS : St w0 w noX [] [pt b14 (Cs #[Iv 0, Uv 0] 64), pt b13 (Cs #[Iv 0, Uv 0] 64), pt b7 (Cs #[Iv x1, Iv x2] 23), pt b6 (Cs #[Iv 0, Iv 0] 23), pt b5 (Cs #[Iv x1, Iv x2] 23)] := hD; clear hD
      replace hf : Fr a 55 [] [(1, Iv x3), (2, Iv x4), (3, Pv b5 0), (6, Pv b6 0), (7, Iv 0)] := hf
      refine O.val hf rfl rfl rfl (RunV.field T_field_23_0 rfl rfl) ?_; clear hf a; intro a hf
      exact O.nil ⟨rfl, hf.to trivial, (fun d hd => by cases (show some 22 = some d from hd); exact hf.get _ _ rfl), (Or.inr (Or.inr (Or.inr (Or.inl ⟨h8_, h9_, h10_, h11_, hS⟩))))⟩
     ·exact absurd ((hsb 10 (by simp)).symm.trans h10_) (by decide)
     ·exact absurd ((hsb 10 (by simp)).symm.trans h10_) (by decide)
    ·intro s g w hsp hsb hD a hf
     obtain ⟨b13, b14⟩ := g
     rcases hD with (⟨h8_, h9_, h10_, h11_, hD⟩ | ⟨h8_, h9_, h10_, h11_, hD⟩ | ⟨h8_, h9_, h10_, h11_, hD⟩ | ⟨h8_, h9_, h10_, h11_, hD⟩ | ⟨h8_, h9_, h10_, h11_, hD⟩ | ⟨h8_, h9_, h10_, h11_, hD⟩)
     ·have hS : St w0 w noX [] [pt b7 (Cs #[Iv x1, Iv x2] 23), pt b6 (Cs #[Iv 0, Iv 0] 23), pt b5 (Cs #[Iv x1, Iv x2] 23)] := hD; clear hD
      replace hf : Fr a 55 [] [(22, Pv b5 0), (1, Iv x3), (2, Iv x4), (3, Pv b5 0), (6, Pv b6 0), (7, Iv 0)] := hf
      refine O.val hf rfl rfl rfl (RunV.load1 T_agg_2 rfl (hS.ptAt (i := 2) rfl) rfl) ?_; clear hf a; intro a hf
      exact O.nil ⟨rfl, hf.to trivial, (fun d hd => by cases (show some 23 = some d from hd); exact hf.get _ _ rfl), (Or.inl ⟨h8_, h9_, h10_, h11_, hS⟩)⟩
     ·have hS : St w0 w noX [] [pt b13 (Cs #[Iv 0, Uv 0] 64), pt b7 (Cs #[Iv x1, Iv x2] 23), pt b6 (Cs #[Iv 0, Iv 0] 23), pt b5 (Cs #[Iv x1, Iv x2] 23)] := hD; clear hD
      replace hf : Fr a 55 [] [(22, Pv b5 0), (1, Iv x3), (2, Iv x4), (3, Pv b5 0), (6, Pv b6 0), (7, Iv 0)] := hf
      refine O.val hf rfl rfl rfl (RunV.load1 T_agg_2 rfl (hS.ptAt (i := 3) rfl) rfl) ?_; clear hf a; intro a hf
      exact O.nil ⟨rfl, hf.to trivial, (fun d hd => by cases (show some 23 = some d from hd); exact hf.get _ _ rfl), (Or.inr (Or.inl ⟨h8_, h9_, h10_, h11_, hS⟩))⟩
     ·have hS : St w0 w noX [] [pt b14 (Cs #[Iv 0, Uv 0] 64), pt b7 (Cs #[Iv x1, Iv x2] 23), pt b6 (Cs #[Iv 0, Iv 0] 23), pt b5 (Cs #[Iv x1, Iv x2] 23)] := hD; clear hD
      replace hf : Fr a 55 [] [(22, Pv b5 0), (1, Iv x3), (2, Iv x4), (3, Pv b5 0), (6, Pv b6 0), (7, Iv 0)] := hf
      refine O.val hf rfl rfl rfl (RunV.load1 T_agg_2 rfl (hS.ptAt (i := 3) rfl) rfl) ?_; clear hf a; intro a hf
      exact O.nil ⟨rfl, hf.to trivial, (fun d hd => by cases (show some 23 = some d from hd); exact hf.get _ _ rfl), (Or.inr (Or.inr (Or.inl ⟨h8_, h9_, h10_, h11_, hS⟩)))⟩
     ·have hS : St w0 w noX [] [pt b14 (Cs #[Iv 0, Uv 0] 64), pt b13 (Cs #[Iv 0, Uv 0] 64), pt b7 (Cs #[Iv x1, Iv x2] 23), pt b6 (Cs #[Iv 0, Iv 0] 23), pt b5 (Cs #[Iv x1, Iv x2] 23)] := hD; clear hD
      replace hf : Fr a 55 [] [(22, Pv b5 0), (1, Iv x3), (2, Iv x4), (3, Pv b5 0), (6, Pv b6 0), (7, Iv 0)] := hf
      refine O.val hf rfl rfl rfl (RunV.load1 T_agg_2 rfl (hS.ptAt (i := 4) rfl) rfl) ?_; clear hf a; intro a hf
      exact O.nil ⟨rfl, hf.to trivial, (fun d hd => by cases (show some 23 = some d from hd); exact hf.get _ _ rfl), (Or.inr (Or.inr (Or.inr (Or.inl ⟨h8_, h9_, h10_, h11_, hS⟩))))⟩
     ·exact absurd ((hsb 10 (by simp)).symm.trans h10_) (by decide)
     ·exact absurd ((hsb 10 (by simp)).symm.trans h10_) (by decide)
    ·intro s g w hsp hsb hD a hf
     obtain ⟨b13, b14⟩ := g
     rcases hD with (⟨h8_, h9_, h10_, h11_, hD⟩ | ⟨h8_, h9_, h10_, h11_, hD⟩ | ⟨h8_, h9_, h10_, h11_, hD⟩ | ⟨h8_, h9_, h10_, h11_, hD⟩ | ⟨h8_, h9_, h10_, h11_, hD⟩ | ⟨h8_, h9_, h10_, h11_, hD⟩)
     ·have hS : St w0 w noX [] [pt b7 (Cs #[Iv x1, Iv x2] 23), pt b6 (Cs #[Iv 0, Iv 0] 23), pt b5 (Cs #[Iv x1, Iv x2] 23)] := hD; clear hD
      replace hf : Fr a 55 [] [(1, Iv x3), (2, Iv x4), (3, Pv b5 0), (6, Pv b6 0), (7, Iv 0)] := hf
      refine O.val hf rfl rfl rfl (RunV.move rfl) ?_; clear hf a; intro a hf
      exact O.nil ⟨rfl, hf.to trivial, (fun d hd => by cases (show some 24 = some d from hd); exact hf.get _ _ rfl), (Or.inl ⟨h8_, h9_, h10_, h11_, hS⟩)⟩
     ·have hS : St w0 w noX [] [pt b13 (Cs #[Iv 0, Uv 0] 64), pt b7 (Cs #[Iv x1, Iv x2] 23), pt b6 (Cs #[Iv 0, Iv 0] 23), pt b5 (Cs #[Iv x1, Iv x2] 23)] := hD; clear hD
      replace hf : Fr a 55 [] [(1, Iv x3), (2, Iv x4), (3, Pv b5 0), (6, Pv b6 0), (7, Iv 0)] := hf
      refine O.val hf rfl rfl rfl (RunV.move rfl) ?_; clear hf a; intro a hf
      exact O.nil ⟨rfl, hf.to trivial, (fun d hd => by cases (show some 24 = some d from hd); exact hf.get _ _ rfl), (Or.inr (Or.inl ⟨h8_, h9_, h10_, h11_, hS⟩))⟩
     ·have hS : St w0 w noX [] [pt b14 (Cs #[Iv 0, Uv 0] 64), pt b7 (Cs #[Iv x1, Iv x2] 23), pt b6 (Cs #[Iv 0, Iv 0] 23), pt b5 (Cs #[Iv x1, Iv x2] 23)] := hD; clear hD
      replace hf : Fr a 55 [] [(1, Iv x3), (2, Iv x4), (3, Pv b5 0), (6, Pv b6 0), (7, Iv 0)] := hf
      refine O.val hf rfl rfl rfl (RunV.move rfl) ?_; clear hf a; intro a hf
      exact O.nil ⟨rfl, hf.to trivial, (fun d hd => by cases (show some 24 = some d from hd); exact hf.get _ _ rfl), (Or.inr (Or.inr (Or.inl ⟨h8_, h9_, h10_, h11_, hS⟩)))⟩
     ·have hS : St w0 w noX [] [pt b14 (Cs #[Iv 0, Uv 0] 64), pt b13 (Cs #[Iv 0, Uv 0] 64), pt b7 (Cs #[Iv x1, Iv x2] 23), pt b6 (Cs #[Iv 0, Iv 0] 23), pt b5 (Cs #[Iv x1, Iv x2] 23)] := hD; clear hD
      replace hf : Fr a 55 [] [(1, Iv x3), (2, Iv x4), (3, Pv b5 0), (6, Pv b6 0), (7, Iv 0)] := hf
      refine O.val hf rfl rfl rfl (RunV.move rfl) ?_; clear hf a; intro a hf
      exact O.nil ⟨rfl, hf.to trivial, (fun d hd => by cases (show some 24 = some d from hd); exact hf.get _ _ rfl), (Or.inr (Or.inr (Or.inr (Or.inl ⟨h8_, h9_, h10_, h11_, hS⟩))))⟩
     ·exact absurd ((hsb 10 (by simp)).symm.trans h10_) (by decide)
     ·exact absurd ((hsb 10 (by simp)).symm.trans h10_) (by decide)
    ·intro s g w hsp hsb hD a hf
     obtain ⟨b13, b14⟩ := g
     rcases hD with (⟨h8_, h9_, h10_, h11_, hD⟩ | ⟨h8_, h9_, h10_, h11_, hD⟩ | ⟨h8_, h9_, h10_, h11_, hD⟩ | ⟨h8_, h9_, h10_, h11_, hD⟩ | ⟨h8_, h9_, h10_, h11_, hD⟩ | ⟨h8_, h9_, h10_, h11_, hD⟩)
     ·have hS : St w0 w noX [] [pt b7 (Cs #[Iv x1, Iv x2] 23), pt b6 (Cs #[Iv 0, Iv 0] 23), pt b5 (Cs #[Iv x1, Iv x2] 23)] := hD; clear hD
      replace hf : Fr a 55 [] [(23, Iv x1), (24, Iv x3), (1, Iv x3), (2, Iv x4), (3, Pv b5 0), (6, Pv b6 0), (7, Iv 0)] := hf
      refine O.callR hf rfl rfl rfl (RunE.call (av := #[Iv x1, Iv x3]) C_ok_26 rfl rfl rfl) (m_span_times_ok F x1 x3 _ x11 hx11) ?_
      clear hf a; rintro _ w hS1 a hf
      replace hf : Fr a _ _ ((25, .agg #[Iv x11.1, Uv x11.2]) :: _) := hf
      replace hS := (hS.call hS1).eqM (N := [pt b7 (Cs #[Iv x1, Iv x2] 23), pt b6 (Cs #[Iv 0, Iv 0] 23), pt b5 (Cs #[Iv x1, Iv x2] 23)]) rfl
      clear hS1
      exact O.nil ⟨rfl, hf.to trivial, (fun d hd => by cases (show some 25 = some d from hd); exact hf.get _ _ rfl), (Or.inl ⟨h8_, h9_, h10_, h11_, hS⟩)⟩
     ·have hS : St w0 w noX [] [pt b13 (Cs #[Iv 0, Uv 0] 64), pt b7 (Cs #[Iv x1, Iv x2] 23), pt b6 (Cs #[Iv 0, Iv 0] 23), pt b5 (Cs #[Iv x1, Iv x2] 23)] := hD; clear hD
      replace hf : Fr a 55 [] [(23, Iv x1), (24, Iv x3), (1, Iv x3), (2, Iv x4), (3, Pv b5 0), (6, Pv b6 0), (7, Iv 0)] := hf
      refine O.callR hf rfl rfl rfl (RunE.call (av := #[Iv x1, Iv x3]) C_ok_26 rfl rfl rfl) (m_span_times_ok F x1 x3 _ x11 hx11) ?_
      clear hf a; rintro _ w hS1 a hf
      replace hf : Fr a _ _ ((25, .agg #[Iv x11.1, Uv x11.2]) :: _) := hf
      replace hS := (hS.call hS1).eqM (N := [pt b13 (Cs #[Iv 0, Uv 0] 64), pt b7 (Cs #[Iv x1, Iv x2] 23), pt b6 (Cs #[Iv 0, Iv 0] 23), pt b5 (Cs #[Iv x1, Iv x2] 23)]) rfl
      clear hS1
      exact O.nil ⟨rfl, hf.to trivial, (fun d hd => by cases (show some 25 = some d from hd); exact hf.get _ _ rfl), (Or.inr (Or.inl ⟨h8_, h9_, h10_, h11_, hS⟩))⟩
     ·have hS : St w0 w noX [] [pt b14 (Cs #[Iv 0, Uv 0] 64), pt b7 (Cs #[Iv x1, Iv x2] 23), pt b6 (Cs #[Iv 0, Iv 0] 23), pt b5 (Cs #[Iv x1, Iv x2] 23)] := hD; clear hD
      replace hf : Fr a 55 [] [(23, Iv x1), (24, Iv x3), (1, Iv x3), (2, Iv x4), (3, Pv b5 0), (6, Pv b6 0), (7, Iv 0)] := hf
      refine O.callR hf rfl rfl rfl (RunE.call (av := #[Iv x1, Iv x3]) C_ok_26 rfl rfl rfl) (m_span_times_ok F x1 x3 _ x11 hx11) ?_
      clear hf a; rintro _ w hS1 a hf
      replace hf : Fr a _ _ ((25, .agg #[Iv x11.1, Uv x11.2]) :: _) := hf
      replace hS := (hS.call hS1).eqM (N := [pt b14 (Cs #[Iv 0, Uv 0] 64), pt b7 (Cs #[Iv x1, Iv x2] 23), pt b6 (Cs #[Iv 0, Iv 0] 23), pt b5 (Cs #[Iv x1, Iv x2] 23)]) rfl
      clear hS1
      exact O.nil ⟨rfl, hf.to trivial, (fun d hd => by cases (show some 25 = some d from hd); exact hf.get _ _ rfl), (Or.inr (Or.inr (Or.inl ⟨h8_, h9_, h10_, h11_, hS⟩)))⟩
     ·have hS : St w0 w noX [] [pt b14 (Cs #[Iv 0, Uv 0] 64), pt b13 (Cs #[Iv 0, Uv 0] 64), pt b7 (Cs #[Iv x1, Iv x2] 23), pt b6 (Cs #[Iv 0, Iv 0] 23), pt b5 (Cs #[Iv x1, Iv x2] 23)] := hD; clear hD
      replace hf : Fr a 55 [] [(23, Iv x1), (24, Iv x3), (1, Iv x3), (2, Iv x4), (3, Pv b5 0), (6, Pv b6 0), (7, Iv 0)] := hf
      refine O.callR hf rfl rfl rfl (RunE.call (av := #[Iv x1, Iv x3]) C_ok_26 rfl rfl rfl) (m_span_times_ok F x1 x3 _ x11 hx11) ?_
      clear hf a; rintro _ w hS1 a hf
      replace hf : Fr a _ _ ((25, .agg #[Iv x11.1, Uv x11.2]) :: _) := hf
      replace hS := (hS.call hS1).eqM (N := [pt b14 (Cs #[Iv 0, Uv 0] 64), pt b13 (Cs #[Iv 0, Uv 0] 64), pt b7 (Cs #[Iv x1, Iv x2] 23), pt b6 (Cs #[Iv 0, Iv 0] 23), pt b5 (Cs #[Iv x1, Iv x2] 23)]) rfl
      clear hS1
      exact O.nil ⟨rfl, hf.to trivial, (fun d hd => by cases (show some 25 = some d from hd); exact hf.get _ _ rfl), (Or.inr (Or.inr (Or.inr (Or.inl ⟨h8_, h9_, h10_, h11_, hS⟩))))⟩
     ·exact absurd ((hsb 10 (by simp)).symm.trans h10_) (by decide)
     ·exact absurd ((hsb 10 (by simp)).symm.trans h10_) (by decide)
    ·intro s g w hsp hsb hD a hf
     obtain ⟨b13, b14⟩ := g
     rcases hD with (⟨h8_, h9_, h10_, h11_, hD⟩ | ⟨h8_, h9_, h10_, h11_, hD⟩ | ⟨h8_, h9_, h10_, h11_, hD⟩ | ⟨h8_, h9_, h10_, h11_, hD⟩ | ⟨h8_, h9_, h10_, h11_, hD⟩ | ⟨h8_, h9_, h10_, h11_, hD⟩)
     ·have hS : St w0 w noX [] [pt b7 (Cs #[Iv x1, Iv x2] 23), pt b6 (Cs #[Iv 0, Iv 0] 23), pt b5 (Cs #[Iv x1, Iv x2] 23)] := hD; clear hD
      replace hf : Fr a 55 [] [(1, Iv x3), (2, Iv x4), (3, Pv b5 0), (6, Pv b6 0), (7, Iv 0)] := hf
      refine O.val hf rfl rfl rfl (RunV.field T_field_23_1 rfl rfl) ?_; clear hf a; intro a hf
      exact O.nil ⟨rfl, hf.to trivial, (fun d hd => by cases (show some 26 = some d from hd); exact hf.get _ _ rfl), (Or.inl ⟨h8_, h9_, h10_, h11_, hS⟩)⟩
     ·have hS : St w0 w noX [] [pt b13 (Cs #[Iv 0, Uv 0] 64), pt b7 (Cs #[Iv x1, Iv x2] 23), pt b6 (Cs #[Iv 0, Iv 0] 23), pt b5 (Cs #[Iv x1, Iv x2] 23)] := hD; clear hD
      replace hf : Fr a 55 [] [(1, Iv x3), (2, Iv x4), (3, Pv b5 0), (6, Pv b6 0), (7, Iv 0)] := hf
      refine O.val hf rfl rfl rfl (RunV.field T_field_23_1 rfl rfl) ?_; clear hf a; intro a hf
      exact O.nil ⟨rfl, hf.to trivial, (fun d hd => by cases (show some 26 = some d from hd); exact hf.get _ _ rfl), (Or.inr (Or.inl ⟨h8_, h9_, h10_, h11_, hS⟩))⟩
     ·have hS : St w0 w noX [] [pt b14 (Cs #[Iv 0, Uv 0] 64), pt b7 (Cs #[Iv x1, Iv x2] 23), pt b6 (Cs #[Iv 0, Iv 0] 23), pt b5 (Cs #[Iv x1, Iv x2] 23)] := hD; clear hD
      replace hf : Fr a 55 [] [(1, Iv x3), (2, Iv x4), (3, Pv b5 0), (6, Pv b6 0), (7, Iv 0)] := hf
      refine O.val hf rfl rfl rfl (RunV.field T_field_23_1 rfl rfl) ?_; clear hf a; intro a hf
      exact O.nil ⟨rfl, hf.to trivial, (fun d hd => by cases (show some 26 = some d from hd); exact hf.get _ _ rfl), (Or.inr (Or.inr (Or.inl ⟨h8_, h9_, h10_, h11_, hS⟩)))⟩
     ·have hS : St w0 w noX [] [pt b14 (Cs #[Iv 0, Uv 0] 64), pt b13 (Cs #[Iv 0, Uv 0] 64), pt b7 (Cs #[Iv x1, Iv x2] 23), pt b6 (Cs #[Iv 0, Iv 0] 23), pt b5 (Cs #[Iv x1, Iv x2] 23)] := hD; clear hD
      replace hf : Fr a 55 [] [(1, Iv x3), (2, Iv x4), (3, Pv b5 0), (6, Pv b6 0), (7, Iv 0)] := hf
      refine O.val hf rfl rfl rfl (RunV.field T_field_23_1 rfl rfl) ?_; clear hf a; intro a hf
      exact O.nil ⟨rfl, hf.to trivial, (fun d hd => by cases (show some 26 = some d from hd); exact hf.get _ _ rfl), (Or.inr (Or.inr (Or.inr (Or.inl ⟨h8_, h9_, h10_, h11_, hS⟩))))⟩
     ·exact absurd ((hsb 10 (by simp)).symm.trans h10_) (by decide)
     ·exact absurd ((hsb 10 (by simp)).symm.trans h10_) (by decide)
    ·intro s g w hsp hsb hD a hf
     obtain ⟨b13, b14⟩ := g
     rcases hD with (⟨h8_, h9_, h10_, h11_, hD⟩ | ⟨h8_, h9_, h10_, h11_, hD⟩ | ⟨h8_, h9_, h10_, h11_, hD⟩ | ⟨h8_, h9_, h10_, h11_, hD⟩ | ⟨h8_, h9_, h10_, h11_, hD⟩ | ⟨h8_, h9_, h10_, h11_, hD⟩)
     ·have hS : St w0 w noX [] [pt b7 (Cs #[Iv x1, Iv x2] 23), pt b6 (Cs #[Iv 0, Iv 0] 23), pt b5 (Cs #[Iv x1, Iv x2] 23)] := hD; clear hD
      replace hf : Fr a 55 [] [(26, Pv b5 1), (1, Iv x3), (2, Iv x4), (3, Pv b5 0), (6, Pv b6 0), (7, Iv 0)] := hf
      refine O.val hf rfl rfl rfl (RunV.load1 T_agg_2 rfl (hS.ptAt (i := 2) rfl) rfl) ?_; clear hf a; intro a hf
      exact O.nil ⟨rfl, hf.to trivial, (fun d hd => by cases (show some 27 = some d from hd); exact hf.get _ _ rfl), (Or.inl ⟨h8_, h9_, h10_, h11_, hS⟩)⟩
     ·have hS : St w0 w noX [] [pt b13 (Cs #[Iv 0, Uv 0] 64), pt b7 (Cs #[Iv x1, Iv x2] 23), pt b6 (Cs #[Iv 0, Iv 0] 23), pt b5 (Cs #[Iv x1, Iv x2] 23)] := hD; clear hD
      replace hf : Fr a 55 [] [(26, Pv b5 1), (1, Iv x3), (2, Iv x4), (3, Pv b5 0), (6, Pv b6 0), (7, Iv 0)] := hf
      refine O.val hf rfl rfl rfl (RunV.load1 T_agg_2 rfl (hS.ptAt (i := 3) rfl) rfl) ?_; clear hf a; intro a hf
      exact O.nil ⟨rfl, hf.to trivial, (fun d hd => by cases (show some 27 = some d from hd); exact hf.get _ _ rfl), (Or.inr (Or.inl ⟨h8_, h9_, h10_, h11_, hS⟩))⟩
     ·have hS : St w0 w noX [] [pt b14 (Cs #[Iv 0, Uv 0] 64), pt b7 (Cs #[Iv x1, Iv x2] 23), pt b6 (Cs #[Iv 0, Iv 0] 23), pt b5 (Cs #[Iv x1, Iv x2] 23)] := hD; clear hD
      replace hf : Fr a 55 [] [(26, Pv b5 1), (1, Iv x3), (2, Iv x4), (3, Pv b5 0), (6, Pv b6 0), (7, Iv 0)] := hf
      refine O.val hf rfl rfl rfl (RunV.load1 T_agg_2 rfl (hS.ptAt (i := 3) rfl) rfl) ?_; clear hf a; intro a hf
      exact O.nil ⟨rfl, hf.to trivial, (fun d hd => by cases (show some 27 = some d from hd); exact hf.get _ _ rfl), (Or.inr (Or.inr (Or.inl ⟨h8_, h9_, h10_, h11_, hS⟩)))⟩
     ·have hS : St w0 w noX [] [pt b14 (Cs #[Iv 0, Uv 0] 64), pt b13 (Cs #[Iv 0, Uv 0] 64), pt b7 (Cs #[Iv x1, Iv x2] 23), pt b6 (Cs #[Iv 0, Iv 0] 23), pt b5 (Cs #[Iv x1, Iv x2] 23)] := hD; clear hD
      replace hf : Fr a 55 [] [(26, Pv b5 1), (1, Iv x3), (2, Iv x4), (3, Pv b5 0), (6, Pv b6 0), (7, Iv 0)] := hf
      refine O.val hf rfl rfl rfl (RunV.load1 T_agg_2 rfl (hS.ptAt (i := 4) rfl) rfl) ?_; clear hf a; intro a hf
      exact O.nil ⟨rfl, hf.to trivial, (fun d hd => by cases (show some 27 = some d from hd); exact hf.get _ _ rfl), (Or.inr (Or.inr (Or.inr (Or.inl ⟨h8_, h9_, h10_, h11_, hS⟩))))⟩
     ·exact absurd ((hsb 10 (by simp)).symm.trans h10_) (by decide)
     ·exact absurd ((hsb 10 (by simp)).symm.trans h10_) (by decide)
    ·intro s g w hsp hsb hD a hf
     obtain ⟨b13, b14⟩ := g
     rcases hD with (⟨h8_, h9_, h10_, h11_, hD⟩ | ⟨h8_, h9_, h10_, h11_, hD⟩ | ⟨h8_, h9_, h10_, h11_, hD⟩ | ⟨h8_, h9_, h10_, h11_, hD⟩ | ⟨h8_, h9_, h10_, h11_, hD⟩ | ⟨h8_, h9_, h10_, h11_, hD⟩)
     ·have hS : St w0 w noX [] [pt b7 (Cs #[Iv x1, Iv x2] 23), pt b6 (Cs #[Iv 0, Iv 0] 23), pt b5 (Cs #[Iv x1, Iv x2] 23)] := hD; clear hD
      replace hf : Fr a 55 [] [(1, Iv x3), (2, Iv x4), (3, Pv b5 0), (6, Pv b6 0), (7, Iv 0)] := hf
      refine O.val hf rfl rfl rfl (RunV.move rfl) ?_; clear hf a; intro a hf
      exact O.nil ⟨rfl, hf.to trivial, (fun d hd => by cases (show some 28 = some d from hd); exact hf.get _ _ rfl), (Or.inl ⟨h8_, h9_, h10_, h11_, hS⟩)⟩
     ·have hS : St w0 w noX [] [pt b13 (Cs #[Iv 0, Uv 0] 64), pt b7 (Cs #[Iv x1, Iv x2] 23), pt b6 (Cs #[Iv 0, Iv 0] 23), pt b5 (Cs #[Iv x1, Iv x2] 23)] := hD; clear hD
      replace hf : Fr a 55 [] [(1, Iv x3), (2, Iv x4), (3, Pv b5 0), (6, Pv b6 0), (7, Iv 0)] := hf
      refine O.val hf rfl rfl rfl (RunV.move rfl) ?_; clear hf a; intro a hf
      exact O.nil ⟨rfl, hf.to trivial, (fun d hd => by cases (show some 28 = some d from hd); exact hf.get _ _ rfl), (Or.inr (Or.inl ⟨h8_, h9_, h10_, h11_, hS⟩))⟩
     ·have hS : St w0 w noX [] [pt b14 (Cs #[Iv 0, Uv 0] 64), pt b7 (Cs #[Iv x1, Iv x2] 23), pt b6 (Cs #[Iv 0, Iv 0] 23), pt b5 (Cs #[Iv x1, Iv x2] 23)] := hD; clear hD
      replace hf : Fr a 55 [] [(1, Iv x3), (2, Iv x4), (3, Pv b5 0), (6, Pv b6 0), (7, Iv 0)] := hf
      refine O.val hf rfl rfl rfl (RunV.move rfl) ?_; clear hf a; intro a hf
      exact O.nil ⟨rfl, hf.to trivial, (fun d hd => by cases (show some 28 = some d from hd); exact hf.get _ _ rfl), (Or.inr (Or.inr (Or.inl ⟨h8_, h9_, h10_, h11_, hS⟩)))⟩
     ·have hS : St w0 w noX [] [pt b14 (Cs #[Iv 0, Uv 0] 64), pt b13 (Cs #[Iv 0, Uv 0] 64), pt b7 (Cs #[Iv x1, Iv x2] 23), pt b6 (Cs #[Iv 0, Iv 0] 23), pt b5 (Cs #[Iv x1, Iv x2] 23)] := hD; clear hD
      replace hf : Fr a 55 [] [(1, Iv x3), (2, Iv x4), (3, Pv b5 0), (6, Pv b6 0), (7, Iv 0)] := hf
      refine O.val hf rfl rfl rfl (RunV.move rfl) ?_; clear hf a; intro a hf
      exact O.nil ⟨rfl, hf.to trivial, (fun d hd => by cases (show some 28 = some d from hd); exact hf.get _ _ rfl), (Or.inr (Or.inr (Or.inr (Or.inl ⟨h8_, h9_, h10_, h11_, hS⟩))))⟩
     ·exact absurd ((hsb 10 (by simp)).symm.trans h10_) (by decide)
     ·exact absurd ((hsb 10 (by simp)).symm.trans h10_) (by decide)
    ·intro s g w hsp hsb hD a hf
     obtain ⟨b13, b14⟩ := g
     rcases hD with (⟨h8_, h9_, h10_, h11_, hD⟩ | ⟨h8_, h9_, h10_, h11_, hD⟩ | ⟨h8_, h9_, h10_, h11_, hD⟩ | ⟨h8_, h9_, h10_, h11_, hD⟩ | ⟨h8_, h9_, h10_, h11_, hD⟩ | ⟨h8_, h9_, h10_, h11_, hD⟩)
     ·have hS : St w0 w noX [] [pt b7 (Cs #[Iv x1, Iv x2] 23), pt b6 (Cs #[Iv 0, Iv 0] 23), pt b5 (Cs #[Iv x1, Iv x2] 23)] := hD; clear hD
      replace hf : Fr a 55 [] [(25, .agg #[Iv x11.1, Uv x11.2]), (27, Iv x2), (28, Iv x3), (1, Iv x3), (2, Iv x4), (3, Pv b5 0), (6, Pv b6 0), (7, Iv 0)] := hf
      refine O.callR hf rfl rfl rfl (RunE.call (av := #[Iv x2, Iv x3]) C_ok_26 rfl rfl rfl) (m_span_times_ok F x2 x3 _ x12 hx12) ?_
      clear hf a; rintro _ w hS1 a hf
      replace hf : Fr a _ _ ((29, .agg #[Iv x12.1, Uv x12.2]) :: _) := hf
      replace hS := (hS.call hS1).eqM (N := [pt b7 (Cs #[Iv x1, Iv x2] 23), pt b6 (Cs #[Iv 0, Iv 0] 23), pt b5 (Cs #[Iv x1, Iv x2] 23)]) rfl
      clear hS1
      exact O.nil ⟨rfl, hf.to trivial, (fun d hd => by cases (show some 29 = some d from hd); exact hf.get _ _ rfl), (Or.inl ⟨h8_, h9_, h10_, h11_, hS⟩)⟩
     ·have hS : St w0 w noX [] [pt b13 (Cs #[Iv 0, Uv 0] 64), pt b7 (Cs #[Iv x1, Iv x2] 23), pt b6 (Cs #[Iv 0, Iv 0] 23), pt b5 (Cs #[Iv x1, Iv x2] 23)] := hD; clear hD
      replace hf : Fr a 55 [] [(25, .agg #[Iv x11.1, Uv x11.2]), (27, Iv x2), (28, Iv x3), (1, Iv x3), (2, Iv x4), (3, Pv b5 0), (6, Pv b6 0), (7, Iv 0)] := hf
      refine O.callR hf rfl rfl rfl (RunE.call (av := #[Iv x2, Iv x3]) C_ok_26 rfl rfl rfl) (m_span_times_ok F x2 x3 _ x12 hx12) ?_
      clear hf a; rintro _ w hS1 a hf
      replace hf : Fr a _ _ ((29, .agg #[Iv x12.1, Uv x12.2]) :: _) := hf
      replace hS := (hS.call hS1).eqM (N := [pt b13 (Cs #[Iv 0, Uv 0] 64), pt b7 (Cs #[Iv x1, Iv x2] 23), pt b6 (Cs #[Iv 0, Iv 0] 23), pt b5 (Cs #[Iv x1, Iv x2] 23)]) rfl
      clear hS1
      exact O.nil ⟨rfl, hf.to trivial, (fun d hd => by cases (show some 29 = some d from hd); exact hf.get _ _ rfl), (Or.inr (Or.inl ⟨h8_, h9_, h10_, h11_, hS⟩))⟩
     ·have hS : St w0 w noX [] [pt b14 (Cs #[Iv 0, Uv 0] 64), pt b7 (Cs #[Iv x1, Iv x2] 23), pt b6 (Cs #[Iv 0, Iv 0] 23), pt b5 (Cs #[Iv x1, Iv x2] 23)] := hD; clear hD
      replace hf : Fr a 55 [] [(25, .agg #[Iv x11.1, Uv x11.2]), (27, Iv x2), (28, Iv x3), (1, Iv x3), (2, Iv x4), (3, Pv b5 0), (6, Pv b6 0), (7, Iv 0)] := hf
      refine O.callR hf rfl rfl rfl (RunE.call (av := #[Iv x2, Iv x3]) C_ok_26 rfl rfl rfl) (m_span_times_ok F x2 x3 _ x12 hx12) ?_
      clear hf a; rintro _ w hS1 a hf
      replace hf : Fr a _ _ ((29, .agg #[Iv x12.1, Uv x12.2]) :: _) := hf
      replace hS := (hS.call hS1).eqM (N := [pt b14 (Cs #[Iv 0, Uv 0] 64), pt b7 (Cs #[Iv x1, Iv x2] 23), pt b6 (Cs #[Iv 0, Iv 0] 23), pt b5 (Cs #[Iv x1, Iv x2] 23)]) rfl
      clear hS1
      exact O.nil ⟨rfl, hf.to trivial, (fun d hd => by cases (show some 29 = some d from hd); exact hf.get _ _ rfl), (Or.inr (Or.inr (Or.inl ⟨h8_, h9_, h10_, h11_, hS⟩)))⟩
     ·have hS : St w0 w noX [] [pt b14 (Cs #[Iv 0, Uv 0] 64), pt b13 (Cs #[Iv 0, Uv 0] 64), pt b7 (Cs #[Iv x1, Iv x2] 23), pt b6 (Cs #[Iv 0, Iv 0] 23), pt b5 (Cs #[Iv x1, Iv x2] 23)] := hD; clear hD
      replace hf : Fr a 55 [] [(25, .agg #[Iv x11.1, Uv x11.2]), (27, Iv x2), (28, Iv x3), (1, Iv x3), (2, Iv x4), (3, Pv b5 0), (6, Pv b6 0), (7, Iv 0)] := hf
      refine O.callR hf rfl rfl rfl (RunE.call (av := #[Iv x2, Iv x3]) C_ok_26 rfl rfl rfl) (m_span_times_ok F x2 x3 _ x12 hx12) ?_
      clear hf a; rintro _ w hS1 a hf
      replace hf : Fr a _ _ ((29, .agg #[Iv x12.1, Uv x12.2]) :: _) := hf
      replace hS := (hS.call hS1).eqM (N := [pt b14 (Cs #[Iv 0, Uv 0] 64), pt b13 (Cs #[Iv 0, Uv 0] 64), pt b7 (Cs #[Iv x1, Iv x2] 23), pt b6 (Cs #[Iv 0, Iv 0] 23), pt b5 (Cs #[Iv x1, Iv x2] 23)]) rfl
      clear hS1
      exact O.nil ⟨rfl, hf.to trivial, (fun d hd => by cases (show some 29 = some d from hd); exact hf.get _ _ rfl), (Or.inr (Or.inr (Or.inr (Or.inl ⟨h8_, h9_, h10_, h11_, hS⟩))))⟩
     ·exact absurd ((hsb 10 (by simp)).symm.trans h10_) (by decide)
     ·exact absurd ((hsb 10 (by simp)).symm.trans h10_) (by decide)
   ·clear hf hf1 hS
    refine ⟨?_, ?_, ?_, ?_, trivial⟩
    ·intro s g w hs0 hsp hsb hD a hf
     obtain ⟨b13, b14⟩ := g
     rcases hD with (⟨h8_, h9_, h10_, h11_, hD⟩ | ⟨h8_, h9_, h10_, h11_, hD⟩ | ⟨h8_, h9_, h10_, h11_, hD⟩ | ⟨h8_, h9_, h10_, h11_, hD⟩ | ⟨h8_, h9_, h10_, h11_, hD⟩ | ⟨h8_, h9_, h10_, h11_, hD⟩)
     ·have hS : St w0 w noX [] [pt b7 (Cs #[Iv x1, Iv x2] 23), pt b6 (Cs #[Iv 0, Iv 0] 23), pt b5 (Cs #[Iv x1, Iv x2] 23)] := hD; clear hD
      replace hf : Fr a 55 [] [(1, Iv x3), (2, Iv x4), (3, Pv b5 0), (6, Pv b6 0), (7, Iv 0)] := hf
      refine O.alloc (cs := #[Iv 0, Uv 0]) hf hS rfl rfl T_zero_64 rfl ?_
      clear hf hS a; intro b13 w a hb13 hS hf
      exact O.nil ⟨rfl, (b13, b14), hf.to trivial, (fun d hd => by cases (show some 9 = some d from hd); exact hf.get _ _ rfl), (fun j hj hk => match j, hj, hk with | 0, hj, hk => rfl | 1, hj, hk => rfl | 2, hj, hk => rfl | 3, hj, hk => rfl | 4, hj, hk => rfl | 5, hj, hk => rfl | 6, hj, hk => rfl | 7, hj, hk => rfl | 8, hj, hk => absurd rfl hj | 9, hj, hk => rfl | 10, hj, hk => absurd hk (by decide) | 11, hj, hk => absurd hk (by decide) | _ + 12, _, _ => rfl), (Or.inr (Or.inl ⟨rfl, h9_, h10_, h11_, hS⟩))⟩
     ·exact absurd (hs0.symm.trans h8_) (by decide)
     ·have hS : St w0 w noX [] [pt b14 (Cs #[Iv 0, Uv 0] 64), pt b7 (Cs #[Iv x1, Iv x2] 23), pt b6 (Cs #[Iv 0, Iv 0] 23), pt b5 (Cs #[Iv x1, Iv x2] 23)] := hD; clear hD
      replace hf : Fr a 55 [] [(1, Iv x3), (2, Iv x4), (3, Pv b5 0), (6, Pv b6 0), (7, Iv 0)] := hf
      refine O.alloc (cs := #[Iv 0, Uv 0]) hf hS rfl rfl T_zero_64 rfl ?_
      clear hf hS a; intro b13 w a hb13 hS hf
      replace hS := hS.front (i := 4) (M' := [pt b5 (Cs #[Iv x1, Iv x2] 23), pt b13 (Cs #[Iv 0, Uv 0] 64), pt b14 (Cs #[Iv 0, Uv 0] 64), pt b7 (Cs #[Iv x1, Iv x2] 23), pt b6 (Cs #[Iv 0, Iv 0] 23)]) rfl rfl
      replace hS := hS.front (i := 4) (M' := [pt b6 (Cs #[Iv 0, Iv 0] 23), pt b5 (Cs #[Iv x1, Iv x2] 23), pt b13 (Cs #[Iv 0, Uv 0] 64), pt b14 (Cs #[Iv 0, Uv 0] 64), pt b7 (Cs #[Iv x1, Iv x2] 23)]) rfl rfl
      replace hS := hS.front (i := 4) (M' := [pt b7 (Cs #[Iv x1, Iv x2] 23), pt b6 (Cs #[Iv 0, Iv 0] 23), pt b5 (Cs #[Iv x1, Iv x2] 23), pt b13 (Cs #[Iv 0, Uv 0] 64), pt b14 (Cs #[Iv 0, Uv 0] 64)]) rfl rfl
      replace hS := hS.front (i := 3) (M' := [pt b13 (Cs #[Iv 0, Uv 0] 64), pt b7 (Cs #[Iv x1, Iv x2] 23), pt b6 (Cs #[Iv 0, Iv 0] 23), pt b5 (Cs #[Iv x1, Iv x2] 23), pt b14 (Cs #[Iv 0, Uv 0] 64)]) rfl rfl
      replace hS := hS.front (i := 4) (M' := [pt b14 (Cs #[Iv 0, Uv 0] 64), pt b13 (Cs #[Iv 0, Uv 0] 64), pt b7 (Cs #[Iv x1, Iv x2] 23), pt b6 (Cs #[Iv 0, Iv 0] 23), pt b5 (Cs #[Iv x1, Iv x2] 23)]) rfl rfl
      exact O.nil ⟨rfl, (b13, b14), hf.to trivial, (fun d hd => by cases (show some 9 = some d from hd); exact hf.get _ _ rfl), (fun j hj hk => match j, hj, hk with | 0, hj, hk => rfl | 1, hj, hk => rfl | 2, hj, hk => rfl | 3, hj, hk => rfl | 4, hj, hk => rfl | 5, hj, hk => rfl | 6, hj, hk => rfl | 7, hj, hk => rfl | 8, hj, hk => absurd rfl hj | 9, hj, hk => rfl | 10, hj, hk => absurd hk (by decide) | 11, hj, hk => absurd hk (by decide) | _ + 12, _, _ => rfl), (Or.inr (Or.inr (Or.inr (Or.inl ⟨rfl, h9_, h10_, h11_, hS⟩))))⟩
     ·exact absurd (hs0.symm.trans h8_) (by decide)
     ·exact absurd (hs0.symm.trans h8_) (by decide)
     ·exact absurd (hs0.symm.trans h8_) (by decide)
    ·intro s g w hs0 hsp hsb hD a hf
     obtain ⟨b13, b14⟩ := g
     rcases hD with (⟨h8_, h9_, h10_, h11_, hD⟩ | ⟨h8_, h9_, h10_, h11_, hD⟩ | ⟨h8_, h9_, h10_, h11_, hD⟩ | ⟨h8_, h9_, h10_, h11_, hD⟩ | ⟨h8_, h9_, h10_, h11_, hD⟩ | ⟨h8_, h9_, h10_, h11_, hD⟩)
     ·have hS : St w0 w noX [] [pt b7 (Cs #[Iv x1, Iv x2] 23), pt b6 (Cs #[Iv 0, Iv 0] 23), pt b5 (Cs #[Iv x1, Iv x2] 23)] := hD; clear hD
      replace hf : Fr a 55 [] [(1, Iv x3), (2, Iv x4), (3, Pv b5 0), (6, Pv b6 0), (7, Iv 0)] := hf
      refine O.alloc (cs := #[Iv 0, Uv 0]) hf hS rfl rfl T_zero_64 rfl ?_
      clear hf hS a; intro b14 w a hb14 hS hf
      exact O.nil ⟨rfl, (b13, b14), hf.to trivial, (fun d hd => by cases (show some 10 = some d from hd); exact hf.get _ _ rfl), (fun j hj hk => match j, hj, hk with | 0, hj, hk => rfl | 1, hj, hk => rfl | 2, hj, hk => rfl | 3, hj, hk => rfl | 4, hj, hk => rfl | 5, hj, hk => rfl | 6, hj, hk => rfl | 7, hj, hk => rfl | 8, hj, hk => rfl | 9, hj, hk => absurd rfl hj | 10, hj, hk => absurd hk (by decide) | 11, hj, hk => absurd hk (by decide) | _ + 12, _, _ => rfl), (Or.inr (Or.inr (Or.inl ⟨h8_, rfl, h10_, h11_, hS⟩)))⟩
     ·have hS : St w0 w noX [] [pt b13 (Cs #[Iv 0, Uv 0] 64), pt b7 (Cs #[Iv x1, Iv x2] 23), pt b6 (Cs #[Iv 0, Iv 0] 23), pt b5 (Cs #[Iv x1, Iv x2] 23)] := hD; clear hD
      replace hf : Fr a 55 [] [(1, Iv x3), (2, Iv x4), (3, Pv b5 0), (6, Pv b6 0), (7, Iv 0)] := hf
      refine O.alloc (cs := #[Iv 0, Uv 0]) hf hS rfl rfl T_zero_64 rfl ?_
      clear hf hS a; intro b14 w a hb14 hS hf
      exact O.nil ⟨rfl, (b13, b14), hf.to trivial, (fun d hd => by cases (show some 10 = some d from hd); exact hf.get _ _ rfl), (fun j hj hk => match j, hj, hk with | 0, hj, hk => rfl | 1, hj, hk => rfl | 2, hj, hk => rfl | 3, hj, hk => rfl | 4, hj, hk => rfl | 5, hj, hk => rfl | 6, hj, hk => rfl | 7, hj, hk => rfl | 8, hj, hk => rfl | 9, hj, hk => absurd rfl hj | 10, hj, hk => absurd hk (by decide) | 11, hj, hk => absurd hk (by decide) | _ + 12, _, _ => rfl), (Or.inr (Or.inr (Or.inr (Or.inl ⟨h8_, rfl, h10_, h11_, hS⟩))))⟩
     ·exact absurd (hs0.symm.trans h9_) (by decide)
     ·exact absurd (hs0.symm.trans h9_) (by decide)
     ·exact absurd (hs0.symm.trans h9_) (by decide)
     ·exact absurd (hs0.symm.trans h9_) (by decide)
    ·intro s g w hs0 hsp hsb hD a hf
     obtain ⟨b13, b14⟩ := g
     rcases hD with (⟨h8_, h9_, h10_, h11_, hD⟩ | ⟨h8_, h9_, h10_, h11_, hD⟩ | ⟨h8_, h9_, h10_, h11_, hD⟩ | ⟨h8_, h9_, h10_, h11_, hD⟩ | ⟨h8_, h9_, h10_, h11_, hD⟩ | ⟨h8_, h9_, h10_, h11_, hD⟩)
     ·exact absurd ((hsp 8 (by simp)).symm.trans h8_) (by decide)
     ·exact absurd ((hsp 9 (by simp)).symm.trans h9_) (by decide)
     ·exact absurd ((hsp 8 (by simp)).symm.trans h8_) (by decide)
     ·have hS : St w0 w noX [] [pt b14 (Cs #[Iv 0, Uv 0] 64), pt b13 (Cs #[Iv 0, Uv 0] 64), pt b7 (Cs #[Iv x1, Iv x2] 23), pt b6 (Cs #[Iv 0, Iv 0] 23), pt b5 (Cs #[Iv x1, Iv x2] 23)] := hD; clear hD
      replace hf : Fr a 55 [] [(22, Pv b5 0), (23, Iv x1), (24, Iv x3), (25, .agg #[Iv x11.1, Uv x11.2]), (29, .agg #[Iv x12.1, Uv x12.2]), (9, Pv b13 0), (10, Pv b14 0), (1, Iv x3), (2, Iv x4), (3, Pv b5 0), (6, Pv b6 0), (7, Iv 0)] := hf
      refine O.store (j := 1) (cs' := #[Iv x11.1, Uv x11.2]) (M' := [pt b14 (Cs #[Iv 0, Uv 0] 64), pt b13 (Cs #[Iv x11.1, Uv x11.2] 64), pt b7 (Cs #[Iv x1, Iv x2] 23), pt b6 (Cs #[Iv 0, Iv 0] 23), pt b5 (Cs #[Iv x1, Iv x2] 23)]) hf hS rfl rfl rfl T_size_64 rfl rfl rfl (Nat.le_of_ble_eq_true rfl) rfl rfl ?_
      clear hS; intro w hS
      exact O.nil ⟨rfl, (b13, b14), hf.to trivial, (fun d hd => by cases (show none = some d from hd)), (fun j hj hk => match j, hj, hk with | 0, hj, hk => rfl | 1, hj, hk => rfl | 2, hj, hk => rfl | 3, hj, hk => rfl | 4, hj, hk => rfl | 5, hj, hk => rfl | 6, hj, hk => rfl | 7, hj, hk => rfl | 8, hj, hk => rfl | 9, hj, hk => rfl | 10, hj, hk => absurd rfl hj | 11, hj, hk => absurd hk (by decide) | _ + 12, _, _ => rfl), (Or.inr (Or.inr (Or.inr (Or.inr (Or.inl ⟨h8_, h9_, rfl, h11_, hS⟩)))))⟩
     ·exact absurd (hs0.symm.trans h10_) (by decide)
     ·exact absurd (hs0.symm.trans h10_) (by decide)
    ·intro s g w hs0 hsp hsb hD a hf
     obtain ⟨b13, b14⟩ := g
     rcases hD with (⟨h8_, h9_, h10_, h11_, hD⟩ | ⟨h8_, h9_, h10_, h11_, hD⟩ | ⟨h8_, h9_, h10_, h11_, hD⟩ | ⟨h8_, h9_, h10_, h11_, hD⟩ | ⟨h8_, h9_, h10_, h11_, hD⟩ | ⟨h8_, h9_, h10_, h11_, hD⟩)
     ·exact absurd ((hsp 8 (by simp)).symm.trans h8_) (by decide)
     ·exact absurd ((hsp 9 (by simp)).symm.trans h9_) (by decide)
     ·exact absurd ((hsp 8 (by simp)).symm.trans h8_) (by decide)
     ·exact absurd ((hsp 10 (by simp)).symm.trans h10_) (by decide)
     ·have hS : St w0 w noX [] [pt b14 (Cs #[Iv 0, Uv 0] 64), pt b13 (Cs #[Iv x11.1, Uv x11.2] 64), pt b7 (Cs #[Iv x1, Iv x2] 23), pt b6 (Cs #[Iv 0, Iv 0] 23), pt b5 (Cs #[Iv x1, Iv x2] 23)] := hD; clear hD
      replace hf : Fr a 55 [] [(22, Pv b5 0), (23, Iv x1), (24, Iv x3), (25, .agg #[Iv x11.1, Uv x11.2]), (26, Pv b5 1), (27, Iv x2), (28, Iv x3), (29, .agg #[Iv x12.1, Uv x12.2]), (9, Pv b13 0), (10, Pv b14 0), (1, Iv x3), (2, Iv x4), (3, Pv b5 0), (6, Pv b6 0), (7, Iv 0)] := hf
      refine O.store (j := 0) (cs' := #[Iv x12.1, Uv x12.2]) (M' := [pt b14 (Cs #[Iv x12.1, Uv x12.2] 64), pt b13 (Cs #[Iv x11.1, Uv x11.2] 64), pt b7 (Cs #[Iv x1, Iv x2] 23), pt b6 (Cs #[Iv 0, Iv 0] 23), pt b5 (Cs #[Iv x1, Iv x2] 23)]) hf hS rfl rfl rfl T_size_64 rfl rfl rfl (Nat.le_of_ble_eq_true rfl) rfl rfl ?_
      clear hS; intro w hS
      exact O.nil ⟨rfl, (b13, b14), hf.to trivial, (fun d hd => by cases (show none = some d from hd)), (fun j hj hk => match j, hj, hk with | 0, hj, hk => rfl | 1, hj, hk => rfl | 2, hj, hk => rfl | 3, hj, hk => rfl | 4, hj, hk => rfl | 5, hj, hk => rfl | 6, hj, hk => rfl | 7, hj, hk => rfl | 8, hj, hk => rfl | 9, hj, hk => rfl | 10, hj, hk => rfl | 11, hj, hk => absurd rfl hj | _ + 12, _, _ => rfl), (Or.inr (Or.inr (Or.inr (Or.inr (Or.inr ⟨h8_, h9_, h10_, rfl, hS⟩)))))⟩
     ·exact absurd (hs0.symm.trans h11_) (by decide)
   clear hf hf1 hS; intro s g a w hs hf hD
   obtain ⟨b13, b14⟩ := g
   rcases hD with (⟨h8_, h9_, h10_, h11_, hD⟩ | ⟨h8_, h9_, h10_, h11_, hD⟩ | ⟨h8_, h9_, h10_, h11_, hD⟩ | ⟨h8_, h9_, h10_, h11_, hD⟩ | ⟨h8_, h9_, h10_, h11_, hD⟩ | ⟨h8_, h9_, h10_, h11_, hD⟩)
   · exact absurd ((hs 8 (by simp)).symm.trans h8_) (by decide)
   · exact absurd ((hs 9 (by simp)).symm.trans h9_) (by decide)
   · exact absurd ((hs 8 (by simp)).symm.trans h8_) (by decide)
   · exact absurd ((hs 10 (by simp)).symm.trans h10_) (by decide)
   · exact absurd ((hs 11 (by simp)).symm.trans h11_) (by decide)
   have hS : St w0 w noX [] [pt b14 (Cs #[Iv x12.1, Uv x12.2] 64), pt b13 (Cs #[Iv x11.1, Uv x11.2] 64), pt b7 (Cs #[Iv x1, Iv x2] 23), pt b6 (Cs #[Iv 0, Iv 0] 23), pt b5 (Cs #[Iv x1, Iv x2] 23)] := hD; clear hD
   replace hf : Fr a 55 [] [(22, Pv b5 0), (23, Iv x1), (24, Iv x3), (25, .agg #[Iv x11.1, Uv x11.2]), (26, Pv b5 1), (27, Iv x2), (28, Iv x3), (29, .agg #[Iv x12.1, Uv x12.2]), (9, Pv b13 0), (10, Pv b14 0), (1, Iv x3), (2, Iv x4), (3, Pv b5 0), (6, Pv b6 0), (7, Iv 0)] := hf
   refine k_seq ?_
   replace hf : Fr a 55 [] [(2, Iv x4), (6, Pv b6 0), (7, Iv 0), (9, Pv b13 0), (10, Pv b14 0)] := hf.to ⟨rfl, rfl, rfl, rfl, rfl, trivial⟩
   refine W.seq ?_
   -- region 7
   refine W.regionL (l := [0, 1, 2]) rfl ?_
   refine O.val hf rfl rfl rfl (RunV.move rfl) ?_; clear hf a; intro a hf
   refine O.val (v := Uv (IntKind.u64.wrap x4)) hf rfl rfl rfl (RunV.conv T_und_2 T_int_62 rfl) ?_; clear hf a; intro a hf
   refine O.val hf rfl rfl rfl (RunV.assign rfl) ?_; clear hf a; intro a hf
   refine O.nil ?_
   refine k_seq ?_
   replace hf : Fr a 55 [] [(2, Iv x4), (6, Pv b6 0), (7, Iv 0), (9, Pv b13 0), (10, Pv b14 0), (11, Uv (IntKind.u64.wrap x4))] := hf.to ⟨rfl, rfl, rfl, rfl, rfl, rfl, trivial⟩
   refine W.seqR (fun a w => ∃ (x15 : Int) (x16 : Int) (x17 : Int) (x18 : Int) (x19 : Int), Fr a 55 [] [(6, Pv b6 0), (7, Iv 0), (9, Pv b13 0), (10, Pv b14 0), (11, Uv x19)] ∧ St w0 w noX [] [pt b6 (Cs #[Iv 0, Iv 0] 23), pt b13 (Cs #[Iv x15, Uv x16] 64), pt b14 (Cs #[Iv x17, Uv x18] 64)] ∧ m_span_Scale_j1 F x15 x16 x17 x18 x19 = some r) ?_ ?_
   ·refine W.seq ?_
    -- region 8
    refine W.regionL (l := [0, 1]) rfl ?_
    refine O.val hf rfl rfl rfl (RunV.move rfl) ?_; clear hf a; intro a hf
    refine O.val (v := Bv (decide (x4 < (0 : Int)))) hf rfl rfl rfl (RunV.lss rfl rfl) ?_; clear hf a; intro a hf
    refine O.nil ?_
    refine k_seq ?_
    replace hf : Fr a 55 [] [(6, Pv b6 0), (7, Iv 0), (9, Pv b13 0), (10, Pv b14 0), (11, Uv (IntKind.u64.wrap x4)), (33, Bv (decide (x4 < (0 : Int))))] := hf.to ⟨rfl, rfl, rfl, rfl, rfl, rfl, trivial⟩
    refine W.ifdI hf rfl (fun hc27 => ?_) (fun hc27 => ?_)
    ·replace hm := hm_p hm hc27
     -- region 9, which draws its order
     -- [6, 7] turn memory
     have hf1 : Fr a 55 [] [(11, Uv (IntKind.u64.wrap x4))] := hf.to ⟨rfl, trivial⟩
     replace hf : Fr a 55 [] [(6, Pv b6 0), (7, Iv 0), (9, Pv b13 0), (10, Pv b14 0), (33, Bv (decide (x4 < (0 : Int))))] := hf.to ⟨rfl, rfl, rfl, rfl, rfl, trivial⟩
     obtain ⟨x28, hx28, hm⟩ := hm_b hm
     obtain ⟨x29, hx29, hm⟩ := hm_b hm
     refine W.drawP (γ := Unit) (L0 := [(6, Pv b6 0), (7, Iv 0), (9, Pv b13 0), (10, Pv b14 0), (33, Bv (decide (x4 < (0 : Int))))]) (L1 := [(11, Uv (IntKind.u64.wrap x4))]) () [6, 7] [0, 1, 2, 3, 4, 5, 8] (fun i => match i with | 0 => [] | 1 => [0] | 2 => [] | 3 => [1, 2] | 4 => [] | 5 => [4] | 6 => [0, 1, 3] | 7 => [0, 1, 2, 3, 6] | 8 => [0, 1, 2, 3, 4, 5, 6, 7] | _ => []) (fun i => match i with | 7 => [6] | 8 => [6, 7] | _ => []) (fun i => match i with | 0 => [6, 7] | 1 => [6, 7] | 2 => [6, 7] | 3 => [6, 7] | 6 => [7] | _ => []) (fun i => match i with | 6 => [7, 8] | 7 => [8] | _ => []) (fun i => match i with | 4 => [11] | _ => []) (fun (g : Unit) j => match g, j with | _, 0 => .agg #[Iv x11.1, Uv x11.2] | _, 1 => .agg #[Iv x28.1, Uv x28.2] | _, 2 => .agg #[Iv x12.1, Uv x12.2] | _, 3 => .agg #[Iv x29.1, Uv x29.2] | _, 4 => Uv (IntKind.u64.wrap x4) | _, 5 => Uv (IntKind.u64.wrap (0 - (IntKind.u64.wrap x4))) | _, 8 => Uv (IntKind.u64.wrap (0 - (IntKind.u64.wrap x4))) | _, _ => undef) (fun s (g : Unit) w => match g with | _ => (s 6 = false ∧ s 7 = false ∧ St w0 w noX [] [pt b14 (Cs #[Iv x12.1, Uv x12.2] 64), pt b13 (Cs #[Iv x11.1, Uv x11.2] 64), pt b7 (Cs #[Iv x1, Iv x2] 23), pt b6 (Cs #[Iv 0, Iv 0] 23), pt b5 (Cs #[Iv x1, Iv x2] 23)]) ∨ (s 6 = true ∧ s 7 = false ∧ St w0 w noX [] [pt b14 (Cs #[Iv x12.1, Uv x12.2] 64), pt b13 (Cs #[Iv x28.1, Uv x28.2] 64), pt b7 (Cs #[Iv x1, Iv x2] 23), pt b6 (Cs #[Iv 0, Iv 0] 23), pt b5 (Cs #[Iv x1, Iv x2] 23)]) ∨ (s 6 = true ∧ s 7 = true ∧ St w0 w noX [] [pt b14 (Cs #[Iv x29.1, Uv x29.2] 64), pt b13 (Cs #[Iv x28.1, Uv x28.2] 64), pt b7 (Cs #[Iv x1, Iv x2] 23), pt b6 (Cs #[Iv 0, Iv 0] 23), pt b5 (Cs #[Iv x1, Iv x2] 23)])) P_mixed (by kernel_rfl) hf hf1 (Or.inl ⟨rfl, rfl, hS.drew⟩) ?_ ?_ ?_
     ·clear hf hf1 hS
      refine ⟨?_, ?_, ?_, ?_, ?_, ?_, ?_, trivial⟩
      ·intro s g w hsp hsb hD a hf
       rcases hD with (⟨h6_, h7_, hD⟩ | ⟨h6_, h7_, hD⟩ | ⟨h6_, h7_, hD⟩)
       ·have hS : St w0 w noX [] [pt b14 (Cs #[Iv x12.1, Uv x12.2] 64), pt b13 (Cs #[Iv x11.1, Uv x11.2] 64), pt b7 (Cs #[Iv x1, Iv x2] 23), pt b6 (Cs #[Iv 0, Iv 0] 23), pt b5 (Cs #[Iv x1, Iv x2] 23)] := hD; clear hD
        replace hf : Fr a 55 [] [(6, Pv b6 0), (7, Iv 0), (9, Pv b13 0), (10, Pv b14 0), (33, Bv (decide (x4 < (0 : Int))))] := hf
        refine O.val hf rfl rfl rfl (RunV.loadN (cs' := #[Iv x11.1, Uv x11.2]) T_agg_64 T_size_64 rfl (hS.ptAt (i := 1) rfl) (Nat.le_of_ble_eq_true rfl) rfl) ?_; clear hf a; intro a hf
        exact O.nil ⟨rfl, hf.to trivial, (fun d hd => by cases (show some 34 = some d from hd); exact hf.get _ _ rfl), (Or.inl ⟨h6_, h7_, hS⟩)⟩
       ·exact absurd ((hsb 6 (by simp)).symm.trans h6_) (by decide)
       ·exact absurd ((hsb 6 (by simp)).symm.trans h6_) (by decide)
      ·intro s g w hsp hsb hD a hf
       rcases hD with (⟨h6_, h7_, hD⟩ | ⟨h6_, h7_, hD⟩ | ⟨h6_, h7_, hD⟩)
       ·have hS : St w0 w noX [] [pt b14 (Cs #[Iv x12.1, Uv x12.2] 64), pt b13 (Cs #[Iv x11.1, Uv x11.2] 64), pt b7 (Cs #[Iv x1, Iv x2] 23), pt b6 (Cs #[Iv 0, Iv 0] 23), pt b5 (Cs #[Iv x1, Iv x2] 23)] := hD; clear hD
        replace hf : Fr a 55 [] [(34, .agg #[Iv x11.1, Uv x11.2]), (6, Pv b6 0), (7, Iv 0), (9, Pv b13 0), (10, Pv b14 0), (33, Bv (decide (x4 < (0 : Int))))] := hf
        refine O.callR hf rfl rfl rfl (RunE.call (av := #[.agg #[Iv x11.1, Uv x11.2]]) C_ok_27 rfl rfl rfl) (m_span_twin_neg_ok F x11.1 x11.2 _ x28 hx28) ?_
        clear hf a; rintro _ w hS1 a hf
        replace hf : Fr a _ _ ((35, .agg #[Iv x28.1, Uv x28.2]) :: _) := hf
        replace hS := (hS.call hS1).eqM (N := [pt b14 (Cs #[Iv x12.1, Uv x12.2] 64), pt b13 (Cs #[Iv x11.1, Uv x11.2] 64), pt b7 (Cs #[Iv x1, Iv x2] 23), pt b6 (Cs #[Iv 0, Iv 0] 23), pt b5 (Cs #[Iv x1, Iv x2] 23)]) rfl
        clear hS1
        exact O.nil ⟨rfl, hf.to trivial, (fun d hd => by cases (show some 35 = some d from hd); exact hf.get _ _ rfl), (Or.inl ⟨h6_, h7_, hS⟩)⟩
       ·exact absurd ((hsb 6 (by simp)).symm.trans h6_) (by decide)
       ·exact absurd ((hsb 6 (by simp)).symm.trans h6_) (by decide)
      ·intro s g w hsp hsb hD a hf
       rcases hD with (⟨h6_, h7_, hD⟩ | ⟨h6_, h7_, hD⟩ | ⟨h6_, h7_, hD⟩)
       ·have hS : St w0 w noX [] [pt b14 (Cs #[Iv x12.1, Uv x12.2] 64), pt b13 (Cs #[Iv x11.1, Uv x11.2] 64), pt b7 (Cs #[Iv x1, Iv x2] 23), pt b6 (Cs #[Iv 0, Iv 0] 23), pt b5 (Cs #[Iv x1, Iv x2] 23)] := hD; clear hD
        replace hf : Fr a 55 [] [(6, Pv b6 0), (7, Iv 0), (9, Pv b13 0), (10, Pv b14 0), (33, Bv (decide (x4 < (0 : Int))))] := hf
        refine O.val hf rfl rfl rfl (RunV.loadN (cs' := #[Iv x12.1, Uv x12.2]) T_agg_64 T_size_64 rfl (hS.ptAt (i := 0) rfl) (Nat.le_of_ble_eq_true rfl) rfl) ?_; clear hf a; intro a hf
        exact O.nil ⟨rfl, hf.to trivial, (fun d hd => by cases (show some 36 = some d from hd); exact hf.get _ _ rfl), (Or.inl ⟨h6_, h7_, hS⟩)⟩
       ·exact absurd ((hsb 6 (by simp)).symm.trans h6_) (by decide)
       ·exact absurd ((hsb 6 (by simp)).symm.trans h6_) (by decide)
      ·intro s g w hsp hsb hD a hf
       rcases hD with (⟨h6_, h7_, hD⟩ | ⟨h6_, h7_, hD⟩ | ⟨h6_, h7_, hD⟩)
       ·have hS : St w0 w noX [] [pt b14 (Cs #[Iv x12.1, Uv x12.2] 64), pt b13 (Cs #[Iv x11.1, Uv x11.2] 64), pt b7 (Cs #[Iv x1, Iv x2] 23), pt b6 (Cs #[Iv 0, Iv 0] 23), pt b5 (Cs #[Iv x1, Iv x2] 23)] := hD; clear hD
        replace hf : Fr a 55 [] [(35, .agg #[Iv x28.1, Uv x28.2]), (36, .agg #[Iv x12.1, Uv x12.2]), (6, Pv b6 0), (7, Iv 0), (9, Pv b13 0), (10, Pv b14 0), (33, Bv (decide (x4 < (0 : Int))))] := hf
        refine O.callR hf rfl rfl rfl (RunE.call (av := #[.agg #[Iv x12.1, Uv x12.2]]) C_ok_27 rfl rfl rfl) (m_span_twin_neg_ok F x12.1 x12.2 _ x29 hx29) ?_
        clear hf a; rintro _ w hS1 a hf
        replace hf : Fr a _ _ ((37, .agg #[Iv x29.1, Uv x29.2]) :: _) := hf
        replace hS := (hS.call hS1).eqM (N := [pt b14 (Cs #[Iv x12.1, Uv x12.2] 64), pt b13 (Cs #[Iv x11.1, Uv x11.2] 64), pt b7 (Cs #[Iv x1, Iv x2] 23), pt b6 (Cs #[Iv 0, Iv 0] 23), pt b5 (Cs #[Iv x1, Iv x2] 23)]) rfl
        clear hS1
        exact O.nil ⟨rfl, hf.to trivial, (fun d hd => by cases (show some 37 = some d from hd); exact hf.get _ _ rfl), (Or.inl ⟨h6_, h7_, hS⟩)⟩
       ·exact absurd ((hsb 6 (by simp)).symm.trans h6_) (by decide)
       ·exact absurd ((hsb 6 (by simp)).symm.trans h6_) (by decide)
      ·intro s g w hsp hsb hD a hf
       rcases hD with (⟨h6_, h7_, hD⟩ | ⟨h6_, h7_, hD⟩ | ⟨h6_, h7_, hD⟩)
       ·have hS : St w0 w noX [] [pt b14 (Cs #[Iv x12.1, Uv x12.2] 64), pt b13 (Cs #[Iv x11.1, Uv x11.2] 64), pt b7 (Cs #[Iv x1, Iv x2] 23), pt b6 (Cs #[Iv 0, Iv 0] 23), pt b5 (Cs #[Iv x1, Iv x2] 23)] := hD; clear hD
        replace hf : Fr a 55 [] [(11, Uv (IntKind.u64.wrap x4)), (6, Pv b6 0), (7, Iv 0), (9, Pv b13 0), (10, Pv b14 0), (33, Bv (decide (x4 < (0 : Int))))] := hf
        refine O.val hf rfl rfl rfl (RunV.move rfl) ?_; clear hf a; intro a hf
        exact O.nil ⟨rfl, hf.to trivial, (fun d hd => by cases (show some 38 = some d from hd); exact hf.get _ _ rfl), (Or.inl ⟨h6_, h7_, hS⟩)⟩
       ·have hS : St w0 w noX [] [pt b14 (Cs #[Iv x12.1, Uv x12.2] 64), pt b13 (Cs #[Iv x28.1, Uv x28.2] 64), pt b7 (Cs #[Iv x1, Iv x2] 23), pt b6 (Cs #[Iv 0, Iv 0] 23), pt b5 (Cs #[Iv x1, Iv x2] 23)] := hD; clear hD
        replace hf : Fr a 55 [] [(11, Uv (IntKind.u64.wrap x4)), (6, Pv b6 0), (7, Iv 0), (9, Pv b13 0), (10, Pv b14 0), (33, Bv (decide (x4 < (0 : Int))))] := hf
        refine O.val hf rfl rfl rfl (RunV.move rfl) ?_; clear hf a; intro a hf
        exact O.nil ⟨rfl, hf.to trivial, (fun d hd => by cases (show some 38 = some d from hd); exact hf.get _ _ rfl), (Or.inr (Or.inl ⟨h6_, h7_, hS⟩))⟩
       ·have hS : St w0 w noX [] [pt b14 (Cs #[Iv x29.1, Uv x29.2] 64), pt b13 (Cs #[Iv x28.1, Uv x28.2] 64), pt b7 (Cs #[Iv x1, Iv x2] 23), pt b6 (Cs #[Iv 0, Iv 0] 23), pt b5 (Cs #[Iv x1, Iv x2] 23)] := hD; clear hD
        replace hf : Fr a 55 [] [(11, Uv (IntKind.u64.wrap x4)), (6, Pv b6 0), (7, Iv 0), (9, Pv b13 0), (10, Pv b14 0), (33, Bv (decide (x4 < (0 : Int))))] := hf
        refine O.val hf rfl rfl rfl (RunV.move rfl) ?_; clear hf a; intro a hf
        exact O.nil ⟨rfl, hf.to trivial, (fun d hd => by cases (show some 38 = some d from hd); exact hf.get _ _ rfl), (Or.inr (Or.inr ⟨h6_, h7_, hS⟩))⟩
      ·intro s g w hsp hsb hD a hf
       rcases hD with (⟨h6_, h7_, hD⟩ | ⟨h6_, h7_, hD⟩ | ⟨h6_, h7_, hD⟩)
       ·have hS : St w0 w noX [] [pt b14 (Cs #[Iv x12.1, Uv x12.2] 64), pt b13 (Cs #[Iv x11.1, Uv x11.2] 64), pt b7 (Cs #[Iv x1, Iv x2] 23), pt b6 (Cs #[Iv 0, Iv 0] 23), pt b5 (Cs #[Iv x1, Iv x2] 23)] := hD; clear hD
        replace hf : Fr a 55 [] [(38, Uv (IntKind.u64.wrap x4)), (6, Pv b6 0), (7, Iv 0), (9, Pv b13 0), (10, Pv b14 0), (33, Bv (decide (x4 < (0 : Int))))] := hf
        refine O.val (v := Uv (IntKind.u64.wrap (0 - (IntKind.u64.wrap x4)))) hf rfl rfl rfl (RunV.neg rfl) ?_; clear hf a; intro a hf
        exact O.nil ⟨rfl, hf.to trivial, (fun d hd => by cases (show some 39 = some d from hd); exact hf.get _ _ rfl), (Or.inl ⟨h6_, h7_, hS⟩)⟩
       ·have hS : St w0 w noX [] [pt b14 (Cs #[Iv x12.1, Uv x12.2] 64), pt b13 (Cs #[Iv x28.1, Uv x28.2] 64), pt b7 (Cs #[Iv x1, Iv x2] 23), pt b6 (Cs #[Iv 0, Iv 0] 23), pt b5 (Cs #[Iv x1, Iv x2] 23)] := hD; clear hD
        replace hf : Fr a 55 [] [(38, Uv (IntKind.u64.wrap x4)), (6, Pv b6 0), (7, Iv 0), (9, Pv b13 0), (10, Pv b14 0), (33, Bv (decide (x4 < (0 : Int))))] := hf
        refine O.val (v := Uv (IntKind.u64.wrap (0 - (IntKind.u64.wrap x4)))) hf rfl rfl rfl (RunV.neg rfl) ?_; clear hf a; intro a hf
        exact O.nil ⟨rfl, hf.to trivial, (fun d hd => by cases (show some 39 = some d from hd); exact hf.get _ _ rfl), (Or.inr (Or.inl ⟨h6_, h7_, hS⟩))⟩
       ·have hS : St w0 w noX [] [pt b14 (Cs #[Iv x29.1, Uv x29.2] 64), pt b13 (Cs #[Iv x28.1, Uv x28.2] 64), pt b7 (Cs #[Iv x1, Iv x2] 23), pt b6 (Cs #[Iv 0, Iv 0] 23), pt b5 (Cs #[Iv x1, Iv x2] 23)] := hD; clear hD
        replace hf : Fr a 55 [] [(38, Uv (IntKind.u64.wrap x4)), (6, Pv b6 0), (7, Iv 0), (9, Pv b13 0), (10, Pv b14 0), (33, Bv (decide (x4 < (0 : Int))))] := hf
        refine O.val (v := Uv (IntKind.u64.wrap (0 - (IntKind.u64.wrap x4)))) hf rfl rfl rfl (RunV.neg rfl) ?_; clear hf a; intro a hf
        exact O.nil ⟨rfl, hf.to trivial, (fun d hd => by cases (show some 39 = some d from hd); exact hf.get _ _ rfl), (Or.inr (Or.inr ⟨h6_, h7_, hS⟩))⟩
      ·intro s g w hsp hsb hD a hf
       rcases hD with (⟨h6_, h7_, hD⟩ | ⟨h6_, h7_, hD⟩ | ⟨h6_, h7_, hD⟩)
       ·exact absurd ((hsp 6 (by simp)).symm.trans h6_) (by decide)
       ·exact absurd ((hsp 7 (by simp)).symm.trans h7_) (by decide)
       ·have hS : St w0 w noX [] [pt b14 (Cs #[Iv x29.1, Uv x29.2] 64), pt b13 (Cs #[Iv x28.1, Uv x28.2] 64), pt b7 (Cs #[Iv x1, Iv x2] 23), pt b6 (Cs #[Iv 0, Iv 0] 23), pt b5 (Cs #[Iv x1, Iv x2] 23)] := hD; clear hD
        replace hf : Fr a 55 [] [(34, .agg #[Iv x11.1, Uv x11.2]), (35, .agg #[Iv x28.1, Uv x28.2]), (36, .agg #[Iv x12.1, Uv x12.2]), (37, .agg #[Iv x29.1, Uv x29.2]), (38, Uv (IntKind.u64.wrap x4)), (39, Uv (IntKind.u64.wrap (0 - (IntKind.u64.wrap x4)))), (6, Pv b6 0), (7, Iv 0), (9, Pv b13 0), (10, Pv b14 0), (33, Bv (decide (x4 < (0 : Int))))] := hf
        refine O.val hf rfl rfl rfl (RunV.assign rfl) ?_; clear hf a; intro a hf
        exact O.nil ⟨rfl, hf.to trivial, (fun d hd => by cases (show some 11 = some d from hd); exact hf.get _ _ rfl), (Or.inr (Or.inr ⟨h6_, h7_, hS⟩))⟩
     ·clear hf hf1 hS
      refine ⟨?_, ?_, trivial⟩
      ·intro s g w hs0 hsp hsb hD a hf
       rcases hD with (⟨h6_, h7_, hD⟩ | ⟨h6_, h7_, hD⟩ | ⟨h6_, h7_, hD⟩)
       ·have hS : St w0 w noX [] [pt b14 (Cs #[Iv x12.1, Uv x12.2] 64), pt b13 (Cs #[Iv x11.1, Uv x11.2] 64), pt b7 (Cs #[Iv x1, Iv x2] 23), pt b6 (Cs #[Iv 0, Iv 0] 23), pt b5 (Cs #[Iv x1, Iv x2] 23)] := hD; clear hD
        replace hf : Fr a 55 [] [(34, .agg #[Iv x11.1, Uv x11.2]), (35, .agg #[Iv x28.1, Uv x28.2]), (37, .agg #[Iv x29.1, Uv x29.2]), (6, Pv b6 0), (7, Iv 0), (9, Pv b13 0), (10, Pv b14 0), (33, Bv (decide (x4 < (0 : Int))))] := hf
        refine O.store (j := 1) (cs' := #[Iv x28.1, Uv x28.2]) (M' := [pt b14 (Cs #[Iv x12.1, Uv x12.2] 64), pt b13 (Cs #[Iv x28.1, Uv x28.2] 64), pt b7 (Cs #[Iv x1, Iv x2] 23), pt b6 (Cs #[Iv 0, Iv 0] 23), pt b5 (Cs #[Iv x1, Iv x2] 23)]) hf hS rfl rfl rfl T_size_64 rfl rfl rfl (Nat.le_of_ble_eq_true rfl) rfl rfl ?_
        clear hS; intro w hS
        exact O.nil ⟨rfl, (), hf.to trivial, (fun d hd => by cases (show none = some d from hd)), (fun j hj hk => match j, hj, hk with | 0, hj, hk => rfl | 1, hj, hk => rfl | 2, hj, hk => rfl | 3, hj, hk => rfl | 4, hj, hk => rfl | 5, hj, hk => rfl | 6, hj, hk => absurd rfl hj | 7, hj, hk => absurd hk (by decide) | 8, hj, hk => absurd hk (by decide) | _ + 9, _, _ => rfl), (Or.inr (Or.inl ⟨rfl, h7_, hS⟩))⟩
       ·exact absurd (hs0.symm.trans h6_) (by decide)
       ·exact absurd (hs0.symm.trans h6_) (by decide)
      ·intro s g w hs0 hsp hsb hD a hf
       rcases hD with (⟨h6_, h7_, hD⟩ | ⟨h6_, h7_, hD⟩ | ⟨h6_, h7_, hD⟩)
       ·exact absurd ((hsp 6 (by simp)).symm.trans h6_) (by decide)
       ·have hS : St w0 w noX [] [pt b14 (Cs #[Iv x12.1, Uv x12.2] 64), pt b13 (Cs #[Iv x28.1, Uv x28.2] 64), pt b7 (Cs #[Iv x1, Iv x2] 23), pt b6 (Cs #[Iv 0, Iv 0] 23), pt b5 (Cs #[Iv x1, Iv x2] 23)] := hD; clear hD
        replace hf : Fr a 55 [] [(34, .agg #[Iv x11.1, Uv x11.2]), (35, .agg #[Iv x28.1, Uv x28.2]), (36, .agg #[Iv x12.1, Uv x12.2]), (37, .agg #[Iv x29.1, Uv x29.2]), (6, Pv b6 0), (7, Iv 0), (9, Pv b13 0), (10, Pv b14 0), (33, Bv (decide (x4 < (0 : Int))))] := hf
        refine O.store (j := 0) (cs' := #[Iv x29.1, Uv x29.2]) (M' := [pt b14 (Cs #[Iv x29.1, Uv x29.2] 64), pt b13 (Cs #[Iv x28.1, Uv x28.2] 64), pt b7 (Cs #[Iv x1, Iv x2] 23), pt b6 (Cs #[Iv 0, Iv 0] 23), pt b5 (Cs #[Iv x1, Iv x2] 23)]) hf hS rfl rfl rfl T_size_64 rfl rfl rfl (Nat.le_of_ble_eq_true rfl) rfl rfl ?_
        clear hS; intro w hS
        exact O.nil ⟨rfl, (), hf.to trivial, (fun d hd => by cases (show none = some d from hd)), (fun j hj hk => match j, hj, hk with | 0, hj, hk => rfl | 1, hj, hk => rfl | 2, hj, hk => rfl | 3, hj, hk => rfl | 4, hj, hk => rfl | 5, hj, hk => rfl | 6, hj, hk => rfl | 7, hj, hk => absurd rfl hj | 8, hj, hk => absurd hk (by decide) | _ + 9, _, _ => rfl), (Or.inr (Or.inr ⟨h6_, rfl, hS⟩))⟩
       ·exact absurd (hs0.symm.trans h7_) (by decide)
     clear hf hf1 hS; intro s g a w hs hf hD
     rcases hD with (⟨h6_, h7_, hD⟩ | ⟨h6_, h7_, hD⟩ | ⟨h6_, h7_, hD⟩)
     · exact absurd ((hs 6 (by simp)).symm.trans h6_) (by decide)
     · exact absurd ((hs 7 (by simp)).symm.trans h7_) (by decide)
     have hS : St w0 w noX [] [pt b14 (Cs #[Iv x29.1, Uv x29.2] 64), pt b13 (Cs #[Iv x28.1, Uv x28.2] 64), pt b7 (Cs #[Iv x1, Iv x2] 23), pt b6 (Cs #[Iv 0, Iv 0] 23), pt b5 (Cs #[Iv x1, Iv x2] 23)] := hD; clear hD
     replace hf : Fr a 55 [] [(34, .agg #[Iv x11.1, Uv x11.2]), (35, .agg #[Iv x28.1, Uv x28.2]), (36, .agg #[Iv x12.1, Uv x12.2]), (37, .agg #[Iv x29.1, Uv x29.2]), (38, Uv (IntKind.u64.wrap x4)), (39, Uv (IntKind.u64.wrap (0 - (IntKind.u64.wrap x4)))), (11, Uv (IntKind.u64.wrap (0 - (IntKind.u64.wrap x4)))), (6, Pv b6 0), (7, Iv 0), (9, Pv b13 0), (10, Pv b14 0), (33, Bv (decide (x4 < (0 : Int))))] := hf
     replace hS := hS.front (i := 1) (M' := [pt b13 (Cs #[Iv x28.1, Uv x28.2] 64), pt b14 (Cs #[Iv x29.1, Uv x29.2] 64), pt b7 (Cs #[Iv x1, Iv x2] 23), pt b6 (Cs #[Iv 0, Iv 0] 23), pt b5 (Cs #[Iv x1, Iv x2] 23)]) rfl rfl
     replace hS := hS.front (i := 3) (M' := [pt b6 (Cs #[Iv 0, Iv 0] 23), pt b13 (Cs #[Iv x28.1, Uv x28.2] 64), pt b14 (Cs #[Iv x29.1, Uv x29.2] 64), pt b7 (Cs #[Iv x1, Iv x2] 23), pt b5 (Cs #[Iv x1, Iv x2] 23)]) rfl rfl
     replace hS := hS.sub (N := [pt b6 (Cs #[Iv 0, Iv 0] 23), pt b13 (Cs #[Iv x28.1, Uv x28.2] 64), pt b14 (Cs #[Iv x29.1, Uv x29.2] 64)]) (.cons_cons _ (.cons_cons _ (.cons_cons _ (.cons _ (.cons _ .slnil)))))
     exact k_then ⟨x28.1, x28.2, x29.1, x29.2, IntKind.u64.wrap (0 - (IntKind.u64.wrap x4)), hf.to ⟨rfl, rfl, rfl, rfl, rfl, trivial⟩, hS, hm⟩
    ·replace hm := hm_n hm hc27
     refine W.skip ?_
     replace hS := hS.front (i := 1) (M' := [pt b13 (Cs #[Iv x11.1, Uv x11.2] 64), pt b14 (Cs #[Iv x12.1, Uv x12.2] 64), pt b7 (Cs #[Iv x1, Iv x2] 23), pt b6 (Cs #[Iv 0, Iv 0] 23), pt b5 (Cs #[Iv x1, Iv x2] 23)]) rfl rfl
     replace hS := hS.front (i := 3) (M' := [pt b6 (Cs #[Iv 0, Iv 0] 23), pt b13 (Cs #[Iv x11.1, Uv x11.2] 64), pt b14 (Cs #[Iv x12.1, Uv x12.2] 64), pt b7 (Cs #[Iv x1, Iv x2] 23), pt b5 (Cs #[Iv x1, Iv x2] 23)]) rfl rfl
     replace hS := hS.sub (N := [pt b6 (Cs #[Iv 0, Iv 0] 23), pt b13 (Cs #[Iv x11.1, Uv x11.2] 64), pt b14 (Cs #[Iv x12.1, Uv x12.2] 64)]) (.cons_cons _ (.cons_cons _ (.cons_cons _ (.cons _ (.cons _ .slnil)))))
     exact k_then ⟨x11.1, x11.2, x12.1, x12.2, IntKind.u64.wrap x4, hf.to ⟨rfl, rfl, rfl, rfl, rfl, trivial⟩, hS, hm⟩
   ·clear hf hS hm a; try clear w
    rintro a w ⟨x15, x16, x17, x18, x19, hf, hS, hm⟩
    unfold m_span_Scale_j1 at hm
    refine W.seq ?_
    -- region 10, which draws its order
    -- [2, 8, 15] turn memory
    have hf1 : Fr a 55 [] [(7, Iv 0)] := hf.to ⟨rfl, trivial⟩
    replace hf : Fr a 55 [] [(6, Pv b6 0), (9, Pv b13 0), (10, Pv b14 0), (11, Uv x19)] := hf.to ⟨rfl, rfl, rfl, rfl, trivial⟩
    obtain ⟨x21, hx21, hm⟩ := hm_b hm
    obtain ⟨x22, hx22, hm⟩ := hm_b hm
    obtain ⟨x24, hx24, hm⟩ := hm_b hm
    obtain ⟨x25, hx25, hm⟩ := hm_b hm
    obtain ⟨x26, hx26, hm⟩ := hm_b hm
    refine W.drawP (γ := Nat × Nat) (L0 := [(6, Pv b6 0), (9, Pv b13 0), (10, Pv b14 0), (11, Uv x19)]) (L1 := [(7, Iv 0)]) (0, 0) [2, 8, 15] [0, 1, 3, 4, 5, 6, 7, 9, 10, 11, 12, 13, 14, 16] (fun i => match i with | 0 => [] | 1 => [] | 2 => [1] | 3 => [0, 2] | 4 => [] | 5 => [3, 4] | 6 => [] | 7 => [] | 8 => [7] | 9 => [5, 6, 8] | 10 => [] | 11 => [9, 10] | 12 => [5, 11] | 13 => [12] | 14 => [12] | 15 => [0, 1, 2, 3, 4, 5, 6, 7, 8, 9, 10, 11, 12, 13, 14] | 16 => [0, 1, 2, 3, 4, 5, 6, 7, 8, 9, 10, 11, 12, 13, 14, 15] | _ => []) (fun i => match i with | 3 => [2] | 5 => [2] | 9 => [2, 8] | 11 => [2, 8] | 12 => [2, 8] | 13 => [2, 8] | 14 => [2, 8] | 15 => [2, 8] | 16 => [2, 8, 15] | _ => []) (fun i => match i with | 0 => [15] | 1 => [2, 15] | 2 => [15] | 3 => [15] | 4 => [15] | 5 => [15] | 6 => [15] | 7 => [8, 15] | 8 => [15] | 9 => [15] | 10 => [15] | 11 => [15] | 12 => [15] | 13 => [15] | 14 => [15] | _ => []) (fun i => match i with | 2 => [3, 5, 9, 11, 12, 13, 14, 15, 16] | 8 => [9, 11, 12, 13, 14, 15, 16] | 15 => [16] | _ => []) (fun _ => []) (fun (g : Nat × Nat) j => match g, j with | (b20, b23), 0 => .agg #[Iv x15, Uv x16] | (b20, b23), 1 => .agg #[Iv x17, Uv x18] | (b20, b23), 2 => .slice (some ⟨b20, 0, none⟩) 1 1 | (b20, b23), 3 => .agg #[Iv x21.1, Uv x21.2] | (b20, b23), 4 => Uv x19 | (b20, b23), 5 => Iv x22 | (b20, b23), 6 => .agg #[Iv x15, Uv x16] | (b20, b23), 7 => .agg #[Iv x17, Uv x18] | (b20, b23), 8 => .slice (some ⟨b23, 0, none⟩) 1 1 | (b20, b23), 9 => .agg #[Iv x24.1, Uv x24.2] | (b20, b23), 10 => Uv x19 | (b20, b23), 11 => Iv x25 | (b20, b23), 12 => .tuple #[.agg #[Iv x26.1, Iv x26.2.1], Iv x26.2.2] | (b20, b23), 13 => .agg #[Iv x26.1, Iv x26.2.1] | (b20, b23), 14 => Iv x26.2.2 | (b20, b23), 16 => Iv x26.2.2 | _, _ => undef) (fun s (g : Nat × Nat) w => match g with | (b20, b23) => (s 2 = false ∧ s 8 = false ∧ s 15 = false ∧ St w0 w noX [] [pt b6 (Cs #[Iv 0, Iv 0] 23), pt b13 (Cs #[Iv x15, Uv x16] 64), pt b14 (Cs #[Iv x17, Uv x18] 64)]) ∨ (s 2 = true ∧ s 8 = false ∧ s 15 = false ∧ St w0 w noX [] [pt b20 (Cs #[Iv x17, Uv x18] 64), pt b6 (Cs #[Iv 0, Iv 0] 23), pt b13 (Cs #[Iv x15, Uv x16] 64), pt b14 (Cs #[Iv x17, Uv x18] 64)]) ∨ (s 2 = false ∧ s 8 = true ∧ s 15 = false ∧ St w0 w noX [] [pt b23 (Cs #[Iv x17, Uv x18] 64), pt b6 (Cs #[Iv 0, Iv 0] 23), pt b13 (Cs #[Iv x15, Uv x16] 64), pt b14 (Cs #[Iv x17, Uv x18] 64)]) ∨ (s 2 = true ∧ s 8 = true ∧ s 15 = false ∧ St w0 w noX [] [pt b23 (Cs #[Iv x17, Uv x18] 64), pt b20 (Cs #[Iv x17, Uv x18] 64), pt b6 (Cs #[Iv 0, Iv 0] 23), pt b13 (Cs #[Iv x15, Uv x16] 64), pt b14 (Cs #[Iv x17, Uv x18] 64)]) ∨ (s 2 = true ∧ s 8 = true ∧ s 15 = true ∧ St w0 w noX [] [pt b23 (Cs #[Iv x17, Uv x18] 64), pt b20 (Cs #[Iv x17, Uv x18] 64), pt b6 (Cs #[Iv x26.1, Iv x26.2.1] 23), pt b13 (Cs #[Iv x15, Uv x16] 64), pt b14 (Cs #[Iv x17, Uv x18] 64)])) P_mixed (by kernel_rfl) hf hf1 (Or.inl ⟨rfl, rfl, rfl, hS.drew⟩) ?_ ?_ ?_
    ·clear hf hf1 hS
     refine ⟨?_, ?_, ?_, ?_, ?_, ?_, ?_, ?_, ?_, ?_, ?_, ?_, ?_, ?_, trivial⟩
     ·intro s g w hsp hsb hD a hf
      obtain ⟨b20, b23⟩ := g
      rcases hD with (⟨h2_, h8_, h15_, hD⟩ | ⟨h2_, h8_, h15_, hD⟩ | ⟨h2_, h8_, h15_, hD⟩ | ⟨h2_, h8_, h15_, hD⟩ | ⟨h2_, h8_, h15_, hD⟩)
      ·have hS : St w0 w noX [] [pt b6 (Cs #[Iv 0, Iv 0] 23), pt b13 (Cs #[Iv x15, Uv x16] 64), pt b14 (Cs #[Iv x17, Uv x18] 64)] := hD; clear hD
       replace hf : Fr a 55 [] [(6, Pv b6 0), (9, Pv b13 0), (10, Pv b14 0), (11, Uv x19)] := hf
       refine O.val hf rfl rfl rfl (RunV.loadN (cs' := #[Iv x15, Uv x16]) T_agg_64 T_size_64 rfl (hS.ptAt (i := 1) rfl) (Nat.le_of_ble_eq_true rfl) rfl) ?_; clear hf a; intro a hf
       exact O.nil ⟨rfl, hf.to trivial, (fun d hd => by cases (show some 40 = some d from hd); exact hf.get _ _ rfl), (Or.inl ⟨h2_, h8_, h15_, hS⟩)⟩
      ·have hS : St w0 w noX [] [pt b20 (Cs #[Iv x17, Uv x18] 64), pt b6 (Cs #[Iv 0, Iv 0] 23), pt b13 (Cs #[Iv x15, Uv x16] 64), pt b14 (Cs #[Iv x17, Uv x18] 64)] := hD; clear hD
       replace hf : Fr a 55 [] [(6, Pv b6 0), (9, Pv b13 0), (10, Pv b14 0), (11, Uv x19)] := hf
       refine O.val hf rfl rfl rfl (RunV.loadN (cs' := #[Iv x15, Uv x16]) T_agg_64 T_size_64 rfl (hS.ptAt (i := 2) rfl) (Nat.le_of_ble_eq_true rfl) rfl) ?_; clear hf a; intro a hf
       exact O.nil ⟨rfl, hf.to trivial, (fun d hd => by cases (show some 40 = some d from hd); exact hf.get _ _ rfl), (Or.inr (Or.inl ⟨h2_, h8_, h15_, hS⟩))⟩
      ·have hS : St w0 w noX [] [pt b23 (Cs #[Iv x17, Uv x18] 64), pt b6 (Cs #[Iv 0, Iv 0] 23), pt b13 (Cs #[Iv x15, Uv x16] 64), pt b14 (Cs #[Iv x17, Uv x18] 64)] := hD; clear hD
       replace hf : Fr a 55 [] [(6, Pv b6 0), (9, Pv b13 0), (10, Pv b14 0), (11, Uv x19)] := hf
       refine O.val hf rfl rfl rfl (RunV.loadN (cs' := #[Iv x15, Uv x16]) T_agg_64 T_size_64 rfl (hS.ptAt (i := 2) rfl) (Nat.le_of_ble_eq_true rfl) rfl) ?_; clear hf a; intro a hf
       exact O.nil ⟨rfl, hf.to trivial, (fun d hd => by cases (show some 40 = some d from hd); exact hf.get _ _ rfl), (Or.inr (Or.inr (Or.inl ⟨h2_, h8_, h15_, hS⟩)))⟩
      ·have hS : St w0 w noX [] [pt b23 (Cs #[Iv x17, Uv x18] 64), pt b20 (Cs #[Iv x17, Uv x18] 64), pt b6 (Cs #[Iv 0, Iv 0] 23), pt b13 (Cs #[Iv x15, Uv x16] 64), pt b14 (Cs #[Iv x17, Uv x18] 64)] := hD; clear hD
       replace hf : Fr a 55 [] [(6, Pv b6 0), (9, Pv b13 0), (10, Pv b14 0), (11, Uv x19)] := hf
       refine O.val hf rfl rfl rfl (RunV.loadN (cs' := #[Iv x15, Uv x16]) T_agg_64 T_size_64 rfl (hS.ptAt (i := 3) rfl) (Nat.le_of_ble_eq_true rfl) rfl) ?_; clear hf a; intro a hf
       exact O.nil ⟨rfl, hf.to trivial, (fun d hd => by cases (show some 40 = some d from hd); exact hf.get _ _ rfl), (Or.inr (Or.inr (Or.inr (Or.inl ⟨h2_, h8_, h15_, hS⟩))))⟩
      ·exact absurd ((hsb 15 (by simp)).symm.trans h15_) (by decide)
     ·intro s g w hsp hsb hD a hf
      obtain ⟨b20, b23⟩ := g
      rcases hD with (⟨h2_, h8_, h15_, hD⟩ | ⟨h2_, h8_, h15_, hD⟩ | ⟨h2_, h8_, h15_, hD⟩ | ⟨h2_, h8_, h15_, hD⟩ | ⟨h2_, h8_, h15_, hD⟩)
      ·have hS : St w0 w noX [] [pt b6 (Cs #[Iv 0, Iv 0] 23), pt b13 (Cs #[Iv x15, Uv x16] 64), pt b14 (Cs #[Iv x17, Uv x18] 64)] := hD; clear hD
       replace hf : Fr a 55 [] [(6, Pv b6 0), (9, Pv b13 0), (10, Pv b14 0), (11, Uv x19)] := hf
       refine O.val hf rfl rfl rfl (RunV.loadN (cs' := #[Iv x17, Uv x18]) T_agg_64 T_size_64 rfl (hS.ptAt (i := 2) rfl) (Nat.le_of_ble_eq_true rfl) rfl) ?_; clear hf a; intro a hf
       exact O.nil ⟨rfl, hf.to trivial, (fun d hd => by cases (show some 41 = some d from hd); exact hf.get _ _ rfl), (Or.inl ⟨h2_, h8_, h15_, hS⟩)⟩
      ·exact absurd ((hsb 2 (by simp)).symm.trans h2_) (by decide)
      ·have hS : St w0 w noX [] [pt b23 (Cs #[Iv x17, Uv x18] 64), pt b6 (Cs #[Iv 0, Iv 0] 23), pt b13 (Cs #[Iv x15, Uv x16] 64), pt b14 (Cs #[Iv x17, Uv x18] 64)] := hD; clear hD
       replace hf : Fr a 55 [] [(6, Pv b6 0), (9, Pv b13 0), (10, Pv b14 0), (11, Uv x19)] := hf
       refine O.val hf rfl rfl rfl (RunV.loadN (cs' := #[Iv x17, Uv x18]) T_agg_64 T_size_64 rfl (hS.ptAt (i := 3) rfl) (Nat.le_of_ble_eq_true rfl) rfl) ?_; clear hf a; intro a hf
       exact O.nil ⟨rfl, hf.to trivial, (fun d hd => by cases (show some 41 = some d from hd); exact hf.get _ _ rfl), (Or.inr (Or.inr (Or.inl ⟨h2_, h8_, h15_, hS⟩)))⟩
      ·exact absurd ((hsb 2 (by simp)).symm.trans h2_) (by decide)
      ·exact absurd ((hsb 2 (by simp)).symm.trans h2_) (by decide)
     ·intro s g w hsp hsb hD a hf
      obtain ⟨b20, b23⟩ := g
      rcases hD with (⟨h2_, h8_, h15_, hD⟩ | ⟨h2_, h8_, h15_, hD⟩ | ⟨h2_, h8_, h15_, hD⟩ | ⟨h2_, h8_, h15_, hD⟩ | ⟨h2_, h8_, h15_, hD⟩)
      ·exact absurd ((hsp 2 (by simp)).symm.trans h2_) (by decide)
      ·have hS : St w0 w noX [] [pt b20 (Cs #[Iv x17, Uv x18] 64), pt b6 (Cs #[Iv 0, Iv 0] 23), pt b13 (Cs #[Iv x15, Uv x16] 64), pt b14 (Cs #[Iv x17, Uv x18] 64)] := hD; clear hD
       replace hf : Fr a 55 [] [(40, .agg #[Iv x15, Uv x16]), (42, .slice (some ⟨b20, 0, none⟩) 1 1), (6, Pv b6 0), (9, Pv b13 0), (10, Pv b14 0), (11, Uv x19)] := hf
       refine O.callR hf rfl rfl rfl (RunE.call (av := #[.agg #[Iv x15, Uv x16], .slice (some ⟨b20, 0, none⟩) 1 1]) C_ok_29 rfl rfl rfl) (m_span_least_ok F x15 x16 b20 x17 x18 _ (hS.ptAt (i := 0) rfl) x21 hx21) ?_
       clear hf a; rintro _ w hS1 a hf
       replace hf : Fr a _ _ ((43, .agg #[Iv x21.1, Uv x21.2]) :: _) := hf
       replace hS := (hS.call hS1).eqM (N := [pt b20 (Cs #[Iv x17, Uv x18] 64), pt b6 (Cs #[Iv 0, Iv 0] 23), pt b13 (Cs #[Iv x15, Uv x16] 64), pt b14 (Cs #[Iv x17, Uv x18] 64)]) rfl
       clear hS1
       exact O.nil ⟨rfl, hf.to trivial, (fun d hd => by cases (show some 43 = some d from hd); exact hf.get _ _ rfl), (Or.inr (Or.inl ⟨h2_, h8_, h15_, hS⟩))⟩
      ·exact absurd ((hsp 2 (by simp)).symm.trans h2_) (by decide)
      ·have hS : St w0 w noX [] [pt b23 (Cs #[Iv x17, Uv x18] 64), pt b20 (Cs #[Iv x17, Uv x18] 64), pt b6 (Cs #[Iv 0, Iv 0] 23), pt b13 (Cs #[Iv x15, Uv x16] 64), pt b14 (Cs #[Iv x17, Uv x18] 64)] := hD; clear hD
       replace hf : Fr a 55 [] [(40, .agg #[Iv x15, Uv x16]), (42, .slice (some ⟨b20, 0, none⟩) 1 1), (6, Pv b6 0), (9, Pv b13 0), (10, Pv b14 0), (11, Uv x19)] := hf
       refine O.callR hf rfl rfl rfl (RunE.call (av := #[.agg #[Iv x15, Uv x16], .slice (some ⟨b20, 0, none⟩) 1 1]) C_ok_29 rfl rfl rfl) (m_span_least_ok F x15 x16 b20 x17 x18 _ (hS.ptAt (i := 1) rfl) x21 hx21) ?_
       clear hf a; rintro _ w hS1 a hf
       replace hf : Fr a _ _ ((43, .agg #[Iv x21.1, Uv x21.2]) :: _) := hf
       replace hS := (hS.call hS1).eqM (N := [pt b23 (Cs #[Iv x17, Uv x18] 64), pt b20 (Cs #[Iv x17, Uv x18] 64), pt b6 (Cs #[Iv 0, Iv 0] 23), pt b13 (Cs #[Iv x15, Uv x16] 64), pt b14 (Cs #[Iv x17, Uv x18] 64)]) rfl
       clear hS1
       exact O.nil ⟨rfl, hf.to trivial, (fun d hd => by cases (show some 43 = some d from hd); exact hf.get _ _ rfl), (Or.inr (Or.inr (Or.inr (Or.inl ⟨h2_, h8_, h15_, hS⟩))))⟩
      ·exact absurd ((hsb 15 (by simp)).symm.trans h15_) (by decide)
     ·intro s g w hsp hsb hD a hf
      obtain ⟨b20, b23⟩ := g
      rcases hD with (⟨h2_, h8_, h15_, hD⟩ | ⟨h2_, h8_, h15_, hD⟩ | ⟨h2_, h8_, h15_, hD⟩ | ⟨h2_, h8_, h15_, hD⟩ | ⟨h2_, h8_, h15_, hD⟩)
      ·have hS : St w0 w noX [] [pt b6 (Cs #[Iv 0, Iv 0] 23), pt b13 (Cs #[Iv x15, Uv x16] 64), pt b14 (Cs #[Iv x17, Uv x18] 64)] := hD; clear hD
       replace hf : Fr a 55 [] [(6, Pv b6 0), (9, Pv b13 0), (10, Pv b14 0), (11, Uv x19)] := hf
       refine O.val hf rfl rfl rfl (RunV.move rfl) ?_; clear hf a; intro a hf
       exact O.nil ⟨rfl, hf.to trivial, (fun d hd => by cases (show some 44 = some d from hd); exact hf.get _ _ rfl), (Or.inl ⟨h2_, h8_, h15_, hS⟩)⟩
      ·have hS : St w0 w noX [] [pt b20 (Cs #[Iv x17, Uv x18] 64), pt b6 (Cs #[Iv 0, Iv 0] 23), pt b13 (Cs #[Iv x15, Uv x16] 64), pt b14 (Cs #[Iv x17, Uv x18] 64)] := hD; clear hD
       replace hf : Fr a 55 [] [(6, Pv b6 0), (9, Pv b13 0), (10, Pv b14 0), (11, Uv x19)] := hf
       refine O.val hf rfl rfl rfl (RunV.move rfl) ?_; clear hf a; intro a hf
       exact O.nil ⟨rfl, hf.to trivial, (fun d hd => by cases (show some 44 = some d from hd); exact hf.get _ _ rfl), (Or.inr (Or.inl ⟨h2_, h8_, h15_, hS⟩))⟩
      ·have hS : St w0 w noX [] [pt b23 (Cs #[Iv x17, Uv x18] 64), pt b6 (Cs #[Iv 0, Iv 0] 23), pt b13 (Cs #[Iv x15, Uv x16] 64), pt b14 (Cs #[Iv x17, Uv x18] 64)] := hD; clear hD
       replace hf : Fr a 55 [] [(6, Pv b6 0), (9, Pv b13 0), (10, Pv b14 0), (11, Uv x19)] := hf
       refine O.val hf rfl rfl rfl (RunV.move rfl) ?_; clear hf a; intro a hf
       exact O.nil ⟨rfl, hf.to trivial, (fun d hd => by cases (show some 44 = some d from hd); exact hf.get _ _ rfl), (Or.inr (Or.inr (Or.inl ⟨h2_, h8_, h15_, hS⟩)))⟩
      ·have hS : St w0 w noX [] [pt b23 (Cs #[Iv x17, Uv x18] 64), pt b20 (Cs #[Iv x17, Uv x18] 64), pt b6 (Cs #[Iv 0, Iv 0] 23), pt b13 (Cs #[Iv x15, Uv x16] 64), pt b14 (Cs #[Iv x17, Uv x18] 64)] := hD; clear hD
       replace hf : Fr a 55 [] [(6, Pv b6 0), (9, Pv b13 0), (10, Pv b14 0), (11, Uv x19)] := hf
       refine O.val hf rfl rfl rfl (RunV.move rfl) ?_; clear hf a; intro a hf
       exact O.nil ⟨rfl, hf.to trivial, (fun d hd => by cases (show some 44 = some d from hd); exact hf.get _ _ rfl), (Or.inr (Or.inr (Or.inr (Or.inl ⟨h2_, h8_, h15_, hS⟩))))⟩
      ·exact absurd ((hsb 15 (by simp)).symm.trans h15_) (by decide)
     ·intro s g w hsp hsb hD a hf
      obtain ⟨b20, b23⟩ := g
      rcases hD with (⟨h2_, h8_, h15_, hD⟩ | ⟨h2_, h8_, h15_, hD⟩ | ⟨h2_, h8_, h15_, hD⟩ | ⟨h2_, h8_, h15_, hD⟩ | ⟨h2_, h8_, h15_, hD⟩)
      ·exact absurd ((hsp 2 (by simp)).symm.trans h2_) (by decide)
      ·have hS : St w0 w noX [] [pt b20 (Cs #[Iv x17, Uv x18] 64), pt b6 (Cs #[Iv 0, Iv 0] 23), pt b13 (Cs #[Iv x15, Uv x16] 64), pt b14 (Cs #[Iv x17, Uv x18] 64)] := hD; clear hD
       replace hf : Fr a 55 [] [(43, .agg #[Iv x21.1, Uv x21.2]), (44, Uv x19), (6, Pv b6 0), (9, Pv b13 0), (10, Pv b14 0), (11, Uv x19)] := hf
       refine O.callR hf rfl rfl rfl (RunE.call (av := #[.agg #[Iv x21.1, Uv x21.2], Uv x19]) C_ok_30 rfl rfl rfl) (m_span_twin_down_ok F x21.1 x21.2 x19 _ x22 hx22) ?_
       clear hf a; rintro _ w hS1 a hf
       replace hf : Fr a _ _ ((45, Iv x22) :: _) := hf
       replace hS := (hS.call hS1).eqM (N := [pt b20 (Cs #[Iv x17, Uv x18] 64), pt b6 (Cs #[Iv 0, Iv 0] 23), pt b13 (Cs #[Iv x15, Uv x16] 64), pt b14 (Cs #[Iv x17, Uv x18] 64)]) rfl
       clear hS1
       exact O.nil ⟨rfl, hf.to trivial, (fun d hd => by cases (show some 45 = some d from hd); exact hf.get _ _ rfl), (Or.inr (Or.inl ⟨h2_, h8_, h15_, hS⟩))⟩
      ·exact absurd ((hsp 2 (by simp)).symm.trans h2_) (by decide)
      ·have hS : St w0 w noX [] [pt b23 (Cs #[Iv x17, Uv x18] 64), pt b20 (Cs #[Iv x17, Uv x18] 64), pt b6 (Cs #[Iv 0, Iv 0] 23), pt b13 (Cs #[Iv x15, Uv x16] 64), pt b14 (Cs #[Iv x17, Uv x18] 64)] := hD; clear hD
       replace hf : Fr a 55 [] [(43, .agg #[Iv x21.1, Uv x21.2]), (44, Uv x19), (6, Pv b6 0), (9, Pv b13 0), (10, Pv b14 0), (11, Uv x19)] := hf
       refine O.callR hf rfl rfl rfl (RunE.call (av := #[.agg #[Iv x21.1, Uv x21.2], Uv x19]) C_ok_30 rfl rfl rfl) (m_span_twin_down_ok F x21.1 x21.2 x19 _ x22 hx22) ?_
       clear hf a; rintro _ w hS1 a hf
       replace hf : Fr a _ _ ((45, Iv x22) :: _) := hf
       replace hS := (hS.call hS1).eqM (N := [pt b23 (Cs #[Iv x17, Uv x18] 64), pt b20 (Cs #[Iv x17, Uv x18] 64), pt b6 (Cs #[Iv 0, Iv 0] 23), pt b13 (Cs #[Iv x15, Uv x16] 64), pt b14 (Cs #[Iv x17, Uv x18] 64)]) rfl
       clear hS1
       exact O.nil ⟨rfl, hf.to trivial, (fun d hd => by cases (show some 45 = some d from hd); exact hf.get _ _ rfl), (Or.inr (Or.inr (Or.inr (Or.inl ⟨h2_, h8_, h15_, hS⟩))))⟩
      ·exact absurd ((hsb 15 (by simp)).symm.trans h15_) (by decide)
     ·intro s g w hsp hsb hD a hf
      obtain ⟨b20, b23⟩ := g
      rcases hD with (⟨h2_, h8_, h15_, hD⟩ | ⟨h2_, h8_, h15_, hD⟩ | ⟨h2_, h8_, h15_, hD⟩ | ⟨h2_, h8_, h15_, hD⟩ | ⟨h2_, h8_, h15_, hD⟩)
      ·have hS : St w0 w noX [] [pt b6 (Cs #[Iv 0, Iv 0] 23), pt b13 (Cs #[Iv x15, Uv x16] 64), pt b14 (Cs #[Iv x17, Uv x18] 64)] := hD; clear hD
       replace hf : Fr a 55 [] [(6, Pv b6 0), (9, Pv b13 0), (10, Pv b14 0), (11, Uv x19)] := hf
       refine O.val hf rfl rfl rfl (RunV.loadN (cs' := #[Iv x15, Uv x16]) T_agg_64 T_size_64 rfl (hS.ptAt (i := 1) rfl) (Nat.le_of_ble_eq_true rfl) rfl) ?_; clear hf a; intro a hf
       exact O.nil ⟨rfl, hf.to trivial, (fun d hd => by cases (show some 46 = some d from hd); exact hf.get _ _ rfl), (Or.inl ⟨h2_, h8_, h15_, hS⟩)⟩
      ·have hS : St w0 w noX [] [pt b20 (Cs #[Iv x17, Uv x18] 64), pt b6 (Cs #[Iv 0, Iv 0] 23), pt b13 (Cs #[Iv x15, Uv x16] 64), pt b14 (Cs #[Iv x17, Uv x18] 64)] := hD; clear hD
       replace hf : Fr a 55 [] [(6, Pv b6 0), (9, Pv b13 0), (10, Pv b14 0), (11, Uv x19)] := hf
       refine O.val hf rfl rfl rfl (RunV.loadN (cs' := #[Iv x15, Uv x16]) T_agg_64 T_size_64 rfl (hS.ptAt (i := 2) rfl) (Nat.le_of_ble_eq_true rfl) rfl) ?_; clear hf a; intro a hf
       exact O.nil ⟨rfl, hf.to trivial, (fun d hd => by cases (show some 46 = some d from hd); exact hf.get _ _ rfl), (Or.inr (Or.inl ⟨h2_, h8_, h15_, hS⟩))⟩
      ·have hS : St w0 w noX [] [pt b23 (Cs #[Iv x17, Uv x18] 64), pt b6 (Cs #[Iv 0, Iv 0] 23), pt b13 (Cs #[Iv x15, Uv x16] 64), pt b14 (Cs #[Iv x17, Uv x18] 64)] := hD; clear hD
       replace hf : Fr a 55 [] [(6, Pv b6 0), (9, Pv b13 0), (10, Pv b14 0), (11, Uv x19)] := hf
       refine O.val hf rfl rfl rfl (RunV.loadN (cs' := #[Iv x15, Uv x16]) T_agg_64 T_size_64 rfl (hS.ptAt (i := 2) rfl) (Nat.le_of_ble_eq_true rfl) rfl) ?_; clear hf a; intro a hf
       exact O.nil ⟨rfl, hf.to trivial, (fun d hd => by cases (show some 46 = some d from hd); exact hf.get _ _ rfl), (Or.inr (Or.inr (Or.inl ⟨h2_, h8_, h15_, hS⟩)))⟩
      ·have hS : St w0 w noX [] [pt b23 (Cs #[Iv x17, Uv x18] 64), pt b20 (Cs #[Iv x17, Uv x18] 64), pt b6 (Cs #[Iv 0, Iv 0] 23), pt b13 (Cs #[Iv x15, Uv x16] 64), pt b14 (Cs #[Iv x17, Uv x18] 64)] := hD; clear hD
       replace hf : Fr a 55 [] [(6, Pv b6 0), (9, Pv b13 0), (10, Pv b14 0), (11, Uv x19)] := hf
       refine O.val hf rfl rfl rfl (RunV.loadN (cs' := #[Iv x15, Uv x16]) T_agg_64 T_size_64 rfl (hS.ptAt (i := 3) rfl) (Nat.le_of_ble_eq_true rfl) rfl) ?_; clear hf a; intro a hf
       exact O.nil ⟨rfl, hf.to trivial, (fun d hd => by cases (show some 46 = some d from hd); exact hf.get _ _ rfl), (Or.inr (Or.inr (Or.inr (Or.inl ⟨h2_, h8_, h15_, hS⟩))))⟩
      ·exact absurd ((hsb 15 (by simp)).symm.trans h15_) (by decide)
     ·intro s g w hsp hsb hD a hf
      obtain ⟨b20, b23⟩ := g
      rcases hD with (⟨h2_, h8_, h15_, hD⟩ | ⟨h2_, h8_, h15_, hD⟩ | ⟨h2_, h8_, h15_, hD⟩ | ⟨h2_, h8_, h15_, hD⟩ | ⟨h2_, h8_, h15_, hD⟩)
      ·have hS : St w0 w noX [] [pt b6 (Cs #[Iv 0, Iv 0] 23), pt b13 (Cs #[Iv x15, Uv x16] 64), pt b14 (Cs #[Iv x17, Uv x18] 64)] := hD; clear hD
       replace hf : Fr a 55 [] [(6, Pv b6 0), (9, Pv b13 0), (10, Pv b14 0), (11, Uv x19)] := hf
       refine O.val hf rfl rfl rfl (RunV.loadN (cs' := #[Iv x17, Uv x18]) T_agg_64 T_size_64 rfl (hS.ptAt (i := 2) rfl) (Nat.le_of_ble_eq_true rfl) rfl) ?_; clear hf a; intro a hf
       exact O.nil ⟨rfl, hf.to trivial, (fun d hd => by cases (show some 47 = some d from hd); exact hf.get _ _ rfl), (Or.inl ⟨h2_, h8_, h15_, hS⟩)⟩
      ·have hS : St w0 w noX [] [pt b20 (Cs #[Iv x17, Uv x18] 64), pt b6 (Cs #[Iv 0, Iv 0] 23), pt b13 (Cs #[Iv x15, Uv x16] 64), pt b14 (Cs #[Iv x17, Uv x18] 64)] := hD; clear hD
       replace hf : Fr a 55 [] [(6, Pv b6 0), (9, Pv b13 0), (10, Pv b14 0), (11, Uv x19)] := hf
       refine O.val hf rfl rfl rfl (RunV.loadN (cs' := #[Iv x17, Uv x18]) T_agg_64 T_size_64 rfl (hS.ptAt (i := 3) rfl) (Nat.le_of_ble_eq_true rfl) rfl) ?_; clear hf a; intro a hf
       exact O.nil ⟨rfl, hf.to trivial, (fun d hd => by cases (show some 47 = some d from hd); exact hf.get _ _ rfl), (Or.inr (Or.inl ⟨h2_, h8_, h15_, hS⟩))⟩
      ·exact absurd ((hsb 8 (by simp)).symm.trans h8_) (by decide)
      ·exact absurd ((hsb 8 (by simp)).symm.trans h8_) (by decide)
      ·exact absurd ((hsb 8 (by simp)).symm.trans h8_) (by decide)
     ·intro s g w hsp hsb hD a hf
      obtain ⟨b20, b23⟩ := g
      rcases hD with (⟨h2_, h8_, h15_, hD⟩ | ⟨h2_, h8_, h15_, hD⟩ | ⟨h2_, h8_, h15_, hD⟩ | ⟨h2_, h8_, h15_, hD⟩ | ⟨h2_, h8_, h15_, hD⟩)
      ·exact absurd ((hsp 2 (by simp)).symm.trans h2_) (by decide)
      ·exact absurd ((hsp 8 (by simp)).symm.trans h8_) (by decide)
      ·exact absurd ((hsp 2 (by simp)).symm.trans h2_) (by decide)
      ·have hS : St w0 w noX [] [pt b23 (Cs #[Iv x17, Uv x18] 64), pt b20 (Cs #[Iv x17, Uv x18] 64), pt b6 (Cs #[Iv 0, Iv 0] 23), pt b13 (Cs #[Iv x15, Uv x16] 64), pt b14 (Cs #[Iv x17, Uv x18] 64)] := hD; clear hD
       replace hf : Fr a 55 [] [(45, Iv x22), (46, .agg #[Iv x15, Uv x16]), (48, .slice (some ⟨b23, 0, none⟩) 1 1), (6, Pv b6 0), (9, Pv b13 0), (10, Pv b14 0), (11, Uv x19)] := hf
       refine O.callR hf rfl rfl rfl (RunE.call (av := #[.agg #[Iv x15, Uv x16], .slice (some ⟨b23, 0, none⟩) 1 1]) C_ok_31 rfl rfl rfl) (m_span_greatest_ok F x15 x16 b23 x17 x18 _ (hS.ptAt (i := 0) rfl) x24 hx24) ?_
       clear hf a; rintro _ w hS1 a hf
       replace hf : Fr a _ _ ((49, .agg #[Iv x24.1, Uv x24.2]) :: _) := hf
       replace hS := (hS.call hS1).eqM (N := [pt b23 (Cs #[Iv x17, Uv x18] 64), pt b20 (Cs #[Iv x17, Uv x18] 64), pt b6 (Cs #[Iv 0, Iv 0] 23), pt b13 (Cs #[Iv x15, Uv x16] 64), pt b14 (Cs #[Iv x17, Uv x18] 64)]) rfl
       clear hS1
       exact O.nil ⟨rfl, hf.to trivial, (fun d hd => by cases (show some 49 = some d from hd); exact hf.get _ _ rfl), (Or.inr (Or.inr (Or.inr (Or.inl ⟨h2_, h8_, h15_, hS⟩))))⟩
      ·exact absurd ((hsb 15 (by simp)).symm.trans h15_) (by decide)
     ·intro s g w hsp hsb hD a hf
      obtain ⟨b20, b23⟩ := g
      rcases hD with (⟨h2_, h8_, h15_, hD⟩ | ⟨h2_, h8_, h15_, hD⟩ | ⟨h2_, h8_, h15_, hD⟩ | ⟨h2_, h8_, h15_, hD⟩ | ⟨h2_, h8_, h15_, hD⟩)
      ·have hS : St w0 w noX [] [pt b6 (Cs #[Iv 0, Iv 0] 23), pt b13 (Cs #[Iv x15, Uv x16] 64), pt b14 (Cs #[Iv x17, Uv x18] 64)] := hD; clear hD
       replace hf : Fr a 55 [] [(6, Pv b6 0), (9, Pv b13 0), (10, Pv b14 0), (11, Uv x19)] := hf
       refine O.val hf rfl rfl rfl (RunV.move rfl) ?_; clear hf a; intro a hf
       exact O.nil ⟨rfl, hf.to trivial, (fun d hd => by cases (show some 50 = some d from hd); exact hf.get _ _ rfl), (Or.inl ⟨h2_, h8_, h15_, hS⟩)⟩
      ·have hS : St w0 w noX [] [pt b20 (Cs #[Iv x17, Uv x18] 64), pt b6 (Cs #[Iv 0, Iv 0] 23), pt b13 (Cs #[Iv x15, Uv x16] 64), pt b14 (Cs #[Iv x17, Uv x18] 64)] := hD; clear hD
       replace hf : Fr a 55 [] [(6, Pv b6 0), (9, Pv b13 0), (10, Pv b14 0), (11, Uv x19)] := hf
       refine O.val hf rfl rfl rfl (RunV.move rfl) ?_; clear hf a; intro a hf
       exact O.nil ⟨rfl, hf.to trivial, (fun d hd => by cases (show some 50 = some d from hd); exact hf.get _ _ rfl), (Or.inr (Or.inl ⟨h2_, h8_, h15_, hS⟩))⟩
      ·have hS : St w0 w noX [] [pt b23 (Cs #[Iv x17, Uv x18] 64), pt b6 (Cs #[Iv 0, Iv 0] 23), pt b13 (Cs #[Iv x15, Uv x16] 64), pt b14 (Cs #[Iv x17, Uv x18] 64)] := hD; clear hD
       replace hf : Fr a 55 [] [(6, Pv b6 0), (9, Pv b13 0), (10, Pv b14 0), (11, Uv x19)] := hf
       refine O.val hf rfl rfl rfl (RunV.move rfl) ?_; clear hf a; intro a hf
       exact O.nil ⟨rfl, hf.to trivial, (fun d hd => by cases (show some 50 = some d from hd); exact hf.get _ _ rfl), (Or.inr (Or.inr (Or.inl ⟨h2_, h8_, h15_, hS⟩)))⟩
      ·have hS : St w0 w noX [] [pt b23 (Cs #[Iv x17, Uv x18] 64), pt b20 (Cs #[Iv x17, Uv x18] 64), pt b6 (Cs #[Iv 0, Iv 0] 23), pt b13 (Cs #[Iv x15, Uv x16] 64), pt b14 (Cs #[Iv x17, Uv x18] 64)] := hD; clear hD
       replace hf : Fr a 55 [] [(6, Pv b6 0), (9, Pv b13 0), (10, Pv b14 0), (11, Uv x19)] := hf
       refine O.val hf rfl rfl rfl (RunV.move rfl) ?_; clear hf a; intro a hf
       exact O.nil ⟨rfl, hf.to trivial, (fun d hd => by cases (show some 50 = some d from hd); exact hf.get _ _ rfl), (Or.inr (Or.inr (Or.inr (Or.inl ⟨h2_, h8_, h15_, hS⟩))))⟩
      ·exact absurd ((hsb 15 (by simp)).symm.trans h15_) (by decide)
     ·intro s g w hsp hsb hD a hf
      obtain ⟨b20, b23⟩ := g
      rcases hD with (⟨h2_, h8_, h15_, hD⟩ | ⟨h2_, h8_, h15_, hD⟩ | ⟨h2_, h8_, h15_, hD⟩ | ⟨h2_, h8_, h15_, hD⟩ | ⟨h2_, h8_, h15_, hD⟩)
      ·exact absurd ((hsp 2 (by simp)).symm.trans h2_) (by decide)
      ·exact absurd ((hsp 8 (by simp)).symm.trans h8_) (by decide)
      ·exact absurd ((hsp 2 (by simp)).symm.trans h2_) (by decide)
      ·have hS : St w0 w noX [] [pt b23 (Cs #[Iv x17, Uv x18] 64), pt b20 (Cs #[Iv x17, Uv x18] 64), pt b6 (Cs #[Iv 0, Iv 0] 23), pt b13 (Cs #[Iv x15, Uv x16] 64), pt b14 (Cs #[Iv x17, Uv x18] 64)] := hD; clear hD
       replace hf : Fr a 55 [] [(49, .agg #[Iv x24.1, Uv x24.2]), (50, Uv x19), (6, Pv b6 0), (9, Pv b13 0), (10, Pv b14 0), (11, Uv x19)] := hf
       refine O.callR hf rfl rfl rfl (RunE.call (av := #[.agg #[Iv x24.1, Uv x24.2], Uv x19]) C_ok_32 rfl rfl rfl) (m_span_twin_up_4_ok F x24.1 x24.2 x19 _ x25 hx25) ?_
       clear hf a; rintro _ w hS1 a hf
       replace hf : Fr a _ _ ((51, Iv x25) :: _) := hf
       replace hS := (hS.call hS1).eqM (N := [pt b23 (Cs #[Iv x17, Uv x18] 64), pt b20 (Cs #[Iv x17, Uv x18] 64), pt b6 (Cs #[Iv 0, Iv 0] 23), pt b13 (Cs #[Iv x15, Uv x16] 64), pt b14 (Cs #[Iv x17, Uv x18] 64)]) rfl
       clear hS1
       exact O.nil ⟨rfl, hf.to trivial, (fun d hd => by cases (show some 51 = some d from hd); exact hf.get _ _ rfl), (Or.inr (Or.inr (Or.inr (Or.inl ⟨h2_, h8_, h15_, hS⟩))))⟩
      ·exact absurd ((hsb 15 (by simp)).symm.trans h15_) (by decide)
     ·intro s g w hsp hsb hD a hf
      obtain ⟨b20, b23⟩ := g
      rcases hD with (⟨h2_, h8_, h15_, hD⟩ | ⟨h2_, h8_, h15_, hD⟩ | ⟨h2_, h8_, h15_, hD⟩ | ⟨h2_, h8_, h15_, hD⟩ | ⟨h2_, h8_, h15_, hD⟩)
      ·exact absurd ((hsp 2 (by simp)).symm.trans h2_) (by decide)
      ·exact absurd ((hsp 8 (by simp)).symm.trans h8_) (by decide)
      ·exact absurd ((hsp 2 (by simp)).symm.trans h2_) (by decide)
      ·have hS : St w0 w noX [] [pt b23 (Cs #[Iv x17, Uv x18] 64), pt b20 (Cs #[Iv x17, Uv x18] 64), pt b6 (Cs #[Iv 0, Iv 0] 23), pt b13 (Cs #[Iv x15, Uv x16] 64), pt b14 (Cs #[Iv x17, Uv x18] 64)] := hD; clear hD
       replace hf : Fr a 55 [] [(45, Iv x22), (51, Iv x25), (6, Pv b6 0), (9, Pv b13 0), (10, Pv b14 0), (11, Uv x19)] := hf
       refine O.callR hf rfl rfl rfl (RunE.call (av := #[Iv x22, Iv x25]) C_ok_28 rfl rfl rfl) (m_span_made_ok F x22 x25 _ x26 hx26) ?_
       clear hf a; rintro _ w hS1 a hf
       replace hf : Fr a _ _ ((52, .tuple #[.agg #[Iv x26.1, Iv x26.2.1], Iv x26.2.2]) :: _) := hf
       replace hS := (hS.call hS1).eqM (N := [pt b23 (Cs #[Iv x17, Uv x18] 64), pt b20 (Cs #[Iv x17, Uv x18] 64), pt b6 (Cs #[Iv 0, Iv 0] 23), pt b13 (Cs #[Iv x15, Uv x16] 64), pt b14 (Cs #[Iv x17, Uv x18] 64)]) rfl
       clear hS1
       exact O.nil ⟨rfl, hf.to trivial, (fun d hd => by cases (show some 52 = some d from hd); exact hf.get _ _ rfl), (Or.inr (Or.inr (Or.inr (Or.inl ⟨h2_, h8_, h15_, hS⟩))))⟩
      ·exact absurd ((hsb 15 (by simp)).symm.trans h15_) (by decide)
     ·intro s g w hsp hsb hD a hf
      obtain ⟨b20, b23⟩ := g
      rcases hD with (⟨h2_, h8_, h15_, hD⟩ | ⟨h2_, h8_, h15_, hD⟩ | ⟨h2_, h8_, h15_, hD⟩ | ⟨h2_, h8_, h15_, hD⟩ | ⟨h2_, h8_, h15_, hD⟩)
      ·exact absurd ((hsp 2 (by simp)).symm.trans h2_) (by decide)
      ·exact absurd ((hsp 8 (by simp)).symm.trans h8_) (by decide)
      ·exact absurd ((hsp 2 (by simp)).symm.trans h2_) (by decide)
      ·have hS : St w0 w noX [] [pt b23 (Cs #[Iv x17, Uv x18] 64), pt b20 (Cs #[Iv x17, Uv x18] 64), pt b6 (Cs #[Iv 0, Iv 0] 23), pt b13 (Cs #[Iv x15, Uv x16] 64), pt b14 (Cs #[Iv x17, Uv x18] 64)] := hD; clear hD
       replace hf : Fr a 55 [] [(52, .tuple #[.agg #[Iv x26.1, Iv x26.2.1], Iv x26.2.2]), (6, Pv b6 0), (9, Pv b13 0), (10, Pv b14 0), (11, Uv x19)] := hf
       refine O.val hf rfl rfl rfl (RunV.extract rfl rfl) ?_; clear hf a; intro a hf
       exact O.nil ⟨rfl, hf.to trivial, (fun d hd => by cases (show some 53 = some d from hd); exact hf.get _ _ rfl), (Or.inr (Or.inr (Or.inr (Or.inl ⟨h2_, h8_, h15_, hS⟩))))⟩
      ·exact absurd ((hsb 15 (by simp)).symm.trans h15_) (by decide)
     ·intro s g w hsp hsb hD a hf
      obtain ⟨b20, b23⟩ := g
      rcases hD with (⟨h2_, h8_, h15_, hD⟩ | ⟨h2_, h8_, h15_, hD⟩ | ⟨h2_, h8_, h15_, hD⟩ | ⟨h2_, h8_, h15_, hD⟩ | ⟨h2_, h8_, h15_, hD⟩)
      ·exact absurd ((hsp 2 (by simp)).symm.trans h2_) (by decide)
      ·exact absurd ((hsp 8 (by simp)).symm.trans h8_) (by decide)
      ·exact absurd ((hsp 2 (by simp)).symm.trans h2_) (by decide)
      ·have hS : St w0 w noX [] [pt b23 (Cs #[Iv x17, Uv x18] 64), pt b20 (Cs #[Iv x17, Uv x18] 64), pt b6 (Cs #[Iv 0, Iv 0] 23), pt b13 (Cs #[Iv x15, Uv x16] 64), pt b14 (Cs #[Iv x17, Uv x18] 64)] := hD; clear hD
       replace hf : Fr a 55 [] [(52, .tuple #[.agg #[Iv x26.1, Iv x26.2.1], Iv x26.2.2]), (6, Pv b6 0), (9, Pv b13 0), (10, Pv b14 0), (11, Uv x19)] := hf
       refine O.val hf rfl rfl rfl (RunV.extract rfl rfl) ?_; clear hf a; intro a hf
       exact O.nil ⟨rfl, hf.to trivial, (fun d hd => by cases (show some 54 = some d from hd); exact hf.get _ _ rfl), (Or.inr (Or.inr (Or.inr (Or.inl ⟨h2_, h8_, h15_, hS⟩))))⟩
      ·exact absurd ((hsb 15 (by simp)).symm.trans h15_) (by decide)
     ·intro s g w hsp hsb hD a hf
      obtain ⟨b20, b23⟩ := g
      rcases hD with (⟨h2_, h8_, h15_, hD⟩ | ⟨h2_, h8_, h15_, hD⟩ | ⟨h2_, h8_, h15_, hD⟩ | ⟨h2_, h8_, h15_, hD⟩ | ⟨h2_, h8_, h15_, hD⟩)
      ·exact absurd ((hsp 2 (by simp)).symm.trans h2_) (by decide)
      ·exact absurd ((hsp 8 (by simp)).symm.trans h8_) (by decide)
      ·exact absurd ((hsp 2 (by simp)).symm.trans h2_) (by decide)
      ·exact absurd ((hsp 15 (by simp)).symm.trans h15_) (by decide)
      ·have hS : St w0 w noX [] [pt b23 (Cs #[Iv x17, Uv x18] 64), pt b20 (Cs #[Iv x17, Uv x18] 64), pt b6 (Cs #[Iv x26.1, Iv x26.2.1] 23), pt b13 (Cs #[Iv x15, Uv x16] 64), pt b14 (Cs #[Iv x17, Uv x18] 64)] := hD; clear hD
       replace hf : Fr a 55 [] [(40, .agg #[Iv x15, Uv x16]), (41, .agg #[Iv x17, Uv x18]), (42, .slice (some ⟨b20, 0, none⟩) 1 1), (43, .agg #[Iv x21.1, Uv x21.2]), (44, Uv x19), (45, Iv x22), (46, .agg #[Iv x15, Uv x16]), (47, .agg #[Iv x17, Uv x18]), (48, .slice (some ⟨b23, 0, none⟩) 1 1), (49, .agg #[Iv x24.1, Uv x24.2]), (50, Uv x19), (51, Iv x25), (52, .tuple #[.agg #[Iv x26.1, Iv x26.2.1], Iv x26.2.2]), (53, .agg #[Iv x26.1, Iv x26.2.1]), (54, Iv x26.2.2), (6, Pv b6 0), (9, Pv b13 0), (10, Pv b14 0), (11, Uv x19)] := hf
       refine O.val hf rfl rfl rfl (RunV.assign rfl) ?_; clear hf a; intro a hf
       exact O.nil ⟨rfl, hf.to trivial, (fun d hd => by cases (show some 7 = some d from hd); exact hf.get _ _ rfl), (Or.inr (Or.inr (Or.inr (Or.inr ⟨h2_, h8_, h15_, hS⟩))))⟩
    ·clear hf hf1 hS
     refine ⟨?_, ?_, ?_, trivial⟩
     ·intro s g w hs0 hsp hsb hD a hf
      obtain ⟨b20, b23⟩ := g
      rcases hD with (⟨h2_, h8_, h15_, hD⟩ | ⟨h2_, h8_, h15_, hD⟩ | ⟨h2_, h8_, h15_, hD⟩ | ⟨h2_, h8_, h15_, hD⟩ | ⟨h2_, h8_, h15_, hD⟩)
      ·have hS : St w0 w noX [] [pt b6 (Cs #[Iv 0, Iv 0] 23), pt b13 (Cs #[Iv x15, Uv x16] 64), pt b14 (Cs #[Iv x17, Uv x18] 64)] := hD; clear hD
       replace hf : Fr a 55 [] [(41, .agg #[Iv x17, Uv x18]), (6, Pv b6 0), (9, Pv b13 0), (10, Pv b14 0), (11, Uv x19)] := hf
       refine O.buildSlice (cs' := #[Iv x17, Uv x18]) (zs := #[Iv 0, Uv 0]) hf hS rfl rfl T_elem_82 T_size_64 T_zero_64 rfl rfl rfl rfl rfl ?_
       clear hf hS a; intro b20 w a hb20 hS hf
       exact O.nil ⟨rfl, (b20, b23), hf.to trivial, (fun d hd => by cases (show some 42 = some d from hd); exact hf.get _ _ rfl), (fun j hj hk => match j, hj, hk with | 0, hj, hk => rfl | 1, hj, hk => rfl | 2, hj, hk => absurd rfl hj | 3, hj, hk => absurd hk (by decide) | 4, hj, hk => rfl | 5, hj, hk => absurd hk (by decide) | 6, hj, hk => rfl | 7, hj, hk => rfl | 8, hj, hk => rfl | 9, hj, hk => absurd hk (by decide) | 10, hj, hk => rfl | 11, hj, hk => absurd hk (by decide) | 12, hj, hk => absurd hk (by decide) | 13, hj, hk => absurd hk (by decide) | 14, hj, hk => absurd hk (by decide) | 15, hj, hk => absurd hk (by decide) | 16, hj, hk => absurd hk (by decide) | _ + 17, _, _ => rfl), (Or.inr (Or.inl ⟨rfl, h8_, h15_, hS⟩))⟩
      ·exact absurd (hs0.symm.trans h2_) (by decide)
      ·have hS : St w0 w noX [] [pt b23 (Cs #[Iv x17, Uv x18] 64), pt b6 (Cs #[Iv 0, Iv 0] 23), pt b13 (Cs #[Iv x15, Uv x16] 64), pt b14 (Cs #[Iv x17, Uv x18] 64)] := hD; clear hD
       replace hf : Fr a 55 [] [(41, .agg #[Iv x17, Uv x18]), (6, Pv b6 0), (9, Pv b13 0), (10, Pv b14 0), (11, Uv x19)] := hf
       refine O.buildSlice (cs' := #[Iv x17, Uv x18]) (zs := #[Iv 0, Uv 0]) hf hS rfl rfl T_elem_82 T_size_64 T_zero_64 rfl rfl rfl rfl rfl ?_
       clear hf hS a; intro b20 w a hb20 hS hf
       replace hS := hS.front (i := 4) (M' := [pt b14 (Cs #[Iv x17, Uv x18] 64), pt b20 (Cs #[Iv x17, Uv x18] 64), pt b23 (Cs #[Iv x17, Uv x18] 64), pt b6 (Cs #[Iv 0, Iv 0] 23), pt b13 (Cs #[Iv x15, Uv x16] 64)]) rfl rfl
       replace hS := hS.front (i := 4) (M' := [pt b13 (Cs #[Iv x15, Uv x16] 64), pt b14 (Cs #[Iv x17, Uv x18] 64), pt b20 (Cs #[Iv x17, Uv x18] 64), pt b23 (Cs #[Iv x17, Uv x18] 64), pt b6 (Cs #[Iv 0, Iv 0] 23)]) rfl rfl
       replace hS := hS.front (i := 4) (M' := [pt b6 (Cs #[Iv 0, Iv 0] 23), pt b13 (Cs #[Iv x15, Uv x16] 64), pt b14 (Cs #[Iv x17, Uv x18] 64), pt b20 (Cs #[Iv x17, Uv x18] 64), pt b23 (Cs #[Iv x17, Uv x18] 64)]) rfl rfl
       replace hS := hS.front (i := 3) (M' := [pt b20 (Cs #[Iv x17, Uv x18] 64), pt b6 (Cs #[Iv 0, Iv 0] 23), pt b13 (Cs #[Iv x15, Uv x16] 64), pt b14 (Cs #[Iv x17, Uv x18] 64), pt b23 (Cs #[Iv x17, Uv x18] 64)]) rfl rfl
       replace hS := hS.front (i := 4) (M' := [pt b23 (Cs #[Iv x17, Uv x18] 64), pt b20 (Cs #[Iv x17, Uv x18] 64), pt b6 (Cs #[Iv 0, Iv 0] 23), pt b13 (Cs #[Iv x15, Uv x16] 64), pt b14 (Cs #[Iv x17, Uv x18] 64)]) rfl rfl
       exact O.nil ⟨rfl, (b20, b23), hf.to trivial, (fun d hd => by cases (show some 42 = some d from hd); exact hf.get _ _ rfl), (fun j hj hk => match j, hj, hk with | 0, hj, hk => rfl | 1, hj, hk => rfl | 2, hj, hk => absurd rfl hj | 3, hj, hk => absurd hk (by decide) | 4, hj, hk => rfl | 5, hj, hk => absurd hk (by decide) | 6, hj, hk => rfl | 7, hj, hk => rfl | 8, hj, hk => rfl | 9, hj, hk => absurd hk (by decide) | 10, hj, hk => rfl | 11, hj, hk => absurd hk (by decide) | 12, hj, hk => absurd hk (by decide) | 13, hj, hk => absurd hk (by decide) | 14, hj, hk => absurd hk (by decide) | 15, hj, hk => absurd hk (by decide) | 16, hj, hk => absurd hk (by decide) | _ + 17, _, _ => rfl), (Or.inr (Or.inr (Or.inr (Or.inl ⟨rfl, h8_, h15_, hS⟩))))⟩
      ·exact absurd (hs0.symm.trans h2_) (by decide)
      ·exact absurd (hs0.symm.trans h2_) (by decide)
     ·intro s g w hs0 hsp hsb hD a hf
      obtain ⟨b20, b23⟩ := g
      rcases hD with (⟨h2_, h8_, h15_, hD⟩ | ⟨h2_, h8_, h15_, hD⟩ | ⟨h2_, h8_, h15_, hD⟩ | ⟨h2_, h8_, h15_, hD⟩ | ⟨h2_, h8_, h15_, hD⟩)
      ·have hS : St w0 w noX [] [pt b6 (Cs #[Iv 0, Iv 0] 23), pt b13 (Cs #[Iv x15, Uv x16] 64), pt b14 (Cs #[Iv x17, Uv x18] 64)] := hD; clear hD
       replace hf : Fr a 55 [] [(47, .agg #[Iv x17, Uv x18]), (6, Pv b6 0), (9, Pv b13 0), (10, Pv b14 0), (11, Uv x19)] := hf
       refine O.buildSlice (cs' := #[Iv x17, Uv x18]) (zs := #[Iv 0, Uv 0]) hf hS rfl rfl T_elem_82 T_size_64 T_zero_64 rfl rfl rfl rfl rfl ?_
       clear hf hS a; intro b23 w a hb23 hS hf
       exact O.nil ⟨rfl, (b20, b23), hf.to trivial, (fun d hd => by cases (show some 48 = some d from hd); exact hf.get _ _ rfl), (fun j hj hk => match j, hj, hk with | 0, hj, hk => rfl | 1, hj, hk => rfl | 2, hj, hk => rfl | 3, hj, hk => rfl | 4, hj, hk => rfl | 5, hj, hk => rfl | 6, hj, hk => rfl | 7, hj, hk => rfl | 8, hj, hk => absurd rfl hj | 9, hj, hk => absurd hk (by decide) | 10, hj, hk => rfl | 11, hj, hk => absurd hk (by decide) | 12, hj, hk => absurd hk (by decide) | 13, hj, hk => absurd hk (by decide) | 14, hj, hk => absurd hk (by decide) | 15, hj, hk => absurd hk (by decide) | 16, hj, hk => absurd hk (by decide) | _ + 17, _, _ => rfl), (Or.inr (Or.inr (Or.inl ⟨h2_, rfl, h15_, hS⟩)))⟩
      ·have hS : St w0 w noX [] [pt b20 (Cs #[Iv x17, Uv x18] 64), pt b6 (Cs #[Iv 0, Iv 0] 23), pt b13 (Cs #[Iv x15, Uv x16] 64), pt b14 (Cs #[Iv x17, Uv x18] 64)] := hD; clear hD
       replace hf : Fr a 55 [] [(47, .agg #[Iv x17, Uv x18]), (6, Pv b6 0), (9, Pv b13 0), (10, Pv b14 0), (11, Uv x19)] := hf
       refine O.buildSlice (cs' := #[Iv x17, Uv x18]) (zs := #[Iv 0, Uv 0]) hf hS rfl rfl T_elem_82 T_size_64 T_zero_64 rfl rfl rfl rfl rfl ?_
       clear hf hS a; intro b23 w a hb23 hS hf
       exact O.nil ⟨rfl, (b20, b23), hf.to trivial, (fun d hd => by cases (show some 48 = some d from hd); exact hf.get _ _ rfl), (fun j hj hk => match j, hj, hk with | 0, hj, hk => rfl | 1, hj, hk => rfl | 2, hj, hk => rfl | 3, hj, hk => rfl | 4, hj, hk => rfl | 5, hj, hk => rfl | 6, hj, hk => rfl | 7, hj, hk => rfl | 8, hj, hk => absurd rfl hj | 9, hj, hk => absurd hk (by decide) | 10, hj, hk => rfl | 11, hj, hk => absurd hk (by decide) | 12, hj, hk => absurd hk (by decide) | 13, hj, hk => absurd hk (by decide) | 14, hj, hk => absurd hk (by decide) | 15, hj, hk => absurd hk (by decide) | 16, hj, hk => absurd hk (by decide) | _ + 17, _, _ => rfl), (Or.inr (Or.inr (Or.inr (Or.inl ⟨h2_, rfl, h15_, hS⟩))))⟩
      ·exact absurd (hs0.symm.trans h8_) (by decide)
      ·exact absurd (hs0.symm.trans h8_) (by decide)
      ·exact absurd (hs0.symm.trans h8_) (by decide)
     ·intro s g w hs0 hsp hsb hD a hf
      obtain ⟨b20, b23⟩ := g
      rcases hD with (⟨h2_, h8_, h15_, hD⟩ | ⟨h2_, h8_, h15_, hD⟩ | ⟨h2_, h8_, h15_, hD⟩ | ⟨h2_, h8_, h15_, hD⟩ | ⟨h2_, h8_, h15_, hD⟩)
      ·exact absurd ((hsp 2 (by simp)).symm.trans h2_) (by decide)
      ·exact absurd ((hsp 8 (by simp)).symm.trans h8_) (by decide)
      ·exact absurd ((hsp 2 (by simp)).symm.trans h2_) (by decide)
      ·have hS : St w0 w noX [] [pt b23 (Cs #[Iv x17, Uv x18] 64), pt b20 (Cs #[Iv x17, Uv x18] 64), pt b6 (Cs #[Iv 0, Iv 0] 23), pt b13 (Cs #[Iv x15, Uv x16] 64), pt b14 (Cs #[Iv x17, Uv x18] 64)] := hD; clear hD
       replace hf : Fr a 55 [] [(40, .agg #[Iv x15, Uv x16]), (41, .agg #[Iv x17, Uv x18]), (42, .slice (some ⟨b20, 0, none⟩) 1 1), (43, .agg #[Iv x21.1, Uv x21.2]), (44, Uv x19), (45, Iv x22), (46, .agg #[Iv x15, Uv x16]), (47, .agg #[Iv x17, Uv x18]), (48, .slice (some ⟨b23, 0, none⟩) 1 1), (49, .agg #[Iv x24.1, Uv x24.2]), (50, Uv x19), (51, Iv x25), (52, .tuple #[.agg #[Iv x26.1, Iv x26.2.1], Iv x26.2.2]), (53, .agg #[Iv x26.1, Iv x26.2.1]), (54, Iv x26.2.2), (6, Pv b6 0), (9, Pv b13 0), (10, Pv b14 0), (11, Uv x19)] := hf
       refine O.store (j := 2) (cs' := #[Iv x26.1, Iv x26.2.1]) (M' := [pt b23 (Cs #[Iv x17, Uv x18] 64), pt b20 (Cs #[Iv x17, Uv x18] 64), pt b6 (Cs #[Iv x26.1, Iv x26.2.1] 23), pt b13 (Cs #[Iv x15, Uv x16] 64), pt b14 (Cs #[Iv x17, Uv x18] 64)]) hf hS rfl rfl rfl T_size_23 rfl rfl rfl (Nat.le_of_ble_eq_true rfl) rfl rfl ?_
       clear hS; intro w hS
       exact O.nil ⟨rfl, (b20, b23), hf.to trivial, (fun d hd => by cases (show none = some d from hd)), (fun j hj hk => match j, hj, hk with | 0, hj, hk => rfl | 1, hj, hk => rfl | 2, hj, hk => rfl | 3, hj, hk => rfl | 4, hj, hk => rfl | 5, hj, hk => rfl | 6, hj, hk => rfl | 7, hj, hk => rfl | 8, hj, hk => rfl | 9, hj, hk => rfl | 10, hj, hk => rfl | 11, hj, hk => rfl | 12, hj, hk => rfl | 13, hj, hk => rfl | 14, hj, hk => rfl | 15, hj, hk => absurd rfl hj | 16, hj, hk => absurd hk (by decide) | _ + 17, _, _ => rfl), (Or.inr (Or.inr (Or.inr (Or.inr ⟨h2_, h8_, rfl, hS⟩))))⟩
      ·exact absurd (hs0.symm.trans h15_) (by decide)
    clear hf hf1 hS; intro s g a w hs hf hD
    obtain ⟨b20, b23⟩ := g
    rcases hD with (⟨h2_, h8_, h15_, hD⟩ | ⟨h2_, h8_, h15_, hD⟩ | ⟨h2_, h8_, h15_, hD⟩ | ⟨h2_, h8_, h15_, hD⟩ | ⟨h2_, h8_, h15_, hD⟩)
    · exact absurd ((hs 2 (by simp)).symm.trans h2_) (by decide)
    · exact absurd ((hs 8 (by simp)).symm.trans h8_) (by decide)
    · exact absurd ((hs 2 (by simp)).symm.trans h2_) (by decide)
    · exact absurd ((hs 15 (by simp)).symm.trans h15_) (by decide)
    have hS : St w0 w noX [] [pt b23 (Cs #[Iv x17, Uv x18] 64), pt b20 (Cs #[Iv x17, Uv x18] 64), pt b6 (Cs #[Iv x26.1, Iv x26.2.1] 23), pt b13 (Cs #[Iv x15, Uv x16] 64), pt b14 (Cs #[Iv x17, Uv x18] 64)] := hD; clear hD
    replace hf : Fr a 55 [] [(40, .agg #[Iv x15, Uv x16]), (41, .agg #[Iv x17, Uv x18]), (42, .slice (some ⟨b20, 0, none⟩) 1 1), (43, .agg #[Iv x21.1, Uv x21.2]), (44, Uv x19), (45, Iv x22), (46, .agg #[Iv x15, Uv x16]), (47, .agg #[Iv x17, Uv x18]), (48, .slice (some ⟨b23, 0, none⟩) 1 1), (49, .agg #[Iv x24.1, Uv x24.2]), (50, Uv x19), (51, Iv x25), (52, .tuple #[.agg #[Iv x26.1, Iv x26.2.1], Iv x26.2.2]), (53, .agg #[Iv x26.1, Iv x26.2.1]), (54, Iv x26.2.2), (7, Iv x26.2.2), (6, Pv b6 0), (9, Pv b13 0), (10, Pv b14 0), (11, Uv x19)] := hf
    refine k_seq ?_
    replace hf : Fr a 55 [] [(6, Pv b6 0), (7, Iv x26.2.2)] := hf.to ⟨rfl, rfl, trivial⟩
    refine W.ret ?_
    obtain rfl := Option.some.inj hm
    refine post2 hf rfl (ResOK.cellN (cs' := #[Iv x26.1, Iv x26.2.1]) rfl T_agg_23 T_size_23 (hS.ptAt (i := 2) rfl) (Nat.le_of_ble_eq_true rfl) rfl) (ResOK.tmp rfl) ?_
    replace hS := hS.sub (N := []) (.cons _ (.cons _ (.cons _ (.cons _ (.cons _ .slnil)))))
    exact ⟨(), rfl, hS.noB⟩

def m_cells_sheet_keep_j1 (F : Nat) (x3 : Int) (x4 : Int) (x8 : Int) : Option (Int × Int × Int) :=
  if x8 ≠ (0 : Int) then (some (0, 0, x8)) else (some (x3, x4, x8))
def m_cells_sheet_keep (F : Nat)  (x2 : Int) (x3 : Int) (x4 : Int) (x5 : Int) : Option (Int × Int × Int) :=
  if x2 = (0 : Int) then (m_cells_sheet_keep_j1 F x3 x4 x5) else (m_cells_sheet_keep_j1 F x3 x4 x2)
set_option maxHeartbeats 1000000 in
set_option maxRecDepth 8000 in
theorem m_cells_sheet_keep_ok (F : Nat)   (b1 : Nat) (x2 : Int) (x3 : Int) (x4 : Int) (x5 : Int) (w0 : World) (h_b1 : w0.heap[b1]? = some (.cells #[.func (.func 22) #[] #[], .func (.func 23) #[] #[], .func (.func 24) #[] #[], .func (.func 25) #[] #[], Iv x2] 48 (0, 0))) (r : Int × Int × Int) (hm : m_cells_sheet_keep F x2 x3 x4 x5 = some r) :
    Ret Try.prog 14 #[Pv b1 0, .agg #[Iv x3, Iv x4], Iv x5] w0 (G := Unit) (fun _ => .agg #[Iv r.1, Iv r.2.1]) (fun _ w => St w0 w (fun k => k = b1) [] [pt b1 (Cs #[.func (.func 22) #[] #[], .func (.func 23) #[] #[], .func (.func 24) #[] #[], .func (.func 25) #[] #[], Iv r.2.2] 48)]) := by
 unfold m_cells_sheet_keep at hm
 refine ret_of_W (lv := [Pv b1 0, .agg #[Iv x3, Iv x4], Iv x5]) Try.func14 rfl rfl rfl (fun a hf => ?_)
 replace hf : Fr a 23 [] [(0, Pv b1 0), (1, .agg #[Iv x3, Iv x4]), (2, Iv x5)] := hf
 have hS : St w0 w0 (fun k => k = b1) [] [pt b1 (Cs #[.func (.func 22) #[] #[], .func (.func 23) #[] #[], .func (.func 24) #[] #[], .func (.func 25) #[] #[], Iv x2] 48)] := St.ownPt h_b1 lendAll_nil apart_nil
 refine W.seq ?_
 -- region 0
 refine W.regionL (l := [0, 1]) rfl ?_
 refine O.box (cs := #[Iv x3, Iv x4]) hf hS rfl rfl rfl rfl ?_
 clear hf hS a; intro b6 w a hb6 hS hf
 refine O.alloc (cs := #[Iv 0, Iv 0]) hf hS rfl rfl T_zero_23 rfl ?_
 clear hf hS a; intro b7 w a hb7 hS hf
 refine O.nil ?_
 refine k_seq ?_
 replace hf : Fr a 23 [] [(0, Pv b1 0), (2, Iv x5), (4, Pv b6 0), (6, Pv b7 0)] := hf.to ⟨rfl, rfl, rfl, rfl, trivial⟩
 refine W.seqR (fun a w => ∃ (x8 : Int), Fr a 23 [] [(0, Pv b1 0), (4, Pv b6 0), (6, Pv b7 0)] ∧ St w0 w (fun k => k = b1) [] [pt b1 (Cs #[.func (.func 22) #[] #[], .func (.func 23) #[] #[], .func (.func 24) #[] #[], .func (.func 25) #[] #[], Iv x8] 48), pt b6 (Cs #[Iv x3, Iv x4] 23), pt b7 (Cs #[Iv 0, Iv 0] 23)] ∧ m_cells_sheet_keep_j1 F x3 x4 x8 = some r) ?_ ?_
 ·refine W.seq ?_
  -- region 1
  refine W.regionL (l := [0, 1, 2, 3, 4]) rfl ?_
  refine O.val hf rfl rfl rfl (RunV.move rfl) ?_; clear hf a; intro a hf
  refine O.val hf rfl rfl rfl (RunV.nilCheck rfl) ?_; clear hf a; intro a hf
  refine O.val hf rfl rfl rfl (RunV.field T_field_48_4 rfl rfl) ?_; clear hf a; intro a hf
  refine O.val hf rfl rfl rfl (RunV.load1 T_agg_28 rfl (hS.ptAt (i := 2) rfl) rfl) ?_; clear hf a; intro a hf
  refine O.val (v := Bv (decide (x2 = (0 : Int)))) hf rfl rfl rfl (RunV.eql rfl rfl) ?_; clear hf a; intro a hf
  refine O.nil ?_
  refine k_seq ?_
  replace hf : Fr a 23 [] [(0, Pv b1 0), (2, Iv x5), (4, Pv b6 0), (6, Pv b7 0), (11, Bv (decide (x2 = (0 : Int))))] := hf.to ⟨rfl, rfl, rfl, rfl, rfl, trivial⟩
  refine W.ifdI hf rfl (fun hc10 => ?_) (fun hc10 => ?_)
  ·replace hm := hm_p hm hc10
   -- region 2
   refine W.regionL (l := [0, 1, 2, 3, 4]) rfl ?_
   refine O.val hf rfl rfl rfl (RunV.move rfl) ?_; clear hf a; intro a hf
   refine O.val hf rfl rfl rfl (RunV.move rfl) ?_; clear hf a; intro a hf
   refine O.val hf rfl rfl rfl (RunV.nilCheck rfl) ?_; clear hf a; intro a hf
   refine O.val hf rfl rfl rfl (RunV.field T_field_48_4 rfl rfl) ?_; clear hf a; intro a hf
   refine O.store (j := 2) (cs' := #[.func (.func 22) #[] #[], .func (.func 23) #[] #[], .func (.func 24) #[] #[], .func (.func 25) #[] #[], Iv x5]) (M' := [pt b7 (Cs #[Iv 0, Iv 0] 23), pt b6 (Cs #[Iv x3, Iv x4] 23), pt b1 (Cs #[.func (.func 22) #[] #[], .func (.func 23) #[] #[], .func (.func 24) #[] #[], .func (.func 25) #[] #[], Iv x5] 48)]) hf hS rfl rfl rfl T_size_28 rfl rfl rfl (Nat.le_of_ble_eq_true rfl) rfl rfl ?_
   clear hS; intro w hS
   refine O.nil ?_
   replace hS := hS.front (i := 1) (M' := [pt b6 (Cs #[Iv x3, Iv x4] 23), pt b7 (Cs #[Iv 0, Iv 0] 23), pt b1 (Cs #[.func (.func 22) #[] #[], .func (.func 23) #[] #[], .func (.func 24) #[] #[], .func (.func 25) #[] #[], Iv x5] 48)]) rfl rfl
   replace hS := hS.front (i := 2) (M' := [pt b1 (Cs #[.func (.func 22) #[] #[], .func (.func 23) #[] #[], .func (.func 24) #[] #[], .func (.func 25) #[] #[], Iv x5] 48), pt b6 (Cs #[Iv x3, Iv x4] 23), pt b7 (Cs #[Iv 0, Iv 0] 23)]) rfl rfl
   exact k_then ⟨x5, hf.to ⟨rfl, rfl, rfl, trivial⟩, hS, hm⟩
  ·replace hm := hm_n hm hc10
   refine W.skip ?_
   replace hS := hS.front (i := 1) (M' := [pt b6 (Cs #[Iv x3, Iv x4] 23), pt b7 (Cs #[Iv 0, Iv 0] 23), pt b1 (Cs #[.func (.func 22) #[] #[], .func (.func 23) #[] #[], .func (.func 24) #[] #[], .func (.func 25) #[] #[], Iv x2] 48)]) rfl rfl
   replace hS := hS.front (i := 2) (M' := [pt b1 (Cs #[.func (.func 22) #[] #[], .func (.func 23) #[] #[], .func (.func 24) #[] #[], .func (.func 25) #[] #[], Iv x2] 48), pt b6 (Cs #[Iv x3, Iv x4] 23), pt b7 (Cs #[Iv 0, Iv 0] 23)]) rfl rfl
   exact k_then ⟨x2, hf.to ⟨rfl, rfl, rfl, trivial⟩, hS, hm⟩
 ·clear hf hS hm a; try clear w
  rintro a w ⟨x8, hf, hS, hm⟩
  unfold m_cells_sheet_keep_j1 at hm
  refine W.seq ?_
  refine W.seq ?_
  -- region 3
  refine W.regionL (l := [0, 1, 2, 3, 4]) rfl ?_
  refine O.val hf rfl rfl rfl (RunV.move rfl) ?_; clear hf a; intro a hf
  refine O.val hf rfl rfl rfl (RunV.nilCheck rfl) ?_; clear hf a; intro a hf
  refine O.val hf rfl rfl rfl (RunV.field T_field_48_4 rfl rfl) ?_; clear hf a; intro a hf
  refine O.val hf rfl rfl rfl (RunV.load1 T_agg_28 rfl (hS.ptAt (i := 0) rfl) rfl) ?_; clear hf a; intro a hf
  refine O.val (v := Bv (decide (x8 ≠ (0 : Int)))) hf rfl rfl rfl (RunV.neq rfl rfl) ?_; clear hf a; intro a hf
  refine O.nil ?_
  refine k_seq ?_
  replace hf : Fr a 23 [] [(4, Pv b6 0), (6, Pv b7 0), (20, Bv (decide (x8 ≠ (0 : Int))))] := hf.to ⟨rfl, rfl, rfl, trivial⟩
  refine W.ifdI hf rfl (fun hc9 => ?_) (fun hc9 => ?_)
  ·replace hm := hm_p hm hc9
   refine W.seq ?_
   -- region 4
   refine W.regionL (l := [0, 1]) rfl ?_
   refine O.val (v := .agg #[Iv 0, Iv 0]) hf rfl rfl rfl (RunV.buildS (cs' := #[Iv 0, Iv 0]) T_places_23 T_zero_23 rfl (by kernel_rfl)) ?_; clear hf a; intro a hf
   refine O.store (j := 2) (cs' := #[Iv 0, Iv 0]) (M' := [pt b1 (Cs #[.func (.func 22) #[] #[], .func (.func 23) #[] #[], .func (.func 24) #[] #[], .func (.func 25) #[] #[], Iv x8] 48), pt b6 (Cs #[Iv x3, Iv x4] 23), pt b7 (Cs #[Iv 0, Iv 0] 23)]) hf hS rfl rfl rfl T_size_23 rfl rfl rfl (Nat.le_of_ble_eq_true rfl) rfl rfl ?_
   clear hS; intro w hS
   refine O.nil ?_
   refine k_seq ?_
   replace hf : Fr a 23 [] [(4, Pv b6 0), (6, Pv b7 0)] := hf.to ⟨rfl, rfl, trivial⟩
   refine W.ret ?_
   refine k_then_ret ?_
   obtain rfl := Option.some.inj hm
   refine post1 hf rfl (ResOK.cellN (cs' := #[Iv 0, Iv 0]) rfl T_agg_23 T_size_23 (hS.ptAt (i := 2) rfl) (Nat.le_of_ble_eq_true rfl) rfl) ?_
   replace hS := hS.sub (N := [pt b1 (Cs #[.func (.func 22) #[] #[], .func (.func 23) #[] #[], .func (.func 24) #[] #[], .func (.func 25) #[] #[], Iv x8] 48)]) (.cons_cons _ (.cons _ (.cons _ .slnil)))
   exact ⟨(), rfl, hS.noB⟩
  ·replace hm := hm_n hm hc9
   refine W.skip ?_
   refine k_seq ?_
   replace hf : Fr a 23 [] [(4, Pv b6 0), (6, Pv b7 0)] := hf.to ⟨rfl, rfl, trivial⟩
   refine W.seq ?_
   -- region 5
   refine W.regionL (l := [0, 1]) rfl ?_
   refine O.val hf rfl rfl rfl (RunV.loadN (cs' := #[Iv x3, Iv x4]) T_agg_23 T_size_23 rfl (hS.ptAt (i := 1) rfl) (Nat.le_of_ble_eq_true rfl) rfl) ?_; clear hf a; intro a hf
   refine O.store (j := 2) (cs' := #[Iv x3, Iv x4]) (M' := [pt b1 (Cs #[.func (.func 22) #[] #[], .func (.func 23) #[] #[], .func (.func 24) #[] #[], .func (.func 25) #[] #[], Iv x8] 48), pt b6 (Cs #[Iv x3, Iv x4] 23), pt b7 (Cs #[Iv x3, Iv x4] 23)]) hf hS rfl rfl rfl T_size_23 rfl rfl rfl (Nat.le_of_ble_eq_true rfl) rfl rfl ?_
   clear hS; intro w hS
   refine O.nil ?_
   refine k_seq ?_
   replace hf : Fr a 23 [] [(6, Pv b7 0)] := hf.to ⟨rfl, trivial⟩
   refine W.ret ?_
   obtain rfl := Option.some.inj hm
   refine post1 hf rfl (ResOK.cellN (cs' := #[Iv x3, Iv x4]) rfl T_agg_23 T_size_23 (hS.ptAt (i := 2) rfl) (Nat.le_of_ble_eq_true rfl) rfl) ?_
   replace hS := hS.sub (N := [pt b1 (Cs #[.func (.func 22) #[] #[], .func (.func 23) #[] #[], .func (.func 24) #[] #[], .func (.func 25) #[] #[], Iv x8] 48)]) (.cons_cons _ (.cons _ (.cons _ .slnil)))
   exact ⟨(), rfl, hS.noB⟩

def m_span_check_2_j1 (F : Nat)  : Option Int :=
  some 0
def m_span_check_2 (F : Nat)  (x2 : Int) (x3 : Int) (x4 : Int) (x5 : Int) : Option Int :=
  if (((decide (x2 > (x3 : Int))) || (decide (x2 < (-2305843009213693952 : Int)))) || (decide (x3 > (2305843009213693952 : Int)))) = true then (some 8) else (if (((decide (x4 > (x5 : Int))) || (decide (x4 < (-2305843009213693952 : Int)))) || (decide (x5 > (2305843009213693952 : Int)))) = true then (some 8) else (m_span_check_2_j1 F))
set_option maxHeartbeats 1000000 in
set_option maxRecDepth 8000 in
theorem m_span_check_2_ok (F : Nat)   (b1 : Nat) (x2 : Int) (x3 : Int) (x4 : Int) (x5 : Int) (w0 : World) (h_b1 : w0.heap[b1]? = some (.cells #[Iv x2, Iv x3, Iv x4, Iv x5] 23 (0, 0))) (r : Int) (hm : m_span_check_2 F x2 x3 x4 x5 = some r) :
    Ret Try.prog 21 #[.slice (some ⟨b1, 0, none⟩) 2 2] w0 (G := Unit) (fun _ => Iv r) (fun _ w => St w0 w noX [] []) := by
 unfold m_span_check_2 at hm
 refine ret_of_W (lv := [.slice (some ⟨b1, 0, none⟩) 2 2]) Try.func21 rfl rfl rfl (fun a hf => ?_)
 replace hf : Fr a 27 [] [(0, .slice (some ⟨b1, 0, none⟩) 2 2)] := hf
 have hS : St w0 w0 noX [pt b1 (Cs #[Iv x2, Iv x3, Iv x4, Iv x5] 23)] [] := St.borrow (lendAll_cons (lendPt h_b1) lendAll_nil)
 refine W.seq ?_
 -- region 0
 refine W.regionL (l := [0]) rfl ?_
 refine O.val hf rfl rfl rfl (RunV.assign rfl) ?_; clear hf a; intro a hf
 refine O.nil ?_
 refine k_seq ?_
 refine W.seqR (fun a w => Fr a 27 [] [(2, Iv 0)] ∧ St w0 w noX [pt b1 (Cs #[Iv x2, Iv x3, Iv x4, Iv x5] 23)] [] ∧ m_span_check_2_j1 F = some r) ?_ ?_
 ·refine W.seq ?_
  -- region 1
  refine W.regionL (l := [0, 1, 2]) rfl ?_
  refine O.val hf rfl rfl rfl (RunV.move rfl) ?_; clear hf a; intro a hf
  refine O.val (v := Iv 2) hf rfl rfl rfl (RunV.len (e := 23) (by simpa using T_elem_79) rfl) ?_; clear hf a; intro a hf
  refine O.val hf rfl rfl rfl (RunV.move rfl) ?_; clear hf a; intro a hf
  refine O.nil ?_
  refine k_seq ?_
  replace hf : Fr a 27 [] [(2, Iv 0), (5, .slice (some ⟨b1, 0, none⟩) 2 2), (6, Iv 2), (7, Iv 0)] := hf.to ⟨rfl, rfl, rfl, rfl, trivial⟩
  refine W.block ?_
  refine W.loopH (LH.step ?_)
  refine W.seq ?_
  -- region 2
  refine W.regionL (l := [0]) rfl ?_
  refine O.val (v := Bv true) hf rfl rfl rfl (RunV.lss (p := 0) (q := 2) rfl rfl) ?_; clear hf a; intro a hf
  refine O.nil ?_
  refine k_seq ?_
  refine W.seq ?_
  refine W.if_tt hf rfl ?_
  refine W.skip ?_
  refine k_seq ?_
  refine W.seq ?_
  refine W.block ?_
  refine W.seq ?_
  -- region 3
  refine W.regionL (l := [0, 1, 2, 3]) rfl ?_
  refine O.val hf rfl rfl rfl (RunV.indexSl (j := 0) (m := 0) T_elem_79 T_size_23 rfl rfl rfl (by decide) rfl) ?_; clear hf a; intro a hf
  refine O.val hf rfl rfl rfl (RunV.loadN (cs' := #[Iv x2, Iv x3]) T_agg_23 T_size_23 rfl (hS.bptAt (i := 0) rfl) (Nat.le_of_ble_eq_true rfl) rfl) ?_; clear hf a; intro a hf
  refine O.alloc (cs := #[Iv 0, Iv 0]) hf hS rfl rfl T_zero_23 rfl ?_
  clear hf hS a; intro b6 w a hb6 hS hf
  refine O.store (j := 0) (cs' := #[Iv x2, Iv x3]) (M' := [pt b6 (Cs #[Iv x2, Iv x3] 23)]) hf hS rfl rfl rfl T_size_23 rfl rfl rfl (Nat.le_of_ble_eq_true rfl) rfl rfl ?_
  clear hS; intro w hS
  refine O.nil ?_
  refine k_seq ?_
  refine W.seq ?_
  -- region 4
  refine W.regionL (l := [0, 1, 2, 3, 4, 5, 6, 7, 8, 9, 10, 11, 12, 13, 14]) rfl ?_
  refine O.val hf rfl rfl rfl (RunV.field T_field_23_0 rfl rfl) ?_; clear hf a; intro a hf
  refine O.val hf rfl rfl rfl (RunV.load1 T_agg_2 rfl (hS.ptAt (i := 0) rfl) rfl) ?_; clear hf a; intro a hf
  refine O.val hf rfl rfl rfl (RunV.field T_field_23_1 rfl rfl) ?_; clear hf a; intro a hf
  refine O.val hf rfl rfl rfl (RunV.load1 T_agg_2 rfl (hS.ptAt (i := 0) rfl) rfl) ?_; clear hf a; intro a hf
  refine O.val (v := Bv (decide (x2 > (x3 : Int)))) hf rfl rfl rfl (RunV.gtr rfl rfl) ?_; clear hf a; intro a hf
  refine O.val hf rfl rfl rfl (RunV.move rfl) ?_; clear hf a; intro a hf
  refine O.cutN (l₁ := [6, 7, 8, 9]) (l₂ := _) (fun a w => Fr a 27 [] [(2, Iv 0), (4, Pv b6 0), (5, .slice (some ⟨b1, 0, none⟩) 2 2), (6, Iv 2), (7, Iv 0), (8, Bv true), (9, Pv b1 0), (10, .agg #[Iv x2, Iv x3]), (11, Pv b6 0), (12, Iv x2), (13, Pv b6 1), (14, Iv x3), (15, Bv (decide (x2 > (x3 : Int)))), (16, Bv (decide (x2 > (x3 : Int)))), (20, Bv ((decide (x2 > (x3 : Int))) || (decide (x2 < (-2305843009213693952 : Int)))))] ∧ St w0 w noX [pt b1 (Cs #[Iv x2, Iv x3, Iv x4, Iv x5] 23)] [pt b6 (Cs #[Iv x2, Iv x3] 23)]) rfl ?_ ?_
  ·rcases Bool.eq_false_or_eq_true (decide (x2 > (x3 : Int))) with hb7 | hb7
   ·refine O.skipB hf rfl rfl rfl hb7 rfl ?_; clear hf a; intro a hf
    refine O.skipB hf rfl rfl rfl hb7 rfl ?_; clear hf a; intro a hf
    refine O.skipB hf rfl rfl rfl hb7 rfl ?_; clear hf a; intro a hf
    refine O.val (v := Bv ((decide (x2 > (x3 : Int))) || (decide (x2 < (-2305843009213693952 : Int))))) hf rfl rfl rfl (RunV.pick rfl rfl rfl (by rw [hb7]; rfl)) ?_; clear hf a; intro a hf
    exact O.nil ⟨rfl, hf.to ⟨rfl, rfl, rfl, rfl, rfl, rfl, rfl, rfl, rfl, rfl, rfl, rfl, rfl, rfl, rfl, trivial⟩, hS⟩
   ·refine O.gvalB hf rfl rfl rfl hb7 rfl rfl (RunV.field T_field_23_0 rfl rfl) ?_; clear hf a; intro a hf
    refine O.gvalB hf rfl rfl rfl hb7 rfl rfl (RunV.load1 T_agg_2 rfl (hS.ptAt (i := 0) rfl) rfl) ?_; clear hf a; intro a hf
    refine O.gvalB (v := Bv (decide (x2 < (-2305843009213693952 : Int)))) hf rfl rfl rfl hb7 rfl rfl (RunV.lss rfl rfl) ?_; clear hf a; intro a hf
    refine O.val (v := Bv ((decide (x2 > (x3 : Int))) || (decide (x2 < (-2305843009213693952 : Int))))) hf rfl rfl rfl (RunV.pick rfl rfl rfl (by rw [hb7]; rfl)) ?_; clear hf a; intro a hf
    exact O.nil ⟨rfl, hf.to ⟨rfl, rfl, rfl, rfl, rfl, rfl, rfl, rfl, rfl, rfl, rfl, rfl, rfl, rfl, rfl, trivial⟩, hS⟩
  clear hf hS a; try clear w
  rintro a w ⟨hf, hS⟩
  refine O.val hf rfl rfl rfl (RunV.move rfl) ?_; clear hf a; intro a hf
  refine O.cutN (l₁ := [11, 12, 13, 14]) (l₂ := _) (fun a w => Fr a 27 [] [(2, Iv 0), (4, Pv b6 0), (5, .slice (some ⟨b1, 0, none⟩) 2 2), (6, Iv 2), (7, Iv 0), (8, Bv true), (9, Pv b1 0), (10, .agg #[Iv x2, Iv x3]), (11, Pv b6 0), (12, Iv x2), (13, Pv b6 1), (14, Iv x3), (15, Bv (decide (x2 > (x3 : Int)))), (16, Bv (decide (x2 > (x3 : Int)))), (20, Bv ((decide (x2 > (x3 : Int))) || (decide (x2 < (-2305843009213693952 : Int))))), (21, Bv ((decide (x2 > (x3 : Int))) || (decide (x2 < (-2305843009213693952 : Int))))), (25, Bv (((decide (x2 > (x3 : Int))) || (decide (x2 < (-2305843009213693952 : Int)))) || (decide (x3 > (2305843009213693952 : Int)))))] ∧ St w0 w noX [pt b1 (Cs #[Iv x2, Iv x3, Iv x4, Iv x5] 23)] [pt b6 (Cs #[Iv x2, Iv x3] 23)]) rfl ?_ ?_
  ·rcases Bool.eq_false_or_eq_true ((decide (x2 > (x3 : Int))) || (decide (x2 < (-2305843009213693952 : Int)))) with hb8 | hb8
   ·refine O.skipB hf rfl rfl rfl hb8 rfl ?_; clear hf a; intro a hf
    refine O.skipB hf rfl rfl rfl hb8 rfl ?_; clear hf a; intro a hf
    refine O.skipB hf rfl rfl rfl hb8 rfl ?_; clear hf a; intro a hf
    refine O.val (v := Bv (((decide (x2 > (x3 : Int))) || (decide (x2 < (-2305843009213693952 : Int)))) || (decide (x3 > (2305843009213693952 : Int))))) hf rfl rfl rfl (RunV.pick rfl rfl rfl (by rw [hb8]; rfl)) ?_; clear hf a; intro a hf
    exact O.nil ⟨rfl, hf.to ⟨rfl, rfl, rfl, rfl, rfl, rfl, rfl, rfl, rfl, rfl, rfl, rfl, rfl, rfl, rfl, rfl, rfl, trivial⟩, hS⟩
   ·refine O.gvalB hf rfl rfl rfl hb8 rfl rfl (RunV.field T_field_23_1 rfl rfl) ?_; clear hf a; intro a hf
    refine O.gvalB hf rfl rfl rfl hb8 rfl rfl (RunV.load1 T_agg_2 rfl (hS.ptAt (i := 0) rfl) rfl) ?_; clear hf a; intro a hf
    refine O.gvalB (v := Bv (decide (x3 > (2305843009213693952 : Int)))) hf rfl rfl rfl hb8 rfl rfl (RunV.gtr rfl rfl) ?_; clear hf a; intro a hf
    refine O.val (v := Bv (((decide (x2 > (x3 : Int))) || (decide (x2 < (-2305843009213693952 : Int)))) || (decide (x3 > (2305843009213693952 : Int))))) hf rfl rfl rfl (RunV.pick rfl rfl rfl (by rw [hb8]; rfl)) ?_; clear hf a; intro a hf
    exact O.nil ⟨rfl, hf.to ⟨rfl, rfl, rfl, rfl, rfl, rfl, rfl, rfl, rfl, rfl, rfl, rfl, rfl, rfl, rfl, rfl, rfl, trivial⟩, hS⟩
  clear hf hS a; try clear w
  rintro a w ⟨hf, hS⟩
  refine O.nil ?_
  refine k_seq ?_
  refine W.if_ hf rfl (fun hc9 => ?_) (fun hc9 => ?_)
  ·replace hm := hm_t hm hc9
   refine W.seq ?_
   -- region 5
   refine W.regionL (l := [0]) rfl ?_
   refine O.val hf rfl rfl rfl (RunV.assign rfl) ?_; clear hf a; intro a hf
   refine O.nil ?_
   refine k_seq ?_
   refine W.ret ?_
   refine k_blk_ret ?_
   refine k_then_ret ?_
   refine k_then_ret ?_
   refine k_blk_ret ?_
   refine k_then_ret ?_
   obtain rfl := Option.some.inj hm
   refine post1 hf rfl (ResOK.tmp rfl) ?_
   replace hS := hS.sub (N := []) (.cons _ .slnil)
   exact ⟨(), rfl, hS.noB⟩
  ·replace hm := hm_f hm hc9
   refine W.skip ?_
   refine k_blk_normal ?_
   refine k_seq ?_
   -- region 6
   refine W.regionL (l := [0, 1]) rfl ?_
   refine O.val (v := Iv 1) hf rfl rfl rfl (RunV.add (p := 0) (q := 1) rfl rfl) ?_; clear hf a; intro a hf
   refine O.val hf rfl rfl rfl (RunV.move rfl) ?_; clear hf a; intro a hf
   refine O.nil ?_
   refine k_then (LH.step ?_)
   refine W.seq ?_
   -- region 2
   refine W.regionL (l := [0]) rfl ?_
   refine O.val (v := Bv true) hf rfl rfl rfl (RunV.lss (p := 1) (q := 2) rfl rfl) ?_; clear hf a; intro a hf
   refine O.nil ?_
   refine k_seq ?_
   refine W.seq ?_
   refine W.if_tt hf rfl ?_
   refine W.skip ?_
   refine k_seq ?_
   refine W.seq ?_
   refine W.block ?_
   refine W.seq ?_
   -- region 3
   refine W.regionL (l := [0, 1, 2, 3]) rfl ?_
   refine O.val hf rfl rfl rfl (RunV.indexSl (j := 1) (m := 2) T_elem_79 T_size_23 rfl rfl rfl (by decide) rfl) ?_; clear hf a; intro a hf
   refine O.val hf rfl rfl rfl (RunV.loadN (cs' := #[Iv x4, Iv x5]) T_agg_23 T_size_23 rfl (hS.bptAt (i := 0) rfl) (Nat.le_of_ble_eq_true rfl) rfl) ?_; clear hf a; intro a hf
   refine O.alloc (cs := #[Iv 0, Iv 0]) hf hS rfl rfl T_zero_23 rfl ?_
   clear hf hS a; intro b10 w a hb10 hS hf
   refine O.store (j := 0) (cs' := #[Iv x4, Iv x5]) (M' := [pt b10 (Cs #[Iv x4, Iv x5] 23), pt b6 (Cs #[Iv x2, Iv x3] 23)]) hf hS rfl rfl rfl T_size_23 rfl rfl rfl (Nat.le_of_ble_eq_true rfl) rfl rfl ?_
   clear hS; intro w hS
   refine O.nil ?_
   refine k_seq ?_
   refine W.seq ?_
   -- region 4
   refine W.regionL (l := [0, 1, 2, 3, 4, 5, 6, 7, 8, 9, 10, 11, 12, 13, 14]) rfl ?_
   refine O.val hf rfl rfl rfl (RunV.field T_field_23_0 rfl rfl) ?_; clear hf a; intro a hf
   refine O.val hf rfl rfl rfl (RunV.load1 T_agg_2 rfl (hS.ptAt (i := 0) rfl) rfl) ?_; clear hf a; intro a hf
   refine O.val hf rfl rfl rfl (RunV.field T_field_23_1 rfl rfl) ?_; clear hf a; intro a hf
   refine O.val hf rfl rfl rfl (RunV.load1 T_agg_2 rfl (hS.ptAt (i := 0) rfl) rfl) ?_; clear hf a; intro a hf
   refine O.val (v := Bv (decide (x4 > (x5 : Int)))) hf rfl rfl rfl (RunV.gtr rfl rfl) ?_; clear hf a; intro a hf
   refine O.val hf rfl rfl rfl (RunV.move rfl) ?_; clear hf a; intro a hf
   refine O.cutN (l₁ := [6, 7, 8, 9]) (l₂ := _) (fun a w => Fr a 27 [] [(2, Iv 0), (4, Pv b10 0), (5, .slice (some ⟨b1, 0, none⟩) 2 2), (6, Iv 2), (7, Iv 1), (8, Bv true), (9, Pv b1 2), (10, .agg #[Iv x4, Iv x5]), (11, Pv b10 0), (12, Iv x4), (13, Pv b10 1), (14, Iv x5), (15, Bv (decide (x4 > (x5 : Int)))), (16, Bv (decide (x4 > (x5 : Int)))), (20, Bv ((decide (x4 > (x5 : Int))) || (decide (x4 < (-2305843009213693952 : Int))))), (21, Bv ((decide (x2 > (x3 : Int))) || (decide (x2 < (-2305843009213693952 : Int))))), (25, Bv (((decide (x2 > (x3 : Int))) || (decide (x2 < (-2305843009213693952 : Int)))) || (decide (x3 > (2305843009213693952 : Int))))), (26, Iv 1)] ∧ St w0 w noX [pt b1 (Cs #[Iv x2, Iv x3, Iv x4, Iv x5] 23)] [pt b10 (Cs #[Iv x4, Iv x5] 23), pt b6 (Cs #[Iv x2, Iv x3] 23)]) rfl ?_ ?_
   ·rcases Bool.eq_false_or_eq_true (decide (x4 > (x5 : Int))) with hb11 | hb11
    ·refine O.skipB hf rfl rfl rfl hb11 rfl ?_; clear hf a; intro a hf
     refine O.skipB hf rfl rfl rfl hb11 rfl ?_; clear hf a; intro a hf
     refine O.skipB hf rfl rfl rfl hb11 rfl ?_; clear hf a; intro a hf
     refine O.val (v := Bv ((decide (x4 > (x5 : Int))) || (decide (x4 < (-2305843009213693952 : Int))))) hf rfl rfl rfl (RunV.pick rfl rfl rfl (by rw [hb11]; rfl)) ?_; clear hf a; intro a hf
     exact O.nil ⟨rfl, hf.to ⟨rfl, rfl, rfl, rfl, rfl, rfl, rfl, rfl, rfl, rfl, rfl, rfl, rfl, rfl, rfl, rfl, rfl, rfl, trivial⟩, hS⟩
    ·refine O.gvalB hf rfl rfl rfl hb11 rfl rfl (RunV.field T_field_23_0 rfl rfl) ?_; clear hf a; intro a hf
     refine O.gvalB hf rfl rfl rfl hb11 rfl rfl (RunV.load1 T_agg_2 rfl (hS.ptAt (i := 0) rfl) rfl) ?_; clear hf a; intro a hf
     refine O.gvalB (v := Bv (decide (x4 < (-2305843009213693952 : Int)))) hf rfl rfl rfl hb11 rfl rfl (RunV.lss rfl rfl) ?_; clear hf a; intro a hf
     refine O.val (v := Bv ((decide (x4 > (x5 : Int))) || (decide (x4 < (-2305843009213693952 : Int))))) hf rfl rfl rfl (RunV.pick rfl rfl rfl (by rw [hb11]; rfl)) ?_; clear hf a; intro a hf
     exact O.nil ⟨rfl, hf.to ⟨rfl, rfl, rfl, rfl, rfl, rfl, rfl, rfl, rfl, rfl, rfl, rfl, rfl, rfl, rfl, rfl, rfl, rfl, trivial⟩, hS⟩
   clear hf hS a; try clear w
   rintro a w ⟨hf, hS⟩
   refine O.val hf rfl rfl rfl (RunV.move rfl) ?_; clear hf a; intro a hf
   refine O.cutN (l₁ := [11, 12, 13, 14]) (l₂ := _) (fun a w => Fr a 27 [] [(2, Iv 0), (4, Pv b10 0), (5, .slice (some ⟨b1, 0, none⟩) 2 2), (6, Iv 2), (7, Iv 1), (8, Bv true), (9, Pv b1 2), (10, .agg #[Iv x4, Iv x5]), (11, Pv b10 0), (12, Iv x4), (13, Pv b10 1), (14, Iv x5), (15, Bv (decide (x4 > (x5 : Int)))), (16, Bv (decide (x4 > (x5 : Int)))), (20, Bv ((decide (x4 > (x5 : Int))) || (decide (x4 < (-2305843009213693952 : Int))))), (21, Bv ((decide (x4 > (x5 : Int))) || (decide (x4 < (-2305843009213693952 : Int))))), (25, Bv (((decide (x4 > (x5 : Int))) || (decide (x4 < (-2305843009213693952 : Int)))) || (decide (x5 > (2305843009213693952 : Int))))), (26, Iv 1)] ∧ St w0 w noX [pt b1 (Cs #[Iv x2, Iv x3, Iv x4, Iv x5] 23)] [pt b10 (Cs #[Iv x4, Iv x5] 23), pt b6 (Cs #[Iv x2, Iv x3] 23)]) rfl ?_ ?_
   ·rcases Bool.eq_false_or_eq_true ((decide (x4 > (x5 : Int))) || (decide (x4 < (-2305843009213693952 : Int)))) with hb12 | hb12
    ·refine O.skipB hf rfl rfl rfl hb12 rfl ?_; clear hf a; intro a hf
     refine O.skipB hf rfl rfl rfl hb12 rfl ?_; clear hf a; intro a hf
     refine O.skipB hf rfl rfl rfl hb12 rfl ?_; clear hf a; intro a hf
     refine O.val (v := Bv (((decide (x4 > (x5 : Int))) || (decide (x4 < (-2305843009213693952 : Int)))) || (decide (x5 > (2305843009213693952 : Int))))) hf rfl rfl rfl (RunV.pick rfl rfl rfl (by rw [hb12]; rfl)) ?_; clear hf a; intro a hf
     exact O.nil ⟨rfl, hf.to ⟨rfl, rfl, rfl, rfl, rfl, rfl, rfl, rfl, rfl, rfl, rfl, rfl, rfl, rfl, rfl, rfl, rfl, rfl, trivial⟩, hS⟩
    ·refine O.gvalB hf rfl rfl rfl hb12 rfl rfl (RunV.field T_field_23_1 rfl rfl) ?_; clear hf a; intro a hf
     refine O.gvalB hf rfl rfl rfl hb12 rfl rfl (RunV.load1 T_agg_2 rfl (hS.ptAt (i := 0) rfl) rfl) ?_; clear hf a; intro a hf
     refine O.gvalB (v := Bv (decide (x5 > (2305843009213693952 : Int)))) hf rfl rfl rfl hb12 rfl rfl (RunV.gtr rfl rfl) ?_; clear hf a; intro a hf
     refine O.val (v := Bv (((decide (x4 > (x5 : Int))) || (decide (x4 < (-2305843009213693952 : Int)))) || (decide (x5 > (2305843009213693952 : Int))))) hf rfl rfl rfl (RunV.pick rfl rfl rfl (by rw [hb12]; rfl)) ?_; clear hf a; intro a hf
     exact O.nil ⟨rfl, hf.to ⟨rfl, rfl, rfl, rfl, rfl, rfl, rfl, rfl, rfl, rfl, rfl, rfl, rfl, rfl, rfl, rfl, rfl, rfl, trivial⟩, hS⟩
   clear hf hS a; try clear w
   rintro a w ⟨hf, hS⟩
   refine O.nil ?_
   refine k_seq ?_
   refine W.if_ hf rfl (fun hc13 => ?_) (fun hc13 => ?_)
   ·replace hm := hm_t hm hc13
    refine W.seq ?_
    -- region 5
    refine W.regionL (l := [0]) rfl ?_
    refine O.val hf rfl rfl rfl (RunV.assign rfl) ?_; clear hf a; intro a hf
    refine O.nil ?_
    refine k_seq ?_
    refine W.ret ?_
    refine k_blk_ret ?_
    refine k_then_ret ?_
    refine k_then_ret ?_
    refine k_blk_ret ?_
    refine k_then_ret ?_
    obtain rfl := Option.some.inj hm
    refine post1 hf rfl (ResOK.tmp rfl) ?_
    replace hS := hS.sub (N := []) (.cons _ (.cons _ .slnil))
    exact ⟨(), rfl, hS.noB⟩
   ·replace hm := hm_f hm hc13
    refine W.skip ?_
    refine k_blk_normal ?_
    refine k_seq ?_
    -- region 6
    refine W.regionL (l := [0, 1]) rfl ?_
    refine O.val (v := Iv 2) hf rfl rfl rfl (RunV.add (p := 1) (q := 1) rfl rfl) ?_; clear hf a; intro a hf
    refine O.val hf rfl rfl rfl (RunV.move rfl) ?_; clear hf a; intro a hf
    refine O.nil ?_
    refine k_then (LH.step ?_)
    refine W.seq ?_
    -- region 2
    refine W.regionL (l := [0]) rfl ?_
    refine O.val (v := Bv false) hf rfl rfl rfl (RunV.lss (p := 2) (q := 2) rfl rfl) ?_; clear hf a; intro a hf
    refine O.nil ?_
    refine k_seq ?_
    refine W.seq ?_
    refine W.if_ff hf rfl ?_
    refine W.exit ?_
    refine k_then_exit ?_
    refine k_then_exit ?_
    refine k_blk ?_
    replace hS := hS.sub (N := []) (.cons _ (.cons _ .slnil))
    exact k_then ⟨hf.to ⟨rfl, trivial⟩, hS, hm⟩
 ·clear hf hS hm a; try clear w
  rintro a w ⟨hf, hS, hm⟩
  unfold m_span_check_2_j1 at hm
  refine W.seq ?_
  -- region 7
  refine W.regionL (l := [0]) rfl ?_
  refine O.val hf rfl rfl rfl (RunV.assign rfl) ?_; clear hf a; intro a hf
  refine O.nil ?_
  refine k_seq ?_
  refine W.ret ?_
  obtain rfl := Option.some.inj hm
  refine post1 hf rfl (ResOK.tmp rfl) ?_
  exact ⟨(), rfl, hS.noB⟩

def m_span_Add (F : Nat)  (x1 : Int) (x2 : Int) (x3 : Int) (x4 : Int) : Option (Int × Int × Int) :=
  (m_span_check_2 F x1 x2 x3 x4).bind fun x9 => if x9 ≠ (0 : Int) then (some (0, 0, x9)) else ((m_span_made F (IntKind.i64.wrap (x1 + x3)) (IntKind.i64.wrap (x2 + x4))).bind fun x11 => some x11)
set_option maxHeartbeats 1000000 in
set_option maxRecDepth 8000 in
theorem m_span_Add_ok (F : Nat)   (x1 : Int) (x2 : Int) (x3 : Int) (x4 : Int) (w0 : World)  (r : Int × Int × Int) (hm : m_span_Add F x1 x2 x3 x4 = some r) :
    Ret Try.prog 22 #[.agg #[Iv x1, Iv x2], .agg #[Iv x3, Iv x4]] w0 (G := Unit) (fun _ => .tuple #[.agg #[Iv r.1, Iv r.2.1], Iv r.2.2]) (fun _ w => St w0 w noX [] []) := by
 unfold m_span_Add at hm
 refine ret_of_W (lv := [.agg #[Iv x1, Iv x2], .agg #[Iv x3, Iv x4]]) Try.func22 rfl rfl rfl (fun a hf => ?_)
 replace hf : Fr a 28 [] [(0, .agg #[Iv x1, Iv x2]), (1, .agg #[Iv x3, Iv x4])] := hf
 have hS : St w0 w0 noX [] [] := St.borrow lendAll_nil
 refine W.seq ?_
 -- region 0
 refine W.regionL (l := [0, 1, 2, 3]) rfl ?_
 refine O.box (cs := #[Iv x1, Iv x2]) hf hS rfl rfl rfl rfl ?_
 clear hf hS a; intro b5 w a hb5 hS hf
 refine O.box (cs := #[Iv x3, Iv x4]) hf hS rfl rfl rfl rfl ?_
 clear hf hS a; intro b6 w a hb6 hS hf
 refine O.alloc (cs := #[Iv 0, Iv 0]) hf hS rfl rfl T_zero_23 rfl ?_
 clear hf hS a; intro b7 w a hb7 hS hf
 refine O.val hf rfl rfl rfl (RunV.assign rfl) ?_; clear hf a; intro a hf
 refine O.nil ?_
 refine k_seq ?_
 replace hf : Fr a 28 [] [(2, Pv b5 0), (3, Pv b6 0), (4, Pv b7 0), (5, Iv 0)] := hf.to ⟨rfl, rfl, rfl, rfl, trivial⟩
 refine W.seq ?_
 refine W.seq ?_
 -- region 1
 refine W.regionL (l := [0, 1, 2, 3, 4]) rfl ?_
 refine O.val hf rfl rfl rfl (RunV.loadN (cs' := #[Iv x1, Iv x2]) T_agg_23 T_size_23 rfl (hS.ptAt (i := 2) rfl) (Nat.le_of_ble_eq_true rfl) rfl) ?_; clear hf a; intro a hf
 refine O.val hf rfl rfl rfl (RunV.loadN (cs' := #[Iv x3, Iv x4]) T_agg_23 T_size_23 rfl (hS.ptAt (i := 1) rfl) (Nat.le_of_ble_eq_true rfl) rfl) ?_; clear hf a; intro a hf
 refine O.buildSlice (cs' := #[Iv x1, Iv x2, Iv x3, Iv x4]) (zs := #[Iv 0, Iv 0, Iv 0, Iv 0]) hf hS rfl rfl T_elem_79 T_size_23 T_zero_23 rfl rfl rfl rfl rfl ?_
 clear hf hS a; intro b8 w a hb8 hS hf
 obtain ⟨x9, hx9, hm⟩ := hm_b hm
 refine O.callR hf rfl rfl rfl (RunE.call (av := #[.slice (some ⟨b8, 0, none⟩) 2 2]) C_ok_21 rfl rfl rfl) (m_span_check_2_ok F b8 x1 x2 x3 x4 _ (hS.ptAt (i := 0) rfl) x9 hx9) ?_
 clear hf a; rintro _ w hS1 a hf
 replace hf : Fr a _ _ ((10, Iv x9) :: _) := hf
 replace hS := (hS.call hS1).eqM (N := [pt b8 (Cs #[Iv x1, Iv x2, Iv x3, Iv x4] 23), pt b7 (Cs #[Iv 0, Iv 0] 23), pt b6 (Cs #[Iv x3, Iv x4] 23), pt b5 (Cs #[Iv x1, Iv x2] 23)]) rfl
 clear hS1
 refine O.val hf rfl rfl rfl (RunV.assign rfl) ?_; clear hf a; intro a hf
 refine O.nil ?_
 refine k_seq ?_
 replace hf : Fr a 28 [] [(2, Pv b5 0), (3, Pv b6 0), (4, Pv b7 0), (5, Iv 0), (6, Iv x9)] := hf.to ⟨rfl, rfl, rfl, rfl, rfl, trivial⟩
 refine W.seq ?_
 -- region 2
 refine W.regionL (l := [0, 1]) rfl ?_
 refine O.val hf rfl rfl rfl (RunV.move rfl) ?_; clear hf a; intro a hf
 refine O.val (v := Bv (decide (x9 ≠ (0 : Int)))) hf rfl rfl rfl (RunV.neq rfl rfl) ?_; clear hf a; intro a hf
 refine O.nil ?_
 refine k_seq ?_
 replace hf : Fr a 28 [] [(2, Pv b5 0), (3, Pv b6 0), (4, Pv b7 0), (5, Iv 0), (6, Iv x9), (12, Bv (decide (x9 ≠ (0 : Int))))] := hf.to ⟨rfl, rfl, rfl, rfl, rfl, rfl, trivial⟩
 refine W.ifdI hf rfl (fun hc10 => ?_) (fun hc10 => ?_)
 ·replace hm := hm_p hm hc10
  refine W.seq ?_
  -- region 3
  refine W.regionL (l := [0, 1, 2, 3]) rfl ?_
  refine O.val (v := .agg #[Iv 0, Iv 0]) hf rfl rfl rfl (RunV.buildS (cs' := #[Iv 0, Iv 0]) T_places_23 T_zero_23 rfl (by kernel_rfl)) ?_; clear hf a; intro a hf
  refine O.val hf rfl rfl rfl (RunV.move rfl) ?_; clear hf a; intro a hf
  refine O.store (j := 1) (cs' := #[Iv 0, Iv 0]) (M' := [pt b8 (Cs #[Iv x1, Iv x2, Iv x3, Iv x4] 23), pt b7 (Cs #[Iv 0, Iv 0] 23), pt b6 (Cs #[Iv x3, Iv x4] 23), pt b5 (Cs #[Iv x1, Iv x2] 23)]) hf hS rfl rfl rfl T_size_23 rfl rfl rfl (Nat.le_of_ble_eq_true rfl) rfl rfl ?_
  clear hS; intro w hS
  refine O.val hf rfl rfl rfl (RunV.assign rfl) ?_; clear hf a; intro a hf
  refine O.nil ?_
  refine k_seq ?_
  replace hf : Fr a 28 [] [(2, Pv b5 0), (3, Pv b6 0), (4, Pv b7 0), (5, Iv x9)] := hf.to ⟨rfl, rfl, rfl, rfl, trivial⟩
  refine W.ret ?_
  refine k_then_ret ?_
  obtain rfl := Option.some.inj hm
  refine post2 hf rfl (ResOK.cellN (cs' := #[Iv 0, Iv 0]) rfl T_agg_23 T_size_23 (hS.ptAt (i := 1) rfl) (Nat.le_of_ble_eq_true rfl) rfl) (ResOK.tmp rfl) ?_
  replace hS := hS.sub (N := []) (.cons _ (.cons _ (.cons _ (.cons _ .slnil))))
  exact ⟨(), rfl, hS.noB⟩
 ·replace hm := hm_n hm hc10
  refine W.skip ?_
  refine k_seq ?_
  replace hf : Fr a 28 [] [(2, Pv b5 0), (3, Pv b6 0), (4, Pv b7 0), (5, Iv 0)] := hf.to ⟨rfl, rfl, rfl, rfl, trivial⟩
  refine W.seq ?_
  -- region 4
  refine W.regionL (l := [0, 1, 2, 3, 4, 5, 6, 7, 8, 9, 10, 11, 12, 13, 14]) rfl ?_
  refine O.val hf rfl rfl rfl (RunV.field T_field_23_0 rfl rfl) ?_; clear hf a; intro a hf
  refine O.val hf rfl rfl rfl (RunV.load1 T_agg_2 rfl (hS.ptAt (i := 3) rfl) rfl) ?_; clear hf a; intro a hf
  refine O.val hf rfl rfl rfl (RunV.field T_field_23_0 rfl rfl) ?_; clear hf a; intro a hf
  refine O.val hf rfl rfl rfl (RunV.load1 T_agg_2 rfl (hS.ptAt (i := 2) rfl) rfl) ?_; clear hf a; intro a hf
  refine O.val (v := Iv (IntKind.i64.wrap (x1 + x3))) hf rfl rfl rfl (RunV.add rfl rfl) ?_; clear hf a; intro a hf
  refine O.val hf rfl rfl rfl (RunV.field T_field_23_1 rfl rfl) ?_; clear hf a; intro a hf
  refine O.val hf rfl rfl rfl (RunV.load1 T_agg_2 rfl (hS.ptAt (i := 3) rfl) rfl) ?_; clear hf a; intro a hf
  refine O.val hf rfl rfl rfl (RunV.field T_field_23_1 rfl rfl) ?_; clear hf a; intro a hf
  refine O.val hf rfl rfl rfl (RunV.load1 T_agg_2 rfl (hS.ptAt (i := 2) rfl) rfl) ?_; clear hf a; intro a hf
  refine O.val (v := Iv (IntKind.i64.wrap (x2 + x4))) hf rfl rfl rfl (RunV.add rfl rfl) ?_; clear hf a; intro a hf
  obtain ⟨x11, hx11, hm⟩ := hm_b hm
  refine O.callR hf rfl rfl rfl (RunE.call (av := #[Iv (IntKind.i64.wrap (x1 + x3)), Iv (IntKind.i64.wrap (x2 + x4))]) C_ok_28 rfl rfl rfl) (m_span_made_ok F (IntKind.i64.wrap (x1 + x3)) (IntKind.i64.wrap (x2 + x4)) _ x11 hx11) ?_
  clear hf a; rintro _ w hS1 a hf
  replace hf : Fr a _ _ ((25, .tuple #[.agg #[Iv x11.1, Iv x11.2.1], Iv x11.2.2]) :: _) := hf
  replace hS := (hS.call hS1).eqM (N := [pt b8 (Cs #[Iv x1, Iv x2, Iv x3, Iv x4] 23), pt b7 (Cs #[Iv 0, Iv 0] 23), pt b6 (Cs #[Iv x3, Iv x4] 23), pt b5 (Cs #[Iv x1, Iv x2] 23)]) rfl
  clear hS1
  refine O.val hf rfl rfl rfl (RunV.extract rfl rfl) ?_; clear hf a; intro a hf
  refine O.val hf rfl rfl rfl (RunV.extract rfl rfl) ?_; clear hf a; intro a hf
  refine O.store (j := 1) (cs' := #[Iv x11.1, Iv x11.2.1]) (M' := [pt b8 (Cs #[Iv x1, Iv x2, Iv x3, Iv x4] 23), pt b7 (Cs #[Iv x11.1, Iv x11.2.1] 23), pt b6 (Cs #[Iv x3, Iv x4] 23), pt b5 (Cs #[Iv x1, Iv x2] 23)]) hf hS rfl rfl rfl T_size_23 rfl rfl rfl (Nat.le_of_ble_eq_true rfl) rfl rfl ?_
  clear hS; intro w hS
  refine O.val hf rfl rfl rfl (RunV.assign rfl) ?_; clear hf a; intro a hf
  refine O.nil ?_
  refine k_seq ?_
  replace hf : Fr a 28 [] [(4, Pv b7 0), (5, Iv x11.2.2)] := hf.to ⟨rfl, rfl, trivial⟩
  refine W.ret ?_
  obtain rfl := Option.some.inj hm
  refine post2 hf rfl (ResOK.cellN (cs' := #[Iv x11.1, Iv x11.2.1]) rfl T_agg_23 T_size_23 (hS.ptAt (i := 1) rfl) (Nat.le_of_ble_eq_true rfl) rfl) (ResOK.tmp rfl) ?_
  replace hS := hS.sub (N := []) (.cons _ (.cons _ (.cons _ (.cons _ .slnil))))
  exact ⟨(), rfl, hS.noB⟩

def m_cells_sheet_do (F : Nat)  (x2 : Int) (x3 : Int) (x4 : Int) (x5 : Int) (x6 : Int) : Option (Int × Int × Int) :=
  if x2 ≠ (0 : Int) then (some (0, 0, x2)) else ((m_span_Add F x3 x4 x5 x6).bind fun x11 => (m_cells_sheet_keep F x2 x11.1 x11.2.1 x11.2.2).bind fun x12 => some x12)
set_option maxHeartbeats 1000000 in
set_option maxRecDepth 8000 in
theorem m_cells_sheet_do_ok (F : Nat)   (b1 : Nat) (x2 : Int) (x3 : Int) (x4 : Int) (x5 : Int) (x6 : Int) (w0 : World) (h_b1 : w0.heap[b1]? = some (.cells #[.func (.func 22) #[] #[], .func (.func 23) #[] #[], .func (.func 24) #[] #[], .func (.func 25) #[] #[], Iv x2] 48 (0, 0))) (r : Int × Int × Int) (hm : m_cells_sheet_do F x2 x3 x4 x5 x6 = some r) :
    Ret Try.prog 13 #[Pv b1 0, .func (.func 22) #[] #[], .agg #[Iv x3, Iv x4], .agg #[Iv x5, Iv x6]] w0 (G := Unit) (fun _ => .agg #[Iv r.1, Iv r.2.1]) (fun _ w => St w0 w (fun k => k = b1) [] [pt b1 (Cs #[.func (.func 22) #[] #[], .func (.func 23) #[] #[], .func (.func 24) #[] #[], .func (.func 25) #[] #[], Iv r.2.2] 48)]) := by
 unfold m_cells_sheet_do at hm
 refine ret_of_W (lv := [Pv b1 0, .func (.func 22) #[] #[], .agg #[Iv x3, Iv x4], .agg #[Iv x5, Iv x6]]) Try.func13 rfl rfl rfl (fun a hf => ?_)
 replace hf : Fr a 23 [] [(0, Pv b1 0), (1, .func (.func 22) #[] #[]), (2, .agg #[Iv x3, Iv x4]), (3, .agg #[Iv x5, Iv x6])] := hf
 have hS : St w0 w0 (fun k => k = b1) [] [pt b1 (Cs #[.func (.func 22) #[] #[], .func (.func 23) #[] #[], .func (.func 24) #[] #[], .func (.func 25) #[] #[], Iv x2] 48)] := St.ownPt h_b1 lendAll_nil apart_nil
 refine W.seq ?_
 -- region 0
 refine W.regionL (l := [0, 1, 2]) rfl ?_
 refine O.box (cs := #[Iv x3, Iv x4]) hf hS rfl rfl rfl rfl ?_
 clear hf hS a; intro b7 w a hb7 hS hf
 refine O.box (cs := #[Iv x5, Iv x6]) hf hS rfl rfl rfl rfl ?_
 clear hf hS a; intro b8 w a hb8 hS hf
 refine O.alloc (cs := #[Iv 0, Iv 0]) hf hS rfl rfl T_zero_23 rfl ?_
 clear hf hS a; intro b9 w a hb9 hS hf
 refine O.nil ?_
 refine k_seq ?_
 replace hf : Fr a 23 [] [(0, Pv b1 0), (1, .func (.func 22) #[] #[]), (6, Pv b7 0), (7, Pv b8 0), (8, Pv b9 0)] := hf.to ⟨rfl, rfl, rfl, rfl, rfl, trivial⟩
 refine W.seq ?_
 refine W.seq ?_
 -- region 1
 refine W.regionL (l := [0, 1, 2, 3, 4]) rfl ?_
 refine O.val hf rfl rfl rfl (RunV.move rfl) ?_; clear hf a; intro a hf
 refine O.val hf rfl rfl rfl (RunV.nilCheck rfl) ?_; clear hf a; intro a hf
 refine O.val hf rfl rfl rfl (RunV.field T_field_48_4 rfl rfl) ?_; clear hf a; intro a hf
 refine O.val hf rfl rfl rfl (RunV.load1 T_agg_28 rfl (hS.ptAt (i := 3) rfl) rfl) ?_; clear hf a; intro a hf
 refine O.val (v := Bv (decide (x2 ≠ (0 : Int)))) hf rfl rfl rfl (RunV.neq rfl rfl) ?_; clear hf a; intro a hf
 refine O.nil ?_
 refine k_seq ?_
 replace hf : Fr a 23 [] [(0, Pv b1 0), (1, .func (.func 22) #[] #[]), (6, Pv b7 0), (7, Pv b8 0), (8, Pv b9 0), (13, Bv (decide (x2 ≠ (0 : Int))))] := hf.to ⟨rfl, rfl, rfl, rfl, rfl, rfl, trivial⟩
 refine W.ifdI hf rfl (fun hc10 => ?_) (fun hc10 => ?_)
 ·replace hm := hm_p hm hc10
  refine W.seq ?_
  -- region 2
  refine W.regionL (l := [0, 1]) rfl ?_
  refine O.val (v := .agg #[Iv 0, Iv 0]) hf rfl rfl rfl (RunV.buildS (cs' := #[Iv 0, Iv 0]) T_places_23 T_zero_23 rfl (by kernel_rfl)) ?_; clear hf a; intro a hf
  refine O.store (j := 0) (cs' := #[Iv 0, Iv 0]) (M' := [pt b9 (Cs #[Iv 0, Iv 0] 23), pt b8 (Cs #[Iv x5, Iv x6] 23), pt b7 (Cs #[Iv x3, Iv x4] 23), pt b1 (Cs #[.func (.func 22) #[] #[], .func (.func 23) #[] #[], .func (.func 24) #[] #[], .func (.func 25) #[] #[], Iv x2] 48)]) hf hS rfl rfl rfl T_size_23 rfl rfl rfl (Nat.le_of_ble_eq_true rfl) rfl rfl ?_
  clear hS; intro w hS
  refine O.nil ?_
  refine k_seq ?_
  replace hf : Fr a 23 [] [(0, Pv b1 0), (1, .func (.func 22) #[] #[]), (6, Pv b7 0), (7, Pv b8 0), (8, Pv b9 0)] := hf.to ⟨rfl, rfl, rfl, rfl, rfl, trivial⟩
  refine W.ret ?_
  refine k_then_ret ?_
  obtain rfl := Option.some.inj hm
  refine post1 hf rfl (ResOK.cellN (cs' := #[Iv 0, Iv 0]) rfl T_agg_23 T_size_23 (hS.ptAt (i := 0) rfl) (Nat.le_of_ble_eq_true rfl) rfl) ?_
  replace hS := hS.sub (N := [pt b1 (Cs #[.func (.func 22) #[] #[], .func (.func 23) #[] #[], .func (.func 24) #[] #[], .func (.func 25) #[] #[], Iv x2] 48)]) (.cons _ (.cons _ (.cons _ (.cons_cons _ .slnil))))
  exact ⟨(), rfl, hS.noB⟩
 ·replace hm := hm_n hm hc10
  refine W.skip ?_
  refine k_seq ?_
  replace hf : Fr a 23 [] [(0, Pv b1 0), (1, .func (.func 22) #[] #[]), (6, Pv b7 0), (7, Pv b8 0), (8, Pv b9 0)] := hf.to ⟨rfl, rfl, rfl, rfl, rfl, trivial⟩
  refine W.seq ?_
  -- region 3
  refine W.regionL (l := [0, 1, 2, 3, 4, 5, 6, 7, 8]) rfl ?_
  refine O.val hf rfl rfl rfl (RunV.move rfl) ?_; clear hf a; intro a hf
  refine O.val hf rfl rfl rfl (RunV.move rfl) ?_; clear hf a; intro a hf
  refine O.val hf rfl rfl rfl (RunV.loadN (cs' := #[Iv x3, Iv x4]) T_agg_23 T_size_23 rfl (hS.ptAt (i := 2) rfl) (Nat.le_of_ble_eq_true rfl) rfl) ?_; clear hf a; intro a hf
  refine O.val hf rfl rfl rfl (RunV.loadN (cs' := #[Iv x5, Iv x6]) T_agg_23 T_size_23 rfl (hS.ptAt (i := 1) rfl) (Nat.le_of_ble_eq_true rfl) rfl) ?_; clear hf a; intro a hf
  obtain ⟨x11, hx11, hm⟩ := hm_b hm
  refine O.callR hf rfl rfl rfl (RunE.call (av := #[.agg #[Iv x3, Iv x4], .agg #[Iv x5, Iv x6]]) C_ok_22 rfl rfl rfl) (m_span_Add_ok F x3 x4 x5 x6 _ x11 hx11) ?_
  clear hf a; rintro _ w hS1 a hf
  replace hf : Fr a _ _ ((19, .tuple #[.agg #[Iv x11.1, Iv x11.2.1], Iv x11.2.2]) :: _) := hf
  replace hS := (hS.call hS1).eqM (N := [pt b9 (Cs #[Iv 0, Iv 0] 23), pt b8 (Cs #[Iv x5, Iv x6] 23), pt b7 (Cs #[Iv x3, Iv x4] 23), pt b1 (Cs #[.func (.func 22) #[] #[], .func (.func 23) #[] #[], .func (.func 24) #[] #[], .func (.func 25) #[] #[], Iv x2] 48)]) rfl
  clear hS1
  refine O.val hf rfl rfl rfl (RunV.extract rfl rfl) ?_; clear hf a; intro a hf
  refine O.val hf rfl rfl rfl (RunV.extract rfl rfl) ?_; clear hf a; intro a hf
  obtain ⟨x12, hx12, hm⟩ := hm_b hm
  refine O.callR hf rfl rfl rfl (RunE.call (av := #[Pv b1 0, .agg #[Iv x11.1, Iv x11.2.1], Iv x11.2.2]) C_ok_14 rfl rfl rfl) (m_cells_sheet_keep_ok F b1 x2 x11.1 x11.2.1 x11.2.2 _ (hS.ptAt (i := 3) rfl) x12 hx12) ?_
  clear hf a; rintro _ w hS1 a hf
  replace hf : Fr a _ _ ((22, .agg #[Iv x12.1, Iv x12.2.1]) :: _) := hf
  replace hS := (hS.callX1 hS1 (i := 3) rfl (fun _ h => h)).eqM (N := [pt b1 (Cs #[.func (.func 22) #[] #[], .func (.func 23) #[] #[], .func (.func 24) #[] #[], .func (.func 25) #[] #[], Iv x12.2.2] 48), pt b9 (Cs #[Iv 0, Iv 0] 23), pt b8 (Cs #[Iv x5, Iv x6] 23), pt b7 (Cs #[Iv x3, Iv x4] 23)]) rfl
  clear hS1
  refine O.store (j := 1) (cs' := #[Iv x12.1, Iv x12.2.1]) (M' := [pt b1 (Cs #[.func (.func 22) #[] #[], .func (.func 23) #[] #[], .func (.func 24) #[] #[], .func (.func 25) #[] #[], Iv x12.2.2] 48), pt b9 (Cs #[Iv x12.1, Iv x12.2.1] 23), pt b8 (Cs #[Iv x5, Iv x6] 23), pt b7 (Cs #[Iv x3, Iv x4] 23)]) hf hS rfl rfl rfl T_size_23 rfl rfl rfl (Nat.le_of_ble_eq_true rfl) rfl rfl ?_
  clear hS; intro w hS
  refine O.nil ?_
  refine k_seq ?_
  replace hf : Fr a 23 [] [(8, Pv b9 0)] := hf.to ⟨rfl, trivial⟩
  refine W.ret ?_
  obtain rfl := Option.some.inj hm
  refine post1 hf rfl (ResOK.cellN (cs' := #[Iv x12.1, Iv x12.2.1]) rfl T_agg_23 T_size_23 (hS.ptAt (i := 1) rfl) (Nat.le_of_ble_eq_true rfl) rfl) ?_
  replace hS := hS.sub (N := [pt b1 (Cs #[.func (.func 22) #[] #[], .func (.func 23) #[] #[], .func (.func 24) #[] #[], .func (.func 25) #[] #[], Iv x12.2.2] 48)]) (.cons_cons _ (.cons _ (.cons _ (.cons _ .slnil))))
  exact ⟨(), rfl, hS.noB⟩

def m_cells_Ahead_j1 (F : Nat) (x40 : Int) (x41 : Int) (x42 : Int) (x43 : Int) (x44 : Int) (x45 : Int) (x46 : Int) : Option (Int × Int × Int × Int × Int × Int × Int) :=
  if x40 ≠ (0 : Int) then (some (0, 0, 0, 0, 0, 0, x40)) else (some (x41, x42, x43, x44, x45, x46, 0))
def m_cells_Ahead_j2 (F : Nat) (x14 : Int) (x15 : Int) (x13 : Int) (x26 : Int) (x27 : Int) (x28 : Int) (x29 : Int) (x30 : Int) (x31 : Int) (x32 : Int) : Option (Int × Int × Int × Int × Int × Int × Int) :=
  (m_span_Scale F x14 x15 x13 86400000000).bind fun x33 => (m_cells_sheet_keep F x26 x33.1 x33.2.1 x33.2.2).bind fun x34 => (m_span_Scale F x34.1 x34.2.1 x13 86400000000).bind fun x36 => (m_cells_sheet_keep F x34.2.2 x36.1 x36.2.1 x36.2.2).bind fun x37 => (m_span_Scale F x37.1 x37.2.1 1 2).bind fun x38 => (m_cells_sheet_keep F x37.2.2 x38.1 x38.2.1 x38.2.2).bind fun x39 => (m_cells_sheet_do F x39.2.2 x27 x28 (IntKind.i64.wrap (0 - x39.2.1)) x39.2.1).bind fun x48 => (some (IntKind.i64.wrap (0 - x39.2.1))).bind fun x49 => (m_cells_sheet_do F x48.2.2 x29 x30 (IntKind.i64.wrap (0 - x39.2.1)) x39.2.1).bind fun x50 => (some (IntKind.i64.wrap (0 - x39.2.1))).bind fun x51 => (m_cells_sheet_do F x50.2.2 x31 x32 (IntKind.i64.wrap (0 - x39.2.1)) x39.2.1).bind fun x52 => (some (IntKind.i64.wrap (0 - x39.2.1))).bind fun x53 => m_cells_Ahead_j1 F x52.2.2 x48.1 x48.2.1 x50.1 x50.2.1 x52.1 x52.2.1
def m_cells_Ahead_j3 (F : Nat) (x14 : Int) (x15 : Int) (x7 : Int) (x8 : Int) (x13 : Int) (x1 : Int) (x2 : Int) (x9 : Int) (x10 : Int) (x3 : Int) (x4 : Int) (x11 : Int) (x12 : Int) (x5 : Int) (x6 : Int) : Option (Int × Int × Int × Int × Int × Int × Int) :=
  (m_span_Check F x14 x15).bind fun x20 => if x20 ≠ (0 : Int) then (some (0, 0, 0, 0, 0, 0, x20)) else (if x14 < (0 : Int) then (some (0, 0, 0, 0, 0, 0, 2)) else ((m_cells_begin F).bind fun x23 => (m_span_Scale F x7 x8 x13 86400000000).bind fun x54 => (m_cells_sheet_keep F 0 x54.1 x54.2.1 x54.2.2).bind fun x55 => (m_cells_sheet_do F x55.2.2 x1 x2 x55.1 x55.2.1).bind fun x56 => (m_span_Scale F x9 x10 x13 86400000000).bind fun x57 => (m_cells_sheet_keep F x56.2.2 x57.1 x57.2.1 x57.2.2).bind fun x58 => (m_cells_sheet_do F x58.2.2 x3 x4 x58.1 x58.2.1).bind fun x59 => (m_span_Scale F x11 x12 x13 86400000000).bind fun x60 => (m_cells_sheet_keep F x59.2.2 x60.1 x60.2.1 x60.2.2).bind fun x61 => (m_cells_sheet_do F x61.2.2 x5 x6 x61.1 x61.2.1).bind fun x62 => m_cells_Ahead_j2 F x14 x15 x13 x62.2.2 x56.1 x56.2.1 x59.1 x59.2.1 x62.1 x62.2.1))
def m_cells_Ahead (F : Nat)  (x1 : Int) (x2 : Int) (x3 : Int) (x4 : Int) (x5 : Int) (x6 : Int) (x7 : Int) (x8 : Int) (x9 : Int) (x10 : Int) (x11 : Int) (x12 : Int) (x13 : Int) (x14 : Int) (x15 : Int) : Option (Int × Int × Int × Int × Int × Int × Int) :=
  (m_sphere_Check F x1 x2 x3 x4 x5 x6).bind fun x64 => if x64 ≠ (0 : Int) then (some (0, 0, 0, 0, 0, 0, x64)) else ((m_sphere_Check F x7 x8 x9 x10 x11 x12).bind fun x67 => if x67 ≠ (0 : Int) then (some (0, 0, 0, 0, 0, 0, x67)) else (m_cells_Ahead_j3 F x14 x15 x7 x8 x13 x1 x2 x9 x10 x3 x4 x11 x12 x5 x6))
end Go.Proofs.Ytplgfmincflodaa
