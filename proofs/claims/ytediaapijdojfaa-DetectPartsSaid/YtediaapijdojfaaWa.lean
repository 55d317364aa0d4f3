/- Walks of the functions that the law on Parts reaches, first half. -/
import Derived.Test.YtediaapijdojfaaSL13
import Derived.Ground.GgzProg
import Derived.Ground.SlgmProg
import Derived.Test.YtediaapijdojfaaDetMath
import Derived.Test.YtediaapijdojfaaLay
set_option linter.unusedVariables false
set_option linter.unusedSimpArgs false
namespace Go.Proofs.Ytediaapijdojfaa
open Go Go.SL Go.Shelf Go.RowKit Go.Maps
theorem C_ok_10 : callOK Try.prog 10 = true := by kernel_rfl
theorem C_ok_11 : callOK Try.prog 11 = true := by kernel_rfl
theorem C_ok_12 : callOK Try.prog 12 = true := by kernel_rfl
theorem C_ok_13 : callOK Try.prog 13 = true := by kernel_rfl
theorem C_ok_14 : callOK Try.prog 14 = true := by kernel_rfl
theorem C_ok_15 : callOK Try.prog 15 = true := by kernel_rfl
theorem C_ok_16 : callOK Try.prog 16 = true := by kernel_rfl
theorem C_ok_17 : callOK Try.prog 17 = true := by kernel_rfl
theorem C_ok_18 : callOK Try.prog 18 = true := by kernel_rfl
theorem C_ok_19 : callOK Try.prog 19 = true := by kernel_rfl
theorem C_ok_20 : callOK Try.prog 20 = true := by kernel_rfl
theorem C_ok_22 : callOK Try.prog 22 = true := by kernel_rfl
theorem C_ok_23 : callOK Try.prog 23 = true := by kernel_rfl
theorem C_ok_24 : callOK Try.prog 24 = true := by kernel_rfl
theorem C_ok_25 : callOK Try.prog 25 = true := by kernel_rfl
theorem C_ok_26 : callOK Try.prog 26 = true := by kernel_rfl
theorem C_ok_30 : callOK Try.prog 30 = true := by kernel_rfl
theorem C_ok_4 : callOK Try.prog 4 = true := by kernel_rfl
theorem C_ok_5 : callOK Try.prog 5 = true := by kernel_rfl
theorem C_ok_6 : callOK Try.prog 6 = true := by kernel_rfl
theorem C_ok_7 : callOK Try.prog 7 = true := by kernel_rfl
theorem C_ok_8 : callOK Try.prog 8 = true := by kernel_rfl
theorem C_ok_9 : callOK Try.prog 9 = true := by kernel_rfl
theorem P_mixed : Try.prog.follows .mixedOrders = true := by kernel_rfl
theorem T_agg_2 : tAgg Try.prog 2 = some false := by kernel_rfl
theorem T_agg_22 : tAgg Try.prog 22 = some false := by kernel_rfl
theorem T_agg_24 : tAgg Try.prog 24 = some true := by kernel_rfl
theorem T_agg_3 : tAgg Try.prog 3 = some false := by kernel_rfl
theorem T_agg_4 : tAgg Try.prog 4 = some false := by kernel_rfl
theorem T_agg_40 : tAgg Try.prog 40 = some false := by kernel_rfl
theorem T_agg_42 : tAgg Try.prog 42 = some true := by kernel_rfl
theorem T_agg_46 : tAgg Try.prog 46 = some false := by kernel_rfl
theorem T_bytes_2 : tBytes Try.prog 2 = some 8 := by kernel_rfl
theorem T_bytes_3 : tBytes Try.prog 3 = some 8 := by kernel_rfl
theorem T_bytes_4 : tBytes Try.prog 4 = some 1 := by kernel_rfl
theorem T_bytes_46 : tBytes Try.prog 46 = some 24 := by kernel_rfl
theorem T_elem_22 : tElem Try.prog 22 = some 2 := by kernel_rfl
theorem T_elem_25 : tElem Try.prog 25 = some 4 := by kernel_rfl
theorem T_elem_28 : tElem Try.prog 28 = some 46 := by kernel_rfl
theorem T_elem_46 : tElem Try.prog 46 = some 3 := by kernel_rfl
theorem T_field_24_0 : tField Try.prog 24 0 = some 0 := by kernel_rfl
theorem T_field_24_1 : tField Try.prog 24 1 = some 1 := by kernel_rfl
theorem T_field_24_2 : tField Try.prog 24 2 = some 2 := by kernel_rfl
theorem T_field_42_0 : tField Try.prog 42 0 = some 0 := by kernel_rfl
theorem T_places_24 : tPlaces Try.prog 24 = some #[(0, 1), (1, 1), (2, 1)] := by kernel_rfl
theorem T_places_42 : tPlaces Try.prog 42 = some #[(0, 3)] := by kernel_rfl
theorem T_set_40 : tSet Try.prog 40 = some 3 := by kernel_rfl
theorem T_size_2 : tSize Try.prog 2 = some 1 := by kernel_rfl
theorem T_size_24 : tSize Try.prog 24 = some 3 := by kernel_rfl
theorem T_size_3 : tSize Try.prog 3 = some 1 := by kernel_rfl
theorem T_size_4 : tSize Try.prog 4 = some 1 := by kernel_rfl
theorem T_size_42 : tSize Try.prog 42 = some 3 := by kernel_rfl
theorem T_size_46 : tSize Try.prog 46 = some 1 := by kernel_rfl
theorem T_zero_2 : tZero Try.prog 2 = some (.int .i64 0) := by kernel_rfl
theorem T_zero_24 : tZero Try.prog 24 = some (.agg #[.int .i64 0, .int .i64 0, .slice none 0 0]) := by kernel_rfl
theorem T_zero_3 : tZero Try.prog 3 = some (.int .i64 0) := by kernel_rfl
theorem T_zero_4 : tZero Try.prog 4 = some (.bool false) := by kernel_rfl
theorem T_zero_42 : tZero Try.prog 42 = some (.agg #[.int .i64 0, .int .i64 0, .slice none 0 0]) := by kernel_rfl
theorem T_zero_46 : tZero Try.prog 46 = some (.slice none 0 0) := by kernel_rfl
set_option maxHeartbeats 400000 in
set_option maxRecDepth 4000 in
theorem great10_spec (fW fH : Int) (vP : Value) (zs : List Int) (w0 : World) (hP : rdOK (hp w0) 1 vP zs.length (ints zs)) :
    Ret Try.prog 10 #[.agg #[.int .i64 fW, .int .i64 fH, vP]] w0 (G := Unit) (fun _ => .bool (decide ((zs.length : Int) > 100))) (fun _ w => St w0 w noX [] []) := by
  refine ret_of_W (lv := [.agg #[.int .i64 fW, .int .i64 fH, vP]]) Try.func10 rfl rfl rfl (fun a hf => ?_)
  replace hf : Fr a 7 [] [(0, .agg #[.int .i64 fW, .int .i64 fH, vP])] := hf
  have hS : St w0 w0 noX [rdv 1 vP zs.length (ints zs)] [] := (St.refl w0).lend0 hP
  refine W.seq ?_
  -- region 0
  refine W.regionL (l := [0, 1]) rfl ?_
  refine O.box (cs := #[.int .i64 fW, .int .i64 fH, vP]) hf hS rfl rfl rfl rfl ?_
  clear hf hS a; intro b_f1 w a hbb_f1 hS hf
  refine O.val hf rfl rfl rfl (RunV.assign rfl) ?_
  clear hf a; intro a hf
  refine O.nil ?_
  refine k_seq ?_
  replace hf : Fr a 7 [] [(1, .pointer (some ⟨b_f1, 0, none⟩)), (2, .bool false)] := hf.to ⟨rfl, rfl, trivial⟩
  refine W.seq ?_
  -- region 1
  refine W.regionL (l := [0, 1, 2, 3, 4]) rfl ?_
  refine O.val hf rfl rfl rfl (RunV.field T_field_24_2 rfl rfl) ?_
  clear hf a; intro a hf
  refine O.val hf rfl rfl rfl (RunV.load1 T_agg_22 rfl (hS.ptAt (i := 0) rfl) rfl) ?_
  clear hf a; intro a hf
  refine O.val hf rfl rfl rfl (RunV.lenV (e := 2) (by simpa using T_elem_22) rfl (hS.rdAt (j := 0) rfl)) ?_
  clear hf a; intro a hf
  refine O.val (v := .bool (decide ((zs.length : Int) > (100 : Int)))) hf rfl rfl rfl (RunV.gtr rfl rfl) ?_
  clear hf a; intro a hf
  refine O.val hf rfl rfl rfl (RunV.assign rfl) ?_
  clear hf a; intro a hf
  refine O.nil ?_
  refine k_seq ?_
  replace hf : Fr a 7 [] [(2, .bool (decide ((zs.length : Int) > (100 : Int))))] := hf.to ⟨rfl, trivial⟩
  refine W.ret ?_
  refine post1 hf rfl (ResOK.tmp rfl) ?_
  exact ⟨(), rfl, hS.sub (List.nil_sublist _) |>.noB⟩

set_option maxHeartbeats 400000 in
set_option maxRecDepth 4000 in
theorem great_spec (fW fH : Int) (vP vB : Value) (zs : List Int) (bs : List Bool) (w0 : World) (hP : rdOK (hp w0) 1 vP zs.length (ints zs)) (hB : rdOK (hp w0) 1 vB bs.length (bools bs)) :
    Ret Try.prog 4 #[.agg #[.int .i64 fW, .int .i64 fH, vP], vB] w0 (G := Unit) (fun _ => .bool (decide ((zs.length : Int) > 100) || decide ((bs.length : Int) > 120))) (fun _ w => St w0 w noX [] []) := by
  refine ret_of_W (lv := [.agg #[.int .i64 fW, .int .i64 fH, vP], vB]) Try.func4 rfl rfl rfl (fun a hf => ?_)
  replace hf : Fr a 12 [] [(0, .agg #[.int .i64 fW, .int .i64 fH, vP]), (1, vB)] := hf
  have hS : St w0 w0 noX [rdv 1 vP zs.length (ints zs), rdv 1 vB bs.length (bools bs)] [] := ((St.refl w0).lend0 hB).lend0 hP
  refine W.seq ?_
  -- region 0
  refine W.regionL (l := [0, 1]) rfl ?_
  refine O.box (cs := #[.int .i64 fW, .int .i64 fH, vP]) hf hS rfl rfl rfl rfl ?_
  clear hf hS a; intro b_f1 w a hbb_f1 hS hf
  refine O.val hf rfl rfl rfl (RunV.assign rfl) ?_
  clear hf a; intro a hf
  refine O.nil ?_
  refine k_seq ?_
  replace hf : Fr a 12 [] [(1, vB), (2, .pointer (some ⟨b_f1, 0, none⟩)), (4, .bool false)] := hf.to ⟨rfl, rfl, rfl, trivial⟩
  refine W.seq ?_
  -- region 1
  refine W.regionL (l := [0, 1, 2, 3, 4, 5, 6, 7]) rfl ?_
  refine O.val hf rfl rfl rfl (RunV.loadN (cs' := #[.int .i64 fW, .int .i64 fH, vP]) T_agg_24 T_size_24 rfl (hS.ptAt (i := 0) rfl) (Nat.le_of_ble_eq_true rfl) rfl) ?_
  clear hf a; intro a hf
  refine O.callR hf rfl rfl rfl (RunE.call (av := #[.agg #[.int .i64 fW, .int .i64 fH, vP]]) C_ok_10 rfl rfl rfl) (great10_spec fW fH vP zs _ (hS.rdAt (j := 0) rfl)) ?_
  clear hf a
  rintro _ w2 hS1 a hf
  replace hf : Fr a _ _ ((6, .bool (decide ((zs.length : Int) > 100))) :: _) := hf
  replace hS := (hS.call hS1).eqM (N := [pt b_f1 (.cells #[.int .i64 fW, .int .i64 fH, vP] 24 (0, 0))]) rfl
  clear hS1
  refine O.val hf rfl rfl rfl (RunV.move rfl) ?_
  clear hf a; intro a hf
  -- a guarded part
  refine O.cutN (l₁ := [3, 4, 5, 6]) (l₂ := _) (fun a w => Fr a 12 [] [(1, vB), (2, .pointer (some ⟨b_f1, 0, none⟩)), (4, .bool false), (5, .agg #[.int .i64 fW, .int .i64 fH, vP]), (6, .bool (decide ((zs.length : Int) > 100))), (7, .bool (decide ((zs.length : Int) > 100))), (11, .bool ((decide ((zs.length : Int) > 100)) || (decide ((bs.length : Int) > (120 : Int)))))] ∧ St w0 w noX [rdv 1 vP zs.length (ints zs), rdv 1 vB bs.length (bools bs)] [pt b_f1 (.cells #[.int .i64 fW, .int .i64 fH, vP] 24 (0, 0))]) rfl ?_ ?_
  · rcases Bool.eq_false_or_eq_true (decide ((zs.length : Int) > 100)) with hb3 | hb3
    · have hb3p := of_decide_eq_true hb3
      refine O.skipB hf rfl rfl rfl hb3 rfl ?_; clear hf a; intro a hf
      refine O.skipB hf rfl rfl rfl hb3 rfl ?_; clear hf a; intro a hf
      refine O.skipB hf rfl rfl rfl hb3 rfl ?_; clear hf a; intro a hf
      refine O.val (v := .bool ((decide ((zs.length : Int) > 100)) || (decide ((bs.length : Int) > (120 : Int))))) hf rfl rfl rfl (RunV.pick rfl rfl rfl (by rw [hb3]; rfl)) ?_; clear hf a; intro a hf
      exact O.nil ⟨rfl, hf.to ⟨rfl, rfl, rfl, rfl, rfl, rfl, rfl, trivial⟩, hS⟩
    · have hb3p := of_decide_eq_false hb3
      refine O.gvalB (v := vB) hf rfl rfl rfl hb3 rfl rfl (RunV.move rfl) ?_
      clear hf a; intro a hf
      refine O.gvalB (v := .int .i64 (bs.length : Int)) hf rfl rfl rfl hb3 rfl rfl (RunV.lenV (e := 4) (by simpa using T_elem_25) rfl (hS.rdAt (j := 1) rfl)) ?_
      clear hf a; intro a hf
      refine O.gvalB (v := .bool (decide ((bs.length : Int) > (120 : Int)))) hf rfl rfl rfl hb3 rfl rfl (RunV.gtr rfl rfl) ?_
      clear hf a; intro a hf
      refine O.val (v := .bool ((decide ((zs.length : Int) > 100)) || (decide ((bs.length : Int) > (120 : Int))))) hf rfl rfl rfl (RunV.pick rfl rfl rfl (by rw [hb3]; rfl)) ?_; clear hf a; intro a hf
      exact O.nil ⟨rfl, hf.to ⟨rfl, rfl, rfl, rfl, rfl, rfl, rfl, trivial⟩, hS⟩
  clear hf hS a; rintro a w ⟨hf, hS⟩
  refine O.val hf rfl rfl rfl (RunV.assign rfl) ?_
  clear hf a; intro a hf
  refine O.nil ?_
  refine k_seq ?_
  replace hf : Fr a 12 [] [(4, .bool ((decide ((zs.length : Int) > 100)) || (decide ((bs.length : Int) > (120 : Int)))))] := hf.to ⟨rfl, trivial⟩
  refine W.ret ?_
  refine post1 hf rfl (ResOK.tmp rfl) ?_
  exact ⟨(), rfl, hS.sub (List.nil_sublist _) |>.noB⟩

set_option maxHeartbeats 400000 in
set_option maxRecDepth 4000 in
theorem check10_spec (fW fH : Int) (vP : Value) (zs : List Int) (w0 : World) (hP : rdOK (hp w0) 1 vP zs.length (ints zs)) [Decidable (Det.fieldOK fW fH zs)] :
    Ret Try.prog 13 #[.agg #[.int .i64 fW, .int .i64 fH, vP]] w0 (G := Unit) (fun _ => .int .i64 (if Det.fieldOK fW fH zs then 0 else 8)) (fun _ w => St w0 w noX [] []) := by
  refine ret_of_W (lv := [.agg #[.int .i64 fW, .int .i64 fH, vP]]) Try.func13 rfl rfl rfl (fun a hf => ?_)
  replace hf : Fr a 54 [] [(0, .agg #[.int .i64 fW, .int .i64 fH, vP])] := hf
  have hS : St w0 w0 noX [rdv 1 vP zs.length (ints zs)] [] := (St.refl w0).lend0 hP
  have hlen := hP.2.1
  unfold maxLen at hlen
  refine W.seq ?_
  -- region 0
  refine W.regionL (l := [0, 1]) rfl ?_
  refine O.box (cs := #[.int .i64 fW, .int .i64 fH, vP]) hf hS rfl rfl rfl rfl ?_
  clear hf hS a; intro b_f1 w a hbb_f1 hS hf
  refine O.val hf rfl rfl rfl (RunV.assign rfl) ?_
  clear hf a; intro a hf
  refine O.nil ?_
  refine k_seq ?_
  replace hf : Fr a 54 [] [(1, .pointer (some ⟨b_f1, 0, none⟩)), (2, .int .i64 0)] := hf.to ⟨rfl, rfl, trivial⟩
  refine W.seq ?_
  refine W.seq ?_
  -- region 1
  refine W.regionL (l := [0, 1, 2, 3, 4, 5, 6, 7, 8, 9, 10, 11, 12, 13, 14, 15, 16, 17, 18, 19, 20, 21, 22, 23, 24, 25, 26, 27, 28]) rfl ?_
  refine O.val hf rfl rfl rfl (RunV.field T_field_24_0 rfl rfl) ?_
  clear hf a; intro a hf
  refine O.val hf rfl rfl rfl (RunV.load1 T_agg_3 rfl (hS.ptAt (i := 0) rfl) rfl) ?_
  clear hf a; intro a hf
  refine O.val (v := .bool (decide (fW < (1 : Int)))) hf rfl rfl rfl (RunV.lss rfl rfl) ?_
  clear hf a; intro a hf
  refine O.val hf rfl rfl rfl (RunV.move rfl) ?_
  clear hf a; intro a hf
  -- a guarded part
  refine O.cutN (l₁ := [4, 5, 6, 7]) (l₂ := _) (fun a w => Fr a 54 [] [(1, .pointer (some ⟨b_f1, 0, none⟩)), (2, .int .i64 0), (4, .pointer (some ⟨b_f1, 0, none⟩)), (5, .int .i64 fW), (6, .bool (decide (fW < (1 : Int)))), (7, .bool (decide (fW < (1 : Int)))), (11, .bool ((decide (fW < (1 : Int))) || (decide (fW > (100 : Int)))))] ∧ St w0 w noX [rdv 1 vP zs.length (ints zs)] [pt b_f1 (.cells #[.int .i64 fW, .int .i64 fH, vP] 24 (0, 0))]) rfl ?_ ?_
  · rcases Bool.eq_false_or_eq_true (decide (fW < (1 : Int))) with hb2 | hb2
    · have hb2p := of_decide_eq_true hb2
      refine O.skipB hf rfl rfl rfl hb2 rfl ?_; clear hf a; intro a hf
      refine O.skipB hf rfl rfl rfl hb2 rfl ?_; clear hf a; intro a hf
      refine O.skipB hf rfl rfl rfl hb2 rfl ?_; clear hf a; intro a hf
      refine O.val (v := .bool ((decide (fW < (1 : Int))) || (decide (fW > (100 : Int))))) hf rfl rfl rfl (RunV.pick rfl rfl rfl (by rw [hb2]; rfl)) ?_; clear hf a; intro a hf
      exact O.nil ⟨rfl, hf.to ⟨rfl, rfl, rfl, rfl, rfl, rfl, rfl, trivial⟩, hS⟩
    · have hb2p := of_decide_eq_false hb2
      refine O.gvalB (v := .pointer (some ⟨b_f1, 0, none⟩)) hf rfl rfl rfl hb2 rfl rfl (RunV.field T_field_24_0 rfl rfl) ?_
      clear hf a; intro a hf
      refine O.gvalB (v := .int .i64 fW) hf rfl rfl rfl hb2 rfl rfl (RunV.load1 T_agg_3 rfl (hS.ptAt (i := 0) rfl) rfl) ?_
      clear hf a; intro a hf
      refine O.gvalB (v := .bool (decide (fW > (100 : Int)))) hf rfl rfl rfl hb2 rfl rfl (RunV.gtr rfl rfl) ?_
      clear hf a; intro a hf
      refine O.val (v := .bool ((decide (fW < (1 : Int))) || (decide (fW > (100 : Int))))) hf rfl rfl rfl (RunV.pick rfl rfl rfl (by rw [hb2]; rfl)) ?_; clear hf a; intro a hf
      exact O.nil ⟨rfl, hf.to ⟨rfl, rfl, rfl, rfl, rfl, rfl, rfl, trivial⟩, hS⟩
  clear hf hS a; rintro a w ⟨hf, hS⟩
  refine O.val hf rfl rfl rfl (RunV.move rfl) ?_
  clear hf a; intro a hf
  -- a guarded part
  refine O.cutN (l₁ := [9, 10, 11, 12]) (l₂ := _) (fun a w => Fr a 54 [] [(1, .pointer (some ⟨b_f1, 0, none⟩)), (2, .int .i64 0), (4, .pointer (some ⟨b_f1, 0, none⟩)), (5, .int .i64 fW), (6, .bool (decide (fW < (1 : Int)))), (7, .bool (decide (fW < (1 : Int)))), (11, .bool ((decide (fW < (1 : Int))) || (decide (fW > (100 : Int))))), (12, .bool ((decide (fW < (1 : Int))) || (decide (fW > (100 : Int))))), (16, .bool (((decide (fW < (1 : Int))) || (decide (fW > (100 : Int)))) || (decide (fH < (1 : Int)))))] ∧ St w0 w noX [rdv 1 vP zs.length (ints zs)] [pt b_f1 (.cells #[.int .i64 fW, .int .i64 fH, vP] 24 (0, 0))]) rfl ?_ ?_
  · rcases Bool.eq_false_or_eq_true ((decide (fW < (1 : Int))) || (decide (fW > (100 : Int)))) with hb3 | hb3
    · have hb3p := hb3
      try simp only [Bool.and_eq_true, Bool.or_eq_true, Bool.and_eq_false_iff, Bool.or_eq_false_iff, decide_eq_true_eq, decide_eq_false_iff_not, Bool.not_eq_true', Bool.not_eq_false', Bool.not_eq_true, Bool.not_eq_false, ne_eq] at hb3p
      refine O.skipB hf rfl rfl rfl hb3 rfl ?_; clear hf a; intro a hf
      refine O.skipB hf rfl rfl rfl hb3 rfl ?_; clear hf a; intro a hf
      refine O.skipB hf rfl rfl rfl hb3 rfl ?_; clear hf a; intro a hf
      refine O.val (v := .bool (((decide (fW < (1 : Int))) || (decide (fW > (100 : Int)))) || (decide (fH < (1 : Int))))) hf rfl rfl rfl (RunV.pick rfl rfl rfl (by rw [hb3]; rfl)) ?_; clear hf a; intro a hf
      exact O.nil ⟨rfl, hf.to ⟨rfl, rfl, rfl, rfl, rfl, rfl, rfl, rfl, rfl, trivial⟩, hS⟩
    · have hb3p := hb3
      try simp only [Bool.and_eq_true, Bool.or_eq_true, Bool.and_eq_false_iff, Bool.or_eq_false_iff, decide_eq_true_eq, decide_eq_false_iff_not, Bool.not_eq_true', Bool.not_eq_false', Bool.not_eq_true, Bool.not_eq_false, ne_eq] at hb3p
      refine O.gvalB (v := .pointer (some ⟨b_f1, 1, none⟩)) hf rfl rfl rfl hb3 rfl rfl (RunV.field T_field_24_1 rfl rfl) ?_
      clear hf a; intro a hf
      refine O.gvalB (v := .int .i64 fH) hf rfl rfl rfl hb3 rfl rfl (RunV.load1 T_agg_3 rfl (hS.ptAt (i := 0) rfl) rfl) ?_
      clear hf a; intro a hf
      refine O.gvalB (v := .bool (decide (fH < (1 : Int)))) hf rfl rfl rfl hb3 rfl rfl (RunV.lss rfl rfl) ?_
      clear hf a; intro a hf
      refine O.val (v := .bool (((decide (fW < (1 : Int))) || (decide (fW > (100 : Int)))) || (decide (fH < (1 : Int))))) hf rfl rfl rfl (RunV.pick rfl rfl rfl (by rw [hb3]; rfl)) ?_; clear hf a; intro a hf
      exact O.nil ⟨rfl, hf.to ⟨rfl, rfl, rfl, rfl, rfl, rfl, rfl, rfl, rfl, trivial⟩, hS⟩
  clear hf hS a; rintro a w ⟨hf, hS⟩
  refine O.val hf rfl rfl rfl (RunV.move rfl) ?_
  clear hf a; intro a hf
  -- a guarded part
  refine O.cutN (l₁ := [14, 15, 16, 17]) (l₂ := _) (fun a w => Fr a 54 [] [(1, .pointer (some ⟨b_f1, 0, none⟩)), (2, .int .i64 0), (4, .pointer (some ⟨b_f1, 0, none⟩)), (5, .int .i64 fW), (6, .bool (decide (fW < (1 : Int)))), (7, .bool (decide (fW < (1 : Int)))), (11, .bool ((decide (fW < (1 : Int))) || (decide (fW > (100 : Int))))), (12, .bool ((decide (fW < (1 : Int))) || (decide (fW > (100 : Int))))), (16, .bool (((decide (fW < (1 : Int))) || (decide (fW > (100 : Int)))) || (decide (fH < (1 : Int))))), (17, .bool (((decide (fW < (1 : Int))) || (decide (fW > (100 : Int)))) || (decide (fH < (1 : Int))))), (21, .bool ((((decide (fW < (1 : Int))) || (decide (fW > (100 : Int)))) || (decide (fH < (1 : Int)))) || (decide (fH > (100 : Int)))))] ∧ St w0 w noX [rdv 1 vP zs.length (ints zs)] [pt b_f1 (.cells #[.int .i64 fW, .int .i64 fH, vP] 24 (0, 0))]) rfl ?_ ?_
  · rcases Bool.eq_false_or_eq_true (((decide (fW < (1 : Int))) || (decide (fW > (100 : Int)))) || (decide (fH < (1 : Int)))) with hb4 | hb4
    · have hb4p := hb4
      try simp only [Bool.and_eq_true, Bool.or_eq_true, Bool.and_eq_false_iff, Bool.or_eq_false_iff, decide_eq_true_eq, decide_eq_false_iff_not, Bool.not_eq_true', Bool.not_eq_false', Bool.not_eq_true, Bool.not_eq_false, ne_eq] at hb4p
      refine O.skipB hf rfl rfl rfl hb4 rfl ?_; clear hf a; intro a hf
      refine O.skipB hf rfl rfl rfl hb4 rfl ?_; clear hf a; intro a hf
      refine O.skipB hf rfl rfl rfl hb4 rfl ?_; clear hf a; intro a hf
      refine O.val (v := .bool ((((decide (fW < (1 : Int))) || (decide (fW > (100 : Int)))) || (decide (fH < (1 : Int)))) || (decide (fH > (100 : Int))))) hf rfl rfl rfl (RunV.pick rfl rfl rfl (by rw [hb4]; rfl)) ?_; clear hf a; intro a hf
      exact O.nil ⟨rfl, hf.to ⟨rfl, rfl, rfl, rfl, rfl, rfl, rfl, rfl, rfl, rfl, rfl, trivial⟩, hS⟩
    · have hb4p := hb4
      try simp only [Bool.and_eq_true, Bool.or_eq_true, Bool.and_eq_false_iff, Bool.or_eq_false_iff, decide_eq_true_eq, decide_eq_false_iff_not, Bool.not_eq_true', Bool.not_eq_false', Bool.not_eq_true, Bool.not_eq_false, ne_eq] at hb4p
      refine O.gvalB (v := .pointer (some ⟨b_f1, 1, none⟩)) hf rfl rfl rfl hb4 rfl rfl (RunV.field T_field_24_1 rfl rfl) ?_
      clear hf a; intro a hf
      refine O.gvalB (v := .int .i64 fH) hf rfl rfl rfl hb4 rfl rfl (RunV.load1 T_agg_3 rfl (hS.ptAt (i := 0) rfl) rfl) ?_
      clear hf a; intro a hf
      refine O.gvalB (v := .bool (decide (fH > (100 : Int)))) hf rfl rfl rfl hb4 rfl rfl (RunV.gtr rfl rfl) ?_
      clear hf a; intro a hf
      refine O.val (v := .bool ((((decide (fW < (1 : Int))) || (decide (fW > (100 : Int)))) || (decide (fH < (1 : Int)))) || (decide (fH > (100 : Int))))) hf rfl rfl rfl (RunV.pick rfl rfl rfl (by rw [hb4]; rfl)) ?_; clear hf a; intro a hf
      exact O.nil ⟨rfl, hf.to ⟨rfl, rfl, rfl, rfl, rfl, rfl, rfl, rfl, rfl, rfl, rfl, trivial⟩, hS⟩
  clear hf hS a; rintro a w ⟨hf, hS⟩
  refine O.val hf rfl rfl rfl (RunV.move rfl) ?_
  clear hf a; intro a hf
  -- a guarded part
  refine O.cutN (l₁ := [19, 20, 21, 22, 23, 24, 25, 26, 27, 28]) (l₂ := _) (fun a w => Fr a 54 [] [(1, .pointer (some ⟨b_f1, 0, none⟩)), (2, .int .i64 0), (4, .pointer (some ⟨b_f1, 0, none⟩)), (5, .int .i64 fW), (6, .bool (decide (fW < (1 : Int)))), (7, .bool (decide (fW < (1 : Int)))), (11, .bool ((decide (fW < (1 : Int))) || (decide (fW > (100 : Int))))), (12, .bool ((decide (fW < (1 : Int))) || (decide (fW > (100 : Int))))), (16, .bool (((decide (fW < (1 : Int))) || (decide (fW > (100 : Int)))) || (decide (fH < (1 : Int))))), (17, .bool (((decide (fW < (1 : Int))) || (decide (fW > (100 : Int)))) || (decide (fH < (1 : Int))))), (21, .bool ((((decide (fW < (1 : Int))) || (decide (fW > (100 : Int)))) || (decide (fH < (1 : Int)))) || (decide (fH > (100 : Int))))), (22, .bool ((((decide (fW < (1 : Int))) || (decide (fW > (100 : Int)))) || (decide (fH < (1 : Int)))) || (decide (fH > (100 : Int))))), (32, .bool (((((decide (fW < (1 : Int))) || (decide (fW > (100 : Int)))) || (decide (fH < (1 : Int)))) || (decide (fH > (100 : Int)))) || (decide ((zs.length : Int) ≠ (fW * fH : Int)))))] ∧ St w0 w noX [rdv 1 vP zs.length (ints zs)] [pt b_f1 (.cells #[.int .i64 fW, .int .i64 fH, vP] 24 (0, 0))]) rfl ?_ ?_
  · rcases Bool.eq_false_or_eq_true ((((decide (fW < (1 : Int))) || (decide (fW > (100 : Int)))) || (decide (fH < (1 : Int)))) || (decide (fH > (100 : Int)))) with hb5 | hb5
    · have hb5p := hb5
      try simp only [Bool.and_eq_true, Bool.or_eq_true, Bool.and_eq_false_iff, Bool.or_eq_false_iff, decide_eq_true_eq, decide_eq_false_iff_not, Bool.not_eq_true', Bool.not_eq_false', Bool.not_eq_true, Bool.not_eq_false, ne_eq] at hb5p
      refine O.skipB hf rfl rfl rfl hb5 rfl ?_; clear hf a; intro a hf
      refine O.skipB hf rfl rfl rfl hb5 rfl ?_; clear hf a; intro a hf
      refine O.skipB hf rfl rfl rfl hb5 rfl ?_; clear hf a; intro a hf
      refine O.skipB hf rfl rfl rfl hb5 rfl ?_; clear hf a; intro a hf
      refine O.skipB hf rfl rfl rfl hb5 rfl ?_; clear hf a; intro a hf
      refine O.skipB hf rfl rfl rfl hb5 rfl ?_; clear hf a; intro a hf
      refine O.skipB hf rfl rfl rfl hb5 rfl ?_; clear hf a; intro a hf
      refine O.skipB hf rfl rfl rfl hb5 rfl ?_; clear hf a; intro a hf
      refine O.skipB hf rfl rfl rfl hb5 rfl ?_; clear hf a; intro a hf
      refine O.val (v := .bool (((((decide (fW < (1 : Int))) || (decide (fW > (100 : Int)))) || (decide (fH < (1 : Int)))) || (decide (fH > (100 : Int)))) || (decide ((zs.length : Int) ≠ (fW * fH : Int))))) hf rfl rfl rfl (RunV.pick rfl rfl rfl (by rw [hb5]; rfl)) ?_; clear hf a; intro a hf
      exact O.nil ⟨rfl, hf.to ⟨rfl, rfl, rfl, rfl, rfl, rfl, rfl, rfl, rfl, rfl, rfl, rfl, rfl, trivial⟩, hS⟩
    · have hb5p := hb5
      try simp only [Bool.and_eq_true, Bool.or_eq_true, Bool.and_eq_false_iff, Bool.or_eq_false_iff, decide_eq_true_eq, decide_eq_false_iff_not, Bool.not_eq_true', Bool.not_eq_false', Bool.not_eq_true, Bool.not_eq_false, ne_eq] at hb5p
      refine O.gvalB (v := .pointer (some ⟨b_f1, 2, none⟩)) hf rfl rfl rfl hb5 rfl rfl (RunV.field T_field_24_2 rfl rfl) ?_
      clear hf a; intro a hf
      refine O.gvalB (v := vP) hf rfl rfl rfl hb5 rfl rfl (RunV.load1 T_agg_22 rfl (hS.ptAt (i := 0) rfl) rfl) ?_
      clear hf a; intro a hf
      refine O.gvalB (v := .int .i64 (zs.length : Int)) hf rfl rfl rfl hb5 rfl rfl (RunV.lenV (e := 2) (by simpa using T_elem_22) rfl (hS.rdAt (j := 0) rfl)) ?_
      clear hf a; intro a hf
      refine O.gvalB (v := .pointer (some ⟨b_f1, 0, none⟩)) hf rfl rfl rfl hb5 rfl rfl (RunV.field T_field_24_0 rfl rfl) ?_
      clear hf a; intro a hf
      refine O.gvalB (v := .int .i64 fW) hf rfl rfl rfl hb5 rfl rfl (RunV.load1 T_agg_3 rfl (hS.ptAt (i := 0) rfl) rfl) ?_
      clear hf a; intro a hf
      refine O.gvalB (v := .pointer (some ⟨b_f1, 1, none⟩)) hf rfl rfl rfl hb5 rfl rfl (RunV.field T_field_24_1 rfl rfl) ?_
      clear hf a; intro a hf
      refine O.gvalB (v := .int .i64 fH) hf rfl rfl rfl hb5 rfl rfl (RunV.load1 T_agg_3 rfl (hS.ptAt (i := 0) rfl) rfl) ?_
      clear hf a; intro a hf
      refine O.gvalB (v := .int .i64 (fW * fH)) hf rfl rfl rfl hb5 rfl rfl (RunV.mulI rfl rfl (by have := Det.mul_bd (a := fW) (b := fH) (by omega) (by omega); omega)) ?_
      clear hf a; intro a hf
      refine O.gvalB (v := .bool (decide ((zs.length : Int) ≠ (fW * fH : Int)))) hf rfl rfl rfl hb5 rfl rfl (RunV.neq rfl rfl) ?_
      clear hf a; intro a hf
      refine O.val (v := .bool (((((decide (fW < (1 : Int))) || (decide (fW > (100 : Int)))) || (decide (fH < (1 : Int)))) || (decide (fH > (100 : Int)))) || (decide ((zs.length : Int) ≠ (fW * fH : Int))))) hf rfl rfl rfl (RunV.pick rfl rfl rfl (by rw [hb5]; rfl)) ?_; clear hf a; intro a hf
      exact O.nil ⟨rfl, hf.to ⟨rfl, rfl, rfl, rfl, rfl, rfl, rfl, rfl, rfl, rfl, rfl, rfl, rfl, trivial⟩, hS⟩
  clear hf hS a; rintro a w ⟨hf, hS⟩
  refine O.nil ?_
  refine k_seq ?_
  replace hf : Fr a 54 [] [(1, .pointer (some ⟨b_f1, 0, none⟩)), (2, .int .i64 0), (32, .bool (((((decide (fW < (1 : Int))) || (decide (fW > (100 : Int)))) || (decide (fH < (1 : Int)))) || (decide (fH > (100 : Int)))) || (decide ((zs.length : Int) ≠ (fW * fH : Int)))))] := hf.to ⟨rfl, rfl, rfl, trivial⟩
  refine W.if_ hf rfl (fun hbad => ?_) (fun hbad => ?_)
  · have hbadb := hbad
    try simp only [Bool.and_eq_true, Bool.or_eq_true, Bool.and_eq_false_iff, Bool.or_eq_false_iff, decide_eq_true_eq, decide_eq_false_iff_not, Bool.not_eq_true', Bool.not_eq_false', Bool.not_eq_true, Bool.not_eq_false, ne_eq] at hbad
    refine W.seq ?_
    -- region 2
    refine W.regionL (l := [0]) rfl ?_
    refine O.val hf rfl rfl rfl (RunV.assign rfl) ?_
    clear hf a; intro a hf
    refine O.nil ?_
    refine k_seq ?_
    refine W.ret ?_
    refine k_then_ret ?_
    refine post1 hf rfl (ResOK.tmp rfl) ?_
    refine ⟨(), by rw [if_neg (fun h => by obtain ⟨g1, g2, g3, g4, g5, g6⟩ := h; first | omega | (have := g6 k (by omega); omega))], hS.sub (List.nil_sublist _) |>.noB⟩
  · have hbadb := hbad
    try simp only [Bool.and_eq_true, Bool.or_eq_true, Bool.and_eq_false_iff, Bool.or_eq_false_iff, decide_eq_true_eq, decide_eq_false_iff_not, Bool.not_eq_true', Bool.not_eq_false', Bool.not_eq_true, Bool.not_eq_false, ne_eq] at hbad
    refine W.skip ?_
    refine k_seq ?_
    refine W.seq ?_
    refine W.seq ?_
    -- region 3
    refine W.regionL (l := [0]) rfl ?_
    refine O.val hf rfl rfl rfl (RunV.assign rfl) ?_
    clear hf a; intro a hf
    refine O.nil ?_
    refine k_seq ?_
    refine W.block ?_
    -- loop 0
    refine W.loop (G := (Nat)) (fun g a w => match g with | k => Fr a 54 [] [(1, .pointer (some ⟨b_f1, 0, none⟩)), (3, .int .i64 (k : Int))] ∧ St w0 w noX [rdv 1 vP zs.length (ints zs)] [pt b_f1 (.cells #[.int .i64 fW, .int .i64 fH, vP] 24 (0, 0))] ∧ (k ≤ zs.length) ∧ (∀ j, j < k → -4294967296 ≤ zs.getD j 0 ∧ zs.getD j 0 ≤ 4294967296)) (fun g => match g with | k => zs.length - k) 0 ?_ ?_
    · refine ⟨hf.to ⟨rfl, (by first | rfl | exact congrArg some (congrArg (Value.int _) (by omega))), trivial⟩, hS, ?_, ?_⟩
      · omega
      · exact fun j hj => by omega
    clear hf hS a
    rintro k a w ⟨hf, hS, h1, h2⟩
    refine W.seq ?_
    refine W.seq ?_
    -- region 4
    refine W.regionL (l := [0, 1, 2, 3, 4]) rfl ?_
    refine O.val hf rfl rfl rfl (RunV.move rfl) ?_
    clear hf a; intro a hf
    refine O.val hf rfl rfl rfl (RunV.field T_field_24_2 rfl rfl) ?_
    clear hf a; intro a hf
    refine O.val hf rfl rfl rfl (RunV.load1 T_agg_22 rfl (hS.ptAt (i := 0) rfl) rfl) ?_
    clear hf a; intro a hf
    refine O.val hf rfl rfl rfl (RunV.lenV (e := 2) (by simpa using T_elem_22) rfl (hS.rdAt (j := 0) rfl)) ?_
    clear hf a; intro a hf
    refine O.val (v := .bool (decide ((k : Int) < ((zs.length : Int) : Int)))) hf rfl rfl rfl (RunV.lss rfl rfl) ?_
    clear hf a; intro a hf
    refine O.nil ?_
    refine k_seq ?_
    replace hf : Fr a 54 [] [(1, .pointer (some ⟨b_f1, 0, none⟩)), (3, .int .i64 (k : Int)), (37, .bool (decide ((k : Int) < ((zs.length : Int) : Int))))] := hf.to ⟨rfl, rfl, rfl, trivial⟩
    refine W.ifdI hf rfl (fun hlt => ?_) (fun hlt => ?_)
    · refine W.skip ?_
      refine k_seq ?_
      refine W.seq ?_
      refine W.block ?_
      refine W.seq ?_
      -- region 6
      refine W.regionL (l := [0, 1, 2, 3, 4, 5, 6, 7, 8, 9, 10, 11, 12, 13]) rfl ?_
      refine O.val hf rfl rfl rfl (RunV.field T_field_24_2 rfl rfl) ?_
      clear hf a; intro a hf
      refine O.val hf rfl rfl rfl (RunV.load1 T_agg_22 rfl (hS.ptAt (i := 0) rfl) rfl) ?_
      clear hf a; intro a hf
      refine O.val hf rfl rfl rfl (RunV.move rfl) ?_
      clear hf a; intro a hf
      refine O.val hf rfl rfl rfl (RunV.ixV (j := k) (m := k) T_elem_22 T_size_2 rfl rfl (hS.rdAt (j := 0) rfl) rfl (by omega) (Nat.mul_one _)) ?_
      clear hf a; intro a hf
      refine O.val hf rfl rfl rfl (RunV.ld1 T_agg_2 rfl (hS.rdAt (j := 0) rfl) (ints_get (by omega))) ?_
      clear hf a; intro a hf
      refine O.val (v := .bool (decide ((zs.getD k 0) < (-4294967296 : Int)))) hf rfl rfl rfl (RunV.lss rfl rfl) ?_
      clear hf a; intro a hf
      refine O.val hf rfl rfl rfl (RunV.move rfl) ?_
      clear hf a; intro a hf
      -- a guarded part
      refine O.cutN (l₁ := [7, 8, 9, 10, 11, 12, 13]) (l₂ := _) (fun a w => Fr a 54 [] [(1, .pointer (some ⟨b_f1, 0, none⟩)), (3, .int .i64 (k : Int)), (40, .pointer (some ⟨b_f1, 2, none⟩)), (41, vP), (42, .int .i64 (k : Int)), (43, ix vP k), (44, .int .i64 (zs.getD k 0)), (45, .bool (decide ((zs.getD k 0) < (-4294967296 : Int)))), (46, .bool (decide ((zs.getD k 0) < (-4294967296 : Int)))), (53, .bool ((decide ((zs.getD k 0) < (-4294967296 : Int))) || (decide ((zs.getD k 0) > (4294967296 : Int)))))] ∧ St w0 w noX [rdv 1 vP zs.length (ints zs)] [pt b_f1 (.cells #[.int .i64 fW, .int .i64 fH, vP] 24 (0, 0))]) rfl ?_ ?_
      · rcases Bool.eq_false_or_eq_true (decide ((zs.getD k 0) < (-4294967296 : Int))) with hb8 | hb8
        · have hb8p := of_decide_eq_true hb8
          refine O.skipB hf rfl rfl rfl hb8 rfl ?_; clear hf a; intro a hf
          refine O.skipB hf rfl rfl rfl hb8 rfl ?_; clear hf a; intro a hf
          refine O.skipB hf rfl rfl rfl hb8 rfl ?_; clear hf a; intro a hf
          refine O.skipB hf rfl rfl rfl hb8 rfl ?_; clear hf a; intro a hf
          refine O.skipB hf rfl rfl rfl hb8 rfl ?_; clear hf a; intro a hf
          refine O.skipB hf rfl rfl rfl hb8 rfl ?_; clear hf a; intro a hf
          refine O.val (v := .bool ((decide ((zs.getD k 0) < (-4294967296 : Int))) || (decide ((zs.getD k 0) > (4294967296 : Int))))) hf rfl rfl rfl (RunV.pick rfl rfl rfl (by rw [hb8]; rfl)) ?_; clear hf a; intro a hf
          exact O.nil ⟨rfl, hf.to ⟨rfl, rfl, rfl, rfl, rfl, rfl, rfl, rfl, rfl, rfl, trivial⟩, hS⟩
        · have hb8p := of_decide_eq_false hb8
          refine O.gvalB (v := .pointer (some ⟨b_f1, 2, none⟩)) hf rfl rfl rfl hb8 rfl rfl (RunV.field T_field_24_2 rfl rfl) ?_
          clear hf a; intro a hf
          refine O.gvalB (v := vP) hf rfl rfl rfl hb8 rfl rfl (RunV.load1 T_agg_22 rfl (hS.ptAt (i := 0) rfl) rfl) ?_
          clear hf a; intro a hf
          refine O.gvalB (v := .int .i64 (k : Int)) hf rfl rfl rfl hb8 rfl rfl (RunV.move rfl) ?_
          clear hf a; intro a hf
          refine O.gvalB (v := ix vP k) hf rfl rfl rfl hb8 rfl rfl (RunV.ixV (j := k) (m := k) T_elem_22 T_size_2 rfl rfl (hS.rdAt (j := 0) rfl) rfl (by omega) (Nat.mul_one _)) ?_
          clear hf a; intro a hf
          refine O.gvalB (v := .int .i64 (zs.getD k 0)) hf rfl rfl rfl hb8 rfl rfl (RunV.ld1 T_agg_2 rfl (hS.rdAt (j := 0) rfl) (ints_get (by omega))) ?_
          clear hf a; intro a hf
          refine O.gvalB (v := .bool (decide ((zs.getD k 0) > (4294967296 : Int)))) hf rfl rfl rfl hb8 rfl rfl (RunV.gtr rfl rfl) ?_
          clear hf a; intro a hf
          refine O.val (v := .bool ((decide ((zs.getD k 0) < (-4294967296 : Int))) || (decide ((zs.getD k 0) > (4294967296 : Int))))) hf rfl rfl rfl (RunV.pick rfl rfl rfl (by rw [hb8]; rfl)) ?_; clear hf a; intro a hf
          exact O.nil ⟨rfl, hf.to ⟨rfl, rfl, rfl, rfl, rfl, rfl, rfl, rfl, rfl, rfl, trivial⟩, hS⟩
      clear hf hS a; rintro a w ⟨hf, hS⟩
      refine O.nil ?_
      refine k_seq ?_
      replace hf : Fr a 54 [] [(1, .pointer (some ⟨b_f1, 0, none⟩)), (3, .int .i64 (k : Int)), (53, .bool ((decide ((zs.getD k 0) < (-4294967296 : Int))) || (decide ((zs.getD k 0) > (4294967296 : Int)))))] := hf.to ⟨rfl, rfl, rfl, trivial⟩
      refine W.if_ hf rfl (fun hpix => ?_) (fun hpix => ?_)
      · have hpixb := hpix
        try simp only [Bool.and_eq_true, Bool.or_eq_true, Bool.and_eq_false_iff, Bool.or_eq_false_iff, decide_eq_true_eq, decide_eq_false_iff_not, Bool.not_eq_true', Bool.not_eq_false', Bool.not_eq_true, Bool.not_eq_false, ne_eq] at hpix
        refine W.seq ?_
        -- region 7
        refine W.regionL (l := [0]) rfl ?_
        refine O.val hf rfl rfl rfl (RunV.assign rfl) ?_
        clear hf a; intro a hf
        refine O.nil ?_
        refine k_seq ?_
        refine W.ret ?_
        refine k_blk_ret ?_
        refine k_then_ret ?_
        refine k_then_ret ?_
        refine k_blk_ret ?_
        refine k_then_ret ?_
        refine post1 hf rfl (ResOK.tmp rfl) ?_
        refine ⟨(), by rw [if_neg (fun h => by obtain ⟨g1, g2, g3, g4, g5, g6⟩ := h; first | omega | (have := g6 k (by omega); omega))], hS.sub (List.nil_sublist _) |>.noB⟩
      · have hpixb := hpix
        try simp only [Bool.and_eq_true, Bool.or_eq_true, Bool.and_eq_false_iff, Bool.or_eq_false_iff, decide_eq_true_eq, decide_eq_false_iff_not, Bool.not_eq_true', Bool.not_eq_false', Bool.not_eq_true, Bool.not_eq_false, ne_eq] at hpix
        refine W.skip ?_
        refine k_blk_normal ?_
        refine k_seq ?_
        -- region 5
        refine W.regionL (l := [0, 1, 2]) rfl ?_
        refine O.val hf rfl rfl rfl (RunV.move rfl) ?_
        clear hf a; intro a hf
        refine O.val hf rfl rfl rfl (RunV.addI rfl rfl (by omega)) ?_
        clear hf a; intro a hf
        refine O.val hf rfl rfl rfl (RunV.assign rfl) ?_
        clear hf a; intro a hf
        refine O.nil ?_
        refine k_then ⟨(k + 1), ⟨hf.to ⟨rfl, (by first | rfl | exact congrArg some (congrArg (Value.int _) (by omega))), trivial⟩, ?_, ?_, ?_⟩, ?_⟩
        · exact hS.eqM rfl
        · omega
        · exact Det.all_snoc h2 (by omega)
        · dsimp only; omega
    · refine W.exit ?_
      refine k_then_exit ?_
      refine k_then_exit ?_
      refine k_blk ?_
      refine k_seq ?_
      replace hf : Fr a 54 [] [] := hf.to trivial
      refine W.seq ?_
      -- region 8
      refine W.regionL (l := [0]) rfl ?_
      refine O.val hf rfl rfl rfl (RunV.assign rfl) ?_
      clear hf a; intro a hf
      refine O.nil ?_
      refine k_seq ?_
      refine W.ret ?_
      refine post1 hf rfl (ResOK.tmp rfl) ?_
      refine ⟨(), by rw [if_pos ⟨by omega, by omega, by omega, by omega, by omega, fun j hj => h2 j (by omega)⟩], hS.sub (List.nil_sublist _) |>.noB⟩

set_option maxHeartbeats 400000 in
set_option maxRecDepth 4000 in
theorem same10_spec (aW aH bW bH : Int) (vP vQ : Value) (zs ys : List Int) (w0 : World) (hP : rdOK (hp w0) 1 vP zs.length (ints zs)) (hQ : rdOK (hp w0) 1 vQ ys.length (ints ys)) :
    Ret Try.prog 9 #[.agg #[.int .i64 aW, .int .i64 aH, vP], .agg #[.int .i64 bW, .int .i64 bH, vQ]] w0 (G := Unit) (fun _ => .bool (Det.sameF aW aH zs bW bH ys)) (fun _ w => St w0 w noX [] []) := by
  refine ret_of_W (lv := [.agg #[.int .i64 aW, .int .i64 aH, vP], .agg #[.int .i64 bW, .int .i64 bH, vQ]]) Try.func9 rfl rfl rfl (fun a hf => ?_)
  replace hf : Fr a 45 [] [(0, .agg #[.int .i64 aW, .int .i64 aH, vP]), (1, .agg #[.int .i64 bW, .int .i64 bH, vQ])] := hf
  have hS : St w0 w0 noX [rdv 1 vP zs.length (ints zs), rdv 1 vQ ys.length (ints ys)] [] := ((St.refl w0).lend0 hQ).lend0 hP
  have hlen := hP.2.1
  unfold maxLen at hlen
  refine W.seq ?_
  -- region 0
  refine W.regionL (l := [0, 1, 2]) rfl ?_
  refine O.box (cs := #[.int .i64 aW, .int .i64 aH, vP]) hf hS rfl rfl rfl rfl ?_
  clear hf hS a; intro b_a1 w a hbb_a1 hS hf
  refine O.box (cs := #[.int .i64 bW, .int .i64 bH, vQ]) hf hS rfl rfl rfl rfl ?_
  clear hf hS a; intro b_b2 w a hbb_b2 hS hf
  refine O.val hf rfl rfl rfl (RunV.assign rfl) ?_
  clear hf a; intro a hf
  refine O.nil ?_
  refine k_seq ?_
  replace hf : Fr a 45 [] [(2, .pointer (some ⟨b_a1, 0, none⟩)), (3, .pointer (some ⟨b_b2, 0, none⟩)), (4, .bool false)] := hf.to ⟨rfl, rfl, rfl, trivial⟩
  refine W.seq ?_
  refine W.seq ?_
  -- region 1
  refine W.regionL (l := [0, 1, 2, 3, 4, 5, 6, 7, 8, 9, 10, 11, 12, 13, 14, 15, 16, 17, 18, 19, 20]) rfl ?_
  refine O.val hf rfl rfl rfl (RunV.field T_field_24_0 rfl rfl) ?_
  clear hf a; intro a hf
  refine O.val hf rfl rfl rfl (RunV.load1 T_agg_3 rfl (hS.ptAt (i := 1) rfl) rfl) ?_
  clear hf a; intro a hf
  refine O.val hf rfl rfl rfl (RunV.field T_field_24_0 rfl rfl) ?_
  clear hf a; intro a hf
  refine O.val hf rfl rfl rfl (RunV.load1 T_agg_3 rfl (hS.ptAt (i := 0) rfl) rfl) ?_
  clear hf a; intro a hf
  refine O.val (v := .bool (decide (aW ≠ (bW : Int)))) hf rfl rfl rfl (RunV.neq rfl rfl) ?_
  clear hf a; intro a hf
  refine O.val hf rfl rfl rfl (RunV.move rfl) ?_
  clear hf a; intro a hf
  -- a guarded part
  refine O.cutN (l₁ := [6, 7, 8, 9, 10, 11]) (l₂ := _) (fun a w => Fr a 45 [] [(2, .pointer (some ⟨b_a1, 0, none⟩)), (3, .pointer (some ⟨b_b2, 0, none⟩)), (4, .bool false), (6, .pointer (some ⟨b_a1, 0, none⟩)), (7, .int .i64 aW), (8, .pointer (some ⟨b_b2, 0, none⟩)), (9, .int .i64 bW), (10, .bool (decide (aW ≠ (bW : Int)))), (11, .bool (decide (aW ≠ (bW : Int)))), (17, .bool ((decide (aW ≠ (bW : Int))) || (decide (aH ≠ (bH : Int)))))] ∧ St w0 w noX [rdv 1 vP zs.length (ints zs), rdv 1 vQ ys.length (ints ys)] [pt b_b2 (.cells #[.int .i64 bW, .int .i64 bH, vQ] 24 (0, 0)), pt b_a1 (.cells #[.int .i64 aW, .int .i64 aH, vP] 24 (0, 0))]) rfl ?_ ?_
  · rcases Bool.eq_false_or_eq_true (decide (aW ≠ (bW : Int))) with hb3 | hb3
    · have hb3p := of_decide_eq_true hb3
      refine O.skipB hf rfl rfl rfl hb3 rfl ?_; clear hf a; intro a hf
      refine O.skipB hf rfl rfl rfl hb3 rfl ?_; clear hf a; intro a hf
      refine O.skipB hf rfl rfl rfl hb3 rfl ?_; clear hf a; intro a hf
      refine O.skipB hf rfl rfl rfl hb3 rfl ?_; clear hf a; intro a hf
      refine O.skipB hf rfl rfl rfl hb3 rfl ?_; clear hf a; intro a hf
      refine O.val (v := .bool ((decide (aW ≠ (bW : Int))) || (decide (aH ≠ (bH : Int))))) hf rfl rfl rfl (RunV.pick rfl rfl rfl (by rw [hb3]; rfl)) ?_; clear hf a; intro a hf
      exact O.nil ⟨rfl, hf.to ⟨rfl, rfl, rfl, rfl, rfl, rfl, rfl, rfl, rfl, rfl, trivial⟩, hS⟩
    · have hb3p := of_decide_eq_false hb3
      refine O.gvalB (v := .pointer (some ⟨b_a1, 1, none⟩)) hf rfl rfl rfl hb3 rfl rfl (RunV.field T_field_24_1 rfl rfl) ?_
      clear hf a; intro a hf
      refine O.gvalB (v := .int .i64 aH) hf rfl rfl rfl hb3 rfl rfl (RunV.load1 T_agg_3 rfl (hS.ptAt (i := 1) rfl) rfl) ?_
      clear hf a; intro a hf
      refine O.gvalB (v := .pointer (some ⟨b_b2, 1, none⟩)) hf rfl rfl rfl hb3 rfl rfl (RunV.field T_field_24_1 rfl rfl) ?_
      clear hf a; intro a hf
      refine O.gvalB (v := .int .i64 bH) hf rfl rfl rfl hb3 rfl rfl (RunV.load1 T_agg_3 rfl (hS.ptAt (i := 0) rfl) rfl) ?_
      clear hf a; intro a hf
      refine O.gvalB (v := .bool (decide (aH ≠ (bH : Int)))) hf rfl rfl rfl hb3 rfl rfl (RunV.neq rfl rfl) ?_
      clear hf a; intro a hf
      refine O.val (v := .bool ((decide (aW ≠ (bW : Int))) || (decide (aH ≠ (bH : Int))))) hf rfl rfl rfl (RunV.pick rfl rfl rfl (by rw [hb3]; rfl)) ?_; clear hf a; intro a hf
      exact O.nil ⟨rfl, hf.to ⟨rfl, rfl, rfl, rfl, rfl, rfl, rfl, rfl, rfl, rfl, trivial⟩, hS⟩
  clear hf hS a; rintro a w ⟨hf, hS⟩
  refine O.val hf rfl rfl rfl (RunV.move rfl) ?_
  clear hf a; intro a hf
  -- a guarded part
  refine O.cutN (l₁ := [13, 14, 15, 16, 17, 18, 19, 20]) (l₂ := _) (fun a w => Fr a 45 [] [(2, .pointer (some ⟨b_a1, 0, none⟩)), (3, .pointer (some ⟨b_b2, 0, none⟩)), (4, .bool false), (6, .pointer (some ⟨b_a1, 0, none⟩)), (7, .int .i64 aW), (8, .pointer (some ⟨b_b2, 0, none⟩)), (9, .int .i64 bW), (10, .bool (decide (aW ≠ (bW : Int)))), (11, .bool (decide (aW ≠ (bW : Int)))), (17, .bool ((decide (aW ≠ (bW : Int))) || (decide (aH ≠ (bH : Int))))), (18, .bool ((decide (aW ≠ (bW : Int))) || (decide (aH ≠ (bH : Int))))), (26, .bool (((decide (aW ≠ (bW : Int))) || (decide (aH ≠ (bH : Int)))) || (decide ((zs.length : Int) ≠ ((ys.length : Int) : Int)))))] ∧ St w0 w noX [rdv 1 vP zs.length (ints zs), rdv 1 vQ ys.length (ints ys)] [pt b_b2 (.cells #[.int .i64 bW, .int .i64 bH, vQ] 24 (0, 0)), pt b_a1 (.cells #[.int .i64 aW, .int .i64 aH, vP] 24 (0, 0))]) rfl ?_ ?_
  · rcases Bool.eq_false_or_eq_true ((decide (aW ≠ (bW : Int))) || (decide (aH ≠ (bH : Int)))) with hb4 | hb4
    · have hb4p := hb4
      try simp only [Bool.and_eq_true, Bool.or_eq_true, Bool.and_eq_false_iff, Bool.or_eq_false_iff, decide_eq_true_eq, decide_eq_false_iff_not, Bool.not_eq_true', Bool.not_eq_false', Bool.not_eq_true, Bool.not_eq_false, ne_eq] at hb4p
      refine O.skipB hf rfl rfl rfl hb4 rfl ?_; clear hf a; intro a hf
      refine O.skipB hf rfl rfl rfl hb4 rfl ?_; clear hf a; intro a hf
      refine O.skipB hf rfl rfl rfl hb4 rfl ?_; clear hf a; intro a hf
      refine O.skipB hf rfl rfl rfl hb4 rfl ?_; clear hf a; intro a hf
      refine O.skipB hf rfl rfl rfl hb4 rfl ?_; clear hf a; intro a hf
      refine O.skipB hf rfl rfl rfl hb4 rfl ?_; clear hf a; intro a hf
      refine O.skipB hf rfl rfl rfl hb4 rfl ?_; clear hf a; intro a hf
      refine O.val (v := .bool (((decide (aW ≠ (bW : Int))) || (decide (aH ≠ (bH : Int)))) || (decide ((zs.length : Int) ≠ ((ys.length : Int) : Int))))) hf rfl rfl rfl (RunV.pick rfl rfl rfl (by rw [hb4]; rfl)) ?_; clear hf a; intro a hf
      exact O.nil ⟨rfl, hf.to ⟨rfl, rfl, rfl, rfl, rfl, rfl, rfl, rfl, rfl, rfl, rfl, rfl, trivial⟩, hS⟩
    · have hb4p := hb4
      try simp only [Bool.and_eq_true, Bool.or_eq_true, Bool.and_eq_false_iff, Bool.or_eq_false_iff, decide_eq_true_eq, decide_eq_false_iff_not, Bool.not_eq_true', Bool.not_eq_false', Bool.not_eq_true, Bool.not_eq_false, ne_eq] at hb4p
      refine O.gvalB (v := .pointer (some ⟨b_a1, 2, none⟩)) hf rfl rfl rfl hb4 rfl rfl (RunV.field T_field_24_2 rfl rfl) ?_
      clear hf a; intro a hf
      refine O.gvalB (v := vP) hf rfl rfl rfl hb4 rfl rfl (RunV.load1 T_agg_22 rfl (hS.ptAt (i := 1) rfl) rfl) ?_
      clear hf a; intro a hf
      refine O.gvalB (v := .int .i64 (zs.length : Int)) hf rfl rfl rfl hb4 rfl rfl (RunV.lenV (e := 2) (by simpa using T_elem_22) rfl (hS.rdAt (j := 0) rfl)) ?_
      clear hf a; intro a hf
      refine O.gvalB (v := .pointer (some ⟨b_b2, 2, none⟩)) hf rfl rfl rfl hb4 rfl rfl (RunV.field T_field_24_2 rfl rfl) ?_
      clear hf a; intro a hf
      refine O.gvalB (v := vQ) hf rfl rfl rfl hb4 rfl rfl (RunV.load1 T_agg_22 rfl (hS.ptAt (i := 0) rfl) rfl) ?_
      clear hf a; intro a hf
      refine O.gvalB (v := .int .i64 (ys.length : Int)) hf rfl rfl rfl hb4 rfl rfl (RunV.lenV (e := 2) (by simpa using T_elem_22) rfl (hS.rdAt (j := 1) rfl)) ?_
      clear hf a; intro a hf
      refine O.gvalB (v := .bool (decide ((zs.length : Int) ≠ ((ys.length : Int) : Int)))) hf rfl rfl rfl hb4 rfl rfl (RunV.neq rfl rfl) ?_
      clear hf a; intro a hf
      refine O.val (v := .bool (((decide (aW ≠ (bW : Int))) || (decide (aH ≠ (bH : Int)))) || (decide ((zs.length : Int) ≠ ((ys.length : Int) : Int))))) hf rfl rfl rfl (RunV.pick rfl rfl rfl (by rw [hb4]; rfl)) ?_; clear hf a; intro a hf
      exact O.nil ⟨rfl, hf.to ⟨rfl, rfl, rfl, rfl, rfl, rfl, rfl, rfl, rfl, rfl, rfl, rfl, trivial⟩, hS⟩
  clear hf hS a; rintro a w ⟨hf, hS⟩
  refine O.nil ?_
  refine k_seq ?_
  replace hf : Fr a 45 [] [(2, .pointer (some ⟨b_a1, 0, none⟩)), (3, .pointer (some ⟨b_b2, 0, none⟩)), (4, .bool false), (26, .bool (((decide (aW ≠ (bW : Int))) || (decide (aH ≠ (bH : Int)))) || (decide ((zs.length : Int) ≠ ((ys.length : Int) : Int)))))] := hf.to ⟨rfl, rfl, rfl, rfl, trivial⟩
  refine W.if_ hf rfl (fun hbad => ?_) (fun hbad => ?_)
  · have hbadb := hbad
    try simp only [Bool.and_eq_true, Bool.or_eq_true, Bool.and_eq_false_iff, Bool.or_eq_false_iff, decide_eq_true_eq, decide_eq_false_iff_not, Bool.not_eq_true', Bool.not_eq_false', Bool.not_eq_true, Bool.not_eq_false, ne_eq] at hbad
    refine W.seq ?_
    -- region 2
    refine W.regionL (l := [0]) rfl ?_
    refine O.val hf rfl rfl rfl (RunV.assign rfl) ?_
    clear hf a; intro a hf
    refine O.nil ?_
    refine k_seq ?_
    refine W.ret ?_
    refine k_then_ret ?_
    refine post1 hf rfl (ResOK.tmp rfl) ?_
    refine ⟨(), by rw [show Det.sameF aW aH zs bW bH ys = false from decide_eq_false (fun h => by obtain ⟨g1, g2, g3⟩ := h; subst g3; omega)], hS.sub (List.nil_sublist _) |>.noB⟩
  · have hbadb := hbad
    try simp only [Bool.and_eq_true, Bool.or_eq_true, Bool.and_eq_false_iff, Bool.or_eq_false_iff, decide_eq_true_eq, decide_eq_false_iff_not, Bool.not_eq_true', Bool.not_eq_false', Bool.not_eq_true, Bool.not_eq_false, ne_eq] at hbad
    refine W.skip ?_
    refine k_seq ?_
    refine W.seq ?_
    refine W.seq ?_
    -- region 3
    refine W.regionL (l := [0]) rfl ?_
    refine O.val hf rfl rfl rfl (RunV.assign rfl) ?_
    clear hf a; intro a hf
    refine O.nil ?_
    refine k_seq ?_
    refine W.block ?_
    -- loop 0
    refine W.loop (G := (Nat)) (fun g a w => match g with | k => Fr a 45 [] [(2, .pointer (some ⟨b_a1, 0, none⟩)), (3, .pointer (some ⟨b_b2, 0, none⟩)), (5, .int .i64 (k : Int))] ∧ St w0 w noX [rdv 1 vP zs.length (ints zs), rdv 1 vQ ys.length (ints ys)] [pt b_b2 (.cells #[.int .i64 bW, .int .i64 bH, vQ] 24 (0, 0)), pt b_a1 (.cells #[.int .i64 aW, .int .i64 aH, vP] 24 (0, 0))] ∧ (k ≤ zs.length) ∧ (∀ j, j < k → zs.getD j 0 = ys.getD j 0)) (fun g => match g with | k => zs.length - k) 0 ?_ ?_
    · refine ⟨hf.to ⟨rfl, rfl, (by first | rfl | exact congrArg some (congrArg (Value.int _) (by omega))), trivial⟩, hS, ?_, ?_⟩
      · omega
      · exact fun j hj => by omega
    clear hf hS a
    rintro k a w ⟨hf, hS, h1, h2⟩
    refine W.seq ?_
    refine W.seq ?_
    -- region 4
    refine W.regionL (l := [0, 1, 2, 3, 4]) rfl ?_
    refine O.val hf rfl rfl rfl (RunV.move rfl) ?_
    clear hf a; intro a hf
    refine O.val hf rfl rfl rfl (RunV.field T_field_24_2 rfl rfl) ?_
    clear hf a; intro a hf
    refine O.val hf rfl rfl rfl (RunV.load1 T_agg_22 rfl (hS.ptAt (i := 1) rfl) rfl) ?_
    clear hf a; intro a hf
    refine O.val hf rfl rfl rfl (RunV.lenV (e := 2) (by simpa using T_elem_22) rfl (hS.rdAt (j := 0) rfl)) ?_
    clear hf a; intro a hf
    refine O.val (v := .bool (decide ((k : Int) < ((zs.length : Int) : Int)))) hf rfl rfl rfl (RunV.lss rfl rfl) ?_
    clear hf a; intro a hf
    refine O.nil ?_
    refine k_seq ?_
    replace hf : Fr a 45 [] [(2, .pointer (some ⟨b_a1, 0, none⟩)), (3, .pointer (some ⟨b_b2, 0, none⟩)), (5, .int .i64 (k : Int)), (31, .bool (decide ((k : Int) < ((zs.length : Int) : Int))))] := hf.to ⟨rfl, rfl, rfl, rfl, trivial⟩
    refine W.ifdI hf rfl (fun hlt => ?_) (fun hlt => ?_)
    · refine W.skip ?_
      refine k_seq ?_
      refine W.seq ?_
      refine W.block ?_
      refine W.seq ?_
      -- region 6, which draws its order: quiet
      refine W.drawQ (fun w => St w0 w noX [rdv 1 vP zs.length (ints zs), rdv 1 vQ ys.length (ints ys)] [pt b_b2 (.cells #[.int .i64 bW, .int .i64 bH, vQ] 24 (0, 0)), pt b_a1 (.cells #[.int .i64 aW, .int .i64 aH, vP] 24 (0, 0))]) P_mixed rfl (by kernel_rfl) rfl hS.drew ?_
      clear hS
      refine OQ.val (v := .pointer (some ⟨b_a1, 2, none⟩)) hf rfl (fun w hS => RunV.field T_field_24_2 rfl rfl) ?_; clear hf a; intro a hf
      refine OQ.val (v := vP) hf rfl (fun w hS => RunV.load1 T_agg_22 rfl (hS.ptAt (i := 1) rfl) rfl) ?_; clear hf a; intro a hf
      refine OQ.val (v := .int .i64 (k : Int)) hf rfl (fun w hS => RunV.move rfl) ?_; clear hf a; intro a hf
      refine OQ.val (v := ix vP k) hf rfl (fun w hS => RunV.ixV (j := k) (m := k) T_elem_22 T_size_2 rfl rfl (hS.rdAt (j := 0) rfl) rfl (by omega) (Nat.mul_one _)) ?_; clear hf a; intro a hf
      refine OQ.val (v := .int .i64 (zs.getD k 0)) hf rfl (fun w hS => RunV.ld1 T_agg_2 rfl (hS.rdAt (j := 0) rfl) (ints_get (by omega))) ?_; clear hf a; intro a hf
      refine OQ.val (v := .pointer (some ⟨b_b2, 2, none⟩)) hf rfl (fun w hS => RunV.field T_field_24_2 rfl rfl) ?_; clear hf a; intro a hf
      refine OQ.val (v := vQ) hf rfl (fun w hS => RunV.load1 T_agg_22 rfl (hS.ptAt (i := 0) rfl) rfl) ?_; clear hf a; intro a hf
      refine OQ.val (v := .int .i64 (k : Int)) hf rfl (fun w hS => RunV.move rfl) ?_; clear hf a; intro a hf
      refine OQ.val (v := ix vQ k) hf rfl (fun w hS => RunV.ixV (j := k) (m := k) T_elem_22 T_size_2 rfl rfl (hS.rdAt (j := 1) rfl) rfl (by omega) (Nat.mul_one _)) ?_; clear hf a; intro a hf
      refine OQ.val (v := .int .i64 (ys.getD k 0)) hf rfl (fun w hS => RunV.ld1 T_agg_2 rfl (hS.rdAt (j := 1) rfl) (ints_get (by omega))) ?_; clear hf a; intro a hf
      refine OQ.val (v := .bool (decide ((zs.getD k 0) ≠ (ys.getD k 0 : Int)))) hf rfl (fun w hS => RunV.neq rfl rfl) ?_; clear hf a; intro a hf
      refine OQ.nil ?_; intro w hS
      refine k_seq ?_
      replace hf : Fr a 45 [] [(2, .pointer (some ⟨b_a1, 0, none⟩)), (3, .pointer (some ⟨b_b2, 0, none⟩)), (5, .int .i64 (k : Int)), (44, .bool (decide ((zs.getD k 0) ≠ (ys.getD k 0 : Int))))] := hf.to ⟨rfl, rfl, rfl, rfl, trivial⟩
      refine W.ifdI hf rfl (fun hne => ?_) (fun hne => ?_)
      · refine W.seq ?_
        -- region 7
        refine W.regionL (l := [0]) rfl ?_
        refine O.val hf rfl rfl rfl (RunV.assign rfl) ?_
        clear hf a; intro a hf
        refine O.nil ?_
        refine k_seq ?_
        refine W.ret ?_
        refine k_blk_ret ?_
        refine k_then_ret ?_
        refine k_then_ret ?_
        refine k_blk_ret ?_
        refine k_then_ret ?_
        refine post1 hf rfl (ResOK.tmp rfl) ?_
        refine ⟨(), by rw [show Det.sameF aW aH zs bW bH ys = false from decide_eq_false (fun h => by obtain ⟨g1, g2, g3⟩ := h; subst g3; omega)], hS.sub (List.nil_sublist _) |>.noB⟩
      · refine W.skip ?_
        refine k_blk_normal ?_
        refine k_seq ?_
        -- region 5
        refine W.regionL (l := [0, 1, 2]) rfl ?_
        refine O.val hf rfl rfl rfl (RunV.move rfl) ?_
        clear hf a; intro a hf
        refine O.val hf rfl rfl rfl (RunV.addI rfl rfl (by omega)) ?_
        clear hf a; intro a hf
        refine O.val hf rfl rfl rfl (RunV.assign rfl) ?_
        clear hf a; intro a hf
        refine O.nil ?_
        refine k_then ⟨(k + 1), ⟨hf.to ⟨rfl, rfl, (by first | rfl | exact congrArg some (congrArg (Value.int _) (by omega))), trivial⟩, ?_, ?_, ?_⟩, ?_⟩
        · exact hS.eqM rfl
        · omega
        · exact Det.all_snoc h2 (by omega)
        · dsimp only; omega
    · refine W.exit ?_
      refine k_then_exit ?_
      refine k_then_exit ?_
      refine k_blk ?_
      refine k_seq ?_
      replace hf : Fr a 45 [] [] := hf.to trivial
      refine W.seq ?_
      -- region 8
      refine W.regionL (l := [0]) rfl ?_
      refine O.val hf rfl rfl rfl (RunV.assign rfl) ?_
      clear hf a; intro a hf
      refine O.nil ?_
      refine k_seq ?_
      refine W.ret ?_
      refine post1 hf rfl (ResOK.tmp rfl) ?_
      refine ⟨(), by rw [show Det.sameF aW aH zs bW bH ys = true from decide_eq_true ⟨by omega, by omega, Det.eq_of_getD (by omega) (fun j hj => h2 j (by omega))⟩], hS.sub (List.nil_sublist _) |>.noB⟩

set_option maxHeartbeats 400000 in
set_option maxRecDepth 4000 in
theorem marks_spec (n : Nat) (vL : Value) (l : List Int) (w0 : World) (hL : rdOK (hp w0) 1 vL l.length (ints l)) (hn : n ≤ 1000000) (hl : ∀ i, i < l.length → 0 ≤ l.getD i 0 ∧ l.getD i 0 < (n : Int)) :
    Ret Try.prog 26 #[.int .i64 (n : Int), vL] w0 (G := Value) (fun v => v) (fun v w => St w0 w noX [] [sl 4 1 v (Det.marks n l l.length).length (bools (Det.marks n l l.length))]) := by
  refine ret_of_W (lv := [.int .i64 (n : Int), vL]) Try.func26 rfl rfl rfl (fun a hf => ?_)
  replace hf : Fr a 22 [] [(0, .int .i64 (n : Int)), (1, vL)] := hf
  have hS : St w0 w0 noX [rdv 1 vL l.length (ints l)] [] := (St.refl w0).lend0 hL
  have hlen := hL.2.1
  unfold maxLen at hlen
  refine W.seq ?_
  -- region 0
  refine W.regionL (l := [0]) rfl ?_
  refine O.val hf rfl rfl rfl (RunV.assign rfl) ?_
  clear hf a; intro a hf
  refine O.nil ?_
  refine k_seq ?_
  refine W.seq ?_
  -- region 1
  refine W.regionL (l := [0, 1, 2]) rfl ?_
  refine O.val hf rfl rfl rfl (RunV.move rfl) ?_
  clear hf a; intro a hf
  refine O.make (N := n) hf hS rfl rfl T_elem_25 T_size_4 T_bytes_4 T_zero_4 rfl rfl (by unfold maxLen; omega) (by omega) ?_
  clear hf hS a; intro b_m1 w a hbb_m1 hS hf
  have hS := hS.eqM (N := [sl 4 1 (.slice (some ⟨b_m1, 0, none⟩) n n) n (bools (List.replicate n false))]) (by rw [made_bools])
  refine O.val hf rfl rfl rfl (RunV.assign rfl) ?_
  clear hf a; intro a hf
  refine O.nil ?_
  obtain ⟨vm, hvm⟩ : ∃ vm, (.slice (some ⟨b_m1, 0, none⟩) n n : Value) = vm := ⟨_, rfl⟩
  rw [hvm] at hf hS; clear hvm
  replace hS := hS.eqM (N := [sl 4 1 vm ((List.replicate n false).length) (bools (List.replicate n false))]) (by simp)
  refine k_seq ?_
  replace hf : Fr a 22 [] [(1, vL), (4, .slice none 0 0), (5, vm)] := hf.to ⟨rfl, rfl, rfl, trivial⟩
  refine W.seq ?_
  refine W.seq ?_
  -- region 2
  refine W.regionL (l := [0]) rfl ?_
  refine O.val hf rfl rfl rfl (RunV.assign rfl) ?_
  clear hf a; intro a hf
  refine O.nil ?_
  refine k_seq ?_
  refine W.block ?_
  -- loop 0
  refine W.loop (G := (Nat) × (List Bool)) (fun g a w => match g with | (k, bs) => Fr a 22 [] [(1, vL), (4, .slice none 0 0), (5, vm), (6, .int .i64 (k : Int))] ∧ St w0 w noX [rdv 1 vL l.length (ints l)] [sl 4 1 vm bs.length (bools bs)] ∧ (k ≤ l.length) ∧ (bs = Det.marks n l k) ∧ (bs.length = n)) (fun g => match g with | (k, bs) => l.length - k) (0, (List.replicate n false)) ?_ ?_
  · refine ⟨hf.to ⟨rfl, rfl, rfl, (by first | rfl | exact congrArg some (congrArg (Value.int _) (by omega))), trivial⟩, hS, ?_, ?_, ?_⟩
    · omega
    · rfl
    · simp
  clear hf hS a
  rintro ⟨k, bs⟩ a w ⟨hf, hS, h1, h2, h3⟩
  refine W.seq ?_
  refine W.seq ?_
  -- region 3
  refine W.regionL (l := [0, 1, 2, 3]) rfl ?_
  refine O.val hf rfl rfl rfl (RunV.move rfl) ?_
  clear hf a; intro a hf
  refine O.val hf rfl rfl rfl (RunV.move rfl) ?_
  clear hf a; intro a hf
  refine O.val hf rfl rfl rfl (RunV.lenV (e := 3) (by simpa using T_elem_46) rfl (hS.rdAt (j := 0) rfl)) ?_
  clear hf a; intro a hf
  refine O.val (v := .bool (decide ((k : Int) < ((l.length : Int) : Int)))) hf rfl rfl rfl (RunV.lss rfl rfl) ?_
  clear hf a; intro a hf
  refine O.nil ?_
  refine k_seq ?_
  replace hf : Fr a 22 [] [(1, vL), (4, .slice none 0 0), (5, vm), (6, .int .i64 (k : Int)), (12, .bool (decide ((k : Int) < ((l.length : Int) : Int))))] := hf.to ⟨rfl, rfl, rfl, rfl, rfl, trivial⟩
  refine W.ifdI hf rfl (fun hc2 => ?_) (fun hc2 => ?_)
  · refine W.skip ?_
    refine k_seq ?_
    refine W.seq ?_
    refine W.block ?_
    -- region 5
    refine W.regionL (l := [0, 1, 2, 3, 4, 5, 6]) rfl ?_
    have hk := hl k (by omega)
    refine O.val hf rfl rfl rfl (RunV.move rfl) ?_
    clear hf a; intro a hf
    refine O.val hf rfl rfl rfl (RunV.move rfl) ?_
    clear hf a; intro a hf
    refine O.val hf rfl rfl rfl (RunV.move rfl) ?_
    clear hf a; intro a hf
    refine O.val hf rfl rfl rfl (RunV.ixV (j := k) (m := k) T_elem_46 T_size_3 rfl rfl (hS.rdAt (j := 0) rfl) rfl (by omega) (Nat.mul_one _)) ?_
    clear hf a; intro a hf
    refine O.val hf rfl rfl rfl (RunV.ld1 T_agg_3 rfl (hS.rdAt (j := 0) rfl) (ints_get (by omega))) ?_
    clear hf a; intro a hf
    refine O.val hf rfl rfl rfl (RunV.ixV (j := (Int.toNat (l.getD k 0))) (m := (Int.toNat (l.getD k 0))) T_elem_25 T_size_4 rfl rfl (hS.slr (j := 0) rfl) (by omega) (by omega) (Nat.mul_one _)) ?_
    clear hf a; intro a hf
    refine O.storeSl (j := 0) (m := (Int.toNat (l.getD k 0))) (xs' := bools (bs.set (Int.toNat (l.getD k 0)) true)) (M' := [sl 4 1 vm bs.length (bools (bs.set (Int.toNat (l.getD k 0)) true))]) hf hS rfl rfl rfl T_size_4 rfl rfl rfl (by simp only [bools_len]; omega) bools_set rfl rfl ?_
    clear hS; intro w hS
    refine O.nil ?_
    refine k_blk_normal ?_
    refine k_seq ?_
    replace hf : Fr a 22 [] [(1, vL), (4, .slice none 0 0), (5, vm), (6, .int .i64 (k : Int))] := hf.to ⟨rfl, rfl, rfl, rfl, trivial⟩
    -- region 4
    refine W.regionL (l := [0, 1, 2]) rfl ?_
    refine O.val hf rfl rfl rfl (RunV.move rfl) ?_
    clear hf a; intro a hf
    refine O.val hf rfl rfl rfl (RunV.addI rfl rfl (by omega)) ?_
    clear hf a; intro a hf
    refine O.val hf rfl rfl rfl (RunV.assign rfl) ?_
    clear hf a; intro a hf
    refine O.nil ?_
    refine k_then ⟨(k + 1, (bs.set (Int.toNat (l.getD k 0)) true)), ⟨hf.to ⟨rfl, rfl, rfl, (by first | rfl | exact congrArg some (congrArg (Value.int _) (by omega))), trivial⟩, ?_, ?_, ?_, ?_⟩, ?_⟩
    · exact hS.eqM (by rw [List.length_set])
    · omega
    · rw [h2]; rfl
    · simp only [List.length_set]; exact h3
    · dsimp only; omega
  · refine W.exit ?_
    refine k_then_exit ?_
    refine k_then_exit ?_
    refine k_blk ?_
    refine k_seq ?_
    replace hf : Fr a 22 [] [(4, .slice none 0 0), (5, vm)] := hf.to ⟨rfl, rfl, trivial⟩
    refine W.seq ?_
    -- region 6
    refine W.regionL (l := [0, 1]) rfl ?_
    refine O.val hf rfl rfl rfl (RunV.move rfl) ?_
    clear hf a; intro a hf
    refine O.val hf rfl rfl rfl (RunV.assign rfl) ?_
    clear hf a; intro a hf
    refine O.nil ?_
    refine k_seq ?_
    replace hf : Fr a 22 [] [(4, vm)] := hf.to ⟨rfl, trivial⟩
    refine W.ret ?_
    refine post1 hf rfl (ResOK.tmp rfl) ?_
    subst h2; obtain rfl : k = l.length := by omega
    exact ⟨vm, rfl, hS.noB⟩

set_option maxHeartbeats 400000 in
set_option maxRecDepth 4000 in
theorem near11_spec (fW fH i : Nat) (vP : Value) (w0 : World) (hW : 1 ≤ fW ∧ fW ≤ 100) (hH : 1 ≤ fH ∧ fH ≤ 100) (hi : i < fW * fH) :
    Ret Try.prog 25 #[.agg #[.int .i64 (fW : Int), .int .i64 (fH : Int), vP], .int .i64 (i : Int), .bool false] w0 (G := Value) (fun v => v) (fun v w => St w0 w noX [] [sl 3 1 v (Det.nb fW fH i).length (ints (Det.nb fW fH i))]) := by
  refine ret_of_W (lv := [.agg #[.int .i64 (fW : Int), .int .i64 (fH : Int), vP], .int .i64 (i : Int), .bool false]) Try.func25 rfl rfl rfl (fun a hf => ?_)
  replace hf : Fr a 87 [] [(0, .agg #[.int .i64 (fW : Int), .int .i64 (fH : Int), vP]), (1, .int .i64 (i : Int)), (2, .bool false)] := hf
  have hS : St w0 w0 noX [] [] := St.refl w0
  have hi2 : i < 10000 := by have := Nat.mul_le_mul hW.2 hH.2; omega
  refine W.seq ?_
  -- region 0
  refine W.regionL (l := [0, 1]) rfl ?_
  refine O.box (cs := #[.int .i64 (fW : Int), .int .i64 (fH : Int), vP]) hf hS rfl rfl rfl rfl ?_
  clear hf hS a; intro b_x1 w a hbb_x1 hS hf
  refine O.val hf rfl rfl rfl (RunV.assign rfl) ?_
  clear hf a; intro a hf
  refine O.nil ?_
  refine k_seq ?_
  replace hf : Fr a 87 [] [(1, .int .i64 (i : Int)), (2, .bool false), (3, .pointer (some ⟨b_x1, 0, none⟩)), (6, .slice none 0 0)] := hf.to ⟨rfl, rfl, rfl, rfl, trivial⟩
  refine W.seq ?_
  -- region 1, which draws its order: quiet
  refine W.drawQ (fun w => St w0 w noX [] [pt b_x1 (.cells #[.int .i64 (fW : Int), .int .i64 (fH : Int), vP] 24 (0, 0))]) P_mixed rfl (by kernel_rfl) rfl hS.drew ?_
  clear hS
  refine OQ.val (v := .int .i64 (i : Int)) hf rfl (fun w hS => RunV.move rfl) ?_; clear hf a; intro a hf
  refine OQ.val (v := .pointer (some ⟨b_x1, 0, none⟩)) hf rfl (fun w hS => RunV.field T_field_24_0 rfl rfl) ?_; clear hf a; intro a hf
  refine OQ.val (v := .int .i64 (fW : Int)) hf rfl (fun w hS => RunV.load1 T_agg_3 rfl (hS.ptAt (i := 0) rfl) rfl) ?_; clear hf a; intro a hf
  refine OQ.val (v := .int .i64 ((i % fW : Nat) : Int)) hf rfl (fun w hS => RunV.remN rfl rfl rfl rfl (by omega)) ?_; clear hf a; intro a hf
  refine OQ.val (v := .int .i64 (i : Int)) hf rfl (fun w hS => RunV.move rfl) ?_; clear hf a; intro a hf
  refine OQ.val (v := .pointer (some ⟨b_x1, 0, none⟩)) hf rfl (fun w hS => RunV.field T_field_24_0 rfl rfl) ?_; clear hf a; intro a hf
  refine OQ.val (v := .int .i64 (fW : Int)) hf rfl (fun w hS => RunV.load1 T_agg_3 rfl (hS.ptAt (i := 0) rfl) rfl) ?_; clear hf a; intro a hf
  refine OQ.val (v := .int .i64 ((i / fW : Nat) : Int)) hf rfl (fun w hS => RunV.quoN rfl rfl rfl rfl (by omega) (by omega)) ?_; clear hf a; intro a hf
  refine OQ.val (v := .int .i64 ((i % fW : Nat) : Int)) hf rfl (fun w hS => RunV.assign rfl) ?_; clear hf a; intro a hf
  refine OQ.val (v := .int .i64 ((i / fW : Nat) : Int)) hf rfl (fun w hS => RunV.assign rfl) ?_; clear hf a; intro a hf
  refine OQ.nil ?_; intro w hS
  have hxb := Nat.mod_lt i (show 0 < fW by omega)
  have hyb : i / fW < fH := Nat.div_lt_of_lt_mul hi
  generalize hx : i % fW = x at *
  generalize hy : i / fW = y at *
  refine k_seq ?_
  replace hf : Fr a 87 [] [(2, .bool false), (3, .pointer (some ⟨b_x1, 0, none⟩)), (6, .slice none 0 0), (7, .int .i64 ((x : Nat) : Int)), (8, .int .i64 ((y : Nat) : Int))] := hf.to ⟨rfl, rfl, rfl, rfl, rfl, trivial⟩
  refine W.seq ?_
  -- region 2
  refine W.regionL (l := [0]) rfl ?_
  refine O.val hf rfl rfl rfl (RunV.assign rfl) ?_
  clear hf a; intro a hf
  refine O.nil ?_
  refine k_seq ?_
  refine W.seq ?_
  refine W.seq ?_
  -- region 3
  refine W.regionL (l := [0, 1, 2]) rfl ?_
  refine O.val hf rfl rfl rfl (RunV.move rfl) ?_
  clear hf a; intro a hf
  refine O.val hf rfl rfl rfl (RunV.subI rfl rfl (by omega)) ?_
  clear hf a; intro a hf
  refine O.val hf rfl rfl rfl (RunV.assign rfl) ?_
  clear hf a; intro a hf
  refine O.nil ?_
  refine k_seq ?_
  replace hf : Fr a 87 [] [(2, .bool false), (3, .pointer (some ⟨b_x1, 0, none⟩)), (6, .slice none 0 0), (7, .int .i64 ((x : Nat) : Int)), (8, .int .i64 ((y : Nat) : Int)), (9, .slice none 0 0), (10, .int .i64 (((y : Nat) : Int) - 1))] := hf.to ⟨rfl, rfl, rfl, rfl, rfl, rfl, rfl, trivial⟩
  refine W.block ?_
  replace hS : St w0 _ noX [] [sl 3 1 (.slice none 0 0) (([] : List Int).length) (ints []), pt b_x1 (.cells #[.int .i64 (fW : Int), .int .i64 (fH : Int), vP] 24 (0, 0))] := hS.nilSl 3 1
  -- loop 0
  refine W.loop (G := (Nat) × (Value) × (List Int)) (fun g a w => match g with | (k, vo, out) => Fr a 87 [] [(2, .bool false), (3, .pointer (some ⟨b_x1, 0, none⟩)), (6, .slice none 0 0), (7, .int .i64 ((x : Nat) : Int)), (8, .int .i64 ((y : Nat) : Int)), (9, vo), (10, .int .i64 (((y : Nat) : Int) - 1 + (k : Int)))] ∧ St w0 w noX [] [sl 3 1 vo out.length (ints out), pt b_x1 (.cells #[.int .i64 (fW : Int), .int .i64 (fH : Int), vP] 24 (0, 0))] ∧ (k ≤ 3) ∧ (out = Det.nbOut fW fH x y k) ∧ (out.length ≤ 3 * k)) (fun g => match g with | (k, vo, out) => 3 - k) (0, (.slice none 0 0), []) ?_ ?_
  · refine ⟨hf.to ⟨rfl, rfl, rfl, rfl, rfl, (by first | rfl | exact congrArg some (congrArg (Value.int _) (by omega))), (by first | rfl | exact congrArg some (congrArg (Value.int _) (by omega))), trivial⟩, hS, ?_, ?_, ?_⟩
    · omega
    · rfl
    · simp
  clear hf hS a
  rintro ⟨k, vo, out⟩ a w ⟨hf, hS, h1, h2, h3⟩
  refine W.seq ?_
  refine W.seq ?_
  -- region 4
  refine W.regionL (l := [0, 1, 2, 3]) rfl ?_
  refine O.val hf rfl rfl rfl (RunV.move rfl) ?_
  clear hf a; intro a hf
  refine O.val hf rfl rfl rfl (RunV.move rfl) ?_
  clear hf a; intro a hf
  refine O.val hf rfl rfl rfl (RunV.addI rfl rfl (by omega)) ?_
  clear hf a; intro a hf
  refine O.val (v := .bool (decide ((((y : Nat) : Int) - 1 + (k : Int)) ≤ (((y : Nat) : Int) + 1 : Int)))) hf rfl rfl rfl (RunV.leq rfl rfl) ?_
  clear hf a; intro a hf
  refine O.nil ?_
  refine k_seq ?_
  replace hf : Fr a 87 [] [(2, .bool false), (3, .pointer (some ⟨b_x1, 0, none⟩)), (6, .slice none 0 0), (7, .int .i64 ((x : Nat) : Int)), (8, .int .i64 ((y : Nat) : Int)), (9, vo), (10, .int .i64 (((y : Nat) : Int) - 1 + (k : Int))), (25, .bool (decide ((((y : Nat) : Int) - 1 + (k : Int)) ≤ (((y : Nat) : Int) + 1 : Int))))] := hf.to ⟨rfl, rfl, rfl, rfl, rfl, rfl, rfl, rfl, trivial⟩
  refine W.ifdI hf rfl (fun hv => ?_) (fun hv => ?_)
  · refine W.skip ?_
    refine k_seq ?_
    refine W.seq ?_
    refine W.block ?_
    refine W.seq ?_
    -- region 6
    refine W.regionL (l := [0, 1, 2]) rfl ?_
    refine O.val hf rfl rfl rfl (RunV.move rfl) ?_
    clear hf a; intro a hf
    refine O.val hf rfl rfl rfl (RunV.subI rfl rfl (by omega)) ?_
    clear hf a; intro a hf
    refine O.val hf rfl rfl rfl (RunV.assign rfl) ?_
    clear hf a; intro a hf
    refine O.nil ?_
    refine k_seq ?_
    replace hf : Fr a 87 [] [(2, .bool false), (3, .pointer (some ⟨b_x1, 0, none⟩)), (6, .slice none 0 0), (7, .int .i64 ((x : Nat) : Int)), (8, .int .i64 ((y : Nat) : Int)), (9, vo), (10, .int .i64 (((y : Nat) : Int) - 1 + (k : Int))), (11, .int .i64 (((x : Nat) : Int) - 1))] := hf.to ⟨rfl, rfl, rfl, rfl, rfl, rfl, rfl, rfl, trivial⟩
    refine W.block ?_
    -- loop 1
    refine W.loop (G := (Nat) × (Value) × (List Int)) (fun g a w => match g with | (l, vi, inn) => Fr a 87 [] [(2, .bool false), (3, .pointer (some ⟨b_x1, 0, none⟩)), (6, .slice none 0 0), (7, .int .i64 ((x : Nat) : Int)), (8, .int .i64 ((y : Nat) : Int)), (9, vi), (10, .int .i64 (((y : Nat) : Int) - 1 + (k : Int))), (11, .int .i64 (((x : Nat) : Int) - 1 + (l : Int)))] ∧ St w0 w noX [] [sl 3 1 vi inn.length (ints inn), pt b_x1 (.cells #[.int .i64 (fW : Int), .int .i64 (fH : Int), vP] 24 (0, 0))] ∧ (l ≤ 3) ∧ (inn = out ++ Det.nbIn fW fH x y (((y : Nat) : Int) - 1 + (k : Int)) l) ∧ (inn.length ≤ 3 * k + l)) (fun g => match g with | (l, vi, inn) => 3 - l) (0, vo, out) ?_ ?_
    · refine ⟨hf.to ⟨rfl, rfl, rfl, rfl, rfl, (by first | rfl | exact congrArg some (congrArg (Value.int _) (by omega))), rfl, (by first | rfl | exact congrArg some (congrArg (Value.int _) (by omega))), trivial⟩, hS, ?_, ?_, ?_⟩
      · omega
      · simp [Det.nbIn]
      · omega
    clear hf hS a
    rintro ⟨l, vi, inn⟩ a w ⟨hf, hS, h4, h5, h6⟩
    refine W.seq ?_
    refine W.seq ?_
    -- region 7
    refine W.regionL (l := [0, 1, 2, 3]) rfl ?_
    refine O.val hf rfl rfl rfl (RunV.move rfl) ?_
    clear hf a; intro a hf
    refine O.val hf rfl rfl rfl (RunV.move rfl) ?_
    clear hf a; intro a hf
    refine O.val hf rfl rfl rfl (RunV.addI rfl rfl (by omega)) ?_
    clear hf a; intro a hf
    refine O.val (v := .bool (decide ((((x : Nat) : Int) - 1 + (l : Int)) ≤ (((x : Nat) : Int) + 1 : Int)))) hf rfl rfl rfl (RunV.leq rfl rfl) ?_
    clear hf a; intro a hf
    refine O.nil ?_
    refine k_seq ?_
    replace hf : Fr a 87 [] [(2, .bool false), (3, .pointer (some ⟨b_x1, 0, none⟩)), (6, .slice none 0 0), (7, .int .i64 ((x : Nat) : Int)), (8, .int .i64 ((y : Nat) : Int)), (9, vi), (10, .int .i64 (((y : Nat) : Int) - 1 + (k : Int))), (11, .int .i64 (((x : Nat) : Int) - 1 + (l : Int))), (33, .bool (decide ((((x : Nat) : Int) - 1 + (l : Int)) ≤ (((x : Nat) : Int) + 1 : Int))))] := hf.to ⟨rfl, rfl, rfl, rfl, rfl, rfl, rfl, rfl, rfl, trivial⟩
    refine W.ifdI hf rfl (fun hu => ?_) (fun hu => ?_)
    · refine W.skip ?_
      refine k_seq ?_
      refine W.seq ?_
      refine W.block ?_
      refine W.seq ?_
      refine W.seq ?_
      -- region 9
      refine W.regionL (l := [0, 1, 2, 3, 4, 5, 6, 7, 8, 9, 10, 11, 12, 13, 14, 15, 16, 17, 18, 19, 20, 21, 22, 23, 24, 25, 26, 27, 28, 29, 30, 31, 32, 33, 34, 35, 36, 37, 38, 39, 40]) rfl ?_
      refine O.val hf rfl rfl rfl (RunV.move rfl) ?_
      clear hf a; intro a hf
      refine O.val (v := .bool (decide ((((x : Nat) : Int) - 1 + (l : Int)) < (0 : Int)))) hf rfl rfl rfl (RunV.lss rfl rfl) ?_
      clear hf a; intro a hf
      refine O.val hf rfl rfl rfl (RunV.move rfl) ?_
      clear hf a; intro a hf
      -- a guarded part
      refine O.cutN (l₁ := [3, 4, 5, 6, 7]) (l₂ := _) (fun a w => Fr a 87 [] [(2, .bool false), (3, .pointer (some ⟨b_x1, 0, none⟩)), (6, .slice none 0 0), (7, .int .i64 ((x : Nat) : Int)), (8, .int .i64 ((y : Nat) : Int)), (9, vi), (10, .int .i64 (((y : Nat) : Int) - 1 + (k : Int))), (11, .int .i64 (((x : Nat) : Int) - 1 + (l : Int))), (36, .int .i64 (((x : Nat) : Int) - 1 + (l : Int))), (37, .bool (decide ((((x : Nat) : Int) - 1 + (l : Int)) < (0 : Int)))), (38, .bool (decide ((((x : Nat) : Int) - 1 + (l : Int)) < (0 : Int)))), (43, .bool ((decide ((((x : Nat) : Int) - 1 + (l : Int)) < (0 : Int))) || (decide ((((x : Nat) : Int) - 1 + (l : Int)) ≥ ((fW : Int) : Int)))))] ∧ St w0 w noX [] [sl 3 1 vi inn.length (ints inn), pt b_x1 (.cells #[.int .i64 (fW : Int), .int .i64 (fH : Int), vP] 24 (0, 0))]) rfl ?_ ?_
      · rcases Bool.eq_false_or_eq_true (decide ((((x : Nat) : Int) - 1 + (l : Int)) < (0 : Int))) with hb4 | hb4
        · have hb4p := of_decide_eq_true hb4
          refine O.skipB hf rfl rfl rfl hb4 rfl ?_; clear hf a; intro a hf
          refine O.skipB hf rfl rfl rfl hb4 rfl ?_; clear hf a; intro a hf
          refine O.skipB hf rfl rfl rfl hb4 rfl ?_; clear hf a; intro a hf
          refine O.skipB hf rfl rfl rfl hb4 rfl ?_; clear hf a; intro a hf
          refine O.val (v := .bool ((decide ((((x : Nat) : Int) - 1 + (l : Int)) < (0 : Int))) || (decide ((((x : Nat) : Int) - 1 + (l : Int)) ≥ ((fW : Int) : Int))))) hf rfl rfl rfl (RunV.pick rfl rfl rfl (by rw [hb4]; rfl)) ?_; clear hf a; intro a hf
          exact O.nil ⟨rfl, hf.to ⟨rfl, rfl, rfl, rfl, rfl, rfl, rfl, rfl, rfl, rfl, rfl, rfl, trivial⟩, hS⟩
        · have hb4p := of_decide_eq_false hb4
          refine O.gvalB (v := .int .i64 (((x : Nat) : Int) - 1 + (l : Int))) hf rfl rfl rfl hb4 rfl rfl (RunV.move rfl) ?_
          clear hf a; intro a hf
          refine O.gvalB (v := .pointer (some ⟨b_x1, 0, none⟩)) hf rfl rfl rfl hb4 rfl rfl (RunV.field T_field_24_0 rfl rfl) ?_
          clear hf a; intro a hf
          refine O.gvalB (v := .int .i64 (fW : Int)) hf rfl rfl rfl hb4 rfl rfl (RunV.load1 T_agg_3 rfl (hS.ptAt (i := 1) rfl) rfl) ?_
          clear hf a; intro a hf
          refine O.gvalB (v := .bool (decide ((((x : Nat) : Int) - 1 + (l : Int)) ≥ ((fW : Int) : Int)))) hf rfl rfl rfl hb4 rfl rfl (RunV.geq rfl rfl) ?_
          clear hf a; intro a hf
          refine O.val (v := .bool ((decide ((((x : Nat) : Int) - 1 + (l : Int)) < (0 : Int))) || (decide ((((x : Nat) : Int) - 1 + (l : Int)) ≥ ((fW : Int) : Int))))) hf rfl rfl rfl (RunV.pick rfl rfl rfl (by rw [hb4]; rfl)) ?_; clear hf a; intro a hf
          exact O.nil ⟨rfl, hf.to ⟨rfl, rfl, rfl, rfl, rfl, rfl, rfl, rfl, rfl, rfl, rfl, rfl, trivial⟩, hS⟩
      clear hf hS a; rintro a w ⟨hf, hS⟩
      refine O.val hf rfl rfl rfl (RunV.move rfl) ?_
      clear hf a; intro a hf
      -- a guarded part
      refine O.cutN (l₁ := [9, 10, 11]) (l₂ := _) (fun a w => Fr a 87 [] [(2, .bool false), (3, .pointer (some ⟨b_x1, 0, none⟩)), (6, .slice none 0 0), (7, .int .i64 ((x : Nat) : Int)), (8, .int .i64 ((y : Nat) : Int)), (9, vi), (10, .int .i64 (((y : Nat) : Int) - 1 + (k : Int))), (11, .int .i64 (((x : Nat) : Int) - 1 + (l : Int))), (36, .int .i64 (((x : Nat) : Int) - 1 + (l : Int))), (37, .bool (decide ((((x : Nat) : Int) - 1 + (l : Int)) < (0 : Int)))), (38, .bool (decide ((((x : Nat) : Int) - 1 + (l : Int)) < (0 : Int)))), (43, .bool ((decide ((((x : Nat) : Int) - 1 + (l : Int)) < (0 : Int))) || (decide ((((x : Nat) : Int) - 1 + (l : Int)) ≥ ((fW : Int) : Int))))), (44, .bool ((decide ((((x : Nat) : Int) - 1 + (l : Int)) < (0 : Int))) || (decide ((((x : Nat) : Int) - 1 + (l : Int)) ≥ ((fW : Int) : Int))))), (47, .bool (((decide ((((x : Nat) : Int) - 1 + (l : Int)) < (0 : Int))) || (decide ((((x : Nat) : Int) - 1 + (l : Int)) ≥ ((fW : Int) : Int)))) || (decide ((((y : Nat) : Int) - 1 + (k : Int)) < (0 : Int)))))] ∧ St w0 w noX [] [sl 3 1 vi inn.length (ints inn), pt b_x1 (.cells #[.int .i64 (fW : Int), .int .i64 (fH : Int), vP] 24 (0, 0))]) rfl ?_ ?_
      · rcases Bool.eq_false_or_eq_true ((decide ((((x : Nat) : Int) - 1 + (l : Int)) < (0 : Int))) || (decide ((((x : Nat) : Int) - 1 + (l : Int)) ≥ ((fW : Int) : Int)))) with hb5 | hb5
        · have hb5p := hb5
          try simp only [Bool.and_eq_true, Bool.or_eq_true, Bool.and_eq_false_iff, Bool.or_eq_false_iff, decide_eq_true_eq, decide_eq_false_iff_not, Bool.not_eq_true', Bool.not_eq_false', Bool.not_eq_true, Bool.not_eq_false, ne_eq] at hb5p
          refine O.skipB hf rfl rfl rfl hb5 rfl ?_; clear hf a; intro a hf
          refine O.skipB hf rfl rfl rfl hb5 rfl ?_; clear hf a; intro a hf
          refine O.val (v := .bool (((decide ((((x : Nat) : Int) - 1 + (l : Int)) < (0 : Int))) || (decide ((((x : Nat) : Int) - 1 + (l : Int)) ≥ ((fW : Int) : Int)))) || (decide ((((y : Nat) : Int) - 1 + (k : Int)) < (0 : Int))))) hf rfl rfl rfl (RunV.pick rfl rfl rfl (by rw [hb5]; rfl)) ?_; clear hf a; intro a hf
          exact O.nil ⟨rfl, hf.to ⟨rfl, rfl, rfl, rfl, rfl, rfl, rfl, rfl, rfl, rfl, rfl, rfl, rfl, rfl, trivial⟩, hS⟩
        · have hb5p := hb5
          try simp only [Bool.and_eq_true, Bool.or_eq_true, Bool.and_eq_false_iff, Bool.or_eq_false_iff, decide_eq_true_eq, decide_eq_false_iff_not, Bool.not_eq_true', Bool.not_eq_false', Bool.not_eq_true, Bool.not_eq_false, ne_eq] at hb5p
          refine O.gvalB (v := .int .i64 (((y : Nat) : Int) - 1 + (k : Int))) hf rfl rfl rfl hb5 rfl rfl (RunV.move rfl) ?_
          clear hf a; intro a hf
          refine O.gvalB (v := .bool (decide ((((y : Nat) : Int) - 1 + (k : Int)) < (0 : Int)))) hf rfl rfl rfl hb5 rfl rfl (RunV.lss rfl rfl) ?_
          clear hf a; intro a hf
          refine O.val (v := .bool (((decide ((((x : Nat) : Int) - 1 + (l : Int)) < (0 : Int))) || (decide ((((x : Nat) : Int) - 1 + (l : Int)) ≥ ((fW : Int) : Int)))) || (decide ((((y : Nat) : Int) - 1 + (k : Int)) < (0 : Int))))) hf rfl rfl rfl (RunV.pick rfl rfl rfl (by rw [hb5]; rfl)) ?_; clear hf a; intro a hf
          exact O.nil ⟨rfl, hf.to ⟨rfl, rfl, rfl, rfl, rfl, rfl, rfl, rfl, rfl, rfl, rfl, rfl, rfl, rfl, trivial⟩, hS⟩
      clear hf hS a; rintro a w ⟨hf, hS⟩
      refine O.val hf rfl rfl rfl (RunV.move rfl) ?_
      clear hf a; intro a hf
      -- a guarded part
      refine O.cutN (l₁ := [13, 14, 15, 16, 17]) (l₂ := _) (fun a w => Fr a 87 [] [(2, .bool false), (3, .pointer (some ⟨b_x1, 0, none⟩)), (6, .slice none 0 0), (7, .int .i64 ((x : Nat) : Int)), (8, .int .i64 ((y : Nat) : Int)), (9, vi), (10, .int .i64 (((y : Nat) : Int) - 1 + (k : Int))), (11, .int .i64 (((x : Nat) : Int) - 1 + (l : Int))), (36, .int .i64 (((x : Nat) : Int) - 1 + (l : Int))), (37, .bool (decide ((((x : Nat) : Int) - 1 + (l : Int)) < (0 : Int)))), (38, .bool (decide ((((x : Nat) : Int) - 1 + (l : Int)) < (0 : Int)))), (43, .bool ((decide ((((x : Nat) : Int) - 1 + (l : Int)) < (0 : Int))) || (decide ((((x : Nat) : Int) - 1 + (l : Int)) ≥ ((fW : Int) : Int))))), (44, .bool ((decide ((((x : Nat) : Int) - 1 + (l : Int)) < (0 : Int))) || (decide ((((x : Nat) : Int) - 1 + (l : Int)) ≥ ((fW : Int) : Int))))), (47, .bool (((decide ((((x : Nat) : Int) - 1 + (l : Int)) < (0 : Int))) || (decide ((((x : Nat) : Int) - 1 + (l : Int)) ≥ ((fW : Int) : Int)))) || (decide ((((y : Nat) : Int) - 1 + (k : Int)) < (0 : Int))))), (48, .bool (((decide ((((x : Nat) : Int) - 1 + (l : Int)) < (0 : Int))) || (decide ((((x : Nat) : Int) - 1 + (l : Int)) ≥ ((fW : Int) : Int)))) || (decide ((((y : Nat) : Int) - 1 + (k : Int)) < (0 : Int))))), (53, .bool ((((decide ((((x : Nat) : Int) - 1 + (l : Int)) < (0 : Int))) || (decide ((((x : Nat) : Int) - 1 + (l : Int)) ≥ ((fW : Int) : Int)))) || (decide ((((y : Nat) : Int) - 1 + (k : Int)) < (0 : Int)))) || (decide ((((y : Nat) : Int) - 1 + (k : Int)) ≥ ((fH : Int) : Int)))))] ∧ St w0 w noX [] [sl 3 1 vi inn.length (ints inn), pt b_x1 (.cells #[.int .i64 (fW : Int), .int .i64 (fH : Int), vP] 24 (0, 0))]) rfl ?_ ?_
      · rcases Bool.eq_false_or_eq_true (((decide ((((x : Nat) : Int) - 1 + (l : Int)) < (0 : Int))) || (decide ((((x : Nat) : Int) - 1 + (l : Int)) ≥ ((fW : Int) : Int)))) || (decide ((((y : Nat) : Int) - 1 + (k : Int)) < (0 : Int)))) with hb6 | hb6
        · have hb6p := hb6
          try simp only [Bool.and_eq_true, Bool.or_eq_true, Bool.and_eq_false_iff, Bool.or_eq_false_iff, decide_eq_true_eq, decide_eq_false_iff_not, Bool.not_eq_true', Bool.not_eq_false', Bool.not_eq_true, Bool.not_eq_false, ne_eq] at hb6p
          refine O.skipB hf rfl rfl rfl hb6 rfl ?_; clear hf a; intro a hf
          refine O.skipB hf rfl rfl rfl hb6 rfl ?_; clear hf a; intro a hf
          refine O.skipB hf rfl rfl rfl hb6 rfl ?_; clear hf a; intro a hf
          refine O.skipB hf rfl rfl rfl hb6 rfl ?_; clear hf a; intro a hf
          refine O.val (v := .bool ((((decide ((((x : Nat) : Int) - 1 + (l : Int)) < (0 : Int))) || (decide ((((x : Nat) : Int) - 1 + (l : Int)) ≥ ((fW : Int) : Int)))) || (decide ((((y : Nat) : Int) - 1 + (k : Int)) < (0 : Int)))) || (decide ((((y : Nat) : Int) - 1 + (k : Int)) ≥ ((fH : Int) : Int))))) hf rfl rfl rfl (RunV.pick rfl rfl rfl (by rw [hb6]; rfl)) ?_; clear hf a; intro a hf
          exact O.nil ⟨rfl, hf.to ⟨rfl, rfl, rfl, rfl, rfl, rfl, rfl, rfl, rfl, rfl, rfl, rfl, rfl, rfl, rfl, rfl, trivial⟩, hS⟩
        · have hb6p := hb6
          try simp only [Bool.and_eq_true, Bool.or_eq_true, Bool.and_eq_false_iff, Bool.or_eq_false_iff, decide_eq_true_eq, decide_eq_false_iff_not, Bool.not_eq_true', Bool.not_eq_false', Bool.not_eq_true, Bool.not_eq_false, ne_eq] at hb6p
          refine O.gvalB (v := .int .i64 (((y : Nat) : Int) - 1 + (k : Int))) hf rfl rfl rfl hb6 rfl rfl (RunV.move rfl) ?_
          clear hf a; intro a hf
          refine O.gvalB (v := .pointer (some ⟨b_x1, 1, none⟩)) hf rfl rfl rfl hb6 rfl rfl (RunV.field T_field_24_1 rfl rfl) ?_
          clear hf a; intro a hf
          refine O.gvalB (v := .int .i64 (fH : Int)) hf rfl rfl rfl hb6 rfl rfl (RunV.load1 T_agg_3 rfl (hS.ptAt (i := 1) rfl) rfl) ?_
          clear hf a; intro a hf
          refine O.gvalB (v := .bool (decide ((((y : Nat) : Int) - 1 + (k : Int)) ≥ ((fH : Int) : Int)))) hf rfl rfl rfl hb6 rfl rfl (RunV.geq rfl rfl) ?_
          clear hf a; intro a hf
          refine O.val (v := .bool ((((decide ((((x : Nat) : Int) - 1 + (l : Int)) < (0 : Int))) || (decide ((((x : Nat) : Int) - 1 + (l : Int)) ≥ ((fW : Int) : Int)))) || (decide ((((y : Nat) : Int) - 1 + (k : Int)) < (0 : Int)))) || (decide ((((y : Nat) : Int) - 1 + (k : Int)) ≥ ((fH : Int) : Int))))) hf rfl rfl rfl (RunV.pick rfl rfl rfl (by rw [hb6]; rfl)) ?_; clear hf a; intro a hf
          exact O.nil ⟨rfl, hf.to ⟨rfl, rfl, rfl, rfl, rfl, rfl, rfl, rfl, rfl, rfl, rfl, rfl, rfl, rfl, rfl, rfl, trivial⟩, hS⟩
      clear hf hS a; rintro a w ⟨hf, hS⟩
      refine O.val hf rfl rfl rfl (RunV.move rfl) ?_
      clear hf a; intro a hf
      -- a guarded part
      refine O.cutN (l₁ := [19, 20, 21, 22, 23, 24, 25, 26, 27]) (l₂ := _) (fun a w => Fr a 87 [] [(2, .bool false), (3, .pointer (some ⟨b_x1, 0, none⟩)), (6, .slice none 0 0), (7, .int .i64 ((x : Nat) : Int)), (8, .int .i64 ((y : Nat) : Int)), (9, vi), (10, .int .i64 (((y : Nat) : Int) - 1 + (k : Int))), (11, .int .i64 (((x : Nat) : Int) - 1 + (l : Int))), (36, .int .i64 (((x : Nat) : Int) - 1 + (l : Int))), (37, .bool (decide ((((x : Nat) : Int) - 1 + (l : Int)) < (0 : Int)))), (38, .bool (decide ((((x : Nat) : Int) - 1 + (l : Int)) < (0 : Int)))), (43, .bool ((decide ((((x : Nat) : Int) - 1 + (l : Int)) < (0 : Int))) || (decide ((((x : Nat) : Int) - 1 + (l : Int)) ≥ ((fW : Int) : Int))))), (44, .bool ((decide ((((x : Nat) : Int) - 1 + (l : Int)) < (0 : Int))) || (decide ((((x : Nat) : Int) - 1 + (l : Int)) ≥ ((fW : Int) : Int))))), (47, .bool (((decide ((((x : Nat) : Int) - 1 + (l : Int)) < (0 : Int))) || (decide ((((x : Nat) : Int) - 1 + (l : Int)) ≥ ((fW : Int) : Int)))) || (decide ((((y : Nat) : Int) - 1 + (k : Int)) < (0 : Int))))), (48, .bool (((decide ((((x : Nat) : Int) - 1 + (l : Int)) < (0 : Int))) || (decide ((((x : Nat) : Int) - 1 + (l : Int)) ≥ ((fW : Int) : Int)))) || (decide ((((y : Nat) : Int) - 1 + (k : Int)) < (0 : Int))))), (53, .bool ((((decide ((((x : Nat) : Int) - 1 + (l : Int)) < (0 : Int))) || (decide ((((x : Nat) : Int) - 1 + (l : Int)) ≥ ((fW : Int) : Int)))) || (decide ((((y : Nat) : Int) - 1 + (k : Int)) < (0 : Int)))) || (decide ((((y : Nat) : Int) - 1 + (k : Int)) ≥ ((fH : Int) : Int))))), (54, .bool ((((decide ((((x : Nat) : Int) - 1 + (l : Int)) < (0 : Int))) || (decide ((((x : Nat) : Int) - 1 + (l : Int)) ≥ ((fW : Int) : Int)))) || (decide ((((y : Nat) : Int) - 1 + (k : Int)) < (0 : Int)))) || (decide ((((y : Nat) : Int) - 1 + (k : Int)) ≥ ((fH : Int) : Int))))), (63, .bool (((((decide ((((x : Nat) : Int) - 1 + (l : Int)) < (0 : Int))) || (decide ((((x : Nat) : Int) - 1 + (l : Int)) ≥ ((fW : Int) : Int)))) || (decide ((((y : Nat) : Int) - 1 + (k : Int)) < (0 : Int)))) || (decide ((((y : Nat) : Int) - 1 + (k : Int)) ≥ ((fH : Int) : Int)))) || ((decide ((((x : Nat) : Int) - 1 + (l : Int)) = (((x : Nat) : Int) : Int))) && (decide ((((y : Nat) : Int) - 1 + (k : Int)) = (((y : Nat) : Int) : Int))))))] ∧ St w0 w noX [] [sl 3 1 vi inn.length (ints inn), pt b_x1 (.cells #[.int .i64 (fW : Int), .int .i64 (fH : Int), vP] 24 (0, 0))]) rfl ?_ ?_
      · rcases Bool.eq_false_or_eq_true ((((decide ((((x : Nat) : Int) - 1 + (l : Int)) < (0 : Int))) || (decide ((((x : Nat) : Int) - 1 + (l : Int)) ≥ ((fW : Int) : Int)))) || (decide ((((y : Nat) : Int) - 1 + (k : Int)) < (0 : Int)))) || (decide ((((y : Nat) : Int) - 1 + (k : Int)) ≥ ((fH : Int) : Int)))) with hb7 | hb7
        · have hb7p := hb7
          try simp only [Bool.and_eq_true, Bool.or_eq_true, Bool.and_eq_false_iff, Bool.or_eq_false_iff, decide_eq_true_eq, decide_eq_false_iff_not, Bool.not_eq_true', Bool.not_eq_false', Bool.not_eq_true, Bool.not_eq_false, ne_eq] at hb7p
          refine O.skipB hf rfl rfl rfl hb7 rfl ?_; clear hf a; intro a hf
          refine O.skipB hf rfl rfl rfl hb7 rfl ?_; clear hf a; intro a hf
          refine O.skipB hf rfl rfl rfl hb7 rfl ?_; clear hf a; intro a hf
          refine O.skipB hf rfl rfl rfl hb7 rfl ?_; clear hf a; intro a hf
          refine O.skipU hf rfl rfl rfl rfl ?_; clear hf a; intro a hf
          refine O.skipU hf rfl rfl rfl rfl ?_; clear hf a; intro a hf
          refine O.skipU hf rfl rfl rfl rfl ?_; clear hf a; intro a hf
          refine O.skipB hf rfl rfl rfl hb7 rfl ?_; clear hf a; intro a hf
          refine O.val (v := .bool (((((decide ((((x : Nat) : Int) - 1 + (l : Int)) < (0 : Int))) || (decide ((((x : Nat) : Int) - 1 + (l : Int)) ≥ ((fW : Int) : Int)))) || (decide ((((y : Nat) : Int) - 1 + (k : Int)) < (0 : Int)))) || (decide ((((y : Nat) : Int) - 1 + (k : Int)) ≥ ((fH : Int) : Int)))) || ((decide ((((x : Nat) : Int) - 1 + (l : Int)) = (((x : Nat) : Int) : Int))) && (decide ((((y : Nat) : Int) - 1 + (k : Int)) = (((y : Nat) : Int) : Int)))))) hf rfl rfl rfl (RunV.pick rfl rfl rfl (by rw [hb7]; rfl)) ?_; clear hf a; intro a hf
          exact O.nil ⟨rfl, hf.to ⟨rfl, rfl, rfl, rfl, rfl, rfl, rfl, rfl, rfl, rfl, rfl, rfl, rfl, rfl, rfl, rfl, rfl, rfl, trivial⟩, hS⟩
        · have hb7p := hb7
          try simp only [Bool.and_eq_true, Bool.or_eq_true, Bool.and_eq_false_iff, Bool.or_eq_false_iff, decide_eq_true_eq, decide_eq_false_iff_not, Bool.not_eq_true', Bool.not_eq_false', Bool.not_eq_true, Bool.not_eq_false, ne_eq] at hb7p
          refine O.gvalB (v := .int .i64 (((x : Nat) : Int) - 1 + (l : Int))) hf rfl rfl rfl hb7 rfl rfl (RunV.move rfl) ?_
          clear hf a; intro a hf
          refine O.gvalB (v := .int .i64 ((x : Nat) : Int)) hf rfl rfl rfl hb7 rfl rfl (RunV.move rfl) ?_
          clear hf a; intro a hf
          refine O.gvalB (v := .bool (decide ((((x : Nat) : Int) - 1 + (l : Int)) = (((x : Nat) : Int) : Int)))) hf rfl rfl rfl hb7 rfl rfl (RunV.eql rfl rfl) ?_
          clear hf a; intro a hf
          refine O.gvalB (v := .bool (decide ((((x : Nat) : Int) - 1 + (l : Int)) = (((x : Nat) : Int) : Int)))) hf rfl rfl rfl hb7 rfl rfl (RunV.move rfl) ?_
          clear hf a; intro a hf
          -- a guarded part
          refine O.cutN (l₁ := [23, 24, 25, 26]) (l₂ := _) (fun a w => Fr a 87 [] [(2, .bool false), (3, .pointer (some ⟨b_x1, 0, none⟩)), (6, .slice none 0 0), (7, .int .i64 ((x : Nat) : Int)), (8, .int .i64 ((y : Nat) : Int)), (9, vi), (10, .int .i64 (((y : Nat) : Int) - 1 + (k : Int))), (11, .int .i64 (((x : Nat) : Int) - 1 + (l : Int))), (36, .int .i64 (((x : Nat) : Int) - 1 + (l : Int))), (37, .bool (decide ((((x : Nat) : Int) - 1 + (l : Int)) < (0 : Int)))), (38, .bool (decide ((((x : Nat) : Int) - 1 + (l : Int)) < (0 : Int)))), (43, .bool ((decide ((((x : Nat) : Int) - 1 + (l : Int)) < (0 : Int))) || (decide ((((x : Nat) : Int) - 1 + (l : Int)) ≥ ((fW : Int) : Int))))), (44, .bool ((decide ((((x : Nat) : Int) - 1 + (l : Int)) < (0 : Int))) || (decide ((((x : Nat) : Int) - 1 + (l : Int)) ≥ ((fW : Int) : Int))))), (47, .bool (((decide ((((x : Nat) : Int) - 1 + (l : Int)) < (0 : Int))) || (decide ((((x : Nat) : Int) - 1 + (l : Int)) ≥ ((fW : Int) : Int)))) || (decide ((((y : Nat) : Int) - 1 + (k : Int)) < (0 : Int))))), (48, .bool (((decide ((((x : Nat) : Int) - 1 + (l : Int)) < (0 : Int))) || (decide ((((x : Nat) : Int) - 1 + (l : Int)) ≥ ((fW : Int) : Int)))) || (decide ((((y : Nat) : Int) - 1 + (k : Int)) < (0 : Int))))), (53, .bool ((((decide ((((x : Nat) : Int) - 1 + (l : Int)) < (0 : Int))) || (decide ((((x : Nat) : Int) - 1 + (l : Int)) ≥ ((fW : Int) : Int)))) || (decide ((((y : Nat) : Int) - 1 + (k : Int)) < (0 : Int)))) || (decide ((((y : Nat) : Int) - 1 + (k : Int)) ≥ ((fH : Int) : Int))))), (54, .bool ((((decide ((((x : Nat) : Int) - 1 + (l : Int)) < (0 : Int))) || (decide ((((x : Nat) : Int) - 1 + (l : Int)) ≥ ((fW : Int) : Int)))) || (decide ((((y : Nat) : Int) - 1 + (k : Int)) < (0 : Int)))) || (decide ((((y : Nat) : Int) - 1 + (k : Int)) ≥ ((fH : Int) : Int))))), (55, .int .i64 (((x : Nat) : Int) - 1 + (l : Int))), (56, .int .i64 ((x : Nat) : Int)), (57, .bool (decide ((((x : Nat) : Int) - 1 + (l : Int)) = (((x : Nat) : Int) : Int)))), (58, .bool (decide ((((x : Nat) : Int) - 1 + (l : Int)) = (((x : Nat) : Int) : Int)))), (62, .bool ((decide ((((x : Nat) : Int) - 1 + (l : Int)) = (((x : Nat) : Int) : Int))) && (decide ((((y : Nat) : Int) - 1 + (k : Int)) = (((y : Nat) : Int) : Int)))))] ∧ St w0 w noX [] [sl 3 1 vi inn.length (ints inn), pt b_x1 (.cells #[.int .i64 (fW : Int), .int .i64 (fH : Int), vP] 24 (0, 0))]) rfl ?_ ?_
          · rcases Bool.eq_false_or_eq_true (decide ((((x : Nat) : Int) - 1 + (l : Int)) = (((x : Nat) : Int) : Int))) with hb8 | hb8
            · have hb8p := of_decide_eq_true hb8
              refine O.gvalB (v := .int .i64 (((y : Nat) : Int) - 1 + (k : Int))) hf rfl rfl rfl hb8 rfl rfl (RunV.move rfl) ?_
              clear hf a; intro a hf
              refine O.gvalB (v := .int .i64 ((y : Nat) : Int)) hf rfl rfl rfl hb8 rfl rfl (RunV.move rfl) ?_
              clear hf a; intro a hf
              refine O.gvalB (v := .bool (decide ((((y : Nat) : Int) - 1 + (k : Int)) = (((y : Nat) : Int) : Int)))) hf rfl rfl rfl hb8 rfl rfl (RunV.eql rfl rfl) ?_
              clear hf a; intro a hf
              refine O.gvalB (v := .bool ((decide ((((x : Nat) : Int) - 1 + (l : Int)) = (((x : Nat) : Int) : Int))) && (decide ((((y : Nat) : Int) - 1 + (k : Int)) = (((y : Nat) : Int) : Int))))) hf rfl rfl rfl hb7 rfl rfl (RunV.pick rfl rfl rfl (by rw [hb8]; rfl)) ?_; clear hf a; intro a hf
              exact O.nil ⟨rfl, hf.to ⟨rfl, rfl, rfl, rfl, rfl, rfl, rfl, rfl, rfl, rfl, rfl, rfl, rfl, rfl, rfl, rfl, rfl, rfl, rfl, rfl, rfl, rfl, trivial⟩, hS⟩
            · have hb8p := of_decide_eq_false hb8
              refine O.skipB hf rfl rfl rfl hb8 rfl ?_; clear hf a; intro a hf
              refine O.skipB hf rfl rfl rfl hb8 rfl ?_; clear hf a; intro a hf
              refine O.skipB hf rfl rfl rfl hb8 rfl ?_; clear hf a; intro a hf
              refine O.gvalB (v := .bool ((decide ((((x : Nat) : Int) - 1 + (l : Int)) = (((x : Nat) : Int) : Int))) && (decide ((((y : Nat) : Int) - 1 + (k : Int)) = (((y : Nat) : Int) : Int))))) hf rfl rfl rfl hb7 rfl rfl (RunV.pick rfl rfl rfl (by rw [hb8]; rfl)) ?_; clear hf a; intro a hf
              exact O.nil ⟨rfl, hf.to ⟨rfl, rfl, rfl, rfl, rfl, rfl, rfl, rfl, rfl, rfl, rfl, rfl, rfl, rfl, rfl, rfl, rfl, rfl, rfl, rfl, rfl, rfl, trivial⟩, hS⟩
          clear hf hS a; rintro a w ⟨hf, hS⟩
          refine O.val (v := .bool (((((decide ((((x : Nat) : Int) - 1 + (l : Int)) < (0 : Int))) || (decide ((((x : Nat) : Int) - 1 + (l : Int)) ≥ ((fW : Int) : Int)))) || (decide ((((y : Nat) : Int) - 1 + (k : Int)) < (0 : Int)))) || (decide ((((y : Nat) : Int) - 1 + (k : Int)) ≥ ((fH : Int) : Int)))) || ((decide ((((x : Nat) : Int) - 1 + (l : Int)) = (((x : Nat) : Int) : Int))) && (decide ((((y : Nat) : Int) - 1 + (k : Int)) = (((y : Nat) : Int) : Int)))))) hf rfl rfl rfl (RunV.pick rfl rfl rfl (by rw [hb7]; rfl)) ?_; clear hf a; intro a hf
          exact O.nil ⟨rfl, hf.to ⟨rfl, rfl, rfl, rfl, rfl, rfl, rfl, rfl, rfl, rfl, rfl, rfl, rfl, rfl, rfl, rfl, rfl, rfl, trivial⟩, hS⟩
      clear hf hS a; rintro a w ⟨hf, hS⟩
      refine O.val hf rfl rfl rfl (RunV.move rfl) ?_
      clear hf a; intro a hf
      -- a guarded part
      refine O.cutN (l₁ := [29, 30, 31, 32, 33, 34, 35, 36, 37, 38, 39, 40]) (l₂ := _) (fun a w => Fr a 87 [] [(2, .bool false), (3, .pointer (some ⟨b_x1, 0, none⟩)), (6, .slice none 0 0), (7, .int .i64 ((x : Nat) : Int)), (8, .int .i64 ((y : Nat) : Int)), (9, vi), (10, .int .i64 (((y : Nat) : Int) - 1 + (k : Int))), (11, .int .i64 (((x : Nat) : Int) - 1 + (l : Int))), (36, .int .i64 (((x : Nat) : Int) - 1 + (l : Int))), (37, .bool (decide ((((x : Nat) : Int) - 1 + (l : Int)) < (0 : Int)))), (38, .bool (decide ((((x : Nat) : Int) - 1 + (l : Int)) < (0 : Int)))), (43, .bool ((decide ((((x : Nat) : Int) - 1 + (l : Int)) < (0 : Int))) || (decide ((((x : Nat) : Int) - 1 + (l : Int)) ≥ ((fW : Int) : Int))))), (44, .bool ((decide ((((x : Nat) : Int) - 1 + (l : Int)) < (0 : Int))) || (decide ((((x : Nat) : Int) - 1 + (l : Int)) ≥ ((fW : Int) : Int))))), (47, .bool (((decide ((((x : Nat) : Int) - 1 + (l : Int)) < (0 : Int))) || (decide ((((x : Nat) : Int) - 1 + (l : Int)) ≥ ((fW : Int) : Int)))) || (decide ((((y : Nat) : Int) - 1 + (k : Int)) < (0 : Int))))), (48, .bool (((decide ((((x : Nat) : Int) - 1 + (l : Int)) < (0 : Int))) || (decide ((((x : Nat) : Int) - 1 + (l : Int)) ≥ ((fW : Int) : Int)))) || (decide ((((y : Nat) : Int) - 1 + (k : Int)) < (0 : Int))))), (53, .bool ((((decide ((((x : Nat) : Int) - 1 + (l : Int)) < (0 : Int))) || (decide ((((x : Nat) : Int) - 1 + (l : Int)) ≥ ((fW : Int) : Int)))) || (decide ((((y : Nat) : Int) - 1 + (k : Int)) < (0 : Int)))) || (decide ((((y : Nat) : Int) - 1 + (k : Int)) ≥ ((fH : Int) : Int))))), (54, .bool ((((decide ((((x : Nat) : Int) - 1 + (l : Int)) < (0 : Int))) || (decide ((((x : Nat) : Int) - 1 + (l : Int)) ≥ ((fW : Int) : Int)))) || (decide ((((y : Nat) : Int) - 1 + (k : Int)) < (0 : Int)))) || (decide ((((y : Nat) : Int) - 1 + (k : Int)) ≥ ((fH : Int) : Int))))), (63, .bool (((((decide ((((x : Nat) : Int) - 1 + (l : Int)) < (0 : Int))) || (decide ((((x : Nat) : Int) - 1 + (l : Int)) ≥ ((fW : Int) : Int)))) || (decide ((((y : Nat) : Int) - 1 + (k : Int)) < (0 : Int)))) || (decide ((((y : Nat) : Int) - 1 + (k : Int)) ≥ ((fH : Int) : Int)))) || ((decide ((((x : Nat) : Int) - 1 + (l : Int)) = (((x : Nat) : Int) : Int))) && (decide ((((y : Nat) : Int) - 1 + (k : Int)) = (((y : Nat) : Int) : Int)))))), (64, .bool (((((decide ((((x : Nat) : Int) - 1 + (l : Int)) < (0 : Int))) || (decide ((((x : Nat) : Int) - 1 + (l : Int)) ≥ ((fW : Int) : Int)))) || (decide ((((y : Nat) : Int) - 1 + (k : Int)) < (0 : Int)))) || (decide ((((y : Nat) : Int) - 1 + (k : Int)) ≥ ((fH : Int) : Int)))) || ((decide ((((x : Nat) : Int) - 1 + (l : Int)) = (((x : Nat) : Int) : Int))) && (decide ((((y : Nat) : Int) - 1 + (k : Int)) = (((y : Nat) : Int) : Int)))))), (76, .bool ((((((decide ((((x : Nat) : Int) - 1 + (l : Int)) < (0 : Int))) || (decide ((((x : Nat) : Int) - 1 + (l : Int)) ≥ ((fW : Int) : Int)))) || (decide ((((y : Nat) : Int) - 1 + (k : Int)) < (0 : Int)))) || (decide ((((y : Nat) : Int) - 1 + (k : Int)) ≥ ((fH : Int) : Int)))) || ((decide ((((x : Nat) : Int) - 1 + (l : Int)) = (((x : Nat) : Int) : Int))) && (decide ((((y : Nat) : Int) - 1 + (k : Int)) = (((y : Nat) : Int) : Int))))) || false))] ∧ St w0 w noX [] [sl 3 1 vi inn.length (ints inn), pt b_x1 (.cells #[.int .i64 (fW : Int), .int .i64 (fH : Int), vP] 24 (0, 0))]) rfl ?_ ?_
      · rcases Bool.eq_false_or_eq_true (((((decide ((((x : Nat) : Int) - 1 + (l : Int)) < (0 : Int))) || (decide ((((x : Nat) : Int) - 1 + (l : Int)) ≥ ((fW : Int) : Int)))) || (decide ((((y : Nat) : Int) - 1 + (k : Int)) < (0 : Int)))) || (decide ((((y : Nat) : Int) - 1 + (k : Int)) ≥ ((fH : Int) : Int)))) || ((decide ((((x : Nat) : Int) - 1 + (l : Int)) = (((x : Nat) : Int) : Int))) && (decide ((((y : Nat) : Int) - 1 + (k : Int)) = (((y : Nat) : Int) : Int))))) with hb9 | hb9
        · have hb9p := hb9
          try simp only [Bool.and_eq_true, Bool.or_eq_true, Bool.and_eq_false_iff, Bool.or_eq_false_iff, decide_eq_true_eq, decide_eq_false_iff_not, Bool.not_eq_true', Bool.not_eq_false', Bool.not_eq_true, Bool.not_eq_false, ne_eq] at hb9p
          refine O.skipB hf rfl rfl rfl hb9 rfl ?_; clear hf a; intro a hf
          refine O.skipB hf rfl rfl rfl hb9 rfl ?_; clear hf a; intro a hf
          refine O.skipU hf rfl rfl rfl rfl ?_; clear hf a; intro a hf
          refine O.skipU hf rfl rfl rfl rfl ?_; clear hf a; intro a hf
          refine O.skipU hf rfl rfl rfl rfl ?_; clear hf a; intro a hf
          refine O.skipB hf rfl rfl rfl hb9 rfl ?_; clear hf a; intro a hf
          refine O.skipB hf rfl rfl rfl hb9 rfl ?_; clear hf a; intro a hf
          refine O.skipU hf rfl rfl rfl rfl ?_; clear hf a; intro a hf
          refine O.skipU hf rfl rfl rfl rfl ?_; clear hf a; intro a hf
          refine O.skipU hf rfl rfl rfl rfl ?_; clear hf a; intro a hf
          refine O.skipB hf rfl rfl rfl hb9 rfl ?_; clear hf a; intro a hf
          refine O.val (v := .bool ((((((decide ((((x : Nat) : Int) - 1 + (l : Int)) < (0 : Int))) || (decide ((((x : Nat) : Int) - 1 + (l : Int)) ≥ ((fW : Int) : Int)))) || (decide ((((y : Nat) : Int) - 1 + (k : Int)) < (0 : Int)))) || (decide ((((y : Nat) : Int) - 1 + (k : Int)) ≥ ((fH : Int) : Int)))) || ((decide ((((x : Nat) : Int) - 1 + (l : Int)) = (((x : Nat) : Int) : Int))) && (decide ((((y : Nat) : Int) - 1 + (k : Int)) = (((y : Nat) : Int) : Int))))) || false)) hf rfl rfl rfl (RunV.pick rfl rfl rfl (by rw [hb9]; rfl)) ?_; clear hf a; intro a hf
          exact O.nil ⟨rfl, hf.to ⟨rfl, rfl, rfl, rfl, rfl, rfl, rfl, rfl, rfl, rfl, rfl, rfl, rfl, rfl, rfl, rfl, rfl, rfl, rfl, rfl, trivial⟩, hS⟩
        · have hb9p := hb9
          try simp only [Bool.and_eq_true, Bool.or_eq_true, Bool.and_eq_false_iff, Bool.or_eq_false_iff, decide_eq_true_eq, decide_eq_false_iff_not, Bool.not_eq_true', Bool.not_eq_false', Bool.not_eq_true, Bool.not_eq_false, ne_eq] at hb9p
          refine O.gvalB (v := .bool false) hf rfl rfl rfl hb9 rfl rfl (RunV.move rfl) ?_
          clear hf a; intro a hf
          refine O.gvalB (v := .bool false) hf rfl rfl rfl hb9 rfl rfl (RunV.move rfl) ?_
          clear hf a; intro a hf
          refine O.skipB hf rfl rfl rfl rfl rfl ?_; clear hf a; intro a hf
          refine O.skipB hf rfl rfl rfl rfl rfl ?_; clear hf a; intro a hf
          refine O.skipB hf rfl rfl rfl rfl rfl ?_; clear hf a; intro a hf
          refine O.gvalB (v := .bool false) hf rfl rfl rfl hb9 rfl rfl (RunV.pick rfl rfl rfl rfl) ?_
          clear hf a; intro a hf
          refine O.gvalB (v := .bool false) hf rfl rfl rfl hb9 rfl rfl (RunV.move rfl) ?_
          clear hf a; intro a hf
          refine O.skipB hf rfl rfl rfl rfl rfl ?_; clear hf a; intro a hf
          refine O.skipB hf rfl rfl rfl rfl rfl ?_; clear hf a; intro a hf
          refine O.skipB hf rfl rfl rfl rfl rfl ?_; clear hf a; intro a hf
          refine O.gvalB (v := .bool false) hf rfl rfl rfl hb9 rfl rfl (RunV.pick rfl rfl rfl rfl) ?_
          clear hf a; intro a hf
          refine O.val (v := .bool ((((((decide ((((x : Nat) : Int) - 1 + (l : Int)) < (0 : Int))) || (decide ((((x : Nat) : Int) - 1 + (l : Int)) ≥ ((fW : Int) : Int)))) || (decide ((((y : Nat) : Int) - 1 + (k : Int)) < (0 : Int)))) || (decide ((((y : Nat) : Int) - 1 + (k : Int)) ≥ ((fH : Int) : Int)))) || ((decide ((((x : Nat) : Int) - 1 + (l : Int)) = (((x : Nat) : Int) : Int))) && (decide ((((y : Nat) : Int) - 1 + (k : Int)) = (((y : Nat) : Int) : Int))))) || false)) hf rfl rfl rfl (RunV.pick rfl rfl rfl (by rw [hb9]; rfl)) ?_; clear hf a; intro a hf
          exact O.nil ⟨rfl, hf.to ⟨rfl, rfl, rfl, rfl, rfl, rfl, rfl, rfl, rfl, rfl, rfl, rfl, rfl, rfl, rfl, rfl, rfl, rfl, rfl, rfl, trivial⟩, hS⟩
      clear hf hS a; rintro a w ⟨hf, hS⟩
      refine O.nil ?_
      refine k_seq ?_
      replace hf : Fr a 87 [] [(2, .bool false), (3, .pointer (some ⟨b_x1, 0, none⟩)), (6, .slice none 0 0), (7, .int .i64 ((x : Nat) : Int)), (8, .int .i64 ((y : Nat) : Int)), (9, vi), (10, .int .i64 (((y : Nat) : Int) - 1 + (k : Int))), (11, .int .i64 (((x : Nat) : Int) - 1 + (l : Int))), (76, .bool ((((((decide ((((x : Nat) : Int) - 1 + (l : Int)) < (0 : Int))) || (decide ((((x : Nat) : Int) - 1 + (l : Int)) ≥ ((fW : Int) : Int)))) || (decide ((((y : Nat) : Int) - 1 + (k : Int)) < (0 : Int)))) || (decide ((((y : Nat) : Int) - 1 + (k : Int)) ≥ ((fH : Int) : Int)))) || ((decide ((((x : Nat) : Int) - 1 + (l : Int)) = (((x : Nat) : Int) : Int))) && (decide ((((y : Nat) : Int) - 1 + (k : Int)) = (((y : Nat) : Int) : Int))))) || false))] := hf.to ⟨rfl, rfl, rfl, rfl, rfl, rfl, rfl, rfl, rfl, trivial⟩
      refine W.if_ hf rfl (fun hc => ?_) (fun hc => ?_)
      · have hcb := hc
        try simp only [Bool.and_eq_true, Bool.or_eq_true, Bool.and_eq_false_iff, Bool.or_eq_false_iff, decide_eq_true_eq, decide_eq_false_iff_not, Bool.not_eq_true', Bool.not_eq_false', Bool.not_eq_true, Bool.not_eq_false, ne_eq] at hc
        refine W.exit ?_
        refine k_then_exit ?_
        refine k_blk ?_
        refine k_seq ?_
        -- region 8
        refine W.regionL (l := [0, 1, 2]) rfl ?_
        refine O.val hf rfl rfl rfl (RunV.move rfl) ?_
        clear hf a; intro a hf
        refine O.val hf rfl rfl rfl (RunV.addI rfl rfl (by omega)) ?_
        clear hf a; intro a hf
        refine O.val hf rfl rfl rfl (RunV.assign rfl) ?_
        clear hf a; intro a hf
        refine O.nil ?_
        refine k_then ⟨(l + 1, vi, inn), ⟨hf.to ⟨rfl, rfl, rfl, rfl, rfl, (by first | rfl | exact congrArg some (congrArg (Value.int _) (by omega))), rfl, (by first | rfl | exact congrArg some (congrArg (Value.int _) (by omega))), trivial⟩, ?_, ?_, ?_, ?_⟩, ?_⟩
        · exact hS.eqM rfl
        · omega
        · subst h5; rw [Det.nbIn_skip (by simp only [Bool.or_false] at hcb; simp only [Det.okNb, hcb]; rfl)]
        · first | omega | (rw [List.length_append, List.length_singleton]; omega)
        · dsimp only; omega
      · have hcb := hc
        try simp only [Bool.and_eq_true, Bool.or_eq_true, Bool.and_eq_false_iff, Bool.or_eq_false_iff, decide_eq_true_eq, decide_eq_false_iff_not, Bool.not_eq_true', Bool.not_eq_false', Bool.not_eq_true, Bool.not_eq_false, ne_eq] at hc
        refine W.skip ?_
        refine k_seq ?_
        -- region 10
        refine W.regionL (l := [0, 1, 2, 3, 4, 5, 6, 7, 8, 9]) rfl ?_
        have hm := Det.mul_bd (a := ((y : Nat) : Int) - 1 + (k : Int)) (b := (fW : Int)) (by omega) (by omega)
        refine O.val hf rfl rfl rfl (RunV.move rfl) ?_
        clear hf a; intro a hf
        refine O.val hf rfl rfl rfl (RunV.move rfl) ?_
        clear hf a; intro a hf
        refine O.val hf rfl rfl rfl (RunV.field T_field_24_0 rfl rfl) ?_
        clear hf a; intro a hf
        refine O.val hf rfl rfl rfl (RunV.load1 T_agg_3 rfl (hS.ptAt (i := 1) rfl) rfl) ?_
        clear hf a; intro a hf
        refine O.val hf rfl rfl rfl (RunV.mulI rfl rfl (by omega)) ?_
        clear hf a; intro a hf
        refine O.val hf rfl rfl rfl (RunV.move rfl) ?_
        clear hf a; intro a hf
        refine O.val hf rfl rfl rfl (RunV.addI rfl rfl (by omega)) ?_
        clear hf a; intro a hf
        refine O.buildSlice (cs' := #[.int .i64 (((((y : Nat) : Int) - 1 + (k : Int)) * (fW : Int)) + (((x : Nat) : Int) - 1 + (l : Int)))]) (zs := #[.int .i64 0]) hf hS rfl rfl T_elem_46 T_size_3 T_zero_3 rfl rfl rfl rfl rfl ?_
        clear hf hS a; intro b_s11 w a hbb_s11 hS hf
        refine O.append1 (j := 1) (jj := 0) hf hS rfl rfl T_elem_46 T_size_3 T_bytes_3 T_zero_3 rfl rfl rfl rfl rfl rfl rfl rfl (by unfold maxLen; omega) (by omega) ?_
        clear hf hS a; intro v12 w a hS hf
        replace hS := hS.eqM (N := [pt b_s11 (.cells #[.int .i64 (((((y : Nat) : Int) - 1 + (k : Int)) * (fW : Int)) + (((x : Nat) : Int) - 1 + (l : Int)))] 3 (0, 0)), sl 3 1 v12 (inn.length + 1) (ints inn ++ [.int .i64 (((((y : Nat) : Int) - 1 + (k : Int)) * (fW : Int)) + (((x : Nat) : Int) - 1 + (l : Int)))]), pt b_x1 (.cells #[.int .i64 (fW : Int), .int .i64 (fH : Int), vP] 24 (0, 0))]) rfl
        replace hS := hS.eqM (N := [pt b_s11 (.cells #[.int .i64 (((((y : Nat) : Int) - 1 + (k : Int)) * (fW : Int)) + (((x : Nat) : Int) - 1 + (l : Int)))] 3 (0, 0)), sl 3 1 v12 ((inn ++ [((((y : Nat) : Int) - 1 + (k : Int)) * (fW : Int)) + (((x : Nat) : Int) - 1 + (l : Int))]).length) (ints (inn ++ [((((y : Nat) : Int) - 1 + (k : Int)) * (fW : Int)) + (((x : Nat) : Int) - 1 + (l : Int))])), pt b_x1 (.cells #[.int .i64 (fW : Int), .int .i64 (fH : Int), vP] 24 (0, 0))]) (by rw [sl_ints])
        refine O.val hf rfl rfl rfl (RunV.assign rfl) ?_
        clear hf a; intro a hf
        refine O.nil ?_
        refine k_blk_normal ?_
        refine k_seq ?_
        replace hf : Fr a 87 [] [(2, .bool false), (3, .pointer (some ⟨b_x1, 0, none⟩)), (6, .slice none 0 0), (7, .int .i64 ((x : Nat) : Int)), (8, .int .i64 ((y : Nat) : Int)), (9, v12), (10, .int .i64 (((y : Nat) : Int) - 1 + (k : Int))), (11, .int .i64 (((x : Nat) : Int) - 1 + (l : Int)))] := hf.to ⟨rfl, rfl, rfl, rfl, rfl, rfl, rfl, rfl, trivial⟩
        -- region 8
        refine W.regionL (l := [0, 1, 2]) rfl ?_
        refine O.val hf rfl rfl rfl (RunV.move rfl) ?_
        clear hf a; intro a hf
        refine O.val hf rfl rfl rfl (RunV.addI rfl rfl (by omega)) ?_
        clear hf a; intro a hf
        refine O.val hf rfl rfl rfl (RunV.assign rfl) ?_
        clear hf a; intro a hf
        refine O.nil ?_
        replace hS := hS.sub (N := [sl 3 1 v12 ((inn ++ [((((y : Nat) : Int) - 1 + (k : Int)) * (fW : Int)) + (((x : Nat) : Int) - 1 + (l : Int))]).length) (ints (inn ++ [((((y : Nat) : Int) - 1 + (k : Int)) * (fW : Int)) + (((x : Nat) : Int) - 1 + (l : Int))])), pt b_x1 (.cells #[.int .i64 (fW : Int), .int .i64 (fH : Int), vP] 24 (0, 0))]) (.cons _ (.cons_cons _ (.cons_cons _ .slnil)))
        refine k_then ⟨(l + 1, v12, (inn ++ [((((y : Nat) : Int) - 1 + (k : Int)) * (fW : Int)) + (((x : Nat) : Int) - 1 + (l : Int))])), ⟨hf.to ⟨rfl, rfl, rfl, rfl, rfl, (by first | rfl | exact congrArg some (congrArg (Value.int _) (by omega))), rfl, (by first | rfl | exact congrArg some (congrArg (Value.int _) (by omega))), trivial⟩, ?_, ?_, ?_, ?_⟩, ?_⟩
        · exact hS.eqM rfl
        · omega
        · subst h5; rw [Det.nbIn_take (by simp only [Bool.or_false] at hcb; simp only [Det.okNb, hcb]; rfl), List.append_assoc]
        · first | omega | (rw [List.length_append, List.length_singleton]; omega)
        · dsimp only; omega
    · refine W.exit ?_
      refine k_then_exit ?_
      refine k_then_exit ?_
      refine k_blk ?_
      refine k_blk_normal ?_
      refine k_seq ?_
      -- region 5
      refine W.regionL (l := [0, 1, 2]) rfl ?_
      refine O.val hf rfl rfl rfl (RunV.move rfl) ?_
      clear hf a; intro a hf
      refine O.val hf rfl rfl rfl (RunV.addI rfl rfl (by omega)) ?_
      clear hf a; intro a hf
      refine O.val hf rfl rfl rfl (RunV.assign rfl) ?_
      clear hf a; intro a hf
      refine O.nil ?_
      refine k_then ⟨(k + 1, vi, inn), ⟨hf.to ⟨rfl, rfl, rfl, rfl, rfl, (by first | rfl | exact congrArg some (congrArg (Value.int _) (by omega))), (by first | rfl | exact congrArg some (congrArg (Value.int _) (by omega))), trivial⟩, ?_, ?_, ?_, ?_⟩, ?_⟩
      · exact hS.eqM rfl
      · omega
      · subst h5 h2; obtain rfl : l = 3 := by omega
        rfl
      · omega
      · dsimp only; omega
  · refine W.exit ?_
    refine k_then_exit ?_
    refine k_then_exit ?_
    refine k_blk ?_
    refine k_seq ?_
    replace hf : Fr a 87 [] [(6, .slice none 0 0), (9, vo)] := hf.to ⟨rfl, rfl, trivial⟩
    refine W.seq ?_
    -- region 11
    refine W.regionL (l := [0, 1]) rfl ?_
    refine O.val hf rfl rfl rfl (RunV.move rfl) ?_
    clear hf a; intro a hf
    refine O.val hf rfl rfl rfl (RunV.assign rfl) ?_
    clear hf a; intro a hf
    refine O.nil ?_
    refine k_seq ?_
    replace hf : Fr a 87 [] [(6, vo)] := hf.to ⟨rfl, trivial⟩
    refine W.ret ?_
    refine post1 hf rfl (ResOK.tmp rfl) ?_
    subst h2; obtain rfl : k = 3 := by omega
    subst hx hy
    exact ⟨vo, rfl, (hS.sub (List.Sublist.cons_cons _ (List.nil_sublist _))).noB⟩

set_option maxHeartbeats 400000 in
set_option maxRecDepth 4000 in
theorem twin10_spec (fW fH : Int) (vP : Value) (zs : List Int) (w0 : World) (hz : zs.length ≤ 10000) (hP : rdOK (hp w0) 1 vP zs.length (ints zs)) :
    Ret Try.prog 5 #[.agg #[.int .i64 fW, .int .i64 fH, vP]] w0 (G := Value) (fun v => .agg #[.int .i64 fW, .int .i64 fH, v]) (fun v w => St w0 w noX [] [sl 2 1 v zs.length (ints zs)]) := by
  refine ret_of_W (lv := [.agg #[.int .i64 fW, .int .i64 fH, vP]]) Try.func5 rfl rfl rfl (fun a hf => ?_)
  replace hf : Fr a 12 [] [(0, .agg #[.int .i64 fW, .int .i64 fH, vP])] := hf
  have hS : St w0 w0 noX [rdv 1 vP zs.length (ints zs)] [] := (St.refl w0).lend0 hP
  refine W.seq ?_
  -- region 0
  refine W.regionL (l := [0, 1]) rfl ?_
  refine O.box (cs := #[.int .i64 fW, .int .i64 fH, vP]) hf hS rfl rfl rfl rfl ?_
  clear hf hS a; intro b_f1 w a hbb_f1 hS hf
  refine O.alloc (cs := #[.int .i64 0, .int .i64 0, .slice none 0 0]) hf hS rfl rfl T_zero_24 rfl ?_
  clear hf hS a; intro b_x2 w a hbb_x2 hS hf
  refine O.nil ?_
  refine k_seq ?_
  replace hf : Fr a 12 [] [(1, .pointer (some ⟨b_f1, 0, none⟩)), (2, .pointer (some ⟨b_x2, 0, none⟩))] := hf.to ⟨rfl, rfl, trivial⟩
  refine W.seq ?_
  -- region 1, which draws its order: [4, 7, 8, 9] turn memory
  refine W.drawI (γ := (Nat) × (Value)) (L0 := [(1, .pointer (some ⟨b_f1, 0, none⟩)), (2, .pointer (some ⟨b_x2, 0, none⟩))]) (0, default) [4, 7, 8, 9] [0, 1, 2, 3, 5, 6] (fun i => match i with | 0 => [] | 1 => [0] | 2 => [] | 3 => [2] | 4 => [] | 5 => [] | 6 => [5] | 7 => [4, 6] | 8 => [1, 3, 7] | 9 => [0, 1, 2, 3, 4, 5, 6, 7, 8] | _ => []) (fun (g : (Nat) × (Value)) j => match g, j with | ⟨b_s3, v4⟩, 0 => .pointer (some ⟨b_f1, 0, none⟩) | ⟨b_s3, v4⟩, 1 => .int .i64 fW | ⟨b_s3, v4⟩, 2 => .pointer (some ⟨b_f1, 1, none⟩) | ⟨b_s3, v4⟩, 3 => .int .i64 fH | ⟨b_s3, v4⟩, 4 => .slice (some ⟨b_s3, 0, none⟩) 0 0 | ⟨b_s3, v4⟩, 5 => .pointer (some ⟨b_f1, 2, none⟩) | ⟨b_s3, v4⟩, 6 => vP | ⟨b_s3, v4⟩, 7 => v4 | ⟨b_s3, v4⟩, 8 => .agg #[.int .i64 fW, .int .i64 fH, v4] | _, _ => undef) (fun k (g : (Nat) × (Value)) w => match k, g with | 0, ⟨b_s3, v4⟩ => St w0 w noX [rdv 1 vP zs.length (ints zs)] [pt b_x2 (.cells #[.int .i64 0, .int .i64 0, .slice none 0 0] 24 (0, 0)), pt b_f1 (.cells #[.int .i64 fW, .int .i64 fH, vP] 24 (0, 0))] | 1, ⟨b_s3, v4⟩ => St w0 w noX [rdv 1 vP zs.length (ints zs)] [sl 2 1 (.slice (some ⟨b_s3, 0, none⟩) 0 0) (([] : List Int).length) (ints []), pt b_x2 (.cells #[.int .i64 0, .int .i64 0, .slice none 0 0] 24 (0, 0)), pt b_f1 (.cells #[.int .i64 fW, .int .i64 fH, vP] 24 (0, 0))] | 2, ⟨b_s3, v4⟩ => St w0 w noX [rdv 1 vP zs.length (ints zs)] [sl 2 1 v4 zs.length (ints zs), pt b_x2 (.cells #[.int .i64 0, .int .i64 0, .slice none 0 0] 24 (0, 0)), pt b_f1 (.cells #[.int .i64 fW, .int .i64 fH, vP] 24 (0, 0))] | 3, ⟨b_s3, v4⟩ => St w0 w noX [rdv 1 vP zs.length (ints zs)] [sl 2 1 v4 zs.length (ints zs), pt b_x2 (.cells #[.int .i64 0, .int .i64 0, .slice none 0 0] 24 (0, 0)), pt b_f1 (.cells #[.int .i64 fW, .int .i64 fH, vP] 24 (0, 0))] | _, ⟨b_s3, v4⟩ => St w0 w noX [rdv 1 vP zs.length (ints zs)] [sl 2 1 v4 zs.length (ints zs), pt b_x2 (.cells #[.int .i64 fW, .int .i64 fH, v4] 24 (0, 0)), pt b_f1 (.cells #[.int .i64 fW, .int .i64 fH, vP] 24 (0, 0))]) P_mixed (by kernel_rfl) hf hS.drew ?_ ?_ ?_
  · clear hf hS
    refine ⟨?_, ?_, ?_, ?_, ?_, ?_, trivial⟩
    · intro k g w hD a hf
      obtain ⟨b_s3, v4⟩ := g
      rcases k with _ | _ | _ | _ | k
      · have hS : St w0 w noX [rdv 1 vP zs.length (ints zs)] [pt b_x2 (.cells #[.int .i64 0, .int .i64 0, .slice none 0 0] 24 (0, 0)), pt b_f1 (.cells #[.int .i64 fW, .int .i64 fH, vP] 24 (0, 0))] := hD; clear hD
        replace hf : Fr a 12 [] [(1, .pointer (some ⟨b_f1, 0, none⟩)), (2, .pointer (some ⟨b_x2, 0, none⟩))] := hf
        refine O.val hf rfl rfl rfl (RunV.field T_field_24_0 rfl rfl) ?_
        clear hf a; intro a hf
        exact O.nil ⟨rfl, hf.to trivial, (fun d hd => by cases (show some 3 = some d from hd); exact hf.get _ _ rfl), hS⟩
      · have hS : St w0 w noX [rdv 1 vP zs.length (ints zs)] [sl 2 1 (.slice (some ⟨b_s3, 0, none⟩) 0 0) (([] : List Int).length) (ints []), pt b_x2 (.cells #[.int .i64 0, .int .i64 0, .slice none 0 0] 24 (0, 0)), pt b_f1 (.cells #[.int .i64 fW, .int .i64 fH, vP] 24 (0, 0))] := hD; clear hD
        replace hf : Fr a 12 [] [(1, .pointer (some ⟨b_f1, 0, none⟩)), (2, .pointer (some ⟨b_x2, 0, none⟩))] := hf
        refine O.val hf rfl rfl rfl (RunV.field T_field_24_0 rfl rfl) ?_
        clear hf a; intro a hf
        exact O.nil ⟨rfl, hf.to trivial, (fun d hd => by cases (show some 3 = some d from hd); exact hf.get _ _ rfl), hS⟩
      · have hS : St w0 w noX [rdv 1 vP zs.length (ints zs)] [sl 2 1 v4 zs.length (ints zs), pt b_x2 (.cells #[.int .i64 0, .int .i64 0, .slice none 0 0] 24 (0, 0)), pt b_f1 (.cells #[.int .i64 fW, .int .i64 fH, vP] 24 (0, 0))] := hD; clear hD
        replace hf : Fr a 12 [] [(1, .pointer (some ⟨b_f1, 0, none⟩)), (2, .pointer (some ⟨b_x2, 0, none⟩))] := hf
        refine O.val hf rfl rfl rfl (RunV.field T_field_24_0 rfl rfl) ?_
        clear hf a; intro a hf
        exact O.nil ⟨rfl, hf.to trivial, (fun d hd => by cases (show some 3 = some d from hd); exact hf.get _ _ rfl), hS⟩
      · have hS : St w0 w noX [rdv 1 vP zs.length (ints zs)] [sl 2 1 v4 zs.length (ints zs), pt b_x2 (.cells #[.int .i64 0, .int .i64 0, .slice none 0 0] 24 (0, 0)), pt b_f1 (.cells #[.int .i64 fW, .int .i64 fH, vP] 24 (0, 0))] := hD; clear hD
        replace hf : Fr a 12 [] [(1, .pointer (some ⟨b_f1, 0, none⟩)), (2, .pointer (some ⟨b_x2, 0, none⟩))] := hf
        refine O.val hf rfl rfl rfl (RunV.field T_field_24_0 rfl rfl) ?_
        clear hf a; intro a hf
        exact O.nil ⟨rfl, hf.to trivial, (fun d hd => by cases (show some 3 = some d from hd); exact hf.get _ _ rfl), hS⟩
      · have hS : St w0 w noX [rdv 1 vP zs.length (ints zs)] [sl 2 1 v4 zs.length (ints zs), pt b_x2 (.cells #[.int .i64 fW, .int .i64 fH, v4] 24 (0, 0)), pt b_f1 (.cells #[.int .i64 fW, .int .i64 fH, vP] 24 (0, 0))] := hD; clear hD
        replace hf : Fr a 12 [] [(1, .pointer (some ⟨b_f1, 0, none⟩)), (2, .pointer (some ⟨b_x2, 0, none⟩))] := hf
        refine O.val hf rfl rfl rfl (RunV.field T_field_24_0 rfl rfl) ?_
        clear hf a; intro a hf
        exact O.nil ⟨rfl, hf.to trivial, (fun d hd => by cases (show some 3 = some d from hd); exact hf.get _ _ rfl), hS⟩
    · intro k g w hD a hf
      obtain ⟨b_s3, v4⟩ := g
      rcases k with _ | _ | _ | _ | k
      · have hS : St w0 w noX [rdv 1 vP zs.length (ints zs)] [pt b_x2 (.cells #[.int .i64 0, .int .i64 0, .slice none 0 0] 24 (0, 0)), pt b_f1 (.cells #[.int .i64 fW, .int .i64 fH, vP] 24 (0, 0))] := hD; clear hD
        replace hf : Fr a 12 [] [(3, .pointer (some ⟨b_f1, 0, none⟩)), (1, .pointer (some ⟨b_f1, 0, none⟩)), (2, .pointer (some ⟨b_x2, 0, none⟩))] := hf
        refine O.val hf rfl rfl rfl (RunV.load1 T_agg_3 rfl (hS.ptAt (i := 1) rfl) rfl) ?_
        clear hf a; intro a hf
        exact O.nil ⟨rfl, hf.to trivial, (fun d hd => by cases (show some 4 = some d from hd); exact hf.get _ _ rfl), hS⟩
      · have hS : St w0 w noX [rdv 1 vP zs.length (ints zs)] [sl 2 1 (.slice (some ⟨b_s3, 0, none⟩) 0 0) (([] : List Int).length) (ints []), pt b_x2 (.cells #[.int .i64 0, .int .i64 0, .slice none 0 0] 24 (0, 0)), pt b_f1 (.cells #[.int .i64 fW, .int .i64 fH, vP] 24 (0, 0))] := hD; clear hD
        replace hf : Fr a 12 [] [(3, .pointer (some ⟨b_f1, 0, none⟩)), (1, .pointer (some ⟨b_f1, 0, none⟩)), (2, .pointer (some ⟨b_x2, 0, none⟩))] := hf
        refine O.val hf rfl rfl rfl (RunV.load1 T_agg_3 rfl (hS.ptAt (i := 2) rfl) rfl) ?_
        clear hf a; intro a hf
        exact O.nil ⟨rfl, hf.to trivial, (fun d hd => by cases (show some 4 = some d from hd); exact hf.get _ _ rfl), hS⟩
      · have hS : St w0 w noX [rdv 1 vP zs.length (ints zs)] [sl 2 1 v4 zs.length (ints zs), pt b_x2 (.cells #[.int .i64 0, .int .i64 0, .slice none 0 0] 24 (0, 0)), pt b_f1 (.cells #[.int .i64 fW, .int .i64 fH, vP] 24 (0, 0))] := hD; clear hD
        replace hf : Fr a 12 [] [(3, .pointer (some ⟨b_f1, 0, none⟩)), (1, .pointer (some ⟨b_f1, 0, none⟩)), (2, .pointer (some ⟨b_x2, 0, none⟩))] := hf
        refine O.val hf rfl rfl rfl (RunV.load1 T_agg_3 rfl (hS.ptAt (i := 2) rfl) rfl) ?_
        clear hf a; intro a hf
        exact O.nil ⟨rfl, hf.to trivial, (fun d hd => by cases (show some 4 = some d from hd); exact hf.get _ _ rfl), hS⟩
      · have hS : St w0 w noX [rdv 1 vP zs.length (ints zs)] [sl 2 1 v4 zs.length (ints zs), pt b_x2 (.cells #[.int .i64 0, .int .i64 0, .slice none 0 0] 24 (0, 0)), pt b_f1 (.cells #[.int .i64 fW, .int .i64 fH, vP] 24 (0, 0))] := hD; clear hD
        replace hf : Fr a 12 [] [(3, .pointer (some ⟨b_f1, 0, none⟩)), (1, .pointer (some ⟨b_f1, 0, none⟩)), (2, .pointer (some ⟨b_x2, 0, none⟩))] := hf
        refine O.val hf rfl rfl rfl (RunV.load1 T_agg_3 rfl (hS.ptAt (i := 2) rfl) rfl) ?_
        clear hf a; intro a hf
        exact O.nil ⟨rfl, hf.to trivial, (fun d hd => by cases (show some 4 = some d from hd); exact hf.get _ _ rfl), hS⟩
      · have hS : St w0 w noX [rdv 1 vP zs.length (ints zs)] [sl 2 1 v4 zs.length (ints zs), pt b_x2 (.cells #[.int .i64 fW, .int .i64 fH, v4] 24 (0, 0)), pt b_f1 (.cells #[.int .i64 fW, .int .i64 fH, vP] 24 (0, 0))] := hD; clear hD
        replace hf : Fr a 12 [] [(3, .pointer (some ⟨b_f1, 0, none⟩)), (1, .pointer (some ⟨b_f1, 0, none⟩)), (2, .pointer (some ⟨b_x2, 0, none⟩))] := hf
        refine O.val hf rfl rfl rfl (RunV.load1 T_agg_3 rfl (hS.ptAt (i := 2) rfl) rfl) ?_
        clear hf a; intro a hf
        exact O.nil ⟨rfl, hf.to trivial, (fun d hd => by cases (show some 4 = some d from hd); exact hf.get _ _ rfl), hS⟩
    · intro k g w hD a hf
      obtain ⟨b_s3, v4⟩ := g
      rcases k with _ | _ | _ | _ | k
      · have hS : St w0 w noX [rdv 1 vP zs.length (ints zs)] [pt b_x2 (.cells #[.int .i64 0, .int .i64 0, .slice none 0 0] 24 (0, 0)), pt b_f1 (.cells #[.int .i64 fW, .int .i64 fH, vP] 24 (0, 0))] := hD; clear hD
        replace hf : Fr a 12 [] [(1, .pointer (some ⟨b_f1, 0, none⟩)), (2, .pointer (some ⟨b_x2, 0, none⟩))] := hf
        refine O.val hf rfl rfl rfl (RunV.field T_field_24_1 rfl rfl) ?_
        clear hf a; intro a hf
        exact O.nil ⟨rfl, hf.to trivial, (fun d hd => by cases (show some 5 = some d from hd); exact hf.get _ _ rfl), hS⟩
      · have hS : St w0 w noX [rdv 1 vP zs.length (ints zs)] [sl 2 1 (.slice (some ⟨b_s3, 0, none⟩) 0 0) (([] : List Int).length) (ints []), pt b_x2 (.cells #[.int .i64 0, .int .i64 0, .slice none 0 0] 24 (0, 0)), pt b_f1 (.cells #[.int .i64 fW, .int .i64 fH, vP] 24 (0, 0))] := hD; clear hD
        replace hf : Fr a 12 [] [(1, .pointer (some ⟨b_f1, 0, none⟩)), (2, .pointer (some ⟨b_x2, 0, none⟩))] := hf
        refine O.val hf rfl rfl rfl (RunV.field T_field_24_1 rfl rfl) ?_
        clear hf a; intro a hf
        exact O.nil ⟨rfl, hf.to trivial, (fun d hd => by cases (show some 5 = some d from hd); exact hf.get _ _ rfl), hS⟩
      · have hS : St w0 w noX [rdv 1 vP zs.length (ints zs)] [sl 2 1 v4 zs.length (ints zs), pt b_x2 (.cells #[.int .i64 0, .int .i64 0, .slice none 0 0] 24 (0, 0)), pt b_f1 (.cells #[.int .i64 fW, .int .i64 fH, vP] 24 (0, 0))] := hD; clear hD
        replace hf : Fr a 12 [] [(1, .pointer (some ⟨b_f1, 0, none⟩)), (2, .pointer (some ⟨b_x2, 0, none⟩))] := hf
        refine O.val hf rfl rfl rfl (RunV.field T_field_24_1 rfl rfl) ?_
        clear hf a; intro a hf
        exact O.nil ⟨rfl, hf.to trivial, (fun d hd => by cases (show some 5 = some d from hd); exact hf.get _ _ rfl), hS⟩
      · have hS : St w0 w noX [rdv 1 vP zs.length (ints zs)] [sl 2 1 v4 zs.length (ints zs), pt b_x2 (.cells #[.int .i64 0, .int .i64 0, .slice none 0 0] 24 (0, 0)), pt b_f1 (.cells #[.int .i64 fW, .int .i64 fH, vP] 24 (0, 0))] := hD; clear hD
        replace hf : Fr a 12 [] [(1, .pointer (some ⟨b_f1, 0, none⟩)), (2, .pointer (some ⟨b_x2, 0, none⟩))] := hf
        refine O.val hf rfl rfl rfl (RunV.field T_field_24_1 rfl rfl) ?_
        clear hf a; intro a hf
        exact O.nil ⟨rfl, hf.to trivial, (fun d hd => by cases (show some 5 = some d from hd); exact hf.get _ _ rfl), hS⟩
      · have hS : St w0 w noX [rdv 1 vP zs.length (ints zs)] [sl 2 1 v4 zs.length (ints zs), pt b_x2 (.cells #[.int .i64 fW, .int .i64 fH, v4] 24 (0, 0)), pt b_f1 (.cells #[.int .i64 fW, .int .i64 fH, vP] 24 (0, 0))] := hD; clear hD
        replace hf : Fr a 12 [] [(1, .pointer (some ⟨b_f1, 0, none⟩)), (2, .pointer (some ⟨b_x2, 0, none⟩))] := hf
        refine O.val hf rfl rfl rfl (RunV.field T_field_24_1 rfl rfl) ?_
        clear hf a; intro a hf
        exact O.nil ⟨rfl, hf.to trivial, (fun d hd => by cases (show some 5 = some d from hd); exact hf.get _ _ rfl), hS⟩
    · intro k g w hD a hf
      obtain ⟨b_s3, v4⟩ := g
      rcases k with _ | _ | _ | _ | k
      · have hS : St w0 w noX [rdv 1 vP zs.length (ints zs)] [pt b_x2 (.cells #[.int .i64 0, .int .i64 0, .slice none 0 0] 24 (0, 0)), pt b_f1 (.cells #[.int .i64 fW, .int .i64 fH, vP] 24 (0, 0))] := hD; clear hD
        replace hf : Fr a 12 [] [(5, .pointer (some ⟨b_f1, 1, none⟩)), (1, .pointer (some ⟨b_f1, 0, none⟩)), (2, .pointer (some ⟨b_x2, 0, none⟩))] := hf
        refine O.val hf rfl rfl rfl (RunV.load1 T_agg_3 rfl (hS.ptAt (i := 1) rfl) rfl) ?_
        clear hf a; intro a hf
        exact O.nil ⟨rfl, hf.to trivial, (fun d hd => by cases (show some 6 = some d from hd); exact hf.get _ _ rfl), hS⟩
      · have hS : St w0 w noX [rdv 1 vP zs.length (ints zs)] [sl 2 1 (.slice (some ⟨b_s3, 0, none⟩) 0 0) (([] : List Int).length) (ints []), pt b_x2 (.cells #[.int .i64 0, .int .i64 0, .slice none 0 0] 24 (0, 0)), pt b_f1 (.cells #[.int .i64 fW, .int .i64 fH, vP] 24 (0, 0))] := hD; clear hD
        replace hf : Fr a 12 [] [(5, .pointer (some ⟨b_f1, 1, none⟩)), (1, .pointer (some ⟨b_f1, 0, none⟩)), (2, .pointer (some ⟨b_x2, 0, none⟩))] := hf
        refine O.val hf rfl rfl rfl (RunV.load1 T_agg_3 rfl (hS.ptAt (i := 2) rfl) rfl) ?_
        clear hf a; intro a hf
        exact O.nil ⟨rfl, hf.to trivial, (fun d hd => by cases (show some 6 = some d from hd); exact hf.get _ _ rfl), hS⟩
      · have hS : St w0 w noX [rdv 1 vP zs.length (ints zs)] [sl 2 1 v4 zs.length (ints zs), pt b_x2 (.cells #[.int .i64 0, .int .i64 0, .slice none 0 0] 24 (0, 0)), pt b_f1 (.cells #[.int .i64 fW, .int .i64 fH, vP] 24 (0, 0))] := hD; clear hD
        replace hf : Fr a 12 [] [(5, .pointer (some ⟨b_f1, 1, none⟩)), (1, .pointer (some ⟨b_f1, 0, none⟩)), (2, .pointer (some ⟨b_x2, 0, none⟩))] := hf
        refine O.val hf rfl rfl rfl (RunV.load1 T_agg_3 rfl (hS.ptAt (i := 2) rfl) rfl) ?_
        clear hf a; intro a hf
        exact O.nil ⟨rfl, hf.to trivial, (fun d hd => by cases (show some 6 = some d from hd); exact hf.get _ _ rfl), hS⟩
      · have hS : St w0 w noX [rdv 1 vP zs.length (ints zs)] [sl 2 1 v4 zs.length (ints zs), pt b_x2 (.cells #[.int .i64 0, .int .i64 0, .slice none 0 0] 24 (0, 0)), pt b_f1 (.cells #[.int .i64 fW, .int .i64 fH, vP] 24 (0, 0))] := hD; clear hD
        replace hf : Fr a 12 [] [(5, .pointer (some ⟨b_f1, 1, none⟩)), (1, .pointer (some ⟨b_f1, 0, none⟩)), (2, .pointer (some ⟨b_x2, 0, none⟩))] := hf
        refine O.val hf rfl rfl rfl (RunV.load1 T_agg_3 rfl (hS.ptAt (i := 2) rfl) rfl) ?_
        clear hf a; intro a hf
        exact O.nil ⟨rfl, hf.to trivial, (fun d hd => by cases (show some 6 = some d from hd); exact hf.get _ _ rfl), hS⟩
      · have hS : St w0 w noX [rdv 1 vP zs.length (ints zs)] [sl 2 1 v4 zs.length (ints zs), pt b_x2 (.cells #[.int .i64 fW, .int .i64 fH, v4] 24 (0, 0)), pt b_f1 (.cells #[.int .i64 fW, .int .i64 fH, vP] 24 (0, 0))] := hD; clear hD
        replace hf : Fr a 12 [] [(5, .pointer (some ⟨b_f1, 1, none⟩)), (1, .pointer (some ⟨b_f1, 0, none⟩)), (2, .pointer (some ⟨b_x2, 0, none⟩))] := hf
        refine O.val hf rfl rfl rfl (RunV.load1 T_agg_3 rfl (hS.ptAt (i := 2) rfl) rfl) ?_
        clear hf a; intro a hf
        exact O.nil ⟨rfl, hf.to trivial, (fun d hd => by cases (show some 6 = some d from hd); exact hf.get _ _ rfl), hS⟩
    · intro k g w hD a hf
      obtain ⟨b_s3, v4⟩ := g
      rcases k with _ | _ | _ | _ | k
      · have hS : St w0 w noX [rdv 1 vP zs.length (ints zs)] [pt b_x2 (.cells #[.int .i64 0, .int .i64 0, .slice none 0 0] 24 (0, 0)), pt b_f1 (.cells #[.int .i64 fW, .int .i64 fH, vP] 24 (0, 0))] := hD; clear hD
        replace hf : Fr a 12 [] [(1, .pointer (some ⟨b_f1, 0, none⟩)), (2, .pointer (some ⟨b_x2, 0, none⟩))] := hf
        refine O.val hf rfl rfl rfl (RunV.field T_field_24_2 rfl rfl) ?_
        clear hf a; intro a hf
        exact O.nil ⟨rfl, hf.to trivial, (fun d hd => by cases (show some 8 = some d from hd); exact hf.get _ _ rfl), hS⟩
      · have hS : St w0 w noX [rdv 1 vP zs.length (ints zs)] [sl 2 1 (.slice (some ⟨b_s3, 0, none⟩) 0 0) (([] : List Int).length) (ints []), pt b_x2 (.cells #[.int .i64 0, .int .i64 0, .slice none 0 0] 24 (0, 0)), pt b_f1 (.cells #[.int .i64 fW, .int .i64 fH, vP] 24 (0, 0))] := hD; clear hD
        replace hf : Fr a 12 [] [(1, .pointer (some ⟨b_f1, 0, none⟩)), (2, .pointer (some ⟨b_x2, 0, none⟩))] := hf
        refine O.val hf rfl rfl rfl (RunV.field T_field_24_2 rfl rfl) ?_
        clear hf a; intro a hf
        exact O.nil ⟨rfl, hf.to trivial, (fun d hd => by cases (show some 8 = some d from hd); exact hf.get _ _ rfl), hS⟩
      · have hS : St w0 w noX [rdv 1 vP zs.length (ints zs)] [sl 2 1 v4 zs.length (ints zs), pt b_x2 (.cells #[.int .i64 0, .int .i64 0, .slice none 0 0] 24 (0, 0)), pt b_f1 (.cells #[.int .i64 fW, .int .i64 fH, vP] 24 (0, 0))] := hD; clear hD
        replace hf : Fr a 12 [] [(1, .pointer (some ⟨b_f1, 0, none⟩)), (2, .pointer (some ⟨b_x2, 0, none⟩))] := hf
        refine O.val hf rfl rfl rfl (RunV.field T_field_24_2 rfl rfl) ?_
        clear hf a; intro a hf
        exact O.nil ⟨rfl, hf.to trivial, (fun d hd => by cases (show some 8 = some d from hd); exact hf.get _ _ rfl), hS⟩
      · have hS : St w0 w noX [rdv 1 vP zs.length (ints zs)] [sl 2 1 v4 zs.length (ints zs), pt b_x2 (.cells #[.int .i64 0, .int .i64 0, .slice none 0 0] 24 (0, 0)), pt b_f1 (.cells #[.int .i64 fW, .int .i64 fH, vP] 24 (0, 0))] := hD; clear hD
        replace hf : Fr a 12 [] [(1, .pointer (some ⟨b_f1, 0, none⟩)), (2, .pointer (some ⟨b_x2, 0, none⟩))] := hf
        refine O.val hf rfl rfl rfl (RunV.field T_field_24_2 rfl rfl) ?_
        clear hf a; intro a hf
        exact O.nil ⟨rfl, hf.to trivial, (fun d hd => by cases (show some 8 = some d from hd); exact hf.get _ _ rfl), hS⟩
      · have hS : St w0 w noX [rdv 1 vP zs.length (ints zs)] [sl 2 1 v4 zs.length (ints zs), pt b_x2 (.cells #[.int .i64 fW, .int .i64 fH, v4] 24 (0, 0)), pt b_f1 (.cells #[.int .i64 fW, .int .i64 fH, vP] 24 (0, 0))] := hD; clear hD
        replace hf : Fr a 12 [] [(1, .pointer (some ⟨b_f1, 0, none⟩)), (2, .pointer (some ⟨b_x2, 0, none⟩))] := hf
        refine O.val hf rfl rfl rfl (RunV.field T_field_24_2 rfl rfl) ?_
        clear hf a; intro a hf
        exact O.nil ⟨rfl, hf.to trivial, (fun d hd => by cases (show some 8 = some d from hd); exact hf.get _ _ rfl), hS⟩
    · intro k g w hD a hf
      obtain ⟨b_s3, v4⟩ := g
      rcases k with _ | _ | _ | _ | k
      · have hS : St w0 w noX [rdv 1 vP zs.length (ints zs)] [pt b_x2 (.cells #[.int .i64 0, .int .i64 0, .slice none 0 0] 24 (0, 0)), pt b_f1 (.cells #[.int .i64 fW, .int .i64 fH, vP] 24 (0, 0))] := hD; clear hD
        replace hf : Fr a 12 [] [(8, .pointer (some ⟨b_f1, 2, none⟩)), (1, .pointer (some ⟨b_f1, 0, none⟩)), (2, .pointer (some ⟨b_x2, 0, none⟩))] := hf
        refine O.val hf rfl rfl rfl (RunV.load1 T_agg_22 rfl (hS.ptAt (i := 1) rfl) rfl) ?_
        clear hf a; intro a hf
        exact O.nil ⟨rfl, hf.to trivial, (fun d hd => by cases (show some 9 = some d from hd); exact hf.get _ _ rfl), hS⟩
      · have hS : St w0 w noX [rdv 1 vP zs.length (ints zs)] [sl 2 1 (.slice (some ⟨b_s3, 0, none⟩) 0 0) (([] : List Int).length) (ints []), pt b_x2 (.cells #[.int .i64 0, .int .i64 0, .slice none 0 0] 24 (0, 0)), pt b_f1 (.cells #[.int .i64 fW, .int .i64 fH, vP] 24 (0, 0))] := hD; clear hD
        replace hf : Fr a 12 [] [(8, .pointer (some ⟨b_f1, 2, none⟩)), (1, .pointer (some ⟨b_f1, 0, none⟩)), (2, .pointer (some ⟨b_x2, 0, none⟩))] := hf
        refine O.val hf rfl rfl rfl (RunV.load1 T_agg_22 rfl (hS.ptAt (i := 2) rfl) rfl) ?_
        clear hf a; intro a hf
        exact O.nil ⟨rfl, hf.to trivial, (fun d hd => by cases (show some 9 = some d from hd); exact hf.get _ _ rfl), hS⟩
      · have hS : St w0 w noX [rdv 1 vP zs.length (ints zs)] [sl 2 1 v4 zs.length (ints zs), pt b_x2 (.cells #[.int .i64 0, .int .i64 0, .slice none 0 0] 24 (0, 0)), pt b_f1 (.cells #[.int .i64 fW, .int .i64 fH, vP] 24 (0, 0))] := hD; clear hD
        replace hf : Fr a 12 [] [(8, .pointer (some ⟨b_f1, 2, none⟩)), (1, .pointer (some ⟨b_f1, 0, none⟩)), (2, .pointer (some ⟨b_x2, 0, none⟩))] := hf
        refine O.val hf rfl rfl rfl (RunV.load1 T_agg_22 rfl (hS.ptAt (i := 2) rfl) rfl) ?_
        clear hf a; intro a hf
        exact O.nil ⟨rfl, hf.to trivial, (fun d hd => by cases (show some 9 = some d from hd); exact hf.get _ _ rfl), hS⟩
      · have hS : St w0 w noX [rdv 1 vP zs.length (ints zs)] [sl 2 1 v4 zs.length (ints zs), pt b_x2 (.cells #[.int .i64 0, .int .i64 0, .slice none 0 0] 24 (0, 0)), pt b_f1 (.cells #[.int .i64 fW, .int .i64 fH, vP] 24 (0, 0))] := hD; clear hD
        replace hf : Fr a 12 [] [(8, .pointer (some ⟨b_f1, 2, none⟩)), (1, .pointer (some ⟨b_f1, 0, none⟩)), (2, .pointer (some ⟨b_x2, 0, none⟩))] := hf
        refine O.val hf rfl rfl rfl (RunV.load1 T_agg_22 rfl (hS.ptAt (i := 2) rfl) rfl) ?_
        clear hf a; intro a hf
        exact O.nil ⟨rfl, hf.to trivial, (fun d hd => by cases (show some 9 = some d from hd); exact hf.get _ _ rfl), hS⟩
      · have hS : St w0 w noX [rdv 1 vP zs.length (ints zs)] [sl 2 1 v4 zs.length (ints zs), pt b_x2 (.cells #[.int .i64 fW, .int .i64 fH, v4] 24 (0, 0)), pt b_f1 (.cells #[.int .i64 fW, .int .i64 fH, vP] 24 (0, 0))] := hD; clear hD
        replace hf : Fr a 12 [] [(8, .pointer (some ⟨b_f1, 2, none⟩)), (1, .pointer (some ⟨b_f1, 0, none⟩)), (2, .pointer (some ⟨b_x2, 0, none⟩))] := hf
        refine O.val hf rfl rfl rfl (RunV.load1 T_agg_22 rfl (hS.ptAt (i := 2) rfl) rfl) ?_
        clear hf a; intro a hf
        exact O.nil ⟨rfl, hf.to trivial, (fun d hd => by cases (show some 9 = some d from hd); exact hf.get _ _ rfl), hS⟩
  · clear hf hS
    refine ⟨?_, ?_, ?_, ?_, trivial⟩
    · intro g w hD a hf
      obtain ⟨b_s3, v4⟩ := g
      have hS : St w0 w noX [rdv 1 vP zs.length (ints zs)] [pt b_x2 (.cells #[.int .i64 0, .int .i64 0, .slice none 0 0] 24 (0, 0)), pt b_f1 (.cells #[.int .i64 fW, .int .i64 fH, vP] 24 (0, 0))] := hD; clear hD
      replace hf : Fr a 12 [] [(1, .pointer (some ⟨b_f1, 0, none⟩)), (2, .pointer (some ⟨b_x2, 0, none⟩))] := hf
      refine O.buildSlice0 hf hS rfl rfl T_elem_22 T_size_2 rfl ?_
      clear hf hS a; intro b_s7 w a hbb_s7 hS hf
      replace hS : St w0 w noX [rdv 1 vP zs.length (ints zs)] [sl 2 1 (.slice (some ⟨b_s7, 0, none⟩) 0 0) (([] : List Int).length) (ints []), pt b_x2 (.cells #[.int .i64 0, .int .i64 0, .slice none 0 0] 24 (0, 0)), pt b_f1 (.cells #[.int .i64 fW, .int .i64 fH, vP] 24 (0, 0))] := hS
      exact O.nil ⟨rfl, (b_s7, v4), hf.to trivial, (fun d hd => by cases (show some 7 = some d from hd); exact hf.get _ _ rfl), (fun j hj => match j, hj with | 0, hj => rfl | 1, hj => rfl | 2, hj => rfl | 3, hj => rfl | 4, hj => absurd hj (by decide) | 5, hj => rfl | 6, hj => rfl | 7, hj => absurd hj (by decide) | 8, hj => absurd hj (by decide) | 9, hj => absurd hj (by decide) | _ + 10, _ => rfl), hS⟩
    · intro g w hD a hf
      obtain ⟨b_s3, v4⟩ := g
      have hS : St w0 w noX [rdv 1 vP zs.length (ints zs)] [sl 2 1 (.slice (some ⟨b_s3, 0, none⟩) 0 0) (([] : List Int).length) (ints []), pt b_x2 (.cells #[.int .i64 0, .int .i64 0, .slice none 0 0] 24 (0, 0)), pt b_f1 (.cells #[.int .i64 fW, .int .i64 fH, vP] 24 (0, 0))] := hD; clear hD
      replace hf : Fr a 12 [] [(7, .slice (some ⟨b_s3, 0, none⟩) 0 0), (9, vP), (1, .pointer (some ⟨b_f1, 0, none⟩)), (2, .pointer (some ⟨b_x2, 0, none⟩))] := hf
      refine O.appendV (j := 0) hf hS rfl rfl T_elem_22 T_size_2 T_bytes_2 T_zero_2 rfl rfl rfl rfl rfl (hS.rdAt (j := 0) rfl) (oneCells_ints _) (by unfold maxLen; simp only [List.length_nil]; omega) (by simp only [List.length_nil]; omega) ?_
      clear hf hS a; intro v8 w a hS hf
      replace hS := hS.eqM (N := [sl 2 1 v8 (([] : List Int).length + zs.length) (ints [] ++ ints zs), pt b_x2 (.cells #[.int .i64 0, .int .i64 0, .slice none 0 0] 24 (0, 0)), pt b_f1 (.cells #[.int .i64 fW, .int .i64 fH, vP] 24 (0, 0))]) rfl
      replace hS := hS.eqM (N := [sl 2 1 v8 zs.length (ints zs), pt b_x2 (.cells #[.int .i64 0, .int .i64 0, .slice none 0 0] 24 (0, 0)), pt b_f1 (.cells #[.int .i64 fW, .int .i64 fH, vP] 24 (0, 0))]) (by simp only [ints_app, List.length_append, List.length_nil, Nat.zero_add, List.nil_append, ints, List.map_nil])
      exact O.nil ⟨rfl, (b_s3, v8), hf.to trivial, (fun d hd => by cases (show some 10 = some d from hd); exact hf.get _ _ rfl), (fun j hj => match j, hj with | 0, hj => rfl | 1, hj => rfl | 2, hj => rfl | 3, hj => rfl | 4, hj => rfl | 5, hj => rfl | 6, hj => rfl | 7, hj => absurd hj (by decide) | 8, hj => absurd hj (by decide) | 9, hj => absurd hj (by decide) | _ + 10, _ => rfl), hS⟩
    · intro g w hD a hf
      obtain ⟨b_s3, v4⟩ := g
      have hS : St w0 w noX [rdv 1 vP zs.length (ints zs)] [sl 2 1 v4 zs.length (ints zs), pt b_x2 (.cells #[.int .i64 0, .int .i64 0, .slice none 0 0] 24 (0, 0)), pt b_f1 (.cells #[.int .i64 fW, .int .i64 fH, vP] 24 (0, 0))] := hD; clear hD
      replace hf : Fr a 12 [] [(4, .int .i64 fW), (6, .int .i64 fH), (10, v4), (1, .pointer (some ⟨b_f1, 0, none⟩)), (2, .pointer (some ⟨b_x2, 0, none⟩))] := hf
      have hcl9 := rdOK.cells (hS.slr (j := 0) rfl)
      refine O.val hf rfl rfl rfl (RunV.buildS (cs' := #[.int .i64 fW, .int .i64 fH, v4]) T_places_24 T_zero_24 rfl (by simp only [Instr.fill, hcl9.1]; rfl)) ?_
      clear hf a; intro a hf
      exact O.nil ⟨rfl, (b_s3, v4), hf.to trivial, (fun d hd => by cases (show some 11 = some d from hd); exact hf.get _ _ rfl), (fun j hj => match j, hj with | 0, hj => rfl | 1, hj => rfl | 2, hj => rfl | 3, hj => rfl | 4, hj => rfl | 5, hj => rfl | 6, hj => rfl | 7, hj => rfl | 8, hj => absurd hj (by decide) | 9, hj => absurd hj (by decide) | _ + 10, _ => rfl), hS⟩
    · intro g w hD a hf
      obtain ⟨b_s3, v4⟩ := g
      have hS : St w0 w noX [rdv 1 vP zs.length (ints zs)] [sl 2 1 v4 zs.length (ints zs), pt b_x2 (.cells #[.int .i64 0, .int .i64 0, .slice none 0 0] 24 (0, 0)), pt b_f1 (.cells #[.int .i64 fW, .int .i64 fH, vP] 24 (0, 0))] := hD; clear hD
      replace hf : Fr a 12 [] [(3, .pointer (some ⟨b_f1, 0, none⟩)), (4, .int .i64 fW), (5, .pointer (some ⟨b_f1, 1, none⟩)), (6, .int .i64 fH), (7, .slice (some ⟨b_s3, 0, none⟩) 0 0), (8, .pointer (some ⟨b_f1, 2, none⟩)), (9, vP), (10, v4), (11, .agg #[.int .i64 fW, .int .i64 fH, v4]), (1, .pointer (some ⟨b_f1, 0, none⟩)), (2, .pointer (some ⟨b_x2, 0, none⟩))] := hf
      have hcl10 := rdOK.cells (hS.slr (j := 0) rfl)
      refine O.store (j := 1) (cs' := #[.int .i64 fW, .int .i64 fH, v4]) (M' := [sl 2 1 v4 zs.length (ints zs), pt b_x2 (.cells #[.int .i64 fW, .int .i64 fH, v4] 24 (0, 0)), pt b_f1 (.cells #[.int .i64 fW, .int .i64 fH, vP] 24 (0, 0))]) hf hS rfl rfl rfl T_size_24 rfl (oneCells_cc rfl (oneCells_cc rfl (oneCells_cc hcl10.2 rfl))) rfl (Nat.le_of_ble_eq_true rfl) rfl rfl ?_
      clear hS; intro w hS
      exact O.nil ⟨rfl, (b_s3, v4), hf.to trivial, (fun d hd => by cases (show none = some d from hd)), (fun j hj => match j, hj with | 0, hj => rfl | 1, hj => rfl | 2, hj => rfl | 3, hj => rfl | 4, hj => rfl | 5, hj => rfl | 6, hj => rfl | 7, hj => rfl | 8, hj => rfl | 9, hj => absurd hj (by decide) | _ + 10, _ => rfl), hS⟩
  clear hf hS; intro g a w hf hD
  obtain ⟨b_s3, v4⟩ := g
  have hS : St w0 w noX [rdv 1 vP zs.length (ints zs)] [sl 2 1 v4 zs.length (ints zs), pt b_x2 (.cells #[.int .i64 fW, .int .i64 fH, v4] 24 (0, 0)), pt b_f1 (.cells #[.int .i64 fW, .int .i64 fH, vP] 24 (0, 0))] := hD; clear hD
  replace hf : Fr a 12 [] [(3, .pointer (some ⟨b_f1, 0, none⟩)), (4, .int .i64 fW), (5, .pointer (some ⟨b_f1, 1, none⟩)), (6, .int .i64 fH), (7, .slice (some ⟨b_s3, 0, none⟩) 0 0), (8, .pointer (some ⟨b_f1, 2, none⟩)), (9, vP), (10, v4), (11, .agg #[.int .i64 fW, .int .i64 fH, v4]), (1, .pointer (some ⟨b_f1, 0, none⟩)), (2, .pointer (some ⟨b_x2, 0, none⟩))] := hf
  refine k_seq ?_
  replace hf : Fr a 12 [] [(2, .pointer (some ⟨b_x2, 0, none⟩))] := hf.to ⟨rfl, trivial⟩
  refine W.ret ?_
  refine post1 hf rfl (ResOK.cellN (cs' := #[.int .i64 fW, .int .i64 fH, v4]) rfl T_agg_24 T_size_24 (hS.ptAt (i := 1) rfl) (Nat.le_of_ble_eq_true rfl) rfl) ?_
  exact ⟨v4, rfl, (hS.sub (List.Sublist.cons_cons _ (List.nil_sublist _))).noB⟩

set_option maxHeartbeats 400000 in
set_option maxRecDepth 4000 in
theorem max_spec (vX : Value) (l : List Int) (w0 : World) (hne : 0 < l.length) (hX : rdOK (hp w0) 1 vX l.length (ints l)) :
    Ret Try.prog 15 #[vX] w0 (G := Unit) (fun _ => .int .i64 (Det.maxL l)) (fun _ w => St w0 w noX [] []) := by
  refine ret_of_W (lv := [vX]) Try.func15 rfl rfl rfl (fun a hf => ?_)
  replace hf : Fr a 25 [] [(0, vX)] := hf
  have hS : St w0 w0 noX [rdv 1 vX l.length (ints l)] [] := (St.refl w0).lend0 hX
  have hlen := hX.2.1
  unfold maxLen at hlen
  refine W.seq ?_
  -- region 0
  refine W.regionL (l := [0]) rfl ?_
  refine O.val hf rfl rfl rfl (RunV.assign rfl) ?_
  clear hf a; intro a hf
  refine O.nil ?_
  refine k_seq ?_
  refine W.seq ?_
  refine W.seq ?_
  -- region 1
  refine W.regionL (l := [0, 1, 2]) rfl ?_
  refine O.val hf rfl rfl rfl (RunV.move rfl) ?_
  clear hf a; intro a hf
  refine O.val hf rfl rfl rfl (RunV.lenV (e := 2) (by simpa using T_elem_22) rfl (hS.rdAt (j := 0) rfl)) ?_
  clear hf a; intro a hf
  refine O.val (v := .bool (decide ((l.length : Int) < (1 : Int)))) hf rfl rfl rfl (RunV.lss rfl rfl) ?_
  clear hf a; intro a hf
  refine O.nil ?_
  refine k_seq ?_
  replace hf : Fr a 25 [] [(0, vX), (2, .int .i64 0), (7, .bool (decide ((l.length : Int) < (1 : Int))))] := hf.to ⟨rfl, rfl, rfl, trivial⟩
  refine W.ifdI hf rfl (fun hemp => ?_) (fun hemp => ?_)
  · exfalso; omega
  · refine W.skip ?_
    refine k_seq ?_
    refine W.seq ?_
    -- region 3
    refine W.regionL (l := [0, 1, 2, 3]) rfl ?_
    refine O.val hf rfl rfl rfl (RunV.move rfl) ?_
    clear hf a; intro a hf
    refine O.val hf rfl rfl rfl (RunV.ixV (j := 0) (m := 0) T_elem_22 T_size_2 rfl rfl (hS.rdAt (j := 0) rfl) rfl (by omega) (Nat.mul_one _)) ?_
    clear hf a; intro a hf
    refine O.val hf rfl rfl rfl (RunV.ld1 T_agg_2 rfl (hS.rdAt (j := 0) rfl) (ints_get (by omega))) ?_
    clear hf a; intro a hf
    refine O.val hf rfl rfl rfl (RunV.assign rfl) ?_
    clear hf a; intro a hf
    refine O.nil ?_
    refine k_seq ?_
    replace hf : Fr a 25 [] [(0, vX), (2, .int .i64 0), (3, .int .i64 (l.getD 0 0))] := hf.to ⟨rfl, rfl, rfl, trivial⟩
    refine W.seq ?_
    refine W.seq ?_
    -- region 4
    refine W.regionL (l := [0]) rfl ?_
    refine O.val hf rfl rfl rfl (RunV.assign rfl) ?_
    clear hf a; intro a hf
    refine O.nil ?_
    refine k_seq ?_
    refine W.block ?_
    -- loop 0
    refine W.loop (G := (Nat) × (Int)) (fun g a w => match g with | (k, m) => Fr a 25 [] [(0, vX), (2, .int .i64 0), (3, .int .i64 m), (4, .int .i64 (k : Int))] ∧ St w0 w noX [rdv 1 vX l.length (ints l)] [] ∧ (1 ≤ k) ∧ (k ≤ l.length) ∧ (∀ j, j < k → l.getD j 0 ≤ m) ∧ (∃ j, j < l.length ∧ l.getD j 0 = m)) (fun g => match g with | (k, m) => l.length - k) (1, l.getD 0 0) ?_ ?_
    · refine ⟨hf.to ⟨rfl, rfl, (by first | rfl | exact congrArg some (congrArg (Value.int _) (by omega))), (by first | rfl | exact congrArg some (congrArg (Value.int _) (by omega))), trivial⟩, hS, ?_, ?_, ?_, ?_⟩
      · omega
      · omega
      · intro j hj; obtain rfl : j = 0 := by omega
        omega
      · exact ⟨0, by omega, rfl⟩
    clear hf hS a
    rintro ⟨k, m⟩ a w ⟨hf, hS, h0, h1, h2, h3⟩
    refine W.seq ?_
    refine W.seq ?_
    -- region 5
    refine W.regionL (l := [0, 1, 2, 3]) rfl ?_
    refine O.val hf rfl rfl rfl (RunV.move rfl) ?_
    clear hf a; intro a hf
    refine O.val hf rfl rfl rfl (RunV.move rfl) ?_
    clear hf a; intro a hf
    refine O.val hf rfl rfl rfl (RunV.lenV (e := 2) (by simpa using T_elem_22) rfl (hS.rdAt (j := 0) rfl)) ?_
    clear hf a; intro a hf
    refine O.val (v := .bool (decide ((k : Int) < ((l.length : Int) : Int)))) hf rfl rfl rfl (RunV.lss rfl rfl) ?_
    clear hf a; intro a hf
    refine O.nil ?_
    refine k_seq ?_
    replace hf : Fr a 25 [] [(0, vX), (2, .int .i64 0), (3, .int .i64 m), (4, .int .i64 (k : Int)), (15, .bool (decide ((k : Int) < ((l.length : Int) : Int))))] := hf.to ⟨rfl, rfl, rfl, rfl, rfl, trivial⟩
    refine W.ifdI hf rfl (fun hlt => ?_) (fun hlt => ?_)
    · refine W.skip ?_
      refine k_seq ?_
      refine W.seq ?_
      refine W.block ?_
      -- region 7
      refine W.regionL (l := [0, 1, 2, 3, 4, 5, 6]) rfl ?_
      refine O.val hf rfl rfl rfl (RunV.move rfl) ?_
      clear hf a; intro a hf
      refine O.val hf rfl rfl rfl (RunV.move rfl) ?_
      clear hf a; intro a hf
      refine O.val hf rfl rfl rfl (RunV.move rfl) ?_
      clear hf a; intro a hf
      refine O.val hf rfl rfl rfl (RunV.ixV (j := k) (m := k) T_elem_22 T_size_2 rfl rfl (hS.rdAt (j := 0) rfl) rfl (by omega) (Nat.mul_one _)) ?_
      clear hf a; intro a hf
      refine O.val hf rfl rfl rfl (RunV.ld1 T_agg_2 rfl (hS.rdAt (j := 0) rfl) (ints_get (by omega))) ?_
      clear hf a; intro a hf
      refine O.val hf rfl rfl rfl (RunV.max rfl rfl) ?_
      clear hf a; intro a hf
      refine O.val hf rfl rfl rfl (RunV.assign rfl) ?_
      clear hf a; intro a hf
      refine O.nil ?_
      refine k_blk_normal ?_
      refine k_seq ?_
      replace hf : Fr a 25 [] [(0, vX), (2, .int .i64 0), (3, .int .i64 (if m < (l.getD k 0) then (l.getD k 0) else m)), (4, .int .i64 (k : Int))] := hf.to ⟨rfl, rfl, rfl, rfl, trivial⟩
      -- region 6
      refine W.regionL (l := [0, 1, 2]) rfl ?_
      refine O.val hf rfl rfl rfl (RunV.move rfl) ?_
      clear hf a; intro a hf
      refine O.val hf rfl rfl rfl (RunV.addI rfl rfl (by omega)) ?_
      clear hf a; intro a hf
      refine O.val hf rfl rfl rfl (RunV.assign rfl) ?_
      clear hf a; intro a hf
      refine O.nil ?_
      refine k_then ⟨(k + 1, if m < (l.getD k 0) then (l.getD k 0) else m), ⟨hf.to ⟨rfl, rfl, (by first | rfl | exact congrArg some (congrArg (Value.int _) (by omega))), (by first | rfl | exact congrArg some (congrArg (Value.int _) (by omega))), trivial⟩, ?_, ?_, ?_, ?_, ?_⟩, ?_⟩
      · exact hS.eqM rfl
      · omega
      · omega
      · intro j hj; rcases Nat.lt_or_ge j k with h | h
        · have := h2 j h; split <;> omega
        · obtain rfl : j = k := by omega
          split <;> omega
      · obtain ⟨j, hj1, hj2⟩ := h3; split
        · exact ⟨k, by omega, rfl⟩
        · exact ⟨j, hj1, hj2⟩
      · dsimp only; omega
    · refine W.exit ?_
      refine k_then_exit ?_
      refine k_then_exit ?_
      refine k_blk ?_
      refine k_seq ?_
      replace hf : Fr a 25 [] [(2, .int .i64 0), (3, .int .i64 m)] := hf.to ⟨rfl, rfl, trivial⟩
      refine W.seq ?_
      -- region 8
      refine W.regionL (l := [0, 1]) rfl ?_
      refine O.val hf rfl rfl rfl (RunV.move rfl) ?_
      clear hf a; intro a hf
      refine O.val hf rfl rfl rfl (RunV.assign rfl) ?_
      clear hf a; intro a hf
      refine O.nil ?_
      refine k_seq ?_
      replace hf : Fr a 25 [] [(2, .int .i64 m)] := hf.to ⟨rfl, trivial⟩
      refine W.ret ?_
      refine post1 hf rfl (ResOK.tmp rfl) ?_
      obtain rfl : k = l.length := by omega
      obtain rfl := Det.maxL_eq h2 h3
      exact ⟨(), rfl, hS.sub (List.nil_sublist _) |>.noB⟩

set_option maxHeartbeats 400000 in
set_option maxRecDepth 4000 in
theorem min_spec (vX : Value) (l : List Int) (w0 : World) (hne : 0 < l.length) (hX : rdOK (hp w0) 1 vX l.length (ints l)) :
    Ret Try.prog 16 #[vX] w0 (G := Unit) (fun _ => .int .i64 (Det.minL l)) (fun _ w => St w0 w noX [] []) := by
  refine ret_of_W (lv := [vX]) Try.func16 rfl rfl rfl (fun a hf => ?_)
  replace hf : Fr a 25 [] [(0, vX)] := hf
  have hS : St w0 w0 noX [rdv 1 vX l.length (ints l)] [] := (St.refl w0).lend0 hX
  have hlen := hX.2.1
  unfold maxLen at hlen
  refine W.seq ?_
  -- region 0
  refine W.regionL (l := [0]) rfl ?_
  refine O.val hf rfl rfl rfl (RunV.assign rfl) ?_
  clear hf a; intro a hf
  refine O.nil ?_
  refine k_seq ?_
  refine W.seq ?_
  refine W.seq ?_
  -- region 1
  refine W.regionL (l := [0, 1, 2]) rfl ?_
  refine O.val hf rfl rfl rfl (RunV.move rfl) ?_
  clear hf a; intro a hf
  refine O.val hf rfl rfl rfl (RunV.lenV (e := 2) (by simpa using T_elem_22) rfl (hS.rdAt (j := 0) rfl)) ?_
  clear hf a; intro a hf
  refine O.val (v := .bool (decide ((l.length : Int) < (1 : Int)))) hf rfl rfl rfl (RunV.lss rfl rfl) ?_
  clear hf a; intro a hf
  refine O.nil ?_
  refine k_seq ?_
  replace hf : Fr a 25 [] [(0, vX), (2, .int .i64 0), (7, .bool (decide ((l.length : Int) < (1 : Int))))] := hf.to ⟨rfl, rfl, rfl, trivial⟩
  refine W.ifdI hf rfl (fun hemp => ?_) (fun hemp => ?_)
  · exfalso; omega
  · refine W.skip ?_
    refine k_seq ?_
    refine W.seq ?_
    -- region 3
    refine W.regionL (l := [0, 1, 2, 3]) rfl ?_
    refine O.val hf rfl rfl rfl (RunV.move rfl) ?_
    clear hf a; intro a hf
    refine O.val hf rfl rfl rfl (RunV.ixV (j := 0) (m := 0) T_elem_22 T_size_2 rfl rfl (hS.rdAt (j := 0) rfl) rfl (by omega) (Nat.mul_one _)) ?_
    clear hf a; intro a hf
    refine O.val hf rfl rfl rfl (RunV.ld1 T_agg_2 rfl (hS.rdAt (j := 0) rfl) (ints_get (by omega))) ?_
    clear hf a; intro a hf
    refine O.val hf rfl rfl rfl (RunV.assign rfl) ?_
    clear hf a; intro a hf
    refine O.nil ?_
    refine k_seq ?_
    replace hf : Fr a 25 [] [(0, vX), (2, .int .i64 0), (3, .int .i64 (l.getD 0 0))] := hf.to ⟨rfl, rfl, rfl, trivial⟩
    refine W.seq ?_
    refine W.seq ?_
    -- region 4
    refine W.regionL (l := [0]) rfl ?_
    refine O.val hf rfl rfl rfl (RunV.assign rfl) ?_
    clear hf a; intro a hf
    refine O.nil ?_
    refine k_seq ?_
    refine W.block ?_
    -- loop 0
    refine W.loop (G := (Nat) × (Int)) (fun g a w => match g with | (k, m) => Fr a 25 [] [(0, vX), (2, .int .i64 0), (3, .int .i64 m), (4, .int .i64 (k : Int))] ∧ St w0 w noX [rdv 1 vX l.length (ints l)] [] ∧ (1 ≤ k) ∧ (k ≤ l.length) ∧ (∀ j, j < k → m ≤ l.getD j 0) ∧ (∃ j, j < l.length ∧ l.getD j 0 = m)) (fun g => match g with | (k, m) => l.length - k) (1, l.getD 0 0) ?_ ?_
    · refine ⟨hf.to ⟨rfl, rfl, (by first | rfl | exact congrArg some (congrArg (Value.int _) (by omega))), (by first | rfl | exact congrArg some (congrArg (Value.int _) (by omega))), trivial⟩, hS, ?_, ?_, ?_, ?_⟩
      · omega
      · omega
      · intro j hj; obtain rfl : j = 0 := by omega
        omega
      · exact ⟨0, by omega, rfl⟩
    clear hf hS a
    rintro ⟨k, m⟩ a w ⟨hf, hS, h0, h1, h2, h3⟩
    refine W.seq ?_
    refine W.seq ?_
    -- region 5
    refine W.regionL (l := [0, 1, 2, 3]) rfl ?_
    refine O.val hf rfl rfl rfl (RunV.move rfl) ?_
    clear hf a; intro a hf
    refine O.val hf rfl rfl rfl (RunV.move rfl) ?_
    clear hf a; intro a hf
    refine O.val hf rfl rfl rfl (RunV.lenV (e := 2) (by simpa using T_elem_22) rfl (hS.rdAt (j := 0) rfl)) ?_
    clear hf a; intro a hf
    refine O.val (v := .bool (decide ((k : Int) < ((l.length : Int) : Int)))) hf rfl rfl rfl (RunV.lss rfl rfl) ?_
    clear hf a; intro a hf
    refine O.nil ?_
    refine k_seq ?_
    replace hf : Fr a 25 [] [(0, vX), (2, .int .i64 0), (3, .int .i64 m), (4, .int .i64 (k : Int)), (15, .bool (decide ((k : Int) < ((l.length : Int) : Int))))] := hf.to ⟨rfl, rfl, rfl, rfl, rfl, trivial⟩
    refine W.ifdI hf rfl (fun hlt => ?_) (fun hlt => ?_)
    · refine W.skip ?_
      refine k_seq ?_
      refine W.seq ?_
      refine W.block ?_
      -- region 7
      refine W.regionL (l := [0, 1, 2, 3, 4, 5, 6]) rfl ?_
      refine O.val hf rfl rfl rfl (RunV.move rfl) ?_
      clear hf a; intro a hf
      refine O.val hf rfl rfl rfl (RunV.move rfl) ?_
      clear hf a; intro a hf
      refine O.val hf rfl rfl rfl (RunV.move rfl) ?_
      clear hf a; intro a hf
      refine O.val hf rfl rfl rfl (RunV.ixV (j := k) (m := k) T_elem_22 T_size_2 rfl rfl (hS.rdAt (j := 0) rfl) rfl (by omega) (Nat.mul_one _)) ?_
      clear hf a; intro a hf
      refine O.val hf rfl rfl rfl (RunV.ld1 T_agg_2 rfl (hS.rdAt (j := 0) rfl) (ints_get (by omega))) ?_
      clear hf a; intro a hf
      refine O.val hf rfl rfl rfl (RunV.min rfl rfl) ?_
      clear hf a; intro a hf
      refine O.val hf rfl rfl rfl (RunV.assign rfl) ?_
      clear hf a; intro a hf
      refine O.nil ?_
      refine k_blk_normal ?_
      refine k_seq ?_
      replace hf : Fr a 25 [] [(0, vX), (2, .int .i64 0), (3, .int .i64 (if (l.getD k 0) < m then (l.getD k 0) else m)), (4, .int .i64 (k : Int))] := hf.to ⟨rfl, rfl, rfl, rfl, trivial⟩
      -- region 6
      refine W.regionL (l := [0, 1, 2]) rfl ?_
      refine O.val hf rfl rfl rfl (RunV.move rfl) ?_
      clear hf a; intro a hf
      refine O.val hf rfl rfl rfl (RunV.addI rfl rfl (by omega)) ?_
      clear hf a; intro a hf
      refine O.val hf rfl rfl rfl (RunV.assign rfl) ?_
      clear hf a; intro a hf
      refine O.nil ?_
      refine k_then ⟨(k + 1, if (l.getD k 0) < m then (l.getD k 0) else m), ⟨hf.to ⟨rfl, rfl, (by first | rfl | exact congrArg some (congrArg (Value.int _) (by omega))), (by first | rfl | exact congrArg some (congrArg (Value.int _) (by omega))), trivial⟩, ?_, ?_, ?_, ?_, ?_⟩, ?_⟩
      · exact hS.eqM rfl
      · omega
      · omega
      · intro j hj; rcases Nat.lt_or_ge j k with h | h
        · have := h2 j h; split <;> omega
        · obtain rfl : j = k := by omega
          split <;> omega
      · obtain ⟨j, hj1, hj2⟩ := h3; split
        · exact ⟨k, by omega, rfl⟩
        · exact ⟨j, hj1, hj2⟩
      · dsimp only; omega
    · refine W.exit ?_
      refine k_then_exit ?_
      refine k_then_exit ?_
      refine k_blk ?_
      refine k_seq ?_
      replace hf : Fr a 25 [] [(2, .int .i64 0), (3, .int .i64 m)] := hf.to ⟨rfl, rfl, trivial⟩
      refine W.seq ?_
      -- region 8
      refine W.regionL (l := [0, 1]) rfl ?_
      refine O.val hf rfl rfl rfl (RunV.move rfl) ?_
      clear hf a; intro a hf
      refine O.val hf rfl rfl rfl (RunV.assign rfl) ?_
      clear hf a; intro a hf
      refine O.nil ?_
      refine k_seq ?_
      replace hf : Fr a 25 [] [(2, .int .i64 m)] := hf.to ⟨rfl, trivial⟩
      refine W.ret ?_
      refine post1 hf rfl (ResOK.tmp rfl) ?_
      obtain rfl : k = l.length := by omega
      obtain rfl := Det.minL_eq h2 h3
      exact ⟨(), rfl, hS.sub (List.nil_sublist _) |>.noB⟩

set_option maxHeartbeats 400000 in
set_option maxRecDepth 4000 in
theorem check11_spec (fW fH : Int) (vP : Value) (zs : List Int) (w0 : World) (hP : rdOK (hp w0) 1 vP zs.length (ints zs)) [Decidable (Det.fieldOK fW fH zs)] :
    Ret Try.prog 11 #[.agg #[.int .i64 fW, .int .i64 fH, vP]] w0 (G := Unit) (fun _ => .int .i64 (if Det.fieldOK fW fH zs then 0 else 8)) (fun _ w => St w0 w noX [] []) := by
  refine ret_of_W (lv := [.agg #[.int .i64 fW, .int .i64 fH, vP]]) Try.func11 rfl rfl rfl (fun a hf => ?_)
  replace hf : Fr a 47 [] [(0, .agg #[.int .i64 fW, .int .i64 fH, vP])] := hf
  have hS : St w0 w0 noX [rdv 1 vP zs.length (ints zs)] [] := (St.refl w0).lend0 hP
  have hlen := hP.2.1
  unfold maxLen at hlen
  refine W.seq ?_
  -- region 0
  refine W.regionL (l := [0, 1]) rfl ?_
  refine O.box (cs := #[.int .i64 fW, .int .i64 fH, vP]) hf hS rfl rfl rfl rfl ?_
  clear hf hS a; intro b_f1 w a hbb_f1 hS hf
  refine O.val hf rfl rfl rfl (RunV.assign rfl) ?_
  clear hf a; intro a hf
  refine O.nil ?_
  refine k_seq ?_
  replace hf : Fr a 47 [] [(1, .pointer (some ⟨b_f1, 0, none⟩)), (2, .int .i64 0)] := hf.to ⟨rfl, rfl, trivial⟩
  refine W.seq ?_
  -- region 1
  refine W.regionL (l := [0, 1, 2, 3, 4, 5, 6, 7, 8, 9, 10, 11, 12, 13, 14, 15, 16, 17, 18, 19, 20, 21, 22, 23, 24, 25, 26, 27, 28, 29]) rfl ?_
  refine O.val hf rfl rfl rfl (RunV.field T_field_24_0 rfl rfl) ?_
  clear hf a; intro a hf
  refine O.val hf rfl rfl rfl (RunV.load1 T_agg_3 rfl (hS.ptAt (i := 0) rfl) rfl) ?_
  clear hf a; intro a hf
  refine O.val (v := .bool (decide (fW ≥ (1 : Int)))) hf rfl rfl rfl (RunV.geq rfl rfl) ?_
  clear hf a; intro a hf
  refine O.val hf rfl rfl rfl (RunV.move rfl) ?_
  clear hf a; intro a hf
  -- a guarded part
  refine O.cutN (l₁ := [4, 5, 6, 7]) (l₂ := _) (fun a w => Fr a 47 [] [(1, .pointer (some ⟨b_f1, 0, none⟩)), (2, .int .i64 0), (4, .pointer (some ⟨b_f1, 0, none⟩)), (5, .int .i64 fW), (6, .bool (decide (fW ≥ (1 : Int)))), (7, .bool (decide (fW ≥ (1 : Int)))), (11, .bool ((decide (fW ≥ (1 : Int))) && (decide (fW ≤ (100 : Int)))))] ∧ St w0 w noX [rdv 1 vP zs.length (ints zs)] [pt b_f1 (.cells #[.int .i64 fW, .int .i64 fH, vP] 24 (0, 0))]) rfl ?_ ?_
  · rcases Bool.eq_false_or_eq_true (decide (fW ≥ (1 : Int))) with hb2 | hb2
    · have hb2p := of_decide_eq_true hb2
      refine O.gvalB (v := .pointer (some ⟨b_f1, 0, none⟩)) hf rfl rfl rfl hb2 rfl rfl (RunV.field T_field_24_0 rfl rfl) ?_
      clear hf a; intro a hf
      refine O.gvalB (v := .int .i64 fW) hf rfl rfl rfl hb2 rfl rfl (RunV.load1 T_agg_3 rfl (hS.ptAt (i := 0) rfl) rfl) ?_
      clear hf a; intro a hf
      refine O.gvalB (v := .bool (decide (fW ≤ (100 : Int)))) hf rfl rfl rfl hb2 rfl rfl (RunV.leq rfl rfl) ?_
      clear hf a; intro a hf
      refine O.val (v := .bool ((decide (fW ≥ (1 : Int))) && (decide (fW ≤ (100 : Int))))) hf rfl rfl rfl (RunV.pick rfl rfl rfl (by rw [hb2]; rfl)) ?_; clear hf a; intro a hf
      exact O.nil ⟨rfl, hf.to ⟨rfl, rfl, rfl, rfl, rfl, rfl, rfl, trivial⟩, hS⟩
    · have hb2p := of_decide_eq_false hb2
      refine O.skipB hf rfl rfl rfl hb2 rfl ?_; clear hf a; intro a hf
      refine O.skipB hf rfl rfl rfl hb2 rfl ?_; clear hf a; intro a hf
      refine O.skipB hf rfl rfl rfl hb2 rfl ?_; clear hf a; intro a hf
      refine O.val (v := .bool ((decide (fW ≥ (1 : Int))) && (decide (fW ≤ (100 : Int))))) hf rfl rfl rfl (RunV.pick rfl rfl rfl (by rw [hb2]; rfl)) ?_; clear hf a; intro a hf
      exact O.nil ⟨rfl, hf.to ⟨rfl, rfl, rfl, rfl, rfl, rfl, rfl, trivial⟩, hS⟩
  clear hf hS a; rintro a w ⟨hf, hS⟩
  refine O.val hf rfl rfl rfl (RunV.move rfl) ?_
  clear hf a; intro a hf
  -- a guarded part
  refine O.cutN (l₁ := [9, 10, 11, 12]) (l₂ := _) (fun a w => Fr a 47 [] [(1, .pointer (some ⟨b_f1, 0, none⟩)), (2, .int .i64 0), (4, .pointer (some ⟨b_f1, 0, none⟩)), (5, .int .i64 fW), (6, .bool (decide (fW ≥ (1 : Int)))), (7, .bool (decide (fW ≥ (1 : Int)))), (11, .bool ((decide (fW ≥ (1 : Int))) && (decide (fW ≤ (100 : Int))))), (12, .bool ((decide (fW ≥ (1 : Int))) && (decide (fW ≤ (100 : Int))))), (16, .bool (((decide (fW ≥ (1 : Int))) && (decide (fW ≤ (100 : Int)))) && (decide (fH ≥ (1 : Int)))))] ∧ St w0 w noX [rdv 1 vP zs.length (ints zs)] [pt b_f1 (.cells #[.int .i64 fW, .int .i64 fH, vP] 24 (0, 0))]) rfl ?_ ?_
  · rcases Bool.eq_false_or_eq_true ((decide (fW ≥ (1 : Int))) && (decide (fW ≤ (100 : Int)))) with hb3 | hb3
    · have hb3p := hb3
      try simp only [Bool.and_eq_true, Bool.or_eq_true, Bool.and_eq_false_iff, Bool.or_eq_false_iff, decide_eq_true_eq, decide_eq_false_iff_not, Bool.not_eq_true', Bool.not_eq_false', Bool.not_eq_true, Bool.not_eq_false, ne_eq] at hb3p
      refine O.gvalB (v := .pointer (some ⟨b_f1, 1, none⟩)) hf rfl rfl rfl hb3 rfl rfl (RunV.field T_field_24_1 rfl rfl) ?_
      clear hf a; intro a hf
      refine O.gvalB (v := .int .i64 fH) hf rfl rfl rfl hb3 rfl rfl (RunV.load1 T_agg_3 rfl (hS.ptAt (i := 0) rfl) rfl) ?_
      clear hf a; intro a hf
      refine O.gvalB (v := .bool (decide (fH ≥ (1 : Int)))) hf rfl rfl rfl hb3 rfl rfl (RunV.geq rfl rfl) ?_
      clear hf a; intro a hf
      refine O.val (v := .bool (((decide (fW ≥ (1 : Int))) && (decide (fW ≤ (100 : Int)))) && (decide (fH ≥ (1 : Int))))) hf rfl rfl rfl (RunV.pick rfl rfl rfl (by rw [hb3]; rfl)) ?_; clear hf a; intro a hf
      exact O.nil ⟨rfl, hf.to ⟨rfl, rfl, rfl, rfl, rfl, rfl, rfl, rfl, rfl, trivial⟩, hS⟩
    · have hb3p := hb3
      try simp only [Bool.and_eq_true, Bool.or_eq_true, Bool.and_eq_false_iff, Bool.or_eq_false_iff, decide_eq_true_eq, decide_eq_false_iff_not, Bool.not_eq_true', Bool.not_eq_false', Bool.not_eq_true, Bool.not_eq_false, ne_eq] at hb3p
      refine O.skipB hf rfl rfl rfl hb3 rfl ?_; clear hf a; intro a hf
      refine O.skipB hf rfl rfl rfl hb3 rfl ?_; clear hf a; intro a hf
      refine O.skipB hf rfl rfl rfl hb3 rfl ?_; clear hf a; intro a hf
      refine O.val (v := .bool (((decide (fW ≥ (1 : Int))) && (decide (fW ≤ (100 : Int)))) && (decide (fH ≥ (1 : Int))))) hf rfl rfl rfl (RunV.pick rfl rfl rfl (by rw [hb3]; rfl)) ?_; clear hf a; intro a hf
      exact O.nil ⟨rfl, hf.to ⟨rfl, rfl, rfl, rfl, rfl, rfl, rfl, rfl, rfl, trivial⟩, hS⟩
  clear hf hS a; rintro a w ⟨hf, hS⟩
  refine O.val hf rfl rfl rfl (RunV.move rfl) ?_
  clear hf a; intro a hf
  -- a guarded part
  refine O.cutN (l₁ := [14, 15, 16, 17]) (l₂ := _) (fun a w => Fr a 47 [] [(1, .pointer (some ⟨b_f1, 0, none⟩)), (2, .int .i64 0), (4, .pointer (some ⟨b_f1, 0, none⟩)), (5, .int .i64 fW), (6, .bool (decide (fW ≥ (1 : Int)))), (7, .bool (decide (fW ≥ (1 : Int)))), (11, .bool ((decide (fW ≥ (1 : Int))) && (decide (fW ≤ (100 : Int))))), (12, .bool ((decide (fW ≥ (1 : Int))) && (decide (fW ≤ (100 : Int))))), (16, .bool (((decide (fW ≥ (1 : Int))) && (decide (fW ≤ (100 : Int)))) && (decide (fH ≥ (1 : Int))))), (17, .bool (((decide (fW ≥ (1 : Int))) && (decide (fW ≤ (100 : Int)))) && (decide (fH ≥ (1 : Int))))), (21, .bool ((((decide (fW ≥ (1 : Int))) && (decide (fW ≤ (100 : Int)))) && (decide (fH ≥ (1 : Int)))) && (decide (fH ≤ (100 : Int)))))] ∧ St w0 w noX [rdv 1 vP zs.length (ints zs)] [pt b_f1 (.cells #[.int .i64 fW, .int .i64 fH, vP] 24 (0, 0))]) rfl ?_ ?_
  · rcases Bool.eq_false_or_eq_true (((decide (fW ≥ (1 : Int))) && (decide (fW ≤ (100 : Int)))) && (decide (fH ≥ (1 : Int)))) with hb4 | hb4
    · have hb4p := hb4
      try simp only [Bool.and_eq_true, Bool.or_eq_true, Bool.and_eq_false_iff, Bool.or_eq_false_iff, decide_eq_true_eq, decide_eq_false_iff_not, Bool.not_eq_true', Bool.not_eq_false', Bool.not_eq_true, Bool.not_eq_false, ne_eq] at hb4p
      refine O.gvalB (v := .pointer (some ⟨b_f1, 1, none⟩)) hf rfl rfl rfl hb4 rfl rfl (RunV.field T_field_24_1 rfl rfl) ?_
      clear hf a; intro a hf
      refine O.gvalB (v := .int .i64 fH) hf rfl rfl rfl hb4 rfl rfl (RunV.load1 T_agg_3 rfl (hS.ptAt (i := 0) rfl) rfl) ?_
      clear hf a; intro a hf
      refine O.gvalB (v := .bool (decide (fH ≤ (100 : Int)))) hf rfl rfl rfl hb4 rfl rfl (RunV.leq rfl rfl) ?_
      clear hf a; intro a hf
      refine O.val (v := .bool ((((decide (fW ≥ (1 : Int))) && (decide (fW ≤ (100 : Int)))) && (decide (fH ≥ (1 : Int)))) && (decide (fH ≤ (100 : Int))))) hf rfl rfl rfl (RunV.pick rfl rfl rfl (by rw [hb4]; rfl)) ?_; clear hf a; intro a hf
      exact O.nil ⟨rfl, hf.to ⟨rfl, rfl, rfl, rfl, rfl, rfl, rfl, rfl, rfl, rfl, rfl, trivial⟩, hS⟩
    · have hb4p := hb4
      try simp only [Bool.and_eq_true, Bool.or_eq_true, Bool.and_eq_false_iff, Bool.or_eq_false_iff, decide_eq_true_eq, decide_eq_false_iff_not, Bool.not_eq_true', Bool.not_eq_false', Bool.not_eq_true, Bool.not_eq_false, ne_eq] at hb4p
      refine O.skipB hf rfl rfl rfl hb4 rfl ?_; clear hf a; intro a hf
      refine O.skipB hf rfl rfl rfl hb4 rfl ?_; clear hf a; intro a hf
      refine O.skipB hf rfl rfl rfl hb4 rfl ?_; clear hf a; intro a hf
      refine O.val (v := .bool ((((decide (fW ≥ (1 : Int))) && (decide (fW ≤ (100 : Int)))) && (decide (fH ≥ (1 : Int)))) && (decide (fH ≤ (100 : Int))))) hf rfl rfl rfl (RunV.pick rfl rfl rfl (by rw [hb4]; rfl)) ?_; clear hf a; intro a hf
      exact O.nil ⟨rfl, hf.to ⟨rfl, rfl, rfl, rfl, rfl, rfl, rfl, rfl, rfl, rfl, rfl, trivial⟩, hS⟩
  clear hf hS a; rintro a w ⟨hf, hS⟩
  refine O.val hf rfl rfl rfl (RunV.move rfl) ?_
  clear hf a; intro a hf
  -- a guarded part
  refine O.cutN (l₁ := [19, 20, 21, 22, 23, 24, 25, 26, 27, 28]) (l₂ := _) (fun a w => Fr a 47 [] [(1, .pointer (some ⟨b_f1, 0, none⟩)), (2, .int .i64 0), (4, .pointer (some ⟨b_f1, 0, none⟩)), (5, .int .i64 fW), (6, .bool (decide (fW ≥ (1 : Int)))), (7, .bool (decide (fW ≥ (1 : Int)))), (11, .bool ((decide (fW ≥ (1 : Int))) && (decide (fW ≤ (100 : Int))))), (12, .bool ((decide (fW ≥ (1 : Int))) && (decide (fW ≤ (100 : Int))))), (16, .bool (((decide (fW ≥ (1 : Int))) && (decide (fW ≤ (100 : Int)))) && (decide (fH ≥ (1 : Int))))), (17, .bool (((decide (fW ≥ (1 : Int))) && (decide (fW ≤ (100 : Int)))) && (decide (fH ≥ (1 : Int))))), (21, .bool ((((decide (fW ≥ (1 : Int))) && (decide (fW ≤ (100 : Int)))) && (decide (fH ≥ (1 : Int)))) && (decide (fH ≤ (100 : Int))))), (22, .bool ((((decide (fW ≥ (1 : Int))) && (decide (fW ≤ (100 : Int)))) && (decide (fH ≥ (1 : Int)))) && (decide (fH ≤ (100 : Int))))), (32, .bool (((((decide (fW ≥ (1 : Int))) && (decide (fW ≤ (100 : Int)))) && (decide (fH ≥ (1 : Int)))) && (decide (fH ≤ (100 : Int)))) && (decide ((zs.length : Int) = (fW * fH : Int)))))] ∧ St w0 w noX [rdv 1 vP zs.length (ints zs)] [pt b_f1 (.cells #[.int .i64 fW, .int .i64 fH, vP] 24 (0, 0))]) rfl ?_ ?_
  · rcases Bool.eq_false_or_eq_true ((((decide (fW ≥ (1 : Int))) && (decide (fW ≤ (100 : Int)))) && (decide (fH ≥ (1 : Int)))) && (decide (fH ≤ (100 : Int)))) with hb5 | hb5
    · have hb5p := hb5
      try simp only [Bool.and_eq_true, Bool.or_eq_true, Bool.and_eq_false_iff, Bool.or_eq_false_iff, decide_eq_true_eq, decide_eq_false_iff_not, Bool.not_eq_true', Bool.not_eq_false', Bool.not_eq_true, Bool.not_eq_false, ne_eq] at hb5p
      refine O.gvalB (v := .pointer (some ⟨b_f1, 2, none⟩)) hf rfl rfl rfl hb5 rfl rfl (RunV.field T_field_24_2 rfl rfl) ?_
      clear hf a; intro a hf
      refine O.gvalB (v := vP) hf rfl rfl rfl hb5 rfl rfl (RunV.load1 T_agg_22 rfl (hS.ptAt (i := 0) rfl) rfl) ?_
      clear hf a; intro a hf
      refine O.gvalB (v := .int .i64 (zs.length : Int)) hf rfl rfl rfl hb5 rfl rfl (RunV.lenV (e := 2) (by simpa using T_elem_22) rfl (hS.rdAt (j := 0) rfl)) ?_
      clear hf a; intro a hf
      refine O.gvalB (v := .pointer (some ⟨b_f1, 0, none⟩)) hf rfl rfl rfl hb5 rfl rfl (RunV.field T_field_24_0 rfl rfl) ?_
      clear hf a; intro a hf
      refine O.gvalB (v := .int .i64 fW) hf rfl rfl rfl hb5 rfl rfl (RunV.load1 T_agg_3 rfl (hS.ptAt (i := 0) rfl) rfl) ?_
      clear hf a; intro a hf
      refine O.gvalB (v := .pointer (some ⟨b_f1, 1, none⟩)) hf rfl rfl rfl hb5 rfl rfl (RunV.field T_field_24_1 rfl rfl) ?_
      clear hf a; intro a hf
      refine O.gvalB (v := .int .i64 fH) hf rfl rfl rfl hb5 rfl rfl (RunV.load1 T_agg_3 rfl (hS.ptAt (i := 0) rfl) rfl) ?_
      clear hf a; intro a hf
      refine O.gvalB (v := .int .i64 (fW * fH)) hf rfl rfl rfl hb5 rfl rfl (RunV.mulI rfl rfl (by have := Det.mul_bd (a := fW) (b := fH) (by omega) (by omega); omega)) ?_
      clear hf a; intro a hf
      refine O.gvalB (v := .bool (decide ((zs.length : Int) = (fW * fH : Int)))) hf rfl rfl rfl hb5 rfl rfl (RunV.eql rfl rfl) ?_
      clear hf a; intro a hf
      refine O.val (v := .bool (((((decide (fW ≥ (1 : Int))) && (decide (fW ≤ (100 : Int)))) && (decide (fH ≥ (1 : Int)))) && (decide (fH ≤ (100 : Int)))) && (decide ((zs.length : Int) = (fW * fH : Int))))) hf rfl rfl rfl (RunV.pick rfl rfl rfl (by rw [hb5]; rfl)) ?_; clear hf a; intro a hf
      exact O.nil ⟨rfl, hf.to ⟨rfl, rfl, rfl, rfl, rfl, rfl, rfl, rfl, rfl, rfl, rfl, rfl, rfl, trivial⟩, hS⟩
    · have hb5p := hb5
      try simp only [Bool.and_eq_true, Bool.or_eq_true, Bool.and_eq_false_iff, Bool.or_eq_false_iff, decide_eq_true_eq, decide_eq_false_iff_not, Bool.not_eq_true', Bool.not_eq_false', Bool.not_eq_true, Bool.not_eq_false, ne_eq] at hb5p
      refine O.skipB hf rfl rfl rfl hb5 rfl ?_; clear hf a; intro a hf
      refine O.skipB hf rfl rfl rfl hb5 rfl ?_; clear hf a; intro a hf
      refine O.skipB hf rfl rfl rfl hb5 rfl ?_; clear hf a; intro a hf
      refine O.skipB hf rfl rfl rfl hb5 rfl ?_; clear hf a; intro a hf
      refine O.skipB hf rfl rfl rfl hb5 rfl ?_; clear hf a; intro a hf
      refine O.skipB hf rfl rfl rfl hb5 rfl ?_; clear hf a; intro a hf
      refine O.skipB hf rfl rfl rfl hb5 rfl ?_; clear hf a; intro a hf
      refine O.skipB hf rfl rfl rfl hb5 rfl ?_; clear hf a; intro a hf
      refine O.skipB hf rfl rfl rfl hb5 rfl ?_; clear hf a; intro a hf
      refine O.val (v := .bool (((((decide (fW ≥ (1 : Int))) && (decide (fW ≤ (100 : Int)))) && (decide (fH ≥ (1 : Int)))) && (decide (fH ≤ (100 : Int)))) && (decide ((zs.length : Int) = (fW * fH : Int))))) hf rfl rfl rfl (RunV.pick rfl rfl rfl (by rw [hb5]; rfl)) ?_; clear hf a; intro a hf
      exact O.nil ⟨rfl, hf.to ⟨rfl, rfl, rfl, rfl, rfl, rfl, rfl, rfl, rfl, rfl, rfl, rfl, rfl, trivial⟩, hS⟩
  clear hf hS a; rintro a w ⟨hf, hS⟩
  refine O.val hf rfl rfl rfl (RunV.assign rfl) ?_
  clear hf a; intro a hf
  refine O.nil ?_
  refine k_seq ?_
  replace hf : Fr a 47 [] [(1, .pointer (some ⟨b_f1, 0, none⟩)), (2, .int .i64 0), (3, .bool (((((decide (fW ≥ (1 : Int))) && (decide (fW ≤ (100 : Int)))) && (decide (fH ≥ (1 : Int)))) && (decide (fH ≤ (100 : Int)))) && (decide ((zs.length : Int) = (fW * fH : Int)))))] := hf.to ⟨rfl, rfl, rfl, trivial⟩
  refine W.seq ?_
  refine W.seq ?_
  -- region 2
  refine W.regionL (l := [0, 1, 2, 3, 4, 5, 6, 7, 8, 9, 10, 11, 12, 13]) rfl ?_
  refine O.val hf rfl rfl rfl (RunV.move rfl) ?_
  clear hf a; intro a hf
  refine O.val (v := .bool (!(((((decide (fW ≥ (1 : Int))) && (decide (fW ≤ (100 : Int)))) && (decide (fH ≥ (1 : Int)))) && (decide (fH ≤ (100 : Int)))) && (decide ((zs.length : Int) = (fW * fH : Int)))))) hf rfl rfl rfl (RunV.not rfl) ?_
  clear hf a; intro a hf
  refine O.val hf rfl rfl rfl (RunV.move rfl) ?_
  clear hf a; intro a hf
  -- a guarded part
  refine O.cutN (l₁ := [3, 4, 5, 6, 7]) (l₂ := _) (fun a w => Fr a 47 [] [(1, .pointer (some ⟨b_f1, 0, none⟩)), (2, .int .i64 0), (3, .bool (((((decide (fW ≥ (1 : Int))) && (decide (fW ≤ (100 : Int)))) && (decide (fH ≥ (1 : Int)))) && (decide (fH ≤ (100 : Int)))) && (decide ((zs.length : Int) = (fW * fH : Int))))), (33, .bool (((((decide (fW ≥ (1 : Int))) && (decide (fW ≤ (100 : Int)))) && (decide (fH ≥ (1 : Int)))) && (decide (fH ≤ (100 : Int)))) && (decide ((zs.length : Int) = (fW * fH : Int))))), (34, .bool (!(((((decide (fW ≥ (1 : Int))) && (decide (fW ≤ (100 : Int)))) && (decide (fH ≥ (1 : Int)))) && (decide (fH ≤ (100 : Int)))) && (decide ((zs.length : Int) = (fW * fH : Int)))))), (35, .bool (!(((((decide (fW ≥ (1 : Int))) && (decide (fW ≤ (100 : Int)))) && (decide (fH ≥ (1 : Int)))) && (decide (fH ≤ (100 : Int)))) && (decide ((zs.length : Int) = (fW * fH : Int)))))), (40, .bool ((!(((((decide (fW ≥ (1 : Int))) && (decide (fW ≤ (100 : Int)))) && (decide (fH ≥ (1 : Int)))) && (decide (fH ≤ (100 : Int)))) && (decide ((zs.length : Int) = (fW * fH : Int))))) || (decide ((Det.maxL zs) > (4294967296 : Int)))))] ∧ St w0 w noX [rdv 1 vP zs.length (ints zs)] [pt b_f1 (.cells #[.int .i64 fW, .int .i64 fH, vP] 24 (0, 0))]) rfl ?_ ?_
  · rcases Bool.eq_false_or_eq_true (!(((((decide (fW ≥ (1 : Int))) && (decide (fW ≤ (100 : Int)))) && (decide (fH ≥ (1 : Int)))) && (decide (fH ≤ (100 : Int)))) && (decide ((zs.length : Int) = (fW * fH : Int))))) with hb6 | hb6
    · have hb6p := hb6
      try simp only [Bool.and_eq_true, Bool.or_eq_true, Bool.and_eq_false_iff, Bool.or_eq_false_iff, decide_eq_true_eq, decide_eq_false_iff_not, Bool.not_eq_true', Bool.not_eq_false', Bool.not_eq_true, Bool.not_eq_false, ne_eq] at hb6p
      refine O.skipB hf rfl rfl rfl hb6 rfl ?_; clear hf a; intro a hf
      refine O.skipB hf rfl rfl rfl hb6 rfl ?_; clear hf a; intro a hf
      refine O.skipB hf rfl rfl rfl hb6 rfl ?_; clear hf a; intro a hf
      refine O.skipB hf rfl rfl rfl hb6 rfl ?_; clear hf a; intro a hf
      refine O.val (v := .bool ((!(((((decide (fW ≥ (1 : Int))) && (decide (fW ≤ (100 : Int)))) && (decide (fH ≥ (1 : Int)))) && (decide (fH ≤ (100 : Int)))) && (decide ((zs.length : Int) = (fW * fH : Int))))) || (decide ((Det.maxL zs) > (4294967296 : Int))))) hf rfl rfl rfl (RunV.pick rfl rfl rfl (by rw [hb6]; rfl)) ?_; clear hf a; intro a hf
      exact O.nil ⟨rfl, hf.to ⟨rfl, rfl, rfl, rfl, rfl, rfl, rfl, trivial⟩, hS⟩
    · have hb6p := hb6
      try simp only [Bool.and_eq_true, Bool.or_eq_true, Bool.and_eq_false_iff, Bool.or_eq_false_iff, decide_eq_true_eq, decide_eq_false_iff_not, Bool.not_eq_true', Bool.not_eq_false', Bool.not_eq_true, Bool.not_eq_false, ne_eq] at hb6p
      refine O.gvalB (v := .pointer (some ⟨b_f1, 2, none⟩)) hf rfl rfl rfl hb6 rfl rfl (RunV.field T_field_24_2 rfl rfl) ?_
      clear hf a; intro a hf
      refine O.gvalB (v := vP) hf rfl rfl rfl hb6 rfl rfl (RunV.load1 T_agg_22 rfl (hS.ptAt (i := 0) rfl) rfl) ?_
      clear hf a; intro a hf
      refine O.gcallR hf rfl rfl rfl hb6 rfl rfl (RunE.call (av := #[vP]) C_ok_15 rfl rfl rfl) (max_spec vP zs _ (by have := Det.mul_ge1 (a := fW) (b := fH) (by omega) (by omega); omega) (hS.rdAt (j := 0) rfl)) ?_
      clear hf a
      rintro _ w7 hS1 a hf
      replace hf : Fr a _ _ ((38, .int .i64 (Det.maxL zs)) :: _) := hf
      replace hS := (hS.call hS1).eqM (N := [pt b_f1 (.cells #[.int .i64 fW, .int .i64 fH, vP] 24 (0, 0))]) rfl
      clear hS1
      refine O.gvalB (v := .bool (decide ((Det.maxL zs) > (4294967296 : Int)))) hf rfl rfl rfl hb6 rfl rfl (RunV.gtr rfl rfl) ?_
      clear hf a; intro a hf
      refine O.val (v := .bool ((!(((((decide (fW ≥ (1 : Int))) && (decide (fW ≤ (100 : Int)))) && (decide (fH ≥ (1 : Int)))) && (decide (fH ≤ (100 : Int)))) && (decide ((zs.length : Int) = (fW * fH : Int))))) || (decide ((Det.maxL zs) > (4294967296 : Int))))) hf rfl rfl rfl (RunV.pick rfl rfl rfl (by rw [hb6]; rfl)) ?_; clear hf a; intro a hf
      exact O.nil ⟨rfl, hf.to ⟨rfl, rfl, rfl, rfl, rfl, rfl, rfl, trivial⟩, hS⟩
  clear hf hS a; rintro a w ⟨hf, hS⟩
  refine O.val hf rfl rfl rfl (RunV.move rfl) ?_
  clear hf a; intro a hf
  -- a guarded part
  refine O.cutN (l₁ := [9, 10, 11, 12, 13]) (l₂ := _) (fun a w => Fr a 47 [] [(1, .pointer (some ⟨b_f1, 0, none⟩)), (2, .int .i64 0), (3, .bool (((((decide (fW ≥ (1 : Int))) && (decide (fW ≤ (100 : Int)))) && (decide (fH ≥ (1 : Int)))) && (decide (fH ≤ (100 : Int)))) && (decide ((zs.length : Int) = (fW * fH : Int))))), (33, .bool (((((decide (fW ≥ (1 : Int))) && (decide (fW ≤ (100 : Int)))) && (decide (fH ≥ (1 : Int)))) && (decide (fH ≤ (100 : Int)))) && (decide ((zs.length : Int) = (fW * fH : Int))))), (34, .bool (!(((((decide (fW ≥ (1 : Int))) && (decide (fW ≤ (100 : Int)))) && (decide (fH ≥ (1 : Int)))) && (decide (fH ≤ (100 : Int)))) && (decide ((zs.length : Int) = (fW * fH : Int)))))), (35, .bool (!(((((decide (fW ≥ (1 : Int))) && (decide (fW ≤ (100 : Int)))) && (decide (fH ≥ (1 : Int)))) && (decide (fH ≤ (100 : Int)))) && (decide ((zs.length : Int) = (fW * fH : Int)))))), (40, .bool ((!(((((decide (fW ≥ (1 : Int))) && (decide (fW ≤ (100 : Int)))) && (decide (fH ≥ (1 : Int)))) && (decide (fH ≤ (100 : Int)))) && (decide ((zs.length : Int) = (fW * fH : Int))))) || (decide ((Det.maxL zs) > (4294967296 : Int))))), (41, .bool ((!(((((decide (fW ≥ (1 : Int))) && (decide (fW ≤ (100 : Int)))) && (decide (fH ≥ (1 : Int)))) && (decide (fH ≤ (100 : Int)))) && (decide ((zs.length : Int) = (fW * fH : Int))))) || (decide ((Det.maxL zs) > (4294967296 : Int))))), (46, .bool (((!(((((decide (fW ≥ (1 : Int))) && (decide (fW ≤ (100 : Int)))) && (decide (fH ≥ (1 : Int)))) && (decide (fH ≤ (100 : Int)))) && (decide ((zs.length : Int) = (fW * fH : Int))))) || (decide ((Det.maxL zs) > (4294967296 : Int)))) || (decide ((Det.minL zs) < (-4294967296 : Int)))))] ∧ St w0 w noX [rdv 1 vP zs.length (ints zs)] [pt b_f1 (.cells #[.int .i64 fW, .int .i64 fH, vP] 24 (0, 0))]) rfl ?_ ?_
  · rcases Bool.eq_false_or_eq_true ((!(((((decide (fW ≥ (1 : Int))) && (decide (fW ≤ (100 : Int)))) && (decide (fH ≥ (1 : Int)))) && (decide (fH ≤ (100 : Int)))) && (decide ((zs.length : Int) = (fW * fH : Int))))) || (decide ((Det.maxL zs) > (4294967296 : Int)))) with hb8 | hb8
    · have hb8p := hb8
      try simp only [Bool.and_eq_true, Bool.or_eq_true, Bool.and_eq_false_iff, Bool.or_eq_false_iff, decide_eq_true_eq, decide_eq_false_iff_not, Bool.not_eq_true', Bool.not_eq_false', Bool.not_eq_true, Bool.not_eq_false, ne_eq] at hb8p
      refine O.skipB hf rfl rfl rfl hb8 rfl ?_; clear hf a; intro a hf
      refine O.skipB hf rfl rfl rfl hb8 rfl ?_; clear hf a; intro a hf
      refine O.skipB hf rfl rfl rfl hb8 rfl ?_; clear hf a; intro a hf
      refine O.skipB hf rfl rfl rfl hb8 rfl ?_; clear hf a; intro a hf
      refine O.val (v := .bool (((!(((((decide (fW ≥ (1 : Int))) && (decide (fW ≤ (100 : Int)))) && (decide (fH ≥ (1 : Int)))) && (decide (fH ≤ (100 : Int)))) && (decide ((zs.length : Int) = (fW * fH : Int))))) || (decide ((Det.maxL zs) > (4294967296 : Int)))) || (decide ((Det.minL zs) < (-4294967296 : Int))))) hf rfl rfl rfl (RunV.pick rfl rfl rfl (by rw [hb8]; rfl)) ?_; clear hf a; intro a hf
      exact O.nil ⟨rfl, hf.to ⟨rfl, rfl, rfl, rfl, rfl, rfl, rfl, rfl, rfl, trivial⟩, hS⟩
    · have hb8p := hb8
      try simp only [Bool.and_eq_true, Bool.or_eq_true, Bool.and_eq_false_iff, Bool.or_eq_false_iff, decide_eq_true_eq, decide_eq_false_iff_not, Bool.not_eq_true', Bool.not_eq_false', Bool.not_eq_true, Bool.not_eq_false, ne_eq] at hb8p
      refine O.gvalB (v := .pointer (some ⟨b_f1, 2, none⟩)) hf rfl rfl rfl hb8 rfl rfl (RunV.field T_field_24_2 rfl rfl) ?_
      clear hf a; intro a hf
      refine O.gvalB (v := vP) hf rfl rfl rfl hb8 rfl rfl (RunV.load1 T_agg_22 rfl (hS.ptAt (i := 0) rfl) rfl) ?_
      clear hf a; intro a hf
      refine O.gcallR hf rfl rfl rfl hb8 rfl rfl (RunE.call (av := #[vP]) C_ok_16 rfl rfl rfl) (min_spec vP zs _ (by have := Det.mul_ge1 (a := fW) (b := fH) (by omega) (by omega); omega) (hS.rdAt (j := 0) rfl)) ?_
      clear hf a
      rintro _ w9 hS1 a hf
      replace hf : Fr a _ _ ((44, .int .i64 (Det.minL zs)) :: _) := hf
      replace hS := (hS.call hS1).eqM (N := [pt b_f1 (.cells #[.int .i64 fW, .int .i64 fH, vP] 24 (0, 0))]) rfl
      clear hS1
      refine O.gvalB (v := .bool (decide ((Det.minL zs) < (-4294967296 : Int)))) hf rfl rfl rfl hb8 rfl rfl (RunV.lss rfl rfl) ?_
      clear hf a; intro a hf
      refine O.val (v := .bool (((!(((((decide (fW ≥ (1 : Int))) && (decide (fW ≤ (100 : Int)))) && (decide (fH ≥ (1 : Int)))) && (decide (fH ≤ (100 : Int)))) && (decide ((zs.length : Int) = (fW * fH : Int))))) || (decide ((Det.maxL zs) > (4294967296 : Int)))) || (decide ((Det.minL zs) < (-4294967296 : Int))))) hf rfl rfl rfl (RunV.pick rfl rfl rfl (by rw [hb8]; rfl)) ?_; clear hf a; intro a hf
      exact O.nil ⟨rfl, hf.to ⟨rfl, rfl, rfl, rfl, rfl, rfl, rfl, rfl, rfl, trivial⟩, hS⟩
  clear hf hS a; rintro a w ⟨hf, hS⟩
  refine O.nil ?_
  refine k_seq ?_
  replace hf : Fr a 47 [] [(2, .int .i64 0), (46, .bool (((!(((((decide (fW ≥ (1 : Int))) && (decide (fW ≤ (100 : Int)))) && (decide (fH ≥ (1 : Int)))) && (decide (fH ≤ (100 : Int)))) && (decide ((zs.length : Int) = (fW * fH : Int))))) || (decide ((Det.maxL zs) > (4294967296 : Int)))) || (decide ((Det.minL zs) < (-4294967296 : Int)))))] := hf.to ⟨rfl, rfl, trivial⟩
  refine W.if_ hf rfl (fun hbad => ?_) (fun hbad => ?_)
  · have hbadb := hbad
    try simp only [Bool.and_eq_true, Bool.or_eq_true, Bool.and_eq_false_iff, Bool.or_eq_false_iff, decide_eq_true_eq, decide_eq_false_iff_not, Bool.not_eq_true', Bool.not_eq_false', Bool.not_eq_true, Bool.not_eq_false, ne_eq] at hbad
    refine W.seq ?_
    -- region 3
    refine W.regionL (l := [0]) rfl ?_
    refine O.val hf rfl rfl rfl (RunV.assign rfl) ?_
    clear hf a; intro a hf
    refine O.nil ?_
    refine k_seq ?_
    refine W.ret ?_
    refine k_then_ret ?_
    refine post1 hf rfl (ResOK.tmp rfl) ?_
    refine ⟨(), ?_, hS.sub (List.nil_sublist _) |>.noB⟩
    rw [if_neg]
    rintro ⟨g1, g2, g3, g4, g5, g6⟩
    have hp := Det.mul_ge1 (a := fW) (b := fH) g1 g3
    obtain ⟨i, hi, hi'⟩ := Det.maxL_in (l := zs) (by omega)
    obtain ⟨j, hj, hj'⟩ := Det.minL_in (l := zs) (by omega)
    have := g6 i hi
    have := g6 j hj
    omega
  · have hbadb := hbad
    try simp only [Bool.and_eq_true, Bool.or_eq_true, Bool.and_eq_false_iff, Bool.or_eq_false_iff, decide_eq_true_eq, decide_eq_false_iff_not, Bool.not_eq_true', Bool.not_eq_false', Bool.not_eq_true, Bool.not_eq_false, ne_eq] at hbad
    refine W.skip ?_
    refine k_seq ?_
    refine W.seq ?_
    -- region 4
    refine W.regionL (l := [0]) rfl ?_
    refine O.val hf rfl rfl rfl (RunV.assign rfl) ?_
    clear hf a; intro a hf
    refine O.nil ?_
    refine k_seq ?_
    refine W.ret ?_
    refine post1 hf rfl (ResOK.tmp rfl) ?_
    refine ⟨(), by rw [if_pos ⟨by omega, by omega, by omega, by omega, by omega, fun j hj => ⟨by have := Det.minL_le hj; omega, by have := Det.maxL_ge hj; omega⟩⟩], hS.sub (List.nil_sublist _) |>.noB⟩

set_option maxHeartbeats 400000 in
set_option maxRecDepth 4000 in
theorem near30_ret (fW fH i b1 b2 l0 : Nat) (vP : Value) (w0 : World) (hW : 1 ≤ fW ∧ fW ≤ 100) (hH : 1 ≤ fH ∧ fH ≤ 100) (hi : i < fW * fH) (R : Nat → World → Prop) (hdr : ∀ k w, R k w → R k w.drew) (hBs : ∀ k w, R k w → ∀ p ∈ [(b1, Obj.cells #[.int .i64 (i : Int)] 3 (0, 0)), (b2, Obj.cells #[.int .i64 (fW : Int), .int .i64 (fH : Int), vP] 42 (0, 0))], w.heap[p.1]? = some p.2) (hround : ∀ k x, (ints (Det.nb fW fH i))[k]? = some x → ∀ w, R k w → YieldAt (FW none) 0 Try.prog l0 #[x] w (fun e w' => e = .returned (.bool true) ∧ R (k + 1) w')) (hR : R 0 w0) :
    Ret Try.prog 30 #[(.func (.yield l0) #[] #[]), .pointer (some ⟨b1, 0, none⟩), .pointer (some ⟨b2, 0, none⟩)] w0 (G := Unit) (fun _ => .tuple #[]) (fun _ w => R (ints (Det.nb fW fH i)).length w) := by
  refine ret_of_W (lv := [(.func (.yield l0) #[] #[]), .pointer (some ⟨b1, 0, none⟩), .pointer (some ⟨b2, 0, none⟩)]) Try.func30 rfl rfl rfl (fun a hf => ?_)
  replace hf : Fr a 63 [] [(0, (.func (.yield l0) #[] #[])), (1, .pointer (some ⟨b1, 0, none⟩)), (2, .pointer (some ⟨b2, 0, none⟩))] := hf
  have hS : St w0 w0 noX [pt b1 (.cells #[.int .i64 (i : Int)] 3 (0, 0)), pt b2 (.cells #[.int .i64 (fW : Int), .int .i64 (fH : Int), vP] 42 (0, 0))] [] := St.selfPts (hBs _ _ hR)
  have hi2 : i < 10000 := by have := Nat.mul_le_mul hW.2 hH.2; omega
  have hnb : Det.nb fW fH i = Det.nbOut fW fH (i % fW) (i / fW) 3 := rfl
  rw [hnb] at hround
  have hixy : i = i / fW * fW + i % fW := (Nat.div_add_mod' i fW).symm
  refine W.seq ?_
  refine W.drawQ (fun w => St w w noX [pt b1 (.cells #[.int .i64 (i : Int)] 3 (0, 0)), pt b2 (.cells #[.int .i64 (fW : Int), .int .i64 (fH : Int), vP] 42 (0, 0))] [] ∧ R 0 w) P_mixed rfl (by kernel_rfl) rfl ⟨hS.selfDrew, hdr _ _ hR⟩ ?_
  clear hS hR
  refine OQ.val (v := .int .i64 (i : Int)) hf rfl (fun w hS => RunV.load1 T_agg_3 rfl (hS.1.bptAt (i := 0) rfl) rfl) ?_; clear hf a; intro a hf
  refine OQ.val (v := .pointer (some ⟨b2, 0, none⟩)) hf rfl (fun w hS => RunV.field T_field_42_0 rfl rfl) ?_; clear hf a; intro a hf
  refine OQ.val (v := .pointer (some ⟨b2, 0, none⟩)) hf rfl (fun w hS => RunV.field T_field_24_0 rfl rfl) ?_; clear hf a; intro a hf
  refine OQ.val (v := .int .i64 (fW : Int)) hf rfl (fun w hS => RunV.load1 T_agg_3 rfl (hS.1.bptAt (i := 1) rfl) rfl) ?_; clear hf a; intro a hf
  refine OQ.val (v := .int .i64 ((i % fW : Nat) : Int)) hf rfl (fun w hS => RunV.remN rfl rfl rfl rfl (by omega)) ?_; clear hf a; intro a hf
  refine OQ.val (v := .int .i64 (i : Int)) hf rfl (fun w hS => RunV.load1 T_agg_3 rfl (hS.1.bptAt (i := 0) rfl) rfl) ?_; clear hf a; intro a hf
  refine OQ.val (v := .pointer (some ⟨b2, 0, none⟩)) hf rfl (fun w hS => RunV.field T_field_42_0 rfl rfl) ?_; clear hf a; intro a hf
  refine OQ.val (v := .pointer (some ⟨b2, 0, none⟩)) hf rfl (fun w hS => RunV.field T_field_24_0 rfl rfl) ?_; clear hf a; intro a hf
  refine OQ.val (v := .int .i64 (fW : Int)) hf rfl (fun w hS => RunV.load1 T_agg_3 rfl (hS.1.bptAt (i := 1) rfl) rfl) ?_; clear hf a; intro a hf
  refine OQ.val (v := .int .i64 ((i / fW : Nat) : Int)) hf rfl (fun w hS => RunV.quoN rfl rfl rfl rfl (by omega) (by omega)) ?_; clear hf a; intro a hf
  refine OQ.val (v := .int .i64 ((i % fW : Nat) : Int)) hf rfl (fun w hS => RunV.assign rfl) ?_; clear hf a; intro a hf
  refine OQ.val (v := .int .i64 ((i / fW : Nat) : Int)) hf rfl (fun w hS => RunV.assign rfl) ?_; clear hf a; intro a hf
  refine OQ.nil ?_; rintro w ⟨hS, hR⟩
  have hxb := Nat.mod_lt i (show 0 < fW by omega)
  have hyb : i / fW < fH := Nat.div_lt_of_lt_mul hi
  generalize hx : i % fW = x at *
  generalize hy : i / fW = y at *
  refine k_seq ?_
  replace hf : Fr a 63 [] [(0, (.func (.yield l0) #[] #[])), (1, .pointer (some ⟨b1, 0, none⟩)), (2, .pointer (some ⟨b2, 0, none⟩)), (4, .int .i64 ((x : Nat) : Int)), (5, .int .i64 ((y : Nat) : Int))] := hf.to ⟨rfl, rfl, rfl, rfl, rfl, trivial⟩
  refine W.seq ?_
  -- region 1
  refine W.regionL (l := [0, 1, 2, 3]) rfl ?_
  refine O.val hf rfl rfl rfl (RunV.move rfl) ?_
  clear hf a; intro a hf
  refine O.val hf rfl rfl rfl (RunV.subI rfl rfl (by omega)) ?_
  clear hf a; intro a hf
  refine O.val hf rfl rfl rfl (RunV.max rfl rfl) ?_
  clear hf a; intro a hf
  refine O.val hf rfl rfl rfl (RunV.assign rfl) ?_
  clear hf a; intro a hf
  refine O.nil ?_
  rw [show (if 0 < (((y : Nat) : Int) - 1) then (((y : Nat) : Int) - 1) else 0) = ((y : Nat) : Int) - 1 + ((1 - y : Nat) : Int) from by split <;> omega] at hf
  refine k_seq ?_
  replace hf : Fr a 63 [] [(0, (.func (.yield l0) #[] #[])), (1, .pointer (some ⟨b1, 0, none⟩)), (2, .pointer (some ⟨b2, 0, none⟩)), (4, .int .i64 ((x : Nat) : Int)), (5, .int .i64 ((y : Nat) : Int)), (6, .int .i64 (((y : Nat) : Int) - 1 + ((1 - y : Nat) : Int)))] := hf.to ⟨rfl, rfl, rfl, rfl, rfl, rfl, trivial⟩
  refine W.block ?_
  -- loop 0
  refine W.loop (G := (Nat)) (fun g a w => match g with | k => Fr a 63 [] [(0, (.func (.yield l0) #[] #[])), (1, .pointer (some ⟨b1, 0, none⟩)), (2, .pointer (some ⟨b2, 0, none⟩)), (4, .int .i64 ((x : Nat) : Int)), (5, .int .i64 ((y : Nat) : Int)), (6, .int .i64 (((y : Nat) : Int) - 1 + (k : Int)))] ∧ St w w noX [pt b1 (.cells #[.int .i64 (i : Int)] 3 (0, 0)), pt b2 (.cells #[.int .i64 (fW : Int), .int .i64 (fH : Int), vP] 42 (0, 0))] [] ∧ (k ≤ 3) ∧ (0 ≤ ((y : Nat) : Int) - 1 + (k : Int)) ∧ (R (Det.nbOut fW fH x y k).length w)) (fun g => match g with | k => 3 - k) (1 - y) ?_ ?_
  · refine ⟨hf.to ⟨rfl, rfl, rfl, rfl, rfl, (by first | rfl | exact congrArg some (congrArg (Value.int _) (by omega))), trivial⟩, hS, ?_, ?_, ?_⟩
    · omega
    · omega
    · rcases Nat.eq_zero_or_pos y with h | h
      · rw [show 1 - y = 1 from by omega, Det.nbOut_first h]; exact hR
      · rw [show 1 - y = 0 from by omega]; exact hR
  clear hf hS a
  rintro k a w ⟨hf, hS, h1, h2, hR⟩
  refine W.seq ?_
  refine W.seq ?_
  -- region 2
  refine W.regionL (l := [0, 1, 2, 3, 4, 5, 6, 7, 8]) rfl ?_
  refine O.val hf rfl rfl rfl (RunV.move rfl) ?_
  clear hf a; intro a hf
  refine O.val hf rfl rfl rfl (RunV.field T_field_42_0 rfl rfl) ?_
  clear hf a; intro a hf
  refine O.val hf rfl rfl rfl (RunV.field T_field_24_1 rfl rfl) ?_
  clear hf a; intro a hf
  refine O.val hf rfl rfl rfl (RunV.load1 T_agg_3 rfl (hS.bptAt (i := 1) rfl) rfl) ?_
  clear hf a; intro a hf
  refine O.val hf rfl rfl rfl (RunV.subI rfl rfl (by omega)) ?_
  clear hf a; intro a hf
  refine O.val hf rfl rfl rfl (RunV.move rfl) ?_
  clear hf a; intro a hf
  refine O.val hf rfl rfl rfl (RunV.addI rfl rfl (by omega)) ?_
  clear hf a; intro a hf
  refine O.val hf rfl rfl rfl (RunV.min rfl rfl) ?_
  clear hf a; intro a hf
  refine O.val (v := .bool (decide ((((y : Nat) : Int) - 1 + (k : Int)) ≤ (if (((y : Nat) : Int) + 1) < ((fH : Int) - 1) then (((y : Nat) : Int) + 1) else ((fH : Int) - 1) : Int)))) hf rfl rfl rfl (RunV.leq rfl rfl) ?_
  clear hf a; intro a hf
  refine O.nil ?_
  refine k_seq ?_
  replace hf : Fr a 63 [] [(0, (.func (.yield l0) #[] #[])), (1, .pointer (some ⟨b1, 0, none⟩)), (2, .pointer (some ⟨b2, 0, none⟩)), (4, .int .i64 ((x : Nat) : Int)), (5, .int .i64 ((y : Nat) : Int)), (6, .int .i64 (((y : Nat) : Int) - 1 + (k : Int))), (30, .bool (decide ((((y : Nat) : Int) - 1 + (k : Int)) ≤ (if (((y : Nat) : Int) + 1) < ((fH : Int) - 1) then (((y : Nat) : Int) + 1) else ((fH : Int) - 1) : Int))))] := hf.to ⟨rfl, rfl, rfl, rfl, rfl, rfl, rfl, trivial⟩
  refine W.ifdI hf rfl (fun hv => ?_) (fun hv => ?_)
  · have hv1 : (((y : Nat) : Int) - 1 + (k : Int)) ≤ (fH : Int) - 1 ∧ (((y : Nat) : Int) - 1 + (k : Int)) ≤ (y : Int) + 1 := by split at hv <;> omega
    refine W.skip ?_
    refine k_seq ?_
    refine W.seq ?_
    refine W.block ?_
    refine W.seq ?_
    -- region 4
    refine W.regionL (l := [0, 1, 2, 3]) rfl ?_
    refine O.val hf rfl rfl rfl (RunV.move rfl) ?_
    clear hf a; intro a hf
    refine O.val hf rfl rfl rfl (RunV.subI rfl rfl (by omega)) ?_
    clear hf a; intro a hf
    refine O.val hf rfl rfl rfl (RunV.max rfl rfl) ?_
    clear hf a; intro a hf
    refine O.val hf rfl rfl rfl (RunV.assign rfl) ?_
    clear hf a; intro a hf
    refine O.nil ?_
    rw [show (if 0 < (((x : Nat) : Int) - 1) then (((x : Nat) : Int) - 1) else 0) = ((x : Nat) : Int) - 1 + ((1 - x : Nat) : Int) from by split <;> omega] at hf
    refine k_seq ?_
    replace hf : Fr a 63 [] [(0, (.func (.yield l0) #[] #[])), (1, .pointer (some ⟨b1, 0, none⟩)), (2, .pointer (some ⟨b2, 0, none⟩)), (4, .int .i64 ((x : Nat) : Int)), (5, .int .i64 ((y : Nat) : Int)), (6, .int .i64 (((y : Nat) : Int) - 1 + (k : Int))), (7, .int .i64 (((x : Nat) : Int) - 1 + ((1 - x : Nat) : Int)))] := hf.to ⟨rfl, rfl, rfl, rfl, rfl, rfl, rfl, trivial⟩
    refine W.block ?_
    -- loop 1
    refine W.loop (G := (Nat)) (fun g a w => match g with | l => Fr a 63 [] [(0, (.func (.yield l0) #[] #[])), (1, .pointer (some ⟨b1, 0, none⟩)), (2, .pointer (some ⟨b2, 0, none⟩)), (4, .int .i64 ((x : Nat) : Int)), (5, .int .i64 ((y : Nat) : Int)), (6, .int .i64 (((y : Nat) : Int) - 1 + (k : Int))), (7, .int .i64 (((x : Nat) : Int) - 1 + (l : Int)))] ∧ St w w noX [pt b1 (.cells #[.int .i64 (i : Int)] 3 (0, 0)), pt b2 (.cells #[.int .i64 (fW : Int), .int .i64 (fH : Int), vP] 42 (0, 0))] [] ∧ (l ≤ 3) ∧ (0 ≤ ((x : Nat) : Int) - 1 + (l : Int)) ∧ (R ((Det.nbOut fW fH x y k).length + (Det.nbIn fW fH x y (((y : Nat) : Int) - 1 + (k : Int)) l).length) w)) (fun g => match g with | l => 3 - l) (1 - x) ?_ ?_
    · refine ⟨hf.to ⟨rfl, rfl, rfl, rfl, rfl, rfl, (by first | rfl | exact congrArg some (congrArg (Value.int _) (by omega))), trivial⟩, hS, ?_, ?_, ?_⟩
      · omega
      · omega
      · rcases Nat.eq_zero_or_pos x with h | h
        · rw [show 1 - x = 1 from by omega, Det.nbIn_first h]; exact hR
        · rw [show 1 - x = 0 from by omega]; exact hR
    clear hf hS a
    rintro l a w ⟨hf, hS, h3, h4, hR⟩
    refine W.seq ?_
    refine W.seq ?_
    -- region 5
    refine W.regionL (l := [0, 1, 2, 3, 4, 5, 6, 7, 8]) rfl ?_
    refine O.val hf rfl rfl rfl (RunV.move rfl) ?_
    clear hf a; intro a hf
    refine O.val hf rfl rfl rfl (RunV.field T_field_42_0 rfl rfl) ?_
    clear hf a; intro a hf
    refine O.val hf rfl rfl rfl (RunV.field T_field_24_0 rfl rfl) ?_
    clear hf a; intro a hf
    refine O.val hf rfl rfl rfl (RunV.load1 T_agg_3 rfl (hS.bptAt (i := 1) rfl) rfl) ?_
    clear hf a; intro a hf
    refine O.val hf rfl rfl rfl (RunV.subI rfl rfl (by omega)) ?_
    clear hf a; intro a hf
    refine O.val hf rfl rfl rfl (RunV.move rfl) ?_
    clear hf a; intro a hf
    refine O.val hf rfl rfl rfl (RunV.addI rfl rfl (by omega)) ?_
    clear hf a; intro a hf
    refine O.val hf rfl rfl rfl (RunV.min rfl rfl) ?_
    clear hf a; intro a hf
    refine O.val (v := .bool (decide ((((x : Nat) : Int) - 1 + (l : Int)) ≤ (if (((x : Nat) : Int) + 1) < ((fW : Int) - 1) then (((x : Nat) : Int) + 1) else ((fW : Int) - 1) : Int)))) hf rfl rfl rfl (RunV.leq rfl rfl) ?_
    clear hf a; intro a hf
    refine O.nil ?_
    refine k_seq ?_
    replace hf : Fr a 63 [] [(0, (.func (.yield l0) #[] #[])), (1, .pointer (some ⟨b1, 0, none⟩)), (2, .pointer (some ⟨b2, 0, none⟩)), (4, .int .i64 ((x : Nat) : Int)), (5, .int .i64 ((y : Nat) : Int)), (6, .int .i64 (((y : Nat) : Int) - 1 + (k : Int))), (7, .int .i64 (((x : Nat) : Int) - 1 + (l : Int))), (44, .bool (decide ((((x : Nat) : Int) - 1 + (l : Int)) ≤ (if (((x : Nat) : Int) + 1) < ((fW : Int) - 1) then (((x : Nat) : Int) + 1) else ((fW : Int) - 1) : Int))))] := hf.to ⟨rfl, rfl, rfl, rfl, rfl, rfl, rfl, rfl, trivial⟩
    refine W.ifdI hf rfl (fun hu => ?_) (fun hu => ?_)
    · have hu1 : (((x : Nat) : Int) - 1 + (l : Int)) ≤ (fW : Int) - 1 ∧ (((x : Nat) : Int) - 1 + (l : Int)) ≤ (x : Int) + 1 := by split at hu <;> omega
      refine W.skip ?_
      refine k_seq ?_
      refine W.seq ?_
      refine W.block ?_
      refine W.seq ?_
      -- region 7
      refine W.regionL (l := [0, 1, 2, 3, 4, 5, 6, 7]) rfl ?_
      have hk3 : k < 3 := by omega
      have hl3 : l < 3 := by omega
      have hpix := Det.pix_eq (W := fW) (x := x) (y := y) (u := (((x : Nat) : Int) - 1 + (l : Int))) (v := (((y : Nat) : Int) - 1 + (k : Int))) (by omega) (by omega) (by omega) hxb
      have hm := Det.mul_bd (a := (((y : Nat) : Int) - 1 + (k : Int))) (b := (fW : Int)) (by omega) (by omega)
      refine O.val hf rfl rfl rfl (RunV.move rfl) ?_
      clear hf a; intro a hf
      refine O.val hf rfl rfl rfl (RunV.field T_field_42_0 rfl rfl) ?_
      clear hf a; intro a hf
      refine O.val hf rfl rfl rfl (RunV.field T_field_24_0 rfl rfl) ?_
      clear hf a; intro a hf
      refine O.val hf rfl rfl rfl (RunV.load1 T_agg_3 rfl (hS.bptAt (i := 1) rfl) rfl) ?_
      clear hf a; intro a hf
      refine O.val hf rfl rfl rfl (RunV.mulI rfl rfl (by omega)) ?_
      clear hf a; intro a hf
      refine O.val hf rfl rfl rfl (RunV.move rfl) ?_
      clear hf a; intro a hf
      refine O.val hf rfl rfl rfl (RunV.addI rfl rfl (by omega)) ?_
      clear hf a; intro a hf
      refine O.val hf rfl rfl rfl (RunV.assign rfl) ?_
      clear hf a; intro a hf
      refine O.nil ?_
      refine k_seq ?_
      replace hf : Fr a 63 [] [(0, (.func (.yield l0) #[] #[])), (1, .pointer (some ⟨b1, 0, none⟩)), (2, .pointer (some ⟨b2, 0, none⟩)), (4, .int .i64 ((x : Nat) : Int)), (5, .int .i64 ((y : Nat) : Int)), (6, .int .i64 (((y : Nat) : Int) - 1 + (k : Int))), (7, .int .i64 (((x : Nat) : Int) - 1 + (l : Int))), (8, .int .i64 (((((y : Nat) : Int) - 1 + (k : Int)) * (fW : Int)) + (((x : Nat) : Int) - 1 + (l : Int))))] := hf.to ⟨rfl, rfl, rfl, rfl, rfl, rfl, rfl, rfl, trivial⟩
      refine W.seq ?_
      -- region 8
      refine W.regionL (l := [0, 1, 2, 3, 4, 5, 6, 7, 8]) rfl ?_
      refine O.val hf rfl rfl rfl (RunV.move rfl) ?_
      clear hf a; intro a hf
      refine O.val hf rfl rfl rfl (RunV.load1 T_agg_3 rfl (hS.bptAt (i := 0) rfl) rfl) ?_
      clear hf a; intro a hf
      refine O.val (v := .bool (decide ((((((y : Nat) : Int) - 1 + (k : Int)) * (fW : Int)) + (((x : Nat) : Int) - 1 + (l : Int))) ≠ ((i : Int) : Int)))) hf rfl rfl rfl (RunV.neq rfl rfl) ?_
      clear hf a; intro a hf
      refine O.val hf rfl rfl rfl (RunV.move rfl) ?_
      clear hf a; intro a hf
      -- a guarded part
      refine O.cutN (l₁ := [4, 5, 6, 7, 8]) (l₂ := _) (fun a w => Fr a 63 [] [(0, (.func (.yield l0) #[] #[])), (1, .pointer (some ⟨b1, 0, none⟩)), (2, .pointer (some ⟨b2, 0, none⟩)), (4, .int .i64 ((x : Nat) : Int)), (5, .int .i64 ((y : Nat) : Int)), (6, .int .i64 (((y : Nat) : Int) - 1 + (k : Int))), (7, .int .i64 (((x : Nat) : Int) - 1 + (l : Int))), (8, .int .i64 (((((y : Nat) : Int) - 1 + (k : Int)) * (fW : Int)) + (((x : Nat) : Int) - 1 + (l : Int)))), (54, .int .i64 (((((y : Nat) : Int) - 1 + (k : Int)) * (fW : Int)) + (((x : Nat) : Int) - 1 + (l : Int)))), (55, .int .i64 (i : Int)), (56, .bool (decide ((((((y : Nat) : Int) - 1 + (k : Int)) * (fW : Int)) + (((x : Nat) : Int) - 1 + (l : Int))) ≠ ((i : Int) : Int)))), (57, .bool (decide ((((((y : Nat) : Int) - 1 + (k : Int)) * (fW : Int)) + (((x : Nat) : Int) - 1 + (l : Int))) ≠ ((i : Int) : Int)))), (62, .bool ((decide ((((((y : Nat) : Int) - 1 + (k : Int)) * (fW : Int)) + (((x : Nat) : Int) - 1 + (l : Int))) ≠ ((i : Int) : Int))) && false))] ∧ St w w noX [pt b1 (.cells #[.int .i64 (i : Int)] 3 (0, 0)), pt b2 (.cells #[.int .i64 (fW : Int), .int .i64 (fH : Int), vP] 42 (0, 0))] [] ∧ R ((Det.nbOut fW fH x y k).length + (Det.nbIn fW fH x y (((y : Nat) : Int) - 1 + (k : Int)) (l + 1)).length) w) rfl ?_ ?_
      · rcases Bool.eq_false_or_eq_true (decide ((((((y : Nat) : Int) - 1 + (k : Int)) * (fW : Int)) + (((x : Nat) : Int) - 1 + (l : Int))) ≠ ((i : Int) : Int))) with hb3 | hb3
        · have hb3p := of_decide_eq_true hb3
          refine O.gvalB (v := (.func (.yield l0) #[] #[])) hf rfl rfl rfl hb3 rfl rfl (RunV.move rfl) ?_
          clear hf a; intro a hf
          refine O.gvalB (v := .int .i64 (((((y : Nat) : Int) - 1 + (k : Int)) * (fW : Int)) + (((x : Nat) : Int) - 1 + (l : Int)))) hf rfl rfl rfl hb3 rfl rfl (RunV.move rfl) ?_
          clear hf a; intro a hf
          have hok : Det.okNb fW fH x y (((x : Nat) : Int) - 1 + (l : Int)) (((y : Nat) : Int) - 1 + (k : Int)) = true := by
            simp only [Det.okNb, Bool.not_eq_true', Bool.or_eq_false_iff, Bool.and_eq_false_iff, decide_eq_false_iff_not]; omega
          refine O.gyield (R := R ((Det.nbOut fW fH x y k).length + (Det.nbIn fW fH x y (((y : Nat) : Int) - 1 + (k : Int)) l).length + 1)) hf rfl rfl rfl hb3 rfl rfl rfl (hround _ _ (by simp only [ints, List.getElem?_map, Det.nb_at hk3 hl3 hok]; rfl) w hR) ?_
          clear hf hS hR a; intro w a hR hf; have hS : St w w noX [pt b1 (.cells #[.int .i64 (i : Int)] 3 (0, 0)), pt b2 (.cells #[.int .i64 (fW : Int), .int .i64 (fH : Int), vP] 42 (0, 0))] [] := St.selfPts (hBs _ _ hR)
          refine O.gvalB (v := .bool false) hf rfl rfl rfl hb3 rfl rfl (RunV.not (b := true) rfl) ?_
          clear hf a; intro a hf
          refine O.val (v := .bool ((decide ((((((y : Nat) : Int) - 1 + (k : Int)) * (fW : Int)) + (((x : Nat) : Int) - 1 + (l : Int))) ≠ ((i : Int) : Int))) && false)) hf rfl rfl rfl (RunV.pick rfl rfl rfl (by rw [hb3]; rfl)) ?_; clear hf a; intro a hf
          exact O.nil ⟨rfl, hf.to ⟨rfl, rfl, rfl, rfl, rfl, rfl, rfl, rfl, rfl, rfl, rfl, rfl, rfl, trivial⟩, hS, (by rw [Det.nbIn_take hok, List.length_append]; exact hR)⟩
        · have hb3p := of_decide_eq_false hb3
          refine O.skipB hf rfl rfl rfl hb3 rfl ?_; clear hf a; intro a hf
          refine O.skipB hf rfl rfl rfl hb3 rfl ?_; clear hf a; intro a hf
          refine O.skipB hf rfl rfl rfl hb3 rfl ?_; clear hf a; intro a hf
          refine O.skipB hf rfl rfl rfl hb3 rfl ?_; clear hf a; intro a hf
          refine O.val (v := .bool ((decide ((((((y : Nat) : Int) - 1 + (k : Int)) * (fW : Int)) + (((x : Nat) : Int) - 1 + (l : Int))) ≠ ((i : Int) : Int))) && false)) hf rfl rfl rfl (RunV.pick rfl rfl rfl (by rw [hb3]; rfl)) ?_; clear hf a; intro a hf
          exact O.nil ⟨rfl, hf.to ⟨rfl, rfl, rfl, rfl, rfl, rfl, rfl, rfl, rfl, rfl, rfl, rfl, rfl, trivial⟩, hS, (by
            have hok : Det.okNb fW fH x y (((x : Nat) : Int) - 1 + (l : Int)) (((y : Nat) : Int) - 1 + (k : Int)) = false := by
              simp only [Det.okNb, Bool.not_eq_false', Bool.or_eq_true, Bool.and_eq_true, decide_eq_true_eq]; omega
            rw [Det.nbIn_skip hok]; exact hR)⟩
      clear hf hS a; rintro a w ⟨hf, hS, hR⟩
      refine O.nil ?_
      refine k_seq ?_
      replace hf : Fr a 63 [] [(0, (.func (.yield l0) #[] #[])), (1, .pointer (some ⟨b1, 0, none⟩)), (2, .pointer (some ⟨b2, 0, none⟩)), (4, .int .i64 ((x : Nat) : Int)), (5, .int .i64 ((y : Nat) : Int)), (6, .int .i64 (((y : Nat) : Int) - 1 + (k : Int))), (7, .int .i64 (((x : Nat) : Int) - 1 + (l : Int))), (8, .int .i64 (((((y : Nat) : Int) - 1 + (k : Int)) * (fW : Int)) + (((x : Nat) : Int) - 1 + (l : Int)))), (62, .bool ((decide ((((((y : Nat) : Int) - 1 + (k : Int)) * (fW : Int)) + (((x : Nat) : Int) - 1 + (l : Int))) ≠ ((i : Int) : Int))) && false))] := hf.to ⟨rfl, rfl, rfl, rfl, rfl, rfl, rfl, rfl, rfl, trivial⟩
      have hbc : ((decide ((((((y : Nat) : Int) - 1 + (k : Int)) * (fW : Int)) + (((x : Nat) : Int) - 1 + (l : Int))) ≠ ((i : Int) : Int))) && false) = false := (by simp)
      simp only [hbc] at hf; clear hbc
      refine W.if_ff hf rfl ?_
      refine W.skip ?_
      refine k_blk_normal ?_
      refine k_seq ?_
      -- region 6
      refine W.regionL (l := [0, 1, 2]) rfl ?_
      refine O.val hf rfl rfl rfl (RunV.move rfl) ?_
      clear hf a; intro a hf
      refine O.val hf rfl rfl rfl (RunV.addI rfl rfl (by omega)) ?_
      clear hf a; intro a hf
      refine O.val hf rfl rfl rfl (RunV.assign rfl) ?_
      clear hf a; intro a hf
      refine O.nil ?_
      refine k_then ⟨(l + 1), ⟨hf.to ⟨rfl, rfl, rfl, rfl, rfl, rfl, (by first | rfl | exact congrArg some (congrArg (Value.int _) (by omega))), trivial⟩, ?_, ?_, ?_, ?_⟩, ?_⟩
      · exact hS.eqM rfl
      · omega
      · omega
      · exact hR
      · dsimp only; omega
    · have hu1 : ¬ ((((x : Nat) : Int) - 1 + (l : Int)) ≤ (fW : Int) - 1 ∧ (((x : Nat) : Int) - 1 + (l : Int)) ≤ (x : Int) + 1) := by split at hu <;> omega
      refine W.exit ?_
      refine k_then_exit ?_
      refine k_then_exit ?_
      refine k_blk ?_
      refine k_blk_normal ?_
      refine k_seq ?_
      -- region 3
      refine W.regionL (l := [0, 1, 2]) rfl ?_
      refine O.val hf rfl rfl rfl (RunV.move rfl) ?_
      clear hf a; intro a hf
      refine O.val hf rfl rfl rfl (RunV.addI rfl rfl (by omega)) ?_
      clear hf a; intro a hf
      refine O.val hf rfl rfl rfl (RunV.assign rfl) ?_
      clear hf a; intro a hf
      refine O.nil ?_
      refine k_then ⟨(k + 1), ⟨hf.to ⟨rfl, rfl, rfl, rfl, rfl, (by first | rfl | exact congrArg some (congrArg (Value.int _) (by omega))), trivial⟩, ?_, ?_, ?_, ?_⟩, ?_⟩
      · exact hS.eqM rfl
      · omega
      · omega
      · rw [Det.nbIn_end h3 (by omega)] at hR
        have e : Det.nbOut fW fH x y (k + 1) = Det.nbOut fW fH x y k ++ Det.nbIn fW fH x y (((y : Nat) : Int) - 1 + (k : Int)) 3 := rfl
        rw [e, List.length_append]; exact hR
      · dsimp only; omega
  · have hv1 : ¬ ((((y : Nat) : Int) - 1 + (k : Int)) ≤ (fH : Int) - 1 ∧ (((y : Nat) : Int) - 1 + (k : Int)) ≤ (y : Int) + 1) := by split at hv <;> omega
    refine W.exit ?_
    refine k_then_exit ?_
    refine k_then_exit ?_
    refine k_blk ?_
    refine post_normal ?_
    refine post0 hf rfl  ?_
    refine ⟨(), rfl, ?_⟩
    rw [Det.nbOut_end h1 (by omega)] at hR
    rw [show (ints (Det.nb fW fH i)).length = (Det.nbOut fW fH x y 3).length from by rw [hnb]; simp [ints]]
    exact hR

set_option maxHeartbeats 400000 in
set_option maxRecDepth 4000 in
theorem near24_spec (fW fH i : Int) (vP : Value) (w0 : World) :
    Ret Try.prog 24 #[.agg #[.int .i64 fW, .int .i64 fH, vP], .int .i64 i] w0 (G := Nat × Nat) (fun g => .func (.func 30) #[] #[.pointer (some ⟨g.1, 0, none⟩), .pointer (some ⟨g.2, 0, none⟩)]) (fun g w => St w0 w noX [] [pt g.1 (.cells #[.int .i64 i] 3 (0, 0)), pt g.2 (.cells #[.int .i64 fW, .int .i64 fH, vP] 42 (0, 0))]) := by
  refine ret_of_W (lv := [.agg #[.int .i64 fW, .int .i64 fH, vP], .int .i64 i]) Try.func24 rfl rfl rfl (fun a hf => ?_)
  replace hf : Fr a 6 [] [(0, .agg #[.int .i64 fW, .int .i64 fH, vP]), (1, .int .i64 i)] := hf
  have hS : St w0 w0 noX [] [] := St.refl w0
  refine W.seq ?_
  -- region 0
  refine W.regionL (l := [0, 1, 2]) rfl ?_
  refine O.box (cs := #[.int .i64 fW, .int .i64 fH, vP]) hf hS rfl rfl rfl rfl ?_
  clear hf hS a; intro b_m1 w a hbb_m1 hS hf
  refine O.box (cs := #[.int .i64 i]) hf hS rfl rfl rfl rfl ?_
  clear hf hS a; intro b_i2 w a hbb_i2 hS hf
  refine O.val hf rfl rfl rfl (RunV.assign rfl) ?_
  clear hf a; intro a hf
  refine O.nil ?_
  refine k_seq ?_
  replace hf : Fr a 6 [] [(2, .pointer (some ⟨b_m1, 0, none⟩)), (3, .pointer (some ⟨b_i2, 0, none⟩)), (4, .nilFunc)] := hf.to ⟨rfl, rfl, rfl, trivial⟩
  refine W.seq ?_
  -- region 1
  refine W.regionL (l := [0, 1]) rfl ?_
  refine O.val (v := .func (.func 30) #[] #[.pointer (some ⟨b_i2, 0, none⟩), .pointer (some ⟨b_m1, 0, none⟩)]) hf rfl rfl rfl (RunV.makeFunc rfl rfl rfl rfl) ?_
  clear hf a; intro a hf
  refine O.val hf rfl rfl rfl (RunV.assign rfl) ?_
  clear hf a; intro a hf
  refine O.nil ?_
  refine k_seq ?_
  replace hf : Fr a 6 [] [(4, .func (.func 30) #[] #[.pointer (some ⟨b_i2, 0, none⟩), .pointer (some ⟨b_m1, 0, none⟩)])] := hf.to ⟨rfl, trivial⟩
  refine W.ret ?_
  refine post1 hf rfl (ResOK.tmp rfl) ?_
  exact ⟨(b_i2, b_m1), rfl, hS⟩

theorem near_iter (fW fH i b1 b2 : Nat) (vP : Value) (hW : 1 ≤ fW ∧ fW ≤ 100) (hH : 1 ≤ fH ∧ fH ≤ 100) (hi : i < fW * fH) :
    IterR Try.prog 30 #[.pointer (some ⟨b1, 0, none⟩), .pointer (some ⟨b2, 0, none⟩)] (ints (Det.nb fW fH i)) [(b1, Obj.cells #[.int .i64 (i : Int)] 3 (0, 0)), (b2, Obj.cells #[.int .i64 (fW : Int), .int .i64 (fH : Int), vP] 42 (0, 0))] := by
  intro l R hdr hBs hround w hR
  exact Calls.mono (near30_ret fW fH i b1 b2 l vP w hW hH hi R hdr hBs hround hR) (fun e w' ⟨_, he, h⟩ => ⟨⟨_, he⟩, h⟩)

theorem sort_spec (vX : Value) (l : List Int) (w0 : World) (hX : slOK (hp w0) 3 1 vX l.length (ints l)) (hl : l.length ≤ 10000) :
    Ret Try.prog 22 #[vX] w0 (G := Unit) (fun _ => .tuple #[]) (fun _ w => St w0 w (fun b => vX.ownBlock = some b) [] [sl 3 1 vX (Det.srt l).length (ints (Det.srt l))]) :=
  sort_any Try.sortA 3 vX l w0 hX hl

end Go.Proofs.Ytediaapijdojfaa
