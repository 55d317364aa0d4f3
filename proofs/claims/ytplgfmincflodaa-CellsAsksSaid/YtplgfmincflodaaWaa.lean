/- Part of a proof: walks printed by a program. -/
import Derived.Test.YtplgfmincflodaaSL16
import Derived.Test.YtplgfmincflodaaProg
set_option linter.unusedVariables false
set_option linter.unusedSimpArgs false
namespace Go.Proofs.Ytplgfmincflodaa
open Go Go.SL
def strc1 : ByteArray := ⟨((([0, 1, 2, 2, 3, 3, 3, 3, 4, 4, 4, 4, 4, 4, 4, 4, 5, 5, 5, 5, 5, 5, 5, 5, 5, 5, 5, 5, 5, 5, 5, 5, 6, 6, 6, 6, 6, 6, 6, 6, 6, 6, 6, 6, 6, 6, 6, 6, 6, 6, 6, 6, 6, 6, 6, 6, 6, 6, 6, 6, 6, 6, 6, 6] ++ [7, 7, 7, 7, 7, 7, 7, 7, 7, 7, 7, 7, 7, 7, 7, 7, 7, 7, 7, 7, 7, 7, 7, 7, 7, 7, 7, 7, 7, 7, 7, 7, 7, 7, 7, 7, 7, 7, 7, 7, 7, 7, 7, 7, 7, 7, 7, 7, 7, 7, 7, 7, 7, 7, 7, 7, 7, 7, 7, 7, 7, 7, 7, 7]) ++ ([8, 8, 8, 8, 8, 8, 8, 8, 8, 8, 8, 8, 8, 8, 8, 8, 8, 8, 8, 8, 8, 8, 8, 8, 8, 8, 8, 8, 8, 8, 8, 8, 8, 8, 8, 8, 8, 8, 8, 8, 8, 8, 8, 8, 8, 8, 8, 8, 8, 8, 8, 8, 8, 8, 8, 8, 8, 8, 8, 8, 8, 8, 8, 8] ++ [8, 8, 8, 8, 8, 8, 8, 8, 8, 8, 8, 8, 8, 8, 8, 8, 8, 8, 8, 8, 8, 8, 8, 8, 8, 8, 8, 8, 8, 8, 8, 8, 8, 8, 8, 8, 8, 8, 8, 8, 8, 8, 8, 8, 8, 8, 8, 8, 8, 8, 8, 8, 8, 8, 8, 8, 8, 8, 8, 8, 8, 8, 8, 8])) : List UInt8).toArray⟩
theorem C_ok_10 : callOK Try.prog 10 = true := by kernel_rfl
theorem C_ok_11 : callOK Try.prog 11 = true := by kernel_rfl
theorem C_ok_12 : callOK Try.prog 12 = true := by kernel_rfl
theorem C_ok_13 : callOK Try.prog 13 = true := by kernel_rfl
theorem C_ok_14 : callOK Try.prog 14 = true := by kernel_rfl
theorem C_ok_15 : callOK Try.prog 15 = true := by kernel_rfl
theorem C_ok_16 : callOK Try.prog 16 = true := by kernel_rfl
theorem C_ok_17 : callOK Try.prog 17 = true := by kernel_rfl
theorem C_ok_18 : callOK Try.prog 18 = true := by kernel_rfl
theorem C_ok_19 : callOK Try.prog 19 = true := by kernel_rfl
theorem C_ok_20 : callOK Try.prog 20 = true := by kernel_rfl
theorem C_ok_21 : callOK Try.prog 21 = true := by kernel_rfl
theorem C_ok_22 : callOK Try.prog 22 = true := by kernel_rfl
theorem C_ok_26 : callOK Try.prog 26 = true := by kernel_rfl
theorem C_ok_27 : callOK Try.prog 27 = true := by kernel_rfl
theorem C_ok_28 : callOK Try.prog 28 = true := by kernel_rfl
theorem C_ok_29 : callOK Try.prog 29 = true := by kernel_rfl
theorem C_ok_30 : callOK Try.prog 30 = true := by kernel_rfl
theorem C_ok_31 : callOK Try.prog 31 = true := by kernel_rfl
theorem C_ok_32 : callOK Try.prog 32 = true := by kernel_rfl
theorem C_ok_33 : callOK Try.prog 33 = true := by kernel_rfl
theorem C_ok_34 : callOK Try.prog 34 = true := by kernel_rfl
theorem C_ok_35 : callOK Try.prog 35 = true := by kernel_rfl
theorem C_ok_36 : callOK Try.prog 36 = true := by kernel_rfl
theorem C_ok_37 : callOK Try.prog 37 = true := by kernel_rfl
theorem C_ok_38 : callOK Try.prog 38 = true := by kernel_rfl
theorem C_ok_39 : callOK Try.prog 39 = true := by kernel_rfl
theorem C_ok_4 : callOK Try.prog 4 = true := by kernel_rfl
theorem C_ok_40 : callOK Try.prog 40 = true := by kernel_rfl
theorem C_ok_42 : callOK Try.prog 42 = true := by kernel_rfl
theorem C_ok_43 : callOK Try.prog 43 = true := by kernel_rfl
theorem C_ok_44 : callOK Try.prog 44 = true := by kernel_rfl
theorem C_ok_45 : callOK Try.prog 45 = true := by kernel_rfl
theorem C_ok_46 : callOK Try.prog 46 = true := by kernel_rfl
theorem C_ok_5 : callOK Try.prog 5 = true := by kernel_rfl
theorem C_ok_6 : callOK Try.prog 6 = true := by kernel_rfl
theorem C_ok_7 : callOK Try.prog 7 = true := by kernel_rfl
theorem C_ok_8 : callOK Try.prog 8 = true := by kernel_rfl
theorem C_ok_9 : callOK Try.prog 9 = true := by kernel_rfl
theorem P_mixed : Try.prog.follows .mixedOrders = true := by kernel_rfl
theorem T_agg_2 : tAgg Try.prog 2 = some false := by kernel_rfl
theorem T_agg_23 : tAgg Try.prog 23 = some true := by kernel_rfl
theorem T_agg_25 : tAgg Try.prog 25 = some true := by kernel_rfl
theorem T_agg_27 : tAgg Try.prog 27 = some true := by kernel_rfl
theorem T_agg_28 : tAgg Try.prog 28 = some false := by kernel_rfl
theorem T_agg_3 : tAgg Try.prog 3 = some false := by kernel_rfl
theorem T_agg_4 : tAgg Try.prog 4 = some false := by kernel_rfl
theorem T_agg_46 : tAgg Try.prog 46 = some false := by kernel_rfl
theorem T_agg_62 : tAgg Try.prog 62 = some false := by kernel_rfl
theorem T_agg_64 : tAgg Try.prog 64 = some true := by kernel_rfl
theorem T_agg_72 : tAgg Try.prog 72 = some true := by kernel_rfl
theorem T_arr_25 : tArr Try.prog 25 = some (3, 23) := by kernel_rfl
theorem T_arr_40 : tArr Try.prog 40 = some (2, 25) := by kernel_rfl
theorem T_bool_4 : Try.prog.underlying 4 = some .bool := by kernel_rfl
theorem T_cells_23 : Try.prog.cellsOf 23 = 2 := by kernel_rfl
theorem T_elem_79 : tElem Try.prog 79 = some 23 := by kernel_rfl
theorem T_elem_82 : tElem Try.prog 82 = some 64 := by kernel_rfl
theorem T_eqg_25 : Try.prog.eqGuardType Try.prog.depth 25 = false := by kernel_rfl
theorem T_eqg_27 : Try.prog.eqGuardType Try.prog.depth 27 = false := by kernel_rfl
theorem T_eqg_64 : Try.prog.eqGuardType Try.prog.depth 64 = false := by kernel_rfl
theorem T_field_23_0 : tField Try.prog 23 0 = some 0 := by kernel_rfl
theorem T_field_23_1 : tField Try.prog 23 1 = some 1 := by kernel_rfl
theorem T_field_27_0 : tField Try.prog 27 0 = some 0 := by kernel_rfl
theorem T_field_27_1 : tField Try.prog 27 1 = some 1 := by kernel_rfl
theorem T_field_27_2 : tField Try.prog 27 2 = some 2 := by kernel_rfl
theorem T_field_48_0 : tField Try.prog 48 0 = some 0 := by kernel_rfl
theorem T_field_48_4 : tField Try.prog 48 4 = some 4 := by kernel_rfl
theorem T_field_56_0 : tField Try.prog 56 0 = some 0 := by kernel_rfl
theorem T_field_64_0 : tField Try.prog 64 0 = some 0 := by kernel_rfl
theorem T_field_64_1 : tField Try.prog 64 1 = some 1 := by kernel_rfl
theorem T_field_72_0 : tField Try.prog 72 0 = some 0 := by kernel_rfl
theorem T_field_72_1 : tField Try.prog 72 1 = some 1 := by kernel_rfl
theorem T_field_72_2 : tField Try.prog 72 2 = some 2 := by kernel_rfl
theorem T_fs_23 : tFs Try.prog 23 = some [(2, 0), (2, 1)] := by kernel_rfl
theorem T_fs_27 : tFs Try.prog 27 = some [(3, 0), (3, 1), (3, 2)] := by kernel_rfl
theorem T_fs_64 : tFs Try.prog 64 = some [(2, 0), (62, 1)] := by kernel_rfl
theorem T_info_23 : (Try.prog.info? 23).isSome = true := by kernel_rfl
theorem T_int_2 : tInt Try.prog 2 = some .i64 := by kernel_rfl
theorem T_int_3 : tInt Try.prog 3 = some .i64 := by kernel_rfl
theorem T_int_5 : tInt Try.prog 5 = some .u8 := by kernel_rfl
theorem T_int_62 : tInt Try.prog 62 = some .u64 := by kernel_rfl
theorem T_int_88 : tInt Try.prog 88 = some .u64 := by kernel_rfl
theorem T_places_23 : tPlaces Try.prog 23 = some #[(0, 1), (1, 1)] := by kernel_rfl
theorem T_places_27 : tPlaces Try.prog 27 = some #[(0, 1), (1, 1), (2, 1)] := by kernel_rfl
theorem T_places_48 : tPlaces Try.prog 48 = some #[(0, 1), (1, 1), (2, 1), (3, 1), (4, 1)] := by kernel_rfl
theorem T_places_56 : tPlaces Try.prog 56 = some #[(0, 1)] := by kernel_rfl
theorem T_places_64 : tPlaces Try.prog 64 = some #[(0, 1), (1, 1)] := by kernel_rfl
theorem T_places_72 : tPlaces Try.prog 72 = some #[(0, 1), (1, 1), (2, 1)] := by kernel_rfl
theorem T_size_23 : tSize Try.prog 23 = some 2 := by kernel_rfl
theorem T_size_25 : tSize Try.prog 25 = some 6 := by kernel_rfl
theorem T_size_27 : tSize Try.prog 27 = some 3 := by kernel_rfl
theorem T_size_28 : tSize Try.prog 28 = some 1 := by kernel_rfl
theorem T_size_3 : tSize Try.prog 3 = some 1 := by kernel_rfl
theorem T_size_64 : tSize Try.prog 64 = some 2 := by kernel_rfl
theorem T_size_72 : tSize Try.prog 72 = some 3 := by kernel_rfl
theorem T_string_9 : Try.prog.underlying 9 = some .string := by kernel_rfl
theorem T_und_2 : (Try.prog.underlying 2).isSome = true := by kernel_rfl
theorem T_und_3 : (Try.prog.underlying 3).isSome = true := by kernel_rfl
theorem T_und_5 : (Try.prog.underlying 5).isSome = true := by kernel_rfl
theorem T_und_62 : (Try.prog.underlying 62).isSome = true := by kernel_rfl
theorem T_zero_23 : tZero Try.prog 23 = some (.agg #[Iv 0, Iv 0]) := by kernel_rfl
theorem T_zero_25 : tZero Try.prog 25 = some (.agg #[Iv 0, Iv 0, Iv 0, Iv 0, Iv 0, Iv 0]) := by kernel_rfl
theorem T_zero_27 : tZero Try.prog 27 = some (.agg #[Iv 0, Iv 0, Iv 0]) := by kernel_rfl
theorem T_zero_40 : tZero Try.prog 40 = some (.agg #[Iv 0, Iv 0, Iv 0, Iv 0, Iv 0, Iv 0, Iv 0, Iv 0, Iv 0, Iv 0, Iv 0, Iv 0]) := by kernel_rfl
theorem T_zero_48 : tZero Try.prog 48 = some (.agg #[.nilFunc, .nilFunc, .nilFunc, .nilFunc, Iv 0]) := by kernel_rfl
theorem T_zero_56 : tZero Try.prog 56 = some (.agg #[Iv 0]) := by kernel_rfl
theorem T_zero_64 : tZero Try.prog 64 = some (.agg #[Iv 0, Uv 0]) := by kernel_rfl
theorem T_zero_72 : tZero Try.prog 72 = some (.agg #[Bv false, Uv 0, Uv 0]) := by kernel_rfl
theorem X_ext_41 : ExtIs Try.prog 41 sub64Row := fun args w v h => by
  rw [run_callFunc_extern Try.func41 (by kernel_rfl) (by kernel_rfl) (by kernel_rfl) (e := sub64Row) (by kernel_rfl), h]; rfl
def m_cells_outside (F : Nat)  (x1 : Int) (x2 : Int) : Option Bool :=
  some ((decide (x1 < (IntKind.i64.wrap (0 - x2) : Int))) || (decide (x1 > (x2 : Int))))
set_option maxHeartbeats 1000000 in
set_option maxRecDepth 8000 in
theorem m_cells_outside_ok (F : Nat)   (x1 : Int) (x2 : Int) (w0 : World)  (r : Bool) (hm : m_cells_outside F x1 x2 = some r) :
    Ret Try.prog 8 #[Iv x1, Iv x2] w0 (G := Unit) (fun _ => Bv r) (fun _ w => St w0 w noX [] []) := by
 unfold m_cells_outside at hm
 refine ret_of_W (lv := [Iv x1, Iv x2]) Try.func8 rfl rfl rfl (fun a hf => ?_)
 replace hf : Fr a 14 [] [(0, Iv x1), (1, Iv x2)] := hf
 have hS : St w0 w0 noX [] [] := St.borrow lendAll_nil
 refine W.seq ?_
 -- region 0
 refine W.regionL (l := [0]) rfl ?_
 refine O.val hf rfl rfl rfl (RunV.assign rfl) ?_; clear hf a; intro a hf
 refine O.nil ?_
 refine k_seq ?_
 refine W.seq ?_
 -- region 1
 refine W.regionL (l := [0, 1, 2, 3, 4, 5, 6, 7, 8, 9]) rfl ?_
 refine O.val hf rfl rfl rfl (RunV.move rfl) ?_; clear hf a; intro a hf
 refine O.val hf rfl rfl rfl (RunV.move rfl) ?_; clear hf a; intro a hf
 refine O.val (v := Iv (IntKind.i64.wrap (0 - x2))) hf rfl rfl rfl (RunV.neg rfl) ?_; clear hf a; intro a hf
 refine O.val (v := Bv (decide (x1 < (IntKind.i64.wrap (0 - x2) : Int)))) hf rfl rfl rfl (RunV.lss rfl rfl) ?_; clear hf a; intro a hf
 refine O.val hf rfl rfl rfl (RunV.move rfl) ?_; clear hf a; intro a hf
 refine O.cutN (l₁ := [5, 6, 7, 8]) (l₂ := _) (fun a w => Fr a 14 [] [(4, Bv false), (13, Bv ((decide (x1 < (IntKind.i64.wrap (0 - x2) : Int))) || (decide (x1 > (x2 : Int)))))] ∧ St w0 w noX [] []) rfl ?_ ?_
 ·rcases Bool.eq_false_or_eq_true (decide (x1 < (IntKind.i64.wrap (0 - x2) : Int))) with hb3 | hb3
  ·refine O.skipB hf rfl rfl rfl hb3 rfl ?_; clear hf a; intro a hf
   refine O.skipB hf rfl rfl rfl hb3 rfl ?_; clear hf a; intro a hf
   refine O.skipB hf rfl rfl rfl hb3 rfl ?_; clear hf a; intro a hf
   refine O.val (v := Bv ((decide (x1 < (IntKind.i64.wrap (0 - x2) : Int))) || (decide (x1 > (x2 : Int))))) hf rfl rfl rfl (RunV.pick rfl rfl rfl (by rw [hb3]; rfl)) ?_; clear hf a; intro a hf
   exact O.nil ⟨rfl, hf.to ⟨rfl, rfl, trivial⟩, hS⟩
  ·refine O.gvalB hf rfl rfl rfl hb3 rfl rfl (RunV.move rfl) ?_; clear hf a; intro a hf
   refine O.gvalB hf rfl rfl rfl hb3 rfl rfl (RunV.move rfl) ?_; clear hf a; intro a hf
   refine O.gvalB (v := Bv (decide (x1 > (x2 : Int)))) hf rfl rfl rfl hb3 rfl rfl (RunV.gtr rfl rfl) ?_; clear hf a; intro a hf
   refine O.val (v := Bv ((decide (x1 < (IntKind.i64.wrap (0 - x2) : Int))) || (decide (x1 > (x2 : Int))))) hf rfl rfl rfl (RunV.pick rfl rfl rfl (by rw [hb3]; rfl)) ?_; clear hf a; intro a hf
   exact O.nil ⟨rfl, hf.to ⟨rfl, rfl, trivial⟩, hS⟩
 clear hf hS a; try clear w
 rintro a w ⟨hf, hS⟩
 refine O.val hf rfl rfl rfl (RunV.assign rfl) ?_; clear hf a; intro a hf
 refine O.nil ?_
 refine k_seq ?_
 replace hf : Fr a 14 [] [(4, Bv ((decide (x1 < (IntKind.i64.wrap (0 - x2) : Int))) || (decide (x1 > (x2 : Int)))))] := hf.to ⟨rfl, trivial⟩
 refine W.ret ?_
 obtain rfl := Option.some.inj hm
 refine post1 hf rfl (ResOK.tmp rfl) ?_
 exact ⟨(), rfl, hS.noB⟩

def m_cells_CheckBox_j1 (F : Nat) (x7 : Bool) : Option Int :=
  if (x7) = true then (some 8) else (some 0)
def m_cells_CheckBox (F : Nat)  (x1 : Int) (x2 : Int) (x3 : Int) : Option Int :=
  if (((decide (x1 < (0 : Int))) || (decide (x1 > (6 : Int)))) || (decide ((if x3 < x2 then x3 else x2) < (0 : Int)))) = true then (m_cells_CheckBox_j1 F true) else (if 0 ≤ x1 then m_cells_CheckBox_j1 F (decide ((Int.fdiv (if x2 < x3 then x3 else x2) (2 ^ (min (Int.toNat x1) (IntKind.bits .i64)))) > (0 : Int))) else none)
set_option maxHeartbeats 1000000 in
set_option maxRecDepth 8000 in
theorem m_cells_CheckBox_ok (F : Nat)   (x1 : Int) (x2 : Int) (x3 : Int) (w0 : World)  (r : Int) (hm : m_cells_CheckBox F x1 x2 x3 = some r) :
    Ret Try.prog 9 #[.agg #[Iv x1, Iv x2, Iv x3]] w0 (G := Unit) (fun _ => Iv r) (fun _ w => St w0 w noX [] []) := by
 unfold m_cells_CheckBox at hm
 refine ret_of_W (lv := [.agg #[Iv x1, Iv x2, Iv x3]]) Try.func9 rfl rfl rfl (fun a hf => ?_)
 replace hf : Fr a 30 [] [(0, .agg #[Iv x1, Iv x2, Iv x3])] := hf
 have hS : St w0 w0 noX [] [] := St.borrow lendAll_nil
 refine W.seq ?_
 -- region 0
 refine W.regionL (l := [0, 1]) rfl ?_
 refine O.box (cs := #[Iv x1, Iv x2, Iv x3]) hf hS rfl rfl rfl rfl ?_
 clear hf hS a; intro b4 w a hb4 hS hf
 refine O.val hf rfl rfl rfl (RunV.assign rfl) ?_; clear hf a; intro a hf
 refine O.nil ?_
 refine k_seq ?_
 replace hf : Fr a 30 [] [(1, Pv b4 0), (2, Iv 0)] := hf.to ⟨rfl, rfl, trivial⟩
 refine W.seq ?_
 refine W.seq ?_
 -- region 1
 refine W.regionL (l := [0, 1, 2, 3, 4, 5, 6, 7, 8, 9, 10, 11, 12, 13, 14, 15, 16, 17, 18, 19, 20, 21, 22, 23, 24, 25, 26]) rfl ?_
 refine O.val hf rfl rfl rfl (RunV.field T_field_27_0 rfl rfl) ?_; clear hf a; intro a hf
 refine O.val hf rfl rfl rfl (RunV.load1 T_agg_3 rfl (hS.ptAt (i := 0) rfl) rfl) ?_; clear hf a; intro a hf
 refine O.val (v := Bv (decide (x1 < (0 : Int)))) hf rfl rfl rfl (RunV.lss rfl rfl) ?_; clear hf a; intro a hf
 refine O.val hf rfl rfl rfl (RunV.move rfl) ?_; clear hf a; intro a hf
 refine O.cutN (l₁ := [4, 5, 6, 7]) (l₂ := _) (fun a w => Fr a 30 [] [(1, Pv b4 0), (2, Iv 0), (10, Bv ((decide (x1 < (0 : Int))) || (decide (x1 > (6 : Int)))))] ∧ St w0 w noX [] [pt b4 (Cs #[Iv x1, Iv x2, Iv x3] 27)]) rfl ?_ ?_
 ·rcases Bool.eq_false_or_eq_true (decide (x1 < (0 : Int))) with hb5 | hb5
  ·refine O.skipB hf rfl rfl rfl hb5 rfl ?_; clear hf a; intro a hf
   refine O.skipB hf rfl rfl rfl hb5 rfl ?_; clear hf a; intro a hf
   refine O.skipB hf rfl rfl rfl hb5 rfl ?_; clear hf a; intro a hf
   refine O.val (v := Bv ((decide (x1 < (0 : Int))) || (decide (x1 > (6 : Int))))) hf rfl rfl rfl (RunV.pick rfl rfl rfl (by rw [hb5]; rfl)) ?_; clear hf a; intro a hf
   exact O.nil ⟨rfl, hf.to ⟨rfl, rfl, rfl, trivial⟩, hS⟩
  ·refine O.gvalB hf rfl rfl rfl hb5 rfl rfl (RunV.field T_field_27_0 rfl rfl) ?_; clear hf a; intro a hf
   refine O.gvalB hf rfl rfl rfl hb5 rfl rfl (RunV.load1 T_agg_3 rfl (hS.ptAt (i := 0) rfl) rfl) ?_; clear hf a; intro a hf
   refine O.gvalB (v := Bv (decide (x1 > (6 : Int)))) hf rfl rfl rfl hb5 rfl rfl (RunV.gtr rfl rfl) ?_; clear hf a; intro a hf
   refine O.val (v := Bv ((decide (x1 < (0 : Int))) || (decide (x1 > (6 : Int))))) hf rfl rfl rfl (RunV.pick rfl rfl rfl (by rw [hb5]; rfl)) ?_; clear hf a; intro a hf
   exact O.nil ⟨rfl, hf.to ⟨rfl, rfl, rfl, trivial⟩, hS⟩
 clear hf hS a; try clear w
 rintro a w ⟨hf, hS⟩
 refine O.val hf rfl rfl rfl (RunV.move rfl) ?_; clear hf a; intro a hf
 refine O.cutN (l₁ := [9, 10, 11, 12, 13, 14, 15]) (l₂ := _) (fun a w => Fr a 30 [] [(1, Pv b4 0), (2, Iv 0), (18, Bv (((decide (x1 < (0 : Int))) || (decide (x1 > (6 : Int)))) || (decide ((if x3 < x2 then x3 else x2) < (0 : Int)))))] ∧ St w0 w noX [] [pt b4 (Cs #[Iv x1, Iv x2, Iv x3] 27)]) rfl ?_ ?_
 ·rcases Bool.eq_false_or_eq_true ((decide (x1 < (0 : Int))) || (decide (x1 > (6 : Int)))) with hb6 | hb6
  ·refine O.skipB hf rfl rfl rfl hb6 rfl ?_; clear hf a; intro a hf
   refine O.skipB hf rfl rfl rfl hb6 rfl ?_; clear hf a; intro a hf
   refine O.skipB hf rfl rfl rfl hb6 rfl ?_; clear hf a; intro a hf
   refine O.skipB hf rfl rfl rfl hb6 rfl ?_; clear hf a; intro a hf
   refine O.skipB hf rfl rfl rfl hb6 rfl ?_; clear hf a; intro a hf
   refine O.skipB hf rfl rfl rfl hb6 rfl ?_; clear hf a; intro a hf
   refine O.val (v := Bv (((decide (x1 < (0 : Int))) || (decide (x1 > (6 : Int)))) || (decide ((if x3 < x2 then x3 else x2) < (0 : Int))))) hf rfl rfl rfl (RunV.pick rfl rfl rfl (by rw [hb6]; rfl)) ?_; clear hf a; intro a hf
   exact O.nil ⟨rfl, hf.to ⟨rfl, rfl, rfl, trivial⟩, hS⟩
  ·refine O.gvalB hf rfl rfl rfl hb6 rfl rfl (RunV.field T_field_27_1 rfl rfl) ?_; clear hf a; intro a hf
   refine O.gvalB hf rfl rfl rfl hb6 rfl rfl (RunV.load1 T_agg_3 rfl (hS.ptAt (i := 0) rfl) rfl) ?_; clear hf a; intro a hf
   refine O.gvalB hf rfl rfl rfl hb6 rfl rfl (RunV.field T_field_27_2 rfl rfl) ?_; clear hf a; intro a hf
   refine O.gvalB hf rfl rfl rfl hb6 rfl rfl (RunV.load1 T_agg_3 rfl (hS.ptAt (i := 0) rfl) rfl) ?_; clear hf a; intro a hf
   refine O.gvalB (v := Iv (if x3 < x2 then x3 else x2)) hf rfl rfl rfl hb6 rfl rfl (RunV.min rfl rfl) ?_; clear hf a; intro a hf
   refine O.gvalB (v := Bv (decide ((if x3 < x2 then x3 else x2) < (0 : Int)))) hf rfl rfl rfl hb6 rfl rfl (RunV.lss rfl rfl) ?_; clear hf a; intro a hf
   refine O.val (v := Bv (((decide (x1 < (0 : Int))) || (decide (x1 > (6 : Int)))) || (decide ((if x3 < x2 then x3 else x2) < (0 : Int))))) hf rfl rfl rfl (RunV.pick rfl rfl rfl (by rw [hb6]; rfl)) ?_; clear hf a; intro a hf
   exact O.nil ⟨rfl, hf.to ⟨rfl, rfl, rfl, trivial⟩, hS⟩
 clear hf hS a; try clear w
 rintro a w ⟨hf, hS⟩
 refine O.val hf rfl rfl rfl (RunV.move rfl) ?_; clear hf a; intro a hf
 -- a guarded part
 refine O.cutN (l₁ := [17, 18, 19, 20, 21, 22, 23, 24, 25, 26]) (l₂ := _) (fun a w => ∃ (x7 : Bool), Fr a 30 [] [(2, Iv 0), (29, Bv x7)] ∧ St w0 w noX [] [] ∧ m_cells_CheckBox_j1 F x7 = some r) rfl ?_ ?_
 ·rcases Bool.eq_false_or_eq_true (((decide (x1 < (0 : Int))) || (decide (x1 > (6 : Int)))) || (decide ((if x3 < x2 then x3 else x2) < (0 : Int)))) with hb9 | hb9
  ·replace hm := hm_t hm hb9
   refine O.skipB hf rfl rfl rfl hb9 rfl ?_; clear hf a; intro a hf
   refine O.skipB hf rfl rfl rfl hb9 rfl ?_; clear hf a; intro a hf
   refine O.skipB hf rfl rfl rfl hb9 rfl ?_; clear hf a; intro a hf
   refine O.skipB hf rfl rfl rfl hb9 rfl ?_; clear hf a; intro a hf
   refine O.skipB hf rfl rfl rfl hb9 rfl ?_; clear hf a; intro a hf
   refine O.skipB hf rfl rfl rfl hb9 rfl ?_; clear hf a; intro a hf
   refine O.skipB hf rfl rfl rfl hb9 rfl ?_; clear hf a; intro a hf
   refine O.skipB hf rfl rfl rfl hb9 rfl ?_; clear hf a; intro a hf
   refine O.skipB hf rfl rfl rfl hb9 rfl ?_; clear hf a; intro a hf
   refine O.val (v := Bv true) hf rfl rfl rfl (RunV.pick rfl rfl rfl (by rw [hb9]; rfl)) ?_; clear hf a; intro a hf
   replace hS := hS.sub (N := []) (.cons _ .slnil)
   exact O.nil ⟨rfl, true, hf.to ⟨rfl, rfl, trivial⟩, hS, hm⟩
  ·replace hm := hm_f hm hb9
   refine O.gvalB hf rfl rfl rfl hb9 rfl rfl (RunV.field T_field_27_1 rfl rfl) ?_; clear hf a; intro a hf
   refine O.gvalB hf rfl rfl rfl hb9 rfl rfl (RunV.load1 T_agg_3 rfl (hS.ptAt (i := 0) rfl) rfl) ?_; clear hf a; intro a hf
   refine O.gvalB hf rfl rfl rfl hb9 rfl rfl (RunV.field T_field_27_2 rfl rfl) ?_; clear hf a; intro a hf
   refine O.gvalB hf rfl rfl rfl hb9 rfl rfl (RunV.load1 T_agg_3 rfl (hS.ptAt (i := 0) rfl) rfl) ?_; clear hf a; intro a hf
   refine O.gvalB (v := Iv (if x2 < x3 then x3 else x2)) hf rfl rfl rfl hb9 rfl rfl (RunV.max rfl rfl) ?_; clear hf a; intro a hf
   refine O.gvalB hf rfl rfl rfl hb9 rfl rfl (RunV.field T_field_27_0 rfl rfl) ?_; clear hf a; intro a hf
   refine O.gvalB hf rfl rfl rfl hb9 rfl rfl (RunV.load1 T_agg_3 rfl (hS.ptAt (i := 0) rfl) rfl) ?_; clear hf a; intro a hf
   obtain ⟨hg10, hm⟩ := hm_g hm
   refine O.gvalB (v := Iv (Int.fdiv (if x2 < x3 then x3 else x2) (2 ^ (min (Int.toNat x1) (IntKind.bits .i64))))) hf rfl rfl rfl hb9 rfl rfl (RunV.shr rfl rfl hg10) ?_; clear hf a; intro a hf
   refine O.gvalB (v := Bv (decide ((Int.fdiv (if x2 < x3 then x3 else x2) (2 ^ (min (Int.toNat x1) (IntKind.bits .i64)))) > (0 : Int)))) hf rfl rfl rfl hb9 rfl rfl (RunV.gtr rfl rfl) ?_; clear hf a; intro a hf
   refine O.val (v := Bv (decide ((Int.fdiv (if x2 < x3 then x3 else x2) (2 ^ (min (Int.toNat x1) (IntKind.bits .i64)))) > (0 : Int)))) hf rfl rfl rfl (RunV.pick rfl rfl rfl (by rw [hb9]; rfl)) ?_; clear hf a; intro a hf
   replace hS := hS.sub (N := []) (.cons _ .slnil)
   exact O.nil ⟨rfl, decide ((Int.fdiv (if x2 < x3 then x3 else x2) (2 ^ (min (Int.toNat x1) (IntKind.bits .i64)))) > (0 : Int)), hf.to ⟨rfl, rfl, trivial⟩, hS, hm⟩
 clear hf hS hm a; try clear w
 rintro a w ⟨x7, hf, hS, hm⟩
 unfold m_cells_CheckBox_j1 at hm
 refine O.nil ?_
 refine k_seq ?_
 refine W.if_ hf rfl (fun hc8 => ?_) (fun hc8 => ?_)
 ·replace hm := hm_t hm hc8
  refine W.seq ?_
  -- region 2
  refine W.regionL (l := [0]) rfl ?_
  refine O.val hf rfl rfl rfl (RunV.assign rfl) ?_; clear hf a; intro a hf
  refine O.nil ?_
  refine k_seq ?_
  replace hf : Fr a 30 [] [(2, Iv 8)] := hf.to ⟨rfl, trivial⟩
  refine W.ret ?_
  refine k_then_ret ?_
  obtain rfl := Option.some.inj hm
  refine post1 hf rfl (ResOK.tmp rfl) ?_
  exact ⟨(), rfl, hS.noB⟩
 ·replace hm := hm_f hm hc8
  refine W.skip ?_
  refine k_seq ?_
  replace hf : Fr a 30 [] [(2, Iv 0)] := hf.to ⟨rfl, trivial⟩
  refine W.seq ?_
  -- region 3
  refine W.regionL (l := [0]) rfl ?_
  refine O.val hf rfl rfl rfl (RunV.assign rfl) ?_; clear hf a; intro a hf
  refine O.nil ?_
  refine k_seq ?_
  refine W.ret ?_
  obtain rfl := Option.some.inj hm
  refine post1 hf rfl (ResOK.tmp rfl) ?_
  exact ⟨(), rfl, hS.noB⟩

def m_cells_Of_j1 (F : Nat) (x1 : Int) (x2 : Int) (x3 : Int) (x8 : Bool) : Option (Int × Int × Int × Int) :=
  if (x8) = true then (some (0, 0, 0, 16)) else (if 0 ≤ x1 then (some (IntKind.i64.wrap ((IntKind.i64.wrap (1 * 2 ^ (min (Int.toNat x1) (IntKind.bits .i64)))) - 1))).bind fun x11 => if 0 ≤ x1 then if (Int.fdiv 8796093022208 (2 ^ (min (Int.toNat x1) (IntKind.bits .i64)))) ≠ (0 : Int) then (some (IntKind.i64.wrap (Int.tdiv x2 (Int.fdiv 8796093022208 (2 ^ (min (Int.toNat x1) (IntKind.bits .i64))))))).bind fun x14 => if 0 ≤ x1 then if (Int.fdiv 137438953472 (2 ^ (min (Int.toNat x1) (IntKind.bits .i64)))) ≠ (0 : Int) then (some (IntKind.i64.wrap (Int.tdiv (IntKind.i64.wrap (x3 + 68719476736)) (Int.fdiv 137438953472 (2 ^ (min (Int.toNat x1) (IntKind.bits .i64))))))).bind fun x17 => (m_cells_CheckBox F x1 x14 x17).bind fun x19 => if x19 = (0 : Int) then (some (x1, x14, x17, 0)) else ((some (if x11 < x14 then x11 else x14)).bind fun x21 => (some (if x11 < x17 then x11 else x17)).bind fun x22 => some (x1, x21, x22, 0)) else none else none else none else none else none)
def m_cells_Of (F : Nat)  (x1 : Int) (x2 : Int) (x3 : Int) : Option (Int × Int × Int × Int) :=
  if ((decide (x1 < (0 : Int))) || (decide (x1 > (6 : Int)))) = true then (some (0, 0, 0, 2)) else (if ((decide (x2 < (0 : Int))) || (decide (x2 > (8796093022208 : Int)))) = true then (m_cells_Of_j1 F x1 x2 x3 true) else ((m_cells_outside F x3 68719476736).bind fun x24 => m_cells_Of_j1 F x1 x2 x3 x24))
set_option maxHeartbeats 1000000 in
set_option maxRecDepth 8000 in
theorem m_cells_Of_ok (F : Nat)   (x1 : Int) (x2 : Int) (x3 : Int) (w0 : World)  (r : Int × Int × Int × Int) (hm : m_cells_Of F x1 x2 x3 = some r) :
    Ret Try.prog 4 #[Iv x1, Iv x2, Iv x3] w0 (G := Unit) (fun _ => .tuple #[.agg #[Iv r.1, Iv r.2.1, Iv r.2.2.1], Iv r.2.2.2]) (fun _ w => St w0 w noX [] []) := by
 unfold m_cells_Of at hm
 refine ret_of_W (lv := [Iv x1, Iv x2, Iv x3]) Try.func4 rfl rfl rfl (fun a hf => ?_)
 replace hf : Fr a 58 [] [(0, Iv x1), (1, Iv x2), (2, Iv x3)] := hf
 have hS : St w0 w0 noX [] [] := St.borrow lendAll_nil
 refine W.seq ?_
 -- region 0
 refine W.regionL (l := [0, 1]) rfl ?_
 refine O.alloc (cs := #[Iv 0, Iv 0, Iv 0]) hf hS rfl rfl T_zero_27 rfl ?_
 clear hf hS a; intro b4 w a hb4 hS hf
 refine O.val hf rfl rfl rfl (RunV.assign rfl) ?_; clear hf a; intro a hf
 refine O.nil ?_
 refine k_seq ?_
 refine W.seq ?_
 refine W.seq ?_
 -- region 1
 refine W.regionL (l := [0, 1, 2, 3, 4, 5]) rfl ?_
 refine O.val hf rfl rfl rfl (RunV.move rfl) ?_; clear hf a; intro a hf
 refine O.val (v := Bv (decide (x1 < (0 : Int)))) hf rfl rfl rfl (RunV.lss rfl rfl) ?_; clear hf a; intro a hf
 refine O.val hf rfl rfl rfl (RunV.move rfl) ?_; clear hf a; intro a hf
 refine O.cutN (l₁ := [3, 4, 5]) (l₂ := _) (fun a w => Fr a 58 [] [(0, Iv x1), (1, Iv x2), (2, Iv x3), (6, Pv b4 0), (7, Iv 0), (17, Bv ((decide (x1 < (0 : Int))) || (decide (x1 > (6 : Int)))))] ∧ St w0 w noX [] [pt b4 (Cs #[Iv 0, Iv 0, Iv 0] 27)]) rfl ?_ ?_
 ·rcases Bool.eq_false_or_eq_true (decide (x1 < (0 : Int))) with hb5 | hb5
  ·refine O.skipB hf rfl rfl rfl hb5 rfl ?_; clear hf a; intro a hf
   refine O.skipB hf rfl rfl rfl hb5 rfl ?_; clear hf a; intro a hf
   refine O.val (v := Bv ((decide (x1 < (0 : Int))) || (decide (x1 > (6 : Int))))) hf rfl rfl rfl (RunV.pick rfl rfl rfl (by rw [hb5]; rfl)) ?_; clear hf a; intro a hf
   exact O.nil ⟨rfl, hf.to ⟨rfl, rfl, rfl, rfl, rfl, rfl, trivial⟩, hS⟩
  ·refine O.gvalB hf rfl rfl rfl hb5 rfl rfl (RunV.move rfl) ?_; clear hf a; intro a hf
   refine O.gvalB (v := Bv (decide (x1 > (6 : Int)))) hf rfl rfl rfl hb5 rfl rfl (RunV.gtr rfl rfl) ?_; clear hf a; intro a hf
   refine O.val (v := Bv ((decide (x1 < (0 : Int))) || (decide (x1 > (6 : Int))))) hf rfl rfl rfl (RunV.pick rfl rfl rfl (by rw [hb5]; rfl)) ?_; clear hf a; intro a hf
   exact O.nil ⟨rfl, hf.to ⟨rfl, rfl, rfl, rfl, rfl, rfl, trivial⟩, hS⟩
 clear hf hS a; try clear w
 rintro a w ⟨hf, hS⟩
 refine O.nil ?_
 refine k_seq ?_
 refine W.if_ hf rfl (fun hc6 => ?_) (fun hc6 => ?_)
 ·replace hm := hm_t hm hc6
  refine W.seq ?_
  -- region 2
  refine W.regionL (l := [0, 1, 2]) rfl ?_
  refine O.val (v := .agg #[Iv 0, Iv 0, Iv 0]) hf rfl rfl rfl (RunV.buildS (cs' := #[Iv 0, Iv 0, Iv 0]) T_places_27 T_zero_27 rfl (by kernel_rfl)) ?_; clear hf a; intro a hf
  refine O.store (j := 0) (cs' := #[Iv 0, Iv 0, Iv 0]) (M' := [pt b4 (Cs #[Iv 0, Iv 0, Iv 0] 27)]) hf hS rfl rfl rfl T_size_27 rfl rfl rfl (Nat.le_of_ble_eq_true rfl) rfl rfl ?_
  clear hS; intro w hS
  refine O.val hf rfl rfl rfl (RunV.assign rfl) ?_; clear hf a; intro a hf
  refine O.nil ?_
  refine k_seq ?_
  replace hf : Fr a 58 [] [(0, Iv x1), (1, Iv x2), (2, Iv x3), (6, Pv b4 0), (7, Iv 2)] := hf.to ⟨rfl, rfl, rfl, rfl, rfl, trivial⟩
  refine W.ret ?_
  refine k_then_ret ?_
  obtain rfl := Option.some.inj hm
  refine post2 hf rfl (ResOK.cellN (cs' := #[Iv 0, Iv 0, Iv 0]) rfl T_agg_27 T_size_27 (hS.ptAt (i := 0) rfl) (Nat.le_of_ble_eq_true rfl) rfl) (ResOK.tmp rfl) ?_
  replace hS := hS.sub (N := []) (.cons _ .slnil)
  exact ⟨(), rfl, hS.noB⟩
 ·replace hm := hm_f hm hc6
  refine W.skip ?_
  refine k_seq ?_
  replace hf : Fr a 58 [] [(0, Iv x1), (1, Iv x2), (2, Iv x3), (6, Pv b4 0), (7, Iv 0)] := hf.to ⟨rfl, rfl, rfl, rfl, rfl, trivial⟩
  refine W.seq ?_
  refine W.seq ?_
  -- region 3
  refine W.regionL (l := [0, 1, 2, 3, 4, 5, 6, 7, 8, 9]) rfl ?_
  refine O.val hf rfl rfl rfl (RunV.move rfl) ?_; clear hf a; intro a hf
  refine O.val (v := Bv (decide (x2 < (0 : Int)))) hf rfl rfl rfl (RunV.lss rfl rfl) ?_; clear hf a; intro a hf
  refine O.val hf rfl rfl rfl (RunV.move rfl) ?_; clear hf a; intro a hf
  refine O.cutN (l₁ := [3, 4, 5]) (l₂ := _) (fun a w => Fr a 58 [] [(0, Iv x1), (1, Iv x2), (2, Iv x3), (6, Pv b4 0), (7, Iv 0), (24, Bv ((decide (x2 < (0 : Int))) || (decide (x2 > (8796093022208 : Int)))))] ∧ St w0 w noX [] [pt b4 (Cs #[Iv 0, Iv 0, Iv 0] 27)]) rfl ?_ ?_
  ·rcases Bool.eq_false_or_eq_true (decide (x2 < (0 : Int))) with hb7 | hb7
   ·refine O.skipB hf rfl rfl rfl hb7 rfl ?_; clear hf a; intro a hf
    refine O.skipB hf rfl rfl rfl hb7 rfl ?_; clear hf a; intro a hf
    refine O.val (v := Bv ((decide (x2 < (0 : Int))) || (decide (x2 > (8796093022208 : Int))))) hf rfl rfl rfl (RunV.pick rfl rfl rfl (by rw [hb7]; rfl)) ?_; clear hf a; intro a hf
    exact O.nil ⟨rfl, hf.to ⟨rfl, rfl, rfl, rfl, rfl, rfl, trivial⟩, hS⟩
   ·refine O.gvalB hf rfl rfl rfl hb7 rfl rfl (RunV.move rfl) ?_; clear hf a; intro a hf
    refine O.gvalB (v := Bv (decide (x2 > (8796093022208 : Int)))) hf rfl rfl rfl hb7 rfl rfl (RunV.gtr rfl rfl) ?_; clear hf a; intro a hf
    refine O.val (v := Bv ((decide (x2 < (0 : Int))) || (decide (x2 > (8796093022208 : Int))))) hf rfl rfl rfl (RunV.pick rfl rfl rfl (by rw [hb7]; rfl)) ?_; clear hf a; intro a hf
    exact O.nil ⟨rfl, hf.to ⟨rfl, rfl, rfl, rfl, rfl, rfl, trivial⟩, hS⟩
  clear hf hS a; try clear w
  rintro a w ⟨hf, hS⟩
  refine O.val hf rfl rfl rfl (RunV.move rfl) ?_; clear hf a; intro a hf
  -- a guarded part
  refine O.cutN (l₁ := [7, 8, 9]) (l₂ := _) (fun a w => ∃ (x8 : Bool), Fr a 58 [] [(0, Iv x1), (1, Iv x2), (2, Iv x3), (6, Pv b4 0), (7, Iv 0), (28, Bv x8)] ∧ St w0 w noX [] [pt b4 (Cs #[Iv 0, Iv 0, Iv 0] 27)] ∧ m_cells_Of_j1 F x1 x2 x3 x8 = some r) rfl ?_ ?_
  ·rcases Bool.eq_false_or_eq_true ((decide (x2 < (0 : Int))) || (decide (x2 > (8796093022208 : Int)))) with hb23 | hb23
   ·replace hm := hm_t hm hb23
    refine O.skipB hf rfl rfl rfl hb23 rfl ?_; clear hf a; intro a hf
    refine O.skipB hf rfl rfl rfl hb23 rfl ?_; clear hf a; intro a hf
    refine O.val (v := Bv true) hf rfl rfl rfl (RunV.pick rfl rfl rfl (by rw [hb23]; rfl)) ?_; clear hf a; intro a hf
    exact O.nil ⟨rfl, true, hf.to ⟨rfl, rfl, rfl, rfl, rfl, rfl, trivial⟩, hS, hm⟩
   ·replace hm := hm_f hm hb23
    refine O.gvalB hf rfl rfl rfl hb23 rfl rfl (RunV.move rfl) ?_; clear hf a; intro a hf
    obtain ⟨x24, hx24, hm⟩ := hm_b hm
    refine O.gcallR hf rfl rfl rfl hb23 rfl rfl (RunE.call (av := #[Iv x3, Iv 68719476736]) C_ok_8 rfl rfl rfl) (m_cells_outside_ok F x3 68719476736 _ x24 hx24) ?_
    clear hf a; rintro _ w hS1 a hf
    replace hf : Fr a _ _ ((27, Bv x24) :: _) := hf
    replace hS := (hS.call hS1).eqM (N := [pt b4 (Cs #[Iv 0, Iv 0, Iv 0] 27)]) rfl
    clear hS1
    refine O.val (v := Bv x24) hf rfl rfl rfl (RunV.pick rfl rfl rfl (by rw [hb23]; rfl)) ?_; clear hf a; intro a hf
    exact O.nil ⟨rfl, x24, hf.to ⟨rfl, rfl, rfl, rfl, rfl, rfl, trivial⟩, hS, hm⟩
  clear hf hS hm a; try clear w
  rintro a w ⟨x8, hf, hS, hm⟩
  unfold m_cells_Of_j1 at hm
  refine O.nil ?_
  refine k_seq ?_
  refine W.if_ hf rfl (fun hc9 => ?_) (fun hc9 => ?_)
  ·replace hm := hm_t hm hc9
   refine W.seq ?_
   -- region 4
   refine W.regionL (l := [0, 1, 2]) rfl ?_
   refine O.val (v := .agg #[Iv 0, Iv 0, Iv 0]) hf rfl rfl rfl (RunV.buildS (cs' := #[Iv 0, Iv 0, Iv 0]) T_places_27 T_zero_27 rfl (by kernel_rfl)) ?_; clear hf a; intro a hf
   refine O.store (j := 0) (cs' := #[Iv 0, Iv 0, Iv 0]) (M' := [pt b4 (Cs #[Iv 0, Iv 0, Iv 0] 27)]) hf hS rfl rfl rfl T_size_27 rfl rfl rfl (Nat.le_of_ble_eq_true rfl) rfl rfl ?_
   clear hS; intro w hS
   refine O.val hf rfl rfl rfl (RunV.assign rfl) ?_; clear hf a; intro a hf
   refine O.nil ?_
   refine k_seq ?_
   replace hf : Fr a 58 [] [(0, Iv x1), (1, Iv x2), (2, Iv x3), (6, Pv b4 0), (7, Iv 16)] := hf.to ⟨rfl, rfl, rfl, rfl, rfl, trivial⟩
   refine W.ret ?_
   refine k_then_ret ?_
   obtain rfl := Option.some.inj hm
   refine post2 hf rfl (ResOK.cellN (cs' := #[Iv 0, Iv 0, Iv 0]) rfl T_agg_27 T_size_27 (hS.ptAt (i := 0) rfl) (Nat.le_of_ble_eq_true rfl) rfl) (ResOK.tmp rfl) ?_
   replace hS := hS.sub (N := []) (.cons _ .slnil)
   exact ⟨(), rfl, hS.noB⟩
  ·replace hm := hm_f hm hc9
   refine W.skip ?_
   refine k_seq ?_
   replace hf : Fr a 58 [] [(0, Iv x1), (1, Iv x2), (2, Iv x3), (6, Pv b4 0), (7, Iv 0)] := hf.to ⟨rfl, rfl, rfl, rfl, rfl, trivial⟩
   refine W.seq ?_
   -- region 5
   refine W.regionL (l := [0, 1, 2, 3]) rfl ?_
   refine O.val hf rfl rfl rfl (RunV.move rfl) ?_; clear hf a; intro a hf
   obtain ⟨hg10, hm⟩ := hm_g hm
   refine O.val (v := Iv (IntKind.i64.wrap (1 * 2 ^ (min (Int.toNat x1) (IntKind.bits .i64))))) hf rfl rfl rfl (RunV.shl rfl rfl hg10) ?_; clear hf a; intro a hf
   refine O.val (v := Iv (IntKind.i64.wrap ((IntKind.i64.wrap (1 * 2 ^ (min (Int.toNat x1) (IntKind.bits .i64)))) - 1))) hf rfl rfl rfl (RunV.sub rfl rfl) ?_; clear hf a; intro a hf
   refine O.val hf rfl rfl rfl (RunV.assign rfl) ?_; clear hf a; intro a hf
   refine O.nil ?_
   refine k_seq ?_
   replace hf : Fr a 58 [] [(0, Iv x1), (1, Iv x2), (2, Iv x3), (6, Pv b4 0), (7, Iv 0), (8, Iv (IntKind.i64.wrap ((IntKind.i64.wrap (1 * 2 ^ (min (Int.toNat x1) (IntKind.bits .i64)))) - 1)))] := hf.to ⟨rfl, rfl, rfl, rfl, rfl, rfl, trivial⟩
   obtain ⟨x11, hx11, hm⟩ := hm_b hm
   rw [Option.some.inj hx11] at hf
   refine W.seq ?_
   -- region 6
   refine W.regionL (l := [0, 1, 2, 3, 4]) rfl ?_
   refine O.val hf rfl rfl rfl (RunV.move rfl) ?_; clear hf a; intro a hf
   refine O.val hf rfl rfl rfl (RunV.move rfl) ?_; clear hf a; intro a hf
   obtain ⟨hg12, hm⟩ := hm_g hm
   refine O.val (v := Iv (Int.fdiv 8796093022208 (2 ^ (min (Int.toNat x1) (IntKind.bits .i64))))) hf rfl rfl rfl (RunV.shr rfl rfl hg12) ?_; clear hf a; intro a hf
   obtain ⟨hg13, hm⟩ := hm_g hm
   refine O.val (v := Iv (IntKind.i64.wrap (Int.tdiv x2 (Int.fdiv 8796093022208 (2 ^ (min (Int.toNat x1) (IntKind.bits .i64))))))) hf rfl rfl rfl (RunV.quo rfl rfl hg13) ?_; clear hf a; intro a hf
   refine O.val hf rfl rfl rfl (RunV.assign rfl) ?_; clear hf a; intro a hf
   refine O.nil ?_
   refine k_seq ?_
   replace hf : Fr a 58 [] [(0, Iv x1), (2, Iv x3), (6, Pv b4 0), (7, Iv 0), (8, Iv x11), (9, Iv (IntKind.i64.wrap (Int.tdiv x2 (Int.fdiv 8796093022208 (2 ^ (min (Int.toNat x1) (IntKind.bits .i64)))))))] := hf.to ⟨rfl, rfl, rfl, rfl, rfl, rfl, trivial⟩
   obtain ⟨x14, hx14, hm⟩ := hm_b hm
   rw [Option.some.inj hx14] at hf
   refine W.seq ?_
   -- region 7
   refine W.regionL (l := [0, 1, 2, 3, 4, 5]) rfl ?_
   refine O.val hf rfl rfl rfl (RunV.move rfl) ?_; clear hf a; intro a hf
   refine O.val (v := Iv (IntKind.i64.wrap (x3 + 68719476736))) hf rfl rfl rfl (RunV.add rfl rfl) ?_; clear hf a; intro a hf
   refine O.val hf rfl rfl rfl (RunV.move rfl) ?_; clear hf a; intro a hf
   obtain ⟨hg15, hm⟩ := hm_g hm
   refine O.val (v := Iv (Int.fdiv 137438953472 (2 ^ (min (Int.toNat x1) (IntKind.bits .i64))))) hf rfl rfl rfl (RunV.shr rfl rfl hg15) ?_; clear hf a; intro a hf
   obtain ⟨hg16, hm⟩ := hm_g hm
   refine O.val (v := Iv (IntKind.i64.wrap (Int.tdiv (IntKind.i64.wrap (x3 + 68719476736)) (Int.fdiv 137438953472 (2 ^ (min (Int.toNat x1) (IntKind.bits .i64))))))) hf rfl rfl rfl (RunV.quo rfl rfl hg16) ?_; clear hf a; intro a hf
   refine O.val hf rfl rfl rfl (RunV.assign rfl) ?_; clear hf a; intro a hf
   refine O.nil ?_
   refine k_seq ?_
   replace hf : Fr a 58 [] [(0, Iv x1), (6, Pv b4 0), (7, Iv 0), (8, Iv x11), (9, Iv x14), (10, Iv (IntKind.i64.wrap (Int.tdiv (IntKind.i64.wrap (x3 + 68719476736)) (Int.fdiv 137438953472 (2 ^ (min (Int.toNat x1) (IntKind.bits .i64)))))))] := hf.to ⟨rfl, rfl, rfl, rfl, rfl, rfl, trivial⟩
   obtain ⟨x17, hx17, hm⟩ := hm_b hm
   rw [Option.some.inj hx17] at hf
   refine W.seq ?_
   refine W.seq ?_
   -- region 8
   refine W.regionL (l := [0, 1, 2, 3, 4, 5]) rfl ?_
   refine O.val hf rfl rfl rfl (RunV.move rfl) ?_; clear hf a; intro a hf
   refine O.val hf rfl rfl rfl (RunV.move rfl) ?_; clear hf a; intro a hf
   refine O.val hf rfl rfl rfl (RunV.move rfl) ?_; clear hf a; intro a hf
   refine O.val (v := .agg #[Iv x1, Iv x14, Iv x17]) hf rfl rfl rfl (RunV.buildS (cs' := #[Iv x1, Iv x14, Iv x17]) T_places_27 T_zero_27 rfl (by kernel_rfl)) ?_; clear hf a; intro a hf
   refine O.alloc (cs := #[Iv 0, Iv 0, Iv 0]) hf hS rfl rfl T_zero_27 rfl ?_
   clear hf hS a; intro b18 w a hb18 hS hf
   refine O.store (j := 0) (cs' := #[Iv x1, Iv x14, Iv x17]) (M' := [pt b18 (Cs #[Iv x1, Iv x14, Iv x17] 27), pt b4 (Cs #[Iv 0, Iv 0, Iv 0] 27)]) hf hS rfl rfl rfl T_size_27 rfl rfl rfl (Nat.le_of_ble_eq_true rfl) rfl rfl ?_
   clear hS; intro w hS
   refine O.nil ?_
   refine k_seq ?_
   replace hf : Fr a 58 [] [(0, Iv x1), (6, Pv b4 0), (7, Iv 0), (8, Iv x11), (9, Iv x14), (10, Iv x17), (11, Pv b18 0)] := hf.to ⟨rfl, rfl, rfl, rfl, rfl, rfl, rfl, trivial⟩
   refine W.seq ?_
   -- region 9
   refine W.regionL (l := [0, 1, 2]) rfl ?_
   refine O.val hf rfl rfl rfl (RunV.loadN (cs' := #[Iv x1, Iv x14, Iv x17]) T_agg_27 T_size_27 rfl (hS.ptAt (i := 0) rfl) (Nat.le_of_ble_eq_true rfl) rfl) ?_; clear hf a; intro a hf
   obtain ⟨x19, hx19, hm⟩ := hm_b hm
   refine O.callR hf rfl rfl rfl (RunE.call (av := #[.agg #[Iv x1, Iv x14, Iv x17]]) C_ok_9 rfl rfl rfl) (m_cells_CheckBox_ok F x1 x14 x17 _ x19 hx19) ?_
   clear hf a; rintro _ w hS1 a hf
   replace hf : Fr a _ _ ((47, Iv x19) :: _) := hf
   replace hS := (hS.call hS1).eqM (N := [pt b18 (Cs #[Iv x1, Iv x14, Iv x17] 27), pt b4 (Cs #[Iv 0, Iv 0, Iv 0] 27)]) rfl
   clear hS1
   refine O.val (v := Bv (decide (x19 = (0 : Int)))) hf rfl rfl rfl (RunV.eql rfl rfl) ?_; clear hf a; intro a hf
   refine O.nil ?_
   refine k_seq ?_
   replace hf : Fr a 58 [] [(0, Iv x1), (6, Pv b4 0), (7, Iv 0), (8, Iv x11), (9, Iv x14), (10, Iv x17), (11, Pv b18 0), (48, Bv (decide (x19 = (0 : Int))))] := hf.to ⟨rfl, rfl, rfl, rfl, rfl, rfl, rfl, rfl, trivial⟩
   refine W.ifdI hf rfl (fun hc20 => ?_) (fun hc20 => ?_)
   ·replace hm := hm_p hm hc20
    refine W.seq ?_
    -- region 10
    refine W.regionL (l := [0, 1, 2]) rfl ?_
    refine O.val hf rfl rfl rfl (RunV.loadN (cs' := #[Iv x1, Iv x14, Iv x17]) T_agg_27 T_size_27 rfl (hS.ptAt (i := 0) rfl) (Nat.le_of_ble_eq_true rfl) rfl) ?_; clear hf a; intro a hf
    refine O.store (j := 1) (cs' := #[Iv x1, Iv x14, Iv x17]) (M' := [pt b18 (Cs #[Iv x1, Iv x14, Iv x17] 27), pt b4 (Cs #[Iv x1, Iv x14, Iv x17] 27)]) hf hS rfl rfl rfl T_size_27 rfl rfl rfl (Nat.le_of_ble_eq_true rfl) rfl rfl ?_
    clear hS; intro w hS
    refine O.val hf rfl rfl rfl (RunV.assign rfl) ?_; clear hf a; intro a hf
    refine O.nil ?_
    refine k_seq ?_
    replace hf : Fr a 58 [] [(0, Iv x1), (6, Pv b4 0), (7, Iv 0), (8, Iv x11), (9, Iv x14), (10, Iv x17)] := hf.to ⟨rfl, rfl, rfl, rfl, rfl, rfl, trivial⟩
    refine W.ret ?_
    refine k_then_ret ?_
    obtain rfl := Option.some.inj hm
    refine post2 hf rfl (ResOK.cellN (cs' := #[Iv x1, Iv x14, Iv x17]) rfl T_agg_27 T_size_27 (hS.ptAt (i := 1) rfl) (Nat.le_of_ble_eq_true rfl) rfl) (ResOK.tmp rfl) ?_
    replace hS := hS.sub (N := []) (.cons _ (.cons _ .slnil))
    exact ⟨(), rfl, hS.noB⟩
   ·replace hm := hm_n hm hc20
    refine W.skip ?_
    refine k_seq ?_
    replace hf : Fr a 58 [] [(0, Iv x1), (6, Pv b4 0), (7, Iv 0), (8, Iv x11), (9, Iv x14), (10, Iv x17)] := hf.to ⟨rfl, rfl, rfl, rfl, rfl, rfl, trivial⟩
    refine W.seq ?_
    -- region 11
    refine W.regionL (l := [0, 1, 2, 3, 4, 5, 6, 7, 8, 9]) rfl ?_
    refine O.val hf rfl rfl rfl (RunV.move rfl) ?_; clear hf a; intro a hf
    refine O.val hf rfl rfl rfl (RunV.move rfl) ?_; clear hf a; intro a hf
    refine O.val hf rfl rfl rfl (RunV.move rfl) ?_; clear hf a; intro a hf
    refine O.val (v := Iv (if x11 < x14 then x11 else x14)) hf rfl rfl rfl (RunV.min rfl rfl) ?_; clear hf a; intro a hf
    refine O.val hf rfl rfl rfl (RunV.move rfl) ?_; clear hf a; intro a hf
    refine O.val hf rfl rfl rfl (RunV.move rfl) ?_; clear hf a; intro a hf
    refine O.val (v := Iv (if x11 < x17 then x11 else x17)) hf rfl rfl rfl (RunV.min rfl rfl) ?_; clear hf a; intro a hf
    refine O.val (v := .agg #[Iv x1, Iv (if x11 < x14 then x11 else x14), Iv (if x11 < x17 then x11 else x17)]) hf rfl rfl rfl (RunV.buildS (cs' := #[Iv x1, Iv (if x11 < x14 then x11 else x14), Iv (if x11 < x17 then x11 else x17)]) T_places_27 T_zero_27 rfl (by kernel_rfl)) ?_; clear hf a; intro a hf
    refine O.store (j := 1) (cs' := #[Iv x1, Iv (if x11 < x14 then x11 else x14), Iv (if x11 < x17 then x11 else x17)]) (M' := [pt b18 (Cs #[Iv x1, Iv x14, Iv x17] 27), pt b4 (Cs #[Iv x1, Iv (if x11 < x14 then x11 else x14), Iv (if x11 < x17 then x11 else x17)] 27)]) hf hS rfl rfl rfl T_size_27 rfl rfl rfl (Nat.le_of_ble_eq_true rfl) rfl rfl ?_
    clear hS; intro w hS
    refine O.val hf rfl rfl rfl (RunV.assign rfl) ?_; clear hf a; intro a hf
    refine O.nil ?_
    refine k_seq ?_
    replace hf : Fr a 58 [] [(6, Pv b4 0), (7, Iv 0)] := hf.to ⟨rfl, rfl, trivial⟩
    obtain ⟨x21, hx21, hm⟩ := hm_b hm
    rw [Option.some.inj hx21] at hS
    obtain ⟨x22, hx22, hm⟩ := hm_b hm
    rw [Option.some.inj hx22] at hS
    refine W.ret ?_
    obtain rfl := Option.some.inj hm
    refine post2 hf rfl (ResOK.cellN (cs' := #[Iv x1, Iv x21, Iv x22]) rfl T_agg_27 T_size_27 (hS.ptAt (i := 1) rfl) (Nat.le_of_ble_eq_true rfl) rfl) (ResOK.tmp rfl) ?_
    replace hS := hS.sub (N := []) (.cons _ (.cons _ .slnil))
    exact ⟨(), rfl, hS.noB⟩

def m_ref30_Of (F : Nat)  (x1 : Int) (x2 : Int) (x3 : Int) : Option (Int × Int × Int × Int) :=
  if ((decide (x1 < (0 : Int))) || (decide (x1 > (6 : Int)))) = true then (some (0, 0, 0, 2)) else (if ((((decide (x2 < (0 : Int))) || (decide (x2 > (8796093022208 : Int)))) || (decide (x3 < (-68719476736 : Int)))) || (decide (x3 > (68719476736 : Int)))) = true then (some (0, 0, 0, 16)) else (if 0 ≤ x1 then (some (IntKind.i64.wrap (1 * 2 ^ (min (Int.toNat x1) (IntKind.bits .i64))))).bind fun x12 => if x12 ≠ (0 : Int) then if (IntKind.i64.wrap (Int.tdiv 8796093022208 x12)) ≠ (0 : Int) then if x12 ≠ (0 : Int) then if (IntKind.i64.wrap (Int.tdiv 137438953472 x12)) ≠ (0 : Int) then (some (if (IntKind.i64.wrap (x12 - 1)) < (IntKind.i64.wrap (Int.tdiv x2 (IntKind.i64.wrap (Int.tdiv 8796093022208 x12)))) then (IntKind.i64.wrap (x12 - 1)) else (IntKind.i64.wrap (Int.tdiv x2 (IntKind.i64.wrap (Int.tdiv 8796093022208 x12)))))).bind fun x17 => (some (if (IntKind.i64.wrap (x12 - 1)) < (IntKind.i64.wrap (Int.tdiv (IntKind.i64.wrap (x3 + 68719476736)) (IntKind.i64.wrap (Int.tdiv 137438953472 x12)))) then (IntKind.i64.wrap (x12 - 1)) else (IntKind.i64.wrap (Int.tdiv (IntKind.i64.wrap (x3 + 68719476736)) (IntKind.i64.wrap (Int.tdiv 137438953472 x12)))))).bind fun x18 => some (x1, x17, x18, 0) else none else none else none else none else none))
set_option maxHeartbeats 1000000 in
set_option maxRecDepth 8000 in
theorem m_ref30_Of_ok (F : Nat)   (x1 : Int) (x2 : Int) (x3 : Int) (w0 : World)  (r : Int × Int × Int × Int) (hm : m_ref30_Of F x1 x2 x3 = some r) :
    Ret Try.prog 5 #[Iv x1, Iv x2, Iv x3] w0 (G := Unit) (fun _ => .tuple #[.agg #[Iv r.1, Iv r.2.1, Iv r.2.2.1], Iv r.2.2.2]) (fun _ w => St w0 w noX [] []) := by
 unfold m_ref30_Of at hm
 refine ret_of_W (lv := [Iv x1, Iv x2, Iv x3]) Try.func5 rfl rfl rfl (fun a hf => ?_)
 replace hf : Fr a 50 [] [(0, Iv x1), (1, Iv x2), (2, Iv x3)] := hf
 have hS : St w0 w0 noX [] [] := St.borrow lendAll_nil
 refine W.seq ?_
 -- region 0
 refine W.regionL (l := [0, 1]) rfl ?_
 refine O.alloc (cs := #[Iv 0, Iv 0, Iv 0]) hf hS rfl rfl T_zero_27 rfl ?_
 clear hf hS a; intro b4 w a hb4 hS hf
 refine O.val hf rfl rfl rfl (RunV.assign rfl) ?_; clear hf a; intro a hf
 refine O.nil ?_
 refine k_seq ?_
 refine W.seq ?_
 refine W.seq ?_
 -- region 1
 refine W.regionL (l := [0, 1, 2, 3, 4, 5]) rfl ?_
 refine O.val hf rfl rfl rfl (RunV.move rfl) ?_; clear hf a; intro a hf
 refine O.val (v := Bv (decide (x1 < (0 : Int)))) hf rfl rfl rfl (RunV.lss rfl rfl) ?_; clear hf a; intro a hf
 refine O.val hf rfl rfl rfl (RunV.move rfl) ?_; clear hf a; intro a hf
 refine O.cutN (l₁ := [3, 4, 5]) (l₂ := _) (fun a w => Fr a 50 [] [(0, Iv x1), (1, Iv x2), (2, Iv x3), (6, Pv b4 0), (7, Iv 0), (14, Bv ((decide (x1 < (0 : Int))) || (decide (x1 > (6 : Int)))))] ∧ St w0 w noX [] [pt b4 (Cs #[Iv 0, Iv 0, Iv 0] 27)]) rfl ?_ ?_
 ·rcases Bool.eq_false_or_eq_true (decide (x1 < (0 : Int))) with hb5 | hb5
  ·refine O.skipB hf rfl rfl rfl hb5 rfl ?_; clear hf a; intro a hf
   refine O.skipB hf rfl rfl rfl hb5 rfl ?_; clear hf a; intro a hf
   refine O.val (v := Bv ((decide (x1 < (0 : Int))) || (decide (x1 > (6 : Int))))) hf rfl rfl rfl (RunV.pick rfl rfl rfl (by rw [hb5]; rfl)) ?_; clear hf a; intro a hf
   exact O.nil ⟨rfl, hf.to ⟨rfl, rfl, rfl, rfl, rfl, rfl, trivial⟩, hS⟩
  ·refine O.gvalB hf rfl rfl rfl hb5 rfl rfl (RunV.move rfl) ?_; clear hf a; intro a hf
   refine O.gvalB (v := Bv (decide (x1 > (6 : Int)))) hf rfl rfl rfl hb5 rfl rfl (RunV.gtr rfl rfl) ?_; clear hf a; intro a hf
   refine O.val (v := Bv ((decide (x1 < (0 : Int))) || (decide (x1 > (6 : Int))))) hf rfl rfl rfl (RunV.pick rfl rfl rfl (by rw [hb5]; rfl)) ?_; clear hf a; intro a hf
   exact O.nil ⟨rfl, hf.to ⟨rfl, rfl, rfl, rfl, rfl, rfl, trivial⟩, hS⟩
 clear hf hS a; try clear w
 rintro a w ⟨hf, hS⟩
 refine O.nil ?_
 refine k_seq ?_
 refine W.if_ hf rfl (fun hc6 => ?_) (fun hc6 => ?_)
 ·replace hm := hm_t hm hc6
  refine W.seq ?_
  -- region 2
  refine W.regionL (l := [0, 1, 2]) rfl ?_
  refine O.val (v := .agg #[Iv 0, Iv 0, Iv 0]) hf rfl rfl rfl (RunV.buildS (cs' := #[Iv 0, Iv 0, Iv 0]) T_places_27 T_zero_27 rfl (by kernel_rfl)) ?_; clear hf a; intro a hf
  refine O.store (j := 0) (cs' := #[Iv 0, Iv 0, Iv 0]) (M' := [pt b4 (Cs #[Iv 0, Iv 0, Iv 0] 27)]) hf hS rfl rfl rfl T_size_27 rfl rfl rfl (Nat.le_of_ble_eq_true rfl) rfl rfl ?_
  clear hS; intro w hS
  refine O.val hf rfl rfl rfl (RunV.assign rfl) ?_; clear hf a; intro a hf
  refine O.nil ?_
  refine k_seq ?_
  replace hf : Fr a 50 [] [(0, Iv x1), (1, Iv x2), (2, Iv x3), (6, Pv b4 0), (7, Iv 2)] := hf.to ⟨rfl, rfl, rfl, rfl, rfl, trivial⟩
  refine W.ret ?_
  refine k_then_ret ?_
  obtain rfl := Option.some.inj hm
  refine post2 hf rfl (ResOK.cellN (cs' := #[Iv 0, Iv 0, Iv 0]) rfl T_agg_27 T_size_27 (hS.ptAt (i := 0) rfl) (Nat.le_of_ble_eq_true rfl) rfl) (ResOK.tmp rfl) ?_
  replace hS := hS.sub (N := []) (.cons _ .slnil)
  exact ⟨(), rfl, hS.noB⟩
 ·replace hm := hm_f hm hc6
  refine W.skip ?_
  refine k_seq ?_
  replace hf : Fr a 50 [] [(0, Iv x1), (1, Iv x2), (2, Iv x3), (6, Pv b4 0), (7, Iv 0)] := hf.to ⟨rfl, rfl, rfl, rfl, rfl, trivial⟩
  refine W.seq ?_
  refine W.seq ?_
  -- region 3
  refine W.regionL (l := [0, 1, 2, 3, 4, 5, 6, 7, 8, 9, 10, 11, 12, 13]) rfl ?_
  refine O.val hf rfl rfl rfl (RunV.move rfl) ?_; clear hf a; intro a hf
  refine O.val (v := Bv (decide (x2 < (0 : Int)))) hf rfl rfl rfl (RunV.lss rfl rfl) ?_; clear hf a; intro a hf
  refine O.val hf rfl rfl rfl (RunV.move rfl) ?_; clear hf a; intro a hf
  refine O.cutN (l₁ := [3, 4, 5]) (l₂ := _) (fun a w => Fr a 50 [] [(0, Iv x1), (1, Iv x2), (2, Iv x3), (6, Pv b4 0), (7, Iv 0), (21, Bv ((decide (x2 < (0 : Int))) || (decide (x2 > (8796093022208 : Int)))))] ∧ St w0 w noX [] [pt b4 (Cs #[Iv 0, Iv 0, Iv 0] 27)]) rfl ?_ ?_
  ·rcases Bool.eq_false_or_eq_true (decide (x2 < (0 : Int))) with hb7 | hb7
   ·refine O.skipB hf rfl rfl rfl hb7 rfl ?_; clear hf a; intro a hf
    refine O.skipB hf rfl rfl rfl hb7 rfl ?_; clear hf a; intro a hf
    refine O.val (v := Bv ((decide (x2 < (0 : Int))) || (decide (x2 > (8796093022208 : Int))))) hf rfl rfl rfl (RunV.pick rfl rfl rfl (by rw [hb7]; rfl)) ?_; clear hf a; intro a hf
    exact O.nil ⟨rfl, hf.to ⟨rfl, rfl, rfl, rfl, rfl, rfl, trivial⟩, hS⟩
   ·refine O.gvalB hf rfl rfl rfl hb7 rfl rfl (RunV.move rfl) ?_; clear hf a; intro a hf
    refine O.gvalB (v := Bv (decide (x2 > (8796093022208 : Int)))) hf rfl rfl rfl hb7 rfl rfl (RunV.gtr rfl rfl) ?_; clear hf a; intro a hf
    refine O.val (v := Bv ((decide (x2 < (0 : Int))) || (decide (x2 > (8796093022208 : Int))))) hf rfl rfl rfl (RunV.pick rfl rfl rfl (by rw [hb7]; rfl)) ?_; clear hf a; intro a hf
    exact O.nil ⟨rfl, hf.to ⟨rfl, rfl, rfl, rfl, rfl, rfl, trivial⟩, hS⟩
  clear hf hS a; try clear w
  rintro a w ⟨hf, hS⟩
  refine O.val hf rfl rfl rfl (RunV.move rfl) ?_; clear hf a; intro a hf
  refine O.cutN (l₁ := [7, 8, 9]) (l₂ := _) (fun a w => Fr a 50 [] [(0, Iv x1), (1, Iv x2), (2, Iv x3), (6, Pv b4 0), (7, Iv 0), (25, Bv (((decide (x2 < (0 : Int))) || (decide (x2 > (8796093022208 : Int)))) || (decide (x3 < (-68719476736 : Int)))))] ∧ St w0 w noX [] [pt b4 (Cs #[Iv 0, Iv 0, Iv 0] 27)]) rfl ?_ ?_
  ·rcases Bool.eq_false_or_eq_true ((decide (x2 < (0 : Int))) || (decide (x2 > (8796093022208 : Int)))) with hb8 | hb8
   ·refine O.skipB hf rfl rfl rfl hb8 rfl ?_; clear hf a; intro a hf
    refine O.skipB hf rfl rfl rfl hb8 rfl ?_; clear hf a; intro a hf
    refine O.val (v := Bv (((decide (x2 < (0 : Int))) || (decide (x2 > (8796093022208 : Int)))) || (decide (x3 < (-68719476736 : Int))))) hf rfl rfl rfl (RunV.pick rfl rfl rfl (by rw [hb8]; rfl)) ?_; clear hf a; intro a hf
    exact O.nil ⟨rfl, hf.to ⟨rfl, rfl, rfl, rfl, rfl, rfl, trivial⟩, hS⟩
   ·refine O.gvalB hf rfl rfl rfl hb8 rfl rfl (RunV.move rfl) ?_; clear hf a; intro a hf
    refine O.gvalB (v := Bv (decide (x3 < (-68719476736 : Int)))) hf rfl rfl rfl hb8 rfl rfl (RunV.lss rfl rfl) ?_; clear hf a; intro a hf
    refine O.val (v := Bv (((decide (x2 < (0 : Int))) || (decide (x2 > (8796093022208 : Int)))) || (decide (x3 < (-68719476736 : Int))))) hf rfl rfl rfl (RunV.pick rfl rfl rfl (by rw [hb8]; rfl)) ?_; clear hf a; intro a hf
    exact O.nil ⟨rfl, hf.to ⟨rfl, rfl, rfl, rfl, rfl, rfl, trivial⟩, hS⟩
  clear hf hS a; try clear w
  rintro a w ⟨hf, hS⟩
  refine O.val hf rfl rfl rfl (RunV.move rfl) ?_; clear hf a; intro a hf
  refine O.cutN (l₁ := [11, 12, 13]) (l₂ := _) (fun a w => Fr a 50 [] [(0, Iv x1), (1, Iv x2), (2, Iv x3), (6, Pv b4 0), (7, Iv 0), (29, Bv ((((decide (x2 < (0 : Int))) || (decide (x2 > (8796093022208 : Int)))) || (decide (x3 < (-68719476736 : Int)))) || (decide (x3 > (68719476736 : Int)))))] ∧ St w0 w noX [] [pt b4 (Cs #[Iv 0, Iv 0, Iv 0] 27)]) rfl ?_ ?_
  ·rcases Bool.eq_false_or_eq_true (((decide (x2 < (0 : Int))) || (decide (x2 > (8796093022208 : Int)))) || (decide (x3 < (-68719476736 : Int)))) with hb9 | hb9
   ·refine O.skipB hf rfl rfl rfl hb9 rfl ?_; clear hf a; intro a hf
    refine O.skipB hf rfl rfl rfl hb9 rfl ?_; clear hf a; intro a hf
    refine O.val (v := Bv ((((decide (x2 < (0 : Int))) || (decide (x2 > (8796093022208 : Int)))) || (decide (x3 < (-68719476736 : Int)))) || (decide (x3 > (68719476736 : Int))))) hf rfl rfl rfl (RunV.pick rfl rfl rfl (by rw [hb9]; rfl)) ?_; clear hf a; intro a hf
    exact O.nil ⟨rfl, hf.to ⟨rfl, rfl, rfl, rfl, rfl, rfl, trivial⟩, hS⟩
   ·refine O.gvalB hf rfl rfl rfl hb9 rfl rfl (RunV.move rfl) ?_; clear hf a; intro a hf
    refine O.gvalB (v := Bv (decide (x3 > (68719476736 : Int)))) hf rfl rfl rfl hb9 rfl rfl (RunV.gtr rfl rfl) ?_; clear hf a; intro a hf
    refine O.val (v := Bv ((((decide (x2 < (0 : Int))) || (decide (x2 > (8796093022208 : Int)))) || (decide (x3 < (-68719476736 : Int)))) || (decide (x3 > (68719476736 : Int))))) hf rfl rfl rfl (RunV.pick rfl rfl rfl (by rw [hb9]; rfl)) ?_; clear hf a; intro a hf
    exact O.nil ⟨rfl, hf.to ⟨rfl, rfl, rfl, rfl, rfl, rfl, trivial⟩, hS⟩
  clear hf hS a; try clear w
  rintro a w ⟨hf, hS⟩
  refine O.nil ?_
  refine k_seq ?_
  refine W.if_ hf rfl (fun hc10 => ?_) (fun hc10 => ?_)
  ·replace hm := hm_t hm hc10
   refine W.seq ?_
   -- region 4
   refine W.regionL (l := [0, 1, 2]) rfl ?_
   refine O.val (v := .agg #[Iv 0, Iv 0, Iv 0]) hf rfl rfl rfl (RunV.buildS (cs' := #[Iv 0, Iv 0, Iv 0]) T_places_27 T_zero_27 rfl (by kernel_rfl)) ?_; clear hf a; intro a hf
   refine O.store (j := 0) (cs' := #[Iv 0, Iv 0, Iv 0]) (M' := [pt b4 (Cs #[Iv 0, Iv 0, Iv 0] 27)]) hf hS rfl rfl rfl T_size_27 rfl rfl rfl (Nat.le_of_ble_eq_true rfl) rfl rfl ?_
   clear hS; intro w hS
   refine O.val hf rfl rfl rfl (RunV.assign rfl) ?_; clear hf a; intro a hf
   refine O.nil ?_
   refine k_seq ?_
   replace hf : Fr a 50 [] [(0, Iv x1), (1, Iv x2), (2, Iv x3), (6, Pv b4 0), (7, Iv 16)] := hf.to ⟨rfl, rfl, rfl, rfl, rfl, trivial⟩
   refine W.ret ?_
   refine k_then_ret ?_
   obtain rfl := Option.some.inj hm
   refine post2 hf rfl (ResOK.cellN (cs' := #[Iv 0, Iv 0, Iv 0]) rfl T_agg_27 T_size_27 (hS.ptAt (i := 0) rfl) (Nat.le_of_ble_eq_true rfl) rfl) (ResOK.tmp rfl) ?_
   replace hS := hS.sub (N := []) (.cons _ .slnil)
   exact ⟨(), rfl, hS.noB⟩
  ·replace hm := hm_f hm hc10
   refine W.skip ?_
   refine k_seq ?_
   replace hf : Fr a 50 [] [(0, Iv x1), (1, Iv x2), (2, Iv x3), (6, Pv b4 0), (7, Iv 0)] := hf.to ⟨rfl, rfl, rfl, rfl, rfl, trivial⟩
   refine W.seq ?_
   -- region 5
   refine W.regionL (l := [0, 1, 2]) rfl ?_
   refine O.val hf rfl rfl rfl (RunV.move rfl) ?_; clear hf a; intro a hf
   obtain ⟨hg11, hm⟩ := hm_g hm
   refine O.val (v := Iv (IntKind.i64.wrap (1 * 2 ^ (min (Int.toNat x1) (IntKind.bits .i64))))) hf rfl rfl rfl (RunV.shl rfl rfl hg11) ?_; clear hf a; intro a hf
   refine O.val hf rfl rfl rfl (RunV.assign rfl) ?_; clear hf a; intro a hf
   refine O.nil ?_
   refine k_seq ?_
   replace hf : Fr a 50 [] [(0, Iv x1), (1, Iv x2), (2, Iv x3), (6, Pv b4 0), (7, Iv 0), (8, Iv (IntKind.i64.wrap (1 * 2 ^ (min (Int.toNat x1) (IntKind.bits .i64)))))] := hf.to ⟨rfl, rfl, rfl, rfl, rfl, rfl, trivial⟩
   obtain ⟨x12, hx12, hm⟩ := hm_b hm
   rw [Option.some.inj hx12] at hf
   refine W.seq ?_
   -- region 6, which draws its order
   -- [17] turn memory
   have hf1 : Fr a 50 [] [(7, Iv 0)] := hf.to ⟨rfl, trivial⟩
   replace hf : Fr a 50 [] [(0, Iv x1), (1, Iv x2), (2, Iv x3), (6, Pv b4 0), (8, Iv x12)] := hf.to ⟨rfl, rfl, rfl, rfl, rfl, trivial⟩
   obtain ⟨hg13, hm⟩ := hm_g hm
   obtain ⟨hg14, hm⟩ := hm_g hm
   obtain ⟨hg15, hm⟩ := hm_g hm
   obtain ⟨hg16, hm⟩ := hm_g hm
   refine W.drawP (γ := Unit) (L0 := [(0, Iv x1), (1, Iv x2), (2, Iv x3), (6, Pv b4 0), (8, Iv x12)]) (L1 := [(7, Iv 0)]) () [17] [0, 1, 2, 3, 4, 5, 6, 7, 8, 9, 10, 11, 12, 13, 14, 15, 16, 18] (fun i => match i with | 0 => [] | 1 => [] | 2 => [] | 3 => [2] | 4 => [1, 3] | 5 => [] | 6 => [5] | 7 => [4, 6] | 8 => [] | 9 => [8] | 10 => [] | 11 => [10] | 12 => [9, 11] | 13 => [] | 14 => [13] | 15 => [12, 14] | 16 => [0, 7, 15] | 17 => [0, 1, 2, 3, 4, 5, 6, 7, 8, 9, 10, 11, 12, 13, 14, 15, 16] | 18 => [0, 1, 2, 3, 4, 5, 6, 7, 8, 9, 10, 11, 12, 13, 14, 15, 16, 17] | _ => []) (fun i => match i with | 18 => [17] | _ => []) (fun i => match i with | 0 => [17] | 1 => [17] | 2 => [17] | 3 => [17] | 4 => [17] | 5 => [17] | 6 => [17] | 7 => [17] | 8 => [17] | 9 => [17] | 10 => [17] | 11 => [17] | 12 => [17] | 13 => [17] | 14 => [17] | 15 => [17] | 16 => [17] | _ => []) (fun i => match i with | 17 => [18] | _ => []) (fun _ => []) (fun (g : Unit) j => match g, j with | _, 0 => Iv x1 | _, 1 => Iv x2 | _, 2 => Iv x12 | _, 3 => Iv (IntKind.i64.wrap (Int.tdiv 8796093022208 x12)) | _, 4 => Iv (IntKind.i64.wrap (Int.tdiv x2 (IntKind.i64.wrap (Int.tdiv 8796093022208 x12)))) | _, 5 => Iv x12 | _, 6 => Iv (IntKind.i64.wrap (x12 - 1)) | _, 7 => Iv (if (IntKind.i64.wrap (x12 - 1)) < (IntKind.i64.wrap (Int.tdiv x2 (IntKind.i64.wrap (Int.tdiv 8796093022208 x12)))) then (IntKind.i64.wrap (x12 - 1)) else (IntKind.i64.wrap (Int.tdiv x2 (IntKind.i64.wrap (Int.tdiv 8796093022208 x12))))) | _, 8 => Iv x3 | _, 9 => Iv (IntKind.i64.wrap (x3 + 68719476736)) | _, 10 => Iv x12 | _, 11 => Iv (IntKind.i64.wrap (Int.tdiv 137438953472 x12)) | _, 12 => Iv (IntKind.i64.wrap (Int.tdiv (IntKind.i64.wrap (x3 + 68719476736)) (IntKind.i64.wrap (Int.tdiv 137438953472 x12)))) | _, 13 => Iv x12 | _, 14 => Iv (IntKind.i64.wrap (x12 - 1)) | _, 15 => Iv (if (IntKind.i64.wrap (x12 - 1)) < (IntKind.i64.wrap (Int.tdiv (IntKind.i64.wrap (x3 + 68719476736)) (IntKind.i64.wrap (Int.tdiv 137438953472 x12)))) then (IntKind.i64.wrap (x12 - 1)) else (IntKind.i64.wrap (Int.tdiv (IntKind.i64.wrap (x3 + 68719476736)) (IntKind.i64.wrap (Int.tdiv 137438953472 x12))))) | _, 16 => .agg #[Iv x1, Iv (if (IntKind.i64.wrap (x12 - 1)) < (IntKind.i64.wrap (Int.tdiv x2 (IntKind.i64.wrap (Int.tdiv 8796093022208 x12)))) then (IntKind.i64.wrap (x12 - 1)) else (IntKind.i64.wrap (Int.tdiv x2 (IntKind.i64.wrap (Int.tdiv 8796093022208 x12))))), Iv (if (IntKind.i64.wrap (x12 - 1)) < (IntKind.i64.wrap (Int.tdiv (IntKind.i64.wrap (x3 + 68719476736)) (IntKind.i64.wrap (Int.tdiv 137438953472 x12)))) then (IntKind.i64.wrap (x12 - 1)) else (IntKind.i64.wrap (Int.tdiv (IntKind.i64.wrap (x3 + 68719476736)) (IntKind.i64.wrap (Int.tdiv 137438953472 x12)))))] | _, 18 => Iv 0 | _, _ => undef) (fun s (g : Unit) w => match g with | _ => (s 17 = false ∧ St w0 w noX [] [pt b4 (Cs #[Iv 0, Iv 0, Iv 0] 27)]) ∨ (s 17 = true ∧ St w0 w noX [] [pt b4 (Cs #[Iv x1, Iv (if (IntKind.i64.wrap (x12 - 1)) < (IntKind.i64.wrap (Int.tdiv x2 (IntKind.i64.wrap (Int.tdiv 8796093022208 x12)))) then (IntKind.i64.wrap (x12 - 1)) else (IntKind.i64.wrap (Int.tdiv x2 (IntKind.i64.wrap (Int.tdiv 8796093022208 x12))))), Iv (if (IntKind.i64.wrap (x12 - 1)) < (IntKind.i64.wrap (Int.tdiv (IntKind.i64.wrap (x3 + 68719476736)) (IntKind.i64.wrap (Int.tdiv 137438953472 x12)))) then (IntKind.i64.wrap (x12 - 1)) else (IntKind.i64.wrap (Int.tdiv (IntKind.i64.wrap (x3 + 68719476736)) (IntKind.i64.wrap (Int.tdiv 137438953472 x12)))))] 27)])) P_mixed (by kernel_rfl) hf hf1 (Or.inl ⟨rfl, hS.drew⟩) ?_ ?_ ?_
   ·clear hf hf1 hS
    refine ⟨?_, ?_, ?_, ?_, ?_, ?_, ?_, ?_, ?_, ?_, ?_, ?_, ?_, ?_, ?_, ?_, ?_, ?_, trivial⟩
    ·intro s g w hsp hsb hD a hf
     rcases hD with (⟨h17_, hD⟩ | ⟨h17_, hD⟩)
     ·have hS : St w0 w noX [] [pt b4 (Cs #[Iv 0, Iv 0, Iv 0] 27)] := hD; clear hD
      replace hf : Fr a 50 [] [(0, Iv x1), (1, Iv x2), (2, Iv x3), (6, Pv b4 0), (8, Iv x12)] := hf
      refine O.val hf rfl rfl rfl (RunV.move rfl) ?_; clear hf a; intro a hf
      exact O.nil ⟨rfl, hf.to trivial, (fun d hd => by cases (show some 33 = some d from hd); exact hf.get _ _ rfl), (Or.inl ⟨h17_, hS⟩)⟩
     ·exact absurd ((hsb 17 (by simp)).symm.trans h17_) (by decide)
    ·intro s g w hsp hsb hD a hf
     rcases hD with (⟨h17_, hD⟩ | ⟨h17_, hD⟩)
     ·have hS : St w0 w noX [] [pt b4 (Cs #[Iv 0, Iv 0, Iv 0] 27)] := hD; clear hD
      replace hf : Fr a 50 [] [(0, Iv x1), (1, Iv x2), (2, Iv x3), (6, Pv b4 0), (8, Iv x12)] := hf
      refine O.val hf rfl rfl rfl (RunV.move rfl) ?_; clear hf a; intro a hf
      exact O.nil ⟨rfl, hf.to trivial, (fun d hd => by cases (show some 34 = some d from hd); exact hf.get _ _ rfl), (Or.inl ⟨h17_, hS⟩)⟩
     ·exact absurd ((hsb 17 (by simp)).symm.trans h17_) (by decide)
    ·intro s g w hsp hsb hD a hf
     rcases hD with (⟨h17_, hD⟩ | ⟨h17_, hD⟩)
     ·have hS : St w0 w noX [] [pt b4 (Cs #[Iv 0, Iv 0, Iv 0] 27)] := hD; clear hD
      replace hf : Fr a 50 [] [(0, Iv x1), (1, Iv x2), (2, Iv x3), (6, Pv b4 0), (8, Iv x12)] := hf
      refine O.val hf rfl rfl rfl (RunV.move rfl) ?_; clear hf a; intro a hf
      exact O.nil ⟨rfl, hf.to trivial, (fun d hd => by cases (show some 35 = some d from hd); exact hf.get _ _ rfl), (Or.inl ⟨h17_, hS⟩)⟩
     ·exact absurd ((hsb 17 (by simp)).symm.trans h17_) (by decide)
    ·intro s g w hsp hsb hD a hf
     rcases hD with (⟨h17_, hD⟩ | ⟨h17_, hD⟩)
     ·have hS : St w0 w noX [] [pt b4 (Cs #[Iv 0, Iv 0, Iv 0] 27)] := hD; clear hD
      replace hf : Fr a 50 [] [(35, Iv x12), (0, Iv x1), (1, Iv x2), (2, Iv x3), (6, Pv b4 0), (8, Iv x12)] := hf
      refine O.val (v := Iv (IntKind.i64.wrap (Int.tdiv 8796093022208 x12))) hf rfl rfl rfl (RunV.quo rfl rfl hg13) ?_; clear hf a; intro a hf
      exact O.nil ⟨rfl, hf.to trivial, (fun d hd => by cases (show some 36 = some d from hd); exact hf.get _ _ rfl), (Or.inl ⟨h17_, hS⟩)⟩
     ·exact absurd ((hsb 17 (by simp)).symm.trans h17_) (by decide)
    ·intro s g w hsp hsb hD a hf
     rcases hD with (⟨h17_, hD⟩ | ⟨h17_, hD⟩)
     ·have hS : St w0 w noX [] [pt b4 (Cs #[Iv 0, Iv 0, Iv 0] 27)] := hD; clear hD
      replace hf : Fr a 50 [] [(34, Iv x2), (36, Iv (IntKind.i64.wrap (Int.tdiv 8796093022208 x12))), (0, Iv x1), (1, Iv x2), (2, Iv x3), (6, Pv b4 0), (8, Iv x12)] := hf
      refine O.val (v := Iv (IntKind.i64.wrap (Int.tdiv x2 (IntKind.i64.wrap (Int.tdiv 8796093022208 x12))))) hf rfl rfl rfl (RunV.quo rfl rfl hg14) ?_; clear hf a; intro a hf
      exact O.nil ⟨rfl, hf.to trivial, (fun d hd => by cases (show some 37 = some d from hd); exact hf.get _ _ rfl), (Or.inl ⟨h17_, hS⟩)⟩
     ·exact absurd ((hsb 17 (by simp)).symm.trans h17_) (by decide)
    ·intro s g w hsp hsb hD a hf
     rcases hD with (⟨h17_, hD⟩ | ⟨h17_, hD⟩)
     ·have hS : St w0 w noX [] [pt b4 (Cs #[Iv 0, Iv 0, Iv 0] 27)] := hD; clear hD
      replace hf : Fr a 50 [] [(0, Iv x1), (1, Iv x2), (2, Iv x3), (6, Pv b4 0), (8, Iv x12)] := hf
      refine O.val hf rfl rfl rfl (RunV.move rfl) ?_; clear hf a; intro a hf
      exact O.nil ⟨rfl, hf.to trivial, (fun d hd => by cases (show some 38 = some d from hd); exact hf.get _ _ rfl), (Or.inl ⟨h17_, hS⟩)⟩
     ·exact absurd ((hsb 17 (by simp)).symm.trans h17_) (by decide)
    ·intro s g w hsp hsb hD a hf
     rcases hD with (⟨h17_, hD⟩ | ⟨h17_, hD⟩)
     ·have hS : St w0 w noX [] [pt b4 (Cs #[Iv 0, Iv 0, Iv 0] 27)] := hD; clear hD
      replace hf : Fr a 50 [] [(38, Iv x12), (0, Iv x1), (1, Iv x2), (2, Iv x3), (6, Pv b4 0), (8, Iv x12)] := hf
      refine O.val (v := Iv (IntKind.i64.wrap (x12 - 1))) hf rfl rfl rfl (RunV.sub rfl rfl) ?_; clear hf a; intro a hf
      exact O.nil ⟨rfl, hf.to trivial, (fun d hd => by cases (show some 39 = some d from hd); exact hf.get _ _ rfl), (Or.inl ⟨h17_, hS⟩)⟩
     ·exact absurd ((hsb 17 (by simp)).symm.trans h17_) (by decide)
    ·intro s g w hsp hsb hD a hf
     rcases hD with (⟨h17_, hD⟩ | ⟨h17_, hD⟩)
     ·have hS : St w0 w noX [] [pt b4 (Cs #[Iv 0, Iv 0, Iv 0] 27)] := hD; clear hD
      replace hf : Fr a 50 [] [(37, Iv (IntKind.i64.wrap (Int.tdiv x2 (IntKind.i64.wrap (Int.tdiv 8796093022208 x12))))), (39, Iv (IntKind.i64.wrap (x12 - 1))), (0, Iv x1), (1, Iv x2), (2, Iv x3), (6, Pv b4 0), (8, Iv x12)] := hf
      refine O.val (v := Iv (if (IntKind.i64.wrap (x12 - 1)) < (IntKind.i64.wrap (Int.tdiv x2 (IntKind.i64.wrap (Int.tdiv 8796093022208 x12)))) then (IntKind.i64.wrap (x12 - 1)) else (IntKind.i64.wrap (Int.tdiv x2 (IntKind.i64.wrap (Int.tdiv 8796093022208 x12)))))) hf rfl rfl rfl (RunV.min rfl rfl) ?_; clear hf a; intro a hf
      exact O.nil ⟨rfl, hf.to trivial, (fun d hd => by cases (show some 40 = some d from hd); exact hf.get _ _ rfl), (Or.inl ⟨h17_, hS⟩)⟩
     ·exact absurd ((hsb 17 (by simp)).symm.trans h17_) (by decide)
    ·intro s g w hsp hsb hD a hf
     rcases hD with (⟨h17_, hD⟩ | ⟨h17_, hD⟩)
     ·have hS : St w0 w noX [] [pt b4 (Cs #[Iv 0, Iv 0, Iv 0] 27)] := hD; clear hD
      replace hf : Fr a 50 [] [(0, Iv x1), (1, Iv x2), (2, Iv x3), (6, Pv b4 0), (8, Iv x12)] := hf
      refine O.val hf rfl rfl rfl (RunV.move rfl) ?_; clear hf a; intro a hf
      exact O.nil ⟨rfl, hf.to trivial, (fun d hd => by cases (show some 41 = some d from hd); exact hf.get _ _ rfl), (Or.inl ⟨h17_, hS⟩)⟩
     ·exact absurd ((hsb 17 (by simp)).symm.trans h17_) (by decide)
    ·intro s g w hsp hsb hD a hf
     rcases hD with (⟨h17_, hD⟩ | ⟨h17_, hD⟩)
     ·have hS : St w0 w noX [] [pt b4 (Cs #[Iv 0, Iv 0, Iv 0] 27)] := hD; clear hD
      replace hf : Fr a 50 [] [(41, Iv x3), (0, Iv x1), (1, Iv x2), (2, Iv x3), (6, Pv b4 0), (8, Iv x12)] := hf
      refine O.val (v := Iv (IntKind.i64.wrap (x3 + 68719476736))) hf rfl rfl rfl (RunV.add rfl rfl) ?_; clear hf a; intro a hf
      exact O.nil ⟨rfl, hf.to trivial, (fun d hd => by cases (show some 42 = some d from hd); exact hf.get _ _ rfl), (Or.inl ⟨h17_, hS⟩)⟩
     ·exact absurd ((hsb 17 (by simp)).symm.trans h17_) (by decide)
    ·intro s g w hsp hsb hD a hf
     rcases hD with (⟨h17_, hD⟩ | ⟨h17_, hD⟩)
     ·have hS : St w0 w noX [] [pt b4 (Cs #[Iv 0, Iv 0, Iv 0] 27)] := hD; clear hD
      replace hf : Fr a 50 [] [(0, Iv x1), (1, Iv x2), (2, Iv x3), (6, Pv b4 0), (8, Iv x12)] := hf
      refine O.val hf rfl rfl rfl (RunV.move rfl) ?_; clear hf a; intro a hf
      exact O.nil ⟨rfl, hf.to trivial, (fun d hd => by cases (show some 43 = some d from hd); exact hf.get _ _ rfl), (Or.inl ⟨h17_, hS⟩)⟩
     ·exact absurd ((hsb 17 (by simp)).symm.trans h17_) (by decide)
    ·intro s g w hsp hsb hD a hf
     rcases hD with (⟨h17_, hD⟩ | ⟨h17_, hD⟩)
     ·have hS : St w0 w noX [] [pt b4 (Cs #[Iv 0, Iv 0, Iv 0] 27)] := hD; clear hD
      replace hf : Fr a 50 [] [(43, Iv x12), (0, Iv x1), (1, Iv x2), (2, Iv x3), (6, Pv b4 0), (8, Iv x12)] := hf
      refine O.val (v := Iv (IntKind.i64.wrap (Int.tdiv 137438953472 x12))) hf rfl rfl rfl (RunV.quo rfl rfl hg15) ?_; clear hf a; intro a hf
      exact O.nil ⟨rfl, hf.to trivial, (fun d hd => by cases (show some 44 = some d from hd); exact hf.get _ _ rfl), (Or.inl ⟨h17_, hS⟩)⟩
     ·exact absurd ((hsb 17 (by simp)).symm.trans h17_) (by decide)
    ·intro s g w hsp hsb hD a hf
     rcases hD with (⟨h17_, hD⟩ | ⟨h17_, hD⟩)
     ·have hS : St w0 w noX [] [pt b4 (Cs #[Iv 0, Iv 0, Iv 0] 27)] := hD; clear hD
      replace hf : Fr a 50 [] [(42, Iv (IntKind.i64.wrap (x3 + 68719476736))), (44, Iv (IntKind.i64.wrap (Int.tdiv 137438953472 x12))), (0, Iv x1), (1, Iv x2), (2, Iv x3), (6, Pv b4 0), (8, Iv x12)] := hf
      refine O.val (v := Iv (IntKind.i64.wrap (Int.tdiv (IntKind.i64.wrap (x3 + 68719476736)) (IntKind.i64.wrap (Int.tdiv 137438953472 x12))))) hf rfl rfl rfl (RunV.quo rfl rfl hg16) ?_; clear hf a; intro a hf
      exact O.nil ⟨rfl, hf.to trivial, (fun d hd => by cases (show some 45 = some d from hd); exact hf.get _ _ rfl), (Or.inl ⟨h17_, hS⟩)⟩
     ·exact absurd ((hsb 17 (by simp)).symm.trans h17_) (by decide)
    ·intro s g w hsp hsb hD a hf
     rcases hD with (⟨h17_, hD⟩ | ⟨h17_, hD⟩)
     ·have hS : St w0 w noX [] [pt b4 (Cs #[Iv 0, Iv 0, Iv 0] 27)] := hD; clear hD
      replace hf : Fr a 50 [] [(0, Iv x1), (1, Iv x2), (2, Iv x3), (6, Pv b4 0), (8, Iv x12)] := hf
      refine O.val hf rfl rfl rfl (RunV.move rfl) ?_; clear hf a; intro a hf
      exact O.nil ⟨rfl, hf.to trivial, (fun d hd => by cases (show some 46 = some d from hd); exact hf.get _ _ rfl), (Or.inl ⟨h17_, hS⟩)⟩
     ·exact absurd ((hsb 17 (by simp)).symm.trans h17_) (by decide)
    ·intro s g w hsp hsb hD a hf
     rcases hD with (⟨h17_, hD⟩ | ⟨h17_, hD⟩)
     ·have hS : St w0 w noX [] [pt b4 (Cs #[Iv 0, Iv 0, Iv 0] 27)] := hD; clear hD
      replace hf : Fr a 50 [] [(46, Iv x12), (0, Iv x1), (1, Iv x2), (2, Iv x3), (6, Pv b4 0), (8, Iv x12)] := hf
      refine O.val (v := Iv (IntKind.i64.wrap (x12 - 1))) hf rfl rfl rfl (RunV.sub rfl rfl) ?_; clear hf a; intro a hf
      exact O.nil ⟨rfl, hf.to trivial, (fun d hd => by cases (show some 47 = some d from hd); exact hf.get _ _ rfl), (Or.inl ⟨h17_, hS⟩)⟩
     ·exact absurd ((hsb 17 (by simp)).symm.trans h17_) (by decide)
    ·intro s g w hsp hsb hD a hf
     rcases hD with (⟨h17_, hD⟩ | ⟨h17_, hD⟩)
     ·have hS : St w0 w noX [] [pt b4 (Cs #[Iv 0, Iv 0, Iv 0] 27)] := hD; clear hD
      replace hf : Fr a 50 [] [(45, Iv (IntKind.i64.wrap (Int.tdiv (IntKind.i64.wrap (x3 + 68719476736)) (IntKind.i64.wrap (Int.tdiv 137438953472 x12))))), (47, Iv (IntKind.i64.wrap (x12 - 1))), (0, Iv x1), (1, Iv x2), (2, Iv x3), (6, Pv b4 0), (8, Iv x12)] := hf
      refine O.val (v := Iv (if (IntKind.i64.wrap (x12 - 1)) < (IntKind.i64.wrap (Int.tdiv (IntKind.i64.wrap (x3 + 68719476736)) (IntKind.i64.wrap (Int.tdiv 137438953472 x12)))) then (IntKind.i64.wrap (x12 - 1)) else (IntKind.i64.wrap (Int.tdiv (IntKind.i64.wrap (x3 + 68719476736)) (IntKind.i64.wrap (Int.tdiv 137438953472 x12)))))) hf rfl rfl rfl (RunV.min rfl rfl) ?_; clear hf a; intro a hf
      exact O.nil ⟨rfl, hf.to trivial, (fun d hd => by cases (show some 48 = some d from hd); exact hf.get _ _ rfl), (Or.inl ⟨h17_, hS⟩)⟩
     ·exact absurd ((hsb 17 (by simp)).symm.trans h17_) (by decide)
    ·intro s g w hsp hsb hD a hf
     rcases hD with (⟨h17_, hD⟩ | ⟨h17_, hD⟩)
     ·have hS : St w0 w noX [] [pt b4 (Cs #[Iv 0, Iv 0, Iv 0] 27)] := hD; clear hD
      replace hf : Fr a 50 [] [(33, Iv x1), (40, Iv (if (IntKind.i64.wrap (x12 - 1)) < (IntKind.i64.wrap (Int.tdiv x2 (IntKind.i64.wrap (Int.tdiv 8796093022208 x12)))) then (IntKind.i64.wrap (x12 - 1)) else (IntKind.i64.wrap (Int.tdiv x2 (IntKind.i64.wrap (Int.tdiv 8796093022208 x12)))))), (48, Iv (if (IntKind.i64.wrap (x12 - 1)) < (IntKind.i64.wrap (Int.tdiv (IntKind.i64.wrap (x3 + 68719476736)) (IntKind.i64.wrap (Int.tdiv 137438953472 x12)))) then (IntKind.i64.wrap (x12 - 1)) else (IntKind.i64.wrap (Int.tdiv (IntKind.i64.wrap (x3 + 68719476736)) (IntKind.i64.wrap (Int.tdiv 137438953472 x12)))))), (0, Iv x1), (1, Iv x2), (2, Iv x3), (6, Pv b4 0), (8, Iv x12)] := hf
      refine O.val (v := .agg #[Iv x1, Iv (if (IntKind.i64.wrap (x12 - 1)) < (IntKind.i64.wrap (Int.tdiv x2 (IntKind.i64.wrap (Int.tdiv 8796093022208 x12)))) then (IntKind.i64.wrap (x12 - 1)) else (IntKind.i64.wrap (Int.tdiv x2 (IntKind.i64.wrap (Int.tdiv 8796093022208 x12))))), Iv (if (IntKind.i64.wrap (x12 - 1)) < (IntKind.i64.wrap (Int.tdiv (IntKind.i64.wrap (x3 + 68719476736)) (IntKind.i64.wrap (Int.tdiv 137438953472 x12)))) then (IntKind.i64.wrap (x12 - 1)) else (IntKind.i64.wrap (Int.tdiv (IntKind.i64.wrap (x3 + 68719476736)) (IntKind.i64.wrap (Int.tdiv 137438953472 x12)))))]) hf rfl rfl rfl (RunV.buildS (cs' := #[Iv x1, Iv (if (IntKind.i64.wrap (x12 - 1)) < (IntKind.i64.wrap (Int.tdiv x2 (IntKind.i64.wrap (Int.tdiv 8796093022208 x12)))) then (IntKind.i64.wrap (x12 - 1)) else (IntKind.i64.wrap (Int.tdiv x2 (IntKind.i64.wrap (Int.tdiv 8796093022208 x12))))), Iv (if (IntKind.i64.wrap (x12 - 1)) < (IntKind.i64.wrap (Int.tdiv (IntKind.i64.wrap (x3 + 68719476736)) (IntKind.i64.wrap (Int.tdiv 137438953472 x12)))) then (IntKind.i64.wrap (x12 - 1)) else (IntKind.i64.wrap (Int.tdiv (IntKind.i64.wrap (x3 + 68719476736)) (IntKind.i64.wrap (Int.tdiv 137438953472 x12)))))]) T_places_27 T_zero_27 rfl (by kernel_rfl)) ?_; clear hf a; intro a hf
      exact O.nil ⟨rfl, hf.to trivial, (fun d hd => by cases (show some 49 = some d from hd); exact hf.get _ _ rfl), (Or.inl ⟨h17_, hS⟩)⟩
     ·exact absurd ((hsb 17 (by simp)).symm.trans h17_) (by decide)
    ·intro s g w hsp hsb hD a hf
     rcases hD with (⟨h17_, hD⟩ | ⟨h17_, hD⟩)
     ·exact absurd ((hsp 17 (by simp)).symm.trans h17_) (by decide)
     ·have hS : St w0 w noX [] [pt b4 (Cs #[Iv x1, Iv (if (IntKind.i64.wrap (x12 - 1)) < (IntKind.i64.wrap (Int.tdiv x2 (IntKind.i64.wrap (Int.tdiv 8796093022208 x12)))) then (IntKind.i64.wrap (x12 - 1)) else (IntKind.i64.wrap (Int.tdiv x2 (IntKind.i64.wrap (Int.tdiv 8796093022208 x12))))), Iv (if (IntKind.i64.wrap (x12 - 1)) < (IntKind.i64.wrap (Int.tdiv (IntKind.i64.wrap (x3 + 68719476736)) (IntKind.i64.wrap (Int.tdiv 137438953472 x12)))) then (IntKind.i64.wrap (x12 - 1)) else (IntKind.i64.wrap (Int.tdiv (IntKind.i64.wrap (x3 + 68719476736)) (IntKind.i64.wrap (Int.tdiv 137438953472 x12)))))] 27)] := hD; clear hD
      replace hf : Fr a 50 [] [(33, Iv x1), (34, Iv x2), (35, Iv x12), (36, Iv (IntKind.i64.wrap (Int.tdiv 8796093022208 x12))), (37, Iv (IntKind.i64.wrap (Int.tdiv x2 (IntKind.i64.wrap (Int.tdiv 8796093022208 x12))))), (38, Iv x12), (39, Iv (IntKind.i64.wrap (x12 - 1))), (40, Iv (if (IntKind.i64.wrap (x12 - 1)) < (IntKind.i64.wrap (Int.tdiv x2 (IntKind.i64.wrap (Int.tdiv 8796093022208 x12)))) then (IntKind.i64.wrap (x12 - 1)) else (IntKind.i64.wrap (Int.tdiv x2 (IntKind.i64.wrap (Int.tdiv 8796093022208 x12)))))), (41, Iv x3), (42, Iv (IntKind.i64.wrap (x3 + 68719476736))), (43, Iv x12), (44, Iv (IntKind.i64.wrap (Int.tdiv 137438953472 x12))), (45, Iv (IntKind.i64.wrap (Int.tdiv (IntKind.i64.wrap (x3 + 68719476736)) (IntKind.i64.wrap (Int.tdiv 137438953472 x12))))), (46, Iv x12), (47, Iv (IntKind.i64.wrap (x12 - 1))), (48, Iv (if (IntKind.i64.wrap (x12 - 1)) < (IntKind.i64.wrap (Int.tdiv (IntKind.i64.wrap (x3 + 68719476736)) (IntKind.i64.wrap (Int.tdiv 137438953472 x12)))) then (IntKind.i64.wrap (x12 - 1)) else (IntKind.i64.wrap (Int.tdiv (IntKind.i64.wrap (x3 + 68719476736)) (IntKind.i64.wrap (Int.tdiv 137438953472 x12)))))), (49, .agg #[Iv x1, Iv (if (IntKind.i64.wrap (x12 - 1)) < (IntKind.i64.wrap (Int.tdiv x2 (IntKind.i64.wrap (Int.tdiv 8796093022208 x12)))) then (IntKind.i64.wrap (x12 - 1)) else (IntKind.i64.wrap (Int.tdiv x2 (IntKind.i64.wrap (Int.tdiv 8796093022208 x12))))), Iv (if (IntKind.i64.wrap (x12 - 1)) < (IntKind.i64.wrap (Int.tdiv (IntKind.i64.wrap (x3 + 68719476736)) (IntKind.i64.wrap (Int.tdiv 137438953472 x12)))) then (IntKind.i64.wrap (x12 - 1)) else (IntKind.i64.wrap (Int.tdiv (IntKind.i64.wrap (x3 + 68719476736)) (IntKind.i64.wrap (Int.tdiv 137438953472 x12)))))]), (0, Iv x1), (1, Iv x2), (2, Iv x3), (6, Pv b4 0), (8, Iv x12)] := hf
      refine O.val hf rfl rfl rfl (RunV.assign rfl) ?_; clear hf a; intro a hf
      exact O.nil ⟨rfl, hf.to trivial, (fun d hd => by cases (show some 7 = some d from hd); exact hf.get _ _ rfl), (Or.inr ⟨h17_, hS⟩)⟩
   ·clear hf hf1 hS
    refine ⟨?_, trivial⟩
    ·intro s g w hs0 hsp hsb hD a hf
     rcases hD with (⟨h17_, hD⟩ | ⟨h17_, hD⟩)
     ·have hS : St w0 w noX [] [pt b4 (Cs #[Iv 0, Iv 0, Iv 0] 27)] := hD; clear hD
      replace hf : Fr a 50 [] [(33, Iv x1), (34, Iv x2), (35, Iv x12), (36, Iv (IntKind.i64.wrap (Int.tdiv 8796093022208 x12))), (37, Iv (IntKind.i64.wrap (Int.tdiv x2 (IntKind.i64.wrap (Int.tdiv 8796093022208 x12))))), (38, Iv x12), (39, Iv (IntKind.i64.wrap (x12 - 1))), (40, Iv (if (IntKind.i64.wrap (x12 - 1)) < (IntKind.i64.wrap (Int.tdiv x2 (IntKind.i64.wrap (Int.tdiv 8796093022208 x12)))) then (IntKind.i64.wrap (x12 - 1)) else (IntKind.i64.wrap (Int.tdiv x2 (IntKind.i64.wrap (Int.tdiv 8796093022208 x12)))))), (41, Iv x3), (42, Iv (IntKind.i64.wrap (x3 + 68719476736))), (43, Iv x12), (44, Iv (IntKind.i64.wrap (Int.tdiv 137438953472 x12))), (45, Iv (IntKind.i64.wrap (Int.tdiv (IntKind.i64.wrap (x3 + 68719476736)) (IntKind.i64.wrap (Int.tdiv 137438953472 x12))))), (46, Iv x12), (47, Iv (IntKind.i64.wrap (x12 - 1))), (48, Iv (if (IntKind.i64.wrap (x12 - 1)) < (IntKind.i64.wrap (Int.tdiv (IntKind.i64.wrap (x3 + 68719476736)) (IntKind.i64.wrap (Int.tdiv 137438953472 x12)))) then (IntKind.i64.wrap (x12 - 1)) else (IntKind.i64.wrap (Int.tdiv (IntKind.i64.wrap (x3 + 68719476736)) (IntKind.i64.wrap (Int.tdiv 137438953472 x12)))))), (49, .agg #[Iv x1, Iv (if (IntKind.i64.wrap (x12 - 1)) < (IntKind.i64.wrap (Int.tdiv x2 (IntKind.i64.wrap (Int.tdiv 8796093022208 x12)))) then (IntKind.i64.wrap (x12 - 1)) else (IntKind.i64.wrap (Int.tdiv x2 (IntKind.i64.wrap (Int.tdiv 8796093022208 x12))))), Iv (if (IntKind.i64.wrap (x12 - 1)) < (IntKind.i64.wrap (Int.tdiv (IntKind.i64.wrap (x3 + 68719476736)) (IntKind.i64.wrap (Int.tdiv 137438953472 x12)))) then (IntKind.i64.wrap (x12 - 1)) else (IntKind.i64.wrap (Int.tdiv (IntKind.i64.wrap (x3 + 68719476736)) (IntKind.i64.wrap (Int.tdiv 137438953472 x12)))))]), (0, Iv x1), (1, Iv x2), (2, Iv x3), (6, Pv b4 0), (8, Iv x12)] := hf
      refine O.store (j := 0) (cs' := #[Iv x1, Iv (if (IntKind.i64.wrap (x12 - 1)) < (IntKind.i64.wrap (Int.tdiv x2 (IntKind.i64.wrap (Int.tdiv 8796093022208 x12)))) then (IntKind.i64.wrap (x12 - 1)) else (IntKind.i64.wrap (Int.tdiv x2 (IntKind.i64.wrap (Int.tdiv 8796093022208 x12))))), Iv (if (IntKind.i64.wrap (x12 - 1)) < (IntKind.i64.wrap (Int.tdiv (IntKind.i64.wrap (x3 + 68719476736)) (IntKind.i64.wrap (Int.tdiv 137438953472 x12)))) then (IntKind.i64.wrap (x12 - 1)) else (IntKind.i64.wrap (Int.tdiv (IntKind.i64.wrap (x3 + 68719476736)) (IntKind.i64.wrap (Int.tdiv 137438953472 x12)))))]) (M' := [pt b4 (Cs #[Iv x1, Iv (if (IntKind.i64.wrap (x12 - 1)) < (IntKind.i64.wrap (Int.tdiv x2 (IntKind.i64.wrap (Int.tdiv 8796093022208 x12)))) then (IntKind.i64.wrap (x12 - 1)) else (IntKind.i64.wrap (Int.tdiv x2 (IntKind.i64.wrap (Int.tdiv 8796093022208 x12))))), Iv (if (IntKind.i64.wrap (x12 - 1)) < (IntKind.i64.wrap (Int.tdiv (IntKind.i64.wrap (x3 + 68719476736)) (IntKind.i64.wrap (Int.tdiv 137438953472 x12)))) then (IntKind.i64.wrap (x12 - 1)) else (IntKind.i64.wrap (Int.tdiv (IntKind.i64.wrap (x3 + 68719476736)) (IntKind.i64.wrap (Int.tdiv 137438953472 x12)))))] 27)]) hf hS rfl rfl rfl T_size_27 rfl rfl rfl (Nat.le_of_ble_eq_true rfl) rfl rfl ?_
      clear hS; intro w hS
      exact O.nil ⟨rfl, (), hf.to trivial, (fun d hd => by cases (show none = some d from hd)), (fun j hj hk => match j, hj, hk with | 0, hj, hk => rfl | 1, hj, hk => rfl | 2, hj, hk => rfl | 3, hj, hk => rfl | 4, hj, hk => rfl | 5, hj, hk => rfl | 6, hj, hk => rfl | 7, hj, hk => rfl | 8, hj, hk => rfl | 9, hj, hk => rfl | 10, hj, hk => rfl | 11, hj, hk => rfl | 12, hj, hk => rfl | 13, hj, hk => rfl | 14, hj, hk => rfl | 15, hj, hk => rfl | 16, hj, hk => rfl | 17, hj, hk => absurd rfl hj | 18, hj, hk => absurd hk (by decide) | _ + 19, _, _ => rfl), (Or.inr ⟨rfl, hS⟩)⟩
     ·exact absurd (hs0.symm.trans h17_) (by decide)
   clear hf hf1 hS; intro s g a w hs hf hD
   rcases hD with (⟨h17_, hD⟩ | ⟨h17_, hD⟩)
   · exact absurd ((hs 17 (by simp)).symm.trans h17_) (by decide)
   have hS : St w0 w noX [] [pt b4 (Cs #[Iv x1, Iv (if (IntKind.i64.wrap (x12 - 1)) < (IntKind.i64.wrap (Int.tdiv x2 (IntKind.i64.wrap (Int.tdiv 8796093022208 x12)))) then (IntKind.i64.wrap (x12 - 1)) else (IntKind.i64.wrap (Int.tdiv x2 (IntKind.i64.wrap (Int.tdiv 8796093022208 x12))))), Iv (if (IntKind.i64.wrap (x12 - 1)) < (IntKind.i64.wrap (Int.tdiv (IntKind.i64.wrap (x3 + 68719476736)) (IntKind.i64.wrap (Int.tdiv 137438953472 x12)))) then (IntKind.i64.wrap (x12 - 1)) else (IntKind.i64.wrap (Int.tdiv (IntKind.i64.wrap (x3 + 68719476736)) (IntKind.i64.wrap (Int.tdiv 137438953472 x12)))))] 27)] := hD; clear hD
   replace hf : Fr a 50 [] [(33, Iv x1), (34, Iv x2), (35, Iv x12), (36, Iv (IntKind.i64.wrap (Int.tdiv 8796093022208 x12))), (37, Iv (IntKind.i64.wrap (Int.tdiv x2 (IntKind.i64.wrap (Int.tdiv 8796093022208 x12))))), (38, Iv x12), (39, Iv (IntKind.i64.wrap (x12 - 1))), (40, Iv (if (IntKind.i64.wrap (x12 - 1)) < (IntKind.i64.wrap (Int.tdiv x2 (IntKind.i64.wrap (Int.tdiv 8796093022208 x12)))) then (IntKind.i64.wrap (x12 - 1)) else (IntKind.i64.wrap (Int.tdiv x2 (IntKind.i64.wrap (Int.tdiv 8796093022208 x12)))))), (41, Iv x3), (42, Iv (IntKind.i64.wrap (x3 + 68719476736))), (43, Iv x12), (44, Iv (IntKind.i64.wrap (Int.tdiv 137438953472 x12))), (45, Iv (IntKind.i64.wrap (Int.tdiv (IntKind.i64.wrap (x3 + 68719476736)) (IntKind.i64.wrap (Int.tdiv 137438953472 x12))))), (46, Iv x12), (47, Iv (IntKind.i64.wrap (x12 - 1))), (48, Iv (if (IntKind.i64.wrap (x12 - 1)) < (IntKind.i64.wrap (Int.tdiv (IntKind.i64.wrap (x3 + 68719476736)) (IntKind.i64.wrap (Int.tdiv 137438953472 x12)))) then (IntKind.i64.wrap (x12 - 1)) else (IntKind.i64.wrap (Int.tdiv (IntKind.i64.wrap (x3 + 68719476736)) (IntKind.i64.wrap (Int.tdiv 137438953472 x12)))))), (49, .agg #[Iv x1, Iv (if (IntKind.i64.wrap (x12 - 1)) < (IntKind.i64.wrap (Int.tdiv x2 (IntKind.i64.wrap (Int.tdiv 8796093022208 x12)))) then (IntKind.i64.wrap (x12 - 1)) else (IntKind.i64.wrap (Int.tdiv x2 (IntKind.i64.wrap (Int.tdiv 8796093022208 x12))))), Iv (if (IntKind.i64.wrap (x12 - 1)) < (IntKind.i64.wrap (Int.tdiv (IntKind.i64.wrap (x3 + 68719476736)) (IntKind.i64.wrap (Int.tdiv 137438953472 x12)))) then (IntKind.i64.wrap (x12 - 1)) else (IntKind.i64.wrap (Int.tdiv (IntKind.i64.wrap (x3 + 68719476736)) (IntKind.i64.wrap (Int.tdiv 137438953472 x12)))))]), (7, Iv 0), (0, Iv x1), (1, Iv x2), (2, Iv x3), (6, Pv b4 0), (8, Iv x12)] := hf
   refine k_seq ?_
   replace hf : Fr a 50 [] [(6, Pv b4 0), (7, Iv 0)] := hf.to ⟨rfl, rfl, trivial⟩
   obtain ⟨x17, hx17, hm⟩ := hm_b hm
   rw [Option.some.inj hx17] at hS
   obtain ⟨x18, hx18, hm⟩ := hm_b hm
   rw [Option.some.inj hx18] at hS
   refine W.ret ?_
   obtain rfl := Option.some.inj hm
   refine post2 hf rfl (ResOK.cellN (cs' := #[Iv x1, Iv x17, Iv x18]) rfl T_agg_27 T_size_27 (hS.ptAt (i := 0) rfl) (Nat.le_of_ble_eq_true rfl) rfl) (ResOK.tmp rfl) ?_
   replace hS := hS.sub (N := []) (.cons _ .slnil)
   exact ⟨(), rfl, hS.noB⟩

def m_span_check_j1 (F : Nat)  : Option Int :=
  some 0
def m_span_check (F : Nat)  (x2 : Int) (x3 : Int) : Option Int :=
  if (((decide (x2 > (x3 : Int))) || (decide (x2 < (-2305843009213693952 : Int)))) || (decide (x3 > (2305843009213693952 : Int)))) = true then (some 8) else (m_span_check_j1 F)
set_option maxHeartbeats 1000000 in
set_option maxRecDepth 8000 in
theorem m_span_check_ok (F : Nat)   (b1 : Nat) (x2 : Int) (x3 : Int) (w0 : World) (h_b1 : w0.heap[b1]? = some (.cells #[Iv x2, Iv x3] 23 (0, 0))) (r : Int) (hm : m_span_check F x2 x3 = some r) :
    Ret Try.prog 21 #[.slice (some ⟨b1, 0, none⟩) 1 1] w0 (G := Unit) (fun _ => Iv r) (fun _ w => St w0 w noX [] []) := by
 unfold m_span_check at hm
 refine ret_of_W (lv := [.slice (some ⟨b1, 0, none⟩) 1 1]) Try.func21 rfl rfl rfl (fun a hf => ?_)
 replace hf : Fr a 27 [] [(0, .slice (some ⟨b1, 0, none⟩) 1 1)] := hf
 have hS : St w0 w0 noX [pt b1 (Cs #[Iv x2, Iv x3] 23)] [] := St.borrow (lendAll_cons (lendPt h_b1) lendAll_nil)
 refine W.seq ?_
 -- region 0
 refine W.regionL (l := [0]) rfl ?_
 refine O.val hf rfl rfl rfl (RunV.assign rfl) ?_; clear hf a; intro a hf
 refine O.nil ?_
 refine k_seq ?_
 refine W.seqR (fun a w => Fr a 27 [] [(2, Iv 0)] ∧ St w0 w noX [pt b1 (Cs #[Iv x2, Iv x3] 23)] [] ∧ m_span_check_j1 F = some r) ?_ ?_
 ·refine W.seq ?_
  -- region 1
  refine W.regionL (l := [0, 1, 2]) rfl ?_
  refine O.val hf rfl rfl rfl (RunV.move rfl) ?_; clear hf a; intro a hf
  refine O.val (v := Iv 1) hf rfl rfl rfl (RunV.len (e := 23) (by simpa using T_elem_79) rfl) ?_; clear hf a; intro a hf
  refine O.val hf rfl rfl rfl (RunV.move rfl) ?_; clear hf a; intro a hf
  refine O.nil ?_
  refine k_seq ?_
  replace hf : Fr a 27 [] [(2, Iv 0), (5, .slice (some ⟨b1, 0, none⟩) 1 1), (6, Iv 1), (7, Iv 0)] := hf.to ⟨rfl, rfl, rfl, rfl, trivial⟩
  refine W.block ?_
  refine W.loopH (LH.step ?_)
  refine W.seq ?_
  -- region 2
  refine W.regionL (l := [0]) rfl ?_
  refine O.val (v := Bv true) hf rfl rfl rfl (RunV.lss (p := 0) (q := 1) rfl rfl) ?_; clear hf a; intro a hf
  refine O.nil ?_
  refine k_seq ?_
  refine W.seq ?_
  refine W.if_tt hf rfl ?_
  refine W.skip ?_
  refine k_seq ?_
  refine W.seq ?_
  refine W.block ?_
  refine W.seq ?_
  -- region 3
  refine W.regionL (l := [0, 1, 2, 3]) rfl ?_
  refine O.val hf rfl rfl rfl (RunV.indexSl (j := 0) (m := 0) T_elem_79 T_size_23 rfl rfl rfl (by decide) rfl) ?_; clear hf a; intro a hf
  refine O.val hf rfl rfl rfl (RunV.loadN (cs' := #[Iv x2, Iv x3]) T_agg_23 T_size_23 rfl (hS.bptAt (i := 0) rfl) (Nat.le_of_ble_eq_true rfl) rfl) ?_; clear hf a; intro a hf
  refine O.alloc (cs := #[Iv 0, Iv 0]) hf hS rfl rfl T_zero_23 rfl ?_
  clear hf hS a; intro b4 w a hb4 hS hf
  refine O.store (j := 0) (cs' := #[Iv x2, Iv x3]) (M' := [pt b4 (Cs #[Iv x2, Iv x3] 23)]) hf hS rfl rfl rfl T_size_23 rfl rfl rfl (Nat.le_of_ble_eq_true rfl) rfl rfl ?_
  clear hS; intro w hS
  refine O.nil ?_
  refine k_seq ?_
  refine W.seq ?_
  -- region 4
  refine W.regionL (l := [0, 1, 2, 3, 4, 5, 6, 7, 8, 9, 10, 11, 12, 13, 14]) rfl ?_
  refine O.val hf rfl rfl rfl (RunV.field T_field_23_0 rfl rfl) ?_; clear hf a; intro a hf
  refine O.val hf rfl rfl rfl (RunV.load1 T_agg_2 rfl (hS.ptAt (i := 0) rfl) rfl) ?_; clear hf a; intro a hf
  refine O.val hf rfl rfl rfl (RunV.field T_field_23_1 rfl rfl) ?_; clear hf a; intro a hf
  refine O.val hf rfl rfl rfl (RunV.load1 T_agg_2 rfl (hS.ptAt (i := 0) rfl) rfl) ?_; clear hf a; intro a hf
  refine O.val (v := Bv (decide (x2 > (x3 : Int)))) hf rfl rfl rfl (RunV.gtr rfl rfl) ?_; clear hf a; intro a hf
  refine O.val hf rfl rfl rfl (RunV.move rfl) ?_; clear hf a; intro a hf
  refine O.cutN (l₁ := [6, 7, 8, 9]) (l₂ := _) (fun a w => Fr a 27 [] [(2, Iv 0), (4, Pv b4 0), (5, .slice (some ⟨b1, 0, none⟩) 1 1), (6, Iv 1), (7, Iv 0), (8, Bv true), (9, Pv b1 0), (10, .agg #[Iv x2, Iv x3]), (11, Pv b4 0), (12, Iv x2), (13, Pv b4 1), (14, Iv x3), (15, Bv (decide (x2 > (x3 : Int)))), (16, Bv (decide (x2 > (x3 : Int)))), (20, Bv ((decide (x2 > (x3 : Int))) || (decide (x2 < (-2305843009213693952 : Int)))))] ∧ St w0 w noX [pt b1 (Cs #[Iv x2, Iv x3] 23)] [pt b4 (Cs #[Iv x2, Iv x3] 23)]) rfl ?_ ?_
  ·rcases Bool.eq_false_or_eq_true (decide (x2 > (x3 : Int))) with hb5 | hb5
   ·refine O.skipB hf rfl rfl rfl hb5 rfl ?_; clear hf a; intro a hf
    refine O.skipB hf rfl rfl rfl hb5 rfl ?_; clear hf a; intro a hf
    refine O.skipB hf rfl rfl rfl hb5 rfl ?_; clear hf a; intro a hf
    refine O.val (v := Bv ((decide (x2 > (x3 : Int))) || (decide (x2 < (-2305843009213693952 : Int))))) hf rfl rfl rfl (RunV.pick rfl rfl rfl (by rw [hb5]; rfl)) ?_; clear hf a; intro a hf
    exact O.nil ⟨rfl, hf.to ⟨rfl, rfl, rfl, rfl, rfl, rfl, rfl, rfl, rfl, rfl, rfl, rfl, rfl, rfl, rfl, trivial⟩, hS⟩
   ·refine O.gvalB hf rfl rfl rfl hb5 rfl rfl (RunV.field T_field_23_0 rfl rfl) ?_; clear hf a; intro a hf
    refine O.gvalB hf rfl rfl rfl hb5 rfl rfl (RunV.load1 T_agg_2 rfl (hS.ptAt (i := 0) rfl) rfl) ?_; clear hf a; intro a hf
    refine O.gvalB (v := Bv (decide (x2 < (-2305843009213693952 : Int)))) hf rfl rfl rfl hb5 rfl rfl (RunV.lss rfl rfl) ?_; clear hf a; intro a hf
    refine O.val (v := Bv ((decide (x2 > (x3 : Int))) || (decide (x2 < (-2305843009213693952 : Int))))) hf rfl rfl rfl (RunV.pick rfl rfl rfl (by rw [hb5]; rfl)) ?_; clear hf a; intro a hf
    exact O.nil ⟨rfl, hf.to ⟨rfl, rfl, rfl, rfl, rfl, rfl, rfl, rfl, rfl, rfl, rfl, rfl, rfl, rfl, rfl, trivial⟩, hS⟩
  clear hf hS a; try clear w
  rintro a w ⟨hf, hS⟩
  refine O.val hf rfl rfl rfl (RunV.move rfl) ?_; clear hf a; intro a hf
  refine O.cutN (l₁ := [11, 12, 13, 14]) (l₂ := _) (fun a w => Fr a 27 [] [(2, Iv 0), (4, Pv b4 0), (5, .slice (some ⟨b1, 0, none⟩) 1 1), (6, Iv 1), (7, Iv 0), (8, Bv true), (9, Pv b1 0), (10, .agg #[Iv x2, Iv x3]), (11, Pv b4 0), (12, Iv x2), (13, Pv b4 1), (14, Iv x3), (15, Bv (decide (x2 > (x3 : Int)))), (16, Bv (decide (x2 > (x3 : Int)))), (20, Bv ((decide (x2 > (x3 : Int))) || (decide (x2 < (-2305843009213693952 : Int))))), (21, Bv ((decide (x2 > (x3 : Int))) || (decide (x2 < (-2305843009213693952 : Int))))), (25, Bv (((decide (x2 > (x3 : Int))) || (decide (x2 < (-2305843009213693952 : Int)))) || (decide (x3 > (2305843009213693952 : Int)))))] ∧ St w0 w noX [pt b1 (Cs #[Iv x2, Iv x3] 23)] [pt b4 (Cs #[Iv x2, Iv x3] 23)]) rfl ?_ ?_
  ·rcases Bool.eq_false_or_eq_true ((decide (x2 > (x3 : Int))) || (decide (x2 < (-2305843009213693952 : Int)))) with hb6 | hb6
   ·refine O.skipB hf rfl rfl rfl hb6 rfl ?_; clear hf a; intro a hf
    refine O.skipB hf rfl rfl rfl hb6 rfl ?_; clear hf a; intro a hf
    refine O.skipB hf rfl rfl rfl hb6 rfl ?_; clear hf a; intro a hf
    refine O.val (v := Bv (((decide (x2 > (x3 : Int))) || (decide (x2 < (-2305843009213693952 : Int)))) || (decide (x3 > (2305843009213693952 : Int))))) hf rfl rfl rfl (RunV.pick rfl rfl rfl (by rw [hb6]; rfl)) ?_; clear hf a; intro a hf
    exact O.nil ⟨rfl, hf.to ⟨rfl, rfl, rfl, rfl, rfl, rfl, rfl, rfl, rfl, rfl, rfl, rfl, rfl, rfl, rfl, rfl, rfl, trivial⟩, hS⟩
   ·refine O.gvalB hf rfl rfl rfl hb6 rfl rfl (RunV.field T_field_23_1 rfl rfl) ?_; clear hf a; intro a hf
    refine O.gvalB hf rfl rfl rfl hb6 rfl rfl (RunV.load1 T_agg_2 rfl (hS.ptAt (i := 0) rfl) rfl) ?_; clear hf a; intro a hf
    refine O.gvalB (v := Bv (decide (x3 > (2305843009213693952 : Int)))) hf rfl rfl rfl hb6 rfl rfl (RunV.gtr rfl rfl) ?_; clear hf a; intro a hf
    refine O.val (v := Bv (((decide (x2 > (x3 : Int))) || (decide (x2 < (-2305843009213693952 : Int)))) || (decide (x3 > (2305843009213693952 : Int))))) hf rfl rfl rfl (RunV.pick rfl rfl rfl (by rw [hb6]; rfl)) ?_; clear hf a; intro a hf
    exact O.nil ⟨rfl, hf.to ⟨rfl, rfl, rfl, rfl, rfl, rfl, rfl, rfl, rfl, rfl, rfl, rfl, rfl, rfl, rfl, rfl, rfl, trivial⟩, hS⟩
  clear hf hS a; try clear w
  rintro a w ⟨hf, hS⟩
  refine O.nil ?_
  refine k_seq ?_
  refine W.if_ hf rfl (fun hc7 => ?_) (fun hc7 => ?_)
  ·replace hm := hm_t hm hc7
   refine W.seq ?_
   -- region 5
   refine W.regionL (l := [0]) rfl ?_
   refine O.val hf rfl rfl rfl (RunV.assign rfl) ?_; clear hf a; intro a hf
   refine O.nil ?_
   refine k_seq ?_
   refine W.ret ?_
   refine k_blk_ret ?_
   refine k_then_ret ?_
   refine k_then_ret ?_
   refine k_blk_ret ?_
   refine k_then_ret ?_
   obtain rfl := Option.some.inj hm
   refine post1 hf rfl (ResOK.tmp rfl) ?_
   replace hS := hS.sub (N := []) (.cons _ .slnil)
   exact ⟨(), rfl, hS.noB⟩
  ·replace hm := hm_f hm hc7
   refine W.skip ?_
   refine k_blk_normal ?_
   refine k_seq ?_
   -- region 6
   refine W.regionL (l := [0, 1]) rfl ?_
   refine O.val (v := Iv 1) hf rfl rfl rfl (RunV.add (p := 0) (q := 1) rfl rfl) ?_; clear hf a; intro a hf
   refine O.val hf rfl rfl rfl (RunV.move rfl) ?_; clear hf a; intro a hf
   refine O.nil ?_
   refine k_then (LH.step ?_)
   refine W.seq ?_
   -- region 2
   refine W.regionL (l := [0]) rfl ?_
   refine O.val (v := Bv false) hf rfl rfl rfl (RunV.lss (p := 1) (q := 1) rfl rfl) ?_; clear hf a; intro a hf
   refine O.nil ?_
   refine k_seq ?_
   refine W.seq ?_
   refine W.if_ff hf rfl ?_
   refine W.exit ?_
   refine k_then_exit ?_
   refine k_then_exit ?_
   refine k_blk ?_
   replace hS := hS.sub (N := []) (.cons _ .slnil)
   exact k_then ⟨hf.to ⟨rfl, trivial⟩, hS, hm⟩
 ·clear hf hS hm a; try clear w
  rintro a w ⟨hf, hS, hm⟩
  unfold m_span_check_j1 at hm
  refine W.seq ?_
  -- region 7
  refine W.regionL (l := [0]) rfl ?_
  refine O.val hf rfl rfl rfl (RunV.assign rfl) ?_; clear hf a; intro a hf
  refine O.nil ?_
  refine k_seq ?_
  refine W.ret ?_
  obtain rfl := Option.some.inj hm
  refine post1 hf rfl (ResOK.tmp rfl) ?_
  exact ⟨(), rfl, hS.noB⟩

def m_span_Check (F : Nat)  (x1 : Int) (x2 : Int) : Option Int :=
  (m_span_check F x1 x2).bind fun x5 => some x5
set_option maxHeartbeats 1000000 in
set_option maxRecDepth 8000 in
theorem m_span_Check_ok (F : Nat)   (x1 : Int) (x2 : Int) (w0 : World)  (r : Int) (hm : m_span_Check F x1 x2 = some r) :
    Ret Try.prog 11 #[.agg #[Iv x1, Iv x2]] w0 (G := Unit) (fun _ => Iv r) (fun _ w => St w0 w noX [] []) := by
 unfold m_span_Check at hm
 refine ret_of_W (lv := [.agg #[Iv x1, Iv x2]]) Try.func11 rfl rfl rfl (fun a hf => ?_)
 replace hf : Fr a 6 [] [(0, .agg #[Iv x1, Iv x2])] := hf
 have hS : St w0 w0 noX [] [] := St.borrow lendAll_nil
 refine W.seq ?_
 -- region 0
 refine W.regionL (l := [0, 1]) rfl ?_
 refine O.box (cs := #[Iv x1, Iv x2]) hf hS rfl rfl rfl rfl ?_
 clear hf hS a; intro b3 w a hb3 hS hf
 refine O.val hf rfl rfl rfl (RunV.assign rfl) ?_; clear hf a; intro a hf
 refine O.nil ?_
 refine k_seq ?_
 replace hf : Fr a 6 [] [(1, Pv b3 0), (2, Iv 0)] := hf.to ⟨rfl, rfl, trivial⟩
 refine W.seq ?_
 -- region 1
 refine W.regionL (l := [0, 1, 2, 3]) rfl ?_
 refine O.val hf rfl rfl rfl (RunV.loadN (cs' := #[Iv x1, Iv x2]) T_agg_23 T_size_23 rfl (hS.ptAt (i := 0) rfl) (Nat.le_of_ble_eq_true rfl) rfl) ?_; clear hf a; intro a hf
 refine O.buildSlice (cs' := #[Iv x1, Iv x2]) (zs := #[Iv 0, Iv 0]) hf hS rfl rfl T_elem_79 T_size_23 T_zero_23 rfl rfl rfl rfl rfl ?_
 clear hf hS a; intro b4 w a hb4 hS hf
 obtain ⟨x5, hx5, hm⟩ := hm_b hm
 refine O.callR hf rfl rfl rfl (RunE.call (av := #[.slice (some ⟨b4, 0, none⟩) 1 1]) C_ok_21 rfl rfl rfl) (m_span_check_ok F b4 x1 x2 _ (hS.ptAt (i := 0) rfl) x5 hx5) ?_
 clear hf a; rintro _ w hS1 a hf
 replace hf : Fr a _ _ ((5, Iv x5) :: _) := hf
 replace hS := (hS.call hS1).eqM (N := [pt b4 (Cs #[Iv x1, Iv x2] 23), pt b3 (Cs #[Iv x1, Iv x2] 23)]) rfl
 clear hS1
 refine O.val hf rfl rfl rfl (RunV.assign rfl) ?_; clear hf a; intro a hf
 refine O.nil ?_
 refine k_seq ?_
 replace hf : Fr a 6 [] [(2, Iv x5)] := hf.to ⟨rfl, trivial⟩
 refine W.ret ?_
 obtain rfl := Option.some.inj hm
 refine post1 hf rfl (ResOK.tmp rfl) ?_
 replace hS := hS.sub (N := []) (.cons _ (.cons _ .slnil))
 exact ⟨(), rfl, hS.noB⟩

def m_sphere_Check_j1 (F : Nat)  : Option Int :=
  some 0
def m_sphere_Check (F : Nat)  (x1 : Int) (x2 : Int) (x3 : Int) (x4 : Int) (x5 : Int) (x6 : Int) : Option Int :=
  (m_span_Check F x1 x2).bind fun x8 => if x8 ≠ (0 : Int) then (some x8) else ((m_span_Check F x3 x4).bind fun x10 => if x10 ≠ (0 : Int) then (some x10) else ((m_span_Check F x5 x6).bind fun x12 => if x12 ≠ (0 : Int) then (some x12) else (m_sphere_Check_j1 F)))
set_option maxHeartbeats 1000000 in
set_option maxRecDepth 8000 in
theorem m_sphere_Check_ok (F : Nat)   (x1 : Int) (x2 : Int) (x3 : Int) (x4 : Int) (x5 : Int) (x6 : Int) (w0 : World)  (r : Int) (hm : m_sphere_Check F x1 x2 x3 x4 x5 x6 = some r) :
    Ret Try.prog 10 #[.agg #[Iv x1, Iv x2, Iv x3, Iv x4, Iv x5, Iv x6]] w0 (G := Unit) (fun _ => Iv r) (fun _ w => St w0 w noX [] []) := by
 unfold m_sphere_Check at hm
 refine ret_of_W (lv := [.agg #[Iv x1, Iv x2, Iv x3, Iv x4, Iv x5, Iv x6]]) Try.func10 rfl rfl rfl (fun a hf => ?_)
 replace hf : Fr a 16 [] [(0, .agg #[Iv x1, Iv x2, Iv x3, Iv x4, Iv x5, Iv x6])] := hf
 have hS : St w0 w0 noX [] [] := St.borrow lendAll_nil
 refine W.seq ?_
 -- region 0
 refine W.regionL (l := [0, 1]) rfl ?_
 refine O.box (cs := #[Iv x1, Iv x2, Iv x3, Iv x4, Iv x5, Iv x6]) hf hS rfl rfl rfl rfl ?_
 clear hf hS a; intro b7 w a hb7 hS hf
 refine O.val hf rfl rfl rfl (RunV.assign rfl) ?_; clear hf a; intro a hf
 refine O.nil ?_
 refine k_seq ?_
 replace hf : Fr a 16 [] [(1, Pv b7 0), (2, Iv 0)] := hf.to ⟨rfl, rfl, trivial⟩
 refine W.seqR (fun a w => Fr a 16 [] [(2, Iv 0)] ∧ St w0 w noX [] [] ∧ m_sphere_Check_j1 F = some r) ?_ ?_
 ·refine W.seq ?_
  -- region 1
  refine W.regionL (l := [0]) rfl ?_
  refine O.val hf rfl rfl rfl (RunV.move rfl) ?_; clear hf a; intro a hf
  refine O.nil ?_
  refine k_seq ?_
  refine W.block ?_
  refine W.loopH (LH.step ?_)
  refine W.seq ?_
  -- region 2
  refine W.regionL (l := [0]) rfl ?_
  refine O.val (v := Bv true) hf rfl rfl rfl (RunV.lss (p := 0) (q := 3) rfl rfl) ?_; clear hf a; intro a hf
  refine O.nil ?_
  refine k_seq ?_
  refine W.seq ?_
  refine W.if_tt hf rfl ?_
  refine W.skip ?_
  refine k_seq ?_
  refine W.seq ?_
  refine W.block ?_
  refine W.seq ?_
  -- region 3
  refine W.regionL (l := [0, 1]) rfl ?_
  refine O.val hf rfl rfl rfl (RunV.move rfl) ?_; clear hf a; intro a hf
  refine O.val hf rfl rfl rfl (RunV.assign rfl) ?_; clear hf a; intro a hf
  refine O.nil ?_
  refine k_seq ?_
  refine W.seq ?_
  -- region 4
  refine W.regionL (l := [0, 1, 2, 3, 4]) rfl ?_
  refine O.val hf rfl rfl rfl (RunV.move rfl) ?_; clear hf a; intro a hf
  refine O.val hf rfl rfl rfl (RunV.indexArr (j := 0) (m := 0) T_arr_25 T_size_23 rfl rfl rfl (by decide) rfl) ?_; clear hf a; intro a hf
  refine O.val hf rfl rfl rfl (RunV.loadN (cs' := #[Iv x1, Iv x2]) T_agg_23 T_size_23 rfl (hS.ptAt (i := 0) rfl) (Nat.le_of_ble_eq_true rfl) rfl) ?_; clear hf a; intro a hf
  obtain ⟨x8, hx8, hm⟩ := hm_b hm
  refine O.callR hf rfl rfl rfl (RunE.call (av := #[.agg #[Iv x1, Iv x2]]) C_ok_11 rfl rfl rfl) (m_span_Check_ok F x1 x2 _ x8 hx8) ?_
  clear hf a; rintro _ w hS1 a hf
  replace hf : Fr a _ _ ((11, Iv x8) :: _) := hf
  replace hS := (hS.call hS1).eqM (N := [pt b7 (Cs #[Iv x1, Iv x2, Iv x3, Iv x4, Iv x5, Iv x6] 25)]) rfl
  clear hS1
  refine O.val hf rfl rfl rfl (RunV.assign rfl) ?_; clear hf a; intro a hf
  refine O.nil ?_
  refine k_seq ?_
  refine W.seq ?_
  -- region 5
  refine W.regionL (l := [0, 1]) rfl ?_
  refine O.val hf rfl rfl rfl (RunV.move rfl) ?_; clear hf a; intro a hf
  refine O.val (v := Bv (decide (x8 ≠ (0 : Int)))) hf rfl rfl rfl (RunV.neq rfl rfl) ?_; clear hf a; intro a hf
  refine O.nil ?_
  refine k_seq ?_
  refine W.ifdI hf rfl (fun hc9 => ?_) (fun hc9 => ?_)
  ·replace hm := hm_p hm hc9
   refine W.seq ?_
   -- region 6
   refine W.regionL (l := [0, 1]) rfl ?_
   refine O.val hf rfl rfl rfl (RunV.move rfl) ?_; clear hf a; intro a hf
   refine O.val hf rfl rfl rfl (RunV.assign rfl) ?_; clear hf a; intro a hf
   refine O.nil ?_
   refine k_seq ?_
   refine W.ret ?_
   refine k_blk_ret ?_
   refine k_then_ret ?_
   refine k_then_ret ?_
   refine k_blk_ret ?_
   refine k_then_ret ?_
   obtain rfl := Option.some.inj hm
   refine post1 hf rfl (ResOK.tmp rfl) ?_
   replace hS := hS.sub (N := []) (.cons _ .slnil)
   exact ⟨(), rfl, hS.noB⟩
  ·replace hm := hm_n hm hc9
   refine W.skip ?_
   refine k_blk_normal ?_
   refine k_seq ?_
   -- region 7
   refine W.regionL (l := [0, 1]) rfl ?_
   refine O.val (v := Iv 1) hf rfl rfl rfl (RunV.add (p := 0) (q := 1) rfl rfl) ?_; clear hf a; intro a hf
   refine O.val hf rfl rfl rfl (RunV.move rfl) ?_; clear hf a; intro a hf
   refine O.nil ?_
   refine k_then (LH.step ?_)
   refine W.seq ?_
   -- region 2
   refine W.regionL (l := [0]) rfl ?_
   refine O.val (v := Bv true) hf rfl rfl rfl (RunV.lss (p := 1) (q := 3) rfl rfl) ?_; clear hf a; intro a hf
   refine O.nil ?_
   refine k_seq ?_
   refine W.seq ?_
   refine W.if_tt hf rfl ?_
   refine W.skip ?_
   refine k_seq ?_
   refine W.seq ?_
   refine W.block ?_
   refine W.seq ?_
   -- region 3
   refine W.regionL (l := [0, 1]) rfl ?_
   refine O.val hf rfl rfl rfl (RunV.move rfl) ?_; clear hf a; intro a hf
   refine O.val hf rfl rfl rfl (RunV.assign rfl) ?_; clear hf a; intro a hf
   refine O.nil ?_
   refine k_seq ?_
   refine W.seq ?_
   -- region 4
   refine W.regionL (l := [0, 1, 2, 3, 4]) rfl ?_
   refine O.val hf rfl rfl rfl (RunV.move rfl) ?_; clear hf a; intro a hf
   refine O.val hf rfl rfl rfl (RunV.indexArr (j := 1) (m := 2) T_arr_25 T_size_23 rfl rfl rfl (by decide) rfl) ?_; clear hf a; intro a hf
   refine O.val hf rfl rfl rfl (RunV.loadN (cs' := #[Iv x3, Iv x4]) T_agg_23 T_size_23 rfl (hS.ptAt (i := 0) rfl) (Nat.le_of_ble_eq_true rfl) rfl) ?_; clear hf a; intro a hf
   obtain ⟨x10, hx10, hm⟩ := hm_b hm
   refine O.callR hf rfl rfl rfl (RunE.call (av := #[.agg #[Iv x3, Iv x4]]) C_ok_11 rfl rfl rfl) (m_span_Check_ok F x3 x4 _ x10 hx10) ?_
   clear hf a; rintro _ w hS1 a hf
   replace hf : Fr a _ _ ((11, Iv x10) :: _) := hf
   replace hS := (hS.call hS1).eqM (N := [pt b7 (Cs #[Iv x1, Iv x2, Iv x3, Iv x4, Iv x5, Iv x6] 25)]) rfl
   clear hS1
   refine O.val hf rfl rfl rfl (RunV.assign rfl) ?_; clear hf a; intro a hf
   refine O.nil ?_
   refine k_seq ?_
   refine W.seq ?_
   -- region 5
   refine W.regionL (l := [0, 1]) rfl ?_
   refine O.val hf rfl rfl rfl (RunV.move rfl) ?_; clear hf a; intro a hf
   refine O.val (v := Bv (decide (x10 ≠ (0 : Int)))) hf rfl rfl rfl (RunV.neq rfl rfl) ?_; clear hf a; intro a hf
   refine O.nil ?_
   refine k_seq ?_
   refine W.ifdI hf rfl (fun hc11 => ?_) (fun hc11 => ?_)
   ·replace hm := hm_p hm hc11
    refine W.seq ?_
    -- region 6
    refine W.regionL (l := [0, 1]) rfl ?_
    refine O.val hf rfl rfl rfl (RunV.move rfl) ?_; clear hf a; intro a hf
    refine O.val hf rfl rfl rfl (RunV.assign rfl) ?_; clear hf a; intro a hf
    refine O.nil ?_
    refine k_seq ?_
    refine W.ret ?_
    refine k_blk_ret ?_
    refine k_then_ret ?_
    refine k_then_ret ?_
    refine k_blk_ret ?_
    refine k_then_ret ?_
    obtain rfl := Option.some.inj hm
    refine post1 hf rfl (ResOK.tmp rfl) ?_
    replace hS := hS.sub (N := []) (.cons _ .slnil)
    exact ⟨(), rfl, hS.noB⟩
   ·replace hm := hm_n hm hc11
    refine W.skip ?_
    refine k_blk_normal ?_
    refine k_seq ?_
    -- region 7
    refine W.regionL (l := [0, 1]) rfl ?_
    refine O.val (v := Iv 2) hf rfl rfl rfl (RunV.add (p := 1) (q := 1) rfl rfl) ?_; clear hf a; intro a hf
    refine O.val hf rfl rfl rfl (RunV.move rfl) ?_; clear hf a; intro a hf
    refine O.nil ?_
    refine k_then (LH.step ?_)
    refine W.seq ?_
    -- region 2
    refine W.regionL (l := [0]) rfl ?_
    refine O.val (v := Bv true) hf rfl rfl rfl (RunV.lss (p := 2) (q := 3) rfl rfl) ?_; clear hf a; intro a hf
    refine O.nil ?_
    refine k_seq ?_
    refine W.seq ?_
    refine W.if_tt hf rfl ?_
    refine W.skip ?_
    refine k_seq ?_
    refine W.seq ?_
    refine W.block ?_
    refine W.seq ?_
    -- region 3
    refine W.regionL (l := [0, 1]) rfl ?_
    refine O.val hf rfl rfl rfl (RunV.move rfl) ?_; clear hf a; intro a hf
    refine O.val hf rfl rfl rfl (RunV.assign rfl) ?_; clear hf a; intro a hf
    refine O.nil ?_
    refine k_seq ?_
    refine W.seq ?_
    -- region 4
    refine W.regionL (l := [0, 1, 2, 3, 4]) rfl ?_
    refine O.val hf rfl rfl rfl (RunV.move rfl) ?_; clear hf a; intro a hf
    refine O.val hf rfl rfl rfl (RunV.indexArr (j := 2) (m := 4) T_arr_25 T_size_23 rfl rfl rfl (by decide) rfl) ?_; clear hf a; intro a hf
    refine O.val hf rfl rfl rfl (RunV.loadN (cs' := #[Iv x5, Iv x6]) T_agg_23 T_size_23 rfl (hS.ptAt (i := 0) rfl) (Nat.le_of_ble_eq_true rfl) rfl) ?_; clear hf a; intro a hf
    obtain ⟨x12, hx12, hm⟩ := hm_b hm
    refine O.callR hf rfl rfl rfl (RunE.call (av := #[.agg #[Iv x5, Iv x6]]) C_ok_11 rfl rfl rfl) (m_span_Check_ok F x5 x6 _ x12 hx12) ?_
    clear hf a; rintro _ w hS1 a hf
    replace hf : Fr a _ _ ((11, Iv x12) :: _) := hf
    replace hS := (hS.call hS1).eqM (N := [pt b7 (Cs #[Iv x1, Iv x2, Iv x3, Iv x4, Iv x5, Iv x6] 25)]) rfl
    clear hS1
    refine O.val hf rfl rfl rfl (RunV.assign rfl) ?_; clear hf a; intro a hf
    refine O.nil ?_
    refine k_seq ?_
    refine W.seq ?_
    -- region 5
    refine W.regionL (l := [0, 1]) rfl ?_
    refine O.val hf rfl rfl rfl (RunV.move rfl) ?_; clear hf a; intro a hf
    refine O.val (v := Bv (decide (x12 ≠ (0 : Int)))) hf rfl rfl rfl (RunV.neq rfl rfl) ?_; clear hf a; intro a hf
    refine O.nil ?_
    refine k_seq ?_
    refine W.ifdI hf rfl (fun hc13 => ?_) (fun hc13 => ?_)
    ·replace hm := hm_p hm hc13
     refine W.seq ?_
     -- region 6
     refine W.regionL (l := [0, 1]) rfl ?_
     refine O.val hf rfl rfl rfl (RunV.move rfl) ?_; clear hf a; intro a hf
     refine O.val hf rfl rfl rfl (RunV.assign rfl) ?_; clear hf a; intro a hf
     refine O.nil ?_
     refine k_seq ?_
     refine W.ret ?_
     refine k_blk_ret ?_
     refine k_then_ret ?_
     refine k_then_ret ?_
     refine k_blk_ret ?_
     refine k_then_ret ?_
     obtain rfl := Option.some.inj hm
     refine post1 hf rfl (ResOK.tmp rfl) ?_
     replace hS := hS.sub (N := []) (.cons _ .slnil)
     exact ⟨(), rfl, hS.noB⟩
    ·replace hm := hm_n hm hc13
     refine W.skip ?_
     refine k_blk_normal ?_
     refine k_seq ?_
     -- region 7
     refine W.regionL (l := [0, 1]) rfl ?_
     refine O.val (v := Iv 3) hf rfl rfl rfl (RunV.add (p := 2) (q := 1) rfl rfl) ?_; clear hf a; intro a hf
     refine O.val hf rfl rfl rfl (RunV.move rfl) ?_; clear hf a; intro a hf
     refine O.nil ?_
     refine k_then (LH.step ?_)
     refine W.seq ?_
     -- region 2
     refine W.regionL (l := [0]) rfl ?_
     refine O.val (v := Bv false) hf rfl rfl rfl (RunV.lss (p := 3) (q := 3) rfl rfl) ?_; clear hf a; intro a hf
     refine O.nil ?_
     refine k_seq ?_
     refine W.seq ?_
     refine W.if_ff hf rfl ?_
     refine W.exit ?_
     refine k_then_exit ?_
     refine k_then_exit ?_
     refine k_blk ?_
     replace hS := hS.sub (N := []) (.cons _ .slnil)
     exact k_then ⟨hf.to ⟨rfl, trivial⟩, hS, hm⟩
 ·clear hf hS hm a; try clear w
  rintro a w ⟨hf, hS, hm⟩
  unfold m_sphere_Check_j1 at hm
  refine W.seq ?_
  -- region 8
  refine W.regionL (l := [0]) rfl ?_
  refine O.val hf rfl rfl rfl (RunV.assign rfl) ?_; clear hf a; intro a hf
  refine O.nil ?_
  refine k_seq ?_
  refine W.ret ?_
  obtain rfl := Option.some.inj hm
  refine post1 hf rfl (ResOK.tmp rfl) ?_
  exact ⟨(), rfl, hS.noB⟩

def m_cells_begin (F : Nat)   : Option Unit :=
  some ()
set_option maxHeartbeats 1000000 in
set_option maxRecDepth 8000 in
theorem m_cells_begin_ok (F : Nat)    (w0 : World)  (r : Unit) (hm : m_cells_begin F = some r) :
    Ret Try.prog 12 #[] w0 (G := Nat) (fun g1 => Pv g1 0) (fun g1 w => St w0 w noX [] [pt g1 (Cs #[.func (.func 22) #[] #[], .func (.func 23) #[] #[], .func (.func 24) #[] #[], .func (.func 25) #[] #[], Iv 0] 48)]) := by
 unfold m_cells_begin at hm
 refine ret_of_W (lv := []) Try.func12 rfl rfl rfl (fun a hf => ?_)
 replace hf : Fr a 3 [] [] := hf
 have hS : St w0 w0 noX [] [] := St.borrow lendAll_nil
 refine W.seq ?_
 -- region 0
 refine W.regionL (l := [0]) rfl ?_
 refine O.val hf rfl rfl rfl (RunV.assign rfl) ?_; clear hf a; intro a hf
 refine O.nil ?_
 refine k_seq ?_
 refine W.seq ?_
 -- region 1
 refine W.regionL (l := [0, 1, 2]) rfl ?_
 refine O.val (v := .agg #[.func (.func 22) #[] #[], .func (.func 23) #[] #[], .func (.func 24) #[] #[], .func (.func 25) #[] #[], Iv 0]) hf rfl rfl rfl (RunV.buildS (cs' := #[.func (.func 22) #[] #[], .func (.func 23) #[] #[], .func (.func 24) #[] #[], .func (.func 25) #[] #[], Iv 0]) T_places_48 T_zero_48 rfl (by kernel_rfl)) ?_; clear hf a; intro a hf
 refine O.box (cs := #[.func (.func 22) #[] #[], .func (.func 23) #[] #[], .func (.func 24) #[] #[], .func (.func 25) #[] #[], Iv 0]) hf hS rfl rfl rfl rfl ?_
 clear hf hS a; intro b1 w a hb1 hS hf
 refine O.val hf rfl rfl rfl (RunV.assign rfl) ?_; clear hf a; intro a hf
 refine O.nil ?_
 refine k_seq ?_
 replace hf : Fr a 3 [] [(0, Pv b1 0)] := hf.to ⟨rfl, trivial⟩
 refine W.ret ?_
 obtain rfl := Option.some.inj hm
 refine post1 hf rfl (ResOK.tmp rfl) ?_
 exact ⟨b1, rfl, hS.noB⟩

def m_math_bits_Mul64 (F : Nat)  (x1 : Int) (x2 : Int) : Option (Int × Int) :=
  (some (IntKind.u64.wrap ((bitand .u64 x1 4294967295) * (bitand .u64 x2 4294967295)))).bind fun x3 => (some (IntKind.u64.wrap ((IntKind.u64.wrap ((Int.fdiv x1 (2 ^ 32)) * (bitand .u64 x2 4294967295))) + (Int.fdiv x3 (2 ^ 32))))).bind fun x4 => (some (IntKind.u64.wrap ((bitand .u64 x4 4294967295) + (IntKind.u64.wrap ((bitand .u64 x1 4294967295) * (Int.fdiv x2 (2 ^ 32))))))).bind fun x5 => (some (IntKind.u64.wrap ((IntKind.u64.wrap ((IntKind.u64.wrap ((Int.fdiv x1 (2 ^ 32)) * (Int.fdiv x2 (2 ^ 32)))) + (Int.fdiv x4 (2 ^ 32)))) + (Int.fdiv x5 (2 ^ 32))))).bind fun x6 => some (x6, IntKind.u64.wrap (x1 * x2))
set_option maxHeartbeats 1000000 in
set_option maxRecDepth 8000 in
theorem m_math_bits_Mul64_ok (F : Nat)   (x1 : Int) (x2 : Int) (w0 : World)  (r : Int × Int) (hm : m_math_bits_Mul64 F x1 x2 = some r) :
    Ret Try.prog 40 #[Uv x1, Uv x2] w0 (G := Unit) (fun _ => .tuple #[Uv r.1, Uv r.2]) (fun _ w => St w0 w noX [] []) := by
 unfold m_math_bits_Mul64 at hm
 refine ret_of_W (lv := [Uv x1, Uv x2]) Try.func40 rfl rfl rfl (fun a hf => ?_)
 replace hf : Fr a 51 [] [(0, Uv x1), (1, Uv x2)] := hf
 have hS : St w0 w0 noX [] [] := St.borrow lendAll_nil
 refine W.seq ?_
 -- region 0
 refine W.regionL (l := [0, 1]) rfl ?_
 refine O.val hf rfl rfl rfl (RunV.assign rfl) ?_; clear hf a; intro a hf
 refine O.val hf rfl rfl rfl (RunV.assign rfl) ?_; clear hf a; intro a hf
 refine O.nil ?_
 refine k_seq ?_
 refine W.seq ?_
 -- region 1
 refine W.regionL (l := [0, 1, 2]) rfl ?_
 refine O.val hf rfl rfl rfl (RunV.move rfl) ?_; clear hf a; intro a hf
 refine O.val (v := Uv (bitand .u64 x1 4294967295)) hf rfl rfl rfl (RunV.bitand rfl rfl) ?_; clear hf a; intro a hf
 refine O.val hf rfl rfl rfl (RunV.assign rfl) ?_; clear hf a; intro a hf
 refine O.nil ?_
 refine k_seq ?_
 replace hf : Fr a 51 [] [(0, Uv x1), (1, Uv x2), (4, Uv 0), (5, Uv 0), (6, Uv (bitand .u64 x1 4294967295))] := hf.to ⟨rfl, rfl, rfl, rfl, rfl, trivial⟩
 refine W.seq ?_
 -- region 2
 refine W.regionL (l := [0, 1, 2]) rfl ?_
 refine O.val hf rfl rfl rfl (RunV.move rfl) ?_; clear hf a; intro a hf
 refine O.val (v := Uv (Int.fdiv x1 (2 ^ 32))) hf rfl rfl rfl (RunV.shr (q := 32) rfl rfl (by decide)) ?_; clear hf a; intro a hf
 refine O.val hf rfl rfl rfl (RunV.assign rfl) ?_; clear hf a; intro a hf
 refine O.nil ?_
 refine k_seq ?_
 replace hf : Fr a 51 [] [(0, Uv x1), (1, Uv x2), (4, Uv 0), (5, Uv 0), (6, Uv (bitand .u64 x1 4294967295)), (7, Uv (Int.fdiv x1 (2 ^ 32)))] := hf.to ⟨rfl, rfl, rfl, rfl, rfl, rfl, trivial⟩
 refine W.seq ?_
 -- region 3
 refine W.regionL (l := [0, 1, 2]) rfl ?_
 refine O.val hf rfl rfl rfl (RunV.move rfl) ?_; clear hf a; intro a hf
 refine O.val (v := Uv (bitand .u64 x2 4294967295)) hf rfl rfl rfl (RunV.bitand rfl rfl) ?_; clear hf a; intro a hf
 refine O.val hf rfl rfl rfl (RunV.assign rfl) ?_; clear hf a; intro a hf
 refine O.nil ?_
 refine k_seq ?_
 replace hf : Fr a 51 [] [(0, Uv x1), (1, Uv x2), (4, Uv 0), (5, Uv 0), (6, Uv (bitand .u64 x1 4294967295)), (7, Uv (Int.fdiv x1 (2 ^ 32))), (8, Uv (bitand .u64 x2 4294967295))] := hf.to ⟨rfl, rfl, rfl, rfl, rfl, rfl, rfl, trivial⟩
 refine W.seq ?_
 -- region 4
 refine W.regionL (l := [0, 1, 2]) rfl ?_
 refine O.val hf rfl rfl rfl (RunV.move rfl) ?_; clear hf a; intro a hf
 refine O.val (v := Uv (Int.fdiv x2 (2 ^ 32))) hf rfl rfl rfl (RunV.shr (q := 32) rfl rfl (by decide)) ?_; clear hf a; intro a hf
 refine O.val hf rfl rfl rfl (RunV.assign rfl) ?_; clear hf a; intro a hf
 refine O.nil ?_
 refine k_seq ?_
 replace hf : Fr a 51 [] [(0, Uv x1), (1, Uv x2), (4, Uv 0), (5, Uv 0), (6, Uv (bitand .u64 x1 4294967295)), (7, Uv (Int.fdiv x1 (2 ^ 32))), (8, Uv (bitand .u64 x2 4294967295)), (9, Uv (Int.fdiv x2 (2 ^ 32)))] := hf.to ⟨rfl, rfl, rfl, rfl, rfl, rfl, rfl, rfl, trivial⟩
 refine W.seq ?_
 -- region 5
 refine W.regionL (l := [0, 1, 2, 3]) rfl ?_
 refine O.val hf rfl rfl rfl (RunV.move rfl) ?_; clear hf a; intro a hf
 refine O.val hf rfl rfl rfl (RunV.move rfl) ?_; clear hf a; intro a hf
 refine O.val (v := Uv (IntKind.u64.wrap ((bitand .u64 x1 4294967295) * (bitand .u64 x2 4294967295)))) hf rfl rfl rfl (RunV.mul rfl rfl) ?_; clear hf a; intro a hf
 refine O.val hf rfl rfl rfl (RunV.assign rfl) ?_; clear hf a; intro a hf
 refine O.nil ?_
 refine k_seq ?_
 replace hf : Fr a 51 [] [(0, Uv x1), (1, Uv x2), (4, Uv 0), (5, Uv 0), (6, Uv (bitand .u64 x1 4294967295)), (7, Uv (Int.fdiv x1 (2 ^ 32))), (8, Uv (bitand .u64 x2 4294967295)), (9, Uv (Int.fdiv x2 (2 ^ 32))), (10, Uv (IntKind.u64.wrap ((bitand .u64 x1 4294967295) * (bitand .u64 x2 4294967295))))] := hf.to ⟨rfl, rfl, rfl, rfl, rfl, rfl, rfl, rfl, rfl, trivial⟩
 obtain ⟨x3, hx3, hm⟩ := hm_b hm
 rw [Option.some.inj hx3] at hf
 refine W.seq ?_
 -- region 6
 refine W.regionL (l := [0, 1, 2, 3, 4, 5, 6]) rfl ?_
 refine O.val hf rfl rfl rfl (RunV.move rfl) ?_; clear hf a; intro a hf
 refine O.val hf rfl rfl rfl (RunV.move rfl) ?_; clear hf a; intro a hf
 refine O.val (v := Uv (IntKind.u64.wrap ((Int.fdiv x1 (2 ^ 32)) * (bitand .u64 x2 4294967295)))) hf rfl rfl rfl (RunV.mul rfl rfl) ?_; clear hf a; intro a hf
 refine O.val hf rfl rfl rfl (RunV.move rfl) ?_; clear hf a; intro a hf
 refine O.val (v := Uv (Int.fdiv x3 (2 ^ 32))) hf rfl rfl rfl (RunV.shr (q := 32) rfl rfl (by decide)) ?_; clear hf a; intro a hf
 refine O.val (v := Uv (IntKind.u64.wrap ((IntKind.u64.wrap ((Int.fdiv x1 (2 ^ 32)) * (bitand .u64 x2 4294967295))) + (Int.fdiv x3 (2 ^ 32))))) hf rfl rfl rfl (RunV.add rfl rfl) ?_; clear hf a; intro a hf
 refine O.val hf rfl rfl rfl (RunV.assign rfl) ?_; clear hf a; intro a hf
 refine O.nil ?_
 refine k_seq ?_
 replace hf : Fr a 51 [] [(0, Uv x1), (1, Uv x2), (4, Uv 0), (5, Uv 0), (6, Uv (bitand .u64 x1 4294967295)), (7, Uv (Int.fdiv x1 (2 ^ 32))), (9, Uv (Int.fdiv x2 (2 ^ 32))), (11, Uv (IntKind.u64.wrap ((IntKind.u64.wrap ((Int.fdiv x1 (2 ^ 32)) * (bitand .u64 x2 4294967295))) + (Int.fdiv x3 (2 ^ 32)))))] := hf.to ⟨rfl, rfl, rfl, rfl, rfl, rfl, rfl, rfl, trivial⟩
 obtain ⟨x4, hx4, hm⟩ := hm_b hm
 rw [Option.some.inj hx4] at hf
 refine W.seq ?_
 -- region 7
 refine W.regionL (l := [0, 1, 2]) rfl ?_
 refine O.val hf rfl rfl rfl (RunV.move rfl) ?_; clear hf a; intro a hf
 refine O.val (v := Uv (bitand .u64 x4 4294967295)) hf rfl rfl rfl (RunV.bitand rfl rfl) ?_; clear hf a; intro a hf
 refine O.val hf rfl rfl rfl (RunV.assign rfl) ?_; clear hf a; intro a hf
 refine O.nil ?_
 refine k_seq ?_
 replace hf : Fr a 51 [] [(0, Uv x1), (1, Uv x2), (4, Uv 0), (5, Uv 0), (6, Uv (bitand .u64 x1 4294967295)), (7, Uv (Int.fdiv x1 (2 ^ 32))), (9, Uv (Int.fdiv x2 (2 ^ 32))), (11, Uv x4), (12, Uv (bitand .u64 x4 4294967295))] := hf.to ⟨rfl, rfl, rfl, rfl, rfl, rfl, rfl, rfl, rfl, trivial⟩
 refine W.seq ?_
 -- region 8
 refine W.regionL (l := [0, 1, 2]) rfl ?_
 refine O.val hf rfl rfl rfl (RunV.move rfl) ?_; clear hf a; intro a hf
 refine O.val (v := Uv (Int.fdiv x4 (2 ^ 32))) hf rfl rfl rfl (RunV.shr (q := 32) rfl rfl (by decide)) ?_; clear hf a; intro a hf
 refine O.val hf rfl rfl rfl (RunV.assign rfl) ?_; clear hf a; intro a hf
 refine O.nil ?_
 refine k_seq ?_
 replace hf : Fr a 51 [] [(0, Uv x1), (1, Uv x2), (4, Uv 0), (5, Uv 0), (6, Uv (bitand .u64 x1 4294967295)), (7, Uv (Int.fdiv x1 (2 ^ 32))), (9, Uv (Int.fdiv x2 (2 ^ 32))), (12, Uv (bitand .u64 x4 4294967295)), (13, Uv (Int.fdiv x4 (2 ^ 32)))] := hf.to ⟨rfl, rfl, rfl, rfl, rfl, rfl, rfl, rfl, rfl, trivial⟩
 refine W.seq ?_
 -- region 9
 refine W.regionL (l := [0, 1, 2, 3, 4, 5]) rfl ?_
 refine O.val hf rfl rfl rfl (RunV.move rfl) ?_; clear hf a; intro a hf
 refine O.val hf rfl rfl rfl (RunV.move rfl) ?_; clear hf a; intro a hf
 refine O.val hf rfl rfl rfl (RunV.move rfl) ?_; clear hf a; intro a hf
 refine O.val (v := Uv (IntKind.u64.wrap ((bitand .u64 x1 4294967295) * (Int.fdiv x2 (2 ^ 32))))) hf rfl rfl rfl (RunV.mul rfl rfl) ?_; clear hf a; intro a hf
 refine O.val (v := Uv (IntKind.u64.wrap ((bitand .u64 x4 4294967295) + (IntKind.u64.wrap ((bitand .u64 x1 4294967295) * (Int.fdiv x2 (2 ^ 32))))))) hf rfl rfl rfl (RunV.add rfl rfl) ?_; clear hf a; intro a hf
 refine O.val hf rfl rfl rfl (RunV.assign rfl) ?_; clear hf a; intro a hf
 refine O.nil ?_
 refine k_seq ?_
 replace hf : Fr a 51 [] [(0, Uv x1), (1, Uv x2), (4, Uv 0), (5, Uv 0), (7, Uv (Int.fdiv x1 (2 ^ 32))), (9, Uv (Int.fdiv x2 (2 ^ 32))), (12, Uv (IntKind.u64.wrap ((bitand .u64 x4 4294967295) + (IntKind.u64.wrap ((bitand .u64 x1 4294967295) * (Int.fdiv x2 (2 ^ 32))))))), (13, Uv (Int.fdiv x4 (2 ^ 32)))] := hf.to ⟨rfl, rfl, rfl, rfl, rfl, rfl, rfl, rfl, trivial⟩
 obtain ⟨x5, hx5, hm⟩ := hm_b hm
 rw [Option.some.inj hx5] at hf
 refine W.seq ?_
 -- region 10
 refine W.regionL (l := [0, 1, 2, 3, 4, 5, 6, 7, 8]) rfl ?_
 refine O.val hf rfl rfl rfl (RunV.move rfl) ?_; clear hf a; intro a hf
 refine O.val hf rfl rfl rfl (RunV.move rfl) ?_; clear hf a; intro a hf
 refine O.val (v := Uv (IntKind.u64.wrap ((Int.fdiv x1 (2 ^ 32)) * (Int.fdiv x2 (2 ^ 32))))) hf rfl rfl rfl (RunV.mul rfl rfl) ?_; clear hf a; intro a hf
 refine O.val hf rfl rfl rfl (RunV.move rfl) ?_; clear hf a; intro a hf
 refine O.val (v := Uv (IntKind.u64.wrap ((IntKind.u64.wrap ((Int.fdiv x1 (2 ^ 32)) * (Int.fdiv x2 (2 ^ 32)))) + (Int.fdiv x4 (2 ^ 32))))) hf rfl rfl rfl (RunV.add rfl rfl) ?_; clear hf a; intro a hf
 refine O.val hf rfl rfl rfl (RunV.move rfl) ?_; clear hf a; intro a hf
 refine O.val (v := Uv (Int.fdiv x5 (2 ^ 32))) hf rfl rfl rfl (RunV.shr (q := 32) rfl rfl (by decide)) ?_; clear hf a; intro a hf
 refine O.val (v := Uv (IntKind.u64.wrap ((IntKind.u64.wrap ((IntKind.u64.wrap ((Int.fdiv x1 (2 ^ 32)) * (Int.fdiv x2 (2 ^ 32)))) + (Int.fdiv x4 (2 ^ 32)))) + (Int.fdiv x5 (2 ^ 32))))) hf rfl rfl rfl (RunV.add rfl rfl) ?_; clear hf a; intro a hf
 refine O.val hf rfl rfl rfl (RunV.assign rfl) ?_; clear hf a; intro a hf
 refine O.nil ?_
 refine k_seq ?_
 replace hf : Fr a 51 [] [(0, Uv x1), (1, Uv x2), (4, Uv (IntKind.u64.wrap ((IntKind.u64.wrap ((IntKind.u64.wrap ((Int.fdiv x1 (2 ^ 32)) * (Int.fdiv x2 (2 ^ 32)))) + (Int.fdiv x4 (2 ^ 32)))) + (Int.fdiv x5 (2 ^ 32))))), (5, Uv 0)] := hf.to ⟨rfl, rfl, rfl, rfl, trivial⟩
 obtain ⟨x6, hx6, hm⟩ := hm_b hm
 rw [Option.some.inj hx6] at hf
 refine W.seq ?_
 -- region 11
 refine W.regionL (l := [0, 1, 2, 3]) rfl ?_
 refine O.val hf rfl rfl rfl (RunV.move rfl) ?_; clear hf a; intro a hf
 refine O.val hf rfl rfl rfl (RunV.move rfl) ?_; clear hf a; intro a hf
 refine O.val (v := Uv (IntKind.u64.wrap (x1 * x2))) hf rfl rfl rfl (RunV.mul rfl rfl) ?_; clear hf a; intro a hf
 refine O.val hf rfl rfl rfl (RunV.assign rfl) ?_; clear hf a; intro a hf
 refine O.nil ?_
 refine k_seq ?_
 replace hf : Fr a 51 [] [(4, Uv x6), (5, Uv (IntKind.u64.wrap (x1 * x2)))] := hf.to ⟨rfl, rfl, trivial⟩
 refine W.ret ?_
 obtain rfl := Option.some.inj hm
 refine post2 hf rfl (ResOK.tmp rfl) (ResOK.tmp rfl) ?_
 exact ⟨(), rfl, hS.noB⟩

def m_span_times_j1 (F : Nat) (x4 : Int × Int) (x6 : Int) : Option (Int × Int) :=
  some (x6, x4.2)
def m_span_times_j2 (F : Nat) (x2 : Int) (x4 : Int × Int) (x1 : Int) (x5 : Int) : Option (Int × Int) :=
  if x2 < (0 : Int) then (m_span_times_j1 F x4 (IntKind.i64.wrap (x5 - x1))) else (m_span_times_j1 F x4 x5)
def m_span_times (F : Nat)  (x1 : Int) (x2 : Int) : Option (Int × Int) :=
  (m_math_bits_Mul64 F (IntKind.u64.wrap x1) (IntKind.u64.wrap x2)).bind fun x4 => if x1 < (0 : Int) then (m_span_times_j2 F x2 x4 x1 (IntKind.i64.wrap ((IntKind.i64.wrap x4.1) - x2))) else (m_span_times_j2 F x2 x4 x1 (IntKind.i64.wrap x4.1))
set_option maxHeartbeats 1000000 in
set_option maxRecDepth 8000 in
theorem m_span_times_ok (F : Nat)   (x1 : Int) (x2 : Int) (w0 : World)  (r : Int × Int) (hm : m_span_times F x1 x2 = some r) :
    Ret Try.prog 26 #[Iv x1, Iv x2] w0 (G := Unit) (fun _ => .agg #[Iv r.1, Uv r.2]) (fun _ w => St w0 w noX [] []) := by
 unfold m_span_times at hm
 refine ret_of_W (lv := [Iv x1, Iv x2]) Try.func26 rfl rfl rfl (fun a hf => ?_)
 replace hf : Fr a 31 [] [(0, Iv x1), (1, Iv x2)] := hf
 have hS : St w0 w0 noX [] [] := St.borrow lendAll_nil
 refine W.seq ?_
 -- region 0
 refine W.regionL (l := [0]) rfl ?_
 refine O.alloc (cs := #[Iv 0, Uv 0]) hf hS rfl rfl T_zero_64 rfl ?_
 clear hf hS a; intro b3 w a hb3 hS hf
 refine O.nil ?_
 refine k_seq ?_
 refine W.seq ?_
 -- region 1
 refine W.regionL (l := [0, 1, 2, 3, 4, 5, 6, 7, 8, 9]) rfl ?_
 refine O.val hf rfl rfl rfl (RunV.move rfl) ?_; clear hf a; intro a hf
 refine O.val (v := Uv (IntKind.u64.wrap x1)) hf rfl rfl rfl (RunV.conv T_und_2 T_int_62 rfl) ?_; clear hf a; intro a hf
 refine O.val hf rfl rfl rfl (RunV.move rfl) ?_; clear hf a; intro a hf
 refine O.val (v := Uv (IntKind.u64.wrap x2)) hf rfl rfl rfl (RunV.conv T_und_2 T_int_62 rfl) ?_; clear hf a; intro a hf
 obtain ⟨x4, hx4, hm⟩ := hm_b hm
 refine O.callR hf rfl rfl rfl (RunE.call (av := #[Uv (IntKind.u64.wrap x1), Uv (IntKind.u64.wrap x2)]) C_ok_40 rfl rfl rfl) (m_math_bits_Mul64_ok F (IntKind.u64.wrap x1) (IntKind.u64.wrap x2) _ x4 hx4) ?_
 clear hf a; rintro _ w hS1 a hf
 replace hf : Fr a _ _ ((13, .tuple #[Uv x4.1, Uv x4.2]) :: _) := hf
 replace hS := (hS.call hS1).eqM (N := [pt b3 (Cs #[Iv 0, Uv 0] 64)]) rfl
 clear hS1
 refine O.val hf rfl rfl rfl (RunV.move rfl) ?_; clear hf a; intro a hf
 refine O.val hf rfl rfl rfl (RunV.extract rfl rfl) ?_; clear hf a; intro a hf
 refine O.val hf rfl rfl rfl (RunV.extract rfl rfl) ?_; clear hf a; intro a hf
 refine O.val hf rfl rfl rfl (RunV.assign rfl) ?_; clear hf a; intro a hf
 refine O.val hf rfl rfl rfl (RunV.assign rfl) ?_; clear hf a; intro a hf
 refine O.nil ?_
 refine k_seq ?_
 replace hf : Fr a 31 [] [(0, Iv x1), (1, Iv x2), (4, Pv b3 0), (5, Uv x4.1), (6, Uv x4.2)] := hf.to ⟨rfl, rfl, rfl, rfl, rfl, trivial⟩
 refine W.seq ?_
 -- region 2
 refine W.regionL (l := [0, 1, 2]) rfl ?_
 refine O.val hf rfl rfl rfl (RunV.move rfl) ?_; clear hf a; intro a hf
 refine O.val (v := Iv (IntKind.i64.wrap x4.1)) hf rfl rfl rfl (RunV.conv T_und_62 T_int_2 rfl) ?_; clear hf a; intro a hf
 refine O.val hf rfl rfl rfl (RunV.assign rfl) ?_; clear hf a; intro a hf
 refine O.nil ?_
 refine k_seq ?_
 replace hf : Fr a 31 [] [(0, Iv x1), (1, Iv x2), (4, Pv b3 0), (6, Uv x4.2), (7, Iv (IntKind.i64.wrap x4.1))] := hf.to ⟨rfl, rfl, rfl, rfl, rfl, trivial⟩
 refine W.seqR (fun a w => ∃ (x5 : Int), Fr a 31 [] [(0, Iv x1), (1, Iv x2), (4, Pv b3 0), (6, Uv x4.2), (7, Iv x5)] ∧ St w0 w noX [] [pt b3 (Cs #[Iv 0, Uv 0] 64)] ∧ m_span_times_j2 F x2 x4 x1 x5 = some r) ?_ ?_
 ·refine W.seq ?_
  -- region 3
  refine W.regionL (l := [0, 1]) rfl ?_
  refine O.val hf rfl rfl rfl (RunV.move rfl) ?_; clear hf a; intro a hf
  refine O.val (v := Bv (decide (x1 < (0 : Int)))) hf rfl rfl rfl (RunV.lss rfl rfl) ?_; clear hf a; intro a hf
  refine O.nil ?_
  refine k_seq ?_
  replace hf : Fr a 31 [] [(0, Iv x1), (1, Iv x2), (4, Pv b3 0), (6, Uv x4.2), (7, Iv (IntKind.i64.wrap x4.1)), (19, Bv (decide (x1 < (0 : Int))))] := hf.to ⟨rfl, rfl, rfl, rfl, rfl, rfl, trivial⟩
  refine W.ifdI hf rfl (fun hc8 => ?_) (fun hc8 => ?_)
  ·replace hm := hm_p hm hc8
   -- region 4
   refine W.regionL (l := [0, 1, 2, 3]) rfl ?_
   refine O.val hf rfl rfl rfl (RunV.move rfl) ?_; clear hf a; intro a hf
   refine O.val hf rfl rfl rfl (RunV.move rfl) ?_; clear hf a; intro a hf
   refine O.val (v := Iv (IntKind.i64.wrap ((IntKind.i64.wrap x4.1) - x2))) hf rfl rfl rfl (RunV.sub rfl rfl) ?_; clear hf a; intro a hf
   refine O.val hf rfl rfl rfl (RunV.assign rfl) ?_; clear hf a; intro a hf
   refine O.nil ?_
   exact k_then ⟨IntKind.i64.wrap ((IntKind.i64.wrap x4.1) - x2), hf.to ⟨rfl, rfl, rfl, rfl, rfl, trivial⟩, hS, hm⟩
  ·replace hm := hm_n hm hc8
   refine W.skip ?_
   exact k_then ⟨IntKind.i64.wrap x4.1, hf.to ⟨rfl, rfl, rfl, rfl, rfl, trivial⟩, hS, hm⟩
 ·clear hf hS hm a; try clear w
  rintro a w ⟨x5, hf, hS, hm⟩
  unfold m_span_times_j2 at hm
  refine W.seqR (fun a w => ∃ (x6 : Int), Fr a 31 [] [(4, Pv b3 0), (6, Uv x4.2), (7, Iv x6)] ∧ St w0 w noX [] [pt b3 (Cs #[Iv 0, Uv 0] 64)] ∧ m_span_times_j1 F x4 x6 = some r) ?_ ?_
  ·refine W.seq ?_
   -- region 5
   refine W.regionL (l := [0, 1]) rfl ?_
   refine O.val hf rfl rfl rfl (RunV.move rfl) ?_; clear hf a; intro a hf
   refine O.val (v := Bv (decide (x2 < (0 : Int)))) hf rfl rfl rfl (RunV.lss rfl rfl) ?_; clear hf a; intro a hf
   refine O.nil ?_
   refine k_seq ?_
   replace hf : Fr a 31 [] [(0, Iv x1), (4, Pv b3 0), (6, Uv x4.2), (7, Iv x5), (24, Bv (decide (x2 < (0 : Int))))] := hf.to ⟨rfl, rfl, rfl, rfl, rfl, trivial⟩
   refine W.ifdI hf rfl (fun hc7 => ?_) (fun hc7 => ?_)
   ·replace hm := hm_p hm hc7
    -- region 6
    refine W.regionL (l := [0, 1, 2, 3]) rfl ?_
    refine O.val hf rfl rfl rfl (RunV.move rfl) ?_; clear hf a; intro a hf
    refine O.val hf rfl rfl rfl (RunV.move rfl) ?_; clear hf a; intro a hf
    refine O.val (v := Iv (IntKind.i64.wrap (x5 - x1))) hf rfl rfl rfl (RunV.sub rfl rfl) ?_; clear hf a; intro a hf
    refine O.val hf rfl rfl rfl (RunV.assign rfl) ?_; clear hf a; intro a hf
    refine O.nil ?_
    exact k_then ⟨IntKind.i64.wrap (x5 - x1), hf.to ⟨rfl, rfl, rfl, trivial⟩, hS, hm⟩
   ·replace hm := hm_n hm hc7
    refine W.skip ?_
    exact k_then ⟨x5, hf.to ⟨rfl, rfl, rfl, trivial⟩, hS, hm⟩
  ·clear hf hS hm a; try clear w
   rintro a w ⟨x6, hf, hS, hm⟩
   unfold m_span_times_j1 at hm
   refine W.seq ?_
   -- region 7
   refine W.regionL (l := [0, 1, 2, 3]) rfl ?_
   refine O.val hf rfl rfl rfl (RunV.move rfl) ?_; clear hf a; intro a hf
   refine O.val hf rfl rfl rfl (RunV.move rfl) ?_; clear hf a; intro a hf
   refine O.val (v := .agg #[Iv x6, Uv x4.2]) hf rfl rfl rfl (RunV.buildS (cs' := #[Iv x6, Uv x4.2]) T_places_64 T_zero_64 rfl (by kernel_rfl)) ?_; clear hf a; intro a hf
   refine O.store (j := 0) (cs' := #[Iv x6, Uv x4.2]) (M' := [pt b3 (Cs #[Iv x6, Uv x4.2] 64)]) hf hS rfl rfl rfl T_size_64 rfl rfl rfl (Nat.le_of_ble_eq_true rfl) rfl rfl ?_
   clear hS; intro w hS
   refine O.nil ?_
   refine k_seq ?_
   replace hf : Fr a 31 [] [(4, Pv b3 0)] := hf.to ⟨rfl, trivial⟩
   refine W.ret ?_
   obtain rfl := Option.some.inj hm
   refine post1 hf rfl (ResOK.cellN (cs' := #[Iv x6, Uv x4.2]) rfl T_agg_64 T_size_64 (hS.ptAt (i := 0) rfl) (Nat.le_of_ble_eq_true rfl) rfl) ?_
   replace hS := hS.sub (N := []) (.cons _ .slnil)
   exact ⟨(), rfl, hS.noB⟩

def m_span_twin_neg (F : Nat)  (x1 : Int) (x2 : Int) : Option (Int × Int) :=
  (some (IntKind.i64.wrap ((IntKind.i64.wrap (0 - x1)) - (IntKind.i64.wrap (sub64b 0 x2 0))))).bind fun x5 => some (x5, sub64d 0 x2 0)
set_option maxHeartbeats 1000000 in
set_option maxRecDepth 8000 in
theorem m_span_twin_neg_ok (F : Nat)   (x1 : Int) (x2 : Int) (w0 : World)  (r : Int × Int) (hm : m_span_twin_neg F x1 x2 = some r) :
    Ret Try.prog 27 #[.agg #[Iv x1, Uv x2]] w0 (G := Unit) (fun _ => .agg #[Iv r.1, Uv r.2]) (fun _ w => St w0 w noX [] []) := by
 unfold m_span_twin_neg at hm
 refine ret_of_W (lv := [.agg #[Iv x1, Uv x2]]) Try.func27 rfl rfl rfl (fun a hf => ?_)
 replace hf : Fr a 19 [] [(0, .agg #[Iv x1, Uv x2])] := hf
 have hS : St w0 w0 noX [] [] := St.borrow lendAll_nil
 refine W.seq ?_
 -- region 0
 refine W.regionL (l := [0, 1]) rfl ?_
 refine O.box (cs := #[Iv x1, Uv x2]) hf hS rfl rfl rfl rfl ?_
 clear hf hS a; intro b3 w a hb3 hS hf
 refine O.alloc (cs := #[Iv 0, Uv 0]) hf hS rfl rfl T_zero_64 rfl ?_
 clear hf hS a; intro b4 w a hb4 hS hf
 refine O.nil ?_
 refine k_seq ?_
 replace hf : Fr a 19 [] [(1, Pv b3 0), (2, Pv b4 0)] := hf.to ⟨rfl, rfl, trivial⟩
 refine W.seq ?_
 -- region 1
 refine W.regionL (l := [0, 1, 2, 3, 4, 5, 6, 7]) rfl ?_
 refine O.val hf rfl rfl rfl (RunV.field T_field_64_1 rfl rfl) ?_; clear hf a; intro a hf
 refine O.val hf rfl rfl rfl (RunV.load1 T_agg_62 rfl (hS.ptAt (i := 1) rfl) rfl) ?_; clear hf a; intro a hf
 refine O.val (v := .tuple #[Uv (sub64d 0 x2 0), Uv (sub64b 0 x2 0)]) hf rfl rfl rfl (RunV.sub64 X_ext_41 rfl rfl rfl rfl (by decide)) ?_; clear hf a; intro a hf
 refine O.val hf rfl rfl rfl (RunV.move rfl) ?_; clear hf a; intro a hf
 refine O.val hf rfl rfl rfl (RunV.extract rfl rfl) ?_; clear hf a; intro a hf
 refine O.val hf rfl rfl rfl (RunV.extract rfl rfl) ?_; clear hf a; intro a hf
 refine O.val hf rfl rfl rfl (RunV.assign rfl) ?_; clear hf a; intro a hf
 refine O.val hf rfl rfl rfl (RunV.assign rfl) ?_; clear hf a; intro a hf
 refine O.nil ?_
 refine k_seq ?_
 replace hf : Fr a 19 [] [(1, Pv b3 0), (2, Pv b4 0), (3, Uv (sub64d 0 x2 0)), (4, Uv (sub64b 0 x2 0))] := hf.to ⟨rfl, rfl, rfl, rfl, trivial⟩
 refine W.seq ?_
 -- region 2
 refine W.regionL (l := [0, 1, 2, 3, 4, 5, 6, 7, 8]) rfl ?_
 refine O.val hf rfl rfl rfl (RunV.field T_field_64_0 rfl rfl) ?_; clear hf a; intro a hf
 refine O.val hf rfl rfl rfl (RunV.load1 T_agg_2 rfl (hS.ptAt (i := 1) rfl) rfl) ?_; clear hf a; intro a hf
 refine O.val (v := Iv (IntKind.i64.wrap (0 - x1))) hf rfl rfl rfl (RunV.neg rfl) ?_; clear hf a; intro a hf
 refine O.val hf rfl rfl rfl (RunV.move rfl) ?_; clear hf a; intro a hf
 refine O.val (v := Iv (IntKind.i64.wrap (sub64b 0 x2 0))) hf rfl rfl rfl (RunV.conv T_und_62 T_int_2 rfl) ?_; clear hf a; intro a hf
 refine O.val (v := Iv (IntKind.i64.wrap ((IntKind.i64.wrap (0 - x1)) - (IntKind.i64.wrap (sub64b 0 x2 0))))) hf rfl rfl rfl (RunV.sub rfl rfl) ?_; clear hf a; intro a hf
 refine O.val hf rfl rfl rfl (RunV.move rfl) ?_; clear hf a; intro a hf
 refine O.val (v := .agg #[Iv (IntKind.i64.wrap ((IntKind.i64.wrap (0 - x1)) - (IntKind.i64.wrap (sub64b 0 x2 0)))), Uv (sub64d 0 x2 0)]) hf rfl rfl rfl (RunV.buildS (cs' := #[Iv (IntKind.i64.wrap ((IntKind.i64.wrap (0 - x1)) - (IntKind.i64.wrap (sub64b 0 x2 0)))), Uv (sub64d 0 x2 0)]) T_places_64 T_zero_64 rfl (by kernel_rfl)) ?_; clear hf a; intro a hf
 refine O.store (j := 0) (cs' := #[Iv (IntKind.i64.wrap ((IntKind.i64.wrap (0 - x1)) - (IntKind.i64.wrap (sub64b 0 x2 0)))), Uv (sub64d 0 x2 0)]) (M' := [pt b4 (Cs #[Iv (IntKind.i64.wrap ((IntKind.i64.wrap (0 - x1)) - (IntKind.i64.wrap (sub64b 0 x2 0)))), Uv (sub64d 0 x2 0)] 64), pt b3 (Cs #[Iv x1, Uv x2] 64)]) hf hS rfl rfl rfl T_size_64 rfl rfl rfl (Nat.le_of_ble_eq_true rfl) rfl rfl ?_
 clear hS; intro w hS
 refine O.nil ?_
 refine k_seq ?_
 replace hf : Fr a 19 [] [(2, Pv b4 0)] := hf.to ⟨rfl, trivial⟩
 obtain ⟨x5, hx5, hm⟩ := hm_b hm
 rw [Option.some.inj hx5] at hS
 refine W.ret ?_
 obtain rfl := Option.some.inj hm
 refine post1 hf rfl (ResOK.cellN (cs' := #[Iv x5, Uv (sub64d 0 x2 0)]) rfl T_agg_64 T_size_64 (hS.ptAt (i := 0) rfl) (Nat.le_of_ble_eq_true rfl) rfl) ?_
 replace hS := hS.sub (N := []) (.cons _ (.cons _ .slnil))
 exact ⟨(), rfl, hS.noB⟩

def m_span_twin_cmp (F : Nat)  (x1 : Int) (x2 : Int) (x3 : Int) (x4 : Int) : Option Int :=
  if ((x1 == x3) && ((x2 == x4) && (true))) = true then (some 0) else (if ((decide (x1 < (x3 : Int))) || ((decide (x1 = (x3 : Int))) && (decide (x2 < (x4 : Int))))) = true then (some (-1)) else (some 1))
set_option maxHeartbeats 1000000 in
set_option maxRecDepth 8000 in
theorem m_span_twin_cmp_ok (F : Nat)   (x1 : Int) (x2 : Int) (x3 : Int) (x4 : Int) (w0 : World)  (r : Int) (hm : m_span_twin_cmp F x1 x2 x3 x4 = some r) :
    Ret Try.prog 42 #[.agg #[Iv x1, Uv x2], .agg #[Iv x3, Uv x4]] w0 (G := Unit) (fun _ => Iv r) (fun _ w => St w0 w noX [] []) := by
 unfold m_span_twin_cmp at hm
 refine ret_of_W (lv := [.agg #[Iv x1, Uv x2], .agg #[Iv x3, Uv x4]]) Try.func42 rfl rfl rfl (fun a hf => ?_)
 replace hf : Fr a 29 [] [(0, .agg #[Iv x1, Uv x2]), (1, .agg #[Iv x3, Uv x4])] := hf
 have hS : St w0 w0 noX [] [] := St.borrow lendAll_nil
 refine W.seq ?_
 -- region 0
 refine W.regionL (l := [0, 1, 2]) rfl ?_
 refine O.box (cs := #[Iv x1, Uv x2]) hf hS rfl rfl rfl rfl ?_
 clear hf hS a; intro b5 w a hb5 hS hf
 refine O.box (cs := #[Iv x3, Uv x4]) hf hS rfl rfl rfl rfl ?_
 clear hf hS a; intro b6 w a hb6 hS hf
 refine O.val hf rfl rfl rfl (RunV.assign rfl) ?_; clear hf a; intro a hf
 refine O.nil ?_
 refine k_seq ?_
 replace hf : Fr a 29 [] [(2, Pv b5 0), (3, Pv b6 0), (4, Iv 0)] := hf.to ⟨rfl, rfl, rfl, trivial⟩
 refine W.seq ?_
 refine W.block ?_
 refine W.seq ?_
 -- region 1
 refine W.regionL (l := [0, 1, 2, 3]) rfl ?_
 refine O.val hf rfl rfl rfl (RunV.loadN (cs' := #[Iv x1, Uv x2]) T_agg_64 T_size_64 rfl (hS.ptAt (i := 1) rfl) (Nat.le_of_ble_eq_true rfl) rfl) ?_; clear hf a; intro a hf
 refine O.val hf rfl rfl rfl (RunV.loadN (cs' := #[Iv x3, Uv x4]) T_agg_64 T_size_64 rfl (hS.ptAt (i := 0) rfl) (Nat.le_of_ble_eq_true rfl) rfl) ?_; clear hf a; intro a hf
 refine O.val (v := Bv ((x1 == x3) && ((x2 == x4) && (true)))) hf rfl rfl rfl (RunV.eqAgg (d := 10) rfl T_eqg_64 rfl rfl (EqR.struct (d := 9999) T_fs_64 (EqL.cons (PartR.one (v := Iv x1) T_agg_2 rfl) (PartR.one (v := Iv x3) T_agg_2 rfl) (EqR.int (d := 9998) T_int_2) (EqL.cons (PartR.one (v := Uv x2) T_agg_62 rfl) (PartR.one (v := Uv x4) T_agg_62 rfl) (EqR.int (d := 9998) T_int_62) EqL.nil)))) ?_; clear hf a; intro a hf
 refine O.val hf rfl rfl rfl (RunV.assign rfl) ?_; clear hf a; intro a hf
 refine O.nil ?_
 refine k_seq ?_
 replace hf : Fr a 29 [] [(2, Pv b5 0), (3, Pv b6 0), (4, Iv 0), (5, Bv ((x1 == x3) && ((x2 == x4) && (true))))] := hf.to ⟨rfl, rfl, rfl, rfl, trivial⟩
 refine W.if_ hf rfl (fun hc7 => ?_) (fun hc7 => ?_)
 ·replace hm := hm_t hm hc7
  refine W.seq ?_
  -- region 2
  refine W.regionL (l := [0]) rfl ?_
  refine O.val hf rfl rfl rfl (RunV.assign rfl) ?_; clear hf a; intro a hf
  refine O.nil ?_
  refine k_seq ?_
  replace hf : Fr a 29 [] [(4, Iv 0)] := hf.to ⟨rfl, trivial⟩
  refine W.ret ?_
  refine k_blk_ret ?_
  refine k_then_ret ?_
  obtain rfl := Option.some.inj hm
  refine post1 hf rfl (ResOK.tmp rfl) ?_
  replace hS := hS.sub (N := []) (.cons _ (.cons _ .slnil))
  exact ⟨(), rfl, hS.noB⟩
 ·replace hm := hm_f hm hc7
  refine W.seq ?_
  -- region 3
  refine W.regionL (l := [0, 1, 2, 3, 4, 5, 6, 7, 8, 9, 10, 11, 12, 13, 14, 15, 16, 17, 18, 19]) rfl ?_
  refine O.val hf rfl rfl rfl (RunV.field T_field_64_0 rfl rfl) ?_; clear hf a; intro a hf
  refine O.val hf rfl rfl rfl (RunV.load1 T_agg_2 rfl (hS.ptAt (i := 1) rfl) rfl) ?_; clear hf a; intro a hf
  refine O.val hf rfl rfl rfl (RunV.field T_field_64_0 rfl rfl) ?_; clear hf a; intro a hf
  refine O.val hf rfl rfl rfl (RunV.load1 T_agg_2 rfl (hS.ptAt (i := 0) rfl) rfl) ?_; clear hf a; intro a hf
  refine O.val (v := Bv (decide (x1 < (x3 : Int)))) hf rfl rfl rfl (RunV.lss rfl rfl) ?_; clear hf a; intro a hf
  refine O.val hf rfl rfl rfl (RunV.move rfl) ?_; clear hf a; intro a hf
  refine O.cutN (l₁ := [6, 7, 8, 9, 10, 11, 12, 13, 14, 15, 16, 17, 18]) (l₂ := _) (fun a w => Fr a 29 [] [(4, Iv 0), (28, Bv ((decide (x1 < (x3 : Int))) || ((decide (x1 = (x3 : Int))) && (decide (x2 < (x4 : Int))))))] ∧ St w0 w noX [] [pt b6 (Cs #[Iv x3, Uv x4] 64), pt b5 (Cs #[Iv x1, Uv x2] 64)]) rfl ?_ ?_
  ·rcases Bool.eq_false_or_eq_true (decide (x1 < (x3 : Int))) with hb8 | hb8
   ·refine O.skipB hf rfl rfl rfl hb8 rfl ?_; clear hf a; intro a hf
    refine O.skipB hf rfl rfl rfl hb8 rfl ?_; clear hf a; intro a hf
    refine O.skipB hf rfl rfl rfl hb8 rfl ?_; clear hf a; intro a hf
    refine O.skipB hf rfl rfl rfl hb8 rfl ?_; clear hf a; intro a hf
    refine O.skipB hf rfl rfl rfl hb8 rfl ?_; clear hf a; intro a hf
    refine O.skipB hf rfl rfl rfl hb8 rfl ?_; clear hf a; intro a hf
    refine O.skipU hf rfl rfl rfl rfl ?_; clear hf a; intro a hf
    refine O.skipU hf rfl rfl rfl rfl ?_; clear hf a; intro a hf
    refine O.skipU hf rfl rfl rfl rfl ?_; clear hf a; intro a hf
    refine O.skipU hf rfl rfl rfl rfl ?_; clear hf a; intro a hf
    refine O.skipU hf rfl rfl rfl rfl ?_; clear hf a; intro a hf
    refine O.skipB hf rfl rfl rfl hb8 rfl ?_; clear hf a; intro a hf
    refine O.val (v := Bv ((decide (x1 < (x3 : Int))) || ((decide (x1 = (x3 : Int))) && (decide (x2 < (x4 : Int)))))) hf rfl rfl rfl (RunV.pick rfl rfl rfl (by rw [hb8]; rfl)) ?_; clear hf a; intro a hf
    exact O.nil ⟨rfl, hf.to ⟨rfl, rfl, trivial⟩, hS⟩
   ·refine O.gvalB hf rfl rfl rfl hb8 rfl rfl (RunV.field T_field_64_0 rfl rfl) ?_; clear hf a; intro a hf
    refine O.gvalB hf rfl rfl rfl hb8 rfl rfl (RunV.load1 T_agg_2 rfl (hS.ptAt (i := 1) rfl) rfl) ?_; clear hf a; intro a hf
    refine O.gvalB hf rfl rfl rfl hb8 rfl rfl (RunV.field T_field_64_0 rfl rfl) ?_; clear hf a; intro a hf
    refine O.gvalB hf rfl rfl rfl hb8 rfl rfl (RunV.load1 T_agg_2 rfl (hS.ptAt (i := 0) rfl) rfl) ?_; clear hf a; intro a hf
    refine O.gvalB (v := Bv (decide (x1 = (x3 : Int)))) hf rfl rfl rfl hb8 rfl rfl (RunV.eql rfl rfl) ?_; clear hf a; intro a hf
    refine O.gvalB hf rfl rfl rfl hb8 rfl rfl (RunV.move rfl) ?_; clear hf a; intro a hf
    refine O.cutN (l₁ := [12, 13, 14, 15, 16, 17]) (l₂ := _) (fun a w => Fr a 29 [] [(2, Pv b5 0), (3, Pv b6 0), (4, Iv 0), (5, Bv ((x1 == x3) && ((x2 == x4) && (true)))), (10, Pv b5 0), (11, Iv x1), (12, Pv b6 0), (13, Iv x3), (14, Bv (decide (x1 < (x3 : Int)))), (15, Bv (decide (x1 < (x3 : Int)))), (16, Pv b5 0), (17, Iv x1), (18, Pv b6 0), (19, Iv x3), (20, Bv (decide (x1 = (x3 : Int)))), (21, Bv (decide (x1 = (x3 : Int)))), (27, Bv ((decide (x1 = (x3 : Int))) && (decide (x2 < (x4 : Int)))))] ∧ St w0 w noX [] [pt b6 (Cs #[Iv x3, Uv x4] 64), pt b5 (Cs #[Iv x1, Uv x2] 64)]) rfl ?_ ?_
    ·rcases Bool.eq_false_or_eq_true (decide (x1 = (x3 : Int))) with hb9 | hb9
     ·refine O.gvalB hf rfl rfl rfl hb9 rfl rfl (RunV.field T_field_64_1 rfl rfl) ?_; clear hf a; intro a hf
      refine O.gvalB hf rfl rfl rfl hb9 rfl rfl (RunV.load1 T_agg_62 rfl (hS.ptAt (i := 1) rfl) rfl) ?_; clear hf a; intro a hf
      refine O.gvalB hf rfl rfl rfl hb9 rfl rfl (RunV.field T_field_64_1 rfl rfl) ?_; clear hf a; intro a hf
      refine O.gvalB hf rfl rfl rfl hb9 rfl rfl (RunV.load1 T_agg_62 rfl (hS.ptAt (i := 0) rfl) rfl) ?_; clear hf a; intro a hf
      refine O.gvalB (v := Bv (decide (x2 < (x4 : Int)))) hf rfl rfl rfl hb9 rfl rfl (RunV.lss rfl rfl) ?_; clear hf a; intro a hf
      refine O.gvalB (v := Bv ((decide (x1 = (x3 : Int))) && (decide (x2 < (x4 : Int))))) hf rfl rfl rfl hb8 rfl rfl (RunV.pick rfl rfl rfl (by rw [hb9]; rfl)) ?_; clear hf a; intro a hf
      exact O.nil ⟨rfl, hf.to ⟨rfl, rfl, rfl, rfl, rfl, rfl, rfl, rfl, rfl, rfl, rfl, rfl, rfl, rfl, rfl, rfl, rfl, trivial⟩, hS⟩
     ·refine O.skipB hf rfl rfl rfl hb9 rfl ?_; clear hf a; intro a hf
      refine O.skipB hf rfl rfl rfl hb9 rfl ?_; clear hf a; intro a hf
      refine O.skipB hf rfl rfl rfl hb9 rfl ?_; clear hf a; intro a hf
      refine O.skipB hf rfl rfl rfl hb9 rfl ?_; clear hf a; intro a hf
      refine O.skipB hf rfl rfl rfl hb9 rfl ?_; clear hf a; intro a hf
      refine O.gvalB (v := Bv ((decide (x1 = (x3 : Int))) && (decide (x2 < (x4 : Int))))) hf rfl rfl rfl hb8 rfl rfl (RunV.pick rfl rfl rfl (by rw [hb9]; rfl)) ?_; clear hf a; intro a hf
      exact O.nil ⟨rfl, hf.to ⟨rfl, rfl, rfl, rfl, rfl, rfl, rfl, rfl, rfl, rfl, rfl, rfl, rfl, rfl, rfl, rfl, rfl, trivial⟩, hS⟩
    clear hf hS a; try clear w
    rintro a w ⟨hf, hS⟩
    refine O.val (v := Bv ((decide (x1 < (x3 : Int))) || ((decide (x1 = (x3 : Int))) && (decide (x2 < (x4 : Int)))))) hf rfl rfl rfl (RunV.pick rfl rfl rfl (by rw [hb8]; rfl)) ?_; clear hf a; intro a hf
    exact O.nil ⟨rfl, hf.to ⟨rfl, rfl, trivial⟩, hS⟩
  clear hf hS a; try clear w
  rintro a w ⟨hf, hS⟩
  refine O.val hf rfl rfl rfl (RunV.assign rfl) ?_; clear hf a; intro a hf
  refine O.nil ?_
  refine k_seq ?_
  replace hf : Fr a 29 [] [(4, Iv 0), (9, Bv ((decide (x1 < (x3 : Int))) || ((decide (x1 = (x3 : Int))) && (decide (x2 < (x4 : Int))))))] := hf.to ⟨rfl, rfl, trivial⟩
  refine W.if_ hf rfl (fun hc10 => ?_) (fun hc10 => ?_)
  ·replace hm := hm_t hm hc10
   refine W.seq ?_
   -- region 4
   refine W.regionL (l := [0]) rfl ?_
   refine O.val hf rfl rfl rfl (RunV.assign rfl) ?_; clear hf a; intro a hf
   refine O.nil ?_
   refine k_seq ?_
   replace hf : Fr a 29 [] [(4, Iv (-1))] := hf.to ⟨rfl, trivial⟩
   refine W.ret ?_
   refine k_blk_ret ?_
   refine k_then_ret ?_
   obtain rfl := Option.some.inj hm
   refine post1 hf rfl (ResOK.tmp rfl) ?_
   replace hS := hS.sub (N := []) (.cons _ (.cons _ .slnil))
   exact ⟨(), rfl, hS.noB⟩
  ·replace hm := hm_f hm hc10
   refine W.skip ?_
   refine k_blk_normal ?_
   refine k_seq ?_
   replace hf : Fr a 29 [] [(4, Iv 0)] := hf.to ⟨rfl, trivial⟩
   refine W.seq ?_
   -- region 5
   refine W.regionL (l := [0]) rfl ?_
   refine O.val hf rfl rfl rfl (RunV.assign rfl) ?_; clear hf a; intro a hf
   refine O.nil ?_
   refine k_seq ?_
   refine W.ret ?_
   obtain rfl := Option.some.inj hm
   refine post1 hf rfl (ResOK.tmp rfl) ?_
   replace hS := hS.sub (N := []) (.cons _ (.cons _ .slnil))
   exact ⟨(), rfl, hS.noB⟩

def m_span_least_j1 (F : Nat) (x8 : Int) (x9 : Int) : Option (Int × Int) :=
  some (x8, x9)
def m_span_least_j2 (F : Nat) (x10 : Int) (x11 : Int) (x13 : Int) (x14 : Bool) : Option (Int × Int) :=
  m_span_least_j1 F x10 x11
def m_span_least (F : Nat)  (x1 : Int) (x2 : Int) (x4 : Int) (x5 : Int) : Option (Int × Int) :=
  (m_span_twin_cmp F x4 x5 x1 x2).bind fun x16 => if x16 < (0 : Int) then (m_span_least_j2 F x4 x5 x16 (decide (x16 < (0 : Int)))) else (m_span_least_j2 F x1 x2 x16 (decide (x16 < (0 : Int))))
set_option maxHeartbeats 1000000 in
set_option maxRecDepth 8000 in
theorem m_span_least_ok (F : Nat)   (x1 : Int) (x2 : Int) (b3 : Nat) (x4 : Int) (x5 : Int) (w0 : World) (h_b3 : w0.heap[b3]? = some (.cells #[Iv x4, Uv x5] 64 (0, 0))) (r : Int × Int) (hm : m_span_least F x1 x2 x4 x5 = some r) :
    Ret Try.prog 29 #[.agg #[Iv x1, Uv x2], .slice (some ⟨b3, 0, none⟩) 1 1] w0 (G := Unit) (fun _ => .agg #[Iv r.1, Uv r.2]) (fun _ w => St w0 w noX [] []) := by
 unfold m_span_least at hm
 refine ret_of_W (lv := [.agg #[Iv x1, Uv x2], .slice (some ⟨b3, 0, none⟩) 1 1]) Try.func29 rfl rfl rfl (fun a hf => ?_)
 replace hf : Fr a 20 [] [(0, .agg #[Iv x1, Uv x2]), (1, .slice (some ⟨b3, 0, none⟩) 1 1)] := hf
 have hS : St w0 w0 noX [pt b3 (Cs #[Iv x4, Uv x5] 64)] [] := St.borrow (lendAll_cons (lendPt h_b3) lendAll_nil)
 refine W.seq ?_
 -- region 0
 refine W.regionL (l := [0, 1]) rfl ?_
 refine O.box (cs := #[Iv x1, Uv x2]) hf hS rfl rfl rfl rfl ?_
 clear hf hS a; intro b6 w a hb6 hS hf
 refine O.alloc (cs := #[Iv 0, Uv 0]) hf hS rfl rfl T_zero_64 rfl ?_
 clear hf hS a; intro b7 w a hb7 hS hf
 refine O.nil ?_
 refine k_seq ?_
 replace hf : Fr a 20 [] [(1, .slice (some ⟨b3, 0, none⟩) 1 1), (2, Pv b6 0), (4, Pv b7 0)] := hf.to ⟨rfl, rfl, rfl, trivial⟩
 refine W.seqR (fun a w => ∃ (x8 : Int) (x9 : Int), Fr a 20 [] [(2, Pv b6 0), (4, Pv b7 0)] ∧ St w0 w noX [pt b3 (Cs #[Iv x4, Uv x5] 64)] [pt b6 (Cs #[Iv x8, Uv x9] 64), pt b7 (Cs #[Iv 0, Uv 0] 64)] ∧ m_span_least_j1 F x8 x9 = some r) ?_ ?_
 ·refine W.seq ?_
  -- region 1
  refine W.regionL (l := [0, 1, 2]) rfl ?_
  refine O.val hf rfl rfl rfl (RunV.move rfl) ?_; clear hf a; intro a hf
  refine O.val (v := Iv 1) hf rfl rfl rfl (RunV.len (e := 64) (by simpa using T_elem_82) rfl) ?_; clear hf a; intro a hf
  refine O.val hf rfl rfl rfl (RunV.move rfl) ?_; clear hf a; intro a hf
  refine O.nil ?_
  refine k_seq ?_
  replace hf : Fr a 20 [] [(2, Pv b6 0), (4, Pv b7 0), (7, .slice (some ⟨b3, 0, none⟩) 1 1), (8, Iv 1), (9, Iv 0)] := hf.to ⟨rfl, rfl, rfl, rfl, rfl, trivial⟩
  refine W.block ?_
  refine W.loopH (LH.step ?_)
  refine W.seq ?_
  -- region 2
  refine W.regionL (l := [0]) rfl ?_
  refine O.val (v := Bv true) hf rfl rfl rfl (RunV.lss (p := 0) (q := 1) rfl rfl) ?_; clear hf a; intro a hf
  refine O.nil ?_
  refine k_seq ?_
  refine W.seq ?_
  refine W.if_tt hf rfl ?_
  refine W.skip ?_
  refine k_seq ?_
  refine W.seqR (fun a w => ∃ (x10 : Int) (x11 : Int) (b12 : Nat) (x13 : Int) (x14 : Bool), Fr a 20 [] [(2, Pv b6 0), (4, Pv b7 0), (6, Pv b12 0), (7, .slice (some ⟨b3, 0, none⟩) 1 1), (8, Iv 1), (9, Iv 0), (10, Bv true), (11, Pv b3 0), (12, .agg #[Iv x4, Uv x5]), (13, .agg #[Iv x4, Uv x5]), (14, .agg #[Iv x1, Uv x2]), (15, Iv x13), (16, Bv x14)] ∧ St w0 w noX [pt b3 (Cs #[Iv x4, Uv x5] 64)] [pt b6 (Cs #[Iv x10, Uv x11] 64), pt b7 (Cs #[Iv 0, Uv 0] 64), pt b12 (Cs #[Iv x4, Uv x5] 64)] ∧ m_span_least_j2 F x10 x11 x13 x14 = some r) ?_ ?_
  ·refine W.block ?_
   refine W.seq ?_
   -- region 3
   refine W.regionL (l := [0, 1, 2, 3]) rfl ?_
   refine O.val hf rfl rfl rfl (RunV.indexSl (j := 0) (m := 0) T_elem_82 T_size_64 rfl rfl rfl (by decide) rfl) ?_; clear hf a; intro a hf
   refine O.val hf rfl rfl rfl (RunV.loadN (cs' := #[Iv x4, Uv x5]) T_agg_64 T_size_64 rfl (hS.bptAt (i := 0) rfl) (Nat.le_of_ble_eq_true rfl) rfl) ?_; clear hf a; intro a hf
   refine O.alloc (cs := #[Iv 0, Uv 0]) hf hS rfl rfl T_zero_64 rfl ?_
   clear hf hS a; intro b15 w a hb15 hS hf
   refine O.store (j := 0) (cs' := #[Iv x4, Uv x5]) (M' := [pt b15 (Cs #[Iv x4, Uv x5] 64), pt b7 (Cs #[Iv 0, Uv 0] 64), pt b6 (Cs #[Iv x1, Uv x2] 64)]) hf hS rfl rfl rfl T_size_64 rfl rfl rfl (Nat.le_of_ble_eq_true rfl) rfl rfl ?_
   clear hS; intro w hS
   refine O.nil ?_
   refine k_seq ?_
   refine W.seq ?_
   -- region 4
   refine W.regionL (l := [0, 1, 2, 3]) rfl ?_
   refine O.val hf rfl rfl rfl (RunV.loadN (cs' := #[Iv x4, Uv x5]) T_agg_64 T_size_64 rfl (hS.ptAt (i := 0) rfl) (Nat.le_of_ble_eq_true rfl) rfl) ?_; clear hf a; intro a hf
   refine O.val hf rfl rfl rfl (RunV.loadN (cs' := #[Iv x1, Uv x2]) T_agg_64 T_size_64 rfl (hS.ptAt (i := 2) rfl) (Nat.le_of_ble_eq_true rfl) rfl) ?_; clear hf a; intro a hf
   obtain ⟨x16, hx16, hm⟩ := hm_b hm
   refine O.callR hf rfl rfl rfl (RunE.call (av := #[.agg #[Iv x4, Uv x5], .agg #[Iv x1, Uv x2]]) C_ok_42 rfl rfl rfl) (m_span_twin_cmp_ok F x4 x5 x1 x2 _ x16 hx16) ?_
   clear hf a; rintro _ w hS1 a hf
   replace hf : Fr a _ _ ((15, Iv x16) :: _) := hf
   replace hS := (hS.call hS1).eqM (N := [pt b15 (Cs #[Iv x4, Uv x5] 64), pt b7 (Cs #[Iv 0, Uv 0] 64), pt b6 (Cs #[Iv x1, Uv x2] 64)]) rfl
   clear hS1
   refine O.val (v := Bv (decide (x16 < (0 : Int)))) hf rfl rfl rfl (RunV.lss rfl rfl) ?_; clear hf a; intro a hf
   refine O.nil ?_
   refine k_seq ?_
   refine W.ifdI hf rfl (fun hc17 => ?_) (fun hc17 => ?_)
   ·replace hm := hm_p hm hc17
    -- region 5
    refine W.regionL (l := [0, 1]) rfl ?_
    refine O.val hf rfl rfl rfl (RunV.loadN (cs' := #[Iv x4, Uv x5]) T_agg_64 T_size_64 rfl (hS.ptAt (i := 0) rfl) (Nat.le_of_ble_eq_true rfl) rfl) ?_; clear hf a; intro a hf
    refine O.store (j := 2) (cs' := #[Iv x4, Uv x5]) (M' := [pt b15 (Cs #[Iv x4, Uv x5] 64), pt b7 (Cs #[Iv 0, Uv 0] 64), pt b6 (Cs #[Iv x4, Uv x5] 64)]) hf hS rfl rfl rfl T_size_64 rfl rfl rfl (Nat.le_of_ble_eq_true rfl) rfl rfl ?_
    clear hS; intro w hS
    refine O.nil ?_
    refine k_blk_normal ?_
    replace hS := hS.front (i := 1) (M' := [pt b7 (Cs #[Iv 0, Uv 0] 64), pt b15 (Cs #[Iv x4, Uv x5] 64), pt b6 (Cs #[Iv x4, Uv x5] 64)]) rfl rfl
    replace hS := hS.front (i := 2) (M' := [pt b6 (Cs #[Iv x4, Uv x5] 64), pt b7 (Cs #[Iv 0, Uv 0] 64), pt b15 (Cs #[Iv x4, Uv x5] 64)]) rfl rfl
    exact k_then ⟨x4, x5, b15, x16, decide (x16 < (0 : Int)), hf.to ⟨rfl, rfl, rfl, rfl, rfl, rfl, rfl, rfl, rfl, rfl, rfl, rfl, rfl, trivial⟩, hS, hm⟩
   ·replace hm := hm_n hm hc17
    refine W.skip ?_
    refine k_blk_normal ?_
    replace hS := hS.front (i := 1) (M' := [pt b7 (Cs #[Iv 0, Uv 0] 64), pt b15 (Cs #[Iv x4, Uv x5] 64), pt b6 (Cs #[Iv x1, Uv x2] 64)]) rfl rfl
    replace hS := hS.front (i := 2) (M' := [pt b6 (Cs #[Iv x1, Uv x2] 64), pt b7 (Cs #[Iv 0, Uv 0] 64), pt b15 (Cs #[Iv x4, Uv x5] 64)]) rfl rfl
    exact k_then ⟨x1, x2, b15, x16, decide (x16 < (0 : Int)), hf.to ⟨rfl, rfl, rfl, rfl, rfl, rfl, rfl, rfl, rfl, rfl, rfl, rfl, rfl, trivial⟩, hS, hm⟩
  ·clear hf hS hm a; try clear w
   rintro a w ⟨x10, x11, b12, x13, x14, hf, hS, hm⟩
   unfold m_span_least_j2 at hm
   -- region 6
   refine W.regionL (l := [0, 1]) rfl ?_
   refine O.val (v := Iv 1) hf rfl rfl rfl (RunV.add (p := 0) (q := 1) rfl rfl) ?_; clear hf a; intro a hf
   refine O.val hf rfl rfl rfl (RunV.move rfl) ?_; clear hf a; intro a hf
   refine O.nil ?_
   refine k_then (LH.step ?_)
   refine W.seq ?_
   -- region 2
   refine W.regionL (l := [0]) rfl ?_
   refine O.val (v := Bv false) hf rfl rfl rfl (RunV.lss (p := 1) (q := 1) rfl rfl) ?_; clear hf a; intro a hf
   refine O.nil ?_
   refine k_seq ?_
   refine W.seq ?_
   refine W.if_ff hf rfl ?_
   refine W.exit ?_
   refine k_then_exit ?_
   refine k_then_exit ?_
   refine k_blk ?_
   replace hS := hS.sub (N := [pt b6 (Cs #[Iv x10, Uv x11] 64), pt b7 (Cs #[Iv 0, Uv 0] 64)]) (.cons_cons _ (.cons_cons _ (.cons _ .slnil)))
   exact k_then ⟨x10, x11, hf.to ⟨rfl, rfl, trivial⟩, hS, hm⟩
 ·clear hf hS hm a; try clear w
  rintro a w ⟨x8, x9, hf, hS, hm⟩
  unfold m_span_least_j1 at hm
  refine W.seq ?_
  -- region 7
  refine W.regionL (l := [0, 1]) rfl ?_
  refine O.val hf rfl rfl rfl (RunV.loadN (cs' := #[Iv x8, Uv x9]) T_agg_64 T_size_64 rfl (hS.ptAt (i := 0) rfl) (Nat.le_of_ble_eq_true rfl) rfl) ?_; clear hf a; intro a hf
  refine O.store (j := 1) (cs' := #[Iv x8, Uv x9]) (M' := [pt b6 (Cs #[Iv x8, Uv x9] 64), pt b7 (Cs #[Iv x8, Uv x9] 64)]) hf hS rfl rfl rfl T_size_64 rfl rfl rfl (Nat.le_of_ble_eq_true rfl) rfl rfl ?_
  clear hS; intro w hS
  refine O.nil ?_
  refine k_seq ?_
  replace hf : Fr a 20 [] [(4, Pv b7 0)] := hf.to ⟨rfl, trivial⟩
  refine W.ret ?_
  obtain rfl := Option.some.inj hm
  refine post1 hf rfl (ResOK.cellN (cs' := #[Iv x8, Uv x9]) rfl T_agg_64 T_size_64 (hS.ptAt (i := 1) rfl) (Nat.le_of_ble_eq_true rfl) rfl) ?_
  replace hS := hS.sub (N := []) (.cons _ (.cons _ .slnil))
  exact ⟨(), rfl, hS.noB⟩

def m_math_bits_Len64_j1 (F : Nat) (x6 : Int) (x7 : Int) : Option Int :=
  (strIdx strc1 (IntKind.u8.wrap x6)).bind fun x8 => (some (IntKind.i64.wrap (x7 + (IntKind.i64.wrap x8)))).bind fun x9 => some x9
def m_math_bits_Len64_j2 (F : Nat) (x4 : Int) (x5 : Int) : Option Int :=
  if x4 ≥ (256 : Int) then (m_math_bits_Len64_j1 F (Int.fdiv x4 (2 ^ 8)) (IntKind.i64.wrap (x5 + 8))) else (m_math_bits_Len64_j1 F x4 x5)
def m_math_bits_Len64_j3 (F : Nat) (x2 : Int) (x3 : Int) : Option Int :=
  if x2 ≥ (65536 : Int) then (m_math_bits_Len64_j2 F (Int.fdiv x2 (2 ^ 16)) (IntKind.i64.wrap (x3 + 16))) else (m_math_bits_Len64_j2 F x2 x3)
def m_math_bits_Len64 (F : Nat)  (x1 : Int) : Option Int :=
  if x1 ≥ (4294967296 : Int) then (m_math_bits_Len64_j3 F (Int.fdiv x1 (2 ^ 32)) 32) else (m_math_bits_Len64_j3 F x1 0)
set_option maxHeartbeats 1000000 in
set_option maxRecDepth 8000 in
theorem m_math_bits_Len64_ok (F : Nat)   (x1 : Int) (w0 : World)  (r : Int) (hm : m_math_bits_Len64 F x1 = some r) :
    Ret Try.prog 46 #[Uv x1] w0 (G := Unit) (fun _ => Iv r) (fun _ w => St w0 w noX [] []) := by
 unfold m_math_bits_Len64 at hm
 refine ret_of_W (lv := [Uv x1]) Try.func46 rfl rfl rfl (fun a hf => ?_)
 replace hf : Fr a 25 [] [(0, Uv x1)] := hf
 have hS : St w0 w0 noX [] [] := St.borrow lendAll_nil
 refine W.seq ?_
 -- region 0
 refine W.regionL (l := [0]) rfl ?_
 refine O.val hf rfl rfl rfl (RunV.assign rfl) ?_; clear hf a; intro a hf
 refine O.nil ?_
 refine k_seq ?_
 refine W.seqR (fun a w => ∃ (x2 : Int) (x3 : Int), Fr a 25 [] [(0, Uv x2), (2, Iv x3)] ∧ St w0 w noX [] [] ∧ m_math_bits_Len64_j3 F x2 x3 = some r) ?_ ?_
 ·refine W.seq ?_
  -- region 1
  refine W.regionL (l := [0, 1]) rfl ?_
  refine O.val hf rfl rfl rfl (RunV.move rfl) ?_; clear hf a; intro a hf
  refine O.val (v := Bv (decide (x1 ≥ (4294967296 : Int)))) hf rfl rfl rfl (RunV.geq rfl rfl) ?_; clear hf a; intro a hf
  refine O.nil ?_
  refine k_seq ?_
  replace hf : Fr a 25 [] [(0, Uv x1), (2, Iv 0), (4, Bv (decide (x1 ≥ (4294967296 : Int))))] := hf.to ⟨rfl, rfl, rfl, trivial⟩
  refine W.ifdI hf rfl (fun hc12 => ?_) (fun hc12 => ?_)
  ·replace hm := hm_p hm hc12
   refine W.seq ?_
   -- region 2
   refine W.regionL (l := [0, 1, 2]) rfl ?_
   refine O.val hf rfl rfl rfl (RunV.move rfl) ?_; clear hf a; intro a hf
   refine O.val (v := Uv (Int.fdiv x1 (2 ^ 32))) hf rfl rfl rfl (RunV.shr (q := 32) rfl rfl (by decide)) ?_; clear hf a; intro a hf
   refine O.val hf rfl rfl rfl (RunV.assign rfl) ?_; clear hf a; intro a hf
   refine O.nil ?_
   refine k_seq ?_
   replace hf : Fr a 25 [] [(0, Uv (Int.fdiv x1 (2 ^ 32))), (2, Iv 0)] := hf.to ⟨rfl, rfl, trivial⟩
   -- region 3
   refine W.regionL (l := [0]) rfl ?_
   refine O.val hf rfl rfl rfl (RunV.assign rfl) ?_; clear hf a; intro a hf
   refine O.nil ?_
   exact k_then ⟨Int.fdiv x1 (2 ^ 32), 32, hf.to ⟨rfl, rfl, trivial⟩, hS, hm⟩
  ·replace hm := hm_n hm hc12
   refine W.skip ?_
   exact k_then ⟨x1, 0, hf.to ⟨rfl, rfl, trivial⟩, hS, hm⟩
 ·clear hf hS hm a; try clear w
  rintro a w ⟨x2, x3, hf, hS, hm⟩
  unfold m_math_bits_Len64_j3 at hm
  refine W.seqR (fun a w => ∃ (x4 : Int) (x5 : Int), Fr a 25 [] [(0, Uv x4), (2, Iv x5)] ∧ St w0 w noX [] [] ∧ m_math_bits_Len64_j2 F x4 x5 = some r) ?_ ?_
  ·refine W.seq ?_
   -- region 4
   refine W.regionL (l := [0, 1]) rfl ?_
   refine O.val hf rfl rfl rfl (RunV.move rfl) ?_; clear hf a; intro a hf
   refine O.val (v := Bv (decide (x2 ≥ (65536 : Int)))) hf rfl rfl rfl (RunV.geq rfl rfl) ?_; clear hf a; intro a hf
   refine O.nil ?_
   refine k_seq ?_
   replace hf : Fr a 25 [] [(0, Uv x2), (2, Iv x3), (8, Bv (decide (x2 ≥ (65536 : Int))))] := hf.to ⟨rfl, rfl, rfl, trivial⟩
   refine W.ifdI hf rfl (fun hc11 => ?_) (fun hc11 => ?_)
   ·replace hm := hm_p hm hc11
    refine W.seq ?_
    -- region 5
    refine W.regionL (l := [0, 1, 2]) rfl ?_
    refine O.val hf rfl rfl rfl (RunV.move rfl) ?_; clear hf a; intro a hf
    refine O.val (v := Uv (Int.fdiv x2 (2 ^ 16))) hf rfl rfl rfl (RunV.shr (q := 16) rfl rfl (by decide)) ?_; clear hf a; intro a hf
    refine O.val hf rfl rfl rfl (RunV.assign rfl) ?_; clear hf a; intro a hf
    refine O.nil ?_
    refine k_seq ?_
    replace hf : Fr a 25 [] [(0, Uv (Int.fdiv x2 (2 ^ 16))), (2, Iv x3)] := hf.to ⟨rfl, rfl, trivial⟩
    -- region 6
    refine W.regionL (l := [0, 1, 2]) rfl ?_
    refine O.val hf rfl rfl rfl (RunV.move rfl) ?_; clear hf a; intro a hf
    refine O.val (v := Iv (IntKind.i64.wrap (x3 + 16))) hf rfl rfl rfl (RunV.add rfl rfl) ?_; clear hf a; intro a hf
    refine O.val hf rfl rfl rfl (RunV.assign rfl) ?_; clear hf a; intro a hf
    refine O.nil ?_
    exact k_then ⟨Int.fdiv x2 (2 ^ 16), IntKind.i64.wrap (x3 + 16), hf.to ⟨rfl, rfl, trivial⟩, hS, hm⟩
   ·replace hm := hm_n hm hc11
    refine W.skip ?_
    exact k_then ⟨x2, x3, hf.to ⟨rfl, rfl, trivial⟩, hS, hm⟩
  ·clear hf hS hm a; try clear w
   rintro a w ⟨x4, x5, hf, hS, hm⟩
   unfold m_math_bits_Len64_j2 at hm
   refine W.seqR (fun a w => ∃ (x6 : Int) (x7 : Int), Fr a 25 [] [(0, Uv x6), (2, Iv x7)] ∧ St w0 w noX [] [] ∧ m_math_bits_Len64_j1 F x6 x7 = some r) ?_ ?_
   ·refine W.seq ?_
    -- region 7
    refine W.regionL (l := [0, 1]) rfl ?_
    refine O.val hf rfl rfl rfl (RunV.move rfl) ?_; clear hf a; intro a hf
    refine O.val (v := Bv (decide (x4 ≥ (256 : Int)))) hf rfl rfl rfl (RunV.geq rfl rfl) ?_; clear hf a; intro a hf
    refine O.nil ?_
    refine k_seq ?_
    replace hf : Fr a 25 [] [(0, Uv x4), (2, Iv x5), (14, Bv (decide (x4 ≥ (256 : Int))))] := hf.to ⟨rfl, rfl, rfl, trivial⟩
    refine W.ifdI hf rfl (fun hc10 => ?_) (fun hc10 => ?_)
    ·replace hm := hm_p hm hc10
     refine W.seq ?_
     -- region 8
     refine W.regionL (l := [0, 1, 2]) rfl ?_
     refine O.val hf rfl rfl rfl (RunV.move rfl) ?_; clear hf a; intro a hf
     refine O.val (v := Uv (Int.fdiv x4 (2 ^ 8))) hf rfl rfl rfl (RunV.shr (q := 8) rfl rfl (by decide)) ?_; clear hf a; intro a hf
     refine O.val hf rfl rfl rfl (RunV.assign rfl) ?_; clear hf a; intro a hf
     refine O.nil ?_
     refine k_seq ?_
     replace hf : Fr a 25 [] [(0, Uv (Int.fdiv x4 (2 ^ 8))), (2, Iv x5)] := hf.to ⟨rfl, rfl, trivial⟩
     -- region 9
     refine W.regionL (l := [0, 1, 2]) rfl ?_
     refine O.val hf rfl rfl rfl (RunV.move rfl) ?_; clear hf a; intro a hf
     refine O.val (v := Iv (IntKind.i64.wrap (x5 + 8))) hf rfl rfl rfl (RunV.add rfl rfl) ?_; clear hf a; intro a hf
     refine O.val hf rfl rfl rfl (RunV.assign rfl) ?_; clear hf a; intro a hf
     refine O.nil ?_
     exact k_then ⟨Int.fdiv x4 (2 ^ 8), IntKind.i64.wrap (x5 + 8), hf.to ⟨rfl, rfl, trivial⟩, hS, hm⟩
    ·replace hm := hm_n hm hc10
     refine W.skip ?_
     exact k_then ⟨x4, x5, hf.to ⟨rfl, rfl, trivial⟩, hS, hm⟩
   ·clear hf hS hm a; try clear w
    rintro a w ⟨x6, x7, hf, hS, hm⟩
    unfold m_math_bits_Len64_j1 at hm
    refine W.seq ?_
    -- region 10
    refine W.regionL (l := [0, 1, 2, 3, 4, 5, 6]) rfl ?_
    refine O.val hf rfl rfl rfl (RunV.move rfl) ?_; clear hf a; intro a hf
    refine O.val hf rfl rfl rfl (RunV.move rfl) ?_; clear hf a; intro a hf
    refine O.val (v := .int .u8 (IntKind.u8.wrap x6)) hf rfl rfl rfl (RunV.conv T_und_62 T_int_5 rfl) ?_; clear hf a; intro a hf
    obtain ⟨x8, hx8, hm⟩ := hm_b hm
    refine O.val hf rfl rfl rfl (RunV.indexStr T_string_9 rfl rfl hx8) ?_; clear hf a; intro a hf
    refine O.val (v := Iv (IntKind.i64.wrap x8)) hf rfl rfl rfl (RunV.conv T_und_5 T_int_3 rfl) ?_; clear hf a; intro a hf
    refine O.val (v := Iv (IntKind.i64.wrap (x7 + (IntKind.i64.wrap x8)))) hf rfl rfl rfl (RunV.add rfl rfl) ?_; clear hf a; intro a hf
    refine O.val hf rfl rfl rfl (RunV.assign rfl) ?_; clear hf a; intro a hf
    refine O.nil ?_
    refine k_seq ?_
    replace hf : Fr a 25 [] [(2, Iv (IntKind.i64.wrap (x7 + (IntKind.i64.wrap x8))))] := hf.to ⟨rfl, trivial⟩
    obtain ⟨x9, hx9, hm⟩ := hm_b hm
    rw [Option.some.inj hx9] at hf
    refine W.ret ?_
    obtain rfl := Option.some.inj hm
    refine post1 hf rfl (ResOK.tmp rfl) ?_
    exact ⟨(), rfl, hS.noB⟩

def m_math_bits_LeadingZeros64 (F : Nat)  (x1 : Int) : Option Int :=
  (m_math_bits_Len64 F x1).bind fun x2 => some (IntKind.i64.wrap (64 - x2))
set_option maxHeartbeats 1000000 in
set_option maxRecDepth 8000 in
theorem m_math_bits_LeadingZeros64_ok (F : Nat)   (x1 : Int) (w0 : World)  (r : Int) (hm : m_math_bits_LeadingZeros64 F x1 = some r) :
    Ret Try.prog 45 #[Uv x1] w0 (G := Unit) (fun _ => Iv r) (fun _ w => St w0 w noX [] []) := by
 unfold m_math_bits_LeadingZeros64 at hm
 refine ret_of_W (lv := [Uv x1]) Try.func45 rfl rfl rfl (fun a hf => ?_)
 replace hf : Fr a 6 [] [(0, Uv x1)] := hf
 have hS : St w0 w0 noX [] [] := St.borrow lendAll_nil
 refine W.seq ?_
 -- region 0
 refine W.regionL (l := [0]) rfl ?_
 refine O.val hf rfl rfl rfl (RunV.assign rfl) ?_; clear hf a; intro a hf
 refine O.nil ?_
 refine k_seq ?_
 refine W.seq ?_
 -- region 1
 refine W.regionL (l := [0, 1, 2, 3]) rfl ?_
 refine O.val hf rfl rfl rfl (RunV.move rfl) ?_; clear hf a; intro a hf
 obtain ⟨x2, hx2, hm⟩ := hm_b hm
 refine O.callR hf rfl rfl rfl (RunE.call (av := #[Uv x1]) C_ok_46 rfl rfl rfl) (m_math_bits_Len64_ok F x1 _ x2 hx2) ?_
 clear hf a; rintro _ w hS1 a hf
 replace hf : Fr a _ _ ((4, Iv x2) :: _) := hf
 replace hS := (hS.call hS1).eqM (N := []) rfl
 clear hS1
 refine O.val (v := Iv (IntKind.i64.wrap (64 - x2))) hf rfl rfl rfl (RunV.sub rfl rfl) ?_; clear hf a; intro a hf
 refine O.val hf rfl rfl rfl (RunV.assign rfl) ?_; clear hf a; intro a hf
 refine O.nil ?_
 refine k_seq ?_
 replace hf : Fr a 6 [] [(2, Iv (IntKind.i64.wrap (64 - x2)))] := hf.to ⟨rfl, trivial⟩
 refine W.ret ?_
 obtain rfl := Option.some.inj hm
 refine post1 hf rfl (ResOK.tmp rfl) ?_
 exact ⟨(), rfl, hS.noB⟩

def m_math_bits_Div64_j1 (F : Nat) (x10 : Int) (x21 : Int) (x23 : Int) (x17 : Int) (x12 : Int) (x27 : Int) : Option (Int × Int) :=
  if 0 ≤ (IntKind.u64.wrap x10) then (some (IntKind.u64.wrap ((IntKind.u64.wrap (x21 * 4294967296)) + x27))).bind fun x29 => (some (Int.fdiv (IntKind.u64.wrap ((IntKind.u64.wrap ((IntKind.u64.wrap (x23 * 4294967296)) + (bitand .u64 x17 4294967295))) - (IntKind.u64.wrap (x27 * x12)))) (2 ^ (min (Int.toNat (IntKind.u64.wrap x10)) (IntKind.bits .u64))))).bind fun x30 => some (x29, x30) else none
def m_math_bits_Div64_b2 (F : Nat) (x12 : Int) (x17 : Int) (x10 : Int) (x21 : Int) (x23 : Int) (rec33 : Int → Int → Option (Int × Int)) (x31 : Int) (x32 : Int) : Option (Int × Int) :=
  if ((decide (x32 ≥ (4294967296 : Int))) || (decide ((IntKind.u64.wrap (x32 * (bitand .u64 x12 4294967295))) > (IntKind.u64.wrap ((IntKind.u64.wrap (4294967296 * x31)) + (bitand .u64 x17 4294967295)) : Int)))) = true then ((some (IntKind.u64.wrap (x31 + (Int.fdiv x12 (2 ^ 32))))).bind fun x36 => if x36 ≥ (4294967296 : Int) then (m_math_bits_Div64_j1 F x10 x21 x23 x17 x12 (IntKind.u64.wrap (x32 - 1))) else (rec33 x36 (IntKind.u64.wrap (x32 - 1)))) else (m_math_bits_Div64_j1 F x10 x21 x23 x17 x12 x32)
def m_math_bits_Div64_l2 (F : Nat) (x12 : Int) (x17 : Int) (x10 : Int) (x21 : Int) (x23 : Int) : Nat → Int → Int → Option (Int × Int)
  | 0, _, _ => none
  | n + 1, x31, x32 => m_math_bits_Div64_b2 F x12 x17 x10 x21 x23 (m_math_bits_Div64_l2 F x12 x17 x10 x21 x23 n) x31 x32
def m_math_bits_Div64_j3 (F : Nat) (x15 : Int) (x17 : Int) (x12 : Int) (x10 : Int) (x21 : Int) (x22 : Int) : Option (Int × Int) :=
  (some (IntKind.u64.wrap ((IntKind.u64.wrap ((IntKind.u64.wrap (x15 * 4294967296)) + (Int.fdiv x17 (2 ^ 32)))) - (IntKind.u64.wrap (x21 * x12))))).bind fun x23 => if (Int.fdiv x12 (2 ^ 32)) ≠ (0 : Int) then (some (IntKind.u64.wrap (Int.tdiv x23 (Int.fdiv x12 (2 ^ 32))))).bind fun x25 => (some (IntKind.u64.wrap (x23 - (IntKind.u64.wrap (x25 * (Int.fdiv x12 (2 ^ 32))))))).bind fun x26 => m_math_bits_Div64_l2 F x12 x17 x10 x21 x23 F x26 x25 else none
def m_math_bits_Div64_b4 (F : Nat) (x12 : Int) (x17 : Int) (x15 : Int) (x10 : Int) (rec40 : Int → Int → Option (Int × Int)) (x38 : Int) (x39 : Int) : Option (Int × Int) :=
  if ((decide (x38 ≥ (4294967296 : Int))) || (decide ((IntKind.u64.wrap (x38 * (bitand .u64 x12 4294967295))) > (IntKind.u64.wrap ((IntKind.u64.wrap (4294967296 * x39)) + (Int.fdiv x17 (2 ^ 32))) : Int)))) = true then ((some (IntKind.u64.wrap (x39 + (Int.fdiv x12 (2 ^ 32))))).bind fun x43 => if x43 ≥ (4294967296 : Int) then (m_math_bits_Div64_j3 F x15 x17 x12 x10 (IntKind.u64.wrap (x38 - 1)) x43) else (rec40 (IntKind.u64.wrap (x38 - 1)) x43)) else (m_math_bits_Div64_j3 F x15 x17 x12 x10 x38 x39)
def m_math_bits_Div64_l4 (F : Nat) (x12 : Int) (x17 : Int) (x15 : Int) (x10 : Int) : Nat → Int → Int → Option (Int × Int)
  | 0, _, _ => none
  | n + 1, x38, x39 => m_math_bits_Div64_b4 F x12 x17 x15 x10 (m_math_bits_Div64_l4 F x12 x17 x15 x10 n) x38 x39
def m_math_bits_Div64 (F : Nat)  (x1 : Int) (x2 : Int) (x3 : Int) : Option (Int × Int) :=
  if x3 = (0 : Int) then (none) else (if x3 ≤ (x1 : Int) then (none) else (if x1 = (0 : Int) then (if x3 ≠ (0 : Int) then if x3 ≠ (0 : Int) then (some (IntKind.u64.wrap (Int.tdiv x2 x3))).bind fun x9 => some (x9, Int.tmod x2 x3) else none else none) else ((m_math_bits_LeadingZeros64 F x3).bind fun x10 => if 0 ≤ (IntKind.u64.wrap x10) then (some (IntKind.u64.wrap (x3 * 2 ^ (min (Int.toNat (IntKind.u64.wrap x10)) (IntKind.bits .u64))))).bind fun x12 => if 0 ≤ (IntKind.u64.wrap x10) then if 0 ≤ (IntKind.u64.wrap (64 - (IntKind.u64.wrap x10))) then (some (bitor .u64 (IntKind.u64.wrap (x1 * 2 ^ (min (Int.toNat (IntKind.u64.wrap x10)) (IntKind.bits .u64)))) (Int.fdiv x2 (2 ^ (min (Int.toNat (IntKind.u64.wrap (64 - (IntKind.u64.wrap x10)))) (IntKind.bits .u64)))))).bind fun x15 => if 0 ≤ (IntKind.u64.wrap x10) then (some (IntKind.u64.wrap (x2 * 2 ^ (min (Int.toNat (IntKind.u64.wrap x10)) (IntKind.bits .u64))))).bind fun x17 => if (Int.fdiv x12 (2 ^ 32)) ≠ (0 : Int) then (some (IntKind.u64.wrap (Int.tdiv x15 (Int.fdiv x12 (2 ^ 32))))).bind fun x19 => (some (IntKind.u64.wrap (x15 - (IntKind.u64.wrap (x19 * (Int.fdiv x12 (2 ^ 32))))))).bind fun x20 => m_math_bits_Div64_l4 F x12 x17 x15 x10 F x19 x20 else none else none else none else none else none)))
set_option maxHeartbeats 1000000 in
set_option maxRecDepth 8000 in
theorem m_math_bits_Div64_ok (F : Nat)   (x1 : Int) (x2 : Int) (x3 : Int) (w0 : World)  (r : Int × Int) (hm : m_math_bits_Div64 F x1 x2 x3 = some r) :
    Ret Try.prog 43 #[Uv x1, Uv x2, Uv x3] w0 (G := Unit) (fun _ => .tuple #[Uv r.1, Uv r.2]) (fun _ w => St w0 w noX [] []) := by
 unfold m_math_bits_Div64 at hm
 refine ret_of_W (lv := [Uv x1, Uv x2, Uv x3]) Try.func43 rfl rfl rfl (fun a hf => ?_)
 replace hf : Fr a 135 [] [(0, Uv x1), (1, Uv x2), (2, Uv x3)] := hf
 have hS : St w0 w0 noX [] [] := St.borrow lendAll_nil
 refine W.seq ?_
 -- region 0
 refine W.regionL (l := [0, 1]) rfl ?_
 refine O.val hf rfl rfl rfl (RunV.assign rfl) ?_; clear hf a; intro a hf
 refine O.val hf rfl rfl rfl (RunV.assign rfl) ?_; clear hf a; intro a hf
 refine O.nil ?_
 refine k_seq ?_
 refine W.seq ?_
 refine W.seq ?_
 -- region 1
 refine W.regionL (l := [0, 1]) rfl ?_
 refine O.val hf rfl rfl rfl (RunV.move rfl) ?_; clear hf a; intro a hf
 refine O.val (v := Bv (decide (x3 = (0 : Int)))) hf rfl rfl rfl (RunV.eql rfl rfl) ?_; clear hf a; intro a hf
 refine O.nil ?_
 refine k_seq ?_
 replace hf : Fr a 135 [] [(0, Uv x1), (1, Uv x2), (2, Uv x3), (6, Uv 0), (7, Uv 0), (20, Bv (decide (x3 = (0 : Int))))] := hf.to ⟨rfl, rfl, rfl, rfl, rfl, rfl, trivial⟩
 refine W.ifdI hf rfl (fun hc4 => ?_) (fun hc4 => ?_)
 ·replace hm := hm_p hm hc4
  exact absurd hm (by simp)
 ·replace hm := hm_n hm hc4
  refine W.skip ?_
  refine k_seq ?_
  replace hf : Fr a 135 [] [(0, Uv x1), (1, Uv x2), (2, Uv x3), (6, Uv 0), (7, Uv 0)] := hf.to ⟨rfl, rfl, rfl, rfl, rfl, trivial⟩
  refine W.seq ?_
  refine W.seq ?_
  -- region 3
  refine W.regionL (l := [0, 1, 2]) rfl ?_
  refine O.val hf rfl rfl rfl (RunV.move rfl) ?_; clear hf a; intro a hf
  refine O.val hf rfl rfl rfl (RunV.move rfl) ?_; clear hf a; intro a hf
  refine O.val (v := Bv (decide (x3 ≤ (x1 : Int)))) hf rfl rfl rfl (RunV.leq rfl rfl) ?_; clear hf a; intro a hf
  refine O.nil ?_
  refine k_seq ?_
  replace hf : Fr a 135 [] [(0, Uv x1), (1, Uv x2), (2, Uv x3), (6, Uv 0), (7, Uv 0), (24, Bv (decide (x3 ≤ (x1 : Int))))] := hf.to ⟨rfl, rfl, rfl, rfl, rfl, rfl, trivial⟩
  refine W.ifdI hf rfl (fun hc5 => ?_) (fun hc5 => ?_)
  ·replace hm := hm_p hm hc5
   exact absurd hm (by simp)
  ·replace hm := hm_n hm hc5
   refine W.skip ?_
   refine k_seq ?_
   replace hf : Fr a 135 [] [(0, Uv x1), (1, Uv x2), (2, Uv x3), (6, Uv 0), (7, Uv 0)] := hf.to ⟨rfl, rfl, rfl, rfl, rfl, trivial⟩
   refine W.seq ?_
   refine W.seq ?_
   -- region 5
   refine W.regionL (l := [0, 1]) rfl ?_
   refine O.val hf rfl rfl rfl (RunV.move rfl) ?_; clear hf a; intro a hf
   refine O.val (v := Bv (decide (x1 = (0 : Int)))) hf rfl rfl rfl (RunV.eql rfl rfl) ?_; clear hf a; intro a hf
   refine O.nil ?_
   refine k_seq ?_
   replace hf : Fr a 135 [] [(0, Uv x1), (1, Uv x2), (2, Uv x3), (6, Uv 0), (7, Uv 0), (27, Bv (decide (x1 = (0 : Int))))] := hf.to ⟨rfl, rfl, rfl, rfl, rfl, rfl, trivial⟩
   refine W.ifdI hf rfl (fun hc6 => ?_) (fun hc6 => ?_)
   ·replace hm := hm_p hm hc6
    refine W.seq ?_
    -- region 6, which draws its order
    obtain ⟨hg7, hm⟩ := hm_g hm
    obtain ⟨hg8, hm⟩ := hm_g hm
    refine W.drawQ (fun w => St w0 w noX [] []) P_mixed rfl (by kernel_rfl) rfl hS.drew ?_
    clear hS; try clear w
    refine OQ.val (v := Uv x2) hf rfl (fun w hS => RunV.move rfl) ?_; clear hf a; intro a hf
    refine OQ.val (v := Uv x3) hf rfl (fun w hS => RunV.move rfl) ?_; clear hf a; intro a hf
    refine OQ.val (v := Uv (IntKind.u64.wrap (Int.tdiv x2 x3))) hf rfl (fun w hS => RunV.quo rfl rfl hg7) ?_; clear hf a; intro a hf
    refine OQ.val (v := Uv x2) hf rfl (fun w hS => RunV.move rfl) ?_; clear hf a; intro a hf
    refine OQ.val (v := Uv x3) hf rfl (fun w hS => RunV.move rfl) ?_; clear hf a; intro a hf
    refine OQ.val (v := Uv (Int.tmod x2 x3)) hf rfl (fun w hS => RunV.rem rfl rfl hg8) ?_; clear hf a; intro a hf
    refine OQ.val (v := Uv (IntKind.u64.wrap (Int.tdiv x2 x3))) hf rfl (fun w hS => RunV.assign rfl) ?_; clear hf a; intro a hf
    refine OQ.val (v := Uv (Int.tmod x2 x3)) hf rfl (fun w hS => RunV.assign rfl) ?_; clear hf a; intro a hf
    refine OQ.nil ?_; intro w hS
    refine k_seq ?_
    replace hf : Fr a 135 [] [(0, Uv x1), (1, Uv x2), (2, Uv x3), (6, Uv (IntKind.u64.wrap (Int.tdiv x2 x3))), (7, Uv (Int.tmod x2 x3))] := hf.to ⟨rfl, rfl, rfl, rfl, rfl, trivial⟩
    obtain ⟨x9, hx9, hm⟩ := hm_b hm
    rw [Option.some.inj hx9] at hf
    refine W.ret ?_
    refine k_then_ret ?_
    obtain rfl := Option.some.inj hm
    refine post2 hf rfl (ResOK.tmp rfl) (ResOK.tmp rfl) ?_
    exact ⟨(), rfl, hS.noB⟩
   ·replace hm := hm_n hm hc6
    refine W.skip ?_
    refine k_seq ?_
    replace hf : Fr a 135 [] [(0, Uv x1), (1, Uv x2), (2, Uv x3), (6, Uv 0), (7, Uv 0)] := hf.to ⟨rfl, rfl, rfl, rfl, rfl, trivial⟩
    refine W.seq ?_
    -- region 7
    refine W.regionL (l := [0, 1, 2, 3]) rfl ?_
    refine O.val hf rfl rfl rfl (RunV.move rfl) ?_; clear hf a; intro a hf
    obtain ⟨x10, hx10, hm⟩ := hm_b hm
    refine O.callR hf rfl rfl rfl (RunE.call (av := #[Uv x3]) C_ok_45 rfl rfl rfl) (m_math_bits_LeadingZeros64_ok F x3 _ x10 hx10) ?_
    clear hf a; rintro _ w hS1 a hf
    replace hf : Fr a _ _ ((35, Iv x10) :: _) := hf
    replace hS := (hS.call hS1).eqM (N := []) rfl
    clear hS1
    refine O.val (v := Uv (IntKind.u64.wrap x10)) hf rfl rfl rfl (RunV.conv T_und_3 T_int_88 rfl) ?_; clear hf a; intro a hf
    refine O.val hf rfl rfl rfl (RunV.assign rfl) ?_; clear hf a; intro a hf
    refine O.nil ?_
    refine k_seq ?_
    replace hf : Fr a 135 [] [(0, Uv x1), (1, Uv x2), (2, Uv x3), (6, Uv 0), (7, Uv 0), (8, Uv (IntKind.u64.wrap x10))] := hf.to ⟨rfl, rfl, rfl, rfl, rfl, rfl, trivial⟩
    refine W.seq ?_
    -- region 8
    refine W.regionL (l := [0, 1, 2, 3]) rfl ?_
    refine O.val hf rfl rfl rfl (RunV.move rfl) ?_; clear hf a; intro a hf
    refine O.val hf rfl rfl rfl (RunV.move rfl) ?_; clear hf a; intro a hf
    obtain ⟨hg11, hm⟩ := hm_g hm
    refine O.val (v := Uv (IntKind.u64.wrap (x3 * 2 ^ (min (Int.toNat (IntKind.u64.wrap x10)) (IntKind.bits .u64))))) hf rfl rfl rfl (RunV.shl rfl rfl hg11) ?_; clear hf a; intro a hf
    refine O.val hf rfl rfl rfl (RunV.assign rfl) ?_; clear hf a; intro a hf
    refine O.nil ?_
    refine k_seq ?_
    replace hf : Fr a 135 [] [(0, Uv x1), (1, Uv x2), (2, Uv (IntKind.u64.wrap (x3 * 2 ^ (min (Int.toNat (IntKind.u64.wrap x10)) (IntKind.bits .u64))))), (6, Uv 0), (7, Uv 0), (8, Uv (IntKind.u64.wrap x10))] := hf.to ⟨rfl, rfl, rfl, rfl, rfl, rfl, trivial⟩
    obtain ⟨x12, hx12, hm⟩ := hm_b hm
    rw [Option.some.inj hx12] at hf
    refine W.seq ?_
    -- region 9
    refine W.regionL (l := [0, 1, 2]) rfl ?_
    refine O.val hf rfl rfl rfl (RunV.move rfl) ?_; clear hf a; intro a hf
    refine O.val (v := Uv (Int.fdiv x12 (2 ^ 32))) hf rfl rfl rfl (RunV.shr (q := 32) rfl rfl (by decide)) ?_; clear hf a; intro a hf
    refine O.val hf rfl rfl rfl (RunV.assign rfl) ?_; clear hf a; intro a hf
    refine O.nil ?_
    refine k_seq ?_
    replace hf : Fr a 135 [] [(0, Uv x1), (1, Uv x2), (2, Uv x12), (6, Uv 0), (7, Uv 0), (8, Uv (IntKind.u64.wrap x10)), (9, Uv (Int.fdiv x12 (2 ^ 32)))] := hf.to ⟨rfl, rfl, rfl, rfl, rfl, rfl, rfl, trivial⟩
    refine W.seq ?_
    -- region 10
    refine W.regionL (l := [0, 1, 2]) rfl ?_
    refine O.val hf rfl rfl rfl (RunV.move rfl) ?_; clear hf a; intro a hf
    refine O.val (v := Uv (bitand .u64 x12 4294967295)) hf rfl rfl rfl (RunV.bitand rfl rfl) ?_; clear hf a; intro a hf
    refine O.val hf rfl rfl rfl (RunV.assign rfl) ?_; clear hf a; intro a hf
    refine O.nil ?_
    refine k_seq ?_
    replace hf : Fr a 135 [] [(0, Uv x1), (1, Uv x2), (2, Uv x12), (6, Uv 0), (7, Uv 0), (8, Uv (IntKind.u64.wrap x10)), (9, Uv (Int.fdiv x12 (2 ^ 32))), (10, Uv (bitand .u64 x12 4294967295))] := hf.to ⟨rfl, rfl, rfl, rfl, rfl, rfl, rfl, rfl, trivial⟩
    refine W.seq ?_
    -- region 11
    refine W.regionL (l := [0, 1, 2, 3, 4, 5, 6, 7, 8]) rfl ?_
    refine O.val hf rfl rfl rfl (RunV.move rfl) ?_; clear hf a; intro a hf
    refine O.val hf rfl rfl rfl (RunV.move rfl) ?_; clear hf a; intro a hf
    obtain ⟨hg13, hm⟩ := hm_g hm
    refine O.val (v := Uv (IntKind.u64.wrap (x1 * 2 ^ (min (Int.toNat (IntKind.u64.wrap x10)) (IntKind.bits .u64))))) hf rfl rfl rfl (RunV.shl rfl rfl hg13) ?_; clear hf a; intro a hf
    refine O.val hf rfl rfl rfl (RunV.move rfl) ?_; clear hf a; intro a hf
    refine O.val hf rfl rfl rfl (RunV.move rfl) ?_; clear hf a; intro a hf
    refine O.val (v := Uv (IntKind.u64.wrap (64 - (IntKind.u64.wrap x10)))) hf rfl rfl rfl (RunV.sub rfl rfl) ?_; clear hf a; intro a hf
    obtain ⟨hg14, hm⟩ := hm_g hm
    refine O.val (v := Uv (Int.fdiv x2 (2 ^ (min (Int.toNat (IntKind.u64.wrap (64 - (IntKind.u64.wrap x10)))) (IntKind.bits .u64))))) hf rfl rfl rfl (RunV.shr rfl rfl hg14) ?_; clear hf a; intro a hf
    refine O.val (v := Uv (bitor .u64 (IntKind.u64.wrap (x1 * 2 ^ (min (Int.toNat (IntKind.u64.wrap x10)) (IntKind.bits .u64)))) (Int.fdiv x2 (2 ^ (min (Int.toNat (IntKind.u64.wrap (64 - (IntKind.u64.wrap x10)))) (IntKind.bits .u64)))))) hf rfl rfl rfl (RunV.bitor rfl rfl) ?_; clear hf a; intro a hf
    refine O.val hf rfl rfl rfl (RunV.assign rfl) ?_; clear hf a; intro a hf
    refine O.nil ?_
    refine k_seq ?_
    replace hf : Fr a 135 [] [(1, Uv x2), (2, Uv x12), (6, Uv 0), (7, Uv 0), (8, Uv (IntKind.u64.wrap x10)), (9, Uv (Int.fdiv x12 (2 ^ 32))), (10, Uv (bitand .u64 x12 4294967295)), (11, Uv (bitor .u64 (IntKind.u64.wrap (x1 * 2 ^ (min (Int.toNat (IntKind.u64.wrap x10)) (IntKind.bits .u64)))) (Int.fdiv x2 (2 ^ (min (Int.toNat (IntKind.u64.wrap (64 - (IntKind.u64.wrap x10)))) (IntKind.bits .u64))))))] := hf.to ⟨rfl, rfl, rfl, rfl, rfl, rfl, rfl, rfl, trivial⟩
    obtain ⟨x15, hx15, hm⟩ := hm_b hm
    rw [Option.some.inj hx15] at hf
    refine W.seq ?_
    -- region 12
    refine W.regionL (l := [0, 1, 2, 3]) rfl ?_
    refine O.val hf rfl rfl rfl (RunV.move rfl) ?_; clear hf a; intro a hf
    refine O.val hf rfl rfl rfl (RunV.move rfl) ?_; clear hf a; intro a hf
    obtain ⟨hg16, hm⟩ := hm_g hm
    refine O.val (v := Uv (IntKind.u64.wrap (x2 * 2 ^ (min (Int.toNat (IntKind.u64.wrap x10)) (IntKind.bits .u64))))) hf rfl rfl rfl (RunV.shl rfl rfl hg16) ?_; clear hf a; intro a hf
    refine O.val hf rfl rfl rfl (RunV.assign rfl) ?_; clear hf a; intro a hf
    refine O.nil ?_
    refine k_seq ?_
    replace hf : Fr a 135 [] [(2, Uv x12), (6, Uv 0), (7, Uv 0), (8, Uv (IntKind.u64.wrap x10)), (9, Uv (Int.fdiv x12 (2 ^ 32))), (10, Uv (bitand .u64 x12 4294967295)), (11, Uv x15), (12, Uv (IntKind.u64.wrap (x2 * 2 ^ (min (Int.toNat (IntKind.u64.wrap x10)) (IntKind.bits .u64)))))] := hf.to ⟨rfl, rfl, rfl, rfl, rfl, rfl, rfl, rfl, trivial⟩
    obtain ⟨x17, hx17, hm⟩ := hm_b hm
    rw [Option.some.inj hx17] at hf
    refine W.seq ?_
    -- region 13
    refine W.regionL (l := [0, 1, 2]) rfl ?_
    refine O.val hf rfl rfl rfl (RunV.move rfl) ?_; clear hf a; intro a hf
    refine O.val (v := Uv (Int.fdiv x17 (2 ^ 32))) hf rfl rfl rfl (RunV.shr (q := 32) rfl rfl (by decide)) ?_; clear hf a; intro a hf
    refine O.val hf rfl rfl rfl (RunV.assign rfl) ?_; clear hf a; intro a hf
    refine O.nil ?_
    refine k_seq ?_
    replace hf : Fr a 135 [] [(2, Uv x12), (6, Uv 0), (7, Uv 0), (8, Uv (IntKind.u64.wrap x10)), (9, Uv (Int.fdiv x12 (2 ^ 32))), (10, Uv (bitand .u64 x12 4294967295)), (11, Uv x15), (12, Uv x17), (13, Uv (Int.fdiv x17 (2 ^ 32)))] := hf.to ⟨rfl, rfl, rfl, rfl, rfl, rfl, rfl, rfl, rfl, trivial⟩
    refine W.seq ?_
    -- region 14
    refine W.regionL (l := [0, 1, 2]) rfl ?_
    refine O.val hf rfl rfl rfl (RunV.move rfl) ?_; clear hf a; intro a hf
    refine O.val (v := Uv (bitand .u64 x17 4294967295)) hf rfl rfl rfl (RunV.bitand rfl rfl) ?_; clear hf a; intro a hf
    refine O.val hf rfl rfl rfl (RunV.assign rfl) ?_; clear hf a; intro a hf
    refine O.nil ?_
    refine k_seq ?_
    replace hf : Fr a 135 [] [(2, Uv x12), (6, Uv 0), (7, Uv 0), (8, Uv (IntKind.u64.wrap x10)), (9, Uv (Int.fdiv x12 (2 ^ 32))), (10, Uv (bitand .u64 x12 4294967295)), (11, Uv x15), (13, Uv (Int.fdiv x17 (2 ^ 32))), (14, Uv (bitand .u64 x17 4294967295))] := hf.to ⟨rfl, rfl, rfl, rfl, rfl, rfl, rfl, rfl, rfl, trivial⟩
    refine W.seq ?_
    -- region 15
    refine W.regionL (l := [0, 1, 2, 3]) rfl ?_
    refine O.val hf rfl rfl rfl (RunV.move rfl) ?_; clear hf a; intro a hf
    refine O.val hf rfl rfl rfl (RunV.move rfl) ?_; clear hf a; intro a hf
    obtain ⟨hg18, hm⟩ := hm_g hm
    refine O.val (v := Uv (IntKind.u64.wrap (Int.tdiv x15 (Int.fdiv x12 (2 ^ 32))))) hf rfl rfl rfl (RunV.quo rfl rfl hg18) ?_; clear hf a; intro a hf
    refine O.val hf rfl rfl rfl (RunV.assign rfl) ?_; clear hf a; intro a hf
    refine O.nil ?_
    refine k_seq ?_
    replace hf : Fr a 135 [] [(2, Uv x12), (6, Uv 0), (7, Uv 0), (8, Uv (IntKind.u64.wrap x10)), (9, Uv (Int.fdiv x12 (2 ^ 32))), (10, Uv (bitand .u64 x12 4294967295)), (11, Uv x15), (13, Uv (Int.fdiv x17 (2 ^ 32))), (14, Uv (bitand .u64 x17 4294967295)), (15, Uv (IntKind.u64.wrap (Int.tdiv x15 (Int.fdiv x12 (2 ^ 32)))))] := hf.to ⟨rfl, rfl, rfl, rfl, rfl, rfl, rfl, rfl, rfl, rfl, trivial⟩
    obtain ⟨x19, hx19, hm⟩ := hm_b hm
    rw [Option.some.inj hx19] at hf
    refine W.seq ?_
    -- region 16
    refine W.regionL (l := [0, 1, 2, 3, 4, 5]) rfl ?_
    refine O.val hf rfl rfl rfl (RunV.move rfl) ?_; clear hf a; intro a hf
    refine O.val hf rfl rfl rfl (RunV.move rfl) ?_; clear hf a; intro a hf
    refine O.val hf rfl rfl rfl (RunV.move rfl) ?_; clear hf a; intro a hf
    refine O.val (v := Uv (IntKind.u64.wrap (x19 * (Int.fdiv x12 (2 ^ 32))))) hf rfl rfl rfl (RunV.mul rfl rfl) ?_; clear hf a; intro a hf
    refine O.val (v := Uv (IntKind.u64.wrap (x15 - (IntKind.u64.wrap (x19 * (Int.fdiv x12 (2 ^ 32))))))) hf rfl rfl rfl (RunV.sub rfl rfl) ?_; clear hf a; intro a hf
    refine O.val hf rfl rfl rfl (RunV.assign rfl) ?_; clear hf a; intro a hf
    refine O.nil ?_
    refine k_seq ?_
    replace hf : Fr a 135 [] [(2, Uv x12), (6, Uv 0), (7, Uv 0), (8, Uv (IntKind.u64.wrap x10)), (9, Uv (Int.fdiv x12 (2 ^ 32))), (10, Uv (bitand .u64 x12 4294967295)), (11, Uv x15), (13, Uv (Int.fdiv x17 (2 ^ 32))), (14, Uv (bitand .u64 x17 4294967295)), (15, Uv x19), (16, Uv (IntKind.u64.wrap (x15 - (IntKind.u64.wrap (x19 * (Int.fdiv x12 (2 ^ 32)))))))] := hf.to ⟨rfl, rfl, rfl, rfl, rfl, rfl, rfl, rfl, rfl, rfl, rfl, trivial⟩
    obtain ⟨x20, hx20, hm⟩ := hm_b hm
    rw [Option.some.inj hx20] at hf
    refine W.seqR (fun a w => ∃ (x21 : Int) (x22 : Int), Fr a 135 [] [(2, Uv x12), (6, Uv 0), (7, Uv 0), (8, Uv (IntKind.u64.wrap x10)), (9, Uv (Int.fdiv x12 (2 ^ 32))), (10, Uv (bitand .u64 x12 4294967295)), (11, Uv x15), (13, Uv (Int.fdiv x17 (2 ^ 32))), (14, Uv (bitand .u64 x17 4294967295)), (15, Uv x21), (16, Uv x22)] ∧ St w0 w noX [] [] ∧ m_math_bits_Div64_j3 F x15 x17 x12 x10 x21 x22 = some r) ?_ ?_
    ·refine W.block ?_
     -- a loop
     refine W.loop (G := Nat × Int × Int) (fun g a w => match g with | (k40, x38, x39) => Fr a 135 [] [(2, Uv x12), (6, Uv 0), (7, Uv 0), (8, Uv (IntKind.u64.wrap x10)), (9, Uv (Int.fdiv x12 (2 ^ 32))), (10, Uv (bitand .u64 x12 4294967295)), (11, Uv x15), (13, Uv (Int.fdiv x17 (2 ^ 32))), (14, Uv (bitand .u64 x17 4294967295)), (15, Uv x38), (16, Uv x39)] ∧ St w0 w noX [] [] ∧ m_math_bits_Div64_l4 F x12 x17 x15 x10 k40 x38 x39 = some r) (fun g => match g with | (k40, x38, x39) => k40) (F, x19, x20) ⟨hf.to ⟨rfl, rfl, rfl, rfl, rfl, rfl, rfl, rfl, rfl, rfl, rfl, trivial⟩, hS, hm⟩ ?_
     clear hf hS hm a; try clear w
     rintro ⟨k40, x38, x39⟩ a w ⟨hf, hS, hm⟩
     rcases k40 with _ | k40
     · exact absurd (show none = some r from hm) (by simp)
     replace hm : m_math_bits_Div64_b4 F x12 x17 x15 x10 (m_math_bits_Div64_l4 F x12 x17 x15 x10 k40) x38 x39 = some r := hm
     obtain ⟨rec40, hrec40⟩ : ∃ f, f = m_math_bits_Div64_l4 F x12 x17 x15 x10 k40 := ⟨_, rfl⟩
     rw [← hrec40] at hm; unfold m_math_bits_Div64_b4 at hm
     refine W.seq ?_
     refine W.seq ?_
     -- region 17
     refine W.regionL (l := [0, 1, 2, 3, 4, 5, 6, 7, 8, 9, 10, 11]) rfl ?_
     refine O.val hf rfl rfl rfl (RunV.move rfl) ?_; clear hf a; intro a hf
     refine O.val (v := Bv (decide (x38 ≥ (4294967296 : Int)))) hf rfl rfl rfl (RunV.geq rfl rfl) ?_; clear hf a; intro a hf
     refine O.val hf rfl rfl rfl (RunV.move rfl) ?_; clear hf a; intro a hf
     refine O.cutN (l₁ := [3, 4, 5, 6, 7, 8, 9, 10, 11]) (l₂ := _) (fun a w => Fr a 135 [] [(2, Uv x12), (6, Uv 0), (7, Uv 0), (8, Uv (IntKind.u64.wrap x10)), (9, Uv (Int.fdiv x12 (2 ^ 32))), (10, Uv (bitand .u64 x12 4294967295)), (11, Uv x15), (13, Uv (Int.fdiv x17 (2 ^ 32))), (14, Uv (bitand .u64 x17 4294967295)), (15, Uv x38), (16, Uv x39), (67, Uv x38), (68, Bv (decide (x38 ≥ (4294967296 : Int)))), (69, Bv (decide (x38 ≥ (4294967296 : Int)))), (78, Bv ((decide (x38 ≥ (4294967296 : Int))) || (decide ((IntKind.u64.wrap (x38 * (bitand .u64 x12 4294967295))) > (IntKind.u64.wrap ((IntKind.u64.wrap (4294967296 * x39)) + (Int.fdiv x17 (2 ^ 32))) : Int)))))] ∧ St w0 w noX [] []) rfl ?_ ?_
     ·rcases Bool.eq_false_or_eq_true (decide (x38 ≥ (4294967296 : Int))) with hb41 | hb41
      ·refine O.skipB hf rfl rfl rfl hb41 rfl ?_; clear hf a; intro a hf
       refine O.skipB hf rfl rfl rfl hb41 rfl ?_; clear hf a; intro a hf
       refine O.skipB hf rfl rfl rfl hb41 rfl ?_; clear hf a; intro a hf
       refine O.skipB hf rfl rfl rfl hb41 rfl ?_; clear hf a; intro a hf
       refine O.skipB hf rfl rfl rfl hb41 rfl ?_; clear hf a; intro a hf
       refine O.skipB hf rfl rfl rfl hb41 rfl ?_; clear hf a; intro a hf
       refine O.skipB hf rfl rfl rfl hb41 rfl ?_; clear hf a; intro a hf
       refine O.skipB hf rfl rfl rfl hb41 rfl ?_; clear hf a; intro a hf
       refine O.val (v := Bv ((decide (x38 ≥ (4294967296 : Int))) || (decide ((IntKind.u64.wrap (x38 * (bitand .u64 x12 4294967295))) > (IntKind.u64.wrap ((IntKind.u64.wrap (4294967296 * x39)) + (Int.fdiv x17 (2 ^ 32))) : Int))))) hf rfl rfl rfl (RunV.pick rfl rfl rfl (by rw [hb41]; rfl)) ?_; clear hf a; intro a hf
       exact O.nil ⟨rfl, hf.to ⟨rfl, rfl, rfl, rfl, rfl, rfl, rfl, rfl, rfl, rfl, rfl, rfl, rfl, rfl, rfl, trivial⟩, hS⟩
      ·refine O.gvalB hf rfl rfl rfl hb41 rfl rfl (RunV.move rfl) ?_; clear hf a; intro a hf
       refine O.gvalB hf rfl rfl rfl hb41 rfl rfl (RunV.move rfl) ?_; clear hf a; intro a hf
       refine O.gvalB (v := Uv (IntKind.u64.wrap (x38 * (bitand .u64 x12 4294967295)))) hf rfl rfl rfl hb41 rfl rfl (RunV.mul rfl rfl) ?_; clear hf a; intro a hf
       refine O.gvalB hf rfl rfl rfl hb41 rfl rfl (RunV.move rfl) ?_; clear hf a; intro a hf
       refine O.gvalB (v := Uv (IntKind.u64.wrap (4294967296 * x39))) hf rfl rfl rfl hb41 rfl rfl (RunV.mul rfl rfl) ?_; clear hf a; intro a hf
       refine O.gvalB hf rfl rfl rfl hb41 rfl rfl (RunV.move rfl) ?_; clear hf a; intro a hf
       refine O.gvalB (v := Uv (IntKind.u64.wrap ((IntKind.u64.wrap (4294967296 * x39)) + (Int.fdiv x17 (2 ^ 32))))) hf rfl rfl rfl hb41 rfl rfl (RunV.add rfl rfl) ?_; clear hf a; intro a hf
       refine O.gvalB (v := Bv (decide ((IntKind.u64.wrap (x38 * (bitand .u64 x12 4294967295))) > (IntKind.u64.wrap ((IntKind.u64.wrap (4294967296 * x39)) + (Int.fdiv x17 (2 ^ 32))) : Int)))) hf rfl rfl rfl hb41 rfl rfl (RunV.gtr rfl rfl) ?_; clear hf a; intro a hf
       refine O.val (v := Bv ((decide (x38 ≥ (4294967296 : Int))) || (decide ((IntKind.u64.wrap (x38 * (bitand .u64 x12 4294967295))) > (IntKind.u64.wrap ((IntKind.u64.wrap (4294967296 * x39)) + (Int.fdiv x17 (2 ^ 32))) : Int))))) hf rfl rfl rfl (RunV.pick rfl rfl rfl (by rw [hb41]; rfl)) ?_; clear hf a; intro a hf
       exact O.nil ⟨rfl, hf.to ⟨rfl, rfl, rfl, rfl, rfl, rfl, rfl, rfl, rfl, rfl, rfl, rfl, rfl, rfl, rfl, trivial⟩, hS⟩
     clear hf hS a; try clear w
     rintro a w ⟨hf, hS⟩
     refine O.nil ?_
     refine k_seq ?_
     refine W.if_ hf rfl (fun hc42 => ?_) (fun hc42 => ?_)
     ·replace hm := hm_t hm hc42
      refine W.skip ?_
      refine k_seq ?_
      refine W.block ?_
      refine W.seq ?_
      -- region 18
      refine W.regionL (l := [0, 1, 2]) rfl ?_
      refine O.val hf rfl rfl rfl (RunV.move rfl) ?_; clear hf a; intro a hf
      refine O.val (v := Uv (IntKind.u64.wrap (x38 - 1))) hf rfl rfl rfl (RunV.sub rfl rfl) ?_; clear hf a; intro a hf
      refine O.val hf rfl rfl rfl (RunV.assign rfl) ?_; clear hf a; intro a hf
      refine O.nil ?_
      refine k_seq ?_
      refine W.seq ?_
      -- region 19
      refine W.regionL (l := [0, 1, 2, 3]) rfl ?_
      refine O.val hf rfl rfl rfl (RunV.move rfl) ?_; clear hf a; intro a hf
      refine O.val hf rfl rfl rfl (RunV.move rfl) ?_; clear hf a; intro a hf
      refine O.val (v := Uv (IntKind.u64.wrap (x39 + (Int.fdiv x12 (2 ^ 32))))) hf rfl rfl rfl (RunV.add rfl rfl) ?_; clear hf a; intro a hf
      refine O.val hf rfl rfl rfl (RunV.assign rfl) ?_; clear hf a; intro a hf
      refine O.nil ?_
      refine k_seq ?_
      obtain ⟨x43, hx43, hm⟩ := hm_b hm
      rw [Option.some.inj hx43] at hf
      refine W.seq ?_
      -- region 20
      refine W.regionL (l := [0, 1]) rfl ?_
      refine O.val hf rfl rfl rfl (RunV.move rfl) ?_; clear hf a; intro a hf
      refine O.val (v := Bv (decide (x43 ≥ (4294967296 : Int)))) hf rfl rfl rfl (RunV.geq rfl rfl) ?_; clear hf a; intro a hf
      refine O.nil ?_
      refine k_seq ?_
      refine W.ifdI hf rfl (fun hc44 => ?_) (fun hc44 => ?_)
      ·replace hm := hm_p hm hc44
       refine W.exit ?_
       refine k_blk_ne rfl ?_
       refine k_then_exit ?_
       refine k_blk ?_
       exact k_then ⟨IntKind.u64.wrap (x38 - 1), x43, hf.to ⟨rfl, rfl, rfl, rfl, rfl, rfl, rfl, rfl, rfl, rfl, rfl, trivial⟩, hS, hm⟩
      ·replace hm := hm_n hm hc44
       refine W.skip ?_
       refine k_blk_normal ?_
       refine k_then ⟨(k40, IntKind.u64.wrap (x38 - 1), x43), ⟨hf.to ⟨rfl, rfl, rfl, rfl, rfl, rfl, rfl, rfl, rfl, rfl, rfl, trivial⟩, hS, ?_⟩, Nat.lt_succ_self _⟩
       rw [hrec40] at hm; exact hm
     ·replace hm := hm_f hm hc42
      refine W.exit ?_
      refine k_then_exit ?_
      refine k_then_exit ?_
      refine k_blk ?_
      exact k_then ⟨x38, x39, hf.to ⟨rfl, rfl, rfl, rfl, rfl, rfl, rfl, rfl, rfl, rfl, rfl, trivial⟩, hS, hm⟩
    ·clear hf hS hm a; try clear w
     rintro a w ⟨x21, x22, hf, hS, hm⟩
     unfold m_math_bits_Div64_j3 at hm
     refine W.seq ?_
     -- region 21
     refine W.regionL (l := [0, 1, 2, 3, 4, 5, 6, 7, 8]) rfl ?_
     refine O.val hf rfl rfl rfl (RunV.move rfl) ?_; clear hf a; intro a hf
     refine O.val (v := Uv (IntKind.u64.wrap (x15 * 4294967296))) hf rfl rfl rfl (RunV.mul rfl rfl) ?_; clear hf a; intro a hf
     refine O.val hf rfl rfl rfl (RunV.move rfl) ?_; clear hf a; intro a hf
     refine O.val (v := Uv (IntKind.u64.wrap ((IntKind.u64.wrap (x15 * 4294967296)) + (Int.fdiv x17 (2 ^ 32))))) hf rfl rfl rfl (RunV.add rfl rfl) ?_; clear hf a; intro a hf
     refine O.val hf rfl rfl rfl (RunV.move rfl) ?_; clear hf a; intro a hf
     refine O.val hf rfl rfl rfl (RunV.move rfl) ?_; clear hf a; intro a hf
     refine O.val (v := Uv (IntKind.u64.wrap (x21 * x12))) hf rfl rfl rfl (RunV.mul rfl rfl) ?_; clear hf a; intro a hf
     refine O.val (v := Uv (IntKind.u64.wrap ((IntKind.u64.wrap ((IntKind.u64.wrap (x15 * 4294967296)) + (Int.fdiv x17 (2 ^ 32)))) - (IntKind.u64.wrap (x21 * x12))))) hf rfl rfl rfl (RunV.sub rfl rfl) ?_; clear hf a; intro a hf
     refine O.val hf rfl rfl rfl (RunV.assign rfl) ?_; clear hf a; intro a hf
     refine O.nil ?_
     refine k_seq ?_
     replace hf : Fr a 135 [] [(2, Uv x12), (6, Uv 0), (7, Uv 0), (8, Uv (IntKind.u64.wrap x10)), (9, Uv (Int.fdiv x12 (2 ^ 32))), (10, Uv (bitand .u64 x12 4294967295)), (14, Uv (bitand .u64 x17 4294967295)), (15, Uv x21), (16, Uv x22), (17, Uv (IntKind.u64.wrap ((IntKind.u64.wrap ((IntKind.u64.wrap (x15 * 4294967296)) + (Int.fdiv x17 (2 ^ 32)))) - (IntKind.u64.wrap (x21 * x12)))))] := hf.to ⟨rfl, rfl, rfl, rfl, rfl, rfl, rfl, rfl, rfl, rfl, trivial⟩
     obtain ⟨x23, hx23, hm⟩ := hm_b hm
     rw [Option.some.inj hx23] at hf
     refine W.seq ?_
     -- region 22
     refine W.regionL (l := [0, 1, 2, 3]) rfl ?_
     refine O.val hf rfl rfl rfl (RunV.move rfl) ?_; clear hf a; intro a hf
     refine O.val hf rfl rfl rfl (RunV.move rfl) ?_; clear hf a; intro a hf
     obtain ⟨hg24, hm⟩ := hm_g hm
     refine O.val (v := Uv (IntKind.u64.wrap (Int.tdiv x23 (Int.fdiv x12 (2 ^ 32))))) hf rfl rfl rfl (RunV.quo rfl rfl hg24) ?_; clear hf a; intro a hf
     refine O.val hf rfl rfl rfl (RunV.assign rfl) ?_; clear hf a; intro a hf
     refine O.nil ?_
     refine k_seq ?_
     replace hf : Fr a 135 [] [(2, Uv x12), (6, Uv 0), (7, Uv 0), (8, Uv (IntKind.u64.wrap x10)), (9, Uv (Int.fdiv x12 (2 ^ 32))), (10, Uv (bitand .u64 x12 4294967295)), (14, Uv (bitand .u64 x17 4294967295)), (15, Uv x21), (16, Uv x22), (17, Uv x23), (18, Uv (IntKind.u64.wrap (Int.tdiv x23 (Int.fdiv x12 (2 ^ 32)))))] := hf.to ⟨rfl, rfl, rfl, rfl, rfl, rfl, rfl, rfl, rfl, rfl, rfl, trivial⟩
     obtain ⟨x25, hx25, hm⟩ := hm_b hm
     rw [Option.some.inj hx25] at hf
     refine W.seq ?_
     -- region 23
     refine W.regionL (l := [0, 1, 2, 3, 4, 5]) rfl ?_
     refine O.val hf rfl rfl rfl (RunV.move rfl) ?_; clear hf a; intro a hf
     refine O.val hf rfl rfl rfl (RunV.move rfl) ?_; clear hf a; intro a hf
     refine O.val hf rfl rfl rfl (RunV.move rfl) ?_; clear hf a; intro a hf
     refine O.val (v := Uv (IntKind.u64.wrap (x25 * (Int.fdiv x12 (2 ^ 32))))) hf rfl rfl rfl (RunV.mul rfl rfl) ?_; clear hf a; intro a hf
     refine O.val (v := Uv (IntKind.u64.wrap (x23 - (IntKind.u64.wrap (x25 * (Int.fdiv x12 (2 ^ 32))))))) hf rfl rfl rfl (RunV.sub rfl rfl) ?_; clear hf a; intro a hf
     refine O.val hf rfl rfl rfl (RunV.assign rfl) ?_; clear hf a; intro a hf
     refine O.nil ?_
     refine k_seq ?_
     replace hf : Fr a 135 [] [(2, Uv x12), (6, Uv 0), (7, Uv 0), (8, Uv (IntKind.u64.wrap x10)), (9, Uv (Int.fdiv x12 (2 ^ 32))), (10, Uv (bitand .u64 x12 4294967295)), (14, Uv (bitand .u64 x17 4294967295)), (15, Uv x21), (16, Uv (IntKind.u64.wrap (x23 - (IntKind.u64.wrap (x25 * (Int.fdiv x12 (2 ^ 32))))))), (17, Uv x23), (18, Uv x25)] := hf.to ⟨rfl, rfl, rfl, rfl, rfl, rfl, rfl, rfl, rfl, rfl, rfl, trivial⟩
     obtain ⟨x26, hx26, hm⟩ := hm_b hm
     rw [Option.some.inj hx26] at hf
     refine W.seqR (fun a w => ∃ (x27 : Int), Fr a 135 [] [(2, Uv x12), (6, Uv 0), (7, Uv 0), (8, Uv (IntKind.u64.wrap x10)), (14, Uv (bitand .u64 x17 4294967295)), (15, Uv x21), (17, Uv x23), (18, Uv x27)] ∧ St w0 w noX [] [] ∧ m_math_bits_Div64_j1 F x10 x21 x23 x17 x12 x27 = some r) ?_ ?_
     ·refine W.block ?_
      -- a loop
      refine W.loop (G := Nat × Int × Int) (fun g a w => match g with | (k33, x31, x32) => Fr a 135 [] [(2, Uv x12), (6, Uv 0), (7, Uv 0), (8, Uv (IntKind.u64.wrap x10)), (9, Uv (Int.fdiv x12 (2 ^ 32))), (10, Uv (bitand .u64 x12 4294967295)), (14, Uv (bitand .u64 x17 4294967295)), (15, Uv x21), (16, Uv x31), (17, Uv x23), (18, Uv x32)] ∧ St w0 w noX [] [] ∧ m_math_bits_Div64_l2 F x12 x17 x10 x21 x23 k33 x31 x32 = some r) (fun g => match g with | (k33, x31, x32) => k33) (F, x26, x25) ⟨hf.to ⟨rfl, rfl, rfl, rfl, rfl, rfl, rfl, rfl, rfl, rfl, rfl, trivial⟩, hS, hm⟩ ?_
      clear hf hS hm a; try clear w
      rintro ⟨k33, x31, x32⟩ a w ⟨hf, hS, hm⟩
      rcases k33 with _ | k33
      · exact absurd (show none = some r from hm) (by simp)
      replace hm : m_math_bits_Div64_b2 F x12 x17 x10 x21 x23 (m_math_bits_Div64_l2 F x12 x17 x10 x21 x23 k33) x31 x32 = some r := hm
      obtain ⟨rec33, hrec33⟩ : ∃ f, f = m_math_bits_Div64_l2 F x12 x17 x10 x21 x23 k33 := ⟨_, rfl⟩
      rw [← hrec33] at hm; unfold m_math_bits_Div64_b2 at hm
      refine W.seq ?_
      refine W.seq ?_
      -- region 24
      refine W.regionL (l := [0, 1, 2, 3, 4, 5, 6, 7, 8, 9, 10, 11]) rfl ?_
      refine O.val hf rfl rfl rfl (RunV.move rfl) ?_; clear hf a; intro a hf
      refine O.val (v := Bv (decide (x32 ≥ (4294967296 : Int)))) hf rfl rfl rfl (RunV.geq rfl rfl) ?_; clear hf a; intro a hf
      refine O.val hf rfl rfl rfl (RunV.move rfl) ?_; clear hf a; intro a hf
      refine O.cutN (l₁ := [3, 4, 5, 6, 7, 8, 9, 10, 11]) (l₂ := _) (fun a w => Fr a 135 [] [(2, Uv x12), (6, Uv 0), (7, Uv 0), (8, Uv (IntKind.u64.wrap x10)), (9, Uv (Int.fdiv x12 (2 ^ 32))), (10, Uv (bitand .u64 x12 4294967295)), (14, Uv (bitand .u64 x17 4294967295)), (15, Uv x21), (16, Uv x31), (17, Uv x23), (18, Uv x32), (102, Uv x32), (103, Bv (decide (x32 ≥ (4294967296 : Int)))), (104, Bv (decide (x32 ≥ (4294967296 : Int)))), (113, Bv ((decide (x32 ≥ (4294967296 : Int))) || (decide ((IntKind.u64.wrap (x32 * (bitand .u64 x12 4294967295))) > (IntKind.u64.wrap ((IntKind.u64.wrap (4294967296 * x31)) + (bitand .u64 x17 4294967295)) : Int)))))] ∧ St w0 w noX [] []) rfl ?_ ?_
      ·rcases Bool.eq_false_or_eq_true (decide (x32 ≥ (4294967296 : Int))) with hb34 | hb34
       ·refine O.skipB hf rfl rfl rfl hb34 rfl ?_; clear hf a; intro a hf
        refine O.skipB hf rfl rfl rfl hb34 rfl ?_; clear hf a; intro a hf
        refine O.skipB hf rfl rfl rfl hb34 rfl ?_; clear hf a; intro a hf
        refine O.skipB hf rfl rfl rfl hb34 rfl ?_; clear hf a; intro a hf
        refine O.skipB hf rfl rfl rfl hb34 rfl ?_; clear hf a; intro a hf
        refine O.skipB hf rfl rfl rfl hb34 rfl ?_; clear hf a; intro a hf
        refine O.skipB hf rfl rfl rfl hb34 rfl ?_; clear hf a; intro a hf
        refine O.skipB hf rfl rfl rfl hb34 rfl ?_; clear hf a; intro a hf
        refine O.val (v := Bv ((decide (x32 ≥ (4294967296 : Int))) || (decide ((IntKind.u64.wrap (x32 * (bitand .u64 x12 4294967295))) > (IntKind.u64.wrap ((IntKind.u64.wrap (4294967296 * x31)) + (bitand .u64 x17 4294967295)) : Int))))) hf rfl rfl rfl (RunV.pick rfl rfl rfl (by rw [hb34]; rfl)) ?_; clear hf a; intro a hf
        exact O.nil ⟨rfl, hf.to ⟨rfl, rfl, rfl, rfl, rfl, rfl, rfl, rfl, rfl, rfl, rfl, rfl, rfl, rfl, rfl, trivial⟩, hS⟩
       ·refine O.gvalB hf rfl rfl rfl hb34 rfl rfl (RunV.move rfl) ?_; clear hf a; intro a hf
        refine O.gvalB hf rfl rfl rfl hb34 rfl rfl (RunV.move rfl) ?_; clear hf a; intro a hf
        refine O.gvalB (v := Uv (IntKind.u64.wrap (x32 * (bitand .u64 x12 4294967295)))) hf rfl rfl rfl hb34 rfl rfl (RunV.mul rfl rfl) ?_; clear hf a; intro a hf
        refine O.gvalB hf rfl rfl rfl hb34 rfl rfl (RunV.move rfl) ?_; clear hf a; intro a hf
        refine O.gvalB (v := Uv (IntKind.u64.wrap (4294967296 * x31))) hf rfl rfl rfl hb34 rfl rfl (RunV.mul rfl rfl) ?_; clear hf a; intro a hf
        refine O.gvalB hf rfl rfl rfl hb34 rfl rfl (RunV.move rfl) ?_; clear hf a; intro a hf
        refine O.gvalB (v := Uv (IntKind.u64.wrap ((IntKind.u64.wrap (4294967296 * x31)) + (bitand .u64 x17 4294967295)))) hf rfl rfl rfl hb34 rfl rfl (RunV.add rfl rfl) ?_; clear hf a; intro a hf
        refine O.gvalB (v := Bv (decide ((IntKind.u64.wrap (x32 * (bitand .u64 x12 4294967295))) > (IntKind.u64.wrap ((IntKind.u64.wrap (4294967296 * x31)) + (bitand .u64 x17 4294967295)) : Int)))) hf rfl rfl rfl hb34 rfl rfl (RunV.gtr rfl rfl) ?_; clear hf a; intro a hf
        refine O.val (v := Bv ((decide (x32 ≥ (4294967296 : Int))) || (decide ((IntKind.u64.wrap (x32 * (bitand .u64 x12 4294967295))) > (IntKind.u64.wrap ((IntKind.u64.wrap (4294967296 * x31)) + (bitand .u64 x17 4294967295)) : Int))))) hf rfl rfl rfl (RunV.pick rfl rfl rfl (by rw [hb34]; rfl)) ?_; clear hf a; intro a hf
        exact O.nil ⟨rfl, hf.to ⟨rfl, rfl, rfl, rfl, rfl, rfl, rfl, rfl, rfl, rfl, rfl, rfl, rfl, rfl, rfl, trivial⟩, hS⟩
      clear hf hS a; try clear w
      rintro a w ⟨hf, hS⟩
      refine O.nil ?_
      refine k_seq ?_
      refine W.if_ hf rfl (fun hc35 => ?_) (fun hc35 => ?_)
      ·replace hm := hm_t hm hc35
       refine W.skip ?_
       refine k_seq ?_
       refine W.block ?_
       refine W.seq ?_
       -- region 25
       refine W.regionL (l := [0, 1, 2]) rfl ?_
       refine O.val hf rfl rfl rfl (RunV.move rfl) ?_; clear hf a; intro a hf
       refine O.val (v := Uv (IntKind.u64.wrap (x32 - 1))) hf rfl rfl rfl (RunV.sub rfl rfl) ?_; clear hf a; intro a hf
       refine O.val hf rfl rfl rfl (RunV.assign rfl) ?_; clear hf a; intro a hf
       refine O.nil ?_
       refine k_seq ?_
       refine W.seq ?_
       -- region 26
       refine W.regionL (l := [0, 1, 2, 3]) rfl ?_
       refine O.val hf rfl rfl rfl (RunV.move rfl) ?_; clear hf a; intro a hf
       refine O.val hf rfl rfl rfl (RunV.move rfl) ?_; clear hf a; intro a hf
       refine O.val (v := Uv (IntKind.u64.wrap (x31 + (Int.fdiv x12 (2 ^ 32))))) hf rfl rfl rfl (RunV.add rfl rfl) ?_; clear hf a; intro a hf
       refine O.val hf rfl rfl rfl (RunV.assign rfl) ?_; clear hf a; intro a hf
       refine O.nil ?_
       refine k_seq ?_
       obtain ⟨x36, hx36, hm⟩ := hm_b hm
       rw [Option.some.inj hx36] at hf
       refine W.seq ?_
       -- region 27
       refine W.regionL (l := [0, 1]) rfl ?_
       refine O.val hf rfl rfl rfl (RunV.move rfl) ?_; clear hf a; intro a hf
       refine O.val (v := Bv (decide (x36 ≥ (4294967296 : Int)))) hf rfl rfl rfl (RunV.geq rfl rfl) ?_; clear hf a; intro a hf
       refine O.nil ?_
       refine k_seq ?_
       refine W.ifdI hf rfl (fun hc37 => ?_) (fun hc37 => ?_)
       ·replace hm := hm_p hm hc37
        refine W.exit ?_
        refine k_blk_ne rfl ?_
        refine k_then_exit ?_
        refine k_blk ?_
        exact k_then ⟨IntKind.u64.wrap (x32 - 1), hf.to ⟨rfl, rfl, rfl, rfl, rfl, rfl, rfl, rfl, trivial⟩, hS, hm⟩
       ·replace hm := hm_n hm hc37
        refine W.skip ?_
        refine k_blk_normal ?_
        refine k_then ⟨(k33, x36, IntKind.u64.wrap (x32 - 1)), ⟨hf.to ⟨rfl, rfl, rfl, rfl, rfl, rfl, rfl, rfl, rfl, rfl, rfl, trivial⟩, hS, ?_⟩, Nat.lt_succ_self _⟩
        rw [hrec33] at hm; exact hm
      ·replace hm := hm_f hm hc35
       refine W.exit ?_
       refine k_then_exit ?_
       refine k_then_exit ?_
       refine k_blk ?_
       exact k_then ⟨x32, hf.to ⟨rfl, rfl, rfl, rfl, rfl, rfl, rfl, rfl, trivial⟩, hS, hm⟩
     ·clear hf hS hm a; try clear w
      rintro a w ⟨x27, hf, hS, hm⟩
      unfold m_math_bits_Div64_j1 at hm
      refine W.seq ?_
      -- region 28
      refine W.regionL (l := [0, 1, 2, 3, 4, 5, 6, 7, 8, 9, 10, 11, 12, 13, 14, 15]) rfl ?_
      refine O.val hf rfl rfl rfl (RunV.move rfl) ?_; clear hf a; intro a hf
      refine O.val (v := Uv (IntKind.u64.wrap (x21 * 4294967296))) hf rfl rfl rfl (RunV.mul rfl rfl) ?_; clear hf a; intro a hf
      refine O.val hf rfl rfl rfl (RunV.move rfl) ?_; clear hf a; intro a hf
      refine O.val (v := Uv (IntKind.u64.wrap ((IntKind.u64.wrap (x21 * 4294967296)) + x27))) hf rfl rfl rfl (RunV.add rfl rfl) ?_; clear hf a; intro a hf
      refine O.val hf rfl rfl rfl (RunV.move rfl) ?_; clear hf a; intro a hf
      refine O.val (v := Uv (IntKind.u64.wrap (x23 * 4294967296))) hf rfl rfl rfl (RunV.mul rfl rfl) ?_; clear hf a; intro a hf
      refine O.val hf rfl rfl rfl (RunV.move rfl) ?_; clear hf a; intro a hf
      refine O.val (v := Uv (IntKind.u64.wrap ((IntKind.u64.wrap (x23 * 4294967296)) + (bitand .u64 x17 4294967295)))) hf rfl rfl rfl (RunV.add rfl rfl) ?_; clear hf a; intro a hf
      refine O.val hf rfl rfl rfl (RunV.move rfl) ?_; clear hf a; intro a hf
      refine O.val hf rfl rfl rfl (RunV.move rfl) ?_; clear hf a; intro a hf
      refine O.val (v := Uv (IntKind.u64.wrap (x27 * x12))) hf rfl rfl rfl (RunV.mul rfl rfl) ?_; clear hf a; intro a hf
      refine O.val (v := Uv (IntKind.u64.wrap ((IntKind.u64.wrap ((IntKind.u64.wrap (x23 * 4294967296)) + (bitand .u64 x17 4294967295))) - (IntKind.u64.wrap (x27 * x12))))) hf rfl rfl rfl (RunV.sub rfl rfl) ?_; clear hf a; intro a hf
      refine O.val hf rfl rfl rfl (RunV.move rfl) ?_; clear hf a; intro a hf
      obtain ⟨hg28, hm⟩ := hm_g hm
      refine O.val (v := Uv (Int.fdiv (IntKind.u64.wrap ((IntKind.u64.wrap ((IntKind.u64.wrap (x23 * 4294967296)) + (bitand .u64 x17 4294967295))) - (IntKind.u64.wrap (x27 * x12)))) (2 ^ (min (Int.toNat (IntKind.u64.wrap x10)) (IntKind.bits .u64))))) hf rfl rfl rfl (RunV.shr rfl rfl hg28) ?_; clear hf a; intro a hf
      refine O.val hf rfl rfl rfl (RunV.assign rfl) ?_; clear hf a; intro a hf
      refine O.val hf rfl rfl rfl (RunV.assign rfl) ?_; clear hf a; intro a hf
      refine O.nil ?_
      refine k_seq ?_
      replace hf : Fr a 135 [] [(6, Uv (IntKind.u64.wrap ((IntKind.u64.wrap (x21 * 4294967296)) + x27))), (7, Uv (Int.fdiv (IntKind.u64.wrap ((IntKind.u64.wrap ((IntKind.u64.wrap (x23 * 4294967296)) + (bitand .u64 x17 4294967295))) - (IntKind.u64.wrap (x27 * x12)))) (2 ^ (min (Int.toNat (IntKind.u64.wrap x10)) (IntKind.bits .u64)))))] := hf.to ⟨rfl, rfl, trivial⟩
      obtain ⟨x29, hx29, hm⟩ := hm_b hm
      rw [Option.some.inj hx29] at hf
      obtain ⟨x30, hx30, hm⟩ := hm_b hm
      rw [Option.some.inj hx30] at hf
      refine W.ret ?_
      obtain rfl := Option.some.inj hm
      refine post2 hf rfl (ResOK.tmp rfl) (ResOK.tmp rfl) ?_
      exact ⟨(), rfl, hS.noB⟩

def m_span_twin_up_3_j1 (F : Nat) (x10 : Int) : Option Int :=
  (some (IntKind.i64.wrap (if 4611686018427387904 < x10 then 4611686018427387904 else x10))).bind fun x11 => some x11
def m_span_twin_up_3 (F : Nat) (rec9001 : Int → Int → Int → Option Int) (x1 : Int) (x2 : Int) (x3 : Int) : Option Int :=
  if x1 < (0 : Int) then ((m_span_twin_neg F x1 x2).bind fun x6 => (rec9001 x6.1 x6.2 x3).bind fun x7 => some (IntKind.i64.wrap (0 - x7))) else (if (IntKind.u64.wrap x1) ≥ (x3 : Int) then (some 4611686018427387904) else ((m_math_bits_Div64 F (IntKind.u64.wrap x1) x2 x3).bind fun x9 => if ((decide (x9.1 < (4611686018427387904 : Int))) && (decide (x9.2 > (0 : Int)))) = true then (m_span_twin_up_3_j1 F (IntKind.u64.wrap (x9.1 + 1))) else (m_span_twin_up_3_j1 F x9.1)))
set_option maxHeartbeats 1000000 in
set_option maxRecDepth 8000 in
theorem m_span_twin_up_3_ok (F : Nat) (rec9001 : Int → Int → Int → Option Int) (hrec9001 : ∀ (x1 : Int) (x2 : Int) (x3 : Int) (w0 : World)  (r : Int) (hm : rec9001 x1 x2 x3 = some r), Ret Try.prog 30 #[.agg #[Iv x1, Uv x2], Uv x3] w0 (G := Unit) (fun _ => Iv r) (fun _ w => St w0 w noX [] [])) (x1 : Int) (x2 : Int) (x3 : Int) (w0 : World)  (r : Int) (hm : m_span_twin_up_3 F rec9001 x1 x2 x3 = some r) :
    Ret Try.prog 32 #[.agg #[Iv x1, Uv x2], Uv x3] w0 (G := Unit) (fun _ => Iv r) (fun _ w => St w0 w noX [] []) := by
 unfold m_span_twin_up_3 at hm
 refine ret_of_W (lv := [.agg #[Iv x1, Uv x2], Uv x3]) Try.func32 rfl rfl rfl (fun a hf => ?_)
 replace hf : Fr a 41 [] [(0, .agg #[Iv x1, Uv x2]), (1, Uv x3)] := hf
 have hS : St w0 w0 noX [] [] := St.borrow lendAll_nil
 refine W.seq ?_
 -- region 0
 refine W.regionL (l := [0, 1]) rfl ?_
 refine O.box (cs := #[Iv x1, Uv x2]) hf hS rfl rfl rfl rfl ?_
 clear hf hS a; intro b4 w a hb4 hS hf
 refine O.val hf rfl rfl rfl (RunV.assign rfl) ?_; clear hf a; intro a hf
 refine O.nil ?_
 refine k_seq ?_
 replace hf : Fr a 41 [] [(1, Uv x3), (2, Pv b4 0), (4, Iv 0)] := hf.to ⟨rfl, rfl, rfl, trivial⟩
 refine W.seq ?_
 refine W.seq ?_
 -- region 1
 refine W.regionL (l := [0, 1, 2]) rfl ?_
 refine O.val hf rfl rfl rfl (RunV.field T_field_64_0 rfl rfl) ?_; clear hf a; intro a hf
 refine O.val hf rfl rfl rfl (RunV.load1 T_agg_2 rfl (hS.ptAt (i := 0) rfl) rfl) ?_; clear hf a; intro a hf
 refine O.val (v := Bv (decide (x1 < (0 : Int)))) hf rfl rfl rfl (RunV.lss rfl rfl) ?_; clear hf a; intro a hf
 refine O.nil ?_
 refine k_seq ?_
 replace hf : Fr a 41 [] [(1, Uv x3), (2, Pv b4 0), (4, Iv 0), (9, Bv (decide (x1 < (0 : Int))))] := hf.to ⟨rfl, rfl, rfl, rfl, trivial⟩
 refine W.ifdI hf rfl (fun hc5 => ?_) (fun hc5 => ?_)
 ·replace hm := hm_p hm hc5
  refine W.seq ?_
  -- region 2
  refine W.regionL (l := [0, 1, 2, 3, 4, 5]) rfl ?_
  refine O.val hf rfl rfl rfl (RunV.loadN (cs' := #[Iv x1, Uv x2]) T_agg_64 T_size_64 rfl (hS.ptAt (i := 0) rfl) (Nat.le_of_ble_eq_true rfl) rfl) ?_; clear hf a; intro a hf
  obtain ⟨x6, hx6, hm⟩ := hm_b hm
  refine O.callR hf rfl rfl rfl (RunE.call (av := #[.agg #[Iv x1, Uv x2]]) C_ok_27 rfl rfl rfl) (m_span_twin_neg_ok F x1 x2 _ x6 hx6) ?_
  clear hf a; rintro _ w hS1 a hf
  replace hf : Fr a _ _ ((11, .agg #[Iv x6.1, Uv x6.2]) :: _) := hf
  replace hS := (hS.call hS1).eqM (N := [pt b4 (Cs #[Iv x1, Uv x2] 64)]) rfl
  clear hS1
  refine O.val hf rfl rfl rfl (RunV.move rfl) ?_; clear hf a; intro a hf
  obtain ⟨x7, hx7, hm⟩ := hm_b hm
  refine O.callR hf rfl rfl rfl (RunE.call (av := #[.agg #[Iv x6.1, Uv x6.2], Uv x3]) C_ok_30 rfl rfl rfl) (hrec9001 x6.1 x6.2 x3 _ x7 hx7) ?_
  clear hf a; rintro _ w hS1 a hf
  replace hf : Fr a _ _ ((13, Iv x7) :: _) := hf
  replace hS := (hS.call hS1).eqM (N := [pt b4 (Cs #[Iv x1, Uv x2] 64)]) rfl
  clear hS1
  refine O.val (v := Iv (IntKind.i64.wrap (0 - x7))) hf rfl rfl rfl (RunV.neg rfl) ?_; clear hf a; intro a hf
  refine O.val hf rfl rfl rfl (RunV.assign rfl) ?_; clear hf a; intro a hf
  refine O.nil ?_
  refine k_seq ?_
  replace hf : Fr a 41 [] [(1, Uv x3), (2, Pv b4 0), (4, Iv (IntKind.i64.wrap (0 - x7)))] := hf.to ⟨rfl, rfl, rfl, trivial⟩
  refine W.ret ?_
  refine k_then_ret ?_
  obtain rfl := Option.some.inj hm
  refine post1 hf rfl (ResOK.tmp rfl) ?_
  replace hS := hS.sub (N := []) (.cons _ .slnil)
  exact ⟨(), rfl, hS.noB⟩
 ·replace hm := hm_n hm hc5
  refine W.skip ?_
  refine k_seq ?_
  replace hf : Fr a 41 [] [(1, Uv x3), (2, Pv b4 0), (4, Iv 0)] := hf.to ⟨rfl, rfl, rfl, trivial⟩
  refine W.seq ?_
  refine W.seq ?_
  -- region 3
  refine W.regionL (l := [0, 1, 2, 3, 4]) rfl ?_
  refine O.val hf rfl rfl rfl (RunV.field T_field_64_0 rfl rfl) ?_; clear hf a; intro a hf
  refine O.val hf rfl rfl rfl (RunV.load1 T_agg_2 rfl (hS.ptAt (i := 0) rfl) rfl) ?_; clear hf a; intro a hf
  refine O.val (v := Uv (IntKind.u64.wrap x1)) hf rfl rfl rfl (RunV.conv T_und_2 T_int_62 rfl) ?_; clear hf a; intro a hf
  refine O.val hf rfl rfl rfl (RunV.move rfl) ?_; clear hf a; intro a hf
  refine O.val (v := Bv (decide ((IntKind.u64.wrap x1) ≥ (x3 : Int)))) hf rfl rfl rfl (RunV.geq rfl rfl) ?_; clear hf a; intro a hf
  refine O.nil ?_
  refine k_seq ?_
  replace hf : Fr a 41 [] [(1, Uv x3), (2, Pv b4 0), (4, Iv 0), (19, Bv (decide ((IntKind.u64.wrap x1) ≥ (x3 : Int))))] := hf.to ⟨rfl, rfl, rfl, rfl, trivial⟩
  refine W.ifdI hf rfl (fun hc8 => ?_) (fun hc8 => ?_)
  ·replace hm := hm_p hm hc8
   refine W.seq ?_
   -- region 4
   refine W.regionL (l := [0]) rfl ?_
   refine O.val hf rfl rfl rfl (RunV.assign rfl) ?_; clear hf a; intro a hf
   refine O.nil ?_
   refine k_seq ?_
   replace hf : Fr a 41 [] [(1, Uv x3), (2, Pv b4 0), (4, Iv 4611686018427387904)] := hf.to ⟨rfl, rfl, rfl, trivial⟩
   refine W.ret ?_
   refine k_then_ret ?_
   obtain rfl := Option.some.inj hm
   refine post1 hf rfl (ResOK.tmp rfl) ?_
   replace hS := hS.sub (N := []) (.cons _ .slnil)
   exact ⟨(), rfl, hS.noB⟩
  ·replace hm := hm_n hm hc8
   refine W.skip ?_
   refine k_seq ?_
   replace hf : Fr a 41 [] [(1, Uv x3), (2, Pv b4 0), (4, Iv 0)] := hf.to ⟨rfl, rfl, rfl, trivial⟩
   refine W.seq ?_
   -- region 5
   refine W.regionL (l := [0, 1, 2, 3, 4, 5, 6, 7, 8, 9, 10, 11]) rfl ?_
   refine O.val hf rfl rfl rfl (RunV.field T_field_64_0 rfl rfl) ?_; clear hf a; intro a hf
   refine O.val hf rfl rfl rfl (RunV.load1 T_agg_2 rfl (hS.ptAt (i := 0) rfl) rfl) ?_; clear hf a; intro a hf
   refine O.val (v := Uv (IntKind.u64.wrap x1)) hf rfl rfl rfl (RunV.conv T_und_2 T_int_62 rfl) ?_; clear hf a; intro a hf
   refine O.val hf rfl rfl rfl (RunV.field T_field_64_1 rfl rfl) ?_; clear hf a; intro a hf
   refine O.val hf rfl rfl rfl (RunV.load1 T_agg_62 rfl (hS.ptAt (i := 0) rfl) rfl) ?_; clear hf a; intro a hf
   refine O.val hf rfl rfl rfl (RunV.move rfl) ?_; clear hf a; intro a hf
   obtain ⟨x9, hx9, hm⟩ := hm_b hm
   refine O.callR hf rfl rfl rfl (RunE.call (av := #[Uv (IntKind.u64.wrap x1), Uv x2, Uv x3]) C_ok_43 rfl rfl rfl) (m_math_bits_Div64_ok F (IntKind.u64.wrap x1) x2 x3 _ x9 hx9) ?_
   clear hf a; rintro _ w hS1 a hf
   replace hf : Fr a _ _ ((27, .tuple #[Uv x9.1, Uv x9.2]) :: _) := hf
   replace hS := (hS.call hS1).eqM (N := [pt b4 (Cs #[Iv x1, Uv x2] 64)]) rfl
   clear hS1
   refine O.val hf rfl rfl rfl (RunV.move rfl) ?_; clear hf a; intro a hf
   refine O.val hf rfl rfl rfl (RunV.extract rfl rfl) ?_; clear hf a; intro a hf
   refine O.val hf rfl rfl rfl (RunV.extract rfl rfl) ?_; clear hf a; intro a hf
   refine O.val hf rfl rfl rfl (RunV.assign rfl) ?_; clear hf a; intro a hf
   refine O.val hf rfl rfl rfl (RunV.assign rfl) ?_; clear hf a; intro a hf
   refine O.nil ?_
   refine k_seq ?_
   replace hf : Fr a 41 [] [(4, Iv 0), (5, Uv x9.1), (6, Uv x9.2)] := hf.to ⟨rfl, rfl, rfl, trivial⟩
   refine W.seqR (fun a w => ∃ (x10 : Int), Fr a 41 [] [(4, Iv 0), (5, Uv x10)] ∧ St w0 w noX [] [] ∧ m_span_twin_up_3_j1 F x10 = some r) ?_ ?_
   ·refine W.seq ?_
    -- region 6
    refine W.regionL (l := [0, 1, 2, 3, 4, 5]) rfl ?_
    refine O.val hf rfl rfl rfl (RunV.move rfl) ?_; clear hf a; intro a hf
    refine O.val (v := Bv (decide (x9.1 < (4611686018427387904 : Int)))) hf rfl rfl rfl (RunV.lss rfl rfl) ?_; clear hf a; intro a hf
    refine O.val hf rfl rfl rfl (RunV.move rfl) ?_; clear hf a; intro a hf
    refine O.cutN (l₁ := [3, 4, 5]) (l₂ := _) (fun a w => Fr a 41 [] [(4, Iv 0), (5, Uv x9.1), (35, Bv ((decide (x9.1 < (4611686018427387904 : Int))) && (decide (x9.2 > (0 : Int)))))] ∧ St w0 w noX [] [pt b4 (Cs #[Iv x1, Uv x2] 64)]) rfl ?_ ?_
    ·rcases Bool.eq_false_or_eq_true (decide (x9.1 < (4611686018427387904 : Int))) with hb12 | hb12
     ·refine O.gvalB hf rfl rfl rfl hb12 rfl rfl (RunV.move rfl) ?_; clear hf a; intro a hf
      refine O.gvalB (v := Bv (decide (x9.2 > (0 : Int)))) hf rfl rfl rfl hb12 rfl rfl (RunV.gtr rfl rfl) ?_; clear hf a; intro a hf
      refine O.val (v := Bv ((decide (x9.1 < (4611686018427387904 : Int))) && (decide (x9.2 > (0 : Int))))) hf rfl rfl rfl (RunV.pick rfl rfl rfl (by rw [hb12]; rfl)) ?_; clear hf a; intro a hf
      exact O.nil ⟨rfl, hf.to ⟨rfl, rfl, rfl, trivial⟩, hS⟩
     ·refine O.skipB hf rfl rfl rfl hb12 rfl ?_; clear hf a; intro a hf
      refine O.skipB hf rfl rfl rfl hb12 rfl ?_; clear hf a; intro a hf
      refine O.val (v := Bv ((decide (x9.1 < (4611686018427387904 : Int))) && (decide (x9.2 > (0 : Int))))) hf rfl rfl rfl (RunV.pick rfl rfl rfl (by rw [hb12]; rfl)) ?_; clear hf a; intro a hf
      exact O.nil ⟨rfl, hf.to ⟨rfl, rfl, rfl, trivial⟩, hS⟩
    clear hf hS a; try clear w
    rintro a w ⟨hf, hS⟩
    refine O.nil ?_
    refine k_seq ?_
    refine W.if_ hf rfl (fun hc13 => ?_) (fun hc13 => ?_)
    ·replace hm := hm_t hm hc13
     -- region 7
     refine W.regionL (l := [0, 1, 2]) rfl ?_
     refine O.val hf rfl rfl rfl (RunV.move rfl) ?_; clear hf a; intro a hf
     refine O.val (v := Uv (IntKind.u64.wrap (x9.1 + 1))) hf rfl rfl rfl (RunV.add rfl rfl) ?_; clear hf a; intro a hf
     refine O.val hf rfl rfl rfl (RunV.assign rfl) ?_; clear hf a; intro a hf
     refine O.nil ?_
     replace hS := hS.sub (N := []) (.cons _ .slnil)
     exact k_then ⟨IntKind.u64.wrap (x9.1 + 1), hf.to ⟨rfl, rfl, trivial⟩, hS, hm⟩
    ·replace hm := hm_f hm hc13
     refine W.skip ?_
     replace hS := hS.sub (N := []) (.cons _ .slnil)
     exact k_then ⟨x9.1, hf.to ⟨rfl, rfl, trivial⟩, hS, hm⟩
   ·clear hf hS hm a; try clear w
    rintro a w ⟨x10, hf, hS, hm⟩
    unfold m_span_twin_up_3_j1 at hm
    refine W.seq ?_
    -- region 8
    refine W.regionL (l := [0, 1, 2, 3]) rfl ?_
    refine O.val hf rfl rfl rfl (RunV.move rfl) ?_; clear hf a; intro a hf
    refine O.val (v := Uv (if 4611686018427387904 < x10 then 4611686018427387904 else x10)) hf rfl rfl rfl (RunV.min rfl rfl) ?_; clear hf a; intro a hf
    refine O.val (v := Iv (IntKind.i64.wrap (if 4611686018427387904 < x10 then 4611686018427387904 else x10))) hf rfl rfl rfl (RunV.conv T_und_62 T_int_2 rfl) ?_; clear hf a; intro a hf
    refine O.val hf rfl rfl rfl (RunV.assign rfl) ?_; clear hf a; intro a hf
    refine O.nil ?_
    refine k_seq ?_
    replace hf : Fr a 41 [] [(4, Iv (IntKind.i64.wrap (if 4611686018427387904 < x10 then 4611686018427387904 else x10)))] := hf.to ⟨rfl, trivial⟩
    obtain ⟨x11, hx11, hm⟩ := hm_b hm
    rw [Option.some.inj hx11] at hf
    refine W.ret ?_
    obtain rfl := Option.some.inj hm
    refine post1 hf rfl (ResOK.tmp rfl) ?_
    exact ⟨(), rfl, hS.noB⟩

def m_span_twin_down_b (F : Nat) (rec9001 : Int → Int → Int → Option Int) (x1 : Int) (x2 : Int) (x3 : Int) : Option Int :=
  if x1 < (0 : Int) then ((m_span_twin_neg F x1 x2).bind fun x6 => (m_span_twin_up_3 F rec9001 x6.1 x6.2 x3).bind fun x7 => some (IntKind.i64.wrap (0 - x7))) else (if (IntKind.u64.wrap x1) ≥ (x3 : Int) then (some 4611686018427387904) else ((m_math_bits_Div64 F (IntKind.u64.wrap x1) x2 x3).bind fun x9 => (some (IntKind.i64.wrap (if 4611686018427387904 < x9.1 then 4611686018427387904 else x9.1))).bind fun x10 => some x10))
set_option maxHeartbeats 1000000 in
set_option maxRecDepth 8000 in
theorem m_span_twin_down_b_ok (F : Nat) (rec9001 : Int → Int → Int → Option Int) (hrec9001 : ∀ (x1 : Int) (x2 : Int) (x3 : Int) (w0 : World)  (r : Int) (hm : rec9001 x1 x2 x3 = some r), Ret Try.prog 30 #[.agg #[Iv x1, Uv x2], Uv x3] w0 (G := Unit) (fun _ => Iv r) (fun _ w => St w0 w noX [] [])) (x1 : Int) (x2 : Int) (x3 : Int) (w0 : World)  (r : Int) (hm : m_span_twin_down_b F rec9001 x1 x2 x3 = some r) :
    Ret Try.prog 30 #[.agg #[Iv x1, Uv x2], Uv x3] w0 (G := Unit) (fun _ => Iv r) (fun _ w => St w0 w noX [] []) := by
 unfold m_span_twin_down_b at hm
 refine ret_of_W (lv := [.agg #[Iv x1, Uv x2], Uv x3]) Try.func30 rfl rfl rfl (fun a hf => ?_)
 replace hf : Fr a 33 [] [(0, .agg #[Iv x1, Uv x2]), (1, Uv x3)] := hf
 have hS : St w0 w0 noX [] [] := St.borrow lendAll_nil
 refine W.seq ?_
 -- region 0
 refine W.regionL (l := [0, 1]) rfl ?_
 refine O.box (cs := #[Iv x1, Uv x2]) hf hS rfl rfl rfl rfl ?_
 clear hf hS a; intro b4 w a hb4 hS hf
 refine O.val hf rfl rfl rfl (RunV.assign rfl) ?_; clear hf a; intro a hf
 refine O.nil ?_
 refine k_seq ?_
 replace hf : Fr a 33 [] [(1, Uv x3), (2, Pv b4 0), (4, Iv 0)] := hf.to ⟨rfl, rfl, rfl, trivial⟩
 refine W.seq ?_
 refine W.seq ?_
 -- region 1
 refine W.regionL (l := [0, 1, 2]) rfl ?_
 refine O.val hf rfl rfl rfl (RunV.field T_field_64_0 rfl rfl) ?_; clear hf a; intro a hf
 refine O.val hf rfl rfl rfl (RunV.load1 T_agg_2 rfl (hS.ptAt (i := 0) rfl) rfl) ?_; clear hf a; intro a hf
 refine O.val (v := Bv (decide (x1 < (0 : Int)))) hf rfl rfl rfl (RunV.lss rfl rfl) ?_; clear hf a; intro a hf
 refine O.nil ?_
 refine k_seq ?_
 replace hf : Fr a 33 [] [(1, Uv x3), (2, Pv b4 0), (4, Iv 0), (9, Bv (decide (x1 < (0 : Int))))] := hf.to ⟨rfl, rfl, rfl, rfl, trivial⟩
 refine W.ifdI hf rfl (fun hc5 => ?_) (fun hc5 => ?_)
 ·replace hm := hm_p hm hc5
  refine W.seq ?_
  -- region 2
  refine W.regionL (l := [0, 1, 2, 3, 4, 5]) rfl ?_
  refine O.val hf rfl rfl rfl (RunV.loadN (cs' := #[Iv x1, Uv x2]) T_agg_64 T_size_64 rfl (hS.ptAt (i := 0) rfl) (Nat.le_of_ble_eq_true rfl) rfl) ?_; clear hf a; intro a hf
  obtain ⟨x6, hx6, hm⟩ := hm_b hm
  refine O.callR hf rfl rfl rfl (RunE.call (av := #[.agg #[Iv x1, Uv x2]]) C_ok_27 rfl rfl rfl) (m_span_twin_neg_ok F x1 x2 _ x6 hx6) ?_
  clear hf a; rintro _ w hS1 a hf
  replace hf : Fr a _ _ ((11, .agg #[Iv x6.1, Uv x6.2]) :: _) := hf
  replace hS := (hS.call hS1).eqM (N := [pt b4 (Cs #[Iv x1, Uv x2] 64)]) rfl
  clear hS1
  refine O.val hf rfl rfl rfl (RunV.move rfl) ?_; clear hf a; intro a hf
  obtain ⟨x7, hx7, hm⟩ := hm_b hm
  refine O.callR hf rfl rfl rfl (RunE.call (av := #[.agg #[Iv x6.1, Uv x6.2], Uv x3]) C_ok_32 rfl rfl rfl) (m_span_twin_up_3_ok F rec9001 hrec9001 x6.1 x6.2 x3 _ x7 hx7) ?_
  clear hf a; rintro _ w hS1 a hf
  replace hf : Fr a _ _ ((13, Iv x7) :: _) := hf
  replace hS := (hS.call hS1).eqM (N := [pt b4 (Cs #[Iv x1, Uv x2] 64)]) rfl
  clear hS1
  refine O.val (v := Iv (IntKind.i64.wrap (0 - x7))) hf rfl rfl rfl (RunV.neg rfl) ?_; clear hf a; intro a hf
  refine O.val hf rfl rfl rfl (RunV.assign rfl) ?_; clear hf a; intro a hf
  refine O.nil ?_
  refine k_seq ?_
  replace hf : Fr a 33 [] [(1, Uv x3), (2, Pv b4 0), (4, Iv (IntKind.i64.wrap (0 - x7)))] := hf.to ⟨rfl, rfl, rfl, trivial⟩
  refine W.ret ?_
  refine k_then_ret ?_
  obtain rfl := Option.some.inj hm
  refine post1 hf rfl (ResOK.tmp rfl) ?_
  replace hS := hS.sub (N := []) (.cons _ .slnil)
  exact ⟨(), rfl, hS.noB⟩
 ·replace hm := hm_n hm hc5
  refine W.skip ?_
  refine k_seq ?_
  replace hf : Fr a 33 [] [(1, Uv x3), (2, Pv b4 0), (4, Iv 0)] := hf.to ⟨rfl, rfl, rfl, trivial⟩
  refine W.seq ?_
  refine W.seq ?_
  -- region 3
  refine W.regionL (l := [0, 1, 2, 3, 4]) rfl ?_
  refine O.val hf rfl rfl rfl (RunV.field T_field_64_0 rfl rfl) ?_; clear hf a; intro a hf
  refine O.val hf rfl rfl rfl (RunV.load1 T_agg_2 rfl (hS.ptAt (i := 0) rfl) rfl) ?_; clear hf a; intro a hf
  refine O.val (v := Uv (IntKind.u64.wrap x1)) hf rfl rfl rfl (RunV.conv T_und_2 T_int_62 rfl) ?_; clear hf a; intro a hf
  refine O.val hf rfl rfl rfl (RunV.move rfl) ?_; clear hf a; intro a hf
  refine O.val (v := Bv (decide ((IntKind.u64.wrap x1) ≥ (x3 : Int)))) hf rfl rfl rfl (RunV.geq rfl rfl) ?_; clear hf a; intro a hf
  refine O.nil ?_
  refine k_seq ?_
  replace hf : Fr a 33 [] [(1, Uv x3), (2, Pv b4 0), (4, Iv 0), (19, Bv (decide ((IntKind.u64.wrap x1) ≥ (x3 : Int))))] := hf.to ⟨rfl, rfl, rfl, rfl, trivial⟩
  refine W.ifdI hf rfl (fun hc8 => ?_) (fun hc8 => ?_)
  ·replace hm := hm_p hm hc8
   refine W.seq ?_
   -- region 4
   refine W.regionL (l := [0]) rfl ?_
   refine O.val hf rfl rfl rfl (RunV.assign rfl) ?_; clear hf a; intro a hf
   refine O.nil ?_
   refine k_seq ?_
   replace hf : Fr a 33 [] [(1, Uv x3), (2, Pv b4 0), (4, Iv 4611686018427387904)] := hf.to ⟨rfl, rfl, rfl, trivial⟩
   refine W.ret ?_
   refine k_then_ret ?_
   obtain rfl := Option.some.inj hm
   refine post1 hf rfl (ResOK.tmp rfl) ?_
   replace hS := hS.sub (N := []) (.cons _ .slnil)
   exact ⟨(), rfl, hS.noB⟩
  ·replace hm := hm_n hm hc8
   refine W.skip ?_
   refine k_seq ?_
   replace hf : Fr a 33 [] [(1, Uv x3), (2, Pv b4 0), (4, Iv 0)] := hf.to ⟨rfl, rfl, rfl, trivial⟩
   refine W.seq ?_
   -- region 5
   refine W.regionL (l := [0, 1, 2, 3, 4, 5, 6, 7, 8, 9, 10, 11]) rfl ?_
   refine O.val hf rfl rfl rfl (RunV.field T_field_64_0 rfl rfl) ?_; clear hf a; intro a hf
   refine O.val hf rfl rfl rfl (RunV.load1 T_agg_2 rfl (hS.ptAt (i := 0) rfl) rfl) ?_; clear hf a; intro a hf
   refine O.val (v := Uv (IntKind.u64.wrap x1)) hf rfl rfl rfl (RunV.conv T_und_2 T_int_62 rfl) ?_; clear hf a; intro a hf
   refine O.val hf rfl rfl rfl (RunV.field T_field_64_1 rfl rfl) ?_; clear hf a; intro a hf
   refine O.val hf rfl rfl rfl (RunV.load1 T_agg_62 rfl (hS.ptAt (i := 0) rfl) rfl) ?_; clear hf a; intro a hf
   refine O.val hf rfl rfl rfl (RunV.move rfl) ?_; clear hf a; intro a hf
   obtain ⟨x9, hx9, hm⟩ := hm_b hm
   refine O.callR hf rfl rfl rfl (RunE.call (av := #[Uv (IntKind.u64.wrap x1), Uv x2, Uv x3]) C_ok_43 rfl rfl rfl) (m_math_bits_Div64_ok F (IntKind.u64.wrap x1) x2 x3 _ x9 hx9) ?_
   clear hf a; rintro _ w hS1 a hf
   replace hf : Fr a _ _ ((27, .tuple #[Uv x9.1, Uv x9.2]) :: _) := hf
   replace hS := (hS.call hS1).eqM (N := [pt b4 (Cs #[Iv x1, Uv x2] 64)]) rfl
   clear hS1
   refine O.val hf rfl rfl rfl (RunV.move rfl) ?_; clear hf a; intro a hf
   refine O.val hf rfl rfl rfl (RunV.extract rfl rfl) ?_; clear hf a; intro a hf
   refine O.val hf rfl rfl rfl (RunV.extract rfl rfl) ?_; clear hf a; intro a hf
   refine O.val hf rfl rfl rfl (RunV.assign rfl) ?_; clear hf a; intro a hf
   refine O.val hf rfl rfl rfl (RunV.assign rfl) ?_; clear hf a; intro a hf
   refine O.nil ?_
   refine k_seq ?_
   replace hf : Fr a 33 [] [(4, Iv 0), (5, Uv x9.1)] := hf.to ⟨rfl, rfl, trivial⟩
   refine W.seq ?_
   -- region 6
   refine W.regionL (l := [0, 1, 2, 3]) rfl ?_
   refine O.val hf rfl rfl rfl (RunV.move rfl) ?_; clear hf a; intro a hf
   refine O.val (v := Uv (if 4611686018427387904 < x9.1 then 4611686018427387904 else x9.1)) hf rfl rfl rfl (RunV.min rfl rfl) ?_; clear hf a; intro a hf
   refine O.val (v := Iv (IntKind.i64.wrap (if 4611686018427387904 < x9.1 then 4611686018427387904 else x9.1))) hf rfl rfl rfl (RunV.conv T_und_62 T_int_2 rfl) ?_; clear hf a; intro a hf
   refine O.val hf rfl rfl rfl (RunV.assign rfl) ?_; clear hf a; intro a hf
   refine O.nil ?_
   refine k_seq ?_
   replace hf : Fr a 33 [] [(4, Iv (IntKind.i64.wrap (if 4611686018427387904 < x9.1 then 4611686018427387904 else x9.1)))] := hf.to ⟨rfl, trivial⟩
   obtain ⟨x10, hx10, hm⟩ := hm_b hm
   rw [Option.some.inj hx10] at hf
   refine W.ret ?_
   obtain rfl := Option.some.inj hm
   refine post1 hf rfl (ResOK.tmp rfl) ?_
   replace hS := hS.sub (N := []) (.cons _ .slnil)
   exact ⟨(), rfl, hS.noB⟩
def m_span_twin_down_r (F : Nat)  : Nat → Int → Int → Int → Option Int
  | 0, _, _, _ => none
  | n + 1, x1, x2, x3 => m_span_twin_down_b F (m_span_twin_down_r F n) x1 x2 x3
def m_span_twin_down (F : Nat)  (x1 : Int) (x2 : Int) (x3 : Int) : Option Int := m_span_twin_down_r F F x1 x2 x3
theorem m_span_twin_down_rok (F : Nat)   : ∀ n : Nat, ∀ (x1 : Int) (x2 : Int) (x3 : Int) (w0 : World)  (r : Int) (hm : (m_span_twin_down_r F n) x1 x2 x3 = some r), Ret Try.prog 30 #[.agg #[Iv x1, Uv x2], Uv x3] w0 (G := Unit) (fun _ => Iv r) (fun _ w => St w0 w noX [] []) := by
  intro n
  induction n with
  | zero => intros; rename_i hm; exact absurd (show none = some _ from hm) (by simp)
  | succ n ih => intro x1 x2 x3 w0  r hm; exact m_span_twin_down_b_ok F (m_span_twin_down_r F n) ih x1 x2 x3 w0 r hm
theorem m_span_twin_down_ok (F : Nat)   (x1 : Int) (x2 : Int) (x3 : Int) (w0 : World)  (r : Int) (hm : m_span_twin_down F x1 x2 x3 = some r) :
    Ret Try.prog 30 #[.agg #[Iv x1, Uv x2], Uv x3] w0 (G := Unit) (fun _ => Iv r) (fun _ w => St w0 w noX [] []) :=
  m_span_twin_down_rok F F x1 x2 x3 w0 r hm

def m_span_greatest_j1 (F : Nat) (x8 : Int) (x9 : Int) : Option (Int × Int) :=
  some (x8, x9)
def m_span_greatest_j2 (F : Nat) (x10 : Int) (x11 : Int) (x13 : Int) (x14 : Bool) : Option (Int × Int) :=
  m_span_greatest_j1 F x10 x11
def m_span_greatest (F : Nat)  (x1 : Int) (x2 : Int) (x4 : Int) (x5 : Int) : Option (Int × Int) :=
  (m_span_twin_cmp F x4 x5 x1 x2).bind fun x16 => if x16 > (0 : Int) then (m_span_greatest_j2 F x4 x5 x16 (decide (x16 > (0 : Int)))) else (m_span_greatest_j2 F x1 x2 x16 (decide (x16 > (0 : Int))))
set_option maxHeartbeats 1000000 in
set_option maxRecDepth 8000 in
theorem m_span_greatest_ok (F : Nat)   (x1 : Int) (x2 : Int) (b3 : Nat) (x4 : Int) (x5 : Int) (w0 : World) (h_b3 : w0.heap[b3]? = some (.cells #[Iv x4, Uv x5] 64 (0, 0))) (r : Int × Int) (hm : m_span_greatest F x1 x2 x4 x5 = some r) :
    Ret Try.prog 31 #[.agg #[Iv x1, Uv x2], .slice (some ⟨b3, 0, none⟩) 1 1] w0 (G := Unit) (fun _ => .agg #[Iv r.1, Uv r.2]) (fun _ w => St w0 w noX [] []) := by
 unfold m_span_greatest at hm
 refine ret_of_W (lv := [.agg #[Iv x1, Uv x2], .slice (some ⟨b3, 0, none⟩) 1 1]) Try.func31 rfl rfl rfl (fun a hf => ?_)
 replace hf : Fr a 20 [] [(0, .agg #[Iv x1, Uv x2]), (1, .slice (some ⟨b3, 0, none⟩) 1 1)] := hf
 have hS : St w0 w0 noX [pt b3 (Cs #[Iv x4, Uv x5] 64)] [] := St.borrow (lendAll_cons (lendPt h_b3) lendAll_nil)
 refine W.seq ?_
 -- region 0
 refine W.regionL (l := [0, 1]) rfl ?_
 refine O.box (cs := #[Iv x1, Uv x2]) hf hS rfl rfl rfl rfl ?_
 clear hf hS a; intro b6 w a hb6 hS hf
 refine O.alloc (cs := #[Iv 0, Uv 0]) hf hS rfl rfl T_zero_64 rfl ?_
 clear hf hS a; intro b7 w a hb7 hS hf
 refine O.nil ?_
 refine k_seq ?_
 replace hf : Fr a 20 [] [(1, .slice (some ⟨b3, 0, none⟩) 1 1), (2, Pv b6 0), (4, Pv b7 0)] := hf.to ⟨rfl, rfl, rfl, trivial⟩
 refine W.seqR (fun a w => ∃ (x8 : Int) (x9 : Int), Fr a 20 [] [(2, Pv b6 0), (4, Pv b7 0)] ∧ St w0 w noX [pt b3 (Cs #[Iv x4, Uv x5] 64)] [pt b6 (Cs #[Iv x8, Uv x9] 64), pt b7 (Cs #[Iv 0, Uv 0] 64)] ∧ m_span_greatest_j1 F x8 x9 = some r) ?_ ?_
 ·refine W.seq ?_
  -- region 1
  refine W.regionL (l := [0, 1, 2]) rfl ?_
  refine O.val hf rfl rfl rfl (RunV.move rfl) ?_; clear hf a; intro a hf
  refine O.val (v := Iv 1) hf rfl rfl rfl (RunV.len (e := 64) (by simpa using T_elem_82) rfl) ?_; clear hf a; intro a hf
  refine O.val hf rfl rfl rfl (RunV.move rfl) ?_; clear hf a; intro a hf
  refine O.nil ?_
  refine k_seq ?_
  replace hf : Fr a 20 [] [(2, Pv b6 0), (4, Pv b7 0), (7, .slice (some ⟨b3, 0, none⟩) 1 1), (8, Iv 1), (9, Iv 0)] := hf.to ⟨rfl, rfl, rfl, rfl, rfl, trivial⟩
  refine W.block ?_
  refine W.loopH (LH.step ?_)
  refine W.seq ?_
  -- region 2
  refine W.regionL (l := [0]) rfl ?_
  refine O.val (v := Bv true) hf rfl rfl rfl (RunV.lss (p := 0) (q := 1) rfl rfl) ?_; clear hf a; intro a hf
  refine O.nil ?_
  refine k_seq ?_
  refine W.seq ?_
  refine W.if_tt hf rfl ?_
  refine W.skip ?_
  refine k_seq ?_
  refine W.seqR (fun a w => ∃ (x10 : Int) (x11 : Int) (b12 : Nat) (x13 : Int) (x14 : Bool), Fr a 20 [] [(2, Pv b6 0), (4, Pv b7 0), (6, Pv b12 0), (7, .slice (some ⟨b3, 0, none⟩) 1 1), (8, Iv 1), (9, Iv 0), (10, Bv true), (11, Pv b3 0), (12, .agg #[Iv x4, Uv x5]), (13, .agg #[Iv x4, Uv x5]), (14, .agg #[Iv x1, Uv x2]), (15, Iv x13), (16, Bv x14)] ∧ St w0 w noX [pt b3 (Cs #[Iv x4, Uv x5] 64)] [pt b6 (Cs #[Iv x10, Uv x11] 64), pt b7 (Cs #[Iv 0, Uv 0] 64), pt b12 (Cs #[Iv x4, Uv x5] 64)] ∧ m_span_greatest_j2 F x10 x11 x13 x14 = some r) ?_ ?_
  ·refine W.block ?_
   refine W.seq ?_
   -- region 3
   refine W.regionL (l := [0, 1, 2, 3]) rfl ?_
   refine O.val hf rfl rfl rfl (RunV.indexSl (j := 0) (m := 0) T_elem_82 T_size_64 rfl rfl rfl (by decide) rfl) ?_; clear hf a; intro a hf
   refine O.val hf rfl rfl rfl (RunV.loadN (cs' := #[Iv x4, Uv x5]) T_agg_64 T_size_64 rfl (hS.bptAt (i := 0) rfl) (Nat.le_of_ble_eq_true rfl) rfl) ?_; clear hf a; intro a hf
   refine O.alloc (cs := #[Iv 0, Uv 0]) hf hS rfl rfl T_zero_64 rfl ?_
   clear hf hS a; intro b15 w a hb15 hS hf
   refine O.store (j := 0) (cs' := #[Iv x4, Uv x5]) (M' := [pt b15 (Cs #[Iv x4, Uv x5] 64), pt b7 (Cs #[Iv 0, Uv 0] 64), pt b6 (Cs #[Iv x1, Uv x2] 64)]) hf hS rfl rfl rfl T_size_64 rfl rfl rfl (Nat.le_of_ble_eq_true rfl) rfl rfl ?_
   clear hS; intro w hS
   refine O.nil ?_
   refine k_seq ?_
   refine W.seq ?_
   -- region 4
   refine W.regionL (l := [0, 1, 2, 3]) rfl ?_
   refine O.val hf rfl rfl rfl (RunV.loadN (cs' := #[Iv x4, Uv x5]) T_agg_64 T_size_64 rfl (hS.ptAt (i := 0) rfl) (Nat.le_of_ble_eq_true rfl) rfl) ?_; clear hf a; intro a hf
   refine O.val hf rfl rfl rfl (RunV.loadN (cs' := #[Iv x1, Uv x2]) T_agg_64 T_size_64 rfl (hS.ptAt (i := 2) rfl) (Nat.le_of_ble_eq_true rfl) rfl) ?_; clear hf a; intro a hf
   obtain ⟨x16, hx16, hm⟩ := hm_b hm
   refine O.callR hf rfl rfl rfl (RunE.call (av := #[.agg #[Iv x4, Uv x5], .agg #[Iv x1, Uv x2]]) C_ok_42 rfl rfl rfl) (m_span_twin_cmp_ok F x4 x5 x1 x2 _ x16 hx16) ?_
   clear hf a; rintro _ w hS1 a hf
   replace hf : Fr a _ _ ((15, Iv x16) :: _) := hf
   replace hS := (hS.call hS1).eqM (N := [pt b15 (Cs #[Iv x4, Uv x5] 64), pt b7 (Cs #[Iv 0, Uv 0] 64), pt b6 (Cs #[Iv x1, Uv x2] 64)]) rfl
   clear hS1
   refine O.val (v := Bv (decide (x16 > (0 : Int)))) hf rfl rfl rfl (RunV.gtr rfl rfl) ?_; clear hf a; intro a hf
   refine O.nil ?_
   refine k_seq ?_
   refine W.ifdI hf rfl (fun hc17 => ?_) (fun hc17 => ?_)
   ·replace hm := hm_p hm hc17
    -- region 5
    refine W.regionL (l := [0, 1]) rfl ?_
    refine O.val hf rfl rfl rfl (RunV.loadN (cs' := #[Iv x4, Uv x5]) T_agg_64 T_size_64 rfl (hS.ptAt (i := 0) rfl) (Nat.le_of_ble_eq_true rfl) rfl) ?_; clear hf a; intro a hf
    refine O.store (j := 2) (cs' := #[Iv x4, Uv x5]) (M' := [pt b15 (Cs #[Iv x4, Uv x5] 64), pt b7 (Cs #[Iv 0, Uv 0] 64), pt b6 (Cs #[Iv x4, Uv x5] 64)]) hf hS rfl rfl rfl T_size_64 rfl rfl rfl (Nat.le_of_ble_eq_true rfl) rfl rfl ?_
    clear hS; intro w hS
    refine O.nil ?_
    refine k_blk_normal ?_
    replace hS := hS.front (i := 1) (M' := [pt b7 (Cs #[Iv 0, Uv 0] 64), pt b15 (Cs #[Iv x4, Uv x5] 64), pt b6 (Cs #[Iv x4, Uv x5] 64)]) rfl rfl
    replace hS := hS.front (i := 2) (M' := [pt b6 (Cs #[Iv x4, Uv x5] 64), pt b7 (Cs #[Iv 0, Uv 0] 64), pt b15 (Cs #[Iv x4, Uv x5] 64)]) rfl rfl
    exact k_then ⟨x4, x5, b15, x16, decide (x16 > (0 : Int)), hf.to ⟨rfl, rfl, rfl, rfl, rfl, rfl, rfl, rfl, rfl, rfl, rfl, rfl, rfl, trivial⟩, hS, hm⟩
   ·replace hm := hm_n hm hc17
    refine W.skip ?_
    refine k_blk_normal ?_
    replace hS := hS.front (i := 1) (M' := [pt b7 (Cs #[Iv 0, Uv 0] 64), pt b15 (Cs #[Iv x4, Uv x5] 64), pt b6 (Cs #[Iv x1, Uv x2] 64)]) rfl rfl
    replace hS := hS.front (i := 2) (M' := [pt b6 (Cs #[Iv x1, Uv x2] 64), pt b7 (Cs #[Iv 0, Uv 0] 64), pt b15 (Cs #[Iv x4, Uv x5] 64)]) rfl rfl
    exact k_then ⟨x1, x2, b15, x16, decide (x16 > (0 : Int)), hf.to ⟨rfl, rfl, rfl, rfl, rfl, rfl, rfl, rfl, rfl, rfl, rfl, rfl, rfl, trivial⟩, hS, hm⟩
  ·clear hf hS hm a; try clear w
   rintro a w ⟨x10, x11, b12, x13, x14, hf, hS, hm⟩
   unfold m_span_greatest_j2 at hm
   -- region 6
   refine W.regionL (l := [0, 1]) rfl ?_
   refine O.val (v := Iv 1) hf rfl rfl rfl (RunV.add (p := 0) (q := 1) rfl rfl) ?_; clear hf a; intro a hf
   refine O.val hf rfl rfl rfl (RunV.move rfl) ?_; clear hf a; intro a hf
   refine O.nil ?_
   refine k_then (LH.step ?_)
   refine W.seq ?_
   -- region 2
   refine W.regionL (l := [0]) rfl ?_
   refine O.val (v := Bv false) hf rfl rfl rfl (RunV.lss (p := 1) (q := 1) rfl rfl) ?_; clear hf a; intro a hf
   refine O.nil ?_
   refine k_seq ?_
   refine W.seq ?_
   refine W.if_ff hf rfl ?_
   refine W.exit ?_
   refine k_then_exit ?_
   refine k_then_exit ?_
   refine k_blk ?_
   replace hS := hS.sub (N := [pt b6 (Cs #[Iv x10, Uv x11] 64), pt b7 (Cs #[Iv 0, Uv 0] 64)]) (.cons_cons _ (.cons_cons _ (.cons _ .slnil)))
   exact k_then ⟨x10, x11, hf.to ⟨rfl, rfl, trivial⟩, hS, hm⟩
 ·clear hf hS hm a; try clear w
  rintro a w ⟨x8, x9, hf, hS, hm⟩
  unfold m_span_greatest_j1 at hm
  refine W.seq ?_
  -- region 7
  refine W.regionL (l := [0, 1]) rfl ?_
  refine O.val hf rfl rfl rfl (RunV.loadN (cs' := #[Iv x8, Uv x9]) T_agg_64 T_size_64 rfl (hS.ptAt (i := 0) rfl) (Nat.le_of_ble_eq_true rfl) rfl) ?_; clear hf a; intro a hf
  refine O.store (j := 1) (cs' := #[Iv x8, Uv x9]) (M' := [pt b6 (Cs #[Iv x8, Uv x9] 64), pt b7 (Cs #[Iv x8, Uv x9] 64)]) hf hS rfl rfl rfl T_size_64 rfl rfl rfl (Nat.le_of_ble_eq_true rfl) rfl rfl ?_
  clear hS; intro w hS
  refine O.nil ?_
  refine k_seq ?_
  replace hf : Fr a 20 [] [(4, Pv b7 0)] := hf.to ⟨rfl, trivial⟩
  refine W.ret ?_
  obtain rfl := Option.some.inj hm
  refine post1 hf rfl (ResOK.cellN (cs' := #[Iv x8, Uv x9]) rfl T_agg_64 T_size_64 (hS.ptAt (i := 1) rfl) (Nat.le_of_ble_eq_true rfl) rfl) ?_
  replace hS := hS.sub (N := []) (.cons _ (.cons _ .slnil))
  exact ⟨(), rfl, hS.noB⟩

def m_span_twin_up_4_j1 (F : Nat) (x10 : Int) : Option Int :=
  (some (IntKind.i64.wrap (if 4611686018427387904 < x10 then 4611686018427387904 else x10))).bind fun x11 => some x11
def m_span_twin_up_4 (F : Nat)  (x1 : Int) (x2 : Int) (x3 : Int) : Option Int :=
  if x1 < (0 : Int) then ((m_span_twin_neg F x1 x2).bind fun x6 => (m_span_twin_down F x6.1 x6.2 x3).bind fun x7 => some (IntKind.i64.wrap (0 - x7))) else (if (IntKind.u64.wrap x1) ≥ (x3 : Int) then (some 4611686018427387904) else ((m_math_bits_Div64 F (IntKind.u64.wrap x1) x2 x3).bind fun x9 => if ((decide (x9.1 < (4611686018427387904 : Int))) && (decide (x9.2 > (0 : Int)))) = true then (m_span_twin_up_4_j1 F (IntKind.u64.wrap (x9.1 + 1))) else (m_span_twin_up_4_j1 F x9.1)))
set_option maxHeartbeats 1000000 in
set_option maxRecDepth 8000 in
theorem m_span_twin_up_4_ok (F : Nat)   (x1 : Int) (x2 : Int) (x3 : Int) (w0 : World)  (r : Int) (hm : m_span_twin_up_4 F x1 x2 x3 = some r) :
    Ret Try.prog 32 #[.agg #[Iv x1, Uv x2], Uv x3] w0 (G := Unit) (fun _ => Iv r) (fun _ w => St w0 w noX [] []) := by
 unfold m_span_twin_up_4 at hm
 refine ret_of_W (lv := [.agg #[Iv x1, Uv x2], Uv x3]) Try.func32 rfl rfl rfl (fun a hf => ?_)
 replace hf : Fr a 41 [] [(0, .agg #[Iv x1, Uv x2]), (1, Uv x3)] := hf
 have hS : St w0 w0 noX [] [] := St.borrow lendAll_nil
 refine W.seq ?_
 -- region 0
 refine W.regionL (l := [0, 1]) rfl ?_
 refine O.box (cs := #[Iv x1, Uv x2]) hf hS rfl rfl rfl rfl ?_
 clear hf hS a; intro b4 w a hb4 hS hf
 refine O.val hf rfl rfl rfl (RunV.assign rfl) ?_; clear hf a; intro a hf
 refine O.nil ?_
 refine k_seq ?_
 replace hf : Fr a 41 [] [(1, Uv x3), (2, Pv b4 0), (4, Iv 0)] := hf.to ⟨rfl, rfl, rfl, trivial⟩
 refine W.seq ?_
 refine W.seq ?_
 -- region 1
 refine W.regionL (l := [0, 1, 2]) rfl ?_
 refine O.val hf rfl rfl rfl (RunV.field T_field_64_0 rfl rfl) ?_; clear hf a; intro a hf
 refine O.val hf rfl rfl rfl (RunV.load1 T_agg_2 rfl (hS.ptAt (i := 0) rfl) rfl) ?_; clear hf a; intro a hf
 refine O.val (v := Bv (decide (x1 < (0 : Int)))) hf rfl rfl rfl (RunV.lss rfl rfl) ?_; clear hf a; intro a hf
 refine O.nil ?_
 refine k_seq ?_
 replace hf : Fr a 41 [] [(1, Uv x3), (2, Pv b4 0), (4, Iv 0), (9, Bv (decide (x1 < (0 : Int))))] := hf.to ⟨rfl, rfl, rfl, rfl, trivial⟩
 refine W.ifdI hf rfl (fun hc5 => ?_) (fun hc5 => ?_)
 ·replace hm := hm_p hm hc5
  refine W.seq ?_
  -- region 2
  refine W.regionL (l := [0, 1, 2, 3, 4, 5]) rfl ?_
  refine O.val hf rfl rfl rfl (RunV.loadN (cs' := #[Iv x1, Uv x2]) T_agg_64 T_size_64 rfl (hS.ptAt (i := 0) rfl) (Nat.le_of_ble_eq_true rfl) rfl) ?_; clear hf a; intro a hf
  obtain ⟨x6, hx6, hm⟩ := hm_b hm
  refine O.callR hf rfl rfl rfl (RunE.call (av := #[.agg #[Iv x1, Uv x2]]) C_ok_27 rfl rfl rfl) (m_span_twin_neg_ok F x1 x2 _ x6 hx6) ?_
  clear hf a; rintro _ w hS1 a hf
  replace hf : Fr a _ _ ((11, .agg #[Iv x6.1, Uv x6.2]) :: _) := hf
  replace hS := (hS.call hS1).eqM (N := [pt b4 (Cs #[Iv x1, Uv x2] 64)]) rfl
  clear hS1
  refine O.val hf rfl rfl rfl (RunV.move rfl) ?_; clear hf a; intro a hf
  obtain ⟨x7, hx7, hm⟩ := hm_b hm
  refine O.callR hf rfl rfl rfl (RunE.call (av := #[.agg #[Iv x6.1, Uv x6.2], Uv x3]) C_ok_30 rfl rfl rfl) (m_span_twin_down_ok F x6.1 x6.2 x3 _ x7 hx7) ?_
  clear hf a; rintro _ w hS1 a hf
  replace hf : Fr a _ _ ((13, Iv x7) :: _) := hf
  replace hS := (hS.call hS1).eqM (N := [pt b4 (Cs #[Iv x1, Uv x2] 64)]) rfl
  clear hS1
  refine O.val (v := Iv (IntKind.i64.wrap (0 - x7))) hf rfl rfl rfl (RunV.neg rfl) ?_; clear hf a; intro a hf
  refine O.val hf rfl rfl rfl (RunV.assign rfl) ?_; clear hf a; intro a hf
  refine O.nil ?_
  refine k_seq ?_
  replace hf : Fr a 41 [] [(1, Uv x3), (2, Pv b4 0), (4, Iv (IntKind.i64.wrap (0 - x7)))] := hf.to ⟨rfl, rfl, rfl, trivial⟩
  refine W.ret ?_
  refine k_then_ret ?_
  obtain rfl := Option.some.inj hm
  refine post1 hf rfl (ResOK.tmp rfl) ?_
  replace hS := hS.sub (N := []) (.cons _ .slnil)
  exact ⟨(), rfl, hS.noB⟩
 ·replace hm := hm_n hm hc5
  refine W.skip ?_
  refine k_seq ?_
  replace hf : Fr a 41 [] [(1, Uv x3), (2, Pv b4 0), (4, Iv 0)] := hf.to ⟨rfl, rfl, rfl, trivial⟩
  refine W.seq ?_
  refine W.seq ?_
  -- region 3
  refine W.regionL (l := [0, 1, 2, 3, 4]) rfl ?_
  refine O.val hf rfl rfl rfl (RunV.field T_field_64_0 rfl rfl) ?_; clear hf a; intro a hf
  refine O.val hf rfl rfl rfl (RunV.load1 T_agg_2 rfl (hS.ptAt (i := 0) rfl) rfl) ?_; clear hf a; intro a hf
  refine O.val (v := Uv (IntKind.u64.wrap x1)) hf rfl rfl rfl (RunV.conv T_und_2 T_int_62 rfl) ?_; clear hf a; intro a hf
  refine O.val hf rfl rfl rfl (RunV.move rfl) ?_; clear hf a; intro a hf
  refine O.val (v := Bv (decide ((IntKind.u64.wrap x1) ≥ (x3 : Int)))) hf rfl rfl rfl (RunV.geq rfl rfl) ?_; clear hf a; intro a hf
  refine O.nil ?_
  refine k_seq ?_
  replace hf : Fr a 41 [] [(1, Uv x3), (2, Pv b4 0), (4, Iv 0), (19, Bv (decide ((IntKind.u64.wrap x1) ≥ (x3 : Int))))] := hf.to ⟨rfl, rfl, rfl, rfl, trivial⟩
  refine W.ifdI hf rfl (fun hc8 => ?_) (fun hc8 => ?_)
  ·replace hm := hm_p hm hc8
   refine W.seq ?_
   -- region 4
   refine W.regionL (l := [0]) rfl ?_
   refine O.val hf rfl rfl rfl (RunV.assign rfl) ?_; clear hf a; intro a hf
   refine O.nil ?_
   refine k_seq ?_
   replace hf : Fr a 41 [] [(1, Uv x3), (2, Pv b4 0), (4, Iv 4611686018427387904)] := hf.to ⟨rfl, rfl, rfl, trivial⟩
   refine W.ret ?_
   refine k_then_ret ?_
   obtain rfl := Option.some.inj hm
   refine post1 hf rfl (ResOK.tmp rfl) ?_
   replace hS := hS.sub (N := []) (.cons _ .slnil)
   exact ⟨(), rfl, hS.noB⟩
  ·replace hm := hm_n hm hc8
   refine W.skip ?_
   refine k_seq ?_
   replace hf : Fr a 41 [] [(1, Uv x3), (2, Pv b4 0), (4, Iv 0)] := hf.to ⟨rfl, rfl, rfl, trivial⟩
   refine W.seq ?_
   -- region 5
   refine W.regionL (l := [0, 1, 2, 3, 4, 5, 6, 7, 8, 9, 10, 11]) rfl ?_
   refine O.val hf rfl rfl rfl (RunV.field T_field_64_0 rfl rfl) ?_; clear hf a; intro a hf
   refine O.val hf rfl rfl rfl (RunV.load1 T_agg_2 rfl (hS.ptAt (i := 0) rfl) rfl) ?_; clear hf a; intro a hf
   refine O.val (v := Uv (IntKind.u64.wrap x1)) hf rfl rfl rfl (RunV.conv T_und_2 T_int_62 rfl) ?_; clear hf a; intro a hf
   refine O.val hf rfl rfl rfl (RunV.field T_field_64_1 rfl rfl) ?_; clear hf a; intro a hf
   refine O.val hf rfl rfl rfl (RunV.load1 T_agg_62 rfl (hS.ptAt (i := 0) rfl) rfl) ?_; clear hf a; intro a hf
   refine O.val hf rfl rfl rfl (RunV.move rfl) ?_; clear hf a; intro a hf
   obtain ⟨x9, hx9, hm⟩ := hm_b hm
   refine O.callR hf rfl rfl rfl (RunE.call (av := #[Uv (IntKind.u64.wrap x1), Uv x2, Uv x3]) C_ok_43 rfl rfl rfl) (m_math_bits_Div64_ok F (IntKind.u64.wrap x1) x2 x3 _ x9 hx9) ?_
   clear hf a; rintro _ w hS1 a hf
   replace hf : Fr a _ _ ((27, .tuple #[Uv x9.1, Uv x9.2]) :: _) := hf
   replace hS := (hS.call hS1).eqM (N := [pt b4 (Cs #[Iv x1, Uv x2] 64)]) rfl
   clear hS1
   refine O.val hf rfl rfl rfl (RunV.move rfl) ?_; clear hf a; intro a hf
   refine O.val hf rfl rfl rfl (RunV.extract rfl rfl) ?_; clear hf a; intro a hf
   refine O.val hf rfl rfl rfl (RunV.extract rfl rfl) ?_; clear hf a; intro a hf
   refine O.val hf rfl rfl rfl (RunV.assign rfl) ?_; clear hf a; intro a hf
   refine O.val hf rfl rfl rfl (RunV.assign rfl) ?_; clear hf a; intro a hf
   refine O.nil ?_
   refine k_seq ?_
   replace hf : Fr a 41 [] [(4, Iv 0), (5, Uv x9.1), (6, Uv x9.2)] := hf.to ⟨rfl, rfl, rfl, trivial⟩
   refine W.seqR (fun a w => ∃ (x10 : Int), Fr a 41 [] [(4, Iv 0), (5, Uv x10)] ∧ St w0 w noX [] [] ∧ m_span_twin_up_4_j1 F x10 = some r) ?_ ?_
   ·refine W.seq ?_
    -- region 6
    refine W.regionL (l := [0, 1, 2, 3, 4, 5]) rfl ?_
    refine O.val hf rfl rfl rfl (RunV.move rfl) ?_; clear hf a; intro a hf
    refine O.val (v := Bv (decide (x9.1 < (4611686018427387904 : Int)))) hf rfl rfl rfl (RunV.lss rfl rfl) ?_; clear hf a; intro a hf
    refine O.val hf rfl rfl rfl (RunV.move rfl) ?_; clear hf a; intro a hf
    refine O.cutN (l₁ := [3, 4, 5]) (l₂ := _) (fun a w => Fr a 41 [] [(4, Iv 0), (5, Uv x9.1), (35, Bv ((decide (x9.1 < (4611686018427387904 : Int))) && (decide (x9.2 > (0 : Int)))))] ∧ St w0 w noX [] [pt b4 (Cs #[Iv x1, Uv x2] 64)]) rfl ?_ ?_
    ·rcases Bool.eq_false_or_eq_true (decide (x9.1 < (4611686018427387904 : Int))) with hb12 | hb12
     ·refine O.gvalB hf rfl rfl rfl hb12 rfl rfl (RunV.move rfl) ?_; clear hf a; intro a hf
      refine O.gvalB (v := Bv (decide (x9.2 > (0 : Int)))) hf rfl rfl rfl hb12 rfl rfl (RunV.gtr rfl rfl) ?_; clear hf a; intro a hf
      refine O.val (v := Bv ((decide (x9.1 < (4611686018427387904 : Int))) && (decide (x9.2 > (0 : Int))))) hf rfl rfl rfl (RunV.pick rfl rfl rfl (by rw [hb12]; rfl)) ?_; clear hf a; intro a hf
      exact O.nil ⟨rfl, hf.to ⟨rfl, rfl, rfl, trivial⟩, hS⟩
     ·refine O.skipB hf rfl rfl rfl hb12 rfl ?_; clear hf a; intro a hf
      refine O.skipB hf rfl rfl rfl hb12 rfl ?_; clear hf a; intro a hf
      refine O.val (v := Bv ((decide (x9.1 < (4611686018427387904 : Int))) && (decide (x9.2 > (0 : Int))))) hf rfl rfl rfl (RunV.pick rfl rfl rfl (by rw [hb12]; rfl)) ?_; clear hf a; intro a hf
      exact O.nil ⟨rfl, hf.to ⟨rfl, rfl, rfl, trivial⟩, hS⟩
    clear hf hS a; try clear w
    rintro a w ⟨hf, hS⟩
    refine O.nil ?_
    refine k_seq ?_
    refine W.if_ hf rfl (fun hc13 => ?_) (fun hc13 => ?_)
    ·replace hm := hm_t hm hc13
     -- region 7
     refine W.regionL (l := [0, 1, 2]) rfl ?_
     refine O.val hf rfl rfl rfl (RunV.move rfl) ?_; clear hf a; intro a hf
     refine O.val (v := Uv (IntKind.u64.wrap (x9.1 + 1))) hf rfl rfl rfl (RunV.add rfl rfl) ?_; clear hf a; intro a hf
     refine O.val hf rfl rfl rfl (RunV.assign rfl) ?_; clear hf a; intro a hf
     refine O.nil ?_
     replace hS := hS.sub (N := []) (.cons _ .slnil)
     exact k_then ⟨IntKind.u64.wrap (x9.1 + 1), hf.to ⟨rfl, rfl, trivial⟩, hS, hm⟩
    ·replace hm := hm_f hm hc13
     refine W.skip ?_
     replace hS := hS.sub (N := []) (.cons _ .slnil)
     exact k_then ⟨x9.1, hf.to ⟨rfl, rfl, trivial⟩, hS, hm⟩
   ·clear hf hS hm a; try clear w
    rintro a w ⟨x10, hf, hS, hm⟩
    unfold m_span_twin_up_4_j1 at hm
    refine W.seq ?_
    -- region 8
    refine W.regionL (l := [0, 1, 2, 3]) rfl ?_
    refine O.val hf rfl rfl rfl (RunV.move rfl) ?_; clear hf a; intro a hf
    refine O.val (v := Uv (if 4611686018427387904 < x10 then 4611686018427387904 else x10)) hf rfl rfl rfl (RunV.min rfl rfl) ?_; clear hf a; intro a hf
    refine O.val (v := Iv (IntKind.i64.wrap (if 4611686018427387904 < x10 then 4611686018427387904 else x10))) hf rfl rfl rfl (RunV.conv T_und_62 T_int_2 rfl) ?_; clear hf a; intro a hf
    refine O.val hf rfl rfl rfl (RunV.assign rfl) ?_; clear hf a; intro a hf
    refine O.nil ?_
    refine k_seq ?_
    replace hf : Fr a 41 [] [(4, Iv (IntKind.i64.wrap (if 4611686018427387904 < x10 then 4611686018427387904 else x10)))] := hf.to ⟨rfl, trivial⟩
    obtain ⟨x11, hx11, hm⟩ := hm_b hm
    rw [Option.some.inj hx11] at hf
    refine W.ret ?_
    obtain rfl := Option.some.inj hm
    refine post1 hf rfl (ResOK.tmp rfl) ?_
    exact ⟨(), rfl, hS.noB⟩

def m_span_made (F : Nat)  (x1 : Int) (x2 : Int) : Option (Int × Int × Int) :=
  if ((decide (x1 < (-2305843009213693952 : Int))) || (decide (x2 > (2305843009213693952 : Int)))) = true then (some (0, 0, 16)) else (some (x1, x2, 0))
set_option maxHeartbeats 1000000 in
set_option maxRecDepth 8000 in
theorem m_span_made_ok (F : Nat)   (x1 : Int) (x2 : Int) (w0 : World)  (r : Int × Int × Int) (hm : m_span_made F x1 x2 = some r) :
    Ret Try.prog 28 #[Iv x1, Iv x2] w0 (G := Unit) (fun _ => .tuple #[.agg #[Iv r.1, Iv r.2.1], Iv r.2.2]) (fun _ w => St w0 w noX [] []) := by
 unfold m_span_made at hm
 refine ret_of_W (lv := [Iv x1, Iv x2]) Try.func28 rfl rfl rfl (fun a hf => ?_)
 replace hf : Fr a 16 [] [(0, Iv x1), (1, Iv x2)] := hf
 have hS : St w0 w0 noX [] [] := St.borrow lendAll_nil
 refine W.seq ?_
 -- region 0
 refine W.regionL (l := [0, 1]) rfl ?_
 refine O.alloc (cs := #[Iv 0, Iv 0]) hf hS rfl rfl T_zero_23 rfl ?_
 clear hf hS a; intro b3 w a hb3 hS hf
 refine O.val hf rfl rfl rfl (RunV.assign rfl) ?_; clear hf a; intro a hf
 refine O.nil ?_
 refine k_seq ?_
 refine W.seq ?_
 refine W.seq ?_
 -- region 1
 refine W.regionL (l := [0, 1, 2, 3, 4, 5]) rfl ?_
 refine O.val hf rfl rfl rfl (RunV.move rfl) ?_; clear hf a; intro a hf
 refine O.val (v := Bv (decide (x1 < (-2305843009213693952 : Int)))) hf rfl rfl rfl (RunV.lss rfl rfl) ?_; clear hf a; intro a hf
 refine O.val hf rfl rfl rfl (RunV.move rfl) ?_; clear hf a; intro a hf
 refine O.cutN (l₁ := [3, 4, 5]) (l₂ := _) (fun a w => Fr a 16 [] [(0, Iv x1), (1, Iv x2), (4, Pv b3 0), (5, Iv 0), (11, Bv ((decide (x1 < (-2305843009213693952 : Int))) || (decide (x2 > (2305843009213693952 : Int)))))] ∧ St w0 w noX [] [pt b3 (Cs #[Iv 0, Iv 0] 23)]) rfl ?_ ?_
 ·rcases Bool.eq_false_or_eq_true (decide (x1 < (-2305843009213693952 : Int))) with hb4 | hb4
  ·refine O.skipB hf rfl rfl rfl hb4 rfl ?_; clear hf a; intro a hf
   refine O.skipB hf rfl rfl rfl hb4 rfl ?_; clear hf a; intro a hf
   refine O.val (v := Bv ((decide (x1 < (-2305843009213693952 : Int))) || (decide (x2 > (2305843009213693952 : Int))))) hf rfl rfl rfl (RunV.pick rfl rfl rfl (by rw [hb4]; rfl)) ?_; clear hf a; intro a hf
   exact O.nil ⟨rfl, hf.to ⟨rfl, rfl, rfl, rfl, rfl, trivial⟩, hS⟩
  ·refine O.gvalB hf rfl rfl rfl hb4 rfl rfl (RunV.move rfl) ?_; clear hf a; intro a hf
   refine O.gvalB (v := Bv (decide (x2 > (2305843009213693952 : Int)))) hf rfl rfl rfl hb4 rfl rfl (RunV.gtr rfl rfl) ?_; clear hf a; intro a hf
   refine O.val (v := Bv ((decide (x1 < (-2305843009213693952 : Int))) || (decide (x2 > (2305843009213693952 : Int))))) hf rfl rfl rfl (RunV.pick rfl rfl rfl (by rw [hb4]; rfl)) ?_; clear hf a; intro a hf
   exact O.nil ⟨rfl, hf.to ⟨rfl, rfl, rfl, rfl, rfl, trivial⟩, hS⟩
 clear hf hS a; try clear w
 rintro a w ⟨hf, hS⟩
 refine O.nil ?_
 refine k_seq ?_
 refine W.if_ hf rfl (fun hc5 => ?_) (fun hc5 => ?_)
 ·replace hm := hm_t hm hc5
  refine W.seq ?_
  -- region 2
  refine W.regionL (l := [0, 1, 2]) rfl ?_
  refine O.val (v := .agg #[Iv 0, Iv 0]) hf rfl rfl rfl (RunV.buildS (cs' := #[Iv 0, Iv 0]) T_places_23 T_zero_23 rfl (by kernel_rfl)) ?_; clear hf a; intro a hf
  refine O.store (j := 0) (cs' := #[Iv 0, Iv 0]) (M' := [pt b3 (Cs #[Iv 0, Iv 0] 23)]) hf hS rfl rfl rfl T_size_23 rfl rfl rfl (Nat.le_of_ble_eq_true rfl) rfl rfl ?_
  clear hS; intro w hS
  refine O.val hf rfl rfl rfl (RunV.assign rfl) ?_; clear hf a; intro a hf
  refine O.nil ?_
  refine k_seq ?_
  replace hf : Fr a 16 [] [(0, Iv x1), (1, Iv x2), (4, Pv b3 0), (5, Iv 16)] := hf.to ⟨rfl, rfl, rfl, rfl, trivial⟩
  refine W.ret ?_
  refine k_then_ret ?_
  obtain rfl := Option.some.inj hm
  refine post2 hf rfl (ResOK.cellN (cs' := #[Iv 0, Iv 0]) rfl T_agg_23 T_size_23 (hS.ptAt (i := 0) rfl) (Nat.le_of_ble_eq_true rfl) rfl) (ResOK.tmp rfl) ?_
  replace hS := hS.sub (N := []) (.cons _ .slnil)
  exact ⟨(), rfl, hS.noB⟩
 ·replace hm := hm_f hm hc5
  refine W.skip ?_
  refine k_seq ?_
  replace hf : Fr a 16 [] [(0, Iv x1), (1, Iv x2), (4, Pv b3 0), (5, Iv 0)] := hf.to ⟨rfl, rfl, rfl, rfl, trivial⟩
  refine W.seq ?_
  -- region 3
  refine W.regionL (l := [0, 1, 2, 3, 4]) rfl ?_
  refine O.val hf rfl rfl rfl (RunV.move rfl) ?_; clear hf a; intro a hf
  refine O.val hf rfl rfl rfl (RunV.move rfl) ?_; clear hf a; intro a hf
  refine O.val (v := .agg #[Iv x1, Iv x2]) hf rfl rfl rfl (RunV.buildS (cs' := #[Iv x1, Iv x2]) T_places_23 T_zero_23 rfl (by kernel_rfl)) ?_; clear hf a; intro a hf
  refine O.store (j := 0) (cs' := #[Iv x1, Iv x2]) (M' := [pt b3 (Cs #[Iv x1, Iv x2] 23)]) hf hS rfl rfl rfl T_size_23 rfl rfl rfl (Nat.le_of_ble_eq_true rfl) rfl rfl ?_
  clear hS; intro w hS
  refine O.val hf rfl rfl rfl (RunV.assign rfl) ?_; clear hf a; intro a hf
  refine O.nil ?_
  refine k_seq ?_
  replace hf : Fr a 16 [] [(4, Pv b3 0), (5, Iv 0)] := hf.to ⟨rfl, rfl, trivial⟩
  refine W.ret ?_
  obtain rfl := Option.some.inj hm
  refine post2 hf rfl (ResOK.cellN (cs' := #[Iv x1, Iv x2]) rfl T_agg_23 T_size_23 (hS.ptAt (i := 0) rfl) (Nat.le_of_ble_eq_true rfl) rfl) (ResOK.tmp rfl) ?_
  replace hS := hS.sub (N := []) (.cons _ .slnil)
  exact ⟨(), rfl, hS.noB⟩

def m_span_Scale_j1 (F : Nat) (x15 : Int) (x16 : Int) (x17 : Int) (x18 : Int) (x19 : Int) : Option (Int × Int × Int) :=
  (m_span_least F x15 x16 x17 x18).bind fun x21 => (m_span_twin_down F x21.1 x21.2 x19).bind fun x22 => (m_span_greatest F x15 x16 x17 x18).bind fun x24 => (m_span_twin_up_4 F x24.1 x24.2 x19).bind fun x25 => (m_span_made F x22 x25).bind fun x26 => some x26
def m_span_Scale (F : Nat)  (x1 : Int) (x2 : Int) (x3 : Int) (x4 : Int) : Option (Int × Int × Int) :=
  (m_span_check F x1 x2).bind fun x8 => if x8 ≠ (0 : Int) then (some (0, 0, x8)) else (if x4 = (0 : Int) then (some (0, 0, 18)) else ((m_span_times F x1 x3).bind fun x11 => (m_span_times F x2 x3).bind fun x12 => if x4 < (0 : Int) then ((m_span_twin_neg F x11.1 x11.2).bind fun x28 => (m_span_twin_neg F x12.1 x12.2).bind fun x29 => m_span_Scale_j1 F x28.1 x28.2 x29.1 x29.2 (IntKind.u64.wrap (0 - (IntKind.u64.wrap x4)))) else (m_span_Scale_j1 F x11.1 x11.2 x12.1 x12.2 (IntKind.u64.wrap x4))))
end Go.Proofs.Ytplgfmincflodaa
