/- Part of a proof: walks printed by a program. -/
import Derived.Test.YtipedambeemdaaaBestN
import Derived.Test.YtipedambeemdaaaSL25
import Derived.Test.YtipedambeemdaaaLay
import Derived.Test.YtipedambeemdaaaProg
set_option linter.unusedVariables false
set_option linter.unusedSimpArgs false
namespace Go.Proofs.Ytipedambeemdaaa
open Go Go.SL
def strc1 : ByteArray := ⟨((([0, 1, 2, 2, 3, 3, 3, 3, 4, 4, 4, 4, 4, 4, 4, 4, 5, 5, 5, 5, 5, 5, 5, 5, 5, 5, 5, 5, 5, 5, 5, 5, 6, 6, 6, 6, 6, 6, 6, 6, 6, 6, 6, 6, 6, 6, 6, 6, 6, 6, 6, 6, 6, 6, 6, 6, 6, 6, 6, 6, 6, 6, 6, 6] ++ [7, 7, 7, 7, 7, 7, 7, 7, 7, 7, 7, 7, 7, 7, 7, 7, 7, 7, 7, 7, 7, 7, 7, 7, 7, 7, 7, 7, 7, 7, 7, 7, 7, 7, 7, 7, 7, 7, 7, 7, 7, 7, 7, 7, 7, 7, 7, 7, 7, 7, 7, 7, 7, 7, 7, 7, 7, 7, 7, 7, 7, 7, 7, 7]) ++ ([8, 8, 8, 8, 8, 8, 8, 8, 8, 8, 8, 8, 8, 8, 8, 8, 8, 8, 8, 8, 8, 8, 8, 8, 8, 8, 8, 8, 8, 8, 8, 8, 8, 8, 8, 8, 8, 8, 8, 8, 8, 8, 8, 8, 8, 8, 8, 8, 8, 8, 8, 8, 8, 8, 8, 8, 8, 8, 8, 8, 8, 8, 8, 8] ++ [8, 8, 8, 8, 8, 8, 8, 8, 8, 8, 8, 8, 8, 8, 8, 8, 8, 8, 8, 8, 8, 8, 8, 8, 8, 8, 8, 8, 8, 8, 8, 8, 8, 8, 8, 8, 8, 8, 8, 8, 8, 8, 8, 8, 8, 8, 8, 8, 8, 8, 8, 8, 8, 8, 8, 8, 8, 8, 8, 8, 8, 8, 8, 8])) : List UInt8).toArray⟩
theorem C_ok_10 : callOK Try.prog 10 = true := by kernel_rfl
theorem C_ok_104 : callOK Try.prog 104 = true := by kernel_rfl
theorem C_ok_105 : callOK Try.prog 105 = true := by kernel_rfl
theorem C_ok_106 : callOK Try.prog 106 = true := by kernel_rfl
theorem C_ok_107 : callOK Try.prog 107 = true := by kernel_rfl
theorem C_ok_15 : callOK Try.prog 15 = true := by kernel_rfl
theorem C_ok_16 : callOK Try.prog 16 = true := by kernel_rfl
theorem C_ok_17 : callOK Try.prog 17 = true := by kernel_rfl
theorem C_ok_18 : callOK Try.prog 18 = true := by kernel_rfl
theorem C_ok_19 : callOK Try.prog 19 = true := by kernel_rfl
theorem C_ok_20 : callOK Try.prog 20 = true := by kernel_rfl
theorem C_ok_21 : callOK Try.prog 21 = true := by kernel_rfl
theorem C_ok_22 : callOK Try.prog 22 = true := by kernel_rfl
theorem C_ok_23 : callOK Try.prog 23 = true := by kernel_rfl
theorem C_ok_24 : callOK Try.prog 24 = true := by kernel_rfl
theorem C_ok_25 : callOK Try.prog 25 = true := by kernel_rfl
theorem C_ok_26 : callOK Try.prog 26 = true := by kernel_rfl
theorem C_ok_27 : callOK Try.prog 27 = true := by kernel_rfl
theorem C_ok_28 : callOK Try.prog 28 = true := by kernel_rfl
theorem C_ok_29 : callOK Try.prog 29 = true := by kernel_rfl
theorem C_ok_30 : callOK Try.prog 30 = true := by kernel_rfl
theorem C_ok_31 : callOK Try.prog 31 = true := by kernel_rfl
theorem C_ok_32 : callOK Try.prog 32 = true := by kernel_rfl
theorem C_ok_33 : callOK Try.prog 33 = true := by kernel_rfl
theorem C_ok_46 : callOK Try.prog 46 = true := by kernel_rfl
theorem C_ok_47 : callOK Try.prog 47 = true := by kernel_rfl
theorem C_ok_48 : callOK Try.prog 48 = true := by kernel_rfl
theorem C_ok_49 : callOK Try.prog 49 = true := by kernel_rfl
theorem C_ok_50 : callOK Try.prog 50 = true := by kernel_rfl
theorem C_ok_51 : callOK Try.prog 51 = true := by kernel_rfl
theorem C_ok_52 : callOK Try.prog 52 = true := by kernel_rfl
theorem C_ok_53 : callOK Try.prog 53 = true := by kernel_rfl
theorem C_ok_54 : callOK Try.prog 54 = true := by kernel_rfl
theorem C_ok_55 : callOK Try.prog 55 = true := by kernel_rfl
theorem C_ok_56 : callOK Try.prog 56 = true := by kernel_rfl
theorem C_ok_57 : callOK Try.prog 57 = true := by kernel_rfl
theorem C_ok_58 : callOK Try.prog 58 = true := by kernel_rfl
theorem C_ok_59 : callOK Try.prog 59 = true := by kernel_rfl
theorem C_ok_60 : callOK Try.prog 60 = true := by kernel_rfl
theorem C_ok_61 : callOK Try.prog 61 = true := by kernel_rfl
theorem C_ok_62 : callOK Try.prog 62 = true := by kernel_rfl
theorem C_ok_63 : callOK Try.prog 63 = true := by kernel_rfl
theorem C_ok_7 : callOK Try.prog 7 = true := by kernel_rfl
theorem C_ok_74 : callOK Try.prog 74 = true := by kernel_rfl
theorem C_ok_77 : callOK Try.prog 77 = true := by kernel_rfl
theorem C_ok_78 : callOK Try.prog 78 = true := by kernel_rfl
theorem C_ok_79 : callOK Try.prog 79 = true := by kernel_rfl
theorem C_ok_8 : callOK Try.prog 8 = true := by kernel_rfl
theorem C_ok_80 : callOK Try.prog 80 = true := by kernel_rfl
theorem C_ok_81 : callOK Try.prog 81 = true := by kernel_rfl
theorem C_ok_82 : callOK Try.prog 82 = true := by kernel_rfl
theorem C_ok_83 : callOK Try.prog 83 = true := by kernel_rfl
theorem C_ok_84 : callOK Try.prog 84 = true := by kernel_rfl
theorem C_ok_85 : callOK Try.prog 85 = true := by kernel_rfl
theorem C_ok_86 : callOK Try.prog 86 = true := by kernel_rfl
theorem C_ok_9 : callOK Try.prog 9 = true := by kernel_rfl
theorem P_mixed : Try.prog.follows .mixedOrders = true := by kernel_rfl
theorem T_agg_108 : tAgg Try.prog 108 = some false := by kernel_rfl
theorem T_agg_2 : tAgg Try.prog 2 = some false := by kernel_rfl
theorem T_agg_22 : tAgg Try.prog 22 = some false := by kernel_rfl
theorem T_agg_24 : tAgg Try.prog 24 = some true := by kernel_rfl
theorem T_agg_27 : tAgg Try.prog 27 = some false := by kernel_rfl
theorem T_agg_28 : tAgg Try.prog 28 = some false := by kernel_rfl
theorem T_agg_3 : tAgg Try.prog 3 = some false := by kernel_rfl
theorem T_agg_33 : tAgg Try.prog 33 = some true := by kernel_rfl
theorem T_agg_37 : tAgg Try.prog 37 = some false := by kernel_rfl
theorem T_agg_39 : tAgg Try.prog 39 = some true := by kernel_rfl
theorem T_agg_4 : tAgg Try.prog 4 = some false := by kernel_rfl
theorem T_agg_58 : tAgg Try.prog 58 = some false := by kernel_rfl
theorem T_agg_59 : tAgg Try.prog 59 = some false := by kernel_rfl
theorem T_agg_61 : tAgg Try.prog 61 = some true := by kernel_rfl
theorem T_agg_63 : tAgg Try.prog 63 = some true := by kernel_rfl
theorem T_agg_98 : tAgg Try.prog 98 = some false := by kernel_rfl
theorem T_arr_63 : tArr Try.prog 63 = some (2, 2) := by kernel_rfl
theorem T_bool_4 : Try.prog.underlying 4 = some .bool := by kernel_rfl
theorem T_bytes_3 : tBytes Try.prog 3 = some 8 := by kernel_rfl
theorem T_bytes_33 : tBytes Try.prog 33 = some 16 := by kernel_rfl
theorem T_bytes_98 : tBytes Try.prog 98 = some 4 := by kernel_rfl
theorem T_elem_124 : tElem Try.prog 124 = some 39 := by kernel_rfl
theorem T_elem_22 : tElem Try.prog 22 = some 24 := by kernel_rfl
theorem T_elem_27 : tElem Try.prog 27 = some 33 := by kernel_rfl
theorem T_elem_37 : tElem Try.prog 37 = some 98 := by kernel_rfl
theorem T_elem_49 : tElem Try.prog 49 = some 3 := by kernel_rfl
theorem T_eqg_33 : Try.prog.eqGuardType Try.prog.depth 33 = false := by kernel_rfl
theorem T_field_107_0 : tField Try.prog 107 0 = some 0 := by kernel_rfl
theorem T_field_107_1 : tField Try.prog 107 1 = some 1 := by kernel_rfl
theorem T_field_24_0 : tField Try.prog 24 0 = some 0 := by kernel_rfl
theorem T_field_24_1 : tField Try.prog 24 1 = some 1 := by kernel_rfl
theorem T_field_24_2 : tField Try.prog 24 2 = some 2 := by kernel_rfl
theorem T_field_24_3 : tField Try.prog 24 3 = some 3 := by kernel_rfl
theorem T_field_33_0 : tField Try.prog 33 0 = some 0 := by kernel_rfl
theorem T_field_33_1 : tField Try.prog 33 1 = some 1 := by kernel_rfl
theorem T_field_39_0 : tField Try.prog 39 0 = some 0 := by kernel_rfl
theorem T_field_39_1 : tField Try.prog 39 1 = some 1 := by kernel_rfl
theorem T_field_61_0 : tField Try.prog 61 0 = some 0 := by kernel_rfl
theorem T_field_61_1 : tField Try.prog 61 1 = some 1 := by kernel_rfl
theorem T_field_61_2 : tField Try.prog 61 2 = some 2 := by kernel_rfl
theorem T_field_67_0 : tField Try.prog 67 0 = some 0 := by kernel_rfl
theorem T_fs_33 : tFs Try.prog 33 = some [(3, 0), (2, 1)] := by kernel_rfl
theorem T_int_108 : tInt Try.prog 108 = some .u64 := by kernel_rfl
theorem T_int_2 : tInt Try.prog 2 = some .i64 := by kernel_rfl
theorem T_int_3 : tInt Try.prog 3 = some .i64 := by kernel_rfl
theorem T_int_5 : tInt Try.prog 5 = some .u8 := by kernel_rfl
theorem T_int_98 : tInt Try.prog 98 = some .u32 := by kernel_rfl
theorem T_memo_58 : tMemo Try.prog 58 = some (63, .agg #[.slice none 0 0, Iv 0, Iv 0]) := by kernel_rfl
theorem T_places_24 : tPlaces Try.prog 24 = some #[(0, 1), (1, 1), (2, 1), (3, 1)] := by kernel_rfl
theorem T_places_33 : tPlaces Try.prog 33 = some #[(0, 1), (1, 1)] := by kernel_rfl
theorem T_places_39 : tPlaces Try.prog 39 = some #[(0, 1), (1, 1)] := by kernel_rfl
theorem T_places_61 : tPlaces Try.prog 61 = some #[(0, 1), (1, 1), (2, 1)] := by kernel_rfl
theorem T_size_108 : tSize Try.prog 108 = some 1 := by kernel_rfl
theorem T_size_2 : tSize Try.prog 2 = some 1 := by kernel_rfl
theorem T_size_24 : tSize Try.prog 24 = some 4 := by kernel_rfl
theorem T_size_28 : tSize Try.prog 28 = some 1 := by kernel_rfl
theorem T_size_3 : tSize Try.prog 3 = some 1 := by kernel_rfl
theorem T_size_33 : tSize Try.prog 33 = some 2 := by kernel_rfl
theorem T_size_37 : tSize Try.prog 37 = some 1 := by kernel_rfl
theorem T_size_39 : tSize Try.prog 39 = some 2 := by kernel_rfl
theorem T_size_58 : tSize Try.prog 58 = some 1 := by kernel_rfl
theorem T_size_59 : tSize Try.prog 59 = some 1 := by kernel_rfl
theorem T_size_61 : tSize Try.prog 61 = some 3 := by kernel_rfl
theorem T_size_63 : tSize Try.prog 63 = some 2 := by kernel_rfl
theorem T_size_98 : tSize Try.prog 98 = some 1 := by kernel_rfl
theorem T_string_9 : Try.prog.underlying 9 = some .string := by kernel_rfl
theorem T_und_108 : (Try.prog.underlying 108).isSome = true := by kernel_rfl
theorem T_und_2 : (Try.prog.underlying 2).isSome = true := by kernel_rfl
theorem T_und_5 : (Try.prog.underlying 5).isSome = true := by kernel_rfl
theorem T_und_98 : (Try.prog.underlying 98).isSome = true := by kernel_rfl
theorem T_zero_108 : tZero Try.prog 108 = some (Uv 0) := by kernel_rfl
theorem T_zero_24 : tZero Try.prog 24 = some (.agg #[Iv 0, Iv 0, Iv 0, Iv 0]) := by kernel_rfl
theorem T_zero_3 : tZero Try.prog 3 = some (Iv 0) := by kernel_rfl
theorem T_zero_33 : tZero Try.prog 33 = some (.agg #[Iv 0, Iv 0]) := by kernel_rfl
theorem T_zero_37 : tZero Try.prog 37 = some (.slice none 0 0) := by kernel_rfl
theorem T_zero_39 : tZero Try.prog 39 = some (.agg #[Bv false, .slice none 0 0]) := by kernel_rfl
theorem T_zero_58 : tZero Try.prog 58 = some (.map none) := by kernel_rfl
theorem T_zero_59 : tZero Try.prog 59 = some (.nilFunc) := by kernel_rfl
theorem T_zero_61 : tZero Try.prog 61 = some (.agg #[.slice none 0 0, Iv 0, Iv 0]) := by kernel_rfl
theorem T_zero_63 : tZero Try.prog 63 = some (.agg #[Iv 0, Iv 0]) := by kernel_rfl
theorem T_zero_67 : tZero Try.prog 67 = some (.agg #[Iv 0]) := by kernel_rfl
theorem T_zero_98 : tZero Try.prog 98 = some (.int .u32 0) := by kernel_rfl
def E3 (x : Int) : List Value := [Iv x]
theorem E3_len (x : Int) : (E3 x).length = 1 := rfl
theorem E3_one (x : Int) : oneCells (E3 x) = true := rfl
def E24 (x : Int × Int × Int × Int) : List Value := [Iv x.1, Iv x.2.1, Iv x.2.2.1, Iv x.2.2.2]
theorem E24_len (x : Int × Int × Int × Int) : (E24 x).length = 4 := rfl
theorem E24_one (x : Int × Int × Int × Int) : oneCells (E24 x) = true := rfl
def E33 (x : Int × Int) : List Value := [Iv x.1, Iv x.2]
theorem E33_len (x : Int × Int) : (E33 x).length = 2 := rfl
theorem E33_one (x : Int × Int) : oneCells (E33 x) = true := rfl
def E98 (x : Int) : List Value := [.int .u32 x]
theorem E98_len (x : Int) : (E98 x).length = 1 := rfl
theorem E98_one (x : Int) : oneCells (E98 x) = true := rfl
def m_law42_given (F : Nat)   : Option (List (Int × Int × Int × Int)) :=
  some ([(0, 10, 5, 3), (0, 6, 4, 2), (4, 12, 6, 4)])
set_option maxHeartbeats 1000000 in
set_option maxRecDepth 8000 in
theorem m_law42_given_ok (F : Nat)     (w0 : World)  (r : List (Int × Int × Int × Int)) (hm : m_law42_given F = some r) :
    Ret Try.prog 19 #[] w0 (G := Value) (fun g1 => g1) (fun g1 w => St w0 w noX [] [slE 24 4 E24 g1 r]) := by
 unfold m_law42_given at hm
 refine ret_of_W (lv := []) Try.func19 rfl rfl rfl (fun a hf => ?_)
 replace hf : Fr a 5 [] [] := hf
 have hS : St w0 w0 noX [] [] := St.borrow lendAll_nil
 refine W.seq ?_
 refine W.regionL (l := [0]) rfl ?_
 refine O.val hf rfl rfl rfl (RunV.assign rfl) ?_; clear hf a; intro a hf
 refine O.nil ?_
 refine k_seq ?_
 refine W.seq ?_
 refine W.regionL (l := [0, 1, 2, 3, 4]) rfl ?_
 refine O.val (v := .agg #[Iv 0, Iv 10, Iv 5, Iv 3]) hf rfl rfl rfl (RunV.buildS (cs' := #[Iv 0, Iv 10, Iv 5, Iv 3]) T_places_24 T_zero_24 rfl (by kernel_rfl)) ?_; clear hf a; intro a hf
 refine O.val (v := .agg #[Iv 0, Iv 6, Iv 4, Iv 2]) hf rfl rfl rfl (RunV.buildS (cs' := #[Iv 0, Iv 6, Iv 4, Iv 2]) T_places_24 T_zero_24 rfl (by kernel_rfl)) ?_; clear hf a; intro a hf
 refine O.val (v := .agg #[Iv 4, Iv 12, Iv 6, Iv 4]) hf rfl rfl rfl (RunV.buildS (cs' := #[Iv 4, Iv 12, Iv 6, Iv 4]) T_places_24 T_zero_24 rfl (by kernel_rfl)) ?_; clear hf a; intro a hf
 refine O.buildSlice (cs' := #[Iv 0, Iv 10, Iv 5, Iv 3, Iv 0, Iv 6, Iv 4, Iv 2, Iv 4, Iv 12, Iv 6, Iv 4]) (zs := #[Iv 0, Iv 0, Iv 0, Iv 0, Iv 0, Iv 0, Iv 0, Iv 0, Iv 0, Iv 0, Iv 0, Iv 0]) hf hS rfl rfl T_elem_22 T_size_24 T_zero_24 rfl rfl rfl rfl rfl ?_
 clear hf hS a; intro b1 w a hb1 hS hf
 refine O.val hf rfl rfl rfl (RunV.assign rfl) ?_; clear hf a; intro a hf
 refine O.nil ?_
 refine k_seq ?_
 replace hf : Fr a 5 [] [(0, .slice (some ⟨b1, 0, none⟩) 3 3)] := hf.to ⟨rfl, trivial⟩
 refine W.ret ?_
 replace hS := hS.ptE (j := 0) (enc := E24) (xs := [(0, 10, 5, 3), (0, 6, 4, 2), (4, 12, 6, 4)]) (N := 3) (M' := [slE 24 4 E24 (.slice (some ⟨b1, 0, none⟩) 3 3) ([(0, 10, 5, 3), (0, 6, 4, 2), (4, 12, 6, 4)])]) rfl rfl rfl rfl rfl rfl
 obtain ⟨s2, hs2⟩ : ∃ v, v = (.slice (some ⟨b1, 0, none⟩) 3 3 : Value) := ⟨_, rfl⟩
 rw [← hs2] at hf hS
 replace hS : St w0 _ noX [] [slE 24 4 E24 s2 ([(0, 10, 5, 3), (0, 6, 4, 2), (4, 12, 6, 4)])] := hS
 replace hf : Fr a 5 [] [(0, s2)] := hf.to ⟨rfl, trivial⟩
 obtain rfl := Option.some.inj hm
 refine post1 hf rfl (ResOK.tmp rfl) ?_
 exact ⟨s2, rfl, hS.noB⟩

def m_plan_Check_j1 (F : Nat)  : Option Int :=
  some 0
def m_plan_Check_b2 (F : Nat) (x2 : List (Int × Int × Int × Int)) (rec5 : Int → Option Int) (x4 : Int) : Option Int :=
  if x4 < ((x2.length : Int) : Int) then ((idx x2 x4).bind fun x7 => (some (if x7.2.1 < x7.1 then x7.2.1 else x7.1)).bind fun x10 => if (((((!((decide (x10 ≥ (-5000000000000000 : Int))) && (decide ((if x7.1 < x7.2.1 then x7.2.1 else x7.1) ≤ (5000000000000000 : Int))))) || (decide (x7.2.2.1 < (1 : Int)))) || (decide (x7.2.2.1 > (IntKind.i64.wrap (x7.2.1 - x7.1) : Int)))) || (decide (x7.2.2.2 < (1 : Int)))) || (decide (x7.2.2.2 > (1000000 : Int)))) = true then (some 8) else (rec5 (IntKind.i64.wrap (x4 + 1)))) else (m_plan_Check_j1 F)
def m_plan_Check_l2 (F : Nat) (x2 : List (Int × Int × Int × Int)) : Nat → Int → Option Int
  | 0, _ => none
  | n + 1, x4 => m_plan_Check_b2 F x2 (m_plan_Check_l2 F x2 n) x4
def m_plan_Check (F : Nat)  (x2 : List (Int × Int × Int × Int)) : Option Int :=
  if (x2.length : Int) > (8 : Int) then (some 4) else (m_plan_Check_l2 F x2 F 0)
set_option maxHeartbeats 1000000 in
set_option maxRecDepth 8000 in
theorem m_plan_Check_ok (F : Nat)    (s1 : Value) (x2 : List (Int × Int × Int × Int)) (w0 : World) (h_s1 : rdEOK (hp w0) 4 E24 s1 x2) (r : Int) (hm : m_plan_Check F x2 = some r) :
    Ret Try.prog 21 #[s1] w0 (G := Unit) (fun _ => Iv r) (fun _ w => St w0 w noX [] []) := by
 unfold m_plan_Check at hm
 refine ret_of_W (lv := [s1]) Try.func21 rfl rfl rfl (fun a hf => ?_)
 replace hf : Fr a 57 [] [(0, s1)] := hf
 have hS : St w0 w0 noX [rdE 4 E24 s1 x2] [] := St.borrow (lendAll_cons (lendRd h_s1) lendAll_nil)
 refine W.seq ?_
 refine W.regionL (l := [0]) rfl ?_
 refine O.val hf rfl rfl rfl (RunV.assign rfl) ?_; clear hf a; intro a hf
 refine O.nil ?_
 refine k_seq ?_
 refine W.seq ?_
 refine W.seq ?_
 refine W.regionL (l := [0, 1, 2]) rfl ?_
 refine O.val hf rfl rfl rfl (RunV.move rfl) ?_; clear hf a; intro a hf
 refine O.val (v := Iv (x2.length : Int)) hf rfl rfl rfl (RunV.lenE (e := 24) (by simpa using T_elem_22) rfl (hS.rdB (j := 0) rfl)) ?_; clear hf a; intro a hf
 refine O.val (v := Bv (decide ((x2.length : Int) > (8 : Int)))) hf rfl rfl rfl (RunV.gtr rfl rfl) ?_; clear hf a; intro a hf
 refine O.nil ?_
 refine k_seq ?_
 replace hf : Fr a 57 [] [(0, s1), (2, Iv 0), (8, Bv (decide ((x2.length : Int) > (8 : Int))))] := hf.to ⟨rfl, rfl, rfl, trivial⟩
 refine W.ifdI hf rfl (fun hc3 => ?_) (fun hc3 => ?_)
 ·replace hm := hm_p hm hc3
  refine W.seq ?_
  refine W.regionL (l := [0]) rfl ?_
  refine O.val hf rfl rfl rfl (RunV.assign rfl) ?_; clear hf a; intro a hf
  refine O.nil ?_
  refine k_seq ?_
  replace hf : Fr a 57 [] [(0, s1), (2, Iv 4)] := hf.to ⟨rfl, rfl, trivial⟩
  refine W.ret ?_
  refine k_then_ret ?_
  obtain rfl := Option.some.inj hm
  refine post1 hf rfl (ResOK.tmp rfl) ?_
  exact ⟨(), rfl, hS.noB⟩
 ·replace hm := hm_n hm hc3
  refine W.skip ?_
  refine k_seq ?_
  replace hf : Fr a 57 [] [(0, s1), (2, Iv 0)] := hf.to ⟨rfl, rfl, trivial⟩
  refine W.seqR (fun a w => Fr a 57 [] [(2, Iv 0)] ∧ St w0 w noX [rdE 4 E24 s1 x2] [] ∧ m_plan_Check_j1 F = some r) ?_ ?_
  ·refine W.seq ?_
   refine W.regionL (l := [0, 1, 2]) rfl ?_
   refine O.val hf rfl rfl rfl (RunV.move rfl) ?_; clear hf a; intro a hf
   refine O.val (v := Iv (x2.length : Int)) hf rfl rfl rfl (RunV.lenE (e := 24) (by simpa using T_elem_22) rfl (hS.rdB (j := 0) rfl)) ?_; clear hf a; intro a hf
   refine O.val hf rfl rfl rfl (RunV.move rfl) ?_; clear hf a; intro a hf
   refine O.nil ?_
   refine k_seq ?_
   replace hf : Fr a 57 [] [(2, Iv 0), (9, s1), (10, Iv (x2.length : Int)), (11, Iv 0)] := hf.to ⟨rfl, rfl, rfl, rfl, trivial⟩
   refine W.block ?_
   refine W.loop (G := Nat × Int) (fun g a w => match g with | (k5, x4) => Fr a 57 [] [(2, Iv 0), (9, s1), (10, Iv (x2.length : Int)), (11, Iv x4)] ∧ St w0 w noX [rdE 4 E24 s1 x2] [] ∧ m_plan_Check_l2 F x2 k5 x4 = some r) (fun g => match g with | (k5, x4) => k5) (F, 0) ⟨hf.to ⟨rfl, rfl, rfl, rfl, trivial⟩, hS, hm⟩ ?_
   clear hf hS hm a; try clear w
   rintro ⟨k5, x4⟩ a w ⟨hf, hS, hm⟩
   rcases k5 with _ | k5
   · exact absurd (show none = some r from hm) (by simp)
   replace hm : m_plan_Check_b2 F x2 (m_plan_Check_l2 F x2 k5) x4 = some r := hm
   obtain ⟨rec5, hrec5⟩ : ∃ f, f = m_plan_Check_l2 F x2 k5 := ⟨_, rfl⟩
   rw [← hrec5] at hm; unfold m_plan_Check_b2 at hm
   refine W.seq ?_
   refine W.regionL (l := [0]) rfl ?_
   refine O.val (v := Bv (decide (x4 < ((x2.length : Int) : Int)))) hf rfl rfl rfl (RunV.lss rfl rfl) ?_; clear hf a; intro a hf
   refine O.nil ?_
   refine k_seq ?_
   refine W.seq ?_
   refine W.ifdI hf rfl (fun hc6 => ?_) (fun hc6 => ?_)
   ·replace hm := hm_p hm hc6
    refine W.skip ?_
    refine k_seq ?_
    refine W.seq ?_
    refine W.block ?_
    refine W.seq ?_
    refine W.regionL (l := [0, 1, 2, 3]) rfl ?_
    obtain ⟨x7, hx7, hm⟩ := hm_b hm
    refine O.val hf rfl rfl rfl (RunV.ixE T_elem_22 T_size_24 rfl rfl (hS.rdB (j := 0) rfl) hx7) ?_; clear hf a; intro a hf
    refine O.val hf rfl rfl rfl (RunV.ldEN (us := [Iv x7.1, Iv x7.2.1, Iv x7.2.2.1, Iv x7.2.2.2]) (o := 0) T_agg_24 T_size_24 rfl E24_len rfl (hS.rdB (j := 0) rfl) hx7 rfl rfl rfl) ?_; clear hf a; intro a hf
    refine O.alloc (cs := #[Iv 0, Iv 0, Iv 0, Iv 0]) hf hS rfl rfl T_zero_24 rfl ?_
    clear hf hS a; intro b8 w a hb8 hS hf
    refine O.store (j := 0) (cs' := #[Iv x7.1, Iv x7.2.1, Iv x7.2.2.1, Iv x7.2.2.2]) (M' := [pt b8 (Cs #[Iv x7.1, Iv x7.2.1, Iv x7.2.2.1, Iv x7.2.2.2] 24)]) hf hS rfl rfl rfl T_size_24 rfl rfl rfl (Nat.le_of_ble_eq_true rfl) rfl rfl ?_
    clear hS; intro w hS
    refine O.nil ?_
    refine k_seq ?_
    refine W.seq ?_
    refine W.regionL (l := [0, 1, 2, 3, 4, 5, 6, 7, 8, 9, 10, 11, 12, 13, 14]) rfl ?_
    refine O.val hf rfl rfl rfl (RunV.field T_field_24_0 rfl rfl) ?_; clear hf a; intro a hf
    refine O.val hf rfl rfl rfl (RunV.load1 T_agg_2 rfl (hS.ptAt (i := 0) rfl) rfl) ?_; clear hf a; intro a hf
    refine O.val hf rfl rfl rfl (RunV.field T_field_24_1 rfl rfl) ?_; clear hf a; intro a hf
    refine O.val hf rfl rfl rfl (RunV.load1 T_agg_2 rfl (hS.ptAt (i := 0) rfl) rfl) ?_; clear hf a; intro a hf
    refine O.val (v := Iv (if x7.2.1 < x7.1 then x7.2.1 else x7.1)) hf rfl rfl rfl (RunV.min rfl rfl) ?_; clear hf a; intro a hf
    refine O.val (v := Bv (decide ((if x7.2.1 < x7.1 then x7.2.1 else x7.1) ≥ (-5000000000000000 : Int)))) hf rfl rfl rfl (RunV.geq rfl rfl) ?_; clear hf a; intro a hf
    refine O.val hf rfl rfl rfl (RunV.move rfl) ?_; clear hf a; intro a hf
    refine O.cutN (l₁ := [7, 8, 9, 10, 11, 12, 13]) (l₂ := _) (fun a w => Fr a 57 [] [(2, Iv 0), (4, Pv b8 0), (9, s1), (10, Iv (x2.length : Int)), (11, Iv x4), (12, Bv (decide (x4 < ((x2.length : Int) : Int)))), (13, ix s1 (Int.toNat x4 * 4)), (14, .agg #[Iv x7.1, Iv x7.2.1, Iv x7.2.2.1, Iv x7.2.2.2]), (15, Pv b8 0), (16, Iv x7.1), (17, Pv b8 1), (18, Iv x7.2.1), (19, Iv (if x7.2.1 < x7.1 then x7.2.1 else x7.1)), (20, Bv (decide ((if x7.2.1 < x7.1 then x7.2.1 else x7.1) ≥ (-5000000000000000 : Int)))), (21, Bv (decide ((if x7.2.1 < x7.1 then x7.2.1 else x7.1) ≥ (-5000000000000000 : Int)))), (28, Bv ((decide ((if x7.2.1 < x7.1 then x7.2.1 else x7.1) ≥ (-5000000000000000 : Int))) && (decide ((if x7.1 < x7.2.1 then x7.2.1 else x7.1) ≤ (5000000000000000 : Int)))))] ∧ St w0 w noX [rdE 4 E24 s1 x2] [pt b8 (Cs #[Iv x7.1, Iv x7.2.1, Iv x7.2.2.1, Iv x7.2.2.2] 24)]) rfl ?_ ?_
    ·rcases Bool.eq_false_or_eq_true (decide ((if x7.2.1 < x7.1 then x7.2.1 else x7.1) ≥ (-5000000000000000 : Int))) with hb9 | hb9
     ·refine O.gvalB hf rfl rfl rfl hb9 rfl rfl (RunV.field T_field_24_0 rfl rfl) ?_; clear hf a; intro a hf
      refine O.gvalB hf rfl rfl rfl hb9 rfl rfl (RunV.load1 T_agg_2 rfl (hS.ptAt (i := 0) rfl) rfl) ?_; clear hf a; intro a hf
      refine O.gvalB hf rfl rfl rfl hb9 rfl rfl (RunV.field T_field_24_1 rfl rfl) ?_; clear hf a; intro a hf
      refine O.gvalB hf rfl rfl rfl hb9 rfl rfl (RunV.load1 T_agg_2 rfl (hS.ptAt (i := 0) rfl) rfl) ?_; clear hf a; intro a hf
      refine O.gvalB (v := Iv (if x7.1 < x7.2.1 then x7.2.1 else x7.1)) hf rfl rfl rfl hb9 rfl rfl (RunV.max rfl rfl) ?_; clear hf a; intro a hf
      refine O.gvalB (v := Bv (decide ((if x7.1 < x7.2.1 then x7.2.1 else x7.1) ≤ (5000000000000000 : Int)))) hf rfl rfl rfl hb9 rfl rfl (RunV.leq rfl rfl) ?_; clear hf a; intro a hf
      refine O.val (v := Bv ((decide ((if x7.2.1 < x7.1 then x7.2.1 else x7.1) ≥ (-5000000000000000 : Int))) && (decide ((if x7.1 < x7.2.1 then x7.2.1 else x7.1) ≤ (5000000000000000 : Int))))) hf rfl rfl rfl (RunV.pick rfl rfl rfl (by rw [hb9]; rfl)) ?_; clear hf a; intro a hf
      exact O.nil ⟨rfl, hf.to ⟨rfl, rfl, rfl, rfl, rfl, rfl, rfl, rfl, rfl, rfl, rfl, rfl, rfl, rfl, rfl, rfl, trivial⟩, hS⟩
     ·refine O.skipB hf rfl rfl rfl hb9 rfl ?_; clear hf a; intro a hf
      refine O.skipB hf rfl rfl rfl hb9 rfl ?_; clear hf a; intro a hf
      refine O.skipB hf rfl rfl rfl hb9 rfl ?_; clear hf a; intro a hf
      refine O.skipB hf rfl rfl rfl hb9 rfl ?_; clear hf a; intro a hf
      refine O.skipB hf rfl rfl rfl hb9 rfl ?_; clear hf a; intro a hf
      refine O.skipB hf rfl rfl rfl hb9 rfl ?_; clear hf a; intro a hf
      refine O.val (v := Bv ((decide ((if x7.2.1 < x7.1 then x7.2.1 else x7.1) ≥ (-5000000000000000 : Int))) && (decide ((if x7.1 < x7.2.1 then x7.2.1 else x7.1) ≤ (5000000000000000 : Int))))) hf rfl rfl rfl (RunV.pick rfl rfl rfl (by rw [hb9]; rfl)) ?_; clear hf a; intro a hf
      exact O.nil ⟨rfl, hf.to ⟨rfl, rfl, rfl, rfl, rfl, rfl, rfl, rfl, rfl, rfl, rfl, rfl, rfl, rfl, rfl, rfl, trivial⟩, hS⟩
    clear hf hS a; try clear w
    rintro a w ⟨hf, hS⟩
    refine O.val hf rfl rfl rfl (RunV.assign rfl) ?_; clear hf a; intro a hf
    refine O.nil ?_
    refine k_seq ?_
    obtain ⟨x10, hx10, hm⟩ := hm_b hm
    rw [Option.some.inj hx10] at hf
    refine W.seq ?_
    refine W.regionL (l := [0, 1, 2, 3, 4, 5, 6, 7, 8, 9, 10, 11, 12, 13, 14, 15, 16, 17, 18, 19, 20, 21, 22, 23, 24, 25, 26]) rfl ?_
    refine O.val hf rfl rfl rfl (RunV.move rfl) ?_; clear hf a; intro a hf
    refine O.val (v := Bv (!((decide (x10 ≥ (-5000000000000000 : Int))) && (decide ((if x7.1 < x7.2.1 then x7.2.1 else x7.1) ≤ (5000000000000000 : Int)))))) hf rfl rfl rfl (RunV.not rfl) ?_; clear hf a; intro a hf
    refine O.val hf rfl rfl rfl (RunV.move rfl) ?_; clear hf a; intro a hf
    refine O.cutN (l₁ := [3, 4, 5, 6]) (l₂ := _) (fun a w => Fr a 57 [] [(2, Iv 0), (4, Pv b8 0), (5, Bv ((decide (x10 ≥ (-5000000000000000 : Int))) && (decide ((if x7.1 < x7.2.1 then x7.2.1 else x7.1) ≤ (5000000000000000 : Int))))), (9, s1), (10, Iv (x2.length : Int)), (11, Iv x4), (12, Bv (decide (x4 < ((x2.length : Int) : Int)))), (13, ix s1 (Int.toNat x4 * 4)), (14, .agg #[Iv x7.1, Iv x7.2.1, Iv x7.2.2.1, Iv x7.2.2.2]), (15, Pv b8 0), (16, Iv x7.1), (17, Pv b8 1), (18, Iv x7.2.1), (19, Iv x10), (20, Bv (decide (x10 ≥ (-5000000000000000 : Int)))), (21, Bv (decide (x10 ≥ (-5000000000000000 : Int)))), (28, Bv ((decide (x10 ≥ (-5000000000000000 : Int))) && (decide ((if x7.1 < x7.2.1 then x7.2.1 else x7.1) ≤ (5000000000000000 : Int))))), (29, Bv ((decide (x10 ≥ (-5000000000000000 : Int))) && (decide ((if x7.1 < x7.2.1 then x7.2.1 else x7.1) ≤ (5000000000000000 : Int))))), (30, Bv (!((decide (x10 ≥ (-5000000000000000 : Int))) && (decide ((if x7.1 < x7.2.1 then x7.2.1 else x7.1) ≤ (5000000000000000 : Int)))))), (31, Bv (!((decide (x10 ≥ (-5000000000000000 : Int))) && (decide ((if x7.1 < x7.2.1 then x7.2.1 else x7.1) ≤ (5000000000000000 : Int)))))), (35, Bv ((!((decide (x10 ≥ (-5000000000000000 : Int))) && (decide ((if x7.1 < x7.2.1 then x7.2.1 else x7.1) ≤ (5000000000000000 : Int))))) || (decide (x7.2.2.1 < (1 : Int)))))] ∧ St w0 w noX [rdE 4 E24 s1 x2] [pt b8 (Cs #[Iv x7.1, Iv x7.2.1, Iv x7.2.2.1, Iv x7.2.2.2] 24)]) rfl ?_ ?_
    ·rcases Bool.eq_false_or_eq_true (!((decide (x10 ≥ (-5000000000000000 : Int))) && (decide ((if x7.1 < x7.2.1 then x7.2.1 else x7.1) ≤ (5000000000000000 : Int))))) with hb11 | hb11
     ·refine O.skipB hf rfl rfl rfl hb11 rfl ?_; clear hf a; intro a hf
      refine O.skipB hf rfl rfl rfl hb11 rfl ?_; clear hf a; intro a hf
      refine O.skipB hf rfl rfl rfl hb11 rfl ?_; clear hf a; intro a hf
      refine O.val (v := Bv ((!((decide (x10 ≥ (-5000000000000000 : Int))) && (decide ((if x7.1 < x7.2.1 then x7.2.1 else x7.1) ≤ (5000000000000000 : Int))))) || (decide (x7.2.2.1 < (1 : Int))))) hf rfl rfl rfl (RunV.pick rfl rfl rfl (by rw [hb11]; rfl)) ?_; clear hf a; intro a hf
      exact O.nil ⟨rfl, hf.to ⟨rfl, rfl, rfl, rfl, rfl, rfl, rfl, rfl, rfl, rfl, rfl, rfl, rfl, rfl, rfl, rfl, rfl, rfl, rfl, rfl, rfl, trivial⟩, hS⟩
     ·refine O.gvalB hf rfl rfl rfl hb11 rfl rfl (RunV.field T_field_24_2 rfl rfl) ?_; clear hf a; intro a hf
      refine O.gvalB hf rfl rfl rfl hb11 rfl rfl (RunV.load1 T_agg_2 rfl (hS.ptAt (i := 0) rfl) rfl) ?_; clear hf a; intro a hf
      refine O.gvalB (v := Bv (decide (x7.2.2.1 < (1 : Int)))) hf rfl rfl rfl hb11 rfl rfl (RunV.lss rfl rfl) ?_; clear hf a; intro a hf
      refine O.val (v := Bv ((!((decide (x10 ≥ (-5000000000000000 : Int))) && (decide ((if x7.1 < x7.2.1 then x7.2.1 else x7.1) ≤ (5000000000000000 : Int))))) || (decide (x7.2.2.1 < (1 : Int))))) hf rfl rfl rfl (RunV.pick rfl rfl rfl (by rw [hb11]; rfl)) ?_; clear hf a; intro a hf
      exact O.nil ⟨rfl, hf.to ⟨rfl, rfl, rfl, rfl, rfl, rfl, rfl, rfl, rfl, rfl, rfl, rfl, rfl, rfl, rfl, rfl, rfl, rfl, rfl, rfl, rfl, trivial⟩, hS⟩
    clear hf hS a; try clear w
    rintro a w ⟨hf, hS⟩
    refine O.val hf rfl rfl rfl (RunV.move rfl) ?_; clear hf a; intro a hf
    refine O.cutN (l₁ := [8, 9, 10, 11, 12, 13, 14, 15, 16]) (l₂ := _) (fun a w => Fr a 57 [] [(2, Iv 0), (4, Pv b8 0), (5, Bv ((decide (x10 ≥ (-5000000000000000 : Int))) && (decide ((if x7.1 < x7.2.1 then x7.2.1 else x7.1) ≤ (5000000000000000 : Int))))), (9, s1), (10, Iv (x2.length : Int)), (11, Iv x4), (12, Bv (decide (x4 < ((x2.length : Int) : Int)))), (13, ix s1 (Int.toNat x4 * 4)), (14, .agg #[Iv x7.1, Iv x7.2.1, Iv x7.2.2.1, Iv x7.2.2.2]), (15, Pv b8 0), (16, Iv x7.1), (17, Pv b8 1), (18, Iv x7.2.1), (19, Iv x10), (20, Bv (decide (x10 ≥ (-5000000000000000 : Int)))), (21, Bv (decide (x10 ≥ (-5000000000000000 : Int)))), (28, Bv ((decide (x10 ≥ (-5000000000000000 : Int))) && (decide ((if x7.1 < x7.2.1 then x7.2.1 else x7.1) ≤ (5000000000000000 : Int))))), (29, Bv ((decide (x10 ≥ (-5000000000000000 : Int))) && (decide ((if x7.1 < x7.2.1 then x7.2.1 else x7.1) ≤ (5000000000000000 : Int))))), (30, Bv (!((decide (x10 ≥ (-5000000000000000 : Int))) && (decide ((if x7.1 < x7.2.1 then x7.2.1 else x7.1) ≤ (5000000000000000 : Int)))))), (31, Bv (!((decide (x10 ≥ (-5000000000000000 : Int))) && (decide ((if x7.1 < x7.2.1 then x7.2.1 else x7.1) ≤ (5000000000000000 : Int)))))), (35, Bv ((!((decide (x10 ≥ (-5000000000000000 : Int))) && (decide ((if x7.1 < x7.2.1 then x7.2.1 else x7.1) ≤ (5000000000000000 : Int))))) || (decide (x7.2.2.1 < (1 : Int))))), (36, Bv ((!((decide (x10 ≥ (-5000000000000000 : Int))) && (decide ((if x7.1 < x7.2.1 then x7.2.1 else x7.1) ≤ (5000000000000000 : Int))))) || (decide (x7.2.2.1 < (1 : Int))))), (45, Bv (((!((decide (x10 ≥ (-5000000000000000 : Int))) && (decide ((if x7.1 < x7.2.1 then x7.2.1 else x7.1) ≤ (5000000000000000 : Int))))) || (decide (x7.2.2.1 < (1 : Int)))) || (decide (x7.2.2.1 > (IntKind.i64.wrap (x7.2.1 - x7.1) : Int)))))] ∧ St w0 w noX [rdE 4 E24 s1 x2] [pt b8 (Cs #[Iv x7.1, Iv x7.2.1, Iv x7.2.2.1, Iv x7.2.2.2] 24)]) rfl ?_ ?_
    ·rcases Bool.eq_false_or_eq_true ((!((decide (x10 ≥ (-5000000000000000 : Int))) && (decide ((if x7.1 < x7.2.1 then x7.2.1 else x7.1) ≤ (5000000000000000 : Int))))) || (decide (x7.2.2.1 < (1 : Int)))) with hb12 | hb12
     ·refine O.skipB hf rfl rfl rfl hb12 rfl ?_; clear hf a; intro a hf
      refine O.skipB hf rfl rfl rfl hb12 rfl ?_; clear hf a; intro a hf
      refine O.skipB hf rfl rfl rfl hb12 rfl ?_; clear hf a; intro a hf
      refine O.skipB hf rfl rfl rfl hb12 rfl ?_; clear hf a; intro a hf
      refine O.skipB hf rfl rfl rfl hb12 rfl ?_; clear hf a; intro a hf
      refine O.skipB hf rfl rfl rfl hb12 rfl ?_; clear hf a; intro a hf
      refine O.skipB hf rfl rfl rfl hb12 rfl ?_; clear hf a; intro a hf
      refine O.skipB hf rfl rfl rfl hb12 rfl ?_; clear hf a; intro a hf
      refine O.val (v := Bv (((!((decide (x10 ≥ (-5000000000000000 : Int))) && (decide ((if x7.1 < x7.2.1 then x7.2.1 else x7.1) ≤ (5000000000000000 : Int))))) || (decide (x7.2.2.1 < (1 : Int)))) || (decide (x7.2.2.1 > (IntKind.i64.wrap (x7.2.1 - x7.1) : Int))))) hf rfl rfl rfl (RunV.pick rfl rfl rfl (by rw [hb12]; rfl)) ?_; clear hf a; intro a hf
      exact O.nil ⟨rfl, hf.to ⟨rfl, rfl, rfl, rfl, rfl, rfl, rfl, rfl, rfl, rfl, rfl, rfl, rfl, rfl, rfl, rfl, rfl, rfl, rfl, rfl, rfl, rfl, rfl, trivial⟩, hS⟩
     ·refine O.gvalB hf rfl rfl rfl hb12 rfl rfl (RunV.field T_field_24_2 rfl rfl) ?_; clear hf a; intro a hf
      refine O.gvalB hf rfl rfl rfl hb12 rfl rfl (RunV.load1 T_agg_2 rfl (hS.ptAt (i := 0) rfl) rfl) ?_; clear hf a; intro a hf
      refine O.gvalB hf rfl rfl rfl hb12 rfl rfl (RunV.field T_field_24_1 rfl rfl) ?_; clear hf a; intro a hf
      refine O.gvalB hf rfl rfl rfl hb12 rfl rfl (RunV.load1 T_agg_2 rfl (hS.ptAt (i := 0) rfl) rfl) ?_; clear hf a; intro a hf
      refine O.gvalB hf rfl rfl rfl hb12 rfl rfl (RunV.field T_field_24_0 rfl rfl) ?_; clear hf a; intro a hf
      refine O.gvalB hf rfl rfl rfl hb12 rfl rfl (RunV.load1 T_agg_2 rfl (hS.ptAt (i := 0) rfl) rfl) ?_; clear hf a; intro a hf
      refine O.gvalB (v := Iv (IntKind.i64.wrap (x7.2.1 - x7.1))) hf rfl rfl rfl hb12 rfl rfl (RunV.sub rfl rfl) ?_; clear hf a; intro a hf
      refine O.gvalB (v := Bv (decide (x7.2.2.1 > (IntKind.i64.wrap (x7.2.1 - x7.1) : Int)))) hf rfl rfl rfl hb12 rfl rfl (RunV.gtr rfl rfl) ?_; clear hf a; intro a hf
      refine O.val (v := Bv (((!((decide (x10 ≥ (-5000000000000000 : Int))) && (decide ((if x7.1 < x7.2.1 then x7.2.1 else x7.1) ≤ (5000000000000000 : Int))))) || (decide (x7.2.2.1 < (1 : Int)))) || (decide (x7.2.2.1 > (IntKind.i64.wrap (x7.2.1 - x7.1) : Int))))) hf rfl rfl rfl (RunV.pick rfl rfl rfl (by rw [hb12]; rfl)) ?_; clear hf a; intro a hf
      exact O.nil ⟨rfl, hf.to ⟨rfl, rfl, rfl, rfl, rfl, rfl, rfl, rfl, rfl, rfl, rfl, rfl, rfl, rfl, rfl, rfl, rfl, rfl, rfl, rfl, rfl, rfl, rfl, trivial⟩, hS⟩
    clear hf hS a; try clear w
    rintro a w ⟨hf, hS⟩
    refine O.val hf rfl rfl rfl (RunV.move rfl) ?_; clear hf a; intro a hf
    refine O.cutN (l₁ := [18, 19, 20, 21]) (l₂ := _) (fun a w => Fr a 57 [] [(2, Iv 0), (4, Pv b8 0), (5, Bv ((decide (x10 ≥ (-5000000000000000 : Int))) && (decide ((if x7.1 < x7.2.1 then x7.2.1 else x7.1) ≤ (5000000000000000 : Int))))), (9, s1), (10, Iv (x2.length : Int)), (11, Iv x4), (12, Bv (decide (x4 < ((x2.length : Int) : Int)))), (13, ix s1 (Int.toNat x4 * 4)), (14, .agg #[Iv x7.1, Iv x7.2.1, Iv x7.2.2.1, Iv x7.2.2.2]), (15, Pv b8 0), (16, Iv x7.1), (17, Pv b8 1), (18, Iv x7.2.1), (19, Iv x10), (20, Bv (decide (x10 ≥ (-5000000000000000 : Int)))), (21, Bv (decide (x10 ≥ (-5000000000000000 : Int)))), (28, Bv ((decide (x10 ≥ (-5000000000000000 : Int))) && (decide ((if x7.1 < x7.2.1 then x7.2.1 else x7.1) ≤ (5000000000000000 : Int))))), (29, Bv ((decide (x10 ≥ (-5000000000000000 : Int))) && (decide ((if x7.1 < x7.2.1 then x7.2.1 else x7.1) ≤ (5000000000000000 : Int))))), (30, Bv (!((decide (x10 ≥ (-5000000000000000 : Int))) && (decide ((if x7.1 < x7.2.1 then x7.2.1 else x7.1) ≤ (5000000000000000 : Int)))))), (31, Bv (!((decide (x10 ≥ (-5000000000000000 : Int))) && (decide ((if x7.1 < x7.2.1 then x7.2.1 else x7.1) ≤ (5000000000000000 : Int)))))), (35, Bv ((!((decide (x10 ≥ (-5000000000000000 : Int))) && (decide ((if x7.1 < x7.2.1 then x7.2.1 else x7.1) ≤ (5000000000000000 : Int))))) || (decide (x7.2.2.1 < (1 : Int))))), (36, Bv ((!((decide (x10 ≥ (-5000000000000000 : Int))) && (decide ((if x7.1 < x7.2.1 then x7.2.1 else x7.1) ≤ (5000000000000000 : Int))))) || (decide (x7.2.2.1 < (1 : Int))))), (45, Bv (((!((decide (x10 ≥ (-5000000000000000 : Int))) && (decide ((if x7.1 < x7.2.1 then x7.2.1 else x7.1) ≤ (5000000000000000 : Int))))) || (decide (x7.2.2.1 < (1 : Int)))) || (decide (x7.2.2.1 > (IntKind.i64.wrap (x7.2.1 - x7.1) : Int))))), (46, Bv (((!((decide (x10 ≥ (-5000000000000000 : Int))) && (decide ((if x7.1 < x7.2.1 then x7.2.1 else x7.1) ≤ (5000000000000000 : Int))))) || (decide (x7.2.2.1 < (1 : Int)))) || (decide (x7.2.2.1 > (IntKind.i64.wrap (x7.2.1 - x7.1) : Int))))), (50, Bv ((((!((decide (x10 ≥ (-5000000000000000 : Int))) && (decide ((if x7.1 < x7.2.1 then x7.2.1 else x7.1) ≤ (5000000000000000 : Int))))) || (decide (x7.2.2.1 < (1 : Int)))) || (decide (x7.2.2.1 > (IntKind.i64.wrap (x7.2.1 - x7.1) : Int)))) || (decide (x7.2.2.2 < (1 : Int)))))] ∧ St w0 w noX [rdE 4 E24 s1 x2] [pt b8 (Cs #[Iv x7.1, Iv x7.2.1, Iv x7.2.2.1, Iv x7.2.2.2] 24)]) rfl ?_ ?_
    ·rcases Bool.eq_false_or_eq_true (((!((decide (x10 ≥ (-5000000000000000 : Int))) && (decide ((if x7.1 < x7.2.1 then x7.2.1 else x7.1) ≤ (5000000000000000 : Int))))) || (decide (x7.2.2.1 < (1 : Int)))) || (decide (x7.2.2.1 > (IntKind.i64.wrap (x7.2.1 - x7.1) : Int)))) with hb13 | hb13
     ·refine O.skipB hf rfl rfl rfl hb13 rfl ?_; clear hf a; intro a hf
      refine O.skipB hf rfl rfl rfl hb13 rfl ?_; clear hf a; intro a hf
      refine O.skipB hf rfl rfl rfl hb13 rfl ?_; clear hf a; intro a hf
      refine O.val (v := Bv ((((!((decide (x10 ≥ (-5000000000000000 : Int))) && (decide ((if x7.1 < x7.2.1 then x7.2.1 else x7.1) ≤ (5000000000000000 : Int))))) || (decide (x7.2.2.1 < (1 : Int)))) || (decide (x7.2.2.1 > (IntKind.i64.wrap (x7.2.1 - x7.1) : Int)))) || (decide (x7.2.2.2 < (1 : Int))))) hf rfl rfl rfl (RunV.pick rfl rfl rfl (by rw [hb13]; rfl)) ?_; clear hf a; intro a hf
      exact O.nil ⟨rfl, hf.to ⟨rfl, rfl, rfl, rfl, rfl, rfl, rfl, rfl, rfl, rfl, rfl, rfl, rfl, rfl, rfl, rfl, rfl, rfl, rfl, rfl, rfl, rfl, rfl, rfl, rfl, trivial⟩, hS⟩
     ·refine O.gvalB hf rfl rfl rfl hb13 rfl rfl (RunV.field T_field_24_3 rfl rfl) ?_; clear hf a; intro a hf
      refine O.gvalB hf rfl rfl rfl hb13 rfl rfl (RunV.load1 T_agg_3 rfl (hS.ptAt (i := 0) rfl) rfl) ?_; clear hf a; intro a hf
      refine O.gvalB (v := Bv (decide (x7.2.2.2 < (1 : Int)))) hf rfl rfl rfl hb13 rfl rfl (RunV.lss rfl rfl) ?_; clear hf a; intro a hf
      refine O.val (v := Bv ((((!((decide (x10 ≥ (-5000000000000000 : Int))) && (decide ((if x7.1 < x7.2.1 then x7.2.1 else x7.1) ≤ (5000000000000000 : Int))))) || (decide (x7.2.2.1 < (1 : Int)))) || (decide (x7.2.2.1 > (IntKind.i64.wrap (x7.2.1 - x7.1) : Int)))) || (decide (x7.2.2.2 < (1 : Int))))) hf rfl rfl rfl (RunV.pick rfl rfl rfl (by rw [hb13]; rfl)) ?_; clear hf a; intro a hf
      exact O.nil ⟨rfl, hf.to ⟨rfl, rfl, rfl, rfl, rfl, rfl, rfl, rfl, rfl, rfl, rfl, rfl, rfl, rfl, rfl, rfl, rfl, rfl, rfl, rfl, rfl, rfl, rfl, rfl, rfl, trivial⟩, hS⟩
    clear hf hS a; try clear w
    rintro a w ⟨hf, hS⟩
    refine O.val hf rfl rfl rfl (RunV.move rfl) ?_; clear hf a; intro a hf
    refine O.cutN (l₁ := [23, 24, 25, 26]) (l₂ := _) (fun a w => Fr a 57 [] [(2, Iv 0), (4, Pv b8 0), (5, Bv ((decide (x10 ≥ (-5000000000000000 : Int))) && (decide ((if x7.1 < x7.2.1 then x7.2.1 else x7.1) ≤ (5000000000000000 : Int))))), (9, s1), (10, Iv (x2.length : Int)), (11, Iv x4), (12, Bv (decide (x4 < ((x2.length : Int) : Int)))), (13, ix s1 (Int.toNat x4 * 4)), (14, .agg #[Iv x7.1, Iv x7.2.1, Iv x7.2.2.1, Iv x7.2.2.2]), (15, Pv b8 0), (16, Iv x7.1), (17, Pv b8 1), (18, Iv x7.2.1), (19, Iv x10), (20, Bv (decide (x10 ≥ (-5000000000000000 : Int)))), (21, Bv (decide (x10 ≥ (-5000000000000000 : Int)))), (28, Bv ((decide (x10 ≥ (-5000000000000000 : Int))) && (decide ((if x7.1 < x7.2.1 then x7.2.1 else x7.1) ≤ (5000000000000000 : Int))))), (29, Bv ((decide (x10 ≥ (-5000000000000000 : Int))) && (decide ((if x7.1 < x7.2.1 then x7.2.1 else x7.1) ≤ (5000000000000000 : Int))))), (30, Bv (!((decide (x10 ≥ (-5000000000000000 : Int))) && (decide ((if x7.1 < x7.2.1 then x7.2.1 else x7.1) ≤ (5000000000000000 : Int)))))), (31, Bv (!((decide (x10 ≥ (-5000000000000000 : Int))) && (decide ((if x7.1 < x7.2.1 then x7.2.1 else x7.1) ≤ (5000000000000000 : Int)))))), (35, Bv ((!((decide (x10 ≥ (-5000000000000000 : Int))) && (decide ((if x7.1 < x7.2.1 then x7.2.1 else x7.1) ≤ (5000000000000000 : Int))))) || (decide (x7.2.2.1 < (1 : Int))))), (36, Bv ((!((decide (x10 ≥ (-5000000000000000 : Int))) && (decide ((if x7.1 < x7.2.1 then x7.2.1 else x7.1) ≤ (5000000000000000 : Int))))) || (decide (x7.2.2.1 < (1 : Int))))), (45, Bv (((!((decide (x10 ≥ (-5000000000000000 : Int))) && (decide ((if x7.1 < x7.2.1 then x7.2.1 else x7.1) ≤ (5000000000000000 : Int))))) || (decide (x7.2.2.1 < (1 : Int)))) || (decide (x7.2.2.1 > (IntKind.i64.wrap (x7.2.1 - x7.1) : Int))))), (46, Bv (((!((decide (x10 ≥ (-5000000000000000 : Int))) && (decide ((if x7.1 < x7.2.1 then x7.2.1 else x7.1) ≤ (5000000000000000 : Int))))) || (decide (x7.2.2.1 < (1 : Int)))) || (decide (x7.2.2.1 > (IntKind.i64.wrap (x7.2.1 - x7.1) : Int))))), (50, Bv ((((!((decide (x10 ≥ (-5000000000000000 : Int))) && (decide ((if x7.1 < x7.2.1 then x7.2.1 else x7.1) ≤ (5000000000000000 : Int))))) || (decide (x7.2.2.1 < (1 : Int)))) || (decide (x7.2.2.1 > (IntKind.i64.wrap (x7.2.1 - x7.1) : Int)))) || (decide (x7.2.2.2 < (1 : Int))))), (51, Bv ((((!((decide (x10 ≥ (-5000000000000000 : Int))) && (decide ((if x7.1 < x7.2.1 then x7.2.1 else x7.1) ≤ (5000000000000000 : Int))))) || (decide (x7.2.2.1 < (1 : Int)))) || (decide (x7.2.2.1 > (IntKind.i64.wrap (x7.2.1 - x7.1) : Int)))) || (decide (x7.2.2.2 < (1 : Int))))), (55, Bv (((((!((decide (x10 ≥ (-5000000000000000 : Int))) && (decide ((if x7.1 < x7.2.1 then x7.2.1 else x7.1) ≤ (5000000000000000 : Int))))) || (decide (x7.2.2.1 < (1 : Int)))) || (decide (x7.2.2.1 > (IntKind.i64.wrap (x7.2.1 - x7.1) : Int)))) || (decide (x7.2.2.2 < (1 : Int)))) || (decide (x7.2.2.2 > (1000000 : Int)))))] ∧ St w0 w noX [rdE 4 E24 s1 x2] [pt b8 (Cs #[Iv x7.1, Iv x7.2.1, Iv x7.2.2.1, Iv x7.2.2.2] 24)]) rfl ?_ ?_
    ·rcases Bool.eq_false_or_eq_true ((((!((decide (x10 ≥ (-5000000000000000 : Int))) && (decide ((if x7.1 < x7.2.1 then x7.2.1 else x7.1) ≤ (5000000000000000 : Int))))) || (decide (x7.2.2.1 < (1 : Int)))) || (decide (x7.2.2.1 > (IntKind.i64.wrap (x7.2.1 - x7.1) : Int)))) || (decide (x7.2.2.2 < (1 : Int)))) with hb14 | hb14
     ·refine O.skipB hf rfl rfl rfl hb14 rfl ?_; clear hf a; intro a hf
      refine O.skipB hf rfl rfl rfl hb14 rfl ?_; clear hf a; intro a hf
      refine O.skipB hf rfl rfl rfl hb14 rfl ?_; clear hf a; intro a hf
      refine O.val (v := Bv (((((!((decide (x10 ≥ (-5000000000000000 : Int))) && (decide ((if x7.1 < x7.2.1 then x7.2.1 else x7.1) ≤ (5000000000000000 : Int))))) || (decide (x7.2.2.1 < (1 : Int)))) || (decide (x7.2.2.1 > (IntKind.i64.wrap (x7.2.1 - x7.1) : Int)))) || (decide (x7.2.2.2 < (1 : Int)))) || (decide (x7.2.2.2 > (1000000 : Int))))) hf rfl rfl rfl (RunV.pick rfl rfl rfl (by rw [hb14]; rfl)) ?_; clear hf a; intro a hf
      exact O.nil ⟨rfl, hf.to ⟨rfl, rfl, rfl, rfl, rfl, rfl, rfl, rfl, rfl, rfl, rfl, rfl, rfl, rfl, rfl, rfl, rfl, rfl, rfl, rfl, rfl, rfl, rfl, rfl, rfl, rfl, rfl, trivial⟩, hS⟩
     ·refine O.gvalB hf rfl rfl rfl hb14 rfl rfl (RunV.field T_field_24_3 rfl rfl) ?_; clear hf a; intro a hf
      refine O.gvalB hf rfl rfl rfl hb14 rfl rfl (RunV.load1 T_agg_3 rfl (hS.ptAt (i := 0) rfl) rfl) ?_; clear hf a; intro a hf
      refine O.gvalB (v := Bv (decide (x7.2.2.2 > (1000000 : Int)))) hf rfl rfl rfl hb14 rfl rfl (RunV.gtr rfl rfl) ?_; clear hf a; intro a hf
      refine O.val (v := Bv (((((!((decide (x10 ≥ (-5000000000000000 : Int))) && (decide ((if x7.1 < x7.2.1 then x7.2.1 else x7.1) ≤ (5000000000000000 : Int))))) || (decide (x7.2.2.1 < (1 : Int)))) || (decide (x7.2.2.1 > (IntKind.i64.wrap (x7.2.1 - x7.1) : Int)))) || (decide (x7.2.2.2 < (1 : Int)))) || (decide (x7.2.2.2 > (1000000 : Int))))) hf rfl rfl rfl (RunV.pick rfl rfl rfl (by rw [hb14]; rfl)) ?_; clear hf a; intro a hf
      exact O.nil ⟨rfl, hf.to ⟨rfl, rfl, rfl, rfl, rfl, rfl, rfl, rfl, rfl, rfl, rfl, rfl, rfl, rfl, rfl, rfl, rfl, rfl, rfl, rfl, rfl, rfl, rfl, rfl, rfl, rfl, rfl, trivial⟩, hS⟩
    clear hf hS a; try clear w
    rintro a w ⟨hf, hS⟩
    refine O.nil ?_
    refine k_seq ?_
    refine W.if_ hf rfl (fun hc15 => ?_) (fun hc15 => ?_)
    ·replace hm := hm_t hm hc15
     refine W.seq ?_
     refine W.regionL (l := [0]) rfl ?_
     refine O.val hf rfl rfl rfl (RunV.assign rfl) ?_; clear hf a; intro a hf
     refine O.nil ?_
     refine k_seq ?_
     refine W.ret ?_
     refine k_blk_ret ?_
     refine k_then_ret ?_
     refine k_then_ret ?_
     refine k_blk_ret ?_
     refine k_then_ret ?_
     obtain rfl := Option.some.inj hm
     refine post1 hf rfl (ResOK.tmp rfl) ?_
     replace hS := hS.sub (N := []) (.cons _ .slnil)
     exact ⟨(), rfl, hS.noB⟩
    ·replace hm := hm_f hm hc15
     refine W.skip ?_
     refine k_blk_normal ?_
     refine k_seq ?_
     refine W.regionL (l := [0, 1]) rfl ?_
     refine O.val (v := Iv (IntKind.i64.wrap (x4 + 1))) hf rfl rfl rfl (RunV.add rfl rfl) ?_; clear hf a; intro a hf
     refine O.val hf rfl rfl rfl (RunV.move rfl) ?_; clear hf a; intro a hf
     refine O.nil ?_
     replace hS := hS.sub (N := []) (.cons _ .slnil)
     refine k_then ⟨(k5, IntKind.i64.wrap (x4 + 1)), ⟨hf.to ⟨rfl, rfl, rfl, rfl, trivial⟩, hS, ?_⟩, Nat.lt_succ_self _⟩
     rw [hrec5] at hm; exact hm
   ·replace hm := hm_n hm hc6
    refine W.exit ?_
    refine k_then_exit ?_
    refine k_then_exit ?_
    refine k_blk ?_
    exact k_then ⟨hf.to ⟨rfl, trivial⟩, hS, hm⟩
  ·clear hf hS hm a; try clear w
   rintro a w ⟨hf, hS, hm⟩
   unfold m_plan_Check_j1 at hm
   refine W.seq ?_
   refine W.regionL (l := [0]) rfl ?_
   refine O.val hf rfl rfl rfl (RunV.assign rfl) ?_; clear hf a; intro a hf
   refine O.nil ?_
   refine k_seq ?_
   refine W.ret ?_
   obtain rfl := Option.some.inj hm
   refine post1 hf rfl (ResOK.tmp rfl) ?_
   exact ⟨(), rfl, hS.noB⟩

def m_plan_run_then_2_j1 (F : Nat) (x8 : Int) (x2 : List (Int × Int)) (x5 : Int) (x4 : Int) (x9 : Int) (x7 : Int) (x13 : Int) : Option ((List (Int × Int)) × Int × Int × Bool) :=
  (some (IntKind.i64.wrap (x13 + x8))).bind fun x14 => if (x2.length : Int) ≤ 4294967296 then some (x2 ++ [(x5, x13)], x14, IntKind.i64.wrap (x4 + x9), decide (x14 ≤ (x7 : Int))) else none
def m_plan_run_then_2 (F : Nat)  (x2 : List (Int × Int)) (x3 : Int) (x4 : Int) (x5 : Int) (x6 : Int) (x7 : Int) (x8 : Int) (x9 : Int) : Option ((List (Int × Int)) × Int × Int × Bool) :=
  if (x2.length : Int) > (0 : Int) then (m_plan_run_then_2_j1 F x8 x2 x5 x4 x9 x7 (if x6 < x3 then x3 else x6)) else (m_plan_run_then_2_j1 F x8 x2 x5 x4 x9 x7 x6)
set_option maxHeartbeats 1000000 in
set_option maxRecDepth 8000 in
theorem m_plan_run_then_2_ok (F : Nat)    (s1 : Value) (x2 : List (Int × Int)) (x3 : Int) (x4 : Int) (x5 : Int) (x6 : Int) (x7 : Int) (x8 : Int) (x9 : Int) (w0 : World) (h_s1 : rdEOK (hp w0) 2 E33 s1 x2) (r : (List (Int × Int)) × Int × Int × Bool) (hm : m_plan_run_then_2 F x2 x3 x4 x5 x6 x7 x8 x9 = some r) :
    Ret Try.prog 23 #[.agg #[s1, Iv x3, Iv x4], Iv x5, .agg #[Iv x6, Iv x7, Iv x8, Iv x9]] w0 (G := Value) (fun g1 => .tuple #[.agg #[g1, Iv r.2.1, Iv r.2.2.1], Bv r.2.2.2]) (fun g1 w => St w0 w noX [] [slE 33 2 E33 g1 r.1]) := by
 unfold m_plan_run_then_2 at hm
 refine ret_of_W (lv := [.agg #[s1, Iv x3, Iv x4], Iv x5, .agg #[Iv x6, Iv x7, Iv x8, Iv x9]]) Try.func23 rfl rfl rfl (fun a hf => ?_)
 replace hf : Fr a 51 [] [(0, .agg #[s1, Iv x3, Iv x4]), (1, Iv x5), (2, .agg #[Iv x6, Iv x7, Iv x8, Iv x9])] := hf
 have hS : St w0 w0 noX [rdE 2 E33 s1 x2] [] := St.borrow (lendAll_cons (lendRd h_s1) lendAll_nil)
 refine W.seq ?_
 refine W.regionL (l := [0, 1, 2, 3]) rfl ?_
 refine O.box (cs := #[s1, Iv x3, Iv x4]) hf hS rfl rfl rfl rfl ?_
 clear hf hS a; intro b10 w a hb10 hS hf
 refine O.box (cs := #[Iv x6, Iv x7, Iv x8, Iv x9]) hf hS rfl rfl rfl rfl ?_
 clear hf hS a; intro b11 w a hb11 hS hf
 refine O.alloc (cs := #[.slice none 0 0, Iv 0, Iv 0]) hf hS rfl rfl T_zero_61 rfl ?_
 clear hf hS a; intro b12 w a hb12 hS hf
 refine O.val hf rfl rfl rfl (RunV.assign rfl) ?_; clear hf a; intro a hf
 refine O.nil ?_
 refine k_seq ?_
 replace hf : Fr a 51 [] [(1, Iv x5), (3, Pv b10 0), (5, Pv b11 0), (6, Pv b12 0), (7, Bv false)] := hf.to ⟨rfl, rfl, rfl, rfl, rfl, trivial⟩
 refine W.seq ?_
 refine W.regionL (l := [0, 1, 2]) rfl ?_
 refine O.val hf rfl rfl rfl (RunV.field T_field_24_0 rfl rfl) ?_; clear hf a; intro a hf
 refine O.val hf rfl rfl rfl (RunV.load1 T_agg_2 rfl (hS.ptAt (i := 1) rfl) rfl) ?_; clear hf a; intro a hf
 refine O.val hf rfl rfl rfl (RunV.assign rfl) ?_; clear hf a; intro a hf
 refine O.nil ?_
 refine k_seq ?_
 replace hf : Fr a 51 [] [(1, Iv x5), (3, Pv b10 0), (5, Pv b11 0), (6, Pv b12 0), (7, Bv false), (8, Iv x6)] := hf.to ⟨rfl, rfl, rfl, rfl, rfl, rfl, trivial⟩
 refine W.seqR (fun a w => ∃ (x13 : Int), Fr a 51 [] [(1, Iv x5), (3, Pv b10 0), (5, Pv b11 0), (6, Pv b12 0), (7, Bv false), (8, Iv x13)] ∧ St w0 w noX [rdE 2 E33 s1 x2] [pt b10 (Cs #[s1, Iv x3, Iv x4] 61), pt b11 (Cs #[Iv x6, Iv x7, Iv x8, Iv x9] 24), pt b12 (Cs #[.slice none 0 0, Iv 0, Iv 0] 61)] ∧ m_plan_run_then_2_j1 F x8 x2 x5 x4 x9 x7 x13 = some r) ?_ ?_
 ·refine W.seq ?_
  refine W.regionL (l := [0, 1, 2, 3]) rfl ?_
  refine O.val hf rfl rfl rfl (RunV.field T_field_61_0 rfl rfl) ?_; clear hf a; intro a hf
  refine O.val hf rfl rfl rfl (RunV.load1 T_agg_27 rfl (hS.ptAt (i := 2) rfl) rfl) ?_; clear hf a; intro a hf
  refine O.val (v := Iv (x2.length : Int)) hf rfl rfl rfl (RunV.lenE (e := 33) (by simpa using T_elem_27) rfl (hS.rdB (j := 0) rfl)) ?_; clear hf a; intro a hf
  refine O.val (v := Bv (decide ((x2.length : Int) > (0 : Int)))) hf rfl rfl rfl (RunV.gtr rfl rfl) ?_; clear hf a; intro a hf
  refine O.nil ?_
  refine k_seq ?_
  replace hf : Fr a 51 [] [(1, Iv x5), (3, Pv b10 0), (5, Pv b11 0), (6, Pv b12 0), (7, Bv false), (8, Iv x6), (16, Bv (decide ((x2.length : Int) > (0 : Int))))] := hf.to ⟨rfl, rfl, rfl, rfl, rfl, rfl, rfl, trivial⟩
  refine W.ifdI hf rfl (fun hc18 => ?_) (fun hc18 => ?_)
  ·replace hm := hm_p hm hc18
   refine W.regionL (l := [0, 1, 2, 3, 4]) rfl ?_
   refine O.val hf rfl rfl rfl (RunV.move rfl) ?_; clear hf a; intro a hf
   refine O.val hf rfl rfl rfl (RunV.field T_field_61_1 rfl rfl) ?_; clear hf a; intro a hf
   refine O.val hf rfl rfl rfl (RunV.load1 T_agg_2 rfl (hS.ptAt (i := 2) rfl) rfl) ?_; clear hf a; intro a hf
   refine O.val (v := Iv (if x6 < x3 then x3 else x6)) hf rfl rfl rfl (RunV.max rfl rfl) ?_; clear hf a; intro a hf
   refine O.val hf rfl rfl rfl (RunV.assign rfl) ?_; clear hf a; intro a hf
   refine O.nil ?_
   replace hS := hS.front (i := 1) (M' := [pt b11 (Cs #[Iv x6, Iv x7, Iv x8, Iv x9] 24), pt b12 (Cs #[.slice none 0 0, Iv 0, Iv 0] 61), pt b10 (Cs #[s1, Iv x3, Iv x4] 61)]) rfl rfl
   replace hS := hS.front (i := 2) (M' := [pt b10 (Cs #[s1, Iv x3, Iv x4] 61), pt b11 (Cs #[Iv x6, Iv x7, Iv x8, Iv x9] 24), pt b12 (Cs #[.slice none 0 0, Iv 0, Iv 0] 61)]) rfl rfl
   exact k_then ⟨if x6 < x3 then x3 else x6, hf.to ⟨rfl, rfl, rfl, rfl, rfl, rfl, trivial⟩, hS, hm⟩
  ·replace hm := hm_n hm hc18
   refine W.skip ?_
   replace hS := hS.front (i := 1) (M' := [pt b11 (Cs #[Iv x6, Iv x7, Iv x8, Iv x9] 24), pt b12 (Cs #[.slice none 0 0, Iv 0, Iv 0] 61), pt b10 (Cs #[s1, Iv x3, Iv x4] 61)]) rfl rfl
   replace hS := hS.front (i := 2) (M' := [pt b10 (Cs #[s1, Iv x3, Iv x4] 61), pt b11 (Cs #[Iv x6, Iv x7, Iv x8, Iv x9] 24), pt b12 (Cs #[.slice none 0 0, Iv 0, Iv 0] 61)]) rfl rfl
   exact k_then ⟨x6, hf.to ⟨rfl, rfl, rfl, rfl, rfl, rfl, trivial⟩, hS, hm⟩
 ·clear hf hS hm a; try clear w
  rintro a w ⟨x13, hf, hS, hm⟩
  unfold m_plan_run_then_2_j1 at hm
  refine W.seq ?_
  refine W.regionL (l := [0, 1, 2, 3, 4]) rfl ?_
  refine O.val hf rfl rfl rfl (RunV.move rfl) ?_; clear hf a; intro a hf
  refine O.val hf rfl rfl rfl (RunV.field T_field_24_2 rfl rfl) ?_; clear hf a; intro a hf
  refine O.val hf rfl rfl rfl (RunV.load1 T_agg_2 rfl (hS.ptAt (i := 1) rfl) rfl) ?_; clear hf a; intro a hf
  refine O.val (v := Iv (IntKind.i64.wrap (x13 + x8))) hf rfl rfl rfl (RunV.add rfl rfl) ?_; clear hf a; intro a hf
  refine O.val hf rfl rfl rfl (RunV.assign rfl) ?_; clear hf a; intro a hf
  refine O.nil ?_
  refine k_seq ?_
  replace hf : Fr a 51 [] [(1, Iv x5), (3, Pv b10 0), (5, Pv b11 0), (6, Pv b12 0), (7, Bv false), (8, Iv x13), (9, Iv (IntKind.i64.wrap (x13 + x8)))] := hf.to ⟨rfl, rfl, rfl, rfl, rfl, rfl, rfl, trivial⟩
  obtain ⟨x14, hx14, hm⟩ := hm_b hm
  rw [Option.some.inj hx14] at hf
  refine W.seq ?_
  refine W.regionL (l := [0, 1, 2, 3, 4, 5, 6, 7, 8, 9, 10, 11, 12, 13, 14]) rfl ?_
  refine O.val hf rfl rfl rfl (RunV.field T_field_61_0 rfl rfl) ?_; clear hf a; intro a hf
  refine O.val hf rfl rfl rfl (RunV.load1 T_agg_27 rfl (hS.ptAt (i := 0) rfl) rfl) ?_; clear hf a; intro a hf
  refine O.val hf rfl rfl rfl (RunV.field T_field_61_0 rfl rfl) ?_; clear hf a; intro a hf
  refine O.val hf rfl rfl rfl (RunV.load1 T_agg_27 rfl (hS.ptAt (i := 0) rfl) rfl) ?_; clear hf a; intro a hf
  refine O.val (v := Iv (x2.length : Int)) hf rfl rfl rfl (RunV.lenE (e := 33) (by simpa using T_elem_27) rfl (hS.rdB (j := 0) rfl)) ?_; clear hf a; intro a hf
  refine O.val hf rfl rfl rfl (RunV.field T_field_61_0 rfl rfl) ?_; clear hf a; intro a hf
  refine O.val hf rfl rfl rfl (RunV.load1 T_agg_27 rfl (hS.ptAt (i := 0) rfl) rfl) ?_; clear hf a; intro a hf
  refine O.val (v := Iv (x2.length : Int)) hf rfl rfl rfl (RunV.lenE (e := 33) (by simpa using T_elem_27) rfl (hS.rdB (j := 0) rfl)) ?_; clear hf a; intro a hf
  refine O.val (v := vfull s1) hf rfl rfl rfl (RunV.sliceFull T_elem_27 T_size_33 rfl rfl rfl (hS.rdB (j := 0) rfl) rfl rfl) ?_; clear hf a; intro a hf
  refine O.val hf rfl rfl rfl (RunV.move rfl) ?_; clear hf a; intro a hf
  refine O.val hf rfl rfl rfl (RunV.move rfl) ?_; clear hf a; intro a hf
  refine O.val (v := .agg #[Iv x5, Iv x13]) hf rfl rfl rfl (RunV.buildS (cs' := #[Iv x5, Iv x13]) T_places_33 T_zero_33 rfl (by kernel_rfl)) ?_; clear hf a; intro a hf
  refine O.buildSlice (cs' := #[Iv x5, Iv x13]) (zs := #[Iv 0, Iv 0]) hf hS rfl rfl T_elem_27 T_size_33 T_zero_33 rfl rfl rfl rfl rfl ?_
  clear hf hS a; intro b15 w a hb15 hS hf
  obtain ⟨hg16, hm⟩ := hm_g hm
  refine O.appendFull (jj := 0) (enc := E33) (m := [(x5, x13)]) (l' := x2 ++ [(x5, x13)]) hf hS rfl rfl T_elem_27 T_size_33 T_bytes_33 T_zero_33 rfl rfl rfl rfl (hS.rdB (j := 0) rfl) rfl rfl rfl rfl rfl rfl rfl hg16 rfl rfl ?_
  clear hf hS a; intro s17 w a hS hf
  replace hS : St w0 _ noX [rdE 2 E33 s1 x2] [slE 33 2 E33 s17 (x2 ++ [(x5, x13)]), pt b15 (Cs #[Iv x5, Iv x13] 33), pt b10 (Cs #[s1, Iv x3, Iv x4] 61), pt b11 (Cs #[Iv x6, Iv x7, Iv x8, Iv x9] 24), pt b12 (Cs #[.slice none 0 0, Iv 0, Iv 0] 61)] := hS
  refine O.val hf rfl rfl rfl (RunV.assign rfl) ?_; clear hf a; intro a hf
  refine O.nil ?_
  refine k_seq ?_
  replace hf : Fr a 51 [] [(3, Pv b10 0), (5, Pv b11 0), (6, Pv b12 0), (7, Bv false), (9, Iv x14), (10, s17)] := hf.to ⟨rfl, rfl, rfl, rfl, rfl, rfl, trivial⟩
  refine W.seq ?_
  have hf1 : Fr a 51 [] [(7, Bv false)] := hf.to ⟨rfl, trivial⟩
  replace hf : Fr a 51 [] [(3, Pv b10 0), (5, Pv b11 0), (6, Pv b12 0), (9, Iv x14), (10, s17)] := hf.to ⟨rfl, rfl, rfl, rfl, rfl, trivial⟩
  refine W.drawC (γ := Unit) (L0 := [(3, Pv b10 0), (5, Pv b11 0), (6, Pv b12 0), (9, Iv x14), (10, s17)]) (L1 := [(7, Bv false)]) () [12] [] [0, 1, 2, 3, 4, 5, 6, 7, 8, 9, 10, 11, 13] (fun i => match i with | 3 => [2] | 5 => [4] | 6 => [3, 5] | 7 => [0, 1, 6] | 10 => [9] | 11 => [8, 10] | 12 => [0, 1, 2, 3, 4, 5, 6, 7] | 13 => [0, 1, 2, 3, 4, 5, 6, 7, 8, 9, 10, 11, 12] | _ => []) (fun i => match i with | 13 => [12] | _ => []) (fun i => match i with | 0 => [12] | 1 => [12] | 2 => [12] | 3 => [12] | 4 => [12] | 5 => [12] | 6 => [12] | 7 => [12] | _ => []) (fun _ => []) (fun i => match i with | 12 => [13] | _ => []) (fun _ => []) (fun i => match i with | 13 => 1 | _ => 0) (fun i => match i with | 8 => 1 | 9 => 1 | 10 => 1 | 11 => 1 | 12 => 1 | 13 => 1 | _ => 0) (fun (g : Unit) j => match j with | 0 => s17 | 1 => Iv x14 | 2 => Pv b10 2 | 3 => Iv x4 | 4 => Pv b11 3 | 5 => Iv x9 | 6 => Iv (IntKind.i64.wrap (x4 + x9)) | 7 => .agg #[s17, Iv x14, Iv (IntKind.i64.wrap (x4 + x9))] | 8 => Iv x14 | 9 => Pv b11 1 | 10 => Iv x7 | 11 => Bv (decide (x14 ≤ (x7 : Int))) | 13 => Bv (decide (x14 ≤ (x7 : Int))) | _ => undef) (fun k s (g : Unit) w => match k with | 0 => St w0 w noX [rdE 2 E33 s1 x2] [slE 33 2 E33 s17 (x2 ++ [(x5, x13)]), pt b15 (Cs #[Iv x5, Iv x13] 33), pt b10 (Cs #[s1, Iv x3, Iv x4] 61), pt b11 (Cs #[Iv x6, Iv x7, Iv x8, Iv x9] 24), pt b12 (Cs #[.slice none 0 0, Iv 0, Iv 0] 61)] | _ => St w0 w noX [rdE 2 E33 s1 x2] [slE 33 2 E33 s17 (x2 ++ [(x5, x13)]), pt b15 (Cs #[Iv x5, Iv x13] 33), pt b10 (Cs #[s1, Iv x3, Iv x4] 61), pt b11 (Cs #[Iv x6, Iv x7, Iv x8, Iv x9] 24), pt b12 (Cs #[s17, Iv x14, Iv (IntKind.i64.wrap (x4 + x9))] 61)]) P_mixed (by kernel_rfl) (by kernel_rfl) (by kernel_rfl) hf hf1 hS.drew ?_ ?_ ?_ ?_
  ·clear hf hf1 hS
   refine ⟨fun k s g w _ _ _ hD a hf => Q.val (v := s17) rfl rfl rfl hD hf (RunV.move rfl), fun k s g w _ _ _ hD a hf => Q.val (v := Iv x14) rfl rfl rfl hD hf (RunV.move rfl), fun k s g w _ _ _ hD a hf => Q.val (v := Pv b10 2) rfl rfl rfl hD hf (RunV.field T_field_61_2 rfl rfl), ?_, fun k s g w _ _ _ hD a hf => Q.val (v := Pv b11 3) rfl rfl rfl hD hf (RunV.field T_field_24_3 rfl rfl), ?_, fun k s g w _ _ _ hD a hf => Q.val (v := Iv (IntKind.i64.wrap (x4 + x9))) rfl rfl rfl hD hf (RunV.add rfl rfl), ?_, fun k s g w _ _ _ hD a hf => Q.val (v := Iv x14) rfl rfl rfl hD hf (RunV.move rfl), fun k s g w _ _ _ hD a hf => Q.val (v := Pv b11 1) rfl rfl rfl hD hf (RunV.field T_field_24_1 rfl rfl), ?_, fun k s g w _ _ _ hD a hf => Q.val (v := Bv (decide (x14 ≤ (x7 : Int)))) rfl rfl rfl hD hf (RunV.leq rfl rfl), fun k s g w _ _ _ hD a hf => Q.val (v := Bv (decide (x14 ≤ (x7 : Int)))) rfl rfl rfl hD hf (RunV.assign rfl), trivial⟩
   ·intro k s g w h1_ h2_ hsp hD a hf
    rcases k with _ | k
    ·have hS : St w0 w noX [rdE 2 E33 s1 x2] [slE 33 2 E33 s17 (x2 ++ [(x5, x13)]), pt b15 (Cs #[Iv x5, Iv x13] 33), pt b10 (Cs #[s1, Iv x3, Iv x4] 61), pt b11 (Cs #[Iv x6, Iv x7, Iv x8, Iv x9] 24), pt b12 (Cs #[.slice none 0 0, Iv 0, Iv 0] 61)] := hD; clear hD
     replace hf : Fr a 51 [] [(41, Pv b10 2), (3, Pv b10 0), (5, Pv b11 0), (6, Pv b12 0), (9, Iv x14), (10, s17)] := hf
     exact Q.val (v := Iv x4) rfl rfl rfl hS hf (RunV.load1 T_agg_3 rfl (hS.ptAt (i := 2) rfl) rfl)
    ·exact absurd h2_ (by simp)
   ·intro k s g w h1_ h2_ hsp hD a hf
    rcases k with _ | k
    ·have hS : St w0 w noX [rdE 2 E33 s1 x2] [slE 33 2 E33 s17 (x2 ++ [(x5, x13)]), pt b15 (Cs #[Iv x5, Iv x13] 33), pt b10 (Cs #[s1, Iv x3, Iv x4] 61), pt b11 (Cs #[Iv x6, Iv x7, Iv x8, Iv x9] 24), pt b12 (Cs #[.slice none 0 0, Iv 0, Iv 0] 61)] := hD; clear hD
     replace hf : Fr a 51 [] [(43, Pv b11 3), (3, Pv b10 0), (5, Pv b11 0), (6, Pv b12 0), (9, Iv x14), (10, s17)] := hf
     exact Q.val (v := Iv x9) rfl rfl rfl hS hf (RunV.load1 T_agg_3 rfl (hS.ptAt (i := 3) rfl) rfl)
    ·exact absurd h2_ (by simp)
   ·intro k s g w h1_ h2_ hsp hD a hf
    rcases k with _ | k
    ·have hS : St w0 w noX [rdE 2 E33 s1 x2] [slE 33 2 E33 s17 (x2 ++ [(x5, x13)]), pt b15 (Cs #[Iv x5, Iv x13] 33), pt b10 (Cs #[s1, Iv x3, Iv x4] 61), pt b11 (Cs #[Iv x6, Iv x7, Iv x8, Iv x9] 24), pt b12 (Cs #[.slice none 0 0, Iv 0, Iv 0] 61)] := hD; clear hD
     replace hf : Fr a 51 [] [(39, s17), (40, Iv x14), (45, Iv (IntKind.i64.wrap (x4 + x9))), (3, Pv b10 0), (5, Pv b11 0), (6, Pv b12 0), (9, Iv x14), (10, s17)] := hf
     exact Q.val (v := .agg #[s17, Iv x14, Iv (IntKind.i64.wrap (x4 + x9))]) rfl rfl rfl hS hf (RunV.buildS (cs' := #[s17, Iv x14, Iv (IntKind.i64.wrap (x4 + x9))]) T_places_61 T_zero_61 rfl (by simp only [Instr.fill, (rdEOK_cells (hS.rdS (j := 0) rfl))]; rfl))
    ·exact absurd h2_ (by simp)
   ·intro k s g w h1_ h2_ hsp hD a hf
    rcases k with _ | _ | k
    ·have hS : St w0 w noX [rdE 2 E33 s1 x2] [slE 33 2 E33 s17 (x2 ++ [(x5, x13)]), pt b15 (Cs #[Iv x5, Iv x13] 33), pt b10 (Cs #[s1, Iv x3, Iv x4] 61), pt b11 (Cs #[Iv x6, Iv x7, Iv x8, Iv x9] 24), pt b12 (Cs #[.slice none 0 0, Iv 0, Iv 0] 61)] := hD; clear hD
     replace hf : Fr a 51 [] [(48, Pv b11 1), (3, Pv b10 0), (5, Pv b11 0), (6, Pv b12 0), (9, Iv x14), (10, s17)] := hf
     exact Q.val (v := Iv x7) rfl rfl rfl hS hf (RunV.load1 T_agg_2 rfl (hS.ptAt (i := 3) rfl) rfl)
    ·have hS : St w0 w noX [rdE 2 E33 s1 x2] [slE 33 2 E33 s17 (x2 ++ [(x5, x13)]), pt b15 (Cs #[Iv x5, Iv x13] 33), pt b10 (Cs #[s1, Iv x3, Iv x4] 61), pt b11 (Cs #[Iv x6, Iv x7, Iv x8, Iv x9] 24), pt b12 (Cs #[s17, Iv x14, Iv (IntKind.i64.wrap (x4 + x9))] 61)] := hD; clear hD
     replace hf : Fr a 51 [] [(48, Pv b11 1), (3, Pv b10 0), (5, Pv b11 0), (6, Pv b12 0), (9, Iv x14), (10, s17)] := hf
     exact Q.val (v := Iv x7) rfl rfl rfl hS hf (RunV.load1 T_agg_2 rfl (hS.ptAt (i := 3) rfl) rfl)
    ·exact absurd h2_ (by simp)
  ·clear hf hf1 hS
   refine ⟨?_, trivial⟩
   ·intro s g w hsp hD a hf
    have hS : St w0 w noX [rdE 2 E33 s1 x2] [slE 33 2 E33 s17 (x2 ++ [(x5, x13)]), pt b15 (Cs #[Iv x5, Iv x13] 33), pt b10 (Cs #[s1, Iv x3, Iv x4] 61), pt b11 (Cs #[Iv x6, Iv x7, Iv x8, Iv x9] 24), pt b12 (Cs #[.slice none 0 0, Iv 0, Iv 0] 61)] := hD; clear hD
    replace hf : Fr a 51 [] [(39, s17), (40, Iv x14), (41, Pv b10 2), (42, Iv x4), (43, Pv b11 3), (44, Iv x9), (45, Iv (IntKind.i64.wrap (x4 + x9))), (46, .agg #[s17, Iv x14, Iv (IntKind.i64.wrap (x4 + x9))]), (3, Pv b10 0), (5, Pv b11 0), (6, Pv b12 0), (9, Iv x14), (10, s17)] := hf
    refine O.store (j := 4) (cs' := #[s17, Iv x14, Iv (IntKind.i64.wrap (x4 + x9))]) (M' := [slE 33 2 E33 s17 (x2 ++ [(x5, x13)]), pt b15 (Cs #[Iv x5, Iv x13] 33), pt b10 (Cs #[s1, Iv x3, Iv x4] 61), pt b11 (Cs #[Iv x6, Iv x7, Iv x8, Iv x9] 24), pt b12 (Cs #[s17, Iv x14, Iv (IntKind.i64.wrap (x4 + x9))] 61)]) hf hS rfl rfl rfl T_size_61 rfl (oneCells_cc (rdEOK_one (hS.rdS (j := 0) rfl)) (oneCells_cc rfl (oneCells_cc rfl rfl))) rfl (Nat.le_of_ble_eq_true rfl) rfl rfl ?_
    clear hS; intro w hS
    exact O.nil ⟨rfl, (), hf.to trivial, (fun d hd => by cases (show none = some d from hd)), (fun _ _ _ => rfl), hS⟩
  ·clear hf hf1 hS
   exact trivial
  clear hf hf1 hS; intro s g a w hs hf hD
  have hS : St w0 w noX [rdE 2 E33 s1 x2] [slE 33 2 E33 s17 (x2 ++ [(x5, x13)]), pt b15 (Cs #[Iv x5, Iv x13] 33), pt b10 (Cs #[s1, Iv x3, Iv x4] 61), pt b11 (Cs #[Iv x6, Iv x7, Iv x8, Iv x9] 24), pt b12 (Cs #[s17, Iv x14, Iv (IntKind.i64.wrap (x4 + x9))] 61)] := hD; clear hD
  replace hf : Fr a 51 [] [(39, s17), (40, Iv x14), (41, Pv b10 2), (42, Iv x4), (43, Pv b11 3), (44, Iv x9), (45, Iv (IntKind.i64.wrap (x4 + x9))), (46, .agg #[s17, Iv x14, Iv (IntKind.i64.wrap (x4 + x9))]), (47, Iv x14), (48, Pv b11 1), (49, Iv x7), (50, Bv (decide (x14 ≤ (x7 : Int)))), (7, Bv (decide (x14 ≤ (x7 : Int)))), (3, Pv b10 0), (5, Pv b11 0), (6, Pv b12 0), (9, Iv x14), (10, s17)] := hf
  refine k_seq ?_
  replace hf : Fr a 51 [] [(6, Pv b12 0), (7, Bv (decide (x14 ≤ (x7 : Int))))] := hf.to ⟨rfl, rfl, trivial⟩
  refine W.ret ?_
  obtain rfl := Option.some.inj hm
  refine post2 hf rfl (ResOK.cellN (cs' := #[s17, Iv x14, Iv (IntKind.i64.wrap (x4 + x9))]) rfl T_agg_61 T_size_61 (hS.ptAt (i := 4) rfl) (Nat.le_of_ble_eq_true rfl) rfl) (ResOK.tmp rfl) ?_
  replace hS := hS.sub (N := [slE 33 2 E33 s17 (x2 ++ [(x5, x13)])]) (.cons_cons _ (.cons _ (.cons _ (.cons _ (.cons _ .slnil)))))
  exact ⟨s17, rfl, hS.noB⟩

def m_plan_Best_1_j1 (F : Nat) (x17 : List (Int × Int)) (x18 : Int) (x19 : Int) : Option ((List (Int × Int)) × Int × Int) :=
  some (x17, x18, x19)
def m_plan_Best_1_j3 (F : Nat) (rec28 : (List (Int × Int)) → Int → Int → Int → Option ((List (Int × Int)) × Int × Int)) (x26 : Int) (x31 : List (Int × Int)) (x32 : Int) (x33 : Int) (x35 : Int) (x36 : Int) (x37 : Int) (x38 : Int) (x39 : Int) (x40 : Int) (x41 : Int) (x42 : Int) (x43 : Int) (x44 : Int) (x45 : Bool) : Option ((List (Int × Int)) × Int × Int) :=
  rec28 x31 x32 x33 (IntKind.i64.wrap (x26 + 1))
def m_plan_Best_1_b2 (F : Nat) (x8 : List (Int × Int × Int × Int)) (x1 : Int) (x2 : Int) (rec9001 : Int → Int → (List (Int × Int × Int × Int)) → Option ((List (Int × Int)) × Int × Int)) (rec28 : (List (Int × Int)) → Int → Int → Int → Option ((List (Int × Int)) × Int × Int)) (x23 : List (Int × Int)) (x24 : Int) (x25 : Int) (x26 : Int) : Option ((List (Int × Int)) × Int × Int) :=
  if x26 < ((x8.length : Int) : Int) then ((idx x8 x26).bind fun x47 => if 0 ≤ x26 then (some (Int.fdiv x1 (2 ^ (min (Int.toNat x26) (IntKind.bits .i64))))).bind fun x50 => (some (bitand .i64 x50 1)).bind fun x51 => if x51 ≠ (0 : Int) then (m_plan_Best_1_j3 F rec28 x26 x23 x24 x25 x47.1 x47.2.1 x47.2.2.1 x47.2.2.2 x47.1 x47.2.1 x47.2.2.1 x47.2.2.2 x50 x51 (decide (x51 ≠ (0 : Int)))) else ((m_plan_run_then_2 F ([(0, 0)]) x2 0 x26 x47.1 x47.2.1 x47.2.2.1 x47.2.2.2).bind fun x55 => if (!x55.2.2.2) = true then (m_plan_Best_1_j3 F rec28 x26 x23 x24 x25 x47.1 x47.2.1 x47.2.2.1 x47.2.2.2 x47.1 x47.2.1 x47.2.2.1 x47.2.2.2 x50 x51 (decide (x51 ≠ (0 : Int)))) else (if 0 ≤ x26 then (rec9001 (bitor .i64 x1 (IntKind.i64.wrap (1 * 2 ^ (min (Int.toNat x26) (IntKind.bits .i64))))) x55.2.1 x8).bind fun x60 => (some (IntKind.i64.wrap (1 * 2 ^ (min (Int.toNat x26) (IntKind.bits .i64))))).bind fun x64 => (some (bitor .i64 x1 x64)).bind fun x65 => (idx x55.1 1).bind fun x66 => if (([x66]).length : Int) ≤ 4294967296 then if (x60.1.length : Int) ≤ 4294967296 then (some (IntKind.i64.wrap (x60.2.2 + x47.2.2.2))).bind fun x73 => if ((decide (x73 > (x25 : Int))) || ((decide (x73 = (x25 : Int))) && (decide (x60.2.1 < (x24 : Int))))) = true then (m_plan_Best_1_j3 F rec28 x26 (([x66]) ++ x60.1) x60.2.1 x73 x47.1 x47.2.1 x47.2.2.1 x47.2.2.2 x47.1 x47.2.1 x47.2.2.1 x47.2.2.2 x50 x51 (decide (x51 ≠ (0 : Int)))) else (m_plan_Best_1_j3 F rec28 x26 x23 x24 x25 x47.1 x47.2.1 x47.2.2.1 x47.2.2.2 x47.1 x47.2.1 x47.2.2.1 x47.2.2.2 x50 x51 (decide (x51 ≠ (0 : Int)))) else none else none else none)) else none) else (m_plan_Best_1_j1 F x23 x24 x25)
def m_plan_Best_1_l2 (F : Nat) (x8 : List (Int × Int × Int × Int)) (x1 : Int) (x2 : Int) (rec9001 : Int → Int → (List (Int × Int × Int × Int)) → Option ((List (Int × Int)) × Int × Int)) : Nat → (List (Int × Int)) → Int → Int → Int → Option ((List (Int × Int)) × Int × Int)
  | 0, _, _, _, _ => none
  | n + 1, x23, x24, x25, x26 => m_plan_Best_1_b2 F x8 x1 x2 rec9001 (m_plan_Best_1_l2 F x8 x1 x2 rec9001 n) x23 x24 x25 x26
def m_plan_Best_1_b (F : Nat) (rec9001 : Int → Int → (List (Int × Int × Int × Int)) → Option ((List (Int × Int)) × Int × Int)) (x1 : Int) (x2 : Int) (x8 : List (Int × Int × Int × Int)) : Option ((List (Int × Int)) × Int × Int) :=
  m_plan_Best_1_l2 F x8 x1 x2 rec9001 F ([] : List (Int × Int)) x2 0 0
def m_plan_Best_1_r (F : Nat)  : Nat → Int → Int → (List (Int × Int × Int × Int)) → Option ((List (Int × Int)) × Int × Int)
  | 0, _, _, _ => none
  | n + 1, x1, x2, x8 => m_plan_Best_1_b F (m_plan_Best_1_r F n) x1 x2 x8
theorem m_plan_Best_1_loop (F : Nat) (x1 x2 : Int) (l : List (Int × Int × Int × Int)) (rec : Int → Int → (List (Int × Int × Int × Int)) → Option ((List (Int × Int)) × Int × Int)) (rest : Int → Int → BRun) (hrec : ∀ u e r, rec u e l = some r → rest u e = r) :
    ∀ (n : Nat) (a : List (Int × Int)) (b c i : Int) (r : List (Int × Int) × Int × Int), m_plan_Best_1_l2 F l x1 x2 rec n a b c i = some r → bestLoop rest l x1 x2 n (a, b, c) i = r
  | 0, a, b, c, i, r, h => absurd (show none = some r from h) (by simp)
  | n + 1, a, b, c, i, r, h => by
    replace h : m_plan_Best_1_b2 F l x1 x2 rec (m_plan_Best_1_l2 F l x1 x2 rec n) a b c i = some r := h
    have ih := m_plan_Best_1_loop F x1 x2 l rec rest hrec n
    unfold m_plan_Best_1_b2 at h
    unfold bestLoop
    by_cases hi : i < (l.length : Int)
    · rw [if_pos hi] at h ⊢
      obtain ⟨t, ht, h⟩ := hm_b h
      simp only [ht]
      obtain ⟨h0, h⟩ := hm_g h
      obtain ⟨x50, e50, h⟩ := hm_b h
      obtain ⟨x51, e51, h⟩ := hm_b h
      have e50 := Option.some.inj e50
      have e51 := Option.some.inj e51
      subst e50 e51
      unfold bestStep
      have hb : IntKind.bits .i64 = 64 := rfl
      rw [hb] at h
      by_cases hbit : bitand .i64 (Int.fdiv x1 (2 ^ (min i.toNat 64))) 1 ≠ 0
      · rw [if_pos hbit] at h ⊢
        exact ih _ _ _ _ _ h
      · rw [if_neg hbit] at h ⊢
        obtain ⟨x55, e55, h⟩ := hm_b h
        have e1 : x55 = ([(0, 0)] ++ [(i, if t.1 < x2 then x2 else t.1)], IntKind.i64.wrap ((if t.1 < x2 then x2 else t.1) + t.2.2.1), IntKind.i64.wrap (0 + t.2.2.2), decide (IntKind.i64.wrap ((if t.1 < x2 then x2 else t.1) + t.2.2.1) ≤ t.2.1)) := by
          unfold m_plan_run_then_2 m_plan_run_then_2_j1 at e55
          simpa using e55.symm
        subst e1
        simp only [Bool.not_eq_true', decide_eq_false_iff_not] at h
        by_cases hen : IntKind.i64.wrap ((if t.1 < x2 then x2 else t.1) + t.2.2.1) ≤ t.2.1
        · simp only [hen, not_true_eq_false, if_false, if_true] at h ⊢
          obtain ⟨_, h⟩ := hm_g h
          obtain ⟨x60, e60, h⟩ := hm_b h
          have e2 := hrec _ _ _ e60
          obtain ⟨x64, e64, h⟩ := hm_b h
          obtain ⟨x65, e65, h⟩ := hm_b h
          obtain ⟨x66, e66, h⟩ := hm_b h
          obtain ⟨_, h⟩ := hm_g h
          obtain ⟨_, h⟩ := hm_g h
          obtain ⟨x73, e73, h⟩ := hm_b h
          have e66 : x66 = (i, if t.1 < x2 then x2 else t.1) := by simpa [idx] using e66.symm
          have e73 := Option.some.inj e73
          subst e66 e73
          rw [e2]
          simp only [Bool.or_eq_true, Bool.and_eq_true, decide_eq_true_eq] at h
          split at h
          · rename_i hc
            rw [if_pos hc]
            exact ih _ _ _ _ _ h
          · rename_i hc
            rw [if_neg hc]
            exact ih _ _ _ _ _ h
        · simp only [hen, not_false_eq_true, if_true, if_false] at h ⊢
          exact ih _ _ _ _ _ h
    · rw [if_neg hi] at h ⊢
      exact Option.some.inj h
theorem m_plan_Best_1_stab (F : Nat) (l : List (Int × Int × Int × Int)) : ∀ (n k : Nat), n ≤ k → ∀ (x1 x2 : Int) (r : List (Int × Int) × Int × Int), m_plan_Best_1_r F n x1 x2 l = some r → bestN F k l x1 x2 = r
  | 0, _, _, x1, x2, r, h => absurd (show none = some r from h) (by simp)
  | n + 1, 0, hk, _, _, _, _ => absurd hk (by omega)
  | n + 1, k + 1, hk, x1, x2, r, h => by
    replace h : m_plan_Best_1_l2 F l x1 x2 (m_plan_Best_1_r F n) F ([] : List (Int × Int)) x2 0 0 = some r := h
    exact m_plan_Best_1_loop F x1 x2 l _ (bestN F k l) (fun u e r hr => m_plan_Best_1_stab F l n k (by omega) u e r hr) F _ _ _ _ r h
theorem m_plan_Best_1_hst (F n : Nat) (hn : n ≤ F) (x1 x2 : Int) (x3 : List (Int × Int × Int × Int)) (r : List (Int × Int) × Int × Int) (h : m_plan_Best_1_r F n x1 x2 x3 = some r) : r = bestN F F x3 x1 x2 :=
  (m_plan_Best_1_stab F x3 n F hn x1 x2 r h).symm
set_option maxHeartbeats 1000000 in
set_option maxRecDepth 8000 in
theorem m_plan_Best_1_b_ok (F : Nat) (rec9001 : Int → Int → (List (Int × Int × Int × Int)) → Option ((List (Int × Int)) × Int × Int)) (hrec9001 : ∀ (x1 : Int) (x2 : Int) (b3 : Nat) (b4 : Nat) (s5 : MTab) (b6 : Nat) (s7 : Value) (x8 : List (Int × Int × Int × Int)) (b9 : Nat) (w0 : World) (h_s7 : rdEOK (hp w0) 4 E24 s7 x8) (h_b4 : memoH w0 33 2 E33 (bestN F F x8) b4 s5) (h_b3 : w0.heap[b3]? = some (.cells #[.map (some b4)] 58 (0, 0))) (h_b6 : w0.heap[b6]? = some (.cells #[s7] 22 (0, 0))) (h_b9 : w0.heap[b9]? = some (.cells #[.func (.func 22) #[] #[Pv b3 0, Pv b6 0, Pv b9 0]] 59 (0, 0))) (ap_s7 : ∀ k, (rdE 4 E24 s7 x8).fp k → ¬ (memoA 33 2 E33 (bestN F F x8) b4 s5).fp k) (ap_b3 : ∀ k, (pt b3 (Cs #[.map (some b4)] 58)).fp k → ¬ (memoA 33 2 E33 (bestN F F x8) b4 s5).fp k) (ap_b6 : ∀ k, (pt b6 (Cs #[s7] 22)).fp k → ¬ (memoA 33 2 E33 (bestN F F x8) b4 s5).fp k) (ap_b9 : ∀ k, (pt b9 (Cs #[.func (.func 22) #[] #[Pv b3 0, Pv b6 0, Pv b9 0]] 59)).fp k → ¬ (memoA 33 2 E33 (bestN F F x8) b4 s5).fp k) (r : (List (Int × Int)) × Int × Int) (hm : rec9001 x1 x2 x8 = some r), Ret Try.prog 22 #[Iv x1, Iv x2, Pv b3 0, Pv b6 0, Pv b9 0] w0 (G := Value × MTab) (fun (g1, g2) => .agg #[g1, Iv r.2.1, Iv r.2.2]) (fun (g1, g2) w => St w0 w (fun k => (memoA 33 2 E33 (bestN F F x8) b4 s5).fp k) [] [memIn (bestN F F x8) g2 g1 r.1, memoA 33 2 E33 (bestN F F x8) b4 g2])) (hst : ∀ (x1 : Int) (x2 : Int) (x8 : List (Int × Int × Int × Int)) (r : (List (Int × Int)) × Int × Int), m_plan_Best_1_b F rec9001 x1 x2 x8 = some r → r = bestN F F x8 x1 x2) (x1 : Int) (x2 : Int) (b3 : Nat) (b4 : Nat) (s5 : MTab) (b6 : Nat) (s7 : Value) (x8 : List (Int × Int × Int × Int)) (b9 : Nat) (w0 : World) (h_s7 : rdEOK (hp w0) 4 E24 s7 x8) (h_b4 : memoH w0 33 2 E33 (bestN F F x8) b4 s5) (h_b3 : w0.heap[b3]? = some (.cells #[.map (some b4)] 58 (0, 0))) (h_b6 : w0.heap[b6]? = some (.cells #[s7] 22 (0, 0))) (h_b9 : w0.heap[b9]? = some (.cells #[.func (.func 22) #[] #[Pv b3 0, Pv b6 0, Pv b9 0]] 59 (0, 0))) (ap_s7 : ∀ k, (rdE 4 E24 s7 x8).fp k → ¬ (memoA 33 2 E33 (bestN F F x8) b4 s5).fp k) (ap_b3 : ∀ k, (pt b3 (Cs #[.map (some b4)] 58)).fp k → ¬ (memoA 33 2 E33 (bestN F F x8) b4 s5).fp k) (ap_b6 : ∀ k, (pt b6 (Cs #[s7] 22)).fp k → ¬ (memoA 33 2 E33 (bestN F F x8) b4 s5).fp k) (ap_b9 : ∀ k, (pt b9 (Cs #[.func (.func 22) #[] #[Pv b3 0, Pv b6 0, Pv b9 0]] 59)).fp k → ¬ (memoA 33 2 E33 (bestN F F x8) b4 s5).fp k) (r : (List (Int × Int)) × Int × Int) (hm : m_plan_Best_1_b F rec9001 x1 x2 x8 = some r) :
    Ret Try.prog 22 #[Iv x1, Iv x2, Pv b3 0, Pv b6 0, Pv b9 0] w0 (G := Value × MTab) (fun (g1, g2) => .agg #[g1, Iv r.2.1, Iv r.2.2]) (fun (g1, g2) w => St w0 w (fun k => (memoA 33 2 E33 (bestN F F x8) b4 s5).fp k) [] [memIn (bestN F F x8) g2 g1 r.1, memoA 33 2 E33 (bestN F F x8) b4 g2]) := by
 have hm0 := hm; unfold m_plan_Best_1_b at hm
 refine ret_of_W (lv := [Iv x1, Iv x2, Pv b3 0, Pv b6 0, Pv b9 0]) Try.func22 rfl rfl rfl (fun a hf => ?_)
 replace hf : Fr a 104 [] [(0, Iv x1), (1, Iv x2), (2, Pv b3 0), (3, Pv b6 0), (4, Pv b9 0)] := hf
 have hS : St w0 w0 (fun k => (memoA 33 2 E33 (bestN F F x8) b4 s5).fp k) [rdE 4 E24 s7 x8, pt b3 (Cs #[.map (some b4)] 58), pt b6 (Cs #[s7] 22), pt b9 (Cs #[.func (.func 22) #[] #[Pv b3 0, Pv b6 0, Pv b9 0]] 59)] [memoA 33 2 E33 (bestN F F x8) b4 s5] := St.ownG h_b4 (lendAll_cons (lendRd h_s7) (lendAll_cons (lendPt h_b3) (lendAll_cons (lendPt h_b6) (lendAll_cons (lendPt h_b9) lendAll_nil)))) (apAll_cons ap_s7 (apAll_cons ap_b3 (apAll_cons ap_b6 (apAll_cons ap_b9 (apAll_nil (q := memoA 33 2 E33 (bestN F F x8) b4 s5))))))
 refine W.seq ?_
 refine W.regionL (l := [0]) rfl ?_
 refine O.alloc (cs := #[.slice none 0 0, Iv 0, Iv 0]) hf hS rfl rfl T_zero_61 rfl ?_
 clear hf hS a; intro b10 w a hb10 hS hf
 refine O.nil ?_
 refine k_seq ?_
 refine W.seq ?_
 refine W.regionL (l := [0, 1, 2, 3, 4]) rfl ?_
 refine O.val hf rfl rfl rfl (RunV.move rfl) ?_; clear hf a; intro a hf
 refine O.val hf rfl rfl rfl (RunV.move rfl) ?_; clear hf a; intro a hf
 refine O.val (v := .agg #[Iv x1, Iv x2]) hf rfl rfl rfl (RunV.buildA (cs' := #[Iv x1, Iv x2]) T_arr_63 T_size_2 T_zero_63 rfl (by kernel_rfl)) ?_; clear hf a; intro a hf
 refine O.alloc (cs := #[Iv 0, Iv 0]) hf hS rfl rfl T_zero_63 rfl ?_
 clear hf hS a; intro b11 w a hb11 hS hf
 refine O.store (j := 0) (cs' := #[Iv x1, Iv x2]) (M' := [pt b11 (Cs #[Iv x1, Iv x2] 63), pt b10 (Cs #[.slice none 0 0, Iv 0, Iv 0] 61), memoA 33 2 E33 (bestN F F x8) b4 s5]) hf hS rfl rfl rfl T_size_63 rfl rfl rfl (Nat.le_of_ble_eq_true rfl) rfl rfl ?_
 clear hS; intro w hS
 refine O.nil ?_
 refine k_seq ?_
 replace hf : Fr a 104 [] [(0, Iv x1), (1, Iv x2), (2, Pv b3 0), (3, Pv b6 0), (4, Pv b9 0), (7, Pv b10 0), (8, Pv b11 0)] := hf.to ⟨rfl, rfl, rfl, rfl, rfl, rfl, rfl, trivial⟩
 refine W.seq ?_
 refine W.seq ?_
 refine W.regionL (l := [0, 1, 2, 3, 4, 5, 6, 7, 8]) rfl ?_
 refine O.val hf rfl rfl rfl (RunV.load1 T_agg_58 rfl (hS.bptAt (i := 1) rfl) rfl) ?_; clear hf a; intro a hf
 refine O.val hf rfl rfl rfl (RunV.loadN (cs' := #[Iv x1, Iv x2]) T_agg_63 T_size_63 rfl (hS.ptAt (i := 0) rfl) (Nat.le_of_ble_eq_true rfl) rfl) ?_; clear hf a; intro a hf
 rcases hS.memoLook (i := 2) rfl T_memo_58 x1 x2 with ⟨s12, hin, hlk⟩ | hlk
 ·replace hm := (show some (bestN F F x8 x1 x2) = some r by rw [hst _ _ _ _ hm0])
  replace hS := hS.inMemo hin
  replace hlk : _ = Result.ok (Value.tuple #[.agg #[s12, .int .i64 (bestN F F x8 x1 x2).2.1, .int .i64 (bestN F F x8 x1 x2).2.2], .bool true]) _ := hlk
  refine O.val (v := .tuple #[.agg #[s12, Iv ((bestN F F x8 x1 x2).2.1), Iv ((bestN F F x8 x1 x2).2.2)], Bv true]) hf rfl rfl rfl (RunV.lk rfl rfl hlk) ?_; clear hf a; intro a hf
  refine O.val hf rfl rfl rfl (RunV.move rfl) ?_; clear hf a; intro a hf
  refine O.val hf rfl rfl rfl (RunV.extract rfl rfl) ?_; clear hf a; intro a hf
  refine O.val hf rfl rfl rfl (RunV.extract rfl rfl) ?_; clear hf a; intro a hf
  refine O.alloc (cs := #[.slice none 0 0, Iv 0, Iv 0]) hf hS rfl rfl T_zero_61 rfl ?_
  clear hf hS a; intro b13 w a hb13 hS hf
  refine O.store (j := 0) (cs' := #[s12, Iv ((bestN F F x8 x1 x2).2.1), Iv ((bestN F F x8 x1 x2).2.2)]) (M' := [pt b13 (Cs #[s12, Iv ((bestN F F x8 x1 x2).2.1), Iv ((bestN F F x8 x1 x2).2.2)] 61), memIn (bestN F F x8) s5 s12 ((bestN F F x8 x1 x2).1), pt b11 (Cs #[Iv x1, Iv x2] 63), pt b10 (Cs #[.slice none 0 0, Iv 0, Iv 0] 61), memoA 33 2 E33 (bestN F F x8) b4 s5]) hf hS rfl rfl rfl T_size_61 rfl (oneCells_cc (rdEOK_one (hS.memRd (i := 4) (j := 1) rfl rfl)) (oneCells_cc rfl (oneCells_cc rfl rfl))) rfl (Nat.le_of_ble_eq_true rfl) rfl rfl ?_
  clear hS; intro w hS
  refine O.val hf rfl rfl rfl (RunV.assign rfl) ?_; clear hf a; intro a hf
  refine O.nil ?_
  refine k_seq ?_
  replace hf : Fr a 104 [] [(0, Iv x1), (1, Iv x2), (2, Pv b3 0), (3, Pv b6 0), (4, Pv b9 0), (7, Pv b10 0), (8, Pv b11 0), (9, Pv b13 0), (10, Bv true)] := hf.to ⟨rfl, rfl, rfl, rfl, rfl, rfl, rfl, rfl, rfl, trivial⟩
  refine W.seq ?_
  refine W.regionL (l := [0]) rfl ?_
  refine O.val hf rfl rfl rfl (RunV.move rfl) ?_; clear hf a; intro a hf
  refine O.nil ?_
  refine k_seq ?_
  replace hf : Fr a 104 [] [(0, Iv x1), (1, Iv x2), (2, Pv b3 0), (3, Pv b6 0), (4, Pv b9 0), (7, Pv b10 0), (8, Pv b11 0), (9, Pv b13 0), (27, Bv true)] := hf.to ⟨rfl, rfl, rfl, rfl, rfl, rfl, rfl, rfl, rfl, trivial⟩
  refine W.if_tt hf rfl ?_
  refine W.seq ?_
  refine W.regionL (l := [0, 1]) rfl ?_
  refine O.val hf rfl rfl rfl (RunV.loadN (cs' := #[s12, Iv ((bestN F F x8 x1 x2).2.1), Iv ((bestN F F x8 x1 x2).2.2)]) T_agg_61 T_size_61 rfl (hS.ptAt (i := 0) rfl) (Nat.le_of_ble_eq_true rfl) rfl) ?_; clear hf a; intro a hf
  refine O.store (j := 3) (cs' := #[s12, Iv ((bestN F F x8 x1 x2).2.1), Iv ((bestN F F x8 x1 x2).2.2)]) (M' := [pt b13 (Cs #[s12, Iv ((bestN F F x8 x1 x2).2.1), Iv ((bestN F F x8 x1 x2).2.2)] 61), memIn (bestN F F x8) s5 s12 ((bestN F F x8 x1 x2).1), pt b11 (Cs #[Iv x1, Iv x2] 63), pt b10 (Cs #[s12, Iv ((bestN F F x8 x1 x2).2.1), Iv ((bestN F F x8 x1 x2).2.2)] 61), memoA 33 2 E33 (bestN F F x8) b4 s5]) hf hS rfl rfl rfl T_size_61 rfl (oneCells_cc (rdEOK_one (hS.memRd (i := 4) (j := 1) rfl rfl)) (oneCells_cc rfl (oneCells_cc rfl rfl))) rfl (Nat.le_of_ble_eq_true rfl) rfl rfl ?_
  clear hS; intro w hS
  refine O.nil ?_
  refine k_seq ?_
  replace hf : Fr a 104 [] [(0, Iv x1), (1, Iv x2), (2, Pv b3 0), (3, Pv b6 0), (4, Pv b9 0), (7, Pv b10 0), (8, Pv b11 0)] := hf.to ⟨rfl, rfl, rfl, rfl, rfl, rfl, rfl, trivial⟩
  refine W.ret ?_
  refine k_then_ret ?_
  obtain rfl := Option.some.inj hm
  refine post1 hf rfl (ResOK.cellN (cs' := #[s12, Iv ((bestN F F x8 x1 x2).2.1), Iv ((bestN F F x8 x1 x2).2.2)]) rfl T_agg_61 T_size_61 (hS.ptAt (i := 3) rfl) (Nat.le_of_ble_eq_true rfl) rfl) ?_
  replace hS := hS.sub (N := [memIn (bestN F F x8) s5 s12 ((bestN F F x8 x1 x2).1), memoA 33 2 E33 (bestN F F x8) b4 s5]) (.cons _ (.cons_cons _ (.cons _ (.cons _ (.cons_cons _ .slnil)))))
  exact ⟨(s12, s5), rfl, hS.noB⟩
 ·refine O.val (v := .tuple #[.agg #[.slice none 0 0, Iv 0, Iv 0], Bv false]) hf rfl rfl rfl (RunV.lk rfl rfl hlk) ?_; clear hf a; intro a hf
  refine O.val hf rfl rfl rfl (RunV.move rfl) ?_; clear hf a; intro a hf
  refine O.val hf rfl rfl rfl (RunV.extract rfl rfl) ?_; clear hf a; intro a hf
  refine O.val hf rfl rfl rfl (RunV.extract rfl rfl) ?_; clear hf a; intro a hf
  refine O.alloc (cs := #[.slice none 0 0, Iv 0, Iv 0]) hf hS rfl rfl T_zero_61 rfl ?_
  clear hf hS a; intro b14 w a hb14 hS hf
  refine O.store (j := 0) (cs' := #[.slice none 0 0, Iv 0, Iv 0]) (M' := [pt b14 (Cs #[.slice none 0 0, Iv 0, Iv 0] 61), pt b11 (Cs #[Iv x1, Iv x2] 63), pt b10 (Cs #[.slice none 0 0, Iv 0, Iv 0] 61), memoA 33 2 E33 (bestN F F x8) b4 s5]) hf hS rfl rfl rfl T_size_61 rfl rfl rfl (Nat.le_of_ble_eq_true rfl) rfl rfl ?_
  clear hS; intro w hS
  refine O.val hf rfl rfl rfl (RunV.assign rfl) ?_; clear hf a; intro a hf
  refine O.nil ?_
  refine k_seq ?_
  replace hf : Fr a 104 [] [(0, Iv x1), (1, Iv x2), (2, Pv b3 0), (3, Pv b6 0), (4, Pv b9 0), (7, Pv b10 0), (8, Pv b11 0), (9, Pv b14 0), (10, Bv false)] := hf.to ⟨rfl, rfl, rfl, rfl, rfl, rfl, rfl, rfl, rfl, trivial⟩
  refine W.seq ?_
  refine W.regionL (l := [0]) rfl ?_
  refine O.val hf rfl rfl rfl (RunV.move rfl) ?_; clear hf a; intro a hf
  refine O.nil ?_
  refine k_seq ?_
  replace hf : Fr a 104 [] [(0, Iv x1), (1, Iv x2), (2, Pv b3 0), (3, Pv b6 0), (4, Pv b9 0), (7, Pv b10 0), (8, Pv b11 0), (9, Pv b14 0), (27, Bv false)] := hf.to ⟨rfl, rfl, rfl, rfl, rfl, rfl, rfl, rfl, rfl, trivial⟩
  refine W.if_ff hf rfl ?_
  refine W.skip ?_
  refine k_seq ?_
  replace hf : Fr a 104 [] [(0, Iv x1), (1, Iv x2), (2, Pv b3 0), (3, Pv b6 0), (4, Pv b9 0), (7, Pv b10 0), (8, Pv b11 0)] := hf.to ⟨rfl, rfl, rfl, rfl, rfl, rfl, rfl, trivial⟩
  refine W.seq ?_
  refine W.regionL (l := [0, 1, 2, 3]) rfl ?_
  refine O.val hf rfl rfl rfl (RunV.move rfl) ?_; clear hf a; intro a hf
  refine O.val (v := .agg #[.slice none 0 0, Iv x2, Iv 0]) hf rfl rfl rfl (RunV.buildS (cs' := #[.slice none 0 0, Iv x2, Iv 0]) T_places_61 T_zero_61 rfl (by kernel_rfl)) ?_; clear hf a; intro a hf
  refine O.alloc (cs := #[.slice none 0 0, Iv 0, Iv 0]) hf hS rfl rfl T_zero_61 rfl ?_
  clear hf hS a; intro b15 w a hb15 hS hf
  refine O.store (j := 0) (cs' := #[.slice none 0 0, Iv x2, Iv 0]) (M' := [pt b15 (Cs #[.slice none 0 0, Iv x2, Iv 0] 61), pt b14 (Cs #[.slice none 0 0, Iv 0, Iv 0] 61), pt b11 (Cs #[Iv x1, Iv x2] 63), pt b10 (Cs #[.slice none 0 0, Iv 0, Iv 0] 61), memoA 33 2 E33 (bestN F F x8) b4 s5]) hf hS rfl rfl rfl T_size_61 rfl rfl rfl (Nat.le_of_ble_eq_true rfl) rfl rfl ?_
  clear hS; intro w hS
  refine O.nil ?_
  refine k_seq ?_
  replace hf : Fr a 104 [] [(0, Iv x1), (1, Iv x2), (2, Pv b3 0), (3, Pv b6 0), (4, Pv b9 0), (7, Pv b10 0), (8, Pv b11 0), (11, Pv b15 0)] := hf.to ⟨rfl, rfl, rfl, rfl, rfl, rfl, rfl, rfl, trivial⟩
  refine W.seqR (fun a w => ∃ (s16 : Value) (x17 : List (Int × Int)) (x18 : Int) (x19 : Int) (s20 : MTab), Fr a 104 [] [(2, Pv b3 0), (7, Pv b10 0), (8, Pv b11 0), (11, Pv b15 0)] ∧ St w0 w (fun k => (memoA 33 2 E33 (bestN F F x8) b4 s5).fp k) [rdE 4 E24 s7 x8, pt b3 (Cs #[.map (some b4)] 58), pt b6 (Cs #[s7] 22), pt b9 (Cs #[.func (.func 22) #[] #[Pv b3 0, Pv b6 0, Pv b9 0]] 59)] [pt b10 (Cs #[.slice none 0 0, Iv 0, Iv 0] 61), pt b11 (Cs #[Iv x1, Iv x2] 63), slE 33 2 E33 s16 x17, pt b15 (Cs #[s16, Iv x18, Iv x19] 61), memoA 33 2 E33 (bestN F F x8) b4 s20] ∧ m_plan_Best_1_j1 F x17 x18 x19 = some r) ?_ ?_
  ·refine W.seq ?_
   refine W.regionL (l := [0, 1, 2]) rfl ?_
   refine O.val hf rfl rfl rfl (RunV.load1 T_agg_22 rfl (hS.bptAt (i := 2) rfl) rfl) ?_; clear hf a; intro a hf
   refine O.val (v := Iv (x8.length : Int)) hf rfl rfl rfl (RunV.lenE (e := 24) (by simpa using T_elem_22) rfl (hS.rdB (j := 0) rfl)) ?_; clear hf a; intro a hf
   refine O.val hf rfl rfl rfl (RunV.move rfl) ?_; clear hf a; intro a hf
   refine O.nil ?_
   refine k_seq ?_
   replace hf : Fr a 104 [] [(0, Iv x1), (1, Iv x2), (2, Pv b3 0), (4, Pv b9 0), (7, Pv b10 0), (8, Pv b11 0), (11, Pv b15 0), (31, s7), (32, Iv (x8.length : Int)), (33, Iv 0)] := hf.to ⟨rfl, rfl, rfl, rfl, rfl, rfl, rfl, rfl, rfl, rfl, trivial⟩
   refine W.block ?_
   replace hS := hS.nilE 33 2 E33
   replace hS := hS.front (i := 5) (M' := [memoA 33 2 E33 (bestN F F x8) b4 s5, slE 33 2 E33 (.slice none 0 0) ([] : List (Int × Int)), pt b15 (Cs #[.slice none 0 0, Iv x2, Iv 0] 61), pt b14 (Cs #[.slice none 0 0, Iv 0, Iv 0] 61), pt b11 (Cs #[Iv x1, Iv x2] 63), pt b10 (Cs #[.slice none 0 0, Iv 0, Iv 0] 61)]) rfl rfl
   replace hS := hS.front (i := 2) (M' := [pt b15 (Cs #[.slice none 0 0, Iv x2, Iv 0] 61), memoA 33 2 E33 (bestN F F x8) b4 s5, slE 33 2 E33 (.slice none 0 0) ([] : List (Int × Int)), pt b14 (Cs #[.slice none 0 0, Iv 0, Iv 0] 61), pt b11 (Cs #[Iv x1, Iv x2] 63), pt b10 (Cs #[.slice none 0 0, Iv 0, Iv 0] 61)]) rfl rfl
   replace hS := hS.front (i := 2) (M' := [slE 33 2 E33 (.slice none 0 0) ([] : List (Int × Int)), pt b15 (Cs #[.slice none 0 0, Iv x2, Iv 0] 61), memoA 33 2 E33 (bestN F F x8) b4 s5, pt b14 (Cs #[.slice none 0 0, Iv 0, Iv 0] 61), pt b11 (Cs #[Iv x1, Iv x2] 63), pt b10 (Cs #[.slice none 0 0, Iv 0, Iv 0] 61)]) rfl rfl
   replace hS := hS.front (i := 4) (M' := [pt b11 (Cs #[Iv x1, Iv x2] 63), slE 33 2 E33 (.slice none 0 0) ([] : List (Int × Int)), pt b15 (Cs #[.slice none 0 0, Iv x2, Iv 0] 61), memoA 33 2 E33 (bestN F F x8) b4 s5, pt b14 (Cs #[.slice none 0 0, Iv 0, Iv 0] 61), pt b10 (Cs #[.slice none 0 0, Iv 0, Iv 0] 61)]) rfl rfl
   replace hS := hS.front (i := 5) (M' := [pt b10 (Cs #[.slice none 0 0, Iv 0, Iv 0] 61), pt b11 (Cs #[Iv x1, Iv x2] 63), slE 33 2 E33 (.slice none 0 0) ([] : List (Int × Int)), pt b15 (Cs #[.slice none 0 0, Iv x2, Iv 0] 61), memoA 33 2 E33 (bestN F F x8) b4 s5, pt b14 (Cs #[.slice none 0 0, Iv 0, Iv 0] 61)]) rfl rfl
   replace hS := hS.sub (N := [pt b10 (Cs #[.slice none 0 0, Iv 0, Iv 0] 61), pt b11 (Cs #[Iv x1, Iv x2] 63), slE 33 2 E33 (.slice none 0 0) ([] : List (Int × Int)), pt b15 (Cs #[.slice none 0 0, Iv x2, Iv 0] 61), memoA 33 2 E33 (bestN F F x8) b4 s5]) (.cons_cons _ (.cons_cons _ (.cons_cons _ (.cons_cons _ (.cons_cons _ (.cons _ .slnil))))))
   refine W.loop (G := Nat × Value × (List (Int × Int)) × Int × Int × Int × MTab) (fun g a w => match g with | (k28, s22, x23, x24, x25, x26, s27) => Fr a 104 [] [(0, Iv x1), (1, Iv x2), (2, Pv b3 0), (4, Pv b9 0), (7, Pv b10 0), (8, Pv b11 0), (11, Pv b15 0), (31, s7), (32, Iv (x8.length : Int)), (33, Iv x26)] ∧ St w0 w (fun k => (memoA 33 2 E33 (bestN F F x8) b4 s5).fp k) [rdE 4 E24 s7 x8, pt b3 (Cs #[.map (some b4)] 58), pt b6 (Cs #[s7] 22), pt b9 (Cs #[.func (.func 22) #[] #[Pv b3 0, Pv b6 0, Pv b9 0]] 59)] [pt b10 (Cs #[.slice none 0 0, Iv 0, Iv 0] 61), pt b11 (Cs #[Iv x1, Iv x2] 63), slE 33 2 E33 s22 x23, pt b15 (Cs #[s22, Iv x24, Iv x25] 61), memoA 33 2 E33 (bestN F F x8) b4 s27] ∧ m_plan_Best_1_l2 F x8 x1 x2 rec9001 k28 x23 x24 x25 x26 = some r) (fun g => match g with | (k28, s22, x23, x24, x25, x26, s27) => k28) (F, (.slice none 0 0), ([] : List (Int × Int)), x2, 0, 0, s5) ⟨hf.to ⟨rfl, rfl, rfl, rfl, rfl, rfl, rfl, rfl, rfl, rfl, trivial⟩, hS, hm⟩ ?_
   clear hf hS hm a; try clear w
   rintro ⟨k28, s22, x23, x24, x25, x26, s27⟩ a w ⟨hf, hS, hm⟩
   rcases k28 with _ | k28
   · exact absurd (show none = some r from hm) (by simp)
   replace hm : m_plan_Best_1_b2 F x8 x1 x2 rec9001 (m_plan_Best_1_l2 F x8 x1 x2 rec9001 k28) x23 x24 x25 x26 = some r := hm
   obtain ⟨rec28, hrec28⟩ : ∃ f, f = m_plan_Best_1_l2 F x8 x1 x2 rec9001 k28 := ⟨_, rfl⟩
   rw [← hrec28] at hm; unfold m_plan_Best_1_b2 at hm
   refine W.seq ?_
   refine W.regionL (l := [0]) rfl ?_
   refine O.val (v := Bv (decide (x26 < ((x8.length : Int) : Int)))) hf rfl rfl rfl (RunV.lss rfl rfl) ?_; clear hf a; intro a hf
   refine O.nil ?_
   refine k_seq ?_
   refine W.seq ?_
   refine W.ifdI hf rfl (fun hc29 => ?_) (fun hc29 => ?_)
   ·replace hm := hm_p hm hc29
    refine W.skip ?_
    refine k_seq ?_
    refine W.seqR (fun a w => ∃ (s30 : Value) (x31 : List (Int × Int)) (x32 : Int) (x33 : Int) (b34 : Nat) (x35 : Int) (x36 : Int) (x37 : Int) (x38 : Int) (x39 : Int) (x40 : Int) (x41 : Int) (x42 : Int) (x43 : Int) (x44 : Int) (x45 : Bool) (s46 : MTab), Fr a 104 [] [(0, Iv x1), (1, Iv x2), (2, Pv b3 0), (4, Pv b9 0), (7, Pv b10 0), (8, Pv b11 0), (11, Pv b15 0), (12, Iv x26), (13, Pv b34 0), (31, s7), (32, Iv (x8.length : Int)), (33, Iv x26), (34, Bv (decide (x26 < ((x8.length : Int) : Int)))), (35, Iv x26), (36, ix s7 (Int.toNat x26 * 4)), (37, .agg #[Iv x39, Iv x40, Iv x41, Iv x42]), (38, Iv x1), (39, Iv x26), (40, Iv x43), (41, Iv x44), (42, Bv x45)] ∧ St w0 w (fun k => (memoA 33 2 E33 (bestN F F x8) b4 s5).fp k) [rdE 4 E24 s7 x8, pt b3 (Cs #[.map (some b4)] 58), pt b6 (Cs #[s7] 22), pt b9 (Cs #[.func (.func 22) #[] #[Pv b3 0, Pv b6 0, Pv b9 0]] 59)] [pt b10 (Cs #[.slice none 0 0, Iv 0, Iv 0] 61), pt b11 (Cs #[Iv x1, Iv x2] 63), slE 33 2 E33 s30 x31, pt b15 (Cs #[s30, Iv x32, Iv x33] 61), pt b34 (Cs #[Iv x35, Iv x36, Iv x37, Iv x38] 24), memoA 33 2 E33 (bestN F F x8) b4 s46] ∧ m_plan_Best_1_j3 F rec28 x26 x31 x32 x33 x35 x36 x37 x38 x39 x40 x41 x42 x43 x44 x45 = some r) ?_ ?_
    ·refine W.block ?_
     refine W.seq ?_
     refine W.regionL (l := [0, 1, 2, 3, 4, 5]) rfl ?_
     refine O.val hf rfl rfl rfl (RunV.move rfl) ?_; clear hf a; intro a hf
     obtain ⟨x47, hx47, hm⟩ := hm_b hm
     refine O.val hf rfl rfl rfl (RunV.ixE T_elem_22 T_size_24 rfl rfl (hS.rdB (j := 0) rfl) hx47) ?_; clear hf a; intro a hf
     refine O.val hf rfl rfl rfl (RunV.ldEN (us := [Iv x47.1, Iv x47.2.1, Iv x47.2.2.1, Iv x47.2.2.2]) (o := 0) T_agg_24 T_size_24 rfl E24_len rfl (hS.rdB (j := 0) rfl) hx47 rfl rfl rfl) ?_; clear hf a; intro a hf
     refine O.alloc (cs := #[Iv 0, Iv 0, Iv 0, Iv 0]) hf hS rfl rfl T_zero_24 rfl ?_
     clear hf hS a; intro b48 w a hb48 hS hf
     refine O.val hf rfl rfl rfl (RunV.assign rfl) ?_; clear hf a; intro a hf
     refine O.store (j := 0) (cs' := #[Iv x47.1, Iv x47.2.1, Iv x47.2.2.1, Iv x47.2.2.2]) (M' := [pt b48 (Cs #[Iv x47.1, Iv x47.2.1, Iv x47.2.2.1, Iv x47.2.2.2] 24), pt b10 (Cs #[.slice none 0 0, Iv 0, Iv 0] 61), pt b11 (Cs #[Iv x1, Iv x2] 63), slE 33 2 E33 s22 x23, pt b15 (Cs #[s22, Iv x24, Iv x25] 61), memoA 33 2 E33 (bestN F F x8) b4 s27]) hf hS rfl rfl rfl T_size_24 rfl rfl rfl (Nat.le_of_ble_eq_true rfl) rfl rfl ?_
     clear hS; intro w hS
     refine O.nil ?_
     refine k_seq ?_
     refine W.seq ?_
     refine W.seq ?_
     refine W.regionL (l := [0, 1, 2, 3, 4]) rfl ?_
     refine O.val hf rfl rfl rfl (RunV.move rfl) ?_; clear hf a; intro a hf
     refine O.val hf rfl rfl rfl (RunV.move rfl) ?_; clear hf a; intro a hf
     obtain ⟨hg49, hm⟩ := hm_g hm
     refine O.val (v := Iv (Int.fdiv x1 (2 ^ (min (Int.toNat x26) (IntKind.bits .i64))))) hf rfl rfl rfl (RunV.shr rfl rfl hg49) ?_; clear hf a; intro a hf
     refine O.val (v := Iv (bitand .i64 (Int.fdiv x1 (2 ^ (min (Int.toNat x26) (IntKind.bits .i64)))) 1)) hf rfl rfl rfl (RunV.bitand rfl rfl) ?_; clear hf a; intro a hf
     refine O.val (v := Bv (decide ((bitand .i64 (Int.fdiv x1 (2 ^ (min (Int.toNat x26) (IntKind.bits .i64)))) 1) ≠ (0 : Int)))) hf rfl rfl rfl (RunV.neq rfl rfl) ?_; clear hf a; intro a hf
     refine O.nil ?_
     refine k_seq ?_
     obtain ⟨x50, hx50, hm⟩ := hm_b hm
     rw [Option.some.inj hx50] at hf
     obtain ⟨x51, hx51, hm⟩ := hm_b hm
     rw [Option.some.inj hx51] at hf
     refine W.ifdI hf rfl (fun hc52 => ?_) (fun hc52 => ?_)
     ·replace hm := hm_p hm hc52
      refine W.exit ?_
      refine k_then_exit ?_
      refine k_blk ?_
      replace hS := hS.front (i := 5) (M' := [memoA 33 2 E33 (bestN F F x8) b4 s27, pt b48 (Cs #[Iv x47.1, Iv x47.2.1, Iv x47.2.2.1, Iv x47.2.2.2] 24), pt b10 (Cs #[.slice none 0 0, Iv 0, Iv 0] 61), pt b11 (Cs #[Iv x1, Iv x2] 63), slE 33 2 E33 s22 x23, pt b15 (Cs #[s22, Iv x24, Iv x25] 61)]) rfl rfl
      replace hS := hS.front (i := 1) (M' := [pt b48 (Cs #[Iv x47.1, Iv x47.2.1, Iv x47.2.2.1, Iv x47.2.2.2] 24), memoA 33 2 E33 (bestN F F x8) b4 s27, pt b10 (Cs #[.slice none 0 0, Iv 0, Iv 0] 61), pt b11 (Cs #[Iv x1, Iv x2] 63), slE 33 2 E33 s22 x23, pt b15 (Cs #[s22, Iv x24, Iv x25] 61)]) rfl rfl
      replace hS := hS.front (i := 5) (M' := [pt b15 (Cs #[s22, Iv x24, Iv x25] 61), pt b48 (Cs #[Iv x47.1, Iv x47.2.1, Iv x47.2.2.1, Iv x47.2.2.2] 24), memoA 33 2 E33 (bestN F F x8) b4 s27, pt b10 (Cs #[.slice none 0 0, Iv 0, Iv 0] 61), pt b11 (Cs #[Iv x1, Iv x2] 63), slE 33 2 E33 s22 x23]) rfl rfl
      replace hS := hS.front (i := 5) (M' := [slE 33 2 E33 s22 x23, pt b15 (Cs #[s22, Iv x24, Iv x25] 61), pt b48 (Cs #[Iv x47.1, Iv x47.2.1, Iv x47.2.2.1, Iv x47.2.2.2] 24), memoA 33 2 E33 (bestN F F x8) b4 s27, pt b10 (Cs #[.slice none 0 0, Iv 0, Iv 0] 61), pt b11 (Cs #[Iv x1, Iv x2] 63)]) rfl rfl
      replace hS := hS.front (i := 5) (M' := [pt b11 (Cs #[Iv x1, Iv x2] 63), slE 33 2 E33 s22 x23, pt b15 (Cs #[s22, Iv x24, Iv x25] 61), pt b48 (Cs #[Iv x47.1, Iv x47.2.1, Iv x47.2.2.1, Iv x47.2.2.2] 24), memoA 33 2 E33 (bestN F F x8) b4 s27, pt b10 (Cs #[.slice none 0 0, Iv 0, Iv 0] 61)]) rfl rfl
      replace hS := hS.front (i := 5) (M' := [pt b10 (Cs #[.slice none 0 0, Iv 0, Iv 0] 61), pt b11 (Cs #[Iv x1, Iv x2] 63), slE 33 2 E33 s22 x23, pt b15 (Cs #[s22, Iv x24, Iv x25] 61), pt b48 (Cs #[Iv x47.1, Iv x47.2.1, Iv x47.2.2.1, Iv x47.2.2.2] 24), memoA 33 2 E33 (bestN F F x8) b4 s27]) rfl rfl
      exact k_then ⟨s22, x23, x24, x25, b48, x47.1, x47.2.1, x47.2.2.1, x47.2.2.2, x47.1, x47.2.1, x47.2.2.1, x47.2.2.2, x50, x51, decide (x51 ≠ (0 : Int)), s27, hf.to ⟨rfl, rfl, rfl, rfl, rfl, rfl, rfl, rfl, rfl, rfl, rfl, rfl, rfl, rfl, rfl, rfl, rfl, rfl, rfl, rfl, rfl, trivial⟩, hS, hm⟩
     ·replace hm := hm_n hm hc52
      refine W.skip ?_
      refine k_seq ?_
      refine W.seq ?_
      refine W.regionL (l := [0, 1, 2, 3, 4, 5, 6, 7, 8, 9, 10, 11, 12]) rfl ?_
      refine O.val (v := .agg #[Iv 0, Iv 0]) hf rfl rfl rfl (RunV.buildS (cs' := #[Iv 0, Iv 0]) T_places_33 T_zero_33 rfl (by kernel_rfl)) ?_; clear hf a; intro a hf
      refine O.buildSlice (cs' := #[Iv 0, Iv 0]) (zs := #[Iv 0, Iv 0]) hf hS rfl rfl T_elem_27 T_size_33 T_zero_33 rfl rfl rfl rfl rfl ?_
      clear hf hS a; intro b53 w a hb53 hS hf
      refine O.val hf rfl rfl rfl (RunV.move rfl) ?_; clear hf a; intro a hf
      refine O.val (v := .agg #[.slice (some ⟨b53, 0, none⟩) 1 1, Iv x2, Iv 0]) hf rfl rfl rfl (RunV.buildS (cs' := #[.slice (some ⟨b53, 0, none⟩) 1 1, Iv x2, Iv 0]) T_places_61 T_zero_61 rfl (by kernel_rfl)) ?_; clear hf a; intro a hf
      refine O.val hf rfl rfl rfl (RunV.move rfl) ?_; clear hf a; intro a hf
      refine O.val hf rfl rfl rfl (RunV.loadN (cs' := #[Iv x47.1, Iv x47.2.1, Iv x47.2.2.1, Iv x47.2.2.2]) T_agg_24 T_size_24 rfl (hS.ptAt (i := 1) rfl) (Nat.le_of_ble_eq_true rfl) rfl) ?_; clear hf a; intro a hf
      replace hS := hS.ptE (j := 0) (enc := E33) (xs := [(0, 0)]) (N := 1) (M' := [slE 33 2 E33 (.slice (some ⟨b53, 0, none⟩) 1 1) ([(0, 0)]), pt b48 (Cs #[Iv x47.1, Iv x47.2.1, Iv x47.2.2.1, Iv x47.2.2.2] 24), pt b10 (Cs #[.slice none 0 0, Iv 0, Iv 0] 61), pt b11 (Cs #[Iv x1, Iv x2] 63), slE 33 2 E33 s22 x23, pt b15 (Cs #[s22, Iv x24, Iv x25] 61), memoA 33 2 E33 (bestN F F x8) b4 s27]) rfl rfl rfl rfl rfl rfl
      obtain ⟨s54, hs54⟩ : ∃ v, v = (.slice (some ⟨b53, 0, none⟩) 1 1 : Value) := ⟨_, rfl⟩
      rw [← hs54] at hf hS
      replace hS : St w0 _ (fun k => (memoA 33 2 E33 (bestN F F x8) b4 s5).fp k) [rdE 4 E24 s7 x8, pt b3 (Cs #[.map (some b4)] 58), pt b6 (Cs #[s7] 22), pt b9 (Cs #[.func (.func 22) #[] #[Pv b3 0, Pv b6 0, Pv b9 0]] 59)] [slE 33 2 E33 s54 ([(0, 0)]), pt b48 (Cs #[Iv x47.1, Iv x47.2.1, Iv x47.2.2.1, Iv x47.2.2.2] 24), pt b10 (Cs #[.slice none 0 0, Iv 0, Iv 0] 61), pt b11 (Cs #[Iv x1, Iv x2] 63), slE 33 2 E33 s22 x23, pt b15 (Cs #[s22, Iv x24, Iv x25] 61), memoA 33 2 E33 (bestN F F x8) b4 s27] := hS
      replace hf : Fr a 104 [] [(0, Iv x1), (1, Iv x2), (2, Pv b3 0), (4, Pv b9 0), (7, Pv b10 0), (8, Pv b11 0), (11, Pv b15 0), (12, Iv x26), (13, Pv b48 0), (31, s7), (32, Iv (x8.length : Int)), (33, Iv x26), (34, Bv (decide (x26 < ((x8.length : Int) : Int)))), (35, Iv x26), (36, ix s7 (Int.toNat x26 * 4)), (37, .agg #[Iv x47.1, Iv x47.2.1, Iv x47.2.2.1, Iv x47.2.2.2]), (38, Iv x1), (39, Iv x26), (40, Iv x50), (41, Iv x51), (42, Bv (decide (x51 ≠ (0 : Int)))), (44, .agg #[Iv 0, Iv 0]), (45, s54), (46, Iv x2), (47, .agg #[s54, Iv x2, Iv 0]), (48, Iv x26), (49, .agg #[Iv x47.1, Iv x47.2.1, Iv x47.2.2.1, Iv x47.2.2.2])] := hf.to ⟨rfl, rfl, rfl, rfl, rfl, rfl, rfl, rfl, rfl, rfl, rfl, rfl, rfl, rfl, rfl, rfl, rfl, rfl, rfl, rfl, rfl, rfl, rfl, rfl, rfl, rfl, rfl, trivial⟩
      obtain ⟨x55, hx55, hm⟩ := hm_b hm
      refine O.callR hf rfl rfl rfl (RunE.call (av := #[.agg #[s54, Iv x2, Iv 0], Iv x26, .agg #[Iv x47.1, Iv x47.2.1, Iv x47.2.2.1, Iv x47.2.2.2]]) C_ok_23 rfl rfl rfl) (m_plan_run_then_2_ok F s54 ([(0, 0)]) x2 0 x26 x47.1 x47.2.1 x47.2.2.1 x47.2.2.2 _ (hS.rdS (j := 0) rfl) x55 hx55) ?_
      clear hf a; rintro s56 w hS1 a hf
      replace hf : Fr a _ _ ((50, .tuple #[.agg #[s56, Iv x55.2.1, Iv x55.2.2.1], Bv x55.2.2.2]) :: _) := hf
      replace hS := (hS.call hS1).eqM (N := [slE 33 2 E33 s56 x55.1, slE 33 2 E33 s54 ([(0, 0)]), pt b48 (Cs #[Iv x47.1, Iv x47.2.1, Iv x47.2.2.1, Iv x47.2.2.2] 24), pt b10 (Cs #[.slice none 0 0, Iv 0, Iv 0] 61), pt b11 (Cs #[Iv x1, Iv x2] 63), slE 33 2 E33 s22 x23, pt b15 (Cs #[s22, Iv x24, Iv x25] 61), memoA 33 2 E33 (bestN F F x8) b4 s27]) rfl
      clear hS1
      refine O.val hf rfl rfl rfl (RunV.move rfl) ?_; clear hf a; intro a hf
      refine O.val hf rfl rfl rfl (RunV.extract rfl rfl) ?_; clear hf a; intro a hf
      refine O.val hf rfl rfl rfl (RunV.extract rfl rfl) ?_; clear hf a; intro a hf
      refine O.alloc (cs := #[.slice none 0 0, Iv 0, Iv 0]) hf hS rfl rfl T_zero_61 rfl ?_
      clear hf hS a; intro b57 w a hb57 hS hf
      refine O.store (j := 0) (cs' := #[s56, Iv x55.2.1, Iv x55.2.2.1]) (M' := [pt b57 (Cs #[s56, Iv x55.2.1, Iv x55.2.2.1] 61), slE 33 2 E33 s56 x55.1, slE 33 2 E33 s54 ([(0, 0)]), pt b48 (Cs #[Iv x47.1, Iv x47.2.1, Iv x47.2.2.1, Iv x47.2.2.2] 24), pt b10 (Cs #[.slice none 0 0, Iv 0, Iv 0] 61), pt b11 (Cs #[Iv x1, Iv x2] 63), slE 33 2 E33 s22 x23, pt b15 (Cs #[s22, Iv x24, Iv x25] 61), memoA 33 2 E33 (bestN F F x8) b4 s27]) hf hS rfl rfl rfl T_size_61 rfl (oneCells_cc (rdEOK_one (hS.rdS (j := 1) rfl)) (oneCells_cc rfl (oneCells_cc rfl rfl))) rfl (Nat.le_of_ble_eq_true rfl) rfl rfl ?_
      clear hS; intro w hS
      refine O.val hf rfl rfl rfl (RunV.assign rfl) ?_; clear hf a; intro a hf
      refine O.nil ?_
      refine k_seq ?_
      refine W.seq ?_
      refine W.seq ?_
      refine W.regionL (l := [0, 1]) rfl ?_
      refine O.val hf rfl rfl rfl (RunV.move rfl) ?_; clear hf a; intro a hf
      refine O.val (v := Bv (!x55.2.2.2)) hf rfl rfl rfl (RunV.not rfl) ?_; clear hf a; intro a hf
      refine O.nil ?_
      refine k_seq ?_
      refine W.if_ hf rfl (fun hc58 => ?_) (fun hc58 => ?_)
      ·replace hm := hm_t hm hc58
       refine W.exit ?_
       refine k_then_exit ?_
       refine k_blk ?_
       replace hS := hS.front (i := 8) (M' := [memoA 33 2 E33 (bestN F F x8) b4 s27, pt b57 (Cs #[s56, Iv x55.2.1, Iv x55.2.2.1] 61), slE 33 2 E33 s56 x55.1, slE 33 2 E33 s54 ([(0, 0)]), pt b48 (Cs #[Iv x47.1, Iv x47.2.1, Iv x47.2.2.1, Iv x47.2.2.2] 24), pt b10 (Cs #[.slice none 0 0, Iv 0, Iv 0] 61), pt b11 (Cs #[Iv x1, Iv x2] 63), slE 33 2 E33 s22 x23, pt b15 (Cs #[s22, Iv x24, Iv x25] 61)]) rfl rfl
       replace hS := hS.front (i := 4) (M' := [pt b48 (Cs #[Iv x47.1, Iv x47.2.1, Iv x47.2.2.1, Iv x47.2.2.2] 24), memoA 33 2 E33 (bestN F F x8) b4 s27, pt b57 (Cs #[s56, Iv x55.2.1, Iv x55.2.2.1] 61), slE 33 2 E33 s56 x55.1, slE 33 2 E33 s54 ([(0, 0)]), pt b10 (Cs #[.slice none 0 0, Iv 0, Iv 0] 61), pt b11 (Cs #[Iv x1, Iv x2] 63), slE 33 2 E33 s22 x23, pt b15 (Cs #[s22, Iv x24, Iv x25] 61)]) rfl rfl
       replace hS := hS.front (i := 8) (M' := [pt b15 (Cs #[s22, Iv x24, Iv x25] 61), pt b48 (Cs #[Iv x47.1, Iv x47.2.1, Iv x47.2.2.1, Iv x47.2.2.2] 24), memoA 33 2 E33 (bestN F F x8) b4 s27, pt b57 (Cs #[s56, Iv x55.2.1, Iv x55.2.2.1] 61), slE 33 2 E33 s56 x55.1, slE 33 2 E33 s54 ([(0, 0)]), pt b10 (Cs #[.slice none 0 0, Iv 0, Iv 0] 61), pt b11 (Cs #[Iv x1, Iv x2] 63), slE 33 2 E33 s22 x23]) rfl rfl
       replace hS := hS.front (i := 8) (M' := [slE 33 2 E33 s22 x23, pt b15 (Cs #[s22, Iv x24, Iv x25] 61), pt b48 (Cs #[Iv x47.1, Iv x47.2.1, Iv x47.2.2.1, Iv x47.2.2.2] 24), memoA 33 2 E33 (bestN F F x8) b4 s27, pt b57 (Cs #[s56, Iv x55.2.1, Iv x55.2.2.1] 61), slE 33 2 E33 s56 x55.1, slE 33 2 E33 s54 ([(0, 0)]), pt b10 (Cs #[.slice none 0 0, Iv 0, Iv 0] 61), pt b11 (Cs #[Iv x1, Iv x2] 63)]) rfl rfl
       replace hS := hS.front (i := 8) (M' := [pt b11 (Cs #[Iv x1, Iv x2] 63), slE 33 2 E33 s22 x23, pt b15 (Cs #[s22, Iv x24, Iv x25] 61), pt b48 (Cs #[Iv x47.1, Iv x47.2.1, Iv x47.2.2.1, Iv x47.2.2.2] 24), memoA 33 2 E33 (bestN F F x8) b4 s27, pt b57 (Cs #[s56, Iv x55.2.1, Iv x55.2.2.1] 61), slE 33 2 E33 s56 x55.1, slE 33 2 E33 s54 ([(0, 0)]), pt b10 (Cs #[.slice none 0 0, Iv 0, Iv 0] 61)]) rfl rfl
       replace hS := hS.front (i := 8) (M' := [pt b10 (Cs #[.slice none 0 0, Iv 0, Iv 0] 61), pt b11 (Cs #[Iv x1, Iv x2] 63), slE 33 2 E33 s22 x23, pt b15 (Cs #[s22, Iv x24, Iv x25] 61), pt b48 (Cs #[Iv x47.1, Iv x47.2.1, Iv x47.2.2.1, Iv x47.2.2.2] 24), memoA 33 2 E33 (bestN F F x8) b4 s27, pt b57 (Cs #[s56, Iv x55.2.1, Iv x55.2.2.1] 61), slE 33 2 E33 s56 x55.1, slE 33 2 E33 s54 ([(0, 0)])]) rfl rfl
       replace hS := hS.sub (N := [pt b10 (Cs #[.slice none 0 0, Iv 0, Iv 0] 61), pt b11 (Cs #[Iv x1, Iv x2] 63), slE 33 2 E33 s22 x23, pt b15 (Cs #[s22, Iv x24, Iv x25] 61), pt b48 (Cs #[Iv x47.1, Iv x47.2.1, Iv x47.2.2.1, Iv x47.2.2.2] 24), memoA 33 2 E33 (bestN F F x8) b4 s27]) (.cons_cons _ (.cons_cons _ (.cons_cons _ (.cons_cons _ (.cons_cons _ (.cons_cons _ (.cons _ (.cons _ (.cons _ .slnil)))))))))
       exact k_then ⟨s22, x23, x24, x25, b48, x47.1, x47.2.1, x47.2.2.1, x47.2.2.2, x47.1, x47.2.1, x47.2.2.1, x47.2.2.2, x50, x51, decide (x51 ≠ (0 : Int)), s27, hf.to ⟨rfl, rfl, rfl, rfl, rfl, rfl, rfl, rfl, rfl, rfl, rfl, rfl, rfl, rfl, rfl, rfl, rfl, rfl, rfl, rfl, rfl, trivial⟩, hS, hm⟩
      ·replace hm := hm_f hm hc58
       refine W.skip ?_
       refine k_seq ?_
       refine W.seq ?_
       have hf1 : Fr a 104 [] [] := hf.to trivial
       replace hf : Fr a 104 [] [(0, Iv x1), (1, Iv x2), (2, Pv b3 0), (4, Pv b9 0), (7, Pv b10 0), (8, Pv b11 0), (11, Pv b15 0), (12, Iv x26), (13, Pv b48 0), (14, Pv b57 0), (15, Bv x55.2.2.2), (31, s7), (32, Iv (x8.length : Int)), (33, Iv x26), (34, Bv (decide (x26 < ((x8.length : Int) : Int)))), (35, Iv x26), (36, ix s7 (Int.toNat x26 * 4)), (37, .agg #[Iv x47.1, Iv x47.2.1, Iv x47.2.2.1, Iv x47.2.2.2]), (38, Iv x1), (39, Iv x26), (40, Iv x50), (41, Iv x51), (42, Bv (decide (x51 ≠ (0 : Int)))), (43, .tuple #[.agg #[s56, Iv x55.2.1, Iv x55.2.2.1], Bv x55.2.2.2]), (44, .agg #[Iv 0, Iv 0]), (45, s54), (46, Iv x2), (47, .agg #[s54, Iv x2, Iv 0]), (48, Iv x26), (49, .agg #[Iv x47.1, Iv x47.2.1, Iv x47.2.2.1, Iv x47.2.2.2]), (50, .tuple #[.agg #[s56, Iv x55.2.1, Iv x55.2.2.1], Bv x55.2.2.2]), (51, .agg #[s56, Iv x55.2.1, Iv x55.2.2.1]), (52, Bv x55.2.2.2), (53, Bv x55.2.2.2), (54, Bv (!x55.2.2.2))] := hf.to ⟨rfl, rfl, rfl, rfl, rfl, rfl, rfl, rfl, rfl, rfl, rfl, rfl, rfl, rfl, rfl, rfl, rfl, rfl, rfl, rfl, rfl, rfl, rfl, rfl, rfl, rfl, rfl, rfl, rfl, rfl, rfl, rfl, rfl, rfl, rfl, trivial⟩
       obtain ⟨hg59, hm⟩ := hm_g hm
       obtain ⟨x60, hx60, hm⟩ := hm_b hm
       replace hS := hS.drew
       replace hS := hS.emp
       refine W.drawC (γ := Nat × Value × MTab) (L0 := [(0, Iv x1), (1, Iv x2), (2, Pv b3 0), (4, Pv b9 0), (7, Pv b10 0), (8, Pv b11 0), (11, Pv b15 0), (12, Iv x26), (13, Pv b48 0), (14, Pv b57 0), (15, Bv x55.2.2.2), (31, s7), (32, Iv (x8.length : Int)), (33, Iv x26), (34, Bv (decide (x26 < ((x8.length : Int) : Int)))), (35, Iv x26), (36, ix s7 (Int.toNat x26 * 4)), (37, .agg #[Iv x47.1, Iv x47.2.1, Iv x47.2.2.1, Iv x47.2.2.2]), (38, Iv x1), (39, Iv x26), (40, Iv x50), (41, Iv x51), (42, Bv (decide (x51 ≠ (0 : Int)))), (43, .tuple #[.agg #[s56, Iv x55.2.1, Iv x55.2.2.1], Bv x55.2.2.2]), (44, .agg #[Iv 0, Iv 0]), (45, s54), (46, Iv x2), (47, .agg #[s54, Iv x2, Iv 0]), (48, Iv x26), (49, .agg #[Iv x47.1, Iv x47.2.1, Iv x47.2.2.1, Iv x47.2.2.2]), (50, .tuple #[.agg #[s56, Iv x55.2.1, Iv x55.2.2.1], Bv x55.2.2.2]), (51, .agg #[s56, Iv x55.2.1, Iv x55.2.2.1]), (52, Bv x55.2.2.2), (53, Bv x55.2.2.2), (54, Bv (!x55.2.2.2))]) (L1 := []) (0, undef, []) [7, 9] [8] [0, 1, 2, 3, 4, 5, 6] (fun i => match i with | 3 => [2] | 4 => [1, 3] | 6 => [5] | 7 => [0, 4, 6] | 9 => [0, 1, 2, 3, 4, 5, 6, 7, 8] | _ => []) (fun i => match i with | 9 => [7, 8] | _ => []) (fun i => match i with | 0 => [7, 9] | 1 => [7, 9] | 2 => [7, 9] | 3 => [7, 9] | 4 => [7, 9] | 5 => [7, 9] | 6 => [7, 9] | 7 => [9] | 8 => [9] | _ => []) (fun i => match i with | 9 => [8] | _ => []) (fun i => match i with | 7 => [9] | 8 => [9] | _ => []) (fun _ => []) (fun i => match i with | 9 => 1 | _ => 0) (fun i => match i with | 7 => 1 | 8 => 1 | 9 => 2 | _ => 0) (fun (g : Nat × Value × MTab) j => match j with | 0 => .func (.func 22) #[] #[Pv b3 0, Pv b6 0, Pv b9 0] | 1 => Iv x1 | 2 => Iv x26 | 3 => Iv (IntKind.i64.wrap (1 * 2 ^ (min (Int.toNat x26) (IntKind.bits .i64)))) | 4 => Iv (bitor .i64 x1 (IntKind.i64.wrap (1 * 2 ^ (min (Int.toNat x26) (IntKind.bits .i64))))) | 5 => Pv b57 1 | 6 => Iv x55.2.1 | 7 => .agg #[g.2.1, Iv x60.2.1, Iv x60.2.2] | 8 => Pv g.1 0 | _ => undef) (fun k s (g : Nat × Value × MTab) w => match k with | 0 => St w0 w (fun k => (memoA 33 2 E33 (bestN F F x8) b4 s5).fp k) [rdE 4 E24 s7 x8, pt b3 (Cs #[.map (some b4)] 58), pt b6 (Cs #[s7] 22), pt b9 (Cs #[.func (.func 22) #[] #[Pv b3 0, Pv b6 0, Pv b9 0]] 59)] [condA (s 8) (pt g.1 (Cs #[.slice none 0 0, Iv 0, Iv 0] 61)), pt b57 (Cs #[s56, Iv x55.2.1, Iv x55.2.2.1] 61), slE 33 2 E33 s56 x55.1, slE 33 2 E33 s54 ([(0, 0)]), pt b48 (Cs #[Iv x47.1, Iv x47.2.1, Iv x47.2.2.1, Iv x47.2.2.2] 24), pt b10 (Cs #[.slice none 0 0, Iv 0, Iv 0] 61), pt b11 (Cs #[Iv x1, Iv x2] 63), slE 33 2 E33 s22 x23, pt b15 (Cs #[s22, Iv x24, Iv x25] 61), memoA 33 2 E33 (bestN F F x8) b4 s27] | 1 => St w0 w (fun k => (memoA 33 2 E33 (bestN F F x8) b4 s5).fp k) [rdE 4 E24 s7 x8, pt b3 (Cs #[.map (some b4)] 58), pt b6 (Cs #[s7] 22), pt b9 (Cs #[.func (.func 22) #[] #[Pv b3 0, Pv b6 0, Pv b9 0]] 59)] [memIn (bestN F F x8) g.2.2 g.2.1 x60.1, memoA 33 2 E33 (bestN F F x8) b4 g.2.2, condA (s 8) (pt g.1 (Cs #[.slice none 0 0, Iv 0, Iv 0] 61)), pt b57 (Cs #[s56, Iv x55.2.1, Iv x55.2.2.1] 61), slE 33 2 E33 s56 x55.1, slE 33 2 E33 s54 ([(0, 0)]), pt b48 (Cs #[Iv x47.1, Iv x47.2.1, Iv x47.2.2.1, Iv x47.2.2.2] 24), pt b10 (Cs #[.slice none 0 0, Iv 0, Iv 0] 61), pt b11 (Cs #[Iv x1, Iv x2] 63), slE 33 2 E33 s22 x23, pt b15 (Cs #[s22, Iv x24, Iv x25] 61)] | _ => St w0 w (fun k => (memoA 33 2 E33 (bestN F F x8) b4 s5).fp k) [rdE 4 E24 s7 x8, pt b3 (Cs #[.map (some b4)] 58), pt b6 (Cs #[s7] 22), pt b9 (Cs #[.func (.func 22) #[] #[Pv b3 0, Pv b6 0, Pv b9 0]] 59)] [memIn (bestN F F x8) g.2.2 g.2.1 x60.1, memoA 33 2 E33 (bestN F F x8) b4 g.2.2, pt g.1 (Cs #[g.2.1, Iv x60.2.1, Iv x60.2.2] 61), pt b57 (Cs #[s56, Iv x55.2.1, Iv x55.2.2.1] 61), slE 33 2 E33 s56 x55.1, slE 33 2 E33 s54 ([(0, 0)]), pt b48 (Cs #[Iv x47.1, Iv x47.2.1, Iv x47.2.2.1, Iv x47.2.2.2] 24), pt b10 (Cs #[.slice none 0 0, Iv 0, Iv 0] 61), pt b11 (Cs #[Iv x1, Iv x2] 63), slE 33 2 E33 s22 x23, pt b15 (Cs #[s22, Iv x24, Iv x25] 61)]) P_mixed (by kernel_rfl) (by kernel_rfl) (by kernel_rfl) hf hf1 hS ?_ ?_ ?_ ?_
       ·clear hf hf1 hS
        refine ⟨?_, fun k s g w _ _ _ hD a hf => Q.val (v := Iv x1) rfl rfl rfl hD hf (RunV.move rfl), fun k s g w _ _ _ hD a hf => Q.val (v := Iv x26) rfl rfl rfl hD hf (RunV.move rfl), fun k s g w _ _ _ hD a hf => Q.val (v := Iv (IntKind.i64.wrap (1 * 2 ^ (min (Int.toNat x26) (IntKind.bits .i64))))) rfl rfl rfl hD hf (RunV.shl rfl rfl hg59), fun k s g w _ _ _ hD a hf => Q.val (v := Iv (bitor .i64 x1 (IntKind.i64.wrap (1 * 2 ^ (min (Int.toNat x26) (IntKind.bits .i64)))))) rfl rfl rfl hD hf (RunV.bitor rfl rfl), fun k s g w _ _ _ hD a hf => Q.val (v := Pv b57 1) rfl rfl rfl hD hf (RunV.field T_field_61_1 rfl rfl), ?_, trivial⟩
        ·intro k s g w h1_ h2_ hsp hD a hf
         obtain ⟨b63, s61, s62⟩ := g
         rcases k with _ | k
         ·have hS : St w0 w (fun k => (memoA 33 2 E33 (bestN F F x8) b4 s5).fp k) [rdE 4 E24 s7 x8, pt b3 (Cs #[.map (some b4)] 58), pt b6 (Cs #[s7] 22), pt b9 (Cs #[.func (.func 22) #[] #[Pv b3 0, Pv b6 0, Pv b9 0]] 59)] [condA (s 8) (pt b63 (Cs #[.slice none 0 0, Iv 0, Iv 0] 61)), pt b57 (Cs #[s56, Iv x55.2.1, Iv x55.2.2.1] 61), slE 33 2 E33 s56 x55.1, slE 33 2 E33 s54 ([(0, 0)]), pt b48 (Cs #[Iv x47.1, Iv x47.2.1, Iv x47.2.2.1, Iv x47.2.2.2] 24), pt b10 (Cs #[.slice none 0 0, Iv 0, Iv 0] 61), pt b11 (Cs #[Iv x1, Iv x2] 63), slE 33 2 E33 s22 x23, pt b15 (Cs #[s22, Iv x24, Iv x25] 61), memoA 33 2 E33 (bestN F F x8) b4 s27] := hD; clear hD
          replace hf : Fr a 104 [] [(0, Iv x1), (1, Iv x2), (2, Pv b3 0), (4, Pv b9 0), (7, Pv b10 0), (8, Pv b11 0), (11, Pv b15 0), (12, Iv x26), (13, Pv b48 0), (14, Pv b57 0), (15, Bv x55.2.2.2), (31, s7), (32, Iv (x8.length : Int)), (33, Iv x26), (34, Bv (decide (x26 < ((x8.length : Int) : Int)))), (35, Iv x26), (36, ix s7 (Int.toNat x26 * 4)), (37, .agg #[Iv x47.1, Iv x47.2.1, Iv x47.2.2.1, Iv x47.2.2.2]), (38, Iv x1), (39, Iv x26), (40, Iv x50), (41, Iv x51), (42, Bv (decide (x51 ≠ (0 : Int)))), (43, .tuple #[.agg #[s56, Iv x55.2.1, Iv x55.2.2.1], Bv x55.2.2.2]), (44, .agg #[Iv 0, Iv 0]), (45, s54), (46, Iv x2), (47, .agg #[s54, Iv x2, Iv 0]), (48, Iv x26), (49, .agg #[Iv x47.1, Iv x47.2.1, Iv x47.2.2.1, Iv x47.2.2.2]), (50, .tuple #[.agg #[s56, Iv x55.2.1, Iv x55.2.2.1], Bv x55.2.2.2]), (51, .agg #[s56, Iv x55.2.1, Iv x55.2.2.1]), (52, Bv x55.2.2.2), (53, Bv x55.2.2.2), (54, Bv (!x55.2.2.2))] := hf
          exact Q.val (v := .func (.func 22) #[] #[Pv b3 0, Pv b6 0, Pv b9 0]) rfl rfl rfl hS hf (RunV.load1 T_agg_59 rfl (hS.bptAt (i := 3) rfl) rfl)
         ·exact absurd h2_ (by simp)
        ·intro k s g w h1_ h2_ hsp hD a hf
         obtain ⟨b63, s61, s62⟩ := g
         rcases k with _ | k
         ·have hS : St w0 w (fun k => (memoA 33 2 E33 (bestN F F x8) b4 s5).fp k) [rdE 4 E24 s7 x8, pt b3 (Cs #[.map (some b4)] 58), pt b6 (Cs #[s7] 22), pt b9 (Cs #[.func (.func 22) #[] #[Pv b3 0, Pv b6 0, Pv b9 0]] 59)] [condA (s 8) (pt b63 (Cs #[.slice none 0 0, Iv 0, Iv 0] 61)), pt b57 (Cs #[s56, Iv x55.2.1, Iv x55.2.2.1] 61), slE 33 2 E33 s56 x55.1, slE 33 2 E33 s54 ([(0, 0)]), pt b48 (Cs #[Iv x47.1, Iv x47.2.1, Iv x47.2.2.1, Iv x47.2.2.2] 24), pt b10 (Cs #[.slice none 0 0, Iv 0, Iv 0] 61), pt b11 (Cs #[Iv x1, Iv x2] 63), slE 33 2 E33 s22 x23, pt b15 (Cs #[s22, Iv x24, Iv x25] 61), memoA 33 2 E33 (bestN F F x8) b4 s27] := hD; clear hD
          replace hf : Fr a 104 [] [(60, Pv b57 1), (0, Iv x1), (1, Iv x2), (2, Pv b3 0), (4, Pv b9 0), (7, Pv b10 0), (8, Pv b11 0), (11, Pv b15 0), (12, Iv x26), (13, Pv b48 0), (14, Pv b57 0), (15, Bv x55.2.2.2), (31, s7), (32, Iv (x8.length : Int)), (33, Iv x26), (34, Bv (decide (x26 < ((x8.length : Int) : Int)))), (35, Iv x26), (36, ix s7 (Int.toNat x26 * 4)), (37, .agg #[Iv x47.1, Iv x47.2.1, Iv x47.2.2.1, Iv x47.2.2.2]), (38, Iv x1), (39, Iv x26), (40, Iv x50), (41, Iv x51), (42, Bv (decide (x51 ≠ (0 : Int)))), (43, .tuple #[.agg #[s56, Iv x55.2.1, Iv x55.2.2.1], Bv x55.2.2.2]), (44, .agg #[Iv 0, Iv 0]), (45, s54), (46, Iv x2), (47, .agg #[s54, Iv x2, Iv 0]), (48, Iv x26), (49, .agg #[Iv x47.1, Iv x47.2.1, Iv x47.2.2.1, Iv x47.2.2.2]), (50, .tuple #[.agg #[s56, Iv x55.2.1, Iv x55.2.2.1], Bv x55.2.2.2]), (51, .agg #[s56, Iv x55.2.1, Iv x55.2.2.1]), (52, Bv x55.2.2.2), (53, Bv x55.2.2.2), (54, Bv (!x55.2.2.2))] := hf
          exact Q.val (v := Iv x55.2.1) rfl rfl rfl hS hf (RunV.load1 T_agg_2 rfl (hS.ptAt (i := 1) rfl) rfl)
         ·exact absurd h2_ (by simp)
       ·clear hf hf1 hS
        refine ⟨?_, ?_, trivial⟩
        ·intro s g w hsp hD a hf
         obtain ⟨b63, s61, s62⟩ := g
         have hS : St w0 w (fun k => (memoA 33 2 E33 (bestN F F x8) b4 s5).fp k) [rdE 4 E24 s7 x8, pt b3 (Cs #[.map (some b4)] 58), pt b6 (Cs #[s7] 22), pt b9 (Cs #[.func (.func 22) #[] #[Pv b3 0, Pv b6 0, Pv b9 0]] 59)] [condA (s 8) (pt b63 (Cs #[.slice none 0 0, Iv 0, Iv 0] 61)), pt b57 (Cs #[s56, Iv x55.2.1, Iv x55.2.2.1] 61), slE 33 2 E33 s56 x55.1, slE 33 2 E33 s54 ([(0, 0)]), pt b48 (Cs #[Iv x47.1, Iv x47.2.1, Iv x47.2.2.1, Iv x47.2.2.2] 24), pt b10 (Cs #[.slice none 0 0, Iv 0, Iv 0] 61), pt b11 (Cs #[Iv x1, Iv x2] 63), slE 33 2 E33 s22 x23, pt b15 (Cs #[s22, Iv x24, Iv x25] 61), memoA 33 2 E33 (bestN F F x8) b4 s27] := hD; clear hD
         replace hf : Fr a 104 [] [(55, .func (.func 22) #[] #[Pv b3 0, Pv b6 0, Pv b9 0]), (59, Iv (bitor .i64 x1 (IntKind.i64.wrap (1 * 2 ^ (min (Int.toNat x26) (IntKind.bits .i64)))))), (61, Iv x55.2.1), (0, Iv x1), (1, Iv x2), (2, Pv b3 0), (4, Pv b9 0), (7, Pv b10 0), (8, Pv b11 0), (11, Pv b15 0), (12, Iv x26), (13, Pv b48 0), (14, Pv b57 0), (15, Bv x55.2.2.2), (31, s7), (32, Iv (x8.length : Int)), (33, Iv x26), (34, Bv (decide (x26 < ((x8.length : Int) : Int)))), (35, Iv x26), (36, ix s7 (Int.toNat x26 * 4)), (37, .agg #[Iv x47.1, Iv x47.2.1, Iv x47.2.2.1, Iv x47.2.2.2]), (38, Iv x1), (39, Iv x26), (40, Iv x50), (41, Iv x51), (42, Bv (decide (x51 ≠ (0 : Int)))), (43, .tuple #[.agg #[s56, Iv x55.2.1, Iv x55.2.2.1], Bv x55.2.2.2]), (44, .agg #[Iv 0, Iv 0]), (45, s54), (46, Iv x2), (47, .agg #[s54, Iv x2, Iv 0]), (48, Iv x26), (49, .agg #[Iv x47.1, Iv x47.2.1, Iv x47.2.2.1, Iv x47.2.2.2]), (50, .tuple #[.agg #[s56, Iv x55.2.1, Iv x55.2.2.1], Bv x55.2.2.2]), (51, .agg #[s56, Iv x55.2.1, Iv x55.2.2.1]), (52, Bv x55.2.2.2), (53, Bv x55.2.2.2), (54, Bv (!x55.2.2.2))] := hf
         refine O.callR hf rfl rfl rfl (RunE.call (av := #[Iv (bitor .i64 x1 (IntKind.i64.wrap (1 * 2 ^ (min (Int.toNat x26) (IntKind.bits .i64))))), Iv x55.2.1, Pv b3 0, Pv b6 0, Pv b9 0]) C_ok_22 rfl rfl rfl) (hrec9001 (bitor .i64 x1 (IntKind.i64.wrap (1 * 2 ^ (min (Int.toNat x26) (IntKind.bits .i64))))) x55.2.1 b3 b4 s27 b6 s7 x8 b9 _ (hS.rdB (j := 0) rfl) (hS.lentAt (i := 9) rfl) (hS.bptAt (i := 1) rfl) (hS.bptAt (i := 2) rfl) (hS.bptAt (i := 3) rfl) (hS.apart (i := 9) (j := 0) rfl rfl) (hS.apart (i := 9) (j := 1) rfl rfl) (hS.apart (i := 9) (j := 2) rfl rfl) (hS.apart (i := 9) (j := 3) rfl rfl) x60 hx60) ?_
         clear hf a; rintro ⟨s61, s62⟩ w hS1 a hf
         replace hf : Fr a _ _ ((62, .agg #[s61, Iv x60.2.1, Iv x60.2.2]) :: _) := hf
         replace hS := (hS.callX1 hS1 (i := 9) rfl (fun _ h => h)).eqM (N := [memIn (bestN F F x8) s62 s61 x60.1, memoA 33 2 E33 (bestN F F x8) b4 s62, condA (s 8) (pt b63 (Cs #[.slice none 0 0, Iv 0, Iv 0] 61)), pt b57 (Cs #[s56, Iv x55.2.1, Iv x55.2.2.1] 61), slE 33 2 E33 s56 x55.1, slE 33 2 E33 s54 ([(0, 0)]), pt b48 (Cs #[Iv x47.1, Iv x47.2.1, Iv x47.2.2.1, Iv x47.2.2.2] 24), pt b10 (Cs #[.slice none 0 0, Iv 0, Iv 0] 61), pt b11 (Cs #[Iv x1, Iv x2] 63), slE 33 2 E33 s22 x23, pt b15 (Cs #[s22, Iv x24, Iv x25] 61)]) rfl
         clear hS1
         exact O.nil ⟨rfl, (b63, s61, s62), hf.to trivial, (fun d hd => by cases (show some 62 = some d from hd); exact hf.get _ _ rfl), (fun j hj hk => match j, hj, hk with | 0, hj, hk => rfl | 1, hj, hk => rfl | 2, hj, hk => rfl | 3, hj, hk => rfl | 4, hj, hk => rfl | 5, hj, hk => rfl | 6, hj, hk => rfl | 7, hj, hk => absurd rfl hj | 8, hj, hk => rfl | 9, hj, hk => absurd hk (by decide) | _ + 10, _, _ => rfl), hS⟩
        ·intro s g w hsp hD a hf
         obtain ⟨b63, s61, s62⟩ := g
         have h8_ : s 8 = true := hsp 8 (by simp)
         have hS : St w0 w (fun k => (memoA 33 2 E33 (bestN F F x8) b4 s5).fp k) [rdE 4 E24 s7 x8, pt b3 (Cs #[.map (some b4)] 58), pt b6 (Cs #[s7] 22), pt b9 (Cs #[.func (.func 22) #[] #[Pv b3 0, Pv b6 0, Pv b9 0]] 59)] [memIn (bestN F F x8) s62 s61 x60.1, memoA 33 2 E33 (bestN F F x8) b4 s62, condA (s 8) (pt b63 (Cs #[.slice none 0 0, Iv 0, Iv 0] 61)), pt b57 (Cs #[s56, Iv x55.2.1, Iv x55.2.2.1] 61), slE 33 2 E33 s56 x55.1, slE 33 2 E33 s54 ([(0, 0)]), pt b48 (Cs #[Iv x47.1, Iv x47.2.1, Iv x47.2.2.1, Iv x47.2.2.2] 24), pt b10 (Cs #[.slice none 0 0, Iv 0, Iv 0] 61), pt b11 (Cs #[Iv x1, Iv x2] 63), slE 33 2 E33 s22 x23, pt b15 (Cs #[s22, Iv x24, Iv x25] 61)] := hD; clear hD; rw [h8_] at hS
         replace hS : St w0 w (fun k => (memoA 33 2 E33 (bestN F F x8) b4 s5).fp k) [rdE 4 E24 s7 x8, pt b3 (Cs #[.map (some b4)] 58), pt b6 (Cs #[s7] 22), pt b9 (Cs #[.func (.func 22) #[] #[Pv b3 0, Pv b6 0, Pv b9 0]] 59)] [memIn (bestN F F x8) s62 s61 x60.1, memoA 33 2 E33 (bestN F F x8) b4 s62, pt b63 (Cs #[.slice none 0 0, Iv 0, Iv 0] 61), pt b57 (Cs #[s56, Iv x55.2.1, Iv x55.2.2.1] 61), slE 33 2 E33 s56 x55.1, slE 33 2 E33 s54 ([(0, 0)]), pt b48 (Cs #[Iv x47.1, Iv x47.2.1, Iv x47.2.2.1, Iv x47.2.2.2] 24), pt b10 (Cs #[.slice none 0 0, Iv 0, Iv 0] 61), pt b11 (Cs #[Iv x1, Iv x2] 63), slE 33 2 E33 s22 x23, pt b15 (Cs #[s22, Iv x24, Iv x25] 61)] := hS
         replace hf : Fr a 104 [] [(55, .func (.func 22) #[] #[Pv b3 0, Pv b6 0, Pv b9 0]), (56, Iv x1), (57, Iv x26), (58, Iv (IntKind.i64.wrap (1 * 2 ^ (min (Int.toNat x26) (IntKind.bits .i64))))), (59, Iv (bitor .i64 x1 (IntKind.i64.wrap (1 * 2 ^ (min (Int.toNat x26) (IntKind.bits .i64)))))), (60, Pv b57 1), (61, Iv x55.2.1), (62, .agg #[s61, Iv x60.2.1, Iv x60.2.2]), (16, Pv b63 0), (0, Iv x1), (1, Iv x2), (2, Pv b3 0), (4, Pv b9 0), (7, Pv b10 0), (8, Pv b11 0), (11, Pv b15 0), (12, Iv x26), (13, Pv b48 0), (14, Pv b57 0), (15, Bv x55.2.2.2), (31, s7), (32, Iv (x8.length : Int)), (33, Iv x26), (34, Bv (decide (x26 < ((x8.length : Int) : Int)))), (35, Iv x26), (36, ix s7 (Int.toNat x26 * 4)), (37, .agg #[Iv x47.1, Iv x47.2.1, Iv x47.2.2.1, Iv x47.2.2.2]), (38, Iv x1), (39, Iv x26), (40, Iv x50), (41, Iv x51), (42, Bv (decide (x51 ≠ (0 : Int)))), (43, .tuple #[.agg #[s56, Iv x55.2.1, Iv x55.2.2.1], Bv x55.2.2.2]), (44, .agg #[Iv 0, Iv 0]), (45, s54), (46, Iv x2), (47, .agg #[s54, Iv x2, Iv 0]), (48, Iv x26), (49, .agg #[Iv x47.1, Iv x47.2.1, Iv x47.2.2.1, Iv x47.2.2.2]), (50, .tuple #[.agg #[s56, Iv x55.2.1, Iv x55.2.2.1], Bv x55.2.2.2]), (51, .agg #[s56, Iv x55.2.1, Iv x55.2.2.1]), (52, Bv x55.2.2.2), (53, Bv x55.2.2.2), (54, Bv (!x55.2.2.2))] := hf
         refine O.store (j := 2) (cs' := #[s61, Iv x60.2.1, Iv x60.2.2]) (M' := [memIn (bestN F F x8) s62 s61 x60.1, memoA 33 2 E33 (bestN F F x8) b4 s62, pt b63 (Cs #[s61, Iv x60.2.1, Iv x60.2.2] 61), pt b57 (Cs #[s56, Iv x55.2.1, Iv x55.2.2.1] 61), slE 33 2 E33 s56 x55.1, slE 33 2 E33 s54 ([(0, 0)]), pt b48 (Cs #[Iv x47.1, Iv x47.2.1, Iv x47.2.2.1, Iv x47.2.2.2] 24), pt b10 (Cs #[.slice none 0 0, Iv 0, Iv 0] 61), pt b11 (Cs #[Iv x1, Iv x2] 63), slE 33 2 E33 s22 x23, pt b15 (Cs #[s22, Iv x24, Iv x25] 61)]) hf hS rfl rfl rfl T_size_61 rfl (oneCells_cc (rdEOK_one (hS.memRd (i := 1) (j := 0) rfl rfl)) (oneCells_cc rfl (oneCells_cc rfl rfl))) rfl (Nat.le_of_ble_eq_true rfl) rfl rfl ?_
         clear hS; intro w hS
         exact O.nil ⟨rfl, (b63, s61, s62), hf.to trivial, (fun d hd => by cases (show none = some d from hd)), (fun _ _ _ => rfl), hS⟩
       ·clear hf hf1 hS
        refine ⟨?_, trivial⟩
        ·intro k s g w h1_ h2_ hs0 hD a hf
         obtain ⟨b63, s61, s62⟩ := g
         rcases k with _ | _ | k
         ·have hS : St w0 w (fun k => (memoA 33 2 E33 (bestN F F x8) b4 s5).fp k) [rdE 4 E24 s7 x8, pt b3 (Cs #[.map (some b4)] 58), pt b6 (Cs #[s7] 22), pt b9 (Cs #[.func (.func 22) #[] #[Pv b3 0, Pv b6 0, Pv b9 0]] 59)] [condA (s 8) (pt b63 (Cs #[.slice none 0 0, Iv 0, Iv 0] 61)), pt b57 (Cs #[s56, Iv x55.2.1, Iv x55.2.2.1] 61), slE 33 2 E33 s56 x55.1, slE 33 2 E33 s54 ([(0, 0)]), pt b48 (Cs #[Iv x47.1, Iv x47.2.1, Iv x47.2.2.1, Iv x47.2.2.2] 24), pt b10 (Cs #[.slice none 0 0, Iv 0, Iv 0] 61), pt b11 (Cs #[Iv x1, Iv x2] 63), slE 33 2 E33 s22 x23, pt b15 (Cs #[s22, Iv x24, Iv x25] 61), memoA 33 2 E33 (bestN F F x8) b4 s27] := hD; clear hD
          refine O.allocC (j := 0) (cs := #[.slice none 0 0, Iv 0, Iv 0]) hf hS rfl hs0 rfl rfl T_zero_61 rfl ?_; clear hf hS a; intro b63 w a hS hf
          exact O.nil ⟨rfl, (b63, s61, s62), hf.to trivial, (fun d hd => by cases (show some 16 = some d from hd); exact hf.get _ _ rfl), (fun j hj hk => match j, hj, hk with | 0, hj, hk => rfl | 1, hj, hk => rfl | 2, hj, hk => rfl | 3, hj, hk => rfl | 4, hj, hk => rfl | 5, hj, hk => rfl | 6, hj, hk => rfl | 7, hj, hk => rfl | 8, hj, hk => absurd rfl hj | 9, hj, hk => absurd hk (by decide) | _ + 10, _, _ => rfl), hS⟩
         ·have hS : St w0 w (fun k => (memoA 33 2 E33 (bestN F F x8) b4 s5).fp k) [rdE 4 E24 s7 x8, pt b3 (Cs #[.map (some b4)] 58), pt b6 (Cs #[s7] 22), pt b9 (Cs #[.func (.func 22) #[] #[Pv b3 0, Pv b6 0, Pv b9 0]] 59)] [memIn (bestN F F x8) s62 s61 x60.1, memoA 33 2 E33 (bestN F F x8) b4 s62, condA (s 8) (pt b63 (Cs #[.slice none 0 0, Iv 0, Iv 0] 61)), pt b57 (Cs #[s56, Iv x55.2.1, Iv x55.2.2.1] 61), slE 33 2 E33 s56 x55.1, slE 33 2 E33 s54 ([(0, 0)]), pt b48 (Cs #[Iv x47.1, Iv x47.2.1, Iv x47.2.2.1, Iv x47.2.2.2] 24), pt b10 (Cs #[.slice none 0 0, Iv 0, Iv 0] 61), pt b11 (Cs #[Iv x1, Iv x2] 63), slE 33 2 E33 s22 x23, pt b15 (Cs #[s22, Iv x24, Iv x25] 61)] := hD; clear hD
          refine O.allocC (j := 2) (cs := #[.slice none 0 0, Iv 0, Iv 0]) hf hS rfl hs0 rfl rfl T_zero_61 rfl ?_; clear hf hS a; intro b63 w a hS hf
          exact O.nil ⟨rfl, (b63, s61, s62), hf.to trivial, (fun d hd => by cases (show some 16 = some d from hd); exact hf.get _ _ rfl), (fun j hj hk => match j, hj, hk with | 0, hj, hk => rfl | 1, hj, hk => rfl | 2, hj, hk => rfl | 3, hj, hk => rfl | 4, hj, hk => rfl | 5, hj, hk => rfl | 6, hj, hk => rfl | 7, hj, hk => rfl | 8, hj, hk => absurd rfl hj | 9, hj, hk => absurd hk (by decide) | _ + 10, _, _ => rfl), hS⟩
         ·exact absurd h2_ (by simp)
       clear hf hf1 hS; intro s g a w hs hf hD
       obtain ⟨b63, s61, s62⟩ := g
       have h8_ : s 8 = true := hs 8 (by simp)
       have hS : St w0 w (fun k => (memoA 33 2 E33 (bestN F F x8) b4 s5).fp k) [rdE 4 E24 s7 x8, pt b3 (Cs #[.map (some b4)] 58), pt b6 (Cs #[s7] 22), pt b9 (Cs #[.func (.func 22) #[] #[Pv b3 0, Pv b6 0, Pv b9 0]] 59)] [memIn (bestN F F x8) s62 s61 x60.1, memoA 33 2 E33 (bestN F F x8) b4 s62, pt b63 (Cs #[s61, Iv x60.2.1, Iv x60.2.2] 61), pt b57 (Cs #[s56, Iv x55.2.1, Iv x55.2.2.1] 61), slE 33 2 E33 s56 x55.1, slE 33 2 E33 s54 ([(0, 0)]), pt b48 (Cs #[Iv x47.1, Iv x47.2.1, Iv x47.2.2.1, Iv x47.2.2.2] 24), pt b10 (Cs #[.slice none 0 0, Iv 0, Iv 0] 61), pt b11 (Cs #[Iv x1, Iv x2] 63), slE 33 2 E33 s22 x23, pt b15 (Cs #[s22, Iv x24, Iv x25] 61)] := hD; clear hD
       replace hf : Fr a 104 [] [(55, .func (.func 22) #[] #[Pv b3 0, Pv b6 0, Pv b9 0]), (56, Iv x1), (57, Iv x26), (58, Iv (IntKind.i64.wrap (1 * 2 ^ (min (Int.toNat x26) (IntKind.bits .i64))))), (59, Iv (bitor .i64 x1 (IntKind.i64.wrap (1 * 2 ^ (min (Int.toNat x26) (IntKind.bits .i64)))))), (60, Pv b57 1), (61, Iv x55.2.1), (62, .agg #[s61, Iv x60.2.1, Iv x60.2.2]), (16, Pv b63 0), (0, Iv x1), (1, Iv x2), (2, Pv b3 0), (4, Pv b9 0), (7, Pv b10 0), (8, Pv b11 0), (11, Pv b15 0), (12, Iv x26), (13, Pv b48 0), (14, Pv b57 0), (15, Bv x55.2.2.2), (31, s7), (32, Iv (x8.length : Int)), (33, Iv x26), (34, Bv (decide (x26 < ((x8.length : Int) : Int)))), (35, Iv x26), (36, ix s7 (Int.toNat x26 * 4)), (37, .agg #[Iv x47.1, Iv x47.2.1, Iv x47.2.2.1, Iv x47.2.2.2]), (38, Iv x1), (39, Iv x26), (40, Iv x50), (41, Iv x51), (42, Bv (decide (x51 ≠ (0 : Int)))), (43, .tuple #[.agg #[s56, Iv x55.2.1, Iv x55.2.2.1], Bv x55.2.2.2]), (44, .agg #[Iv 0, Iv 0]), (45, s54), (46, Iv x2), (47, .agg #[s54, Iv x2, Iv 0]), (48, Iv x26), (49, .agg #[Iv x47.1, Iv x47.2.1, Iv x47.2.2.1, Iv x47.2.2.2]), (50, .tuple #[.agg #[s56, Iv x55.2.1, Iv x55.2.2.1], Bv x55.2.2.2]), (51, .agg #[s56, Iv x55.2.1, Iv x55.2.2.1]), (52, Bv x55.2.2.2), (53, Bv x55.2.2.2), (54, Bv (!x55.2.2.2))] := hf
       refine k_seq ?_
       obtain ⟨x64, hx64, hm⟩ := hm_b hm
       rw [Option.some.inj hx64] at hf
       obtain ⟨x65, hx65, hm⟩ := hm_b hm
       rw [Option.some.inj hx65] at hf
       refine W.seq ?_
       have hf1 : Fr a 104 [] [] := hf.to trivial
       replace hf : Fr a 104 [] [(0, Iv x1), (1, Iv x2), (2, Pv b3 0), (4, Pv b9 0), (7, Pv b10 0), (8, Pv b11 0), (11, Pv b15 0), (12, Iv x26), (13, Pv b48 0), (14, Pv b57 0), (15, Bv x55.2.2.2), (16, Pv b63 0), (31, s7), (32, Iv (x8.length : Int)), (33, Iv x26), (34, Bv (decide (x26 < ((x8.length : Int) : Int)))), (35, Iv x26), (36, ix s7 (Int.toNat x26 * 4)), (37, .agg #[Iv x47.1, Iv x47.2.1, Iv x47.2.2.1, Iv x47.2.2.2]), (38, Iv x1), (39, Iv x26), (40, Iv x50), (41, Iv x51), (42, Bv (decide (x51 ≠ (0 : Int)))), (43, .tuple #[.agg #[s56, Iv x55.2.1, Iv x55.2.2.1], Bv x55.2.2.2]), (44, .agg #[Iv 0, Iv 0]), (45, s54), (46, Iv x2), (47, .agg #[s54, Iv x2, Iv 0]), (48, Iv x26), (49, .agg #[Iv x47.1, Iv x47.2.1, Iv x47.2.2.1, Iv x47.2.2.2]), (50, .tuple #[.agg #[s56, Iv x55.2.1, Iv x55.2.2.1], Bv x55.2.2.2]), (51, .agg #[s56, Iv x55.2.1, Iv x55.2.2.1]), (52, Bv x55.2.2.2), (53, Bv x55.2.2.2), (54, Bv (!x55.2.2.2)), (55, .func (.func 22) #[] #[Pv b3 0, Pv b6 0, Pv b9 0]), (56, Iv x1), (57, Iv x26), (58, Iv x64), (59, Iv x65), (60, Pv b57 1), (61, Iv x55.2.1), (62, .agg #[s61, Iv x60.2.1, Iv x60.2.2])] := hf.to ⟨rfl, rfl, rfl, rfl, rfl, rfl, rfl, rfl, rfl, rfl, rfl, rfl, rfl, rfl, rfl, rfl, rfl, rfl, rfl, rfl, rfl, rfl, rfl, rfl, rfl, rfl, rfl, rfl, rfl, rfl, rfl, rfl, rfl, rfl, rfl, rfl, rfl, rfl, rfl, rfl, rfl, rfl, rfl, rfl, trivial⟩
       obtain ⟨x66, hx66, hm⟩ := hm_b hm
       obtain ⟨hg69, hm⟩ := hm_g hm
       obtain ⟨hg70, hm⟩ := hm_g hm
       replace hS := hS.drew
       replace hS := hS.emp
       refine W.drawC (γ := Nat × Nat × Value × Value) (L0 := [(0, Iv x1), (1, Iv x2), (2, Pv b3 0), (4, Pv b9 0), (7, Pv b10 0), (8, Pv b11 0), (11, Pv b15 0), (12, Iv x26), (13, Pv b48 0), (14, Pv b57 0), (15, Bv x55.2.2.2), (16, Pv b63 0), (31, s7), (32, Iv (x8.length : Int)), (33, Iv x26), (34, Bv (decide (x26 < ((x8.length : Int) : Int)))), (35, Iv x26), (36, ix s7 (Int.toNat x26 * 4)), (37, .agg #[Iv x47.1, Iv x47.2.1, Iv x47.2.2.1, Iv x47.2.2.2]), (38, Iv x1), (39, Iv x26), (40, Iv x50), (41, Iv x51), (42, Bv (decide (x51 ≠ (0 : Int)))), (43, .tuple #[.agg #[s56, Iv x55.2.1, Iv x55.2.2.1], Bv x55.2.2.2]), (44, .agg #[Iv 0, Iv 0]), (45, s54), (46, Iv x2), (47, .agg #[s54, Iv x2, Iv 0]), (48, Iv x26), (49, .agg #[Iv x47.1, Iv x47.2.1, Iv x47.2.2.1, Iv x47.2.2.2]), (50, .tuple #[.agg #[s56, Iv x55.2.1, Iv x55.2.2.1], Bv x55.2.2.2]), (51, .agg #[s56, Iv x55.2.1, Iv x55.2.2.1]), (52, Bv x55.2.2.2), (53, Bv x55.2.2.2), (54, Bv (!x55.2.2.2)), (55, .func (.func 22) #[] #[Pv b3 0, Pv b6 0, Pv b9 0]), (56, Iv x1), (57, Iv x26), (58, Iv x64), (59, Iv x65), (60, Pv b57 1), (61, Iv x55.2.1), (62, .agg #[s61, Iv x60.2.1, Iv x60.2.2])]) (L1 := []) (0, 0, undef, undef) [4, 7, 17] [16] [0, 1, 2, 3, 5, 6, 8, 9, 10, 11, 12, 13, 14, 15] (fun i => match i with | 1 => [0] | 2 => [1] | 3 => [2] | 4 => [3] | 6 => [5] | 7 => [4, 6] | 9 => [8] | 11 => [10] | 13 => [12] | 14 => [11, 13] | 15 => [7, 9, 14] | 17 => [0, 1, 2, 3, 4, 5, 6, 7, 8, 9, 10, 11, 12, 13, 14, 15, 16] | _ => []) (fun i => match i with | 7 => [4] | 15 => [4, 7] | 17 => [4, 7, 16] | _ => []) (fun i => match i with | 0 => [4, 7, 17] | 1 => [4, 7, 17] | 2 => [4, 7, 17] | 3 => [4, 7, 17] | 4 => [7, 17] | 5 => [7, 17] | 6 => [7, 17] | 7 => [17] | 8 => [17] | 9 => [17] | 10 => [17] | 11 => [17] | 12 => [17] | 13 => [17] | 14 => [17] | 15 => [17] | 16 => [17] | _ => []) (fun i => match i with | 17 => [16] | _ => []) (fun i => match i with | 4 => [7, 15, 17] | 7 => [15, 17] | 16 => [17] | _ => []) (fun _ => []) (fun i => match i with | 7 => 1 | 15 => 2 | 17 => 2 | _ => 0) (fun i => match i with | 4 => 1 | 5 => 1 | 6 => 1 | 7 => 2 | 8 => 2 | 9 => 2 | 10 => 2 | 11 => 2 | 12 => 2 | 13 => 2 | 14 => 2 | 15 => 2 | 16 => 2 | 17 => 3 | _ => 0) (fun (g : Nat × Nat × Value × Value) j => match j with | 0 => Pv b57 0 | 1 => s56 | 2 => ix s56 (Int.toNat 1 * 2) | 3 => .agg #[Iv x66.1, Iv x66.2] | 4 => .slice (some ⟨g.2.1, 0, none⟩) 1 1 | 5 => Pv b63 0 | 6 => s61 | 7 => g.2.2.2 | 8 => Pv b63 1 | 9 => Iv x60.2.1 | 10 => Pv b63 2 | 11 => Iv x60.2.2 | 12 => Pv b48 3 | 13 => Iv x47.2.2.2 | 14 => Iv (IntKind.i64.wrap (x60.2.2 + x47.2.2.2)) | 15 => .agg #[g.2.2.2, Iv x60.2.1, Iv (IntKind.i64.wrap (x60.2.2 + x47.2.2.2))] | 16 => Pv g.1 0 | _ => undef) (fun k s (g : Nat × Nat × Value × Value) w => match k with | 0 => St w0 w (fun k => (memoA 33 2 E33 (bestN F F x8) b4 s5).fp k) [rdE 4 E24 s7 x8, pt b3 (Cs #[.map (some b4)] 58), pt b6 (Cs #[s7] 22), pt b9 (Cs #[.func (.func 22) #[] #[Pv b3 0, Pv b6 0, Pv b9 0]] 59)] [condA (s 16) (pt g.1 (Cs #[.slice none 0 0, Iv 0, Iv 0] 61)), memIn (bestN F F x8) s62 s61 x60.1, memoA 33 2 E33 (bestN F F x8) b4 s62, pt b63 (Cs #[s61, Iv x60.2.1, Iv x60.2.2] 61), pt b57 (Cs #[s56, Iv x55.2.1, Iv x55.2.2.1] 61), slE 33 2 E33 s56 x55.1, slE 33 2 E33 s54 ([(0, 0)]), pt b48 (Cs #[Iv x47.1, Iv x47.2.1, Iv x47.2.2.1, Iv x47.2.2.2] 24), pt b10 (Cs #[.slice none 0 0, Iv 0, Iv 0] 61), pt b11 (Cs #[Iv x1, Iv x2] 63), slE 33 2 E33 s22 x23, pt b15 (Cs #[s22, Iv x24, Iv x25] 61)] | 1 => St w0 w (fun k => (memoA 33 2 E33 (bestN F F x8) b4 s5).fp k) [rdE 4 E24 s7 x8, pt b3 (Cs #[.map (some b4)] 58), pt b6 (Cs #[s7] 22), pt b9 (Cs #[.func (.func 22) #[] #[Pv b3 0, Pv b6 0, Pv b9 0]] 59)] [pt g.2.1 (Cs #[Iv x66.1, Iv x66.2] 33), condA (s 16) (pt g.1 (Cs #[.slice none 0 0, Iv 0, Iv 0] 61)), memIn (bestN F F x8) s62 s61 x60.1, memoA 33 2 E33 (bestN F F x8) b4 s62, pt b63 (Cs #[s61, Iv x60.2.1, Iv x60.2.2] 61), pt b57 (Cs #[s56, Iv x55.2.1, Iv x55.2.2.1] 61), slE 33 2 E33 s56 x55.1, slE 33 2 E33 s54 ([(0, 0)]), pt b48 (Cs #[Iv x47.1, Iv x47.2.1, Iv x47.2.2.1, Iv x47.2.2.2] 24), pt b10 (Cs #[.slice none 0 0, Iv 0, Iv 0] 61), pt b11 (Cs #[Iv x1, Iv x2] 63), slE 33 2 E33 s22 x23, pt b15 (Cs #[s22, Iv x24, Iv x25] 61)] | 2 => St w0 w (fun k => (memoA 33 2 E33 (bestN F F x8) b4 s5).fp k) [rdE 4 E24 s7 x8, pt b3 (Cs #[.map (some b4)] 58), pt b6 (Cs #[s7] 22), pt b9 (Cs #[.func (.func 22) #[] #[Pv b3 0, Pv b6 0, Pv b9 0]] 59)] [slE 33 2 E33 g.2.2.2 (([x66]) ++ x60.1), condA (s 16) (pt g.1 (Cs #[.slice none 0 0, Iv 0, Iv 0] 61)), memIn (bestN F F x8) s62 s61 x60.1, memoA 33 2 E33 (bestN F F x8) b4 s62, pt b63 (Cs #[s61, Iv x60.2.1, Iv x60.2.2] 61), pt b57 (Cs #[s56, Iv x55.2.1, Iv x55.2.2.1] 61), slE 33 2 E33 s56 x55.1, slE 33 2 E33 s54 ([(0, 0)]), pt b48 (Cs #[Iv x47.1, Iv x47.2.1, Iv x47.2.2.1, Iv x47.2.2.2] 24), pt b10 (Cs #[.slice none 0 0, Iv 0, Iv 0] 61), pt b11 (Cs #[Iv x1, Iv x2] 63), slE 33 2 E33 s22 x23, pt b15 (Cs #[s22, Iv x24, Iv x25] 61)] | _ => St w0 w (fun k => (memoA 33 2 E33 (bestN F F x8) b4 s5).fp k) [rdE 4 E24 s7 x8, pt b3 (Cs #[.map (some b4)] 58), pt b6 (Cs #[s7] 22), pt b9 (Cs #[.func (.func 22) #[] #[Pv b3 0, Pv b6 0, Pv b9 0]] 59)] [slE 33 2 E33 g.2.2.2 (([x66]) ++ x60.1), pt g.1 (Cs #[g.2.2.2, Iv x60.2.1, Iv (IntKind.i64.wrap (x60.2.2 + x47.2.2.2))] 61), memIn (bestN F F x8) s62 s61 x60.1, memoA 33 2 E33 (bestN F F x8) b4 s62, pt b63 (Cs #[s61, Iv x60.2.1, Iv x60.2.2] 61), pt b57 (Cs #[s56, Iv x55.2.1, Iv x55.2.2.1] 61), slE 33 2 E33 s56 x55.1, slE 33 2 E33 s54 ([(0, 0)]), pt b48 (Cs #[Iv x47.1, Iv x47.2.1, Iv x47.2.2.1, Iv x47.2.2.2] 24), pt b10 (Cs #[.slice none 0 0, Iv 0, Iv 0] 61), pt b11 (Cs #[Iv x1, Iv x2] 63), slE 33 2 E33 s22 x23, pt b15 (Cs #[s22, Iv x24, Iv x25] 61)]) P_mixed (by kernel_rfl) (by kernel_rfl) (by kernel_rfl) hf hf1 hS ?_ ?_ ?_ ?_
       ·clear hf hf1 hS
        refine ⟨fun k s g w _ _ _ hD a hf => Q.val (v := Pv b57 0) rfl rfl rfl hD hf (RunV.field T_field_61_0 rfl rfl), ?_, ?_, ?_, fun k s g w _ _ _ hD a hf => Q.val (v := Pv b63 0) rfl rfl rfl hD hf (RunV.field T_field_61_0 rfl rfl), ?_, fun k s g w _ _ _ hD a hf => Q.val (v := Pv b63 1) rfl rfl rfl hD hf (RunV.field T_field_61_1 rfl rfl), ?_, fun k s g w _ _ _ hD a hf => Q.val (v := Pv b63 2) rfl rfl rfl hD hf (RunV.field T_field_61_2 rfl rfl), ?_, fun k s g w _ _ _ hD a hf => Q.val (v := Pv b48 3) rfl rfl rfl hD hf (RunV.field T_field_24_3 rfl rfl), ?_, fun k s g w _ _ _ hD a hf => Q.val (v := Iv (IntKind.i64.wrap (x60.2.2 + x47.2.2.2))) rfl rfl rfl hD hf (RunV.add rfl rfl), ?_, trivial⟩
        ·intro k s g w h1_ h2_ hsp hD a hf
         obtain ⟨b72, b67, s68, s71⟩ := g
         rcases k with _ | k
         ·have hS : St w0 w (fun k => (memoA 33 2 E33 (bestN F F x8) b4 s5).fp k) [rdE 4 E24 s7 x8, pt b3 (Cs #[.map (some b4)] 58), pt b6 (Cs #[s7] 22), pt b9 (Cs #[.func (.func 22) #[] #[Pv b3 0, Pv b6 0, Pv b9 0]] 59)] [condA (s 16) (pt b72 (Cs #[.slice none 0 0, Iv 0, Iv 0] 61)), memIn (bestN F F x8) s62 s61 x60.1, memoA 33 2 E33 (bestN F F x8) b4 s62, pt b63 (Cs #[s61, Iv x60.2.1, Iv x60.2.2] 61), pt b57 (Cs #[s56, Iv x55.2.1, Iv x55.2.2.1] 61), slE 33 2 E33 s56 x55.1, slE 33 2 E33 s54 ([(0, 0)]), pt b48 (Cs #[Iv x47.1, Iv x47.2.1, Iv x47.2.2.1, Iv x47.2.2.2] 24), pt b10 (Cs #[.slice none 0 0, Iv 0, Iv 0] 61), pt b11 (Cs #[Iv x1, Iv x2] 63), slE 33 2 E33 s22 x23, pt b15 (Cs #[s22, Iv x24, Iv x25] 61)] := hD; clear hD
          replace hf : Fr a 104 [] [(63, Pv b57 0), (0, Iv x1), (1, Iv x2), (2, Pv b3 0), (4, Pv b9 0), (7, Pv b10 0), (8, Pv b11 0), (11, Pv b15 0), (12, Iv x26), (13, Pv b48 0), (14, Pv b57 0), (15, Bv x55.2.2.2), (16, Pv b63 0), (31, s7), (32, Iv (x8.length : Int)), (33, Iv x26), (34, Bv (decide (x26 < ((x8.length : Int) : Int)))), (35, Iv x26), (36, ix s7 (Int.toNat x26 * 4)), (37, .agg #[Iv x47.1, Iv x47.2.1, Iv x47.2.2.1, Iv x47.2.2.2]), (38, Iv x1), (39, Iv x26), (40, Iv x50), (41, Iv x51), (42, Bv (decide (x51 ≠ (0 : Int)))), (43, .tuple #[.agg #[s56, Iv x55.2.1, Iv x55.2.2.1], Bv x55.2.2.2]), (44, .agg #[Iv 0, Iv 0]), (45, s54), (46, Iv x2), (47, .agg #[s54, Iv x2, Iv 0]), (48, Iv x26), (49, .agg #[Iv x47.1, Iv x47.2.1, Iv x47.2.2.1, Iv x47.2.2.2]), (50, .tuple #[.agg #[s56, Iv x55.2.1, Iv x55.2.2.1], Bv x55.2.2.2]), (51, .agg #[s56, Iv x55.2.1, Iv x55.2.2.1]), (52, Bv x55.2.2.2), (53, Bv x55.2.2.2), (54, Bv (!x55.2.2.2)), (55, .func (.func 22) #[] #[Pv b3 0, Pv b6 0, Pv b9 0]), (56, Iv x1), (57, Iv x26), (58, Iv x64), (59, Iv x65), (60, Pv b57 1), (61, Iv x55.2.1), (62, .agg #[s61, Iv x60.2.1, Iv x60.2.2])] := hf
          exact Q.val (v := s56) rfl rfl rfl hS hf (RunV.load1 T_agg_27 rfl (hS.ptAt (i := 4) rfl) rfl)
         ·exact absurd h2_ (by simp)
        ·intro k s g w h1_ h2_ hsp hD a hf
         obtain ⟨b72, b67, s68, s71⟩ := g
         rcases k with _ | k
         ·have hS : St w0 w (fun k => (memoA 33 2 E33 (bestN F F x8) b4 s5).fp k) [rdE 4 E24 s7 x8, pt b3 (Cs #[.map (some b4)] 58), pt b6 (Cs #[s7] 22), pt b9 (Cs #[.func (.func 22) #[] #[Pv b3 0, Pv b6 0, Pv b9 0]] 59)] [condA (s 16) (pt b72 (Cs #[.slice none 0 0, Iv 0, Iv 0] 61)), memIn (bestN F F x8) s62 s61 x60.1, memoA 33 2 E33 (bestN F F x8) b4 s62, pt b63 (Cs #[s61, Iv x60.2.1, Iv x60.2.2] 61), pt b57 (Cs #[s56, Iv x55.2.1, Iv x55.2.2.1] 61), slE 33 2 E33 s56 x55.1, slE 33 2 E33 s54 ([(0, 0)]), pt b48 (Cs #[Iv x47.1, Iv x47.2.1, Iv x47.2.2.1, Iv x47.2.2.2] 24), pt b10 (Cs #[.slice none 0 0, Iv 0, Iv 0] 61), pt b11 (Cs #[Iv x1, Iv x2] 63), slE 33 2 E33 s22 x23, pt b15 (Cs #[s22, Iv x24, Iv x25] 61)] := hD; clear hD
          replace hf : Fr a 104 [] [(64, s56), (0, Iv x1), (1, Iv x2), (2, Pv b3 0), (4, Pv b9 0), (7, Pv b10 0), (8, Pv b11 0), (11, Pv b15 0), (12, Iv x26), (13, Pv b48 0), (14, Pv b57 0), (15, Bv x55.2.2.2), (16, Pv b63 0), (31, s7), (32, Iv (x8.length : Int)), (33, Iv x26), (34, Bv (decide (x26 < ((x8.length : Int) : Int)))), (35, Iv x26), (36, ix s7 (Int.toNat x26 * 4)), (37, .agg #[Iv x47.1, Iv x47.2.1, Iv x47.2.2.1, Iv x47.2.2.2]), (38, Iv x1), (39, Iv x26), (40, Iv x50), (41, Iv x51), (42, Bv (decide (x51 ≠ (0 : Int)))), (43, .tuple #[.agg #[s56, Iv x55.2.1, Iv x55.2.2.1], Bv x55.2.2.2]), (44, .agg #[Iv 0, Iv 0]), (45, s54), (46, Iv x2), (47, .agg #[s54, Iv x2, Iv 0]), (48, Iv x26), (49, .agg #[Iv x47.1, Iv x47.2.1, Iv x47.2.2.1, Iv x47.2.2.2]), (50, .tuple #[.agg #[s56, Iv x55.2.1, Iv x55.2.2.1], Bv x55.2.2.2]), (51, .agg #[s56, Iv x55.2.1, Iv x55.2.2.1]), (52, Bv x55.2.2.2), (53, Bv x55.2.2.2), (54, Bv (!x55.2.2.2)), (55, .func (.func 22) #[] #[Pv b3 0, Pv b6 0, Pv b9 0]), (56, Iv x1), (57, Iv x26), (58, Iv x64), (59, Iv x65), (60, Pv b57 1), (61, Iv x55.2.1), (62, .agg #[s61, Iv x60.2.1, Iv x60.2.2])] := hf
          exact Q.val (v := ix s56 (Int.toNat 1 * 2)) rfl rfl rfl hS hf (RunV.ixE T_elem_27 T_size_33 rfl rfl (hS.rdS (j := 5) rfl) hx66)
         ·exact absurd h2_ (by simp)
        ·intro k s g w h1_ h2_ hsp hD a hf
         obtain ⟨b72, b67, s68, s71⟩ := g
         rcases k with _ | k
         ·have hS : St w0 w (fun k => (memoA 33 2 E33 (bestN F F x8) b4 s5).fp k) [rdE 4 E24 s7 x8, pt b3 (Cs #[.map (some b4)] 58), pt b6 (Cs #[s7] 22), pt b9 (Cs #[.func (.func 22) #[] #[Pv b3 0, Pv b6 0, Pv b9 0]] 59)] [condA (s 16) (pt b72 (Cs #[.slice none 0 0, Iv 0, Iv 0] 61)), memIn (bestN F F x8) s62 s61 x60.1, memoA 33 2 E33 (bestN F F x8) b4 s62, pt b63 (Cs #[s61, Iv x60.2.1, Iv x60.2.2] 61), pt b57 (Cs #[s56, Iv x55.2.1, Iv x55.2.2.1] 61), slE 33 2 E33 s56 x55.1, slE 33 2 E33 s54 ([(0, 0)]), pt b48 (Cs #[Iv x47.1, Iv x47.2.1, Iv x47.2.2.1, Iv x47.2.2.2] 24), pt b10 (Cs #[.slice none 0 0, Iv 0, Iv 0] 61), pt b11 (Cs #[Iv x1, Iv x2] 63), slE 33 2 E33 s22 x23, pt b15 (Cs #[s22, Iv x24, Iv x25] 61)] := hD; clear hD
          replace hf : Fr a 104 [] [(65, ix s56 (Int.toNat 1 * 2)), (0, Iv x1), (1, Iv x2), (2, Pv b3 0), (4, Pv b9 0), (7, Pv b10 0), (8, Pv b11 0), (11, Pv b15 0), (12, Iv x26), (13, Pv b48 0), (14, Pv b57 0), (15, Bv x55.2.2.2), (16, Pv b63 0), (31, s7), (32, Iv (x8.length : Int)), (33, Iv x26), (34, Bv (decide (x26 < ((x8.length : Int) : Int)))), (35, Iv x26), (36, ix s7 (Int.toNat x26 * 4)), (37, .agg #[Iv x47.1, Iv x47.2.1, Iv x47.2.2.1, Iv x47.2.2.2]), (38, Iv x1), (39, Iv x26), (40, Iv x50), (41, Iv x51), (42, Bv (decide (x51 ≠ (0 : Int)))), (43, .tuple #[.agg #[s56, Iv x55.2.1, Iv x55.2.2.1], Bv x55.2.2.2]), (44, .agg #[Iv 0, Iv 0]), (45, s54), (46, Iv x2), (47, .agg #[s54, Iv x2, Iv 0]), (48, Iv x26), (49, .agg #[Iv x47.1, Iv x47.2.1, Iv x47.2.2.1, Iv x47.2.2.2]), (50, .tuple #[.agg #[s56, Iv x55.2.1, Iv x55.2.2.1], Bv x55.2.2.2]), (51, .agg #[s56, Iv x55.2.1, Iv x55.2.2.1]), (52, Bv x55.2.2.2), (53, Bv x55.2.2.2), (54, Bv (!x55.2.2.2)), (55, .func (.func 22) #[] #[Pv b3 0, Pv b6 0, Pv b9 0]), (56, Iv x1), (57, Iv x26), (58, Iv x64), (59, Iv x65), (60, Pv b57 1), (61, Iv x55.2.1), (62, .agg #[s61, Iv x60.2.1, Iv x60.2.2])] := hf
          exact Q.val (v := .agg #[Iv x66.1, Iv x66.2]) rfl rfl rfl hS hf (RunV.ldEN (us := [Iv x66.1, Iv x66.2]) (o := 0) T_agg_33 T_size_33 rfl E33_len rfl (hS.rdS (j := 5) rfl) hx66 rfl rfl rfl)
         ·exact absurd h2_ (by simp)
        ·intro k s g w h1_ h2_ hsp hD a hf
         obtain ⟨b72, b67, s68, s71⟩ := g
         rcases k with _ | _ | k
         ·have hS : St w0 w (fun k => (memoA 33 2 E33 (bestN F F x8) b4 s5).fp k) [rdE 4 E24 s7 x8, pt b3 (Cs #[.map (some b4)] 58), pt b6 (Cs #[s7] 22), pt b9 (Cs #[.func (.func 22) #[] #[Pv b3 0, Pv b6 0, Pv b9 0]] 59)] [condA (s 16) (pt b72 (Cs #[.slice none 0 0, Iv 0, Iv 0] 61)), memIn (bestN F F x8) s62 s61 x60.1, memoA 33 2 E33 (bestN F F x8) b4 s62, pt b63 (Cs #[s61, Iv x60.2.1, Iv x60.2.2] 61), pt b57 (Cs #[s56, Iv x55.2.1, Iv x55.2.2.1] 61), slE 33 2 E33 s56 x55.1, slE 33 2 E33 s54 ([(0, 0)]), pt b48 (Cs #[Iv x47.1, Iv x47.2.1, Iv x47.2.2.1, Iv x47.2.2.2] 24), pt b10 (Cs #[.slice none 0 0, Iv 0, Iv 0] 61), pt b11 (Cs #[Iv x1, Iv x2] 63), slE 33 2 E33 s22 x23, pt b15 (Cs #[s22, Iv x24, Iv x25] 61)] := hD; clear hD
          replace hf : Fr a 104 [] [(68, Pv b63 0), (0, Iv x1), (1, Iv x2), (2, Pv b3 0), (4, Pv b9 0), (7, Pv b10 0), (8, Pv b11 0), (11, Pv b15 0), (12, Iv x26), (13, Pv b48 0), (14, Pv b57 0), (15, Bv x55.2.2.2), (16, Pv b63 0), (31, s7), (32, Iv (x8.length : Int)), (33, Iv x26), (34, Bv (decide (x26 < ((x8.length : Int) : Int)))), (35, Iv x26), (36, ix s7 (Int.toNat x26 * 4)), (37, .agg #[Iv x47.1, Iv x47.2.1, Iv x47.2.2.1, Iv x47.2.2.2]), (38, Iv x1), (39, Iv x26), (40, Iv x50), (41, Iv x51), (42, Bv (decide (x51 ≠ (0 : Int)))), (43, .tuple #[.agg #[s56, Iv x55.2.1, Iv x55.2.2.1], Bv x55.2.2.2]), (44, .agg #[Iv 0, Iv 0]), (45, s54), (46, Iv x2), (47, .agg #[s54, Iv x2, Iv 0]), (48, Iv x26), (49, .agg #[Iv x47.1, Iv x47.2.1, Iv x47.2.2.1, Iv x47.2.2.2]), (50, .tuple #[.agg #[s56, Iv x55.2.1, Iv x55.2.2.1], Bv x55.2.2.2]), (51, .agg #[s56, Iv x55.2.1, Iv x55.2.2.1]), (52, Bv x55.2.2.2), (53, Bv x55.2.2.2), (54, Bv (!x55.2.2.2)), (55, .func (.func 22) #[] #[Pv b3 0, Pv b6 0, Pv b9 0]), (56, Iv x1), (57, Iv x26), (58, Iv x64), (59, Iv x65), (60, Pv b57 1), (61, Iv x55.2.1), (62, .agg #[s61, Iv x60.2.1, Iv x60.2.2])] := hf
          exact Q.val (v := s61) rfl rfl rfl hS hf (RunV.load1 T_agg_27 rfl (hS.ptAt (i := 3) rfl) rfl)
         ·have hS : St w0 w (fun k => (memoA 33 2 E33 (bestN F F x8) b4 s5).fp k) [rdE 4 E24 s7 x8, pt b3 (Cs #[.map (some b4)] 58), pt b6 (Cs #[s7] 22), pt b9 (Cs #[.func (.func 22) #[] #[Pv b3 0, Pv b6 0, Pv b9 0]] 59)] [pt b67 (Cs #[Iv x66.1, Iv x66.2] 33), condA (s 16) (pt b72 (Cs #[.slice none 0 0, Iv 0, Iv 0] 61)), memIn (bestN F F x8) s62 s61 x60.1, memoA 33 2 E33 (bestN F F x8) b4 s62, pt b63 (Cs #[s61, Iv x60.2.1, Iv x60.2.2] 61), pt b57 (Cs #[s56, Iv x55.2.1, Iv x55.2.2.1] 61), slE 33 2 E33 s56 x55.1, slE 33 2 E33 s54 ([(0, 0)]), pt b48 (Cs #[Iv x47.1, Iv x47.2.1, Iv x47.2.2.1, Iv x47.2.2.2] 24), pt b10 (Cs #[.slice none 0 0, Iv 0, Iv 0] 61), pt b11 (Cs #[Iv x1, Iv x2] 63), slE 33 2 E33 s22 x23, pt b15 (Cs #[s22, Iv x24, Iv x25] 61)] := hD; clear hD
          replace hf : Fr a 104 [] [(68, Pv b63 0), (0, Iv x1), (1, Iv x2), (2, Pv b3 0), (4, Pv b9 0), (7, Pv b10 0), (8, Pv b11 0), (11, Pv b15 0), (12, Iv x26), (13, Pv b48 0), (14, Pv b57 0), (15, Bv x55.2.2.2), (16, Pv b63 0), (31, s7), (32, Iv (x8.length : Int)), (33, Iv x26), (34, Bv (decide (x26 < ((x8.length : Int) : Int)))), (35, Iv x26), (36, ix s7 (Int.toNat x26 * 4)), (37, .agg #[Iv x47.1, Iv x47.2.1, Iv x47.2.2.1, Iv x47.2.2.2]), (38, Iv x1), (39, Iv x26), (40, Iv x50), (41, Iv x51), (42, Bv (decide (x51 ≠ (0 : Int)))), (43, .tuple #[.agg #[s56, Iv x55.2.1, Iv x55.2.2.1], Bv x55.2.2.2]), (44, .agg #[Iv 0, Iv 0]), (45, s54), (46, Iv x2), (47, .agg #[s54, Iv x2, Iv 0]), (48, Iv x26), (49, .agg #[Iv x47.1, Iv x47.2.1, Iv x47.2.2.1, Iv x47.2.2.2]), (50, .tuple #[.agg #[s56, Iv x55.2.1, Iv x55.2.2.1], Bv x55.2.2.2]), (51, .agg #[s56, Iv x55.2.1, Iv x55.2.2.1]), (52, Bv x55.2.2.2), (53, Bv x55.2.2.2), (54, Bv (!x55.2.2.2)), (55, .func (.func 22) #[] #[Pv b3 0, Pv b6 0, Pv b9 0]), (56, Iv x1), (57, Iv x26), (58, Iv x64), (59, Iv x65), (60, Pv b57 1), (61, Iv x55.2.1), (62, .agg #[s61, Iv x60.2.1, Iv x60.2.2])] := hf
          exact Q.val (v := s61) rfl rfl rfl hS hf (RunV.load1 T_agg_27 rfl (hS.ptAt (i := 4) rfl) rfl)
         ·exact absurd h2_ (by simp)
        ·intro k s g w h1_ h2_ hsp hD a hf
         obtain ⟨b72, b67, s68, s71⟩ := g
         rcases k with _ | _ | _ | k
         ·have hS : St w0 w (fun k => (memoA 33 2 E33 (bestN F F x8) b4 s5).fp k) [rdE 4 E24 s7 x8, pt b3 (Cs #[.map (some b4)] 58), pt b6 (Cs #[s7] 22), pt b9 (Cs #[.func (.func 22) #[] #[Pv b3 0, Pv b6 0, Pv b9 0]] 59)] [condA (s 16) (pt b72 (Cs #[.slice none 0 0, Iv 0, Iv 0] 61)), memIn (bestN F F x8) s62 s61 x60.1, memoA 33 2 E33 (bestN F F x8) b4 s62, pt b63 (Cs #[s61, Iv x60.2.1, Iv x60.2.2] 61), pt b57 (Cs #[s56, Iv x55.2.1, Iv x55.2.2.1] 61), slE 33 2 E33 s56 x55.1, slE 33 2 E33 s54 ([(0, 0)]), pt b48 (Cs #[Iv x47.1, Iv x47.2.1, Iv x47.2.2.1, Iv x47.2.2.2] 24), pt b10 (Cs #[.slice none 0 0, Iv 0, Iv 0] 61), pt b11 (Cs #[Iv x1, Iv x2] 63), slE 33 2 E33 s22 x23, pt b15 (Cs #[s22, Iv x24, Iv x25] 61)] := hD; clear hD
          replace hf : Fr a 104 [] [(71, Pv b63 1), (0, Iv x1), (1, Iv x2), (2, Pv b3 0), (4, Pv b9 0), (7, Pv b10 0), (8, Pv b11 0), (11, Pv b15 0), (12, Iv x26), (13, Pv b48 0), (14, Pv b57 0), (15, Bv x55.2.2.2), (16, Pv b63 0), (31, s7), (32, Iv (x8.length : Int)), (33, Iv x26), (34, Bv (decide (x26 < ((x8.length : Int) : Int)))), (35, Iv x26), (36, ix s7 (Int.toNat x26 * 4)), (37, .agg #[Iv x47.1, Iv x47.2.1, Iv x47.2.2.1, Iv x47.2.2.2]), (38, Iv x1), (39, Iv x26), (40, Iv x50), (41, Iv x51), (42, Bv (decide (x51 ≠ (0 : Int)))), (43, .tuple #[.agg #[s56, Iv x55.2.1, Iv x55.2.2.1], Bv x55.2.2.2]), (44, .agg #[Iv 0, Iv 0]), (45, s54), (46, Iv x2), (47, .agg #[s54, Iv x2, Iv 0]), (48, Iv x26), (49, .agg #[Iv x47.1, Iv x47.2.1, Iv x47.2.2.1, Iv x47.2.2.2]), (50, .tuple #[.agg #[s56, Iv x55.2.1, Iv x55.2.2.1], Bv x55.2.2.2]), (51, .agg #[s56, Iv x55.2.1, Iv x55.2.2.1]), (52, Bv x55.2.2.2), (53, Bv x55.2.2.2), (54, Bv (!x55.2.2.2)), (55, .func (.func 22) #[] #[Pv b3 0, Pv b6 0, Pv b9 0]), (56, Iv x1), (57, Iv x26), (58, Iv x64), (59, Iv x65), (60, Pv b57 1), (61, Iv x55.2.1), (62, .agg #[s61, Iv x60.2.1, Iv x60.2.2])] := hf
          exact Q.val (v := Iv x60.2.1) rfl rfl rfl hS hf (RunV.load1 T_agg_2 rfl (hS.ptAt (i := 3) rfl) rfl)
         ·have hS : St w0 w (fun k => (memoA 33 2 E33 (bestN F F x8) b4 s5).fp k) [rdE 4 E24 s7 x8, pt b3 (Cs #[.map (some b4)] 58), pt b6 (Cs #[s7] 22), pt b9 (Cs #[.func (.func 22) #[] #[Pv b3 0, Pv b6 0, Pv b9 0]] 59)] [pt b67 (Cs #[Iv x66.1, Iv x66.2] 33), condA (s 16) (pt b72 (Cs #[.slice none 0 0, Iv 0, Iv 0] 61)), memIn (bestN F F x8) s62 s61 x60.1, memoA 33 2 E33 (bestN F F x8) b4 s62, pt b63 (Cs #[s61, Iv x60.2.1, Iv x60.2.2] 61), pt b57 (Cs #[s56, Iv x55.2.1, Iv x55.2.2.1] 61), slE 33 2 E33 s56 x55.1, slE 33 2 E33 s54 ([(0, 0)]), pt b48 (Cs #[Iv x47.1, Iv x47.2.1, Iv x47.2.2.1, Iv x47.2.2.2] 24), pt b10 (Cs #[.slice none 0 0, Iv 0, Iv 0] 61), pt b11 (Cs #[Iv x1, Iv x2] 63), slE 33 2 E33 s22 x23, pt b15 (Cs #[s22, Iv x24, Iv x25] 61)] := hD; clear hD
          replace hf : Fr a 104 [] [(71, Pv b63 1), (0, Iv x1), (1, Iv x2), (2, Pv b3 0), (4, Pv b9 0), (7, Pv b10 0), (8, Pv b11 0), (11, Pv b15 0), (12, Iv x26), (13, Pv b48 0), (14, Pv b57 0), (15, Bv x55.2.2.2), (16, Pv b63 0), (31, s7), (32, Iv (x8.length : Int)), (33, Iv x26), (34, Bv (decide (x26 < ((x8.length : Int) : Int)))), (35, Iv x26), (36, ix s7 (Int.toNat x26 * 4)), (37, .agg #[Iv x47.1, Iv x47.2.1, Iv x47.2.2.1, Iv x47.2.2.2]), (38, Iv x1), (39, Iv x26), (40, Iv x50), (41, Iv x51), (42, Bv (decide (x51 ≠ (0 : Int)))), (43, .tuple #[.agg #[s56, Iv x55.2.1, Iv x55.2.2.1], Bv x55.2.2.2]), (44, .agg #[Iv 0, Iv 0]), (45, s54), (46, Iv x2), (47, .agg #[s54, Iv x2, Iv 0]), (48, Iv x26), (49, .agg #[Iv x47.1, Iv x47.2.1, Iv x47.2.2.1, Iv x47.2.2.2]), (50, .tuple #[.agg #[s56, Iv x55.2.1, Iv x55.2.2.1], Bv x55.2.2.2]), (51, .agg #[s56, Iv x55.2.1, Iv x55.2.2.1]), (52, Bv x55.2.2.2), (53, Bv x55.2.2.2), (54, Bv (!x55.2.2.2)), (55, .func (.func 22) #[] #[Pv b3 0, Pv b6 0, Pv b9 0]), (56, Iv x1), (57, Iv x26), (58, Iv x64), (59, Iv x65), (60, Pv b57 1), (61, Iv x55.2.1), (62, .agg #[s61, Iv x60.2.1, Iv x60.2.2])] := hf
          exact Q.val (v := Iv x60.2.1) rfl rfl rfl hS hf (RunV.load1 T_agg_2 rfl (hS.ptAt (i := 4) rfl) rfl)
         ·have hS : St w0 w (fun k => (memoA 33 2 E33 (bestN F F x8) b4 s5).fp k) [rdE 4 E24 s7 x8, pt b3 (Cs #[.map (some b4)] 58), pt b6 (Cs #[s7] 22), pt b9 (Cs #[.func (.func 22) #[] #[Pv b3 0, Pv b6 0, Pv b9 0]] 59)] [slE 33 2 E33 s71 (([x66]) ++ x60.1), condA (s 16) (pt b72 (Cs #[.slice none 0 0, Iv 0, Iv 0] 61)), memIn (bestN F F x8) s62 s61 x60.1, memoA 33 2 E33 (bestN F F x8) b4 s62, pt b63 (Cs #[s61, Iv x60.2.1, Iv x60.2.2] 61), pt b57 (Cs #[s56, Iv x55.2.1, Iv x55.2.2.1] 61), slE 33 2 E33 s56 x55.1, slE 33 2 E33 s54 ([(0, 0)]), pt b48 (Cs #[Iv x47.1, Iv x47.2.1, Iv x47.2.2.1, Iv x47.2.2.2] 24), pt b10 (Cs #[.slice none 0 0, Iv 0, Iv 0] 61), pt b11 (Cs #[Iv x1, Iv x2] 63), slE 33 2 E33 s22 x23, pt b15 (Cs #[s22, Iv x24, Iv x25] 61)] := hD; clear hD
          replace hf : Fr a 104 [] [(71, Pv b63 1), (0, Iv x1), (1, Iv x2), (2, Pv b3 0), (4, Pv b9 0), (7, Pv b10 0), (8, Pv b11 0), (11, Pv b15 0), (12, Iv x26), (13, Pv b48 0), (14, Pv b57 0), (15, Bv x55.2.2.2), (16, Pv b63 0), (31, s7), (32, Iv (x8.length : Int)), (33, Iv x26), (34, Bv (decide (x26 < ((x8.length : Int) : Int)))), (35, Iv x26), (36, ix s7 (Int.toNat x26 * 4)), (37, .agg #[Iv x47.1, Iv x47.2.1, Iv x47.2.2.1, Iv x47.2.2.2]), (38, Iv x1), (39, Iv x26), (40, Iv x50), (41, Iv x51), (42, Bv (decide (x51 ≠ (0 : Int)))), (43, .tuple #[.agg #[s56, Iv x55.2.1, Iv x55.2.2.1], Bv x55.2.2.2]), (44, .agg #[Iv 0, Iv 0]), (45, s54), (46, Iv x2), (47, .agg #[s54, Iv x2, Iv 0]), (48, Iv x26), (49, .agg #[Iv x47.1, Iv x47.2.1, Iv x47.2.2.1, Iv x47.2.2.2]), (50, .tuple #[.agg #[s56, Iv x55.2.1, Iv x55.2.2.1], Bv x55.2.2.2]), (51, .agg #[s56, Iv x55.2.1, Iv x55.2.2.1]), (52, Bv x55.2.2.2), (53, Bv x55.2.2.2), (54, Bv (!x55.2.2.2)), (55, .func (.func 22) #[] #[Pv b3 0, Pv b6 0, Pv b9 0]), (56, Iv x1), (57, Iv x26), (58, Iv x64), (59, Iv x65), (60, Pv b57 1), (61, Iv x55.2.1), (62, .agg #[s61, Iv x60.2.1, Iv x60.2.2])] := hf
          exact Q.val (v := Iv x60.2.1) rfl rfl rfl hS hf (RunV.load1 T_agg_2 rfl (hS.ptAt (i := 4) rfl) rfl)
         ·exact absurd h2_ (by simp)
        ·intro k s g w h1_ h2_ hsp hD a hf
         obtain ⟨b72, b67, s68, s71⟩ := g
         rcases k with _ | _ | _ | k
         ·have hS : St w0 w (fun k => (memoA 33 2 E33 (bestN F F x8) b4 s5).fp k) [rdE 4 E24 s7 x8, pt b3 (Cs #[.map (some b4)] 58), pt b6 (Cs #[s7] 22), pt b9 (Cs #[.func (.func 22) #[] #[Pv b3 0, Pv b6 0, Pv b9 0]] 59)] [condA (s 16) (pt b72 (Cs #[.slice none 0 0, Iv 0, Iv 0] 61)), memIn (bestN F F x8) s62 s61 x60.1, memoA 33 2 E33 (bestN F F x8) b4 s62, pt b63 (Cs #[s61, Iv x60.2.1, Iv x60.2.2] 61), pt b57 (Cs #[s56, Iv x55.2.1, Iv x55.2.2.1] 61), slE 33 2 E33 s56 x55.1, slE 33 2 E33 s54 ([(0, 0)]), pt b48 (Cs #[Iv x47.1, Iv x47.2.1, Iv x47.2.2.1, Iv x47.2.2.2] 24), pt b10 (Cs #[.slice none 0 0, Iv 0, Iv 0] 61), pt b11 (Cs #[Iv x1, Iv x2] 63), slE 33 2 E33 s22 x23, pt b15 (Cs #[s22, Iv x24, Iv x25] 61)] := hD; clear hD
          replace hf : Fr a 104 [] [(73, Pv b63 2), (0, Iv x1), (1, Iv x2), (2, Pv b3 0), (4, Pv b9 0), (7, Pv b10 0), (8, Pv b11 0), (11, Pv b15 0), (12, Iv x26), (13, Pv b48 0), (14, Pv b57 0), (15, Bv x55.2.2.2), (16, Pv b63 0), (31, s7), (32, Iv (x8.length : Int)), (33, Iv x26), (34, Bv (decide (x26 < ((x8.length : Int) : Int)))), (35, Iv x26), (36, ix s7 (Int.toNat x26 * 4)), (37, .agg #[Iv x47.1, Iv x47.2.1, Iv x47.2.2.1, Iv x47.2.2.2]), (38, Iv x1), (39, Iv x26), (40, Iv x50), (41, Iv x51), (42, Bv (decide (x51 ≠ (0 : Int)))), (43, .tuple #[.agg #[s56, Iv x55.2.1, Iv x55.2.2.1], Bv x55.2.2.2]), (44, .agg #[Iv 0, Iv 0]), (45, s54), (46, Iv x2), (47, .agg #[s54, Iv x2, Iv 0]), (48, Iv x26), (49, .agg #[Iv x47.1, Iv x47.2.1, Iv x47.2.2.1, Iv x47.2.2.2]), (50, .tuple #[.agg #[s56, Iv x55.2.1, Iv x55.2.2.1], Bv x55.2.2.2]), (51, .agg #[s56, Iv x55.2.1, Iv x55.2.2.1]), (52, Bv x55.2.2.2), (53, Bv x55.2.2.2), (54, Bv (!x55.2.2.2)), (55, .func (.func 22) #[] #[Pv b3 0, Pv b6 0, Pv b9 0]), (56, Iv x1), (57, Iv x26), (58, Iv x64), (59, Iv x65), (60, Pv b57 1), (61, Iv x55.2.1), (62, .agg #[s61, Iv x60.2.1, Iv x60.2.2])] := hf
          exact Q.val (v := Iv x60.2.2) rfl rfl rfl hS hf (RunV.load1 T_agg_3 rfl (hS.ptAt (i := 3) rfl) rfl)
         ·have hS : St w0 w (fun k => (memoA 33 2 E33 (bestN F F x8) b4 s5).fp k) [rdE 4 E24 s7 x8, pt b3 (Cs #[.map (some b4)] 58), pt b6 (Cs #[s7] 22), pt b9 (Cs #[.func (.func 22) #[] #[Pv b3 0, Pv b6 0, Pv b9 0]] 59)] [pt b67 (Cs #[Iv x66.1, Iv x66.2] 33), condA (s 16) (pt b72 (Cs #[.slice none 0 0, Iv 0, Iv 0] 61)), memIn (bestN F F x8) s62 s61 x60.1, memoA 33 2 E33 (bestN F F x8) b4 s62, pt b63 (Cs #[s61, Iv x60.2.1, Iv x60.2.2] 61), pt b57 (Cs #[s56, Iv x55.2.1, Iv x55.2.2.1] 61), slE 33 2 E33 s56 x55.1, slE 33 2 E33 s54 ([(0, 0)]), pt b48 (Cs #[Iv x47.1, Iv x47.2.1, Iv x47.2.2.1, Iv x47.2.2.2] 24), pt b10 (Cs #[.slice none 0 0, Iv 0, Iv 0] 61), pt b11 (Cs #[Iv x1, Iv x2] 63), slE 33 2 E33 s22 x23, pt b15 (Cs #[s22, Iv x24, Iv x25] 61)] := hD; clear hD
          replace hf : Fr a 104 [] [(73, Pv b63 2), (0, Iv x1), (1, Iv x2), (2, Pv b3 0), (4, Pv b9 0), (7, Pv b10 0), (8, Pv b11 0), (11, Pv b15 0), (12, Iv x26), (13, Pv b48 0), (14, Pv b57 0), (15, Bv x55.2.2.2), (16, Pv b63 0), (31, s7), (32, Iv (x8.length : Int)), (33, Iv x26), (34, Bv (decide (x26 < ((x8.length : Int) : Int)))), (35, Iv x26), (36, ix s7 (Int.toNat x26 * 4)), (37, .agg #[Iv x47.1, Iv x47.2.1, Iv x47.2.2.1, Iv x47.2.2.2]), (38, Iv x1), (39, Iv x26), (40, Iv x50), (41, Iv x51), (42, Bv (decide (x51 ≠ (0 : Int)))), (43, .tuple #[.agg #[s56, Iv x55.2.1, Iv x55.2.2.1], Bv x55.2.2.2]), (44, .agg #[Iv 0, Iv 0]), (45, s54), (46, Iv x2), (47, .agg #[s54, Iv x2, Iv 0]), (48, Iv x26), (49, .agg #[Iv x47.1, Iv x47.2.1, Iv x47.2.2.1, Iv x47.2.2.2]), (50, .tuple #[.agg #[s56, Iv x55.2.1, Iv x55.2.2.1], Bv x55.2.2.2]), (51, .agg #[s56, Iv x55.2.1, Iv x55.2.2.1]), (52, Bv x55.2.2.2), (53, Bv x55.2.2.2), (54, Bv (!x55.2.2.2)), (55, .func (.func 22) #[] #[Pv b3 0, Pv b6 0, Pv b9 0]), (56, Iv x1), (57, Iv x26), (58, Iv x64), (59, Iv x65), (60, Pv b57 1), (61, Iv x55.2.1), (62, .agg #[s61, Iv x60.2.1, Iv x60.2.2])] := hf
          exact Q.val (v := Iv x60.2.2) rfl rfl rfl hS hf (RunV.load1 T_agg_3 rfl (hS.ptAt (i := 4) rfl) rfl)
         ·have hS : St w0 w (fun k => (memoA 33 2 E33 (bestN F F x8) b4 s5).fp k) [rdE 4 E24 s7 x8, pt b3 (Cs #[.map (some b4)] 58), pt b6 (Cs #[s7] 22), pt b9 (Cs #[.func (.func 22) #[] #[Pv b3 0, Pv b6 0, Pv b9 0]] 59)] [slE 33 2 E33 s71 (([x66]) ++ x60.1), condA (s 16) (pt b72 (Cs #[.slice none 0 0, Iv 0, Iv 0] 61)), memIn (bestN F F x8) s62 s61 x60.1, memoA 33 2 E33 (bestN F F x8) b4 s62, pt b63 (Cs #[s61, Iv x60.2.1, Iv x60.2.2] 61), pt b57 (Cs #[s56, Iv x55.2.1, Iv x55.2.2.1] 61), slE 33 2 E33 s56 x55.1, slE 33 2 E33 s54 ([(0, 0)]), pt b48 (Cs #[Iv x47.1, Iv x47.2.1, Iv x47.2.2.1, Iv x47.2.2.2] 24), pt b10 (Cs #[.slice none 0 0, Iv 0, Iv 0] 61), pt b11 (Cs #[Iv x1, Iv x2] 63), slE 33 2 E33 s22 x23, pt b15 (Cs #[s22, Iv x24, Iv x25] 61)] := hD; clear hD
          replace hf : Fr a 104 [] [(73, Pv b63 2), (0, Iv x1), (1, Iv x2), (2, Pv b3 0), (4, Pv b9 0), (7, Pv b10 0), (8, Pv b11 0), (11, Pv b15 0), (12, Iv x26), (13, Pv b48 0), (14, Pv b57 0), (15, Bv x55.2.2.2), (16, Pv b63 0), (31, s7), (32, Iv (x8.length : Int)), (33, Iv x26), (34, Bv (decide (x26 < ((x8.length : Int) : Int)))), (35, Iv x26), (36, ix s7 (Int.toNat x26 * 4)), (37, .agg #[Iv x47.1, Iv x47.2.1, Iv x47.2.2.1, Iv x47.2.2.2]), (38, Iv x1), (39, Iv x26), (40, Iv x50), (41, Iv x51), (42, Bv (decide (x51 ≠ (0 : Int)))), (43, .tuple #[.agg #[s56, Iv x55.2.1, Iv x55.2.2.1], Bv x55.2.2.2]), (44, .agg #[Iv 0, Iv 0]), (45, s54), (46, Iv x2), (47, .agg #[s54, Iv x2, Iv 0]), (48, Iv x26), (49, .agg #[Iv x47.1, Iv x47.2.1, Iv x47.2.2.1, Iv x47.2.2.2]), (50, .tuple #[.agg #[s56, Iv x55.2.1, Iv x55.2.2.1], Bv x55.2.2.2]), (51, .agg #[s56, Iv x55.2.1, Iv x55.2.2.1]), (52, Bv x55.2.2.2), (53, Bv x55.2.2.2), (54, Bv (!x55.2.2.2)), (55, .func (.func 22) #[] #[Pv b3 0, Pv b6 0, Pv b9 0]), (56, Iv x1), (57, Iv x26), (58, Iv x64), (59, Iv x65), (60, Pv b57 1), (61, Iv x55.2.1), (62, .agg #[s61, Iv x60.2.1, Iv x60.2.2])] := hf
          exact Q.val (v := Iv x60.2.2) rfl rfl rfl hS hf (RunV.load1 T_agg_3 rfl (hS.ptAt (i := 4) rfl) rfl)
         ·exact absurd h2_ (by simp)
        ·intro k s g w h1_ h2_ hsp hD a hf
         obtain ⟨b72, b67, s68, s71⟩ := g
         rcases k with _ | _ | _ | k
         ·have hS : St w0 w (fun k => (memoA 33 2 E33 (bestN F F x8) b4 s5).fp k) [rdE 4 E24 s7 x8, pt b3 (Cs #[.map (some b4)] 58), pt b6 (Cs #[s7] 22), pt b9 (Cs #[.func (.func 22) #[] #[Pv b3 0, Pv b6 0, Pv b9 0]] 59)] [condA (s 16) (pt b72 (Cs #[.slice none 0 0, Iv 0, Iv 0] 61)), memIn (bestN F F x8) s62 s61 x60.1, memoA 33 2 E33 (bestN F F x8) b4 s62, pt b63 (Cs #[s61, Iv x60.2.1, Iv x60.2.2] 61), pt b57 (Cs #[s56, Iv x55.2.1, Iv x55.2.2.1] 61), slE 33 2 E33 s56 x55.1, slE 33 2 E33 s54 ([(0, 0)]), pt b48 (Cs #[Iv x47.1, Iv x47.2.1, Iv x47.2.2.1, Iv x47.2.2.2] 24), pt b10 (Cs #[.slice none 0 0, Iv 0, Iv 0] 61), pt b11 (Cs #[Iv x1, Iv x2] 63), slE 33 2 E33 s22 x23, pt b15 (Cs #[s22, Iv x24, Iv x25] 61)] := hD; clear hD
          replace hf : Fr a 104 [] [(75, Pv b48 3), (0, Iv x1), (1, Iv x2), (2, Pv b3 0), (4, Pv b9 0), (7, Pv b10 0), (8, Pv b11 0), (11, Pv b15 0), (12, Iv x26), (13, Pv b48 0), (14, Pv b57 0), (15, Bv x55.2.2.2), (16, Pv b63 0), (31, s7), (32, Iv (x8.length : Int)), (33, Iv x26), (34, Bv (decide (x26 < ((x8.length : Int) : Int)))), (35, Iv x26), (36, ix s7 (Int.toNat x26 * 4)), (37, .agg #[Iv x47.1, Iv x47.2.1, Iv x47.2.2.1, Iv x47.2.2.2]), (38, Iv x1), (39, Iv x26), (40, Iv x50), (41, Iv x51), (42, Bv (decide (x51 ≠ (0 : Int)))), (43, .tuple #[.agg #[s56, Iv x55.2.1, Iv x55.2.2.1], Bv x55.2.2.2]), (44, .agg #[Iv 0, Iv 0]), (45, s54), (46, Iv x2), (47, .agg #[s54, Iv x2, Iv 0]), (48, Iv x26), (49, .agg #[Iv x47.1, Iv x47.2.1, Iv x47.2.2.1, Iv x47.2.2.2]), (50, .tuple #[.agg #[s56, Iv x55.2.1, Iv x55.2.2.1], Bv x55.2.2.2]), (51, .agg #[s56, Iv x55.2.1, Iv x55.2.2.1]), (52, Bv x55.2.2.2), (53, Bv x55.2.2.2), (54, Bv (!x55.2.2.2)), (55, .func (.func 22) #[] #[Pv b3 0, Pv b6 0, Pv b9 0]), (56, Iv x1), (57, Iv x26), (58, Iv x64), (59, Iv x65), (60, Pv b57 1), (61, Iv x55.2.1), (62, .agg #[s61, Iv x60.2.1, Iv x60.2.2])] := hf
          exact Q.val (v := Iv x47.2.2.2) rfl rfl rfl hS hf (RunV.load1 T_agg_3 rfl (hS.ptAt (i := 7) rfl) rfl)
         ·have hS : St w0 w (fun k => (memoA 33 2 E33 (bestN F F x8) b4 s5).fp k) [rdE 4 E24 s7 x8, pt b3 (Cs #[.map (some b4)] 58), pt b6 (Cs #[s7] 22), pt b9 (Cs #[.func (.func 22) #[] #[Pv b3 0, Pv b6 0, Pv b9 0]] 59)] [pt b67 (Cs #[Iv x66.1, Iv x66.2] 33), condA (s 16) (pt b72 (Cs #[.slice none 0 0, Iv 0, Iv 0] 61)), memIn (bestN F F x8) s62 s61 x60.1, memoA 33 2 E33 (bestN F F x8) b4 s62, pt b63 (Cs #[s61, Iv x60.2.1, Iv x60.2.2] 61), pt b57 (Cs #[s56, Iv x55.2.1, Iv x55.2.2.1] 61), slE 33 2 E33 s56 x55.1, slE 33 2 E33 s54 ([(0, 0)]), pt b48 (Cs #[Iv x47.1, Iv x47.2.1, Iv x47.2.2.1, Iv x47.2.2.2] 24), pt b10 (Cs #[.slice none 0 0, Iv 0, Iv 0] 61), pt b11 (Cs #[Iv x1, Iv x2] 63), slE 33 2 E33 s22 x23, pt b15 (Cs #[s22, Iv x24, Iv x25] 61)] := hD; clear hD
          replace hf : Fr a 104 [] [(75, Pv b48 3), (0, Iv x1), (1, Iv x2), (2, Pv b3 0), (4, Pv b9 0), (7, Pv b10 0), (8, Pv b11 0), (11, Pv b15 0), (12, Iv x26), (13, Pv b48 0), (14, Pv b57 0), (15, Bv x55.2.2.2), (16, Pv b63 0), (31, s7), (32, Iv (x8.length : Int)), (33, Iv x26), (34, Bv (decide (x26 < ((x8.length : Int) : Int)))), (35, Iv x26), (36, ix s7 (Int.toNat x26 * 4)), (37, .agg #[Iv x47.1, Iv x47.2.1, Iv x47.2.2.1, Iv x47.2.2.2]), (38, Iv x1), (39, Iv x26), (40, Iv x50), (41, Iv x51), (42, Bv (decide (x51 ≠ (0 : Int)))), (43, .tuple #[.agg #[s56, Iv x55.2.1, Iv x55.2.2.1], Bv x55.2.2.2]), (44, .agg #[Iv 0, Iv 0]), (45, s54), (46, Iv x2), (47, .agg #[s54, Iv x2, Iv 0]), (48, Iv x26), (49, .agg #[Iv x47.1, Iv x47.2.1, Iv x47.2.2.1, Iv x47.2.2.2]), (50, .tuple #[.agg #[s56, Iv x55.2.1, Iv x55.2.2.1], Bv x55.2.2.2]), (51, .agg #[s56, Iv x55.2.1, Iv x55.2.2.1]), (52, Bv x55.2.2.2), (53, Bv x55.2.2.2), (54, Bv (!x55.2.2.2)), (55, .func (.func 22) #[] #[Pv b3 0, Pv b6 0, Pv b9 0]), (56, Iv x1), (57, Iv x26), (58, Iv x64), (59, Iv x65), (60, Pv b57 1), (61, Iv x55.2.1), (62, .agg #[s61, Iv x60.2.1, Iv x60.2.2])] := hf
          exact Q.val (v := Iv x47.2.2.2) rfl rfl rfl hS hf (RunV.load1 T_agg_3 rfl (hS.ptAt (i := 8) rfl) rfl)
         ·have hS : St w0 w (fun k => (memoA 33 2 E33 (bestN F F x8) b4 s5).fp k) [rdE 4 E24 s7 x8, pt b3 (Cs #[.map (some b4)] 58), pt b6 (Cs #[s7] 22), pt b9 (Cs #[.func (.func 22) #[] #[Pv b3 0, Pv b6 0, Pv b9 0]] 59)] [slE 33 2 E33 s71 (([x66]) ++ x60.1), condA (s 16) (pt b72 (Cs #[.slice none 0 0, Iv 0, Iv 0] 61)), memIn (bestN F F x8) s62 s61 x60.1, memoA 33 2 E33 (bestN F F x8) b4 s62, pt b63 (Cs #[s61, Iv x60.2.1, Iv x60.2.2] 61), pt b57 (Cs #[s56, Iv x55.2.1, Iv x55.2.2.1] 61), slE 33 2 E33 s56 x55.1, slE 33 2 E33 s54 ([(0, 0)]), pt b48 (Cs #[Iv x47.1, Iv x47.2.1, Iv x47.2.2.1, Iv x47.2.2.2] 24), pt b10 (Cs #[.slice none 0 0, Iv 0, Iv 0] 61), pt b11 (Cs #[Iv x1, Iv x2] 63), slE 33 2 E33 s22 x23, pt b15 (Cs #[s22, Iv x24, Iv x25] 61)] := hD; clear hD
          replace hf : Fr a 104 [] [(75, Pv b48 3), (0, Iv x1), (1, Iv x2), (2, Pv b3 0), (4, Pv b9 0), (7, Pv b10 0), (8, Pv b11 0), (11, Pv b15 0), (12, Iv x26), (13, Pv b48 0), (14, Pv b57 0), (15, Bv x55.2.2.2), (16, Pv b63 0), (31, s7), (32, Iv (x8.length : Int)), (33, Iv x26), (34, Bv (decide (x26 < ((x8.length : Int) : Int)))), (35, Iv x26), (36, ix s7 (Int.toNat x26 * 4)), (37, .agg #[Iv x47.1, Iv x47.2.1, Iv x47.2.2.1, Iv x47.2.2.2]), (38, Iv x1), (39, Iv x26), (40, Iv x50), (41, Iv x51), (42, Bv (decide (x51 ≠ (0 : Int)))), (43, .tuple #[.agg #[s56, Iv x55.2.1, Iv x55.2.2.1], Bv x55.2.2.2]), (44, .agg #[Iv 0, Iv 0]), (45, s54), (46, Iv x2), (47, .agg #[s54, Iv x2, Iv 0]), (48, Iv x26), (49, .agg #[Iv x47.1, Iv x47.2.1, Iv x47.2.2.1, Iv x47.2.2.2]), (50, .tuple #[.agg #[s56, Iv x55.2.1, Iv x55.2.2.1], Bv x55.2.2.2]), (51, .agg #[s56, Iv x55.2.1, Iv x55.2.2.1]), (52, Bv x55.2.2.2), (53, Bv x55.2.2.2), (54, Bv (!x55.2.2.2)), (55, .func (.func 22) #[] #[Pv b3 0, Pv b6 0, Pv b9 0]), (56, Iv x1), (57, Iv x26), (58, Iv x64), (59, Iv x65), (60, Pv b57 1), (61, Iv x55.2.1), (62, .agg #[s61, Iv x60.2.1, Iv x60.2.2])] := hf
          exact Q.val (v := Iv x47.2.2.2) rfl rfl rfl hS hf (RunV.load1 T_agg_3 rfl (hS.ptAt (i := 8) rfl) rfl)
         ·exact absurd h2_ (by simp)
        ·intro k s g w h1_ h2_ hsp hD a hf
         obtain ⟨b72, b67, s68, s71⟩ := g
         rcases k with _ | _ | _ | k
         ·exact absurd h1_ (by decide)
         ·exact absurd h1_ (by decide)
         ·have hS : St w0 w (fun k => (memoA 33 2 E33 (bestN F F x8) b4 s5).fp k) [rdE 4 E24 s7 x8, pt b3 (Cs #[.map (some b4)] 58), pt b6 (Cs #[s7] 22), pt b9 (Cs #[.func (.func 22) #[] #[Pv b3 0, Pv b6 0, Pv b9 0]] 59)] [slE 33 2 E33 s71 (([x66]) ++ x60.1), condA (s 16) (pt b72 (Cs #[.slice none 0 0, Iv 0, Iv 0] 61)), memIn (bestN F F x8) s62 s61 x60.1, memoA 33 2 E33 (bestN F F x8) b4 s62, pt b63 (Cs #[s61, Iv x60.2.1, Iv x60.2.2] 61), pt b57 (Cs #[s56, Iv x55.2.1, Iv x55.2.2.1] 61), slE 33 2 E33 s56 x55.1, slE 33 2 E33 s54 ([(0, 0)]), pt b48 (Cs #[Iv x47.1, Iv x47.2.1, Iv x47.2.2.1, Iv x47.2.2.2] 24), pt b10 (Cs #[.slice none 0 0, Iv 0, Iv 0] 61), pt b11 (Cs #[Iv x1, Iv x2] 63), slE 33 2 E33 s22 x23, pt b15 (Cs #[s22, Iv x24, Iv x25] 61)] := hD; clear hD
          replace hf : Fr a 104 [] [(70, s71), (72, Iv x60.2.1), (77, Iv (IntKind.i64.wrap (x60.2.2 + x47.2.2.2))), (0, Iv x1), (1, Iv x2), (2, Pv b3 0), (4, Pv b9 0), (7, Pv b10 0), (8, Pv b11 0), (11, Pv b15 0), (12, Iv x26), (13, Pv b48 0), (14, Pv b57 0), (15, Bv x55.2.2.2), (16, Pv b63 0), (31, s7), (32, Iv (x8.length : Int)), (33, Iv x26), (34, Bv (decide (x26 < ((x8.length : Int) : Int)))), (35, Iv x26), (36, ix s7 (Int.toNat x26 * 4)), (37, .agg #[Iv x47.1, Iv x47.2.1, Iv x47.2.2.1, Iv x47.2.2.2]), (38, Iv x1), (39, Iv x26), (40, Iv x50), (41, Iv x51), (42, Bv (decide (x51 ≠ (0 : Int)))), (43, .tuple #[.agg #[s56, Iv x55.2.1, Iv x55.2.2.1], Bv x55.2.2.2]), (44, .agg #[Iv 0, Iv 0]), (45, s54), (46, Iv x2), (47, .agg #[s54, Iv x2, Iv 0]), (48, Iv x26), (49, .agg #[Iv x47.1, Iv x47.2.1, Iv x47.2.2.1, Iv x47.2.2.2]), (50, .tuple #[.agg #[s56, Iv x55.2.1, Iv x55.2.2.1], Bv x55.2.2.2]), (51, .agg #[s56, Iv x55.2.1, Iv x55.2.2.1]), (52, Bv x55.2.2.2), (53, Bv x55.2.2.2), (54, Bv (!x55.2.2.2)), (55, .func (.func 22) #[] #[Pv b3 0, Pv b6 0, Pv b9 0]), (56, Iv x1), (57, Iv x26), (58, Iv x64), (59, Iv x65), (60, Pv b57 1), (61, Iv x55.2.1), (62, .agg #[s61, Iv x60.2.1, Iv x60.2.2])] := hf
          exact Q.val (v := .agg #[s71, Iv x60.2.1, Iv (IntKind.i64.wrap (x60.2.2 + x47.2.2.2))]) rfl rfl rfl hS hf (RunV.buildS (cs' := #[s71, Iv x60.2.1, Iv (IntKind.i64.wrap (x60.2.2 + x47.2.2.2))]) T_places_61 T_zero_61 rfl (by simp only [Instr.fill, (rdEOK_cells (hS.rdS (j := 0) rfl))]; rfl))
         ·exact absurd h2_ (by simp)
       ·clear hf hf1 hS
        refine ⟨?_, ?_, ?_, trivial⟩
        ·intro s g w hsp hD a hf
         obtain ⟨b72, b67, s68, s71⟩ := g
         have hS : St w0 w (fun k => (memoA 33 2 E33 (bestN F F x8) b4 s5).fp k) [rdE 4 E24 s7 x8, pt b3 (Cs #[.map (some b4)] 58), pt b6 (Cs #[s7] 22), pt b9 (Cs #[.func (.func 22) #[] #[Pv b3 0, Pv b6 0, Pv b9 0]] 59)] [condA (s 16) (pt b72 (Cs #[.slice none 0 0, Iv 0, Iv 0] 61)), memIn (bestN F F x8) s62 s61 x60.1, memoA 33 2 E33 (bestN F F x8) b4 s62, pt b63 (Cs #[s61, Iv x60.2.1, Iv x60.2.2] 61), pt b57 (Cs #[s56, Iv x55.2.1, Iv x55.2.2.1] 61), slE 33 2 E33 s56 x55.1, slE 33 2 E33 s54 ([(0, 0)]), pt b48 (Cs #[Iv x47.1, Iv x47.2.1, Iv x47.2.2.1, Iv x47.2.2.2] 24), pt b10 (Cs #[.slice none 0 0, Iv 0, Iv 0] 61), pt b11 (Cs #[Iv x1, Iv x2] 63), slE 33 2 E33 s22 x23, pt b15 (Cs #[s22, Iv x24, Iv x25] 61)] := hD; clear hD
         replace hf : Fr a 104 [] [(66, .agg #[Iv x66.1, Iv x66.2]), (0, Iv x1), (1, Iv x2), (2, Pv b3 0), (4, Pv b9 0), (7, Pv b10 0), (8, Pv b11 0), (11, Pv b15 0), (12, Iv x26), (13, Pv b48 0), (14, Pv b57 0), (15, Bv x55.2.2.2), (16, Pv b63 0), (31, s7), (32, Iv (x8.length : Int)), (33, Iv x26), (34, Bv (decide (x26 < ((x8.length : Int) : Int)))), (35, Iv x26), (36, ix s7 (Int.toNat x26 * 4)), (37, .agg #[Iv x47.1, Iv x47.2.1, Iv x47.2.2.1, Iv x47.2.2.2]), (38, Iv x1), (39, Iv x26), (40, Iv x50), (41, Iv x51), (42, Bv (decide (x51 ≠ (0 : Int)))), (43, .tuple #[.agg #[s56, Iv x55.2.1, Iv x55.2.2.1], Bv x55.2.2.2]), (44, .agg #[Iv 0, Iv 0]), (45, s54), (46, Iv x2), (47, .agg #[s54, Iv x2, Iv 0]), (48, Iv x26), (49, .agg #[Iv x47.1, Iv x47.2.1, Iv x47.2.2.1, Iv x47.2.2.2]), (50, .tuple #[.agg #[s56, Iv x55.2.1, Iv x55.2.2.1], Bv x55.2.2.2]), (51, .agg #[s56, Iv x55.2.1, Iv x55.2.2.1]), (52, Bv x55.2.2.2), (53, Bv x55.2.2.2), (54, Bv (!x55.2.2.2)), (55, .func (.func 22) #[] #[Pv b3 0, Pv b6 0, Pv b9 0]), (56, Iv x1), (57, Iv x26), (58, Iv x64), (59, Iv x65), (60, Pv b57 1), (61, Iv x55.2.1), (62, .agg #[s61, Iv x60.2.1, Iv x60.2.2])] := hf
         refine O.buildSlice (cs' := #[Iv x66.1, Iv x66.2]) (zs := #[Iv 0, Iv 0]) hf hS rfl rfl T_elem_27 T_size_33 T_zero_33 rfl rfl rfl rfl rfl ?_
         clear hf hS a; intro b67 w a hb67 hS hf
         exact O.nil ⟨rfl, (b72, b67, s68, s71), hf.to trivial, (fun d hd => by cases (show some 67 = some d from hd); exact hf.get _ _ rfl), (fun j hj hk => match j, hj, hk with | 0, hj, hk => rfl | 1, hj, hk => rfl | 2, hj, hk => rfl | 3, hj, hk => rfl | 4, hj, hk => absurd rfl hj | 5, hj, hk => rfl | 6, hj, hk => rfl | 7, hj, hk => absurd hk (by decide) | 8, hj, hk => rfl | 9, hj, hk => rfl | 10, hj, hk => rfl | 11, hj, hk => rfl | 12, hj, hk => rfl | 13, hj, hk => rfl | 14, hj, hk => rfl | 15, hj, hk => absurd hk (by decide) | 16, hj, hk => rfl | 17, hj, hk => absurd hk (by decide) | _ + 18, _, _ => rfl), hS⟩
        ·intro s g w hsp hD a hf
         obtain ⟨b72, b67, s68, s71⟩ := g
         have hS : St w0 w (fun k => (memoA 33 2 E33 (bestN F F x8) b4 s5).fp k) [rdE 4 E24 s7 x8, pt b3 (Cs #[.map (some b4)] 58), pt b6 (Cs #[s7] 22), pt b9 (Cs #[.func (.func 22) #[] #[Pv b3 0, Pv b6 0, Pv b9 0]] 59)] [pt b67 (Cs #[Iv x66.1, Iv x66.2] 33), condA (s 16) (pt b72 (Cs #[.slice none 0 0, Iv 0, Iv 0] 61)), memIn (bestN F F x8) s62 s61 x60.1, memoA 33 2 E33 (bestN F F x8) b4 s62, pt b63 (Cs #[s61, Iv x60.2.1, Iv x60.2.2] 61), pt b57 (Cs #[s56, Iv x55.2.1, Iv x55.2.2.1] 61), slE 33 2 E33 s56 x55.1, slE 33 2 E33 s54 ([(0, 0)]), pt b48 (Cs #[Iv x47.1, Iv x47.2.1, Iv x47.2.2.1, Iv x47.2.2.2] 24), pt b10 (Cs #[.slice none 0 0, Iv 0, Iv 0] 61), pt b11 (Cs #[Iv x1, Iv x2] 63), slE 33 2 E33 s22 x23, pt b15 (Cs #[s22, Iv x24, Iv x25] 61)] := hD; clear hD
         replace hf : Fr a 104 [] [(67, .slice (some ⟨b67, 0, none⟩) 1 1), (69, s61), (0, Iv x1), (1, Iv x2), (2, Pv b3 0), (4, Pv b9 0), (7, Pv b10 0), (8, Pv b11 0), (11, Pv b15 0), (12, Iv x26), (13, Pv b48 0), (14, Pv b57 0), (15, Bv x55.2.2.2), (16, Pv b63 0), (31, s7), (32, Iv (x8.length : Int)), (33, Iv x26), (34, Bv (decide (x26 < ((x8.length : Int) : Int)))), (35, Iv x26), (36, ix s7 (Int.toNat x26 * 4)), (37, .agg #[Iv x47.1, Iv x47.2.1, Iv x47.2.2.1, Iv x47.2.2.2]), (38, Iv x1), (39, Iv x26), (40, Iv x50), (41, Iv x51), (42, Bv (decide (x51 ≠ (0 : Int)))), (43, .tuple #[.agg #[s56, Iv x55.2.1, Iv x55.2.2.1], Bv x55.2.2.2]), (44, .agg #[Iv 0, Iv 0]), (45, s54), (46, Iv x2), (47, .agg #[s54, Iv x2, Iv 0]), (48, Iv x26), (49, .agg #[Iv x47.1, Iv x47.2.1, Iv x47.2.2.1, Iv x47.2.2.2]), (50, .tuple #[.agg #[s56, Iv x55.2.1, Iv x55.2.2.1], Bv x55.2.2.2]), (51, .agg #[s56, Iv x55.2.1, Iv x55.2.2.1]), (52, Bv x55.2.2.2), (53, Bv x55.2.2.2), (54, Bv (!x55.2.2.2)), (55, .func (.func 22) #[] #[Pv b3 0, Pv b6 0, Pv b9 0]), (56, Iv x1), (57, Iv x26), (58, Iv x64), (59, Iv x65), (60, Pv b57 1), (61, Iv x55.2.1), (62, .agg #[s61, Iv x60.2.1, Iv x60.2.2])] := hf
         replace hS := hS.ptE (j := 0) (enc := E33) (xs := [x66]) (N := 1) (M' := [slE 33 2 E33 (.slice (some ⟨b67, 0, none⟩) 1 1) ([x66]), condA (s 16) (pt b72 (Cs #[.slice none 0 0, Iv 0, Iv 0] 61)), memIn (bestN F F x8) s62 s61 x60.1, memoA 33 2 E33 (bestN F F x8) b4 s62, pt b63 (Cs #[s61, Iv x60.2.1, Iv x60.2.2] 61), pt b57 (Cs #[s56, Iv x55.2.1, Iv x55.2.2.1] 61), slE 33 2 E33 s56 x55.1, slE 33 2 E33 s54 ([(0, 0)]), pt b48 (Cs #[Iv x47.1, Iv x47.2.1, Iv x47.2.2.1, Iv x47.2.2.2] 24), pt b10 (Cs #[.slice none 0 0, Iv 0, Iv 0] 61), pt b11 (Cs #[Iv x1, Iv x2] 63), slE 33 2 E33 s22 x23, pt b15 (Cs #[s22, Iv x24, Iv x25] 61)]) rfl rfl rfl rfl rfl rfl
         obtain ⟨s68, hs68⟩ : ∃ v, v = (.slice (some ⟨b67, 0, none⟩) 1 1 : Value) := ⟨_, rfl⟩
         rw [← hs68] at hf hS
         replace hS : St w0 _ (fun k => (memoA 33 2 E33 (bestN F F x8) b4 s5).fp k) [rdE 4 E24 s7 x8, pt b3 (Cs #[.map (some b4)] 58), pt b6 (Cs #[s7] 22), pt b9 (Cs #[.func (.func 22) #[] #[Pv b3 0, Pv b6 0, Pv b9 0]] 59)] [slE 33 2 E33 s68 ([x66]), condA (s 16) (pt b72 (Cs #[.slice none 0 0, Iv 0, Iv 0] 61)), memIn (bestN F F x8) s62 s61 x60.1, memoA 33 2 E33 (bestN F F x8) b4 s62, pt b63 (Cs #[s61, Iv x60.2.1, Iv x60.2.2] 61), pt b57 (Cs #[s56, Iv x55.2.1, Iv x55.2.2.1] 61), slE 33 2 E33 s56 x55.1, slE 33 2 E33 s54 ([(0, 0)]), pt b48 (Cs #[Iv x47.1, Iv x47.2.1, Iv x47.2.2.1, Iv x47.2.2.2] 24), pt b10 (Cs #[.slice none 0 0, Iv 0, Iv 0] 61), pt b11 (Cs #[Iv x1, Iv x2] 63), slE 33 2 E33 s22 x23, pt b15 (Cs #[s22, Iv x24, Iv x25] 61)] := hS
         replace hf : Fr a 104 [] [(0, Iv x1), (1, Iv x2), (2, Pv b3 0), (4, Pv b9 0), (7, Pv b10 0), (8, Pv b11 0), (11, Pv b15 0), (12, Iv x26), (13, Pv b48 0), (14, Pv b57 0), (15, Bv x55.2.2.2), (16, Pv b63 0), (31, s7), (32, Iv (x8.length : Int)), (33, Iv x26), (34, Bv (decide (x26 < ((x8.length : Int) : Int)))), (35, Iv x26), (36, ix s7 (Int.toNat x26 * 4)), (37, .agg #[Iv x47.1, Iv x47.2.1, Iv x47.2.2.1, Iv x47.2.2.2]), (38, Iv x1), (39, Iv x26), (40, Iv x50), (41, Iv x51), (42, Bv (decide (x51 ≠ (0 : Int)))), (43, .tuple #[.agg #[s56, Iv x55.2.1, Iv x55.2.2.1], Bv x55.2.2.2]), (44, .agg #[Iv 0, Iv 0]), (45, s54), (46, Iv x2), (47, .agg #[s54, Iv x2, Iv 0]), (48, Iv x26), (49, .agg #[Iv x47.1, Iv x47.2.1, Iv x47.2.2.1, Iv x47.2.2.2]), (50, .tuple #[.agg #[s56, Iv x55.2.1, Iv x55.2.2.1], Bv x55.2.2.2]), (51, .agg #[s56, Iv x55.2.1, Iv x55.2.2.1]), (52, Bv x55.2.2.2), (53, Bv x55.2.2.2), (54, Bv (!x55.2.2.2)), (55, .func (.func 22) #[] #[Pv b3 0, Pv b6 0, Pv b9 0]), (56, Iv x1), (57, Iv x26), (58, Iv x64), (59, Iv x65), (60, Pv b57 1), (61, Iv x55.2.1), (62, .agg #[s61, Iv x60.2.1, Iv x60.2.2]), (67, s68), (69, s61)] := hf.to ⟨rfl, rfl, rfl, rfl, rfl, rfl, rfl, rfl, rfl, rfl, rfl, rfl, rfl, rfl, rfl, rfl, rfl, rfl, rfl, rfl, rfl, rfl, rfl, rfl, rfl, rfl, rfl, rfl, rfl, rfl, rfl, rfl, rfl, rfl, rfl, rfl, rfl, rfl, rfl, rfl, rfl, rfl, rfl, rfl, rfl, rfl, trivial⟩
         refine O.appendEV (j := 0) (l' := ([x66]) ++ x60.1) hf hS rfl rfl T_elem_27 T_size_33 T_bytes_33 T_zero_33 rfl rfl rfl rfl rfl (hS.memRd (i := 3) (j := 2) rfl rfl) E33_one hg69 hg70 rfl rfl ?_
         clear hf hS a; intro s71 w a hS hf
         replace hS : St w0 _ (fun k => (memoA 33 2 E33 (bestN F F x8) b4 s5).fp k) [rdE 4 E24 s7 x8, pt b3 (Cs #[.map (some b4)] 58), pt b6 (Cs #[s7] 22), pt b9 (Cs #[.func (.func 22) #[] #[Pv b3 0, Pv b6 0, Pv b9 0]] 59)] [slE 33 2 E33 s71 (([x66]) ++ x60.1), condA (s 16) (pt b72 (Cs #[.slice none 0 0, Iv 0, Iv 0] 61)), memIn (bestN F F x8) s62 s61 x60.1, memoA 33 2 E33 (bestN F F x8) b4 s62, pt b63 (Cs #[s61, Iv x60.2.1, Iv x60.2.2] 61), pt b57 (Cs #[s56, Iv x55.2.1, Iv x55.2.2.1] 61), slE 33 2 E33 s56 x55.1, slE 33 2 E33 s54 ([(0, 0)]), pt b48 (Cs #[Iv x47.1, Iv x47.2.1, Iv x47.2.2.1, Iv x47.2.2.2] 24), pt b10 (Cs #[.slice none 0 0, Iv 0, Iv 0] 61), pt b11 (Cs #[Iv x1, Iv x2] 63), slE 33 2 E33 s22 x23, pt b15 (Cs #[s22, Iv x24, Iv x25] 61)] := hS
         exact O.nil ⟨rfl, (b72, b67, s68, s71), hf.to trivial, (fun d hd => by cases (show some 70 = some d from hd); exact hf.get _ _ rfl), (fun j hj hk => match j, hj, hk with | 0, hj, hk => rfl | 1, hj, hk => rfl | 2, hj, hk => rfl | 3, hj, hk => rfl | 4, hj, hk => rfl | 5, hj, hk => rfl | 6, hj, hk => rfl | 7, hj, hk => absurd rfl hj | 8, hj, hk => rfl | 9, hj, hk => rfl | 10, hj, hk => rfl | 11, hj, hk => rfl | 12, hj, hk => rfl | 13, hj, hk => rfl | 14, hj, hk => rfl | 15, hj, hk => absurd hk (by decide) | 16, hj, hk => rfl | 17, hj, hk => absurd hk (by decide) | _ + 18, _, _ => rfl), hS⟩
        ·intro s g w hsp hD a hf
         obtain ⟨b72, b67, s68, s71⟩ := g
         have h16_ : s 16 = true := hsp 16 (by simp)
         have hS : St w0 w (fun k => (memoA 33 2 E33 (bestN F F x8) b4 s5).fp k) [rdE 4 E24 s7 x8, pt b3 (Cs #[.map (some b4)] 58), pt b6 (Cs #[s7] 22), pt b9 (Cs #[.func (.func 22) #[] #[Pv b3 0, Pv b6 0, Pv b9 0]] 59)] [slE 33 2 E33 s71 (([x66]) ++ x60.1), condA (s 16) (pt b72 (Cs #[.slice none 0 0, Iv 0, Iv 0] 61)), memIn (bestN F F x8) s62 s61 x60.1, memoA 33 2 E33 (bestN F F x8) b4 s62, pt b63 (Cs #[s61, Iv x60.2.1, Iv x60.2.2] 61), pt b57 (Cs #[s56, Iv x55.2.1, Iv x55.2.2.1] 61), slE 33 2 E33 s56 x55.1, slE 33 2 E33 s54 ([(0, 0)]), pt b48 (Cs #[Iv x47.1, Iv x47.2.1, Iv x47.2.2.1, Iv x47.2.2.2] 24), pt b10 (Cs #[.slice none 0 0, Iv 0, Iv 0] 61), pt b11 (Cs #[Iv x1, Iv x2] 63), slE 33 2 E33 s22 x23, pt b15 (Cs #[s22, Iv x24, Iv x25] 61)] := hD; clear hD; rw [h16_] at hS
         replace hS : St w0 w (fun k => (memoA 33 2 E33 (bestN F F x8) b4 s5).fp k) [rdE 4 E24 s7 x8, pt b3 (Cs #[.map (some b4)] 58), pt b6 (Cs #[s7] 22), pt b9 (Cs #[.func (.func 22) #[] #[Pv b3 0, Pv b6 0, Pv b9 0]] 59)] [slE 33 2 E33 s71 (([x66]) ++ x60.1), pt b72 (Cs #[.slice none 0 0, Iv 0, Iv 0] 61), memIn (bestN F F x8) s62 s61 x60.1, memoA 33 2 E33 (bestN F F x8) b4 s62, pt b63 (Cs #[s61, Iv x60.2.1, Iv x60.2.2] 61), pt b57 (Cs #[s56, Iv x55.2.1, Iv x55.2.2.1] 61), slE 33 2 E33 s56 x55.1, slE 33 2 E33 s54 ([(0, 0)]), pt b48 (Cs #[Iv x47.1, Iv x47.2.1, Iv x47.2.2.1, Iv x47.2.2.2] 24), pt b10 (Cs #[.slice none 0 0, Iv 0, Iv 0] 61), pt b11 (Cs #[Iv x1, Iv x2] 63), slE 33 2 E33 s22 x23, pt b15 (Cs #[s22, Iv x24, Iv x25] 61)] := hS
         replace hf : Fr a 104 [] [(63, Pv b57 0), (64, s56), (65, ix s56 (Int.toNat 1 * 2)), (66, .agg #[Iv x66.1, Iv x66.2]), (67, .slice (some ⟨b67, 0, none⟩) 1 1), (68, Pv b63 0), (69, s61), (70, s71), (71, Pv b63 1), (72, Iv x60.2.1), (73, Pv b63 2), (74, Iv x60.2.2), (75, Pv b48 3), (76, Iv x47.2.2.2), (77, Iv (IntKind.i64.wrap (x60.2.2 + x47.2.2.2))), (78, .agg #[s71, Iv x60.2.1, Iv (IntKind.i64.wrap (x60.2.2 + x47.2.2.2))]), (17, Pv b72 0), (0, Iv x1), (1, Iv x2), (2, Pv b3 0), (4, Pv b9 0), (7, Pv b10 0), (8, Pv b11 0), (11, Pv b15 0), (12, Iv x26), (13, Pv b48 0), (14, Pv b57 0), (15, Bv x55.2.2.2), (16, Pv b63 0), (31, s7), (32, Iv (x8.length : Int)), (33, Iv x26), (34, Bv (decide (x26 < ((x8.length : Int) : Int)))), (35, Iv x26), (36, ix s7 (Int.toNat x26 * 4)), (37, .agg #[Iv x47.1, Iv x47.2.1, Iv x47.2.2.1, Iv x47.2.2.2]), (38, Iv x1), (39, Iv x26), (40, Iv x50), (41, Iv x51), (42, Bv (decide (x51 ≠ (0 : Int)))), (43, .tuple #[.agg #[s56, Iv x55.2.1, Iv x55.2.2.1], Bv x55.2.2.2]), (44, .agg #[Iv 0, Iv 0]), (45, s54), (46, Iv x2), (47, .agg #[s54, Iv x2, Iv 0]), (48, Iv x26), (49, .agg #[Iv x47.1, Iv x47.2.1, Iv x47.2.2.1, Iv x47.2.2.2]), (50, .tuple #[.agg #[s56, Iv x55.2.1, Iv x55.2.2.1], Bv x55.2.2.2]), (51, .agg #[s56, Iv x55.2.1, Iv x55.2.2.1]), (52, Bv x55.2.2.2), (53, Bv x55.2.2.2), (54, Bv (!x55.2.2.2)), (55, .func (.func 22) #[] #[Pv b3 0, Pv b6 0, Pv b9 0]), (56, Iv x1), (57, Iv x26), (58, Iv x64), (59, Iv x65), (60, Pv b57 1), (61, Iv x55.2.1), (62, .agg #[s61, Iv x60.2.1, Iv x60.2.2])] := hf
         refine O.store (j := 1) (cs' := #[s71, Iv x60.2.1, Iv (IntKind.i64.wrap (x60.2.2 + x47.2.2.2))]) (M' := [slE 33 2 E33 s71 (([x66]) ++ x60.1), pt b72 (Cs #[s71, Iv x60.2.1, Iv (IntKind.i64.wrap (x60.2.2 + x47.2.2.2))] 61), memIn (bestN F F x8) s62 s61 x60.1, memoA 33 2 E33 (bestN F F x8) b4 s62, pt b63 (Cs #[s61, Iv x60.2.1, Iv x60.2.2] 61), pt b57 (Cs #[s56, Iv x55.2.1, Iv x55.2.2.1] 61), slE 33 2 E33 s56 x55.1, slE 33 2 E33 s54 ([(0, 0)]), pt b48 (Cs #[Iv x47.1, Iv x47.2.1, Iv x47.2.2.1, Iv x47.2.2.2] 24), pt b10 (Cs #[.slice none 0 0, Iv 0, Iv 0] 61), pt b11 (Cs #[Iv x1, Iv x2] 63), slE 33 2 E33 s22 x23, pt b15 (Cs #[s22, Iv x24, Iv x25] 61)]) hf hS rfl rfl rfl T_size_61 rfl (oneCells_cc (rdEOK_one (hS.rdS (j := 0) rfl)) (oneCells_cc rfl (oneCells_cc rfl rfl))) rfl (Nat.le_of_ble_eq_true rfl) rfl rfl ?_
         clear hS; intro w hS
         exact O.nil ⟨rfl, (b72, b67, s68, s71), hf.to trivial, (fun d hd => by cases (show none = some d from hd)), (fun _ _ _ => rfl), hS⟩
       ·clear hf hf1 hS
        refine ⟨?_, trivial⟩
        ·intro k s g w h1_ h2_ hs0 hD a hf
         obtain ⟨b72, b67, s68, s71⟩ := g
         rcases k with _ | _ | _ | k
         ·have hS : St w0 w (fun k => (memoA 33 2 E33 (bestN F F x8) b4 s5).fp k) [rdE 4 E24 s7 x8, pt b3 (Cs #[.map (some b4)] 58), pt b6 (Cs #[s7] 22), pt b9 (Cs #[.func (.func 22) #[] #[Pv b3 0, Pv b6 0, Pv b9 0]] 59)] [condA (s 16) (pt b72 (Cs #[.slice none 0 0, Iv 0, Iv 0] 61)), memIn (bestN F F x8) s62 s61 x60.1, memoA 33 2 E33 (bestN F F x8) b4 s62, pt b63 (Cs #[s61, Iv x60.2.1, Iv x60.2.2] 61), pt b57 (Cs #[s56, Iv x55.2.1, Iv x55.2.2.1] 61), slE 33 2 E33 s56 x55.1, slE 33 2 E33 s54 ([(0, 0)]), pt b48 (Cs #[Iv x47.1, Iv x47.2.1, Iv x47.2.2.1, Iv x47.2.2.2] 24), pt b10 (Cs #[.slice none 0 0, Iv 0, Iv 0] 61), pt b11 (Cs #[Iv x1, Iv x2] 63), slE 33 2 E33 s22 x23, pt b15 (Cs #[s22, Iv x24, Iv x25] 61)] := hD; clear hD
          refine O.allocC (j := 0) (cs := #[.slice none 0 0, Iv 0, Iv 0]) hf hS rfl hs0 rfl rfl T_zero_61 rfl ?_; clear hf hS a; intro b72 w a hS hf
          exact O.nil ⟨rfl, (b72, b67, s68, s71), hf.to trivial, (fun d hd => by cases (show some 17 = some d from hd); exact hf.get _ _ rfl), (fun j hj hk => match j, hj, hk with | 0, hj, hk => rfl | 1, hj, hk => rfl | 2, hj, hk => rfl | 3, hj, hk => rfl | 4, hj, hk => rfl | 5, hj, hk => rfl | 6, hj, hk => rfl | 7, hj, hk => rfl | 8, hj, hk => rfl | 9, hj, hk => rfl | 10, hj, hk => rfl | 11, hj, hk => rfl | 12, hj, hk => rfl | 13, hj, hk => rfl | 14, hj, hk => rfl | 15, hj, hk => rfl | 16, hj, hk => absurd rfl hj | 17, hj, hk => absurd hk (by decide) | _ + 18, _, _ => rfl), hS⟩
         ·have hS : St w0 w (fun k => (memoA 33 2 E33 (bestN F F x8) b4 s5).fp k) [rdE 4 E24 s7 x8, pt b3 (Cs #[.map (some b4)] 58), pt b6 (Cs #[s7] 22), pt b9 (Cs #[.func (.func 22) #[] #[Pv b3 0, Pv b6 0, Pv b9 0]] 59)] [pt b67 (Cs #[Iv x66.1, Iv x66.2] 33), condA (s 16) (pt b72 (Cs #[.slice none 0 0, Iv 0, Iv 0] 61)), memIn (bestN F F x8) s62 s61 x60.1, memoA 33 2 E33 (bestN F F x8) b4 s62, pt b63 (Cs #[s61, Iv x60.2.1, Iv x60.2.2] 61), pt b57 (Cs #[s56, Iv x55.2.1, Iv x55.2.2.1] 61), slE 33 2 E33 s56 x55.1, slE 33 2 E33 s54 ([(0, 0)]), pt b48 (Cs #[Iv x47.1, Iv x47.2.1, Iv x47.2.2.1, Iv x47.2.2.2] 24), pt b10 (Cs #[.slice none 0 0, Iv 0, Iv 0] 61), pt b11 (Cs #[Iv x1, Iv x2] 63), slE 33 2 E33 s22 x23, pt b15 (Cs #[s22, Iv x24, Iv x25] 61)] := hD; clear hD
          refine O.allocC (j := 1) (cs := #[.slice none 0 0, Iv 0, Iv 0]) hf hS rfl hs0 rfl rfl T_zero_61 rfl ?_; clear hf hS a; intro b72 w a hS hf
          exact O.nil ⟨rfl, (b72, b67, s68, s71), hf.to trivial, (fun d hd => by cases (show some 17 = some d from hd); exact hf.get _ _ rfl), (fun j hj hk => match j, hj, hk with | 0, hj, hk => rfl | 1, hj, hk => rfl | 2, hj, hk => rfl | 3, hj, hk => rfl | 4, hj, hk => rfl | 5, hj, hk => rfl | 6, hj, hk => rfl | 7, hj, hk => rfl | 8, hj, hk => rfl | 9, hj, hk => rfl | 10, hj, hk => rfl | 11, hj, hk => rfl | 12, hj, hk => rfl | 13, hj, hk => rfl | 14, hj, hk => rfl | 15, hj, hk => rfl | 16, hj, hk => absurd rfl hj | 17, hj, hk => absurd hk (by decide) | _ + 18, _, _ => rfl), hS⟩
         ·have hS : St w0 w (fun k => (memoA 33 2 E33 (bestN F F x8) b4 s5).fp k) [rdE 4 E24 s7 x8, pt b3 (Cs #[.map (some b4)] 58), pt b6 (Cs #[s7] 22), pt b9 (Cs #[.func (.func 22) #[] #[Pv b3 0, Pv b6 0, Pv b9 0]] 59)] [slE 33 2 E33 s71 (([x66]) ++ x60.1), condA (s 16) (pt b72 (Cs #[.slice none 0 0, Iv 0, Iv 0] 61)), memIn (bestN F F x8) s62 s61 x60.1, memoA 33 2 E33 (bestN F F x8) b4 s62, pt b63 (Cs #[s61, Iv x60.2.1, Iv x60.2.2] 61), pt b57 (Cs #[s56, Iv x55.2.1, Iv x55.2.2.1] 61), slE 33 2 E33 s56 x55.1, slE 33 2 E33 s54 ([(0, 0)]), pt b48 (Cs #[Iv x47.1, Iv x47.2.1, Iv x47.2.2.1, Iv x47.2.2.2] 24), pt b10 (Cs #[.slice none 0 0, Iv 0, Iv 0] 61), pt b11 (Cs #[Iv x1, Iv x2] 63), slE 33 2 E33 s22 x23, pt b15 (Cs #[s22, Iv x24, Iv x25] 61)] := hD; clear hD
          refine O.allocC (j := 1) (cs := #[.slice none 0 0, Iv 0, Iv 0]) hf hS rfl hs0 rfl rfl T_zero_61 rfl ?_; clear hf hS a; intro b72 w a hS hf
          exact O.nil ⟨rfl, (b72, b67, s68, s71), hf.to trivial, (fun d hd => by cases (show some 17 = some d from hd); exact hf.get _ _ rfl), (fun j hj hk => match j, hj, hk with | 0, hj, hk => rfl | 1, hj, hk => rfl | 2, hj, hk => rfl | 3, hj, hk => rfl | 4, hj, hk => rfl | 5, hj, hk => rfl | 6, hj, hk => rfl | 7, hj, hk => rfl | 8, hj, hk => rfl | 9, hj, hk => rfl | 10, hj, hk => rfl | 11, hj, hk => rfl | 12, hj, hk => rfl | 13, hj, hk => rfl | 14, hj, hk => rfl | 15, hj, hk => rfl | 16, hj, hk => absurd rfl hj | 17, hj, hk => absurd hk (by decide) | _ + 18, _, _ => rfl), hS⟩
         ·exact absurd h2_ (by simp)
       clear hf hf1 hS; intro s g a w hs hf hD
       obtain ⟨b72, b67, s68, s71⟩ := g
       have h16_ : s 16 = true := hs 16 (by simp)
       have hS : St w0 w (fun k => (memoA 33 2 E33 (bestN F F x8) b4 s5).fp k) [rdE 4 E24 s7 x8, pt b3 (Cs #[.map (some b4)] 58), pt b6 (Cs #[s7] 22), pt b9 (Cs #[.func (.func 22) #[] #[Pv b3 0, Pv b6 0, Pv b9 0]] 59)] [slE 33 2 E33 s71 (([x66]) ++ x60.1), pt b72 (Cs #[s71, Iv x60.2.1, Iv (IntKind.i64.wrap (x60.2.2 + x47.2.2.2))] 61), memIn (bestN F F x8) s62 s61 x60.1, memoA 33 2 E33 (bestN F F x8) b4 s62, pt b63 (Cs #[s61, Iv x60.2.1, Iv x60.2.2] 61), pt b57 (Cs #[s56, Iv x55.2.1, Iv x55.2.2.1] 61), slE 33 2 E33 s56 x55.1, slE 33 2 E33 s54 ([(0, 0)]), pt b48 (Cs #[Iv x47.1, Iv x47.2.1, Iv x47.2.2.1, Iv x47.2.2.2] 24), pt b10 (Cs #[.slice none 0 0, Iv 0, Iv 0] 61), pt b11 (Cs #[Iv x1, Iv x2] 63), slE 33 2 E33 s22 x23, pt b15 (Cs #[s22, Iv x24, Iv x25] 61)] := hD; clear hD
       replace hf : Fr a 104 [] [(63, Pv b57 0), (64, s56), (65, ix s56 (Int.toNat 1 * 2)), (66, .agg #[Iv x66.1, Iv x66.2]), (67, .slice (some ⟨b67, 0, none⟩) 1 1), (68, Pv b63 0), (69, s61), (70, s71), (71, Pv b63 1), (72, Iv x60.2.1), (73, Pv b63 2), (74, Iv x60.2.2), (75, Pv b48 3), (76, Iv x47.2.2.2), (77, Iv (IntKind.i64.wrap (x60.2.2 + x47.2.2.2))), (78, .agg #[s71, Iv x60.2.1, Iv (IntKind.i64.wrap (x60.2.2 + x47.2.2.2))]), (17, Pv b72 0), (0, Iv x1), (1, Iv x2), (2, Pv b3 0), (4, Pv b9 0), (7, Pv b10 0), (8, Pv b11 0), (11, Pv b15 0), (12, Iv x26), (13, Pv b48 0), (14, Pv b57 0), (15, Bv x55.2.2.2), (16, Pv b63 0), (31, s7), (32, Iv (x8.length : Int)), (33, Iv x26), (34, Bv (decide (x26 < ((x8.length : Int) : Int)))), (35, Iv x26), (36, ix s7 (Int.toNat x26 * 4)), (37, .agg #[Iv x47.1, Iv x47.2.1, Iv x47.2.2.1, Iv x47.2.2.2]), (38, Iv x1), (39, Iv x26), (40, Iv x50), (41, Iv x51), (42, Bv (decide (x51 ≠ (0 : Int)))), (43, .tuple #[.agg #[s56, Iv x55.2.1, Iv x55.2.2.1], Bv x55.2.2.2]), (44, .agg #[Iv 0, Iv 0]), (45, s54), (46, Iv x2), (47, .agg #[s54, Iv x2, Iv 0]), (48, Iv x26), (49, .agg #[Iv x47.1, Iv x47.2.1, Iv x47.2.2.1, Iv x47.2.2.2]), (50, .tuple #[.agg #[s56, Iv x55.2.1, Iv x55.2.2.1], Bv x55.2.2.2]), (51, .agg #[s56, Iv x55.2.1, Iv x55.2.2.1]), (52, Bv x55.2.2.2), (53, Bv x55.2.2.2), (54, Bv (!x55.2.2.2)), (55, .func (.func 22) #[] #[Pv b3 0, Pv b6 0, Pv b9 0]), (56, Iv x1), (57, Iv x26), (58, Iv x64), (59, Iv x65), (60, Pv b57 1), (61, Iv x55.2.1), (62, .agg #[s61, Iv x60.2.1, Iv x60.2.2])] := hf
       refine k_seq ?_
       obtain ⟨x73, hx73, hm⟩ := hm_b hm
       rw [Option.some.inj hx73] at hf
       rw [Option.some.inj hx73] at hS
       refine W.seq ?_
       refine W.regionL (l := [0, 1, 2, 3, 4, 5, 6, 7, 8, 9, 10, 11, 12, 13, 14, 15, 16, 17, 18]) rfl ?_
       refine O.val hf rfl rfl rfl (RunV.field T_field_61_2 rfl rfl) ?_; clear hf a; intro a hf
       refine O.val hf rfl rfl rfl (RunV.load1 T_agg_3 rfl (hS.ptAt (i := 1) rfl) rfl) ?_; clear hf a; intro a hf
       refine O.val hf rfl rfl rfl (RunV.field T_field_61_2 rfl rfl) ?_; clear hf a; intro a hf
       refine O.val hf rfl rfl rfl (RunV.load1 T_agg_3 rfl (hS.ptAt (i := 12) rfl) rfl) ?_; clear hf a; intro a hf
       refine O.val (v := Bv (decide (x73 > (x25 : Int)))) hf rfl rfl rfl (RunV.gtr rfl rfl) ?_; clear hf a; intro a hf
       refine O.val hf rfl rfl rfl (RunV.move rfl) ?_; clear hf a; intro a hf
       refine O.cutN (l₁ := [6, 7, 8, 9, 10, 11, 12, 13, 14, 15, 16, 17, 18]) (l₂ := _) (fun a w => Fr a 104 [] [(0, Iv x1), (1, Iv x2), (2, Pv b3 0), (4, Pv b9 0), (7, Pv b10 0), (8, Pv b11 0), (11, Pv b15 0), (12, Iv x26), (13, Pv b48 0), (14, Pv b57 0), (15, Bv x55.2.2.2), (16, Pv b63 0), (17, Pv b72 0), (31, s7), (32, Iv (x8.length : Int)), (33, Iv x26), (34, Bv (decide (x26 < ((x8.length : Int) : Int)))), (35, Iv x26), (36, ix s7 (Int.toNat x26 * 4)), (37, .agg #[Iv x47.1, Iv x47.2.1, Iv x47.2.2.1, Iv x47.2.2.2]), (38, Iv x1), (39, Iv x26), (40, Iv x50), (41, Iv x51), (42, Bv (decide (x51 ≠ (0 : Int)))), (43, .tuple #[.agg #[s56, Iv x55.2.1, Iv x55.2.2.1], Bv x55.2.2.2]), (44, .agg #[Iv 0, Iv 0]), (45, s54), (46, Iv x2), (47, .agg #[s54, Iv x2, Iv 0]), (48, Iv x26), (49, .agg #[Iv x47.1, Iv x47.2.1, Iv x47.2.2.1, Iv x47.2.2.2]), (50, .tuple #[.agg #[s56, Iv x55.2.1, Iv x55.2.2.1], Bv x55.2.2.2]), (51, .agg #[s56, Iv x55.2.1, Iv x55.2.2.1]), (52, Bv x55.2.2.2), (53, Bv x55.2.2.2), (54, Bv (!x55.2.2.2)), (55, .func (.func 22) #[] #[Pv b3 0, Pv b6 0, Pv b9 0]), (56, Iv x1), (57, Iv x26), (58, Iv x64), (59, Iv x65), (60, Pv b57 1), (61, Iv x55.2.1), (62, .agg #[s61, Iv x60.2.1, Iv x60.2.2]), (63, Pv b57 0), (64, s56), (65, ix s56 (Int.toNat 1 * 2)), (66, .agg #[Iv x66.1, Iv x66.2]), (67, .slice (some ⟨b67, 0, none⟩) 1 1), (68, Pv b63 0), (69, s61), (70, s71), (71, Pv b63 1), (72, Iv x60.2.1), (73, Pv b63 2), (74, Iv x60.2.2), (75, Pv b48 3), (76, Iv x47.2.2.2), (77, Iv x73), (78, .agg #[s71, Iv x60.2.1, Iv x73]), (79, Pv b72 2), (80, Iv x73), (81, Pv b15 2), (82, Iv x25), (83, Bv (decide (x73 > (x25 : Int)))), (84, Bv (decide (x73 > (x25 : Int)))), (97, Bv ((decide (x73 > (x25 : Int))) || ((decide (x73 = (x25 : Int))) && (decide (x60.2.1 < (x24 : Int))))))] ∧ St w0 w (fun k => (memoA 33 2 E33 (bestN F F x8) b4 s5).fp k) [rdE 4 E24 s7 x8, pt b3 (Cs #[.map (some b4)] 58), pt b6 (Cs #[s7] 22), pt b9 (Cs #[.func (.func 22) #[] #[Pv b3 0, Pv b6 0, Pv b9 0]] 59)] [slE 33 2 E33 s71 (([x66]) ++ x60.1), pt b72 (Cs #[s71, Iv x60.2.1, Iv x73] 61), memIn (bestN F F x8) s62 s61 x60.1, memoA 33 2 E33 (bestN F F x8) b4 s62, pt b63 (Cs #[s61, Iv x60.2.1, Iv x60.2.2] 61), pt b57 (Cs #[s56, Iv x55.2.1, Iv x55.2.2.1] 61), slE 33 2 E33 s56 x55.1, slE 33 2 E33 s54 ([(0, 0)]), pt b48 (Cs #[Iv x47.1, Iv x47.2.1, Iv x47.2.2.1, Iv x47.2.2.2] 24), pt b10 (Cs #[.slice none 0 0, Iv 0, Iv 0] 61), pt b11 (Cs #[Iv x1, Iv x2] 63), slE 33 2 E33 s22 x23, pt b15 (Cs #[s22, Iv x24, Iv x25] 61)]) rfl ?_ ?_
       ·rcases Bool.eq_false_or_eq_true (decide (x73 > (x25 : Int))) with hb74 | hb74
        ·refine O.skipB hf rfl rfl rfl hb74 rfl ?_; clear hf a; intro a hf
         refine O.skipB hf rfl rfl rfl hb74 rfl ?_; clear hf a; intro a hf
         refine O.skipB hf rfl rfl rfl hb74 rfl ?_; clear hf a; intro a hf
         refine O.skipB hf rfl rfl rfl hb74 rfl ?_; clear hf a; intro a hf
         refine O.skipB hf rfl rfl rfl hb74 rfl ?_; clear hf a; intro a hf
         refine O.skipB hf rfl rfl rfl hb74 rfl ?_; clear hf a; intro a hf
         refine O.skipU hf rfl rfl rfl rfl ?_; clear hf a; intro a hf
         refine O.skipU hf rfl rfl rfl rfl ?_; clear hf a; intro a hf
         refine O.skipU hf rfl rfl rfl rfl ?_; clear hf a; intro a hf
         refine O.skipU hf rfl rfl rfl rfl ?_; clear hf a; intro a hf
         refine O.skipU hf rfl rfl rfl rfl ?_; clear hf a; intro a hf
         refine O.skipB hf rfl rfl rfl hb74 rfl ?_; clear hf a; intro a hf
         refine O.val (v := Bv ((decide (x73 > (x25 : Int))) || ((decide (x73 = (x25 : Int))) && (decide (x60.2.1 < (x24 : Int)))))) hf rfl rfl rfl (RunV.pick rfl rfl rfl (by rw [hb74]; rfl)) ?_; clear hf a; intro a hf
         exact O.nil ⟨rfl, hf.to ⟨rfl, rfl, rfl, rfl, rfl, rfl, rfl, rfl, rfl, rfl, rfl, rfl, rfl, rfl, rfl, rfl, rfl, rfl, rfl, rfl, rfl, rfl, rfl, rfl, rfl, rfl, rfl, rfl, rfl, rfl, rfl, rfl, rfl, rfl, rfl, rfl, rfl, rfl, rfl, rfl, rfl, rfl, rfl, rfl, rfl, rfl, rfl, rfl, rfl, rfl, rfl, rfl, rfl, rfl, rfl, rfl, rfl, rfl, rfl, rfl, rfl, rfl, rfl, rfl, rfl, rfl, rfl, rfl, trivial⟩, hS⟩
        ·refine O.gvalB hf rfl rfl rfl hb74 rfl rfl (RunV.field T_field_61_2 rfl rfl) ?_; clear hf a; intro a hf
         refine O.gvalB hf rfl rfl rfl hb74 rfl rfl (RunV.load1 T_agg_3 rfl (hS.ptAt (i := 1) rfl) rfl) ?_; clear hf a; intro a hf
         refine O.gvalB hf rfl rfl rfl hb74 rfl rfl (RunV.field T_field_61_2 rfl rfl) ?_; clear hf a; intro a hf
         refine O.gvalB hf rfl rfl rfl hb74 rfl rfl (RunV.load1 T_agg_3 rfl (hS.ptAt (i := 12) rfl) rfl) ?_; clear hf a; intro a hf
         refine O.gvalB (v := Bv (decide (x73 = (x25 : Int)))) hf rfl rfl rfl hb74 rfl rfl (RunV.eql rfl rfl) ?_; clear hf a; intro a hf
         refine O.gvalB hf rfl rfl rfl hb74 rfl rfl (RunV.move rfl) ?_; clear hf a; intro a hf
         refine O.cutN (l₁ := [12, 13, 14, 15, 16, 17]) (l₂ := _) (fun a w => Fr a 104 [] [(0, Iv x1), (1, Iv x2), (2, Pv b3 0), (4, Pv b9 0), (7, Pv b10 0), (8, Pv b11 0), (11, Pv b15 0), (12, Iv x26), (13, Pv b48 0), (14, Pv b57 0), (15, Bv x55.2.2.2), (16, Pv b63 0), (17, Pv b72 0), (31, s7), (32, Iv (x8.length : Int)), (33, Iv x26), (34, Bv (decide (x26 < ((x8.length : Int) : Int)))), (35, Iv x26), (36, ix s7 (Int.toNat x26 * 4)), (37, .agg #[Iv x47.1, Iv x47.2.1, Iv x47.2.2.1, Iv x47.2.2.2]), (38, Iv x1), (39, Iv x26), (40, Iv x50), (41, Iv x51), (42, Bv (decide (x51 ≠ (0 : Int)))), (43, .tuple #[.agg #[s56, Iv x55.2.1, Iv x55.2.2.1], Bv x55.2.2.2]), (44, .agg #[Iv 0, Iv 0]), (45, s54), (46, Iv x2), (47, .agg #[s54, Iv x2, Iv 0]), (48, Iv x26), (49, .agg #[Iv x47.1, Iv x47.2.1, Iv x47.2.2.1, Iv x47.2.2.2]), (50, .tuple #[.agg #[s56, Iv x55.2.1, Iv x55.2.2.1], Bv x55.2.2.2]), (51, .agg #[s56, Iv x55.2.1, Iv x55.2.2.1]), (52, Bv x55.2.2.2), (53, Bv x55.2.2.2), (54, Bv (!x55.2.2.2)), (55, .func (.func 22) #[] #[Pv b3 0, Pv b6 0, Pv b9 0]), (56, Iv x1), (57, Iv x26), (58, Iv x64), (59, Iv x65), (60, Pv b57 1), (61, Iv x55.2.1), (62, .agg #[s61, Iv x60.2.1, Iv x60.2.2]), (63, Pv b57 0), (64, s56), (65, ix s56 (Int.toNat 1 * 2)), (66, .agg #[Iv x66.1, Iv x66.2]), (67, .slice (some ⟨b67, 0, none⟩) 1 1), (68, Pv b63 0), (69, s61), (70, s71), (71, Pv b63 1), (72, Iv x60.2.1), (73, Pv b63 2), (74, Iv x60.2.2), (75, Pv b48 3), (76, Iv x47.2.2.2), (77, Iv x73), (78, .agg #[s71, Iv x60.2.1, Iv x73]), (79, Pv b72 2), (80, Iv x73), (81, Pv b15 2), (82, Iv x25), (83, Bv (decide (x73 > (x25 : Int)))), (84, Bv (decide (x73 > (x25 : Int)))), (85, Pv b72 2), (86, Iv x73), (87, Pv b15 2), (88, Iv x25), (89, Bv (decide (x73 = (x25 : Int)))), (90, Bv (decide (x73 = (x25 : Int)))), (96, Bv ((decide (x73 = (x25 : Int))) && (decide (x60.2.1 < (x24 : Int)))))] ∧ St w0 w (fun k => (memoA 33 2 E33 (bestN F F x8) b4 s5).fp k) [rdE 4 E24 s7 x8, pt b3 (Cs #[.map (some b4)] 58), pt b6 (Cs #[s7] 22), pt b9 (Cs #[.func (.func 22) #[] #[Pv b3 0, Pv b6 0, Pv b9 0]] 59)] [slE 33 2 E33 s71 (([x66]) ++ x60.1), pt b72 (Cs #[s71, Iv x60.2.1, Iv x73] 61), memIn (bestN F F x8) s62 s61 x60.1, memoA 33 2 E33 (bestN F F x8) b4 s62, pt b63 (Cs #[s61, Iv x60.2.1, Iv x60.2.2] 61), pt b57 (Cs #[s56, Iv x55.2.1, Iv x55.2.2.1] 61), slE 33 2 E33 s56 x55.1, slE 33 2 E33 s54 ([(0, 0)]), pt b48 (Cs #[Iv x47.1, Iv x47.2.1, Iv x47.2.2.1, Iv x47.2.2.2] 24), pt b10 (Cs #[.slice none 0 0, Iv 0, Iv 0] 61), pt b11 (Cs #[Iv x1, Iv x2] 63), slE 33 2 E33 s22 x23, pt b15 (Cs #[s22, Iv x24, Iv x25] 61)]) rfl ?_ ?_
         ·rcases Bool.eq_false_or_eq_true (decide (x73 = (x25 : Int))) with hb75 | hb75
          ·refine O.gvalB hf rfl rfl rfl hb75 rfl rfl (RunV.field T_field_61_1 rfl rfl) ?_; clear hf a; intro a hf
           refine O.gvalB hf rfl rfl rfl hb75 rfl rfl (RunV.load1 T_agg_2 rfl (hS.ptAt (i := 1) rfl) rfl) ?_; clear hf a; intro a hf
           refine O.gvalB hf rfl rfl rfl hb75 rfl rfl (RunV.field T_field_61_1 rfl rfl) ?_; clear hf a; intro a hf
           refine O.gvalB hf rfl rfl rfl hb75 rfl rfl (RunV.load1 T_agg_2 rfl (hS.ptAt (i := 12) rfl) rfl) ?_; clear hf a; intro a hf
           refine O.gvalB (v := Bv (decide (x60.2.1 < (x24 : Int)))) hf rfl rfl rfl hb75 rfl rfl (RunV.lss rfl rfl) ?_; clear hf a; intro a hf
           refine O.gvalB (v := Bv ((decide (x73 = (x25 : Int))) && (decide (x60.2.1 < (x24 : Int))))) hf rfl rfl rfl hb74 rfl rfl (RunV.pick rfl rfl rfl (by rw [hb75]; rfl)) ?_; clear hf a; intro a hf
           exact O.nil ⟨rfl, hf.to ⟨rfl, rfl, rfl, rfl, rfl, rfl, rfl, rfl, rfl, rfl, rfl, rfl, rfl, rfl, rfl, rfl, rfl, rfl, rfl, rfl, rfl, rfl, rfl, rfl, rfl, rfl, rfl, rfl, rfl, rfl, rfl, rfl, rfl, rfl, rfl, rfl, rfl, rfl, rfl, rfl, rfl, rfl, rfl, rfl, rfl, rfl, rfl, rfl, rfl, rfl, rfl, rfl, rfl, rfl, rfl, rfl, rfl, rfl, rfl, rfl, rfl, rfl, rfl, rfl, rfl, rfl, rfl, rfl, rfl, rfl, rfl, rfl, rfl, rfl, trivial⟩, hS⟩
          ·refine O.skipB hf rfl rfl rfl hb75 rfl ?_; clear hf a; intro a hf
           refine O.skipB hf rfl rfl rfl hb75 rfl ?_; clear hf a; intro a hf
           refine O.skipB hf rfl rfl rfl hb75 rfl ?_; clear hf a; intro a hf
           refine O.skipB hf rfl rfl rfl hb75 rfl ?_; clear hf a; intro a hf
           refine O.skipB hf rfl rfl rfl hb75 rfl ?_; clear hf a; intro a hf
           refine O.gvalB (v := Bv ((decide (x73 = (x25 : Int))) && (decide (x60.2.1 < (x24 : Int))))) hf rfl rfl rfl hb74 rfl rfl (RunV.pick rfl rfl rfl (by rw [hb75]; rfl)) ?_; clear hf a; intro a hf
           exact O.nil ⟨rfl, hf.to ⟨rfl, rfl, rfl, rfl, rfl, rfl, rfl, rfl, rfl, rfl, rfl, rfl, rfl, rfl, rfl, rfl, rfl, rfl, rfl, rfl, rfl, rfl, rfl, rfl, rfl, rfl, rfl, rfl, rfl, rfl, rfl, rfl, rfl, rfl, rfl, rfl, rfl, rfl, rfl, rfl, rfl, rfl, rfl, rfl, rfl, rfl, rfl, rfl, rfl, rfl, rfl, rfl, rfl, rfl, rfl, rfl, rfl, rfl, rfl, rfl, rfl, rfl, rfl, rfl, rfl, rfl, rfl, rfl, rfl, rfl, rfl, rfl, rfl, rfl, trivial⟩, hS⟩
         clear hf hS a; try clear w
         rintro a w ⟨hf, hS⟩
         refine O.val (v := Bv ((decide (x73 > (x25 : Int))) || ((decide (x73 = (x25 : Int))) && (decide (x60.2.1 < (x24 : Int)))))) hf rfl rfl rfl (RunV.pick rfl rfl rfl (by rw [hb74]; rfl)) ?_; clear hf a; intro a hf
         exact O.nil ⟨rfl, hf.to ⟨rfl, rfl, rfl, rfl, rfl, rfl, rfl, rfl, rfl, rfl, rfl, rfl, rfl, rfl, rfl, rfl, rfl, rfl, rfl, rfl, rfl, rfl, rfl, rfl, rfl, rfl, rfl, rfl, rfl, rfl, rfl, rfl, rfl, rfl, rfl, rfl, rfl, rfl, rfl, rfl, rfl, rfl, rfl, rfl, rfl, rfl, rfl, rfl, rfl, rfl, rfl, rfl, rfl, rfl, rfl, rfl, rfl, rfl, rfl, rfl, rfl, rfl, rfl, rfl, rfl, rfl, rfl, rfl, trivial⟩, hS⟩
       clear hf hS a; try clear w
       rintro a w ⟨hf, hS⟩
       refine O.nil ?_
       refine k_seq ?_
       refine W.if_ hf rfl (fun hc76 => ?_) (fun hc76 => ?_)
       ·replace hm := hm_t hm hc76
        refine W.regionL (l := [0, 1]) rfl ?_
        refine O.val hf rfl rfl rfl (RunV.loadN (cs' := #[s71, Iv x60.2.1, Iv x73]) T_agg_61 T_size_61 rfl (hS.ptAt (i := 1) rfl) (Nat.le_of_ble_eq_true rfl) rfl) ?_; clear hf a; intro a hf
        refine O.store (j := 12) (cs' := #[s71, Iv x60.2.1, Iv x73]) (M' := [slE 33 2 E33 s71 (([x66]) ++ x60.1), pt b72 (Cs #[s71, Iv x60.2.1, Iv x73] 61), memIn (bestN F F x8) s62 s61 x60.1, memoA 33 2 E33 (bestN F F x8) b4 s62, pt b63 (Cs #[s61, Iv x60.2.1, Iv x60.2.2] 61), pt b57 (Cs #[s56, Iv x55.2.1, Iv x55.2.2.1] 61), slE 33 2 E33 s56 x55.1, slE 33 2 E33 s54 ([(0, 0)]), pt b48 (Cs #[Iv x47.1, Iv x47.2.1, Iv x47.2.2.1, Iv x47.2.2.2] 24), pt b10 (Cs #[.slice none 0 0, Iv 0, Iv 0] 61), pt b11 (Cs #[Iv x1, Iv x2] 63), slE 33 2 E33 s22 x23, pt b15 (Cs #[s71, Iv x60.2.1, Iv x73] 61)]) hf hS rfl rfl rfl T_size_61 rfl (oneCells_cc (rdEOK_one (hS.rdS (j := 0) rfl)) (oneCells_cc rfl (oneCells_cc rfl rfl))) rfl (Nat.le_of_ble_eq_true rfl) rfl rfl ?_
        clear hS; intro w hS
        refine O.nil ?_
        refine k_blk_normal ?_
        replace hS := hS.front (i := 3) (M' := [memoA 33 2 E33 (bestN F F x8) b4 s62, slE 33 2 E33 s71 (([x66]) ++ x60.1), pt b72 (Cs #[s71, Iv x60.2.1, Iv x73] 61), memIn (bestN F F x8) s62 s61 x60.1, pt b63 (Cs #[s61, Iv x60.2.1, Iv x60.2.2] 61), pt b57 (Cs #[s56, Iv x55.2.1, Iv x55.2.2.1] 61), slE 33 2 E33 s56 x55.1, slE 33 2 E33 s54 ([(0, 0)]), pt b48 (Cs #[Iv x47.1, Iv x47.2.1, Iv x47.2.2.1, Iv x47.2.2.2] 24), pt b10 (Cs #[.slice none 0 0, Iv 0, Iv 0] 61), pt b11 (Cs #[Iv x1, Iv x2] 63), slE 33 2 E33 s22 x23, pt b15 (Cs #[s71, Iv x60.2.1, Iv x73] 61)]) rfl rfl
        replace hS := hS.front (i := 8) (M' := [pt b48 (Cs #[Iv x47.1, Iv x47.2.1, Iv x47.2.2.1, Iv x47.2.2.2] 24), memoA 33 2 E33 (bestN F F x8) b4 s62, slE 33 2 E33 s71 (([x66]) ++ x60.1), pt b72 (Cs #[s71, Iv x60.2.1, Iv x73] 61), memIn (bestN F F x8) s62 s61 x60.1, pt b63 (Cs #[s61, Iv x60.2.1, Iv x60.2.2] 61), pt b57 (Cs #[s56, Iv x55.2.1, Iv x55.2.2.1] 61), slE 33 2 E33 s56 x55.1, slE 33 2 E33 s54 ([(0, 0)]), pt b10 (Cs #[.slice none 0 0, Iv 0, Iv 0] 61), pt b11 (Cs #[Iv x1, Iv x2] 63), slE 33 2 E33 s22 x23, pt b15 (Cs #[s71, Iv x60.2.1, Iv x73] 61)]) rfl rfl
        replace hS := hS.front (i := 12) (M' := [pt b15 (Cs #[s71, Iv x60.2.1, Iv x73] 61), pt b48 (Cs #[Iv x47.1, Iv x47.2.1, Iv x47.2.2.1, Iv x47.2.2.2] 24), memoA 33 2 E33 (bestN F F x8) b4 s62, slE 33 2 E33 s71 (([x66]) ++ x60.1), pt b72 (Cs #[s71, Iv x60.2.1, Iv x73] 61), memIn (bestN F F x8) s62 s61 x60.1, pt b63 (Cs #[s61, Iv x60.2.1, Iv x60.2.2] 61), pt b57 (Cs #[s56, Iv x55.2.1, Iv x55.2.2.1] 61), slE 33 2 E33 s56 x55.1, slE 33 2 E33 s54 ([(0, 0)]), pt b10 (Cs #[.slice none 0 0, Iv 0, Iv 0] 61), pt b11 (Cs #[Iv x1, Iv x2] 63), slE 33 2 E33 s22 x23]) rfl rfl
        replace hS := hS.front (i := 3) (M' := [slE 33 2 E33 s71 (([x66]) ++ x60.1), pt b15 (Cs #[s71, Iv x60.2.1, Iv x73] 61), pt b48 (Cs #[Iv x47.1, Iv x47.2.1, Iv x47.2.2.1, Iv x47.2.2.2] 24), memoA 33 2 E33 (bestN F F x8) b4 s62, pt b72 (Cs #[s71, Iv x60.2.1, Iv x73] 61), memIn (bestN F F x8) s62 s61 x60.1, pt b63 (Cs #[s61, Iv x60.2.1, Iv x60.2.2] 61), pt b57 (Cs #[s56, Iv x55.2.1, Iv x55.2.2.1] 61), slE 33 2 E33 s56 x55.1, slE 33 2 E33 s54 ([(0, 0)]), pt b10 (Cs #[.slice none 0 0, Iv 0, Iv 0] 61), pt b11 (Cs #[Iv x1, Iv x2] 63), slE 33 2 E33 s22 x23]) rfl rfl
        replace hS := hS.front (i := 11) (M' := [pt b11 (Cs #[Iv x1, Iv x2] 63), slE 33 2 E33 s71 (([x66]) ++ x60.1), pt b15 (Cs #[s71, Iv x60.2.1, Iv x73] 61), pt b48 (Cs #[Iv x47.1, Iv x47.2.1, Iv x47.2.2.1, Iv x47.2.2.2] 24), memoA 33 2 E33 (bestN F F x8) b4 s62, pt b72 (Cs #[s71, Iv x60.2.1, Iv x73] 61), memIn (bestN F F x8) s62 s61 x60.1, pt b63 (Cs #[s61, Iv x60.2.1, Iv x60.2.2] 61), pt b57 (Cs #[s56, Iv x55.2.1, Iv x55.2.2.1] 61), slE 33 2 E33 s56 x55.1, slE 33 2 E33 s54 ([(0, 0)]), pt b10 (Cs #[.slice none 0 0, Iv 0, Iv 0] 61), slE 33 2 E33 s22 x23]) rfl rfl
        replace hS := hS.front (i := 11) (M' := [pt b10 (Cs #[.slice none 0 0, Iv 0, Iv 0] 61), pt b11 (Cs #[Iv x1, Iv x2] 63), slE 33 2 E33 s71 (([x66]) ++ x60.1), pt b15 (Cs #[s71, Iv x60.2.1, Iv x73] 61), pt b48 (Cs #[Iv x47.1, Iv x47.2.1, Iv x47.2.2.1, Iv x47.2.2.2] 24), memoA 33 2 E33 (bestN F F x8) b4 s62, pt b72 (Cs #[s71, Iv x60.2.1, Iv x73] 61), memIn (bestN F F x8) s62 s61 x60.1, pt b63 (Cs #[s61, Iv x60.2.1, Iv x60.2.2] 61), pt b57 (Cs #[s56, Iv x55.2.1, Iv x55.2.2.1] 61), slE 33 2 E33 s56 x55.1, slE 33 2 E33 s54 ([(0, 0)]), slE 33 2 E33 s22 x23]) rfl rfl
        replace hS := hS.sub (N := [pt b10 (Cs #[.slice none 0 0, Iv 0, Iv 0] 61), pt b11 (Cs #[Iv x1, Iv x2] 63), slE 33 2 E33 s71 (([x66]) ++ x60.1), pt b15 (Cs #[s71, Iv x60.2.1, Iv x73] 61), pt b48 (Cs #[Iv x47.1, Iv x47.2.1, Iv x47.2.2.1, Iv x47.2.2.2] 24), memoA 33 2 E33 (bestN F F x8) b4 s62]) (.cons_cons _ (.cons_cons _ (.cons_cons _ (.cons_cons _ (.cons_cons _ (.cons_cons _ (.cons _ (.cons _ (.cons _ (.cons _ (.cons _ (.cons _ (.cons _ .slnil)))))))))))))
        exact k_then ⟨s71, ([x66]) ++ x60.1, x60.2.1, x73, b48, x47.1, x47.2.1, x47.2.2.1, x47.2.2.2, x47.1, x47.2.1, x47.2.2.1, x47.2.2.2, x50, x51, decide (x51 ≠ (0 : Int)), s62, hf.to ⟨rfl, rfl, rfl, rfl, rfl, rfl, rfl, rfl, rfl, rfl, rfl, rfl, rfl, rfl, rfl, rfl, rfl, rfl, rfl, rfl, rfl, trivial⟩, hS, hm⟩
       ·replace hm := hm_f hm hc76
        refine W.skip ?_
        refine k_blk_normal ?_
        replace hS := hS.front (i := 3) (M' := [memoA 33 2 E33 (bestN F F x8) b4 s62, slE 33 2 E33 s71 (([x66]) ++ x60.1), pt b72 (Cs #[s71, Iv x60.2.1, Iv x73] 61), memIn (bestN F F x8) s62 s61 x60.1, pt b63 (Cs #[s61, Iv x60.2.1, Iv x60.2.2] 61), pt b57 (Cs #[s56, Iv x55.2.1, Iv x55.2.2.1] 61), slE 33 2 E33 s56 x55.1, slE 33 2 E33 s54 ([(0, 0)]), pt b48 (Cs #[Iv x47.1, Iv x47.2.1, Iv x47.2.2.1, Iv x47.2.2.2] 24), pt b10 (Cs #[.slice none 0 0, Iv 0, Iv 0] 61), pt b11 (Cs #[Iv x1, Iv x2] 63), slE 33 2 E33 s22 x23, pt b15 (Cs #[s22, Iv x24, Iv x25] 61)]) rfl rfl
        replace hS := hS.front (i := 8) (M' := [pt b48 (Cs #[Iv x47.1, Iv x47.2.1, Iv x47.2.2.1, Iv x47.2.2.2] 24), memoA 33 2 E33 (bestN F F x8) b4 s62, slE 33 2 E33 s71 (([x66]) ++ x60.1), pt b72 (Cs #[s71, Iv x60.2.1, Iv x73] 61), memIn (bestN F F x8) s62 s61 x60.1, pt b63 (Cs #[s61, Iv x60.2.1, Iv x60.2.2] 61), pt b57 (Cs #[s56, Iv x55.2.1, Iv x55.2.2.1] 61), slE 33 2 E33 s56 x55.1, slE 33 2 E33 s54 ([(0, 0)]), pt b10 (Cs #[.slice none 0 0, Iv 0, Iv 0] 61), pt b11 (Cs #[Iv x1, Iv x2] 63), slE 33 2 E33 s22 x23, pt b15 (Cs #[s22, Iv x24, Iv x25] 61)]) rfl rfl
        replace hS := hS.front (i := 12) (M' := [pt b15 (Cs #[s22, Iv x24, Iv x25] 61), pt b48 (Cs #[Iv x47.1, Iv x47.2.1, Iv x47.2.2.1, Iv x47.2.2.2] 24), memoA 33 2 E33 (bestN F F x8) b4 s62, slE 33 2 E33 s71 (([x66]) ++ x60.1), pt b72 (Cs #[s71, Iv x60.2.1, Iv x73] 61), memIn (bestN F F x8) s62 s61 x60.1, pt b63 (Cs #[s61, Iv x60.2.1, Iv x60.2.2] 61), pt b57 (Cs #[s56, Iv x55.2.1, Iv x55.2.2.1] 61), slE 33 2 E33 s56 x55.1, slE 33 2 E33 s54 ([(0, 0)]), pt b10 (Cs #[.slice none 0 0, Iv 0, Iv 0] 61), pt b11 (Cs #[Iv x1, Iv x2] 63), slE 33 2 E33 s22 x23]) rfl rfl
        replace hS := hS.front (i := 12) (M' := [slE 33 2 E33 s22 x23, pt b15 (Cs #[s22, Iv x24, Iv x25] 61), pt b48 (Cs #[Iv x47.1, Iv x47.2.1, Iv x47.2.2.1, Iv x47.2.2.2] 24), memoA 33 2 E33 (bestN F F x8) b4 s62, slE 33 2 E33 s71 (([x66]) ++ x60.1), pt b72 (Cs #[s71, Iv x60.2.1, Iv x73] 61), memIn (bestN F F x8) s62 s61 x60.1, pt b63 (Cs #[s61, Iv x60.2.1, Iv x60.2.2] 61), pt b57 (Cs #[s56, Iv x55.2.1, Iv x55.2.2.1] 61), slE 33 2 E33 s56 x55.1, slE 33 2 E33 s54 ([(0, 0)]), pt b10 (Cs #[.slice none 0 0, Iv 0, Iv 0] 61), pt b11 (Cs #[Iv x1, Iv x2] 63)]) rfl rfl
        replace hS := hS.front (i := 12) (M' := [pt b11 (Cs #[Iv x1, Iv x2] 63), slE 33 2 E33 s22 x23, pt b15 (Cs #[s22, Iv x24, Iv x25] 61), pt b48 (Cs #[Iv x47.1, Iv x47.2.1, Iv x47.2.2.1, Iv x47.2.2.2] 24), memoA 33 2 E33 (bestN F F x8) b4 s62, slE 33 2 E33 s71 (([x66]) ++ x60.1), pt b72 (Cs #[s71, Iv x60.2.1, Iv x73] 61), memIn (bestN F F x8) s62 s61 x60.1, pt b63 (Cs #[s61, Iv x60.2.1, Iv x60.2.2] 61), pt b57 (Cs #[s56, Iv x55.2.1, Iv x55.2.2.1] 61), slE 33 2 E33 s56 x55.1, slE 33 2 E33 s54 ([(0, 0)]), pt b10 (Cs #[.slice none 0 0, Iv 0, Iv 0] 61)]) rfl rfl
        replace hS := hS.front (i := 12) (M' := [pt b10 (Cs #[.slice none 0 0, Iv 0, Iv 0] 61), pt b11 (Cs #[Iv x1, Iv x2] 63), slE 33 2 E33 s22 x23, pt b15 (Cs #[s22, Iv x24, Iv x25] 61), pt b48 (Cs #[Iv x47.1, Iv x47.2.1, Iv x47.2.2.1, Iv x47.2.2.2] 24), memoA 33 2 E33 (bestN F F x8) b4 s62, slE 33 2 E33 s71 (([x66]) ++ x60.1), pt b72 (Cs #[s71, Iv x60.2.1, Iv x73] 61), memIn (bestN F F x8) s62 s61 x60.1, pt b63 (Cs #[s61, Iv x60.2.1, Iv x60.2.2] 61), pt b57 (Cs #[s56, Iv x55.2.1, Iv x55.2.2.1] 61), slE 33 2 E33 s56 x55.1, slE 33 2 E33 s54 ([(0, 0)])]) rfl rfl
        replace hS := hS.sub (N := [pt b10 (Cs #[.slice none 0 0, Iv 0, Iv 0] 61), pt b11 (Cs #[Iv x1, Iv x2] 63), slE 33 2 E33 s22 x23, pt b15 (Cs #[s22, Iv x24, Iv x25] 61), pt b48 (Cs #[Iv x47.1, Iv x47.2.1, Iv x47.2.2.1, Iv x47.2.2.2] 24), memoA 33 2 E33 (bestN F F x8) b4 s62]) (.cons_cons _ (.cons_cons _ (.cons_cons _ (.cons_cons _ (.cons_cons _ (.cons_cons _ (.cons _ (.cons _ (.cons _ (.cons _ (.cons _ (.cons _ (.cons _ .slnil)))))))))))))
        exact k_then ⟨s22, x23, x24, x25, b48, x47.1, x47.2.1, x47.2.2.1, x47.2.2.2, x47.1, x47.2.1, x47.2.2.1, x47.2.2.2, x50, x51, decide (x51 ≠ (0 : Int)), s62, hf.to ⟨rfl, rfl, rfl, rfl, rfl, rfl, rfl, rfl, rfl, rfl, rfl, rfl, rfl, rfl, rfl, rfl, rfl, rfl, rfl, rfl, rfl, trivial⟩, hS, hm⟩
    ·clear hf hS hm a; try clear w
     rintro a w ⟨s30, x31, x32, x33, b34, x35, x36, x37, x38, x39, x40, x41, x42, x43, x44, x45, s46, hf, hS, hm⟩
     unfold m_plan_Best_1_j3 at hm
     refine W.regionL (l := [0, 1]) rfl ?_
     refine O.val (v := Iv (IntKind.i64.wrap (x26 + 1))) hf rfl rfl rfl (RunV.add rfl rfl) ?_; clear hf a; intro a hf
     refine O.val hf rfl rfl rfl (RunV.move rfl) ?_; clear hf a; intro a hf
     refine O.nil ?_
     replace hS := hS.sub (N := [pt b10 (Cs #[.slice none 0 0, Iv 0, Iv 0] 61), pt b11 (Cs #[Iv x1, Iv x2] 63), slE 33 2 E33 s30 x31, pt b15 (Cs #[s30, Iv x32, Iv x33] 61), memoA 33 2 E33 (bestN F F x8) b4 s46]) (.cons_cons _ (.cons_cons _ (.cons_cons _ (.cons_cons _ (.cons _ (.cons_cons _ .slnil))))))
     refine k_then ⟨(k28, s30, x31, x32, x33, IntKind.i64.wrap (x26 + 1), s46), ⟨hf.to ⟨rfl, rfl, rfl, rfl, rfl, rfl, rfl, rfl, rfl, rfl, trivial⟩, hS, ?_⟩, Nat.lt_succ_self _⟩
     rw [hrec28] at hm; exact hm
   ·replace hm := hm_n hm hc29
    refine W.exit ?_
    refine k_then_exit ?_
    refine k_then_exit ?_
    refine k_blk ?_
    exact k_then ⟨s22, x23, x24, x25, s27, hf.to ⟨rfl, rfl, rfl, rfl, trivial⟩, hS, hm⟩
  ·clear hf hS hm a; try clear w
   rintro a w ⟨s16, x17, x18, x19, s20, hf, hS, hm⟩
   unfold m_plan_Best_1_j1 at hm
   refine W.seq ?_
   refine W.regionL (l := [0, 1, 2, 3]) rfl ?_
   refine O.val hf rfl rfl rfl (RunV.load1 T_agg_58 rfl (hS.bptAt (i := 1) rfl) rfl) ?_; clear hf a; intro a hf
   refine O.val hf rfl rfl rfl (RunV.loadN (cs' := #[Iv x1, Iv x2]) T_agg_63 T_size_63 rfl (hS.ptAt (i := 1) rfl) (Nat.le_of_ble_eq_true rfl) rfl) ?_; clear hf a; intro a hf
   refine O.val hf rfl rfl rfl (RunV.loadN (cs' := #[s16, Iv x18, Iv x19]) T_agg_61 T_size_61 rfl (hS.ptAt (i := 3) rfl) (Nat.le_of_ble_eq_true rfl) rfl) ?_; clear hf a; intro a hf
   replace hS := hS.front (i := 3) (M' := [pt b15 (Cs #[s16, Iv x18, Iv x19] 61), pt b10 (Cs #[.slice none 0 0, Iv 0, Iv 0] 61), pt b11 (Cs #[Iv x1, Iv x2] 63), slE 33 2 E33 s16 x17, memoA 33 2 E33 (bestN F F x8) b4 s20]) rfl rfl
   replace hS := hS.front (i := 2) (M' := [pt b11 (Cs #[Iv x1, Iv x2] 63), pt b15 (Cs #[s16, Iv x18, Iv x19] 61), pt b10 (Cs #[.slice none 0 0, Iv 0, Iv 0] 61), slE 33 2 E33 s16 x17, memoA 33 2 E33 (bestN F F x8) b4 s20]) rfl rfl
   replace hS := hS.front (i := 2) (M' := [pt b10 (Cs #[.slice none 0 0, Iv 0, Iv 0] 61), pt b11 (Cs #[Iv x1, Iv x2] 63), pt b15 (Cs #[s16, Iv x18, Iv x19] 61), slE 33 2 E33 s16 x17, memoA 33 2 E33 (bestN F F x8) b4 s20]) rfl rfl
   replace hS := hS.front (i := 4) (M' := [memoA 33 2 E33 (bestN F F x8) b4 s20, pt b10 (Cs #[.slice none 0 0, Iv 0, Iv 0] 61), pt b11 (Cs #[Iv x1, Iv x2] 63), pt b15 (Cs #[s16, Iv x18, Iv x19] 61), slE 33 2 E33 s16 x17]) rfl rfl
   replace hS := hS.front (i := 4) (M' := [slE 33 2 E33 s16 x17, memoA 33 2 E33 (bestN F F x8) b4 s20, pt b10 (Cs #[.slice none 0 0, Iv 0, Iv 0] 61), pt b11 (Cs #[Iv x1, Iv x2] 63), pt b15 (Cs #[s16, Iv x18, Iv x19] 61)]) rfl rfl
   have hfx : bestN F F x8 x1 x2 = (x17, x18, x19) := by
     rw [← hst _ _ _ _ hm0]; exact (Option.some.inj hm).symm
   refine O.memoPut hf hS rfl T_memo_58 rfl rfl rfl hfx ?_; clear hS; intro s21 w hS
   refine O.nil ?_
   refine k_seq ?_
   replace hf : Fr a 104 [] [(7, Pv b10 0), (11, Pv b15 0)] := hf.to ⟨rfl, rfl, trivial⟩
   refine W.seq ?_
   refine W.regionL (l := [0, 1]) rfl ?_
   refine O.val hf rfl rfl rfl (RunV.loadN (cs' := #[s16, Iv x18, Iv x19]) T_agg_61 T_size_61 rfl (hS.ptAt (i := 4) rfl) (Nat.le_of_ble_eq_true rfl) rfl) ?_; clear hf a; intro a hf
   refine O.store (j := 2) (cs' := #[s16, Iv x18, Iv x19]) (M' := [memIn (bestN F F x8) s21 s16 x17, memoA 33 2 E33 (bestN F F x8) b4 s21, pt b10 (Cs #[s16, Iv x18, Iv x19] 61), pt b11 (Cs #[Iv x1, Iv x2] 63), pt b15 (Cs #[s16, Iv x18, Iv x19] 61)]) hf hS rfl rfl rfl T_size_61 rfl (oneCells_cc (rdEOK_one (hS.memRd (i := 1) (j := 0) rfl rfl)) (oneCells_cc rfl (oneCells_cc rfl rfl))) rfl (Nat.le_of_ble_eq_true rfl) rfl rfl ?_
   clear hS; intro w hS
   refine O.nil ?_
   refine k_seq ?_
   replace hf : Fr a 104 [] [(7, Pv b10 0)] := hf.to ⟨rfl, trivial⟩
   refine W.ret ?_
   obtain rfl := Option.some.inj hm
   refine post1 hf rfl (ResOK.cellN (cs' := #[s16, Iv x18, Iv x19]) rfl T_agg_61 T_size_61 (hS.ptAt (i := 2) rfl) (Nat.le_of_ble_eq_true rfl) rfl) ?_
   replace hS := hS.sub (N := [memIn (bestN F F x8) s21 s16 x17, memoA 33 2 E33 (bestN F F x8) b4 s21]) (.cons_cons _ (.cons_cons _ (.cons _ (.cons _ (.cons _ .slnil)))))
   exact ⟨(s16, s21), rfl, hS.noB⟩
def m_plan_Best_1 (F : Nat)  (x1 : Int) (x2 : Int) (x8 : List (Int × Int × Int × Int)) : Option ((List (Int × Int)) × Int × Int) := m_plan_Best_1_r F F x1 x2 x8
theorem m_plan_Best_1_rok (F : Nat) : ∀ n : Nat, n ≤ F → ∀ (x1 : Int) (x2 : Int) (b3 : Nat) (b4 : Nat) (s5 : MTab) (b6 : Nat) (s7 : Value) (x8 : List (Int × Int × Int × Int)) (b9 : Nat) (w0 : World) (h_s7 : rdEOK (hp w0) 4 E24 s7 x8) (h_b4 : memoH w0 33 2 E33 (bestN F F x8) b4 s5) (h_b3 : w0.heap[b3]? = some (.cells #[.map (some b4)] 58 (0, 0))) (h_b6 : w0.heap[b6]? = some (.cells #[s7] 22 (0, 0))) (h_b9 : w0.heap[b9]? = some (.cells #[.func (.func 22) #[] #[Pv b3 0, Pv b6 0, Pv b9 0]] 59 (0, 0))) (ap_s7 : ∀ k, (rdE 4 E24 s7 x8).fp k → ¬ (memoA 33 2 E33 (bestN F F x8) b4 s5).fp k) (ap_b3 : ∀ k, (pt b3 (Cs #[.map (some b4)] 58)).fp k → ¬ (memoA 33 2 E33 (bestN F F x8) b4 s5).fp k) (ap_b6 : ∀ k, (pt b6 (Cs #[s7] 22)).fp k → ¬ (memoA 33 2 E33 (bestN F F x8) b4 s5).fp k) (ap_b9 : ∀ k, (pt b9 (Cs #[.func (.func 22) #[] #[Pv b3 0, Pv b6 0, Pv b9 0]] 59)).fp k → ¬ (memoA 33 2 E33 (bestN F F x8) b4 s5).fp k) (r : (List (Int × Int)) × Int × Int) (hm : m_plan_Best_1_r F n x1 x2 x8 = some r), Ret Try.prog 22 #[Iv x1, Iv x2, Pv b3 0, Pv b6 0, Pv b9 0] w0 (G := Value × MTab) (fun (g1, g2) => .agg #[g1, Iv r.2.1, Iv r.2.2]) (fun (g1, g2) w => St w0 w (fun k => (memoA 33 2 E33 (bestN F F x8) b4 s5).fp k) [] [memIn (bestN F F x8) g2 g1 r.1, memoA 33 2 E33 (bestN F F x8) b4 g2]) := by
  intro n
  induction n with
  | zero => intros; rename_i hm; exact absurd (show none = some _ from hm) (by simp)
  | succ n ih => intro hn x1 x2 b3 b4 s5 b6 s7 x8 b9 w0 h_s7 h_b4 h_b3 h_b6 h_b9 ap_s7 ap_b3 ap_b6 ap_b9 r hm; exact m_plan_Best_1_b_ok F (m_plan_Best_1_r F n) (ih (by omega)) (fun x1 x2 x8 r h => m_plan_Best_1_hst F (n + 1) hn x1 x2 x8 r h) x1 x2 b3 b4 s5 b6 s7 x8 b9 w0 h_s7 h_b4 h_b3 h_b6 h_b9 ap_s7 ap_b3 ap_b6 ap_b9 r hm
theorem m_plan_Best_1_ok (F : Nat) (x1 : Int) (x2 : Int) (b3 : Nat) (b4 : Nat) (s5 : MTab) (b6 : Nat) (s7 : Value) (x8 : List (Int × Int × Int × Int)) (b9 : Nat) (w0 : World) (h_s7 : rdEOK (hp w0) 4 E24 s7 x8) (h_b4 : memoH w0 33 2 E33 (bestN F F x8) b4 s5) (h_b3 : w0.heap[b3]? = some (.cells #[.map (some b4)] 58 (0, 0))) (h_b6 : w0.heap[b6]? = some (.cells #[s7] 22 (0, 0))) (h_b9 : w0.heap[b9]? = some (.cells #[.func (.func 22) #[] #[Pv b3 0, Pv b6 0, Pv b9 0]] 59 (0, 0))) (ap_s7 : ∀ k, (rdE 4 E24 s7 x8).fp k → ¬ (memoA 33 2 E33 (bestN F F x8) b4 s5).fp k) (ap_b3 : ∀ k, (pt b3 (Cs #[.map (some b4)] 58)).fp k → ¬ (memoA 33 2 E33 (bestN F F x8) b4 s5).fp k) (ap_b6 : ∀ k, (pt b6 (Cs #[s7] 22)).fp k → ¬ (memoA 33 2 E33 (bestN F F x8) b4 s5).fp k) (ap_b9 : ∀ k, (pt b9 (Cs #[.func (.func 22) #[] #[Pv b3 0, Pv b6 0, Pv b9 0]] 59)).fp k → ¬ (memoA 33 2 E33 (bestN F F x8) b4 s5).fp k) (r : (List (Int × Int)) × Int × Int) (hm : m_plan_Best_1 F x1 x2 x8 = some r) :
    Ret Try.prog 22 #[Iv x1, Iv x2, Pv b3 0, Pv b6 0, Pv b9 0] w0 (G := Value × MTab) (fun (g1, g2) => .agg #[g1, Iv r.2.1, Iv r.2.2]) (fun (g1, g2) w => St w0 w (fun k => (memoA 33 2 E33 (bestN F F x8) b4 s5).fp k) [] [memIn (bestN F F x8) g2 g1 r.1, memoA 33 2 E33 (bestN F F x8) b4 g2]) :=
  m_plan_Best_1_rok F F (Nat.le_refl _) x1 x2 b3 b4 s5 b6 s7 x8 b9 w0 h_s7 h_b4 h_b3 h_b6 h_b9 ap_s7 ap_b3 ap_b6 ap_b9 r hm

def m_plan_Best (F : Nat)  (x2 : List (Int × Int × Int × Int)) : Option ((List (Int × Int)) × Int × Int) :=
  (m_plan_Check F x2).bind fun x4 => if x4 ≠ (0 : Int) then (some (([] : List (Int × Int)), 0, x4)) else ((m_plan_Best_1 F 0 (-5000000000000000) x2).bind fun x9 => some (x9.1, x9.2.2, 0))
set_option maxHeartbeats 1000000 in
set_option maxRecDepth 8000 in
theorem m_plan_Best_ok (F : Nat)    (s1 : Value) (x2 : List (Int × Int × Int × Int)) (w0 : World) (h_s1 : rdEOK (hp w0) 4 E24 s1 x2) (r : (List (Int × Int)) × Int × Int) (hm : m_plan_Best F x2 = some r) :
    Ret Try.prog 9 #[s1] w0 (G := Value) (fun g1 => .tuple #[g1, Iv r.2.1, Iv r.2.2]) (fun g1 w => St w0 w noX [] [slE 33 2 E33 g1 r.1]) := by
 unfold m_plan_Best at hm
 refine ret_of_W (lv := [s1]) Try.func9 rfl rfl rfl (fun a hf => ?_)
 replace hf : Fr a 22 [] [(0, s1)] := hf
 have hS : St w0 w0 noX [rdE 4 E24 s1 x2] [] := St.borrow (lendAll_cons (lendRd h_s1) lendAll_nil)
 refine W.seq ?_
 refine W.regionL (l := [0, 1, 2, 3]) rfl ?_
 refine O.box (cs := #[s1]) hf hS rfl rfl rfl (rdEOK_cells (hS.rdB (j := 0) rfl)) ?_
 clear hf hS a; intro b3 w a hb3 hS hf
 refine O.val hf rfl rfl rfl (RunV.assign rfl) ?_; clear hf a; intro a hf
 refine O.val hf rfl rfl rfl (RunV.assign rfl) ?_; clear hf a; intro a hf
 refine O.val hf rfl rfl rfl (RunV.assign rfl) ?_; clear hf a; intro a hf
 refine O.nil ?_
 refine k_seq ?_
 replace hf : Fr a 22 [] [(1, Pv b3 0), (2, .slice none 0 0), (3, Iv 0), (4, Iv 0)] := hf.to ⟨rfl, rfl, rfl, rfl, trivial⟩
 refine W.seq ?_
 refine W.seq ?_
 refine W.regionL (l := [0, 1, 2]) rfl ?_
 refine O.val hf rfl rfl rfl (RunV.load1 T_agg_22 rfl (hS.ptAt (i := 0) rfl) rfl) ?_; clear hf a; intro a hf
 obtain ⟨x4, hx4, hm⟩ := hm_b hm
 refine O.callR hf rfl rfl rfl (RunE.call (av := #[s1]) C_ok_21 rfl rfl rfl) (m_plan_Check_ok F s1 x2 _ (hS.rdB (j := 0) rfl) x4 hx4) ?_
 clear hf a; rintro _ w hS1 a hf
 replace hf : Fr a _ _ ((10, Iv x4) :: _) := hf
 replace hS := (hS.call hS1).eqM (N := [pt b3 (Cs #[s1] 22)]) rfl
 clear hS1
 refine O.val hf rfl rfl rfl (RunV.assign rfl) ?_; clear hf a; intro a hf
 refine O.nil ?_
 refine k_seq ?_
 replace hf : Fr a 22 [] [(1, Pv b3 0), (2, .slice none 0 0), (3, Iv 0), (4, Iv 0), (5, Iv x4)] := hf.to ⟨rfl, rfl, rfl, rfl, rfl, trivial⟩
 refine W.seq ?_
 refine W.regionL (l := [0, 1]) rfl ?_
 refine O.val hf rfl rfl rfl (RunV.move rfl) ?_; clear hf a; intro a hf
 refine O.val (v := Bv (decide (x4 ≠ (0 : Int)))) hf rfl rfl rfl (RunV.neq rfl rfl) ?_; clear hf a; intro a hf
 refine O.nil ?_
 refine k_seq ?_
 replace hf : Fr a 22 [] [(1, Pv b3 0), (2, .slice none 0 0), (3, Iv 0), (4, Iv 0), (5, Iv x4), (12, Bv (decide (x4 ≠ (0 : Int))))] := hf.to ⟨rfl, rfl, rfl, rfl, rfl, rfl, trivial⟩
 refine W.ifdI hf rfl (fun hc5 => ?_) (fun hc5 => ?_)
 ·replace hm := hm_p hm hc5
  refine W.seq ?_
  refine W.regionL (l := [0, 1, 2, 3]) rfl ?_
  refine O.val hf rfl rfl rfl (RunV.move rfl) ?_; clear hf a; intro a hf
  refine O.val hf rfl rfl rfl (RunV.assign rfl) ?_; clear hf a; intro a hf
  refine O.val hf rfl rfl rfl (RunV.assign rfl) ?_; clear hf a; intro a hf
  refine O.val hf rfl rfl rfl (RunV.assign rfl) ?_; clear hf a; intro a hf
  refine O.nil ?_
  refine k_seq ?_
  replace hf : Fr a 22 [] [(1, Pv b3 0), (2, .slice none 0 0), (3, Iv 0), (4, Iv x4)] := hf.to ⟨rfl, rfl, rfl, rfl, trivial⟩
  refine W.ret ?_
  refine k_then_ret ?_
  replace hS := hS.nilE 33 2 E33
  obtain rfl := Option.some.inj hm
  refine post3 hf rfl (ResOK.tmp rfl) (ResOK.tmp rfl) (ResOK.tmp rfl) ?_
  replace hS := hS.nilE 33 2 E33
  replace hS := hS.sub (N := [slE 33 2 E33 (.slice none 0 0) ([] : List (Int × Int))]) (.cons_cons _ (.cons _ (.cons _ .slnil)))
  exact ⟨(.slice none 0 0), rfl, hS.noB⟩
 ·replace hm := hm_n hm hc5
  refine W.skip ?_
  refine k_seq ?_
  replace hf : Fr a 22 [] [(1, Pv b3 0), (2, .slice none 0 0), (3, Iv 0), (4, Iv 0)] := hf.to ⟨rfl, rfl, rfl, rfl, trivial⟩
  refine W.seq ?_
  refine W.regionL (l := [0, 1, 2]) rfl ?_
  refine O.makeMemo 33 2 E33 (bestN F F x2) hf hS rfl rfl ?_
  clear hf hS a; intro b6 w a hS hf
  refine O.alloc (cs := #[.map none]) hf hS rfl rfl T_zero_58 rfl ?_
  clear hf hS a; intro b7 w a hb7 hS hf
  refine O.store (j := 0) (cs' := #[.map (some b6)]) (M' := [pt b7 (Cs #[.map (some b6)] 58), memoA 33 2 E33 (bestN F F x2) b6 ([]), pt b3 (Cs #[s1] 22)]) hf hS rfl rfl rfl T_size_58 rfl rfl rfl (Nat.le_of_ble_eq_true rfl) rfl rfl ?_
  clear hS; intro w hS
  refine O.nil ?_
  refine k_seq ?_
  replace hf : Fr a 22 [] [(1, Pv b3 0), (2, .slice none 0 0), (3, Iv 0), (4, Iv 0), (6, Pv b7 0)] := hf.to ⟨rfl, rfl, rfl, rfl, rfl, trivial⟩
  refine W.seq ?_
  refine W.regionL (l := [0]) rfl ?_
  refine O.alloc (cs := #[.nilFunc]) hf hS rfl rfl T_zero_59 rfl ?_
  clear hf hS a; intro b8 w a hb8 hS hf
  refine O.nil ?_
  refine k_seq ?_
  refine W.seq ?_
  refine W.regionL (l := [0, 1]) rfl ?_
  refine O.val (v := .func (.func 22) #[] #[Pv b7 0, Pv b3 0, Pv b8 0]) hf rfl rfl rfl (RunV.makeFunc rfl rfl rfl rfl) ?_; clear hf a; intro a hf
  refine O.store (j := 0) (cs' := #[.func (.func 22) #[] #[Pv b7 0, Pv b3 0, Pv b8 0]]) (M' := [pt b8 (Cs #[.func (.func 22) #[] #[Pv b7 0, Pv b3 0, Pv b8 0]] 59), pt b7 (Cs #[.map (some b6)] 58), memoA 33 2 E33 (bestN F F x2) b6 ([]), pt b3 (Cs #[s1] 22)]) hf hS rfl rfl rfl T_size_59 rfl rfl rfl (Nat.le_of_ble_eq_true rfl) rfl rfl ?_
  clear hS; intro w hS
  refine O.nil ?_
  refine k_seq ?_
  replace hf : Fr a 22 [] [(2, .slice none 0 0), (3, Iv 0), (4, Iv 0), (7, Pv b8 0)] := hf.to ⟨rfl, rfl, rfl, rfl, trivial⟩
  refine W.seq ?_
  refine W.regionL (l := [0, 1, 2, 3]) rfl ?_
  refine O.val hf rfl rfl rfl (RunV.load1 T_agg_59 rfl (hS.ptAt (i := 0) rfl) rfl) ?_; clear hf a; intro a hf
  obtain ⟨x9, hx9, hm⟩ := hm_b hm
  refine O.callR hf rfl rfl rfl (RunE.call (av := #[Iv 0, Iv (-5000000000000000), Pv b7 0, Pv b3 0, Pv b8 0]) C_ok_22 rfl rfl rfl) (m_plan_Best_1_ok F 0 (-5000000000000000) b7 b6 ([]) b3 s1 x2 b8 _ (hS.rdB (j := 0) rfl) (hS.lentAt (i := 2) rfl) (hS.ptAt (i := 1) rfl) (hS.ptAt (i := 3) rfl) (hS.ptAt (i := 0) rfl) (hS.apart (i := 2) (j := 0) rfl rfl) (hS.apMM (i := 2) (j := 1) rfl rfl (by decide)) (hS.apMM (i := 2) (j := 3) rfl rfl (by decide)) (hS.apMM (i := 2) (j := 0) rfl rfl (by decide)) x9 hx9) ?_
  clear hf a; rintro ⟨s10, s11⟩ w hS1 a hf
  replace hf : Fr a _ _ ((17, .agg #[s10, Iv x9.2.1, Iv x9.2.2]) :: _) := hf
  replace hS := (hS.callX1 hS1 (i := 2) rfl (fun _ h => h)).eqM (N := [memIn (bestN F F x2) s11 s10 x9.1, memoA 33 2 E33 (bestN F F x2) b6 s11, pt b8 (Cs #[.func (.func 22) #[] #[Pv b7 0, Pv b3 0, Pv b8 0]] 59), pt b7 (Cs #[.map (some b6)] 58), pt b3 (Cs #[s1] 22)]) rfl
  clear hS1
  refine O.alloc (cs := #[.slice none 0 0, Iv 0, Iv 0]) hf hS rfl rfl T_zero_61 rfl ?_
  clear hf hS a; intro b12 w a hb12 hS hf
  refine O.store (j := 0) (cs' := #[s10, Iv x9.2.1, Iv x9.2.2]) (M' := [pt b12 (Cs #[s10, Iv x9.2.1, Iv x9.2.2] 61), memIn (bestN F F x2) s11 s10 x9.1, memoA 33 2 E33 (bestN F F x2) b6 s11, pt b8 (Cs #[.func (.func 22) #[] #[Pv b7 0, Pv b3 0, Pv b8 0]] 59), pt b7 (Cs #[.map (some b6)] 58), pt b3 (Cs #[s1] 22)]) hf hS rfl rfl rfl T_size_61 rfl (oneCells_cc (rdEOK_one (hS.memRd (i := 2) (j := 1) rfl rfl)) (oneCells_cc rfl (oneCells_cc rfl rfl))) rfl (Nat.le_of_ble_eq_true rfl) rfl rfl ?_
  clear hS; intro w hS
  refine O.nil ?_
  refine k_seq ?_
  replace hf : Fr a 22 [] [(2, .slice none 0 0), (3, Iv 0), (4, Iv 0), (8, Pv b12 0)] := hf.to ⟨rfl, rfl, rfl, rfl, trivial⟩
  refine W.seq ?_
  refine W.drawQ (fun w => St w0 w noX [rdE 4 E24 s1 x2] [pt b12 (Cs #[s10, Iv x9.2.1, Iv x9.2.2] 61), memIn (bestN F F x2) s11 s10 x9.1, memoA 33 2 E33 (bestN F F x2) b6 s11, pt b8 (Cs #[.func (.func 22) #[] #[Pv b7 0, Pv b3 0, Pv b8 0]] 59), pt b7 (Cs #[.map (some b6)] 58), pt b3 (Cs #[s1] 22)]) P_mixed rfl (by kernel_rfl) rfl hS.drew ?_
  clear hS; try clear w
  refine OQ.val (v := Pv b12 0) hf rfl (fun w hS => RunV.field T_field_61_0 rfl rfl) ?_; clear hf a; intro a hf
  refine OQ.val (v := s10) hf rfl (fun w hS => RunV.load1 T_agg_27 rfl (hS.ptAt (i := 0) rfl) rfl) ?_; clear hf a; intro a hf
  refine OQ.val (v := Pv b12 2) hf rfl (fun w hS => RunV.field T_field_61_2 rfl rfl) ?_; clear hf a; intro a hf
  refine OQ.val (v := Iv x9.2.2) hf rfl (fun w hS => RunV.load1 T_agg_3 rfl (hS.ptAt (i := 0) rfl) rfl) ?_; clear hf a; intro a hf
  refine OQ.val (v := s10) hf rfl (fun w hS => RunV.assign rfl) ?_; clear hf a; intro a hf
  refine OQ.val (v := Iv x9.2.2) hf rfl (fun w hS => RunV.assign rfl) ?_; clear hf a; intro a hf
  refine OQ.val (v := Iv 0) hf rfl (fun w hS => RunV.assign rfl) ?_; clear hf a; intro a hf
  refine OQ.nil ?_; intro w hS
  refine k_seq ?_
  replace hf : Fr a 22 [] [(2, s10), (3, Iv x9.2.2), (4, Iv 0)] := hf.to ⟨rfl, rfl, rfl, trivial⟩
  refine W.ret ?_
  replace hS := hS.memOwn (i := 2) (j := 1) (M' := [pt b12 (Cs #[s10, Iv x9.2.1, Iv x9.2.2] 61), memIn (bestN F F x2) s11 s10 x9.1, slE 33 2 E33 s10 x9.1, pt b8 (Cs #[.func (.func 22) #[] #[Pv b7 0, Pv b3 0, Pv b8 0]] 59), pt b7 (Cs #[.map (some b6)] 58), pt b3 (Cs #[s1] 22)]) rfl rfl rfl
  obtain rfl := Option.some.inj hm
  refine post3 hf rfl (ResOK.tmp rfl) (ResOK.tmp rfl) (ResOK.tmp rfl) ?_
  replace hS := hS.sub (N := [slE 33 2 E33 s10 x9.1]) (.cons _ (.cons _ (.cons_cons _ (.cons _ (.cons _ (.cons _ .slnil))))))
  exact ⟨s10, rfl, hS.noB⟩

def m_wide_trim_3_j1 (F : Nat) (x2 : List Int) (x3 : Int) : Option (List Int) :=
  if sbd 0 x3 (x2.length : Int) then some (lsub x2 0 x3) else none
def m_wide_trim_3_j3 (F : Nat) (rec6 : Int → Option (List Int)) (x5 : Int) (x2 : List Int) (x7 : Bool) : Option (List Int) :=
  if (x7) = true then (rec6 (IntKind.i64.wrap (x5 - 1))) else (m_wide_trim_3_j1 F x2 x5)
def m_wide_trim_3_b2 (F : Nat) (x2 : List Int) (rec6 : Int → Option (List Int)) (x5 : Int) : Option (List Int) :=
  if x5 > (0 : Int) then ((idx x2 (IntKind.i64.wrap (x5 - 1))).bind fun x10 => m_wide_trim_3_j3 F rec6 x5 x2 (decide (x10 = (0 : Int)))) else (m_wide_trim_3_j3 F rec6 x5 x2 false)
def m_wide_trim_3_l2 (F : Nat) (x2 : List Int) : Nat → Int → Option (List Int)
  | 0, _ => none
  | n + 1, x5 => m_wide_trim_3_b2 F x2 (m_wide_trim_3_l2 F x2 n) x5
def m_wide_trim_3 (F : Nat)  (x2 : List Int) : Option (List Int) :=
  m_wide_trim_3_l2 F x2 F (x2.length : Int)
set_option maxHeartbeats 1000000 in
set_option maxRecDepth 8000 in
theorem m_wide_trim_3_ok (F : Nat)    (s1 : Value) (x2 : List Int) (w0 : World) (h_s1 : slOK (hp w0) 98 1 s1 x2.length (encs E98 x2)) (r : List Int) (hm : m_wide_trim_3 F x2 = some r) :
    Ret Try.prog 54 #[s1] w0 (G := Value) (fun g1 => g1) (fun g1 w => St w0 w (fun k => s1.ownBlock = some k) [] [slE 98 1 E98 g1 r]) := by
 unfold m_wide_trim_3 at hm
 refine ret_of_W (lv := [s1]) Try.func54 rfl rfl rfl (fun a hf => ?_)
 replace hf : Fr a 21 [] [(0, s1)] := hf
 have hS : St w0 w0 (fun k => s1.ownBlock = some k) [] [slE 98 1 E98 s1 x2] := St.ownE h_s1 lendAll_nil (apAll_nil (q := slE 98 1 E98 s1 x2))
 refine W.seq ?_
 refine W.regionL (l := [0]) rfl ?_
 refine O.val hf rfl rfl rfl (RunV.assign rfl) ?_; clear hf a; intro a hf
 refine O.nil ?_
 refine k_seq ?_
 refine W.seq ?_
 refine W.regionL (l := [0, 1, 2]) rfl ?_
 refine O.val hf rfl rfl rfl (RunV.move rfl) ?_; clear hf a; intro a hf
 refine O.val (v := Iv (x2.length : Int)) hf rfl rfl rfl (RunV.lenE (e := 98) (by simpa using T_elem_37) rfl (hS.rdS (j := 0) rfl)) ?_; clear hf a; intro a hf
 refine O.val hf rfl rfl rfl (RunV.assign rfl) ?_; clear hf a; intro a hf
 refine O.nil ?_
 refine k_seq ?_
 replace hf : Fr a 21 [] [(0, s1), (2, .slice none 0 0), (3, Iv (x2.length : Int))] := hf.to ⟨rfl, rfl, rfl, trivial⟩
 refine W.seqR (fun a w => ∃ (x3 : Int), Fr a 21 [] [(0, s1), (2, .slice none 0 0), (3, Iv x3)] ∧ St w0 w (fun k => s1.ownBlock = some k) [] [slE 98 1 E98 s1 x2] ∧ m_wide_trim_3_j1 F x2 x3 = some r) ?_ ?_
 ·refine W.block ?_
  refine W.loop (G := Nat × Int) (fun g a w => match g with | (k6, x5) => Fr a 21 [] [(0, s1), (2, .slice none 0 0), (3, Iv x5)] ∧ St w0 w (fun k => s1.ownBlock = some k) [] [slE 98 1 E98 s1 x2] ∧ m_wide_trim_3_l2 F x2 k6 x5 = some r) (fun g => match g with | (k6, x5) => k6) (F, (x2.length : Int)) ⟨hf.to ⟨rfl, rfl, rfl, trivial⟩, hS, hm⟩ ?_
  clear hf hS hm a; try clear w
  rintro ⟨k6, x5⟩ a w ⟨hf, hS, hm⟩
  rcases k6 with _ | k6
  · exact absurd (show none = some r from hm) (by simp)
  replace hm : m_wide_trim_3_b2 F x2 (m_wide_trim_3_l2 F x2 k6) x5 = some r := hm
  obtain ⟨rec6, hrec6⟩ : ∃ f, f = m_wide_trim_3_l2 F x2 k6 := ⟨_, rfl⟩
  rw [← hrec6] at hm; unfold m_wide_trim_3_b2 at hm
  refine W.seq ?_
  refine W.seq ?_
  refine W.regionL (l := [0, 1, 2, 3, 4, 5, 6, 7, 8, 9]) rfl ?_
  refine O.val hf rfl rfl rfl (RunV.move rfl) ?_; clear hf a; intro a hf
  refine O.val (v := Bv (decide (x5 > (0 : Int)))) hf rfl rfl rfl (RunV.gtr rfl rfl) ?_; clear hf a; intro a hf
  refine O.val hf rfl rfl rfl (RunV.move rfl) ?_; clear hf a; intro a hf
  refine O.cutN (l₁ := [3, 4, 5, 6, 7, 8, 9]) (l₂ := _) (fun a w => ∃ (x7 : Bool), Fr a 21 [] [(0, s1), (2, .slice none 0 0), (3, Iv x5), (6, Iv x5), (7, Bv (decide (x5 > (0 : Int)))), (8, Bv (decide (x5 > (0 : Int)))), (15, Bv x7)] ∧ St w0 w (fun k => s1.ownBlock = some k) [] [slE 98 1 E98 s1 x2] ∧ m_wide_trim_3_j3 F rec6 x5 x2 x7 = some r) rfl ?_ ?_
  ·rcases Bool.eq_false_or_eq_true (decide (x5 > (0 : Int))) with hb9 | hb9
   ·have hb9p := of_decide_eq_true hb9
    replace hm := hm_p hm hb9p
    refine O.gvalB hf rfl rfl rfl hb9 rfl rfl (RunV.move rfl) ?_; clear hf a; intro a hf
    refine O.gvalB hf rfl rfl rfl hb9 rfl rfl (RunV.move rfl) ?_; clear hf a; intro a hf
    refine O.gvalB (v := Iv (IntKind.i64.wrap (x5 - 1))) hf rfl rfl rfl hb9 rfl rfl (RunV.sub rfl rfl) ?_; clear hf a; intro a hf
    obtain ⟨x10, hx10, hm⟩ := hm_b hm
    refine O.gvalB hf rfl rfl rfl hb9 rfl rfl (RunV.ixE T_elem_37 T_size_98 rfl rfl (hS.rdS (j := 0) rfl) hx10) ?_; clear hf a; intro a hf
    refine O.gvalB hf rfl rfl rfl hb9 rfl rfl (RunV.ldE1 (o := 0) T_agg_98 E98_len rfl (hS.rdS (j := 0) rfl) hx10 rfl rfl) ?_; clear hf a; intro a hf
    refine O.gvalB (v := Bv (decide (x10 = (0 : Int)))) hf rfl rfl rfl hb9 rfl rfl (RunV.eql rfl rfl) ?_; clear hf a; intro a hf
    refine O.val (v := Bv (decide (x10 = (0 : Int)))) hf rfl rfl rfl (RunV.pick rfl rfl rfl (by rw [hb9]; rfl)) ?_; clear hf a; intro a hf
    exact O.nil ⟨rfl, decide (x10 = (0 : Int)), hf.to ⟨rfl, rfl, rfl, rfl, rfl, rfl, rfl, trivial⟩, hS, hm⟩
   ·have hb9p := of_decide_eq_false hb9
    replace hm := hm_n hm hb9p
    refine O.skipB hf rfl rfl rfl hb9 rfl ?_; clear hf a; intro a hf
    refine O.skipB hf rfl rfl rfl hb9 rfl ?_; clear hf a; intro a hf
    refine O.skipB hf rfl rfl rfl hb9 rfl ?_; clear hf a; intro a hf
    refine O.skipB hf rfl rfl rfl hb9 rfl ?_; clear hf a; intro a hf
    refine O.skipB hf rfl rfl rfl hb9 rfl ?_; clear hf a; intro a hf
    refine O.skipB hf rfl rfl rfl hb9 rfl ?_; clear hf a; intro a hf
    refine O.val (v := Bv false) hf rfl rfl rfl (RunV.pick rfl rfl rfl (by rw [hb9]; rfl)) ?_; clear hf a; intro a hf
    exact O.nil ⟨rfl, false, hf.to ⟨rfl, rfl, rfl, rfl, rfl, rfl, rfl, trivial⟩, hS, hm⟩
  clear hf hS hm a; try clear w
  rintro a w ⟨x7, hf, hS, hm⟩
  unfold m_wide_trim_3_j3 at hm
  refine O.nil ?_
  refine k_seq ?_
  refine W.if_ hf rfl (fun hc8 => ?_) (fun hc8 => ?_)
  ·replace hm := hm_t hm hc8
   refine W.skip ?_
   refine k_seq ?_
   refine W.block ?_
   refine W.regionL (l := [0, 1, 2]) rfl ?_
   refine O.val hf rfl rfl rfl (RunV.move rfl) ?_; clear hf a; intro a hf
   refine O.val (v := Iv (IntKind.i64.wrap (x5 - 1))) hf rfl rfl rfl (RunV.sub rfl rfl) ?_; clear hf a; intro a hf
   refine O.val hf rfl rfl rfl (RunV.assign rfl) ?_; clear hf a; intro a hf
   refine O.nil ?_
   refine k_blk_normal ?_
   refine k_then ⟨(k6, IntKind.i64.wrap (x5 - 1)), ⟨hf.to ⟨rfl, rfl, rfl, trivial⟩, hS, ?_⟩, Nat.lt_succ_self _⟩
   rw [hrec6] at hm; exact hm
  ·replace hm := hm_f hm hc8
   refine W.exit ?_
   refine k_then_exit ?_
   refine k_then_exit ?_
   refine k_blk ?_
   exact k_then ⟨x5, hf.to ⟨rfl, rfl, rfl, trivial⟩, hS, hm⟩
 ·clear hf hS hm a; try clear w
  rintro a w ⟨x3, hf, hS, hm⟩
  unfold m_wide_trim_3_j1 at hm
  refine W.seq ?_
  refine W.regionL (l := [0, 1, 2, 3]) rfl ?_
  refine O.val hf rfl rfl rfl (RunV.move rfl) ?_; clear hf a; intro a hf
  refine O.val hf rfl rfl rfl (RunV.move rfl) ?_; clear hf a; intro a hf
  obtain ⟨hg4, hm⟩ := hm_g hm
  refine O.val (v := vsub 1 s1 0 x3) hf rfl rfl rfl (RunV.sliceH T_elem_37 T_size_98 rfl rfl (hS.rdS (j := 0) rfl) hg4) ?_; clear hf a; intro a hf
  refine O.val hf rfl rfl rfl (RunV.assign rfl) ?_; clear hf a; intro a hf
  refine O.nil ?_
  refine k_seq ?_
  replace hf : Fr a 21 [] [(2, vsub 1 s1 0 x3)] := hf.to ⟨rfl, trivial⟩
  refine W.ret ?_
  replace hS := hS.takeS (j := 0) (M' := [slE 98 1 E98 (vsub 1 s1 0 x3) (lsub x2 0 x3)]) rfl E98_len hg4 rfl
  obtain rfl := Option.some.inj hm
  refine post1 hf rfl (ResOK.tmp rfl) ?_
  exact ⟨vsub 1 s1 0 x3, rfl, hS.noB⟩

def m_wide_made_3 (F : Nat)  (x1 : Bool) (x3 : List Int) : Option (Bool × (List Int) × Int) :=
  (m_wide_trim_3 F x3).bind fun x5 => if (x5.length : Int) > (4096 : Int) then (some (false, ([] : List Int), 16)) else (some (x1 && (decide ((x5.length : Int) > (0 : Int))), x5, 0))
set_option maxHeartbeats 1000000 in
set_option maxRecDepth 8000 in
theorem m_wide_made_3_ok (F : Nat)    (x1 : Bool) (s2 : Value) (x3 : List Int) (w0 : World) (h_s2 : slOK (hp w0) 98 1 s2 x3.length (encs E98 x3)) (r : Bool × (List Int) × Int) (hm : m_wide_made_3 F x1 x3 = some r) :
    Ret Try.prog 60 #[Bv x1, s2] w0 (G := Value) (fun g1 => .tuple #[.agg #[Bv r.1, g1], Iv r.2.2]) (fun g1 w => St w0 w (fun k => s2.ownBlock = some k) [] [slE 98 1 E98 g1 r.2.1]) := by
 unfold m_wide_made_3 at hm
 refine ret_of_W (lv := [Bv x1, s2]) Try.func60 rfl rfl rfl (fun a hf => ?_)
 replace hf : Fr a 20 [] [(0, Bv x1), (1, s2)] := hf
 have hS : St w0 w0 (fun k => s2.ownBlock = some k) [] [slE 98 1 E98 s2 x3] := St.ownE h_s2 lendAll_nil (apAll_nil (q := slE 98 1 E98 s2 x3))
 refine W.seq ?_
 refine W.regionL (l := [0, 1]) rfl ?_
 refine O.alloc (cs := #[Bv false, .slice none 0 0]) hf hS rfl rfl T_zero_39 rfl ?_
 clear hf hS a; intro b4 w a hb4 hS hf
 refine O.val hf rfl rfl rfl (RunV.assign rfl) ?_; clear hf a; intro a hf
 refine O.nil ?_
 refine k_seq ?_
 refine W.seq ?_
 refine W.regionL (l := [0, 1, 2]) rfl ?_
 refine O.val hf rfl rfl rfl (RunV.move rfl) ?_; clear hf a; intro a hf
 obtain ⟨x5, hx5, hm⟩ := hm_b hm
 refine O.callR hf rfl rfl rfl (RunE.call (av := #[s2]) C_ok_54 rfl rfl rfl) (m_wide_trim_3_ok F s2 x3 _ (hS.slS (j := 1) rfl) x5 hx5) ?_
 clear hf a; rintro s6 w hS1 a hf
 replace hf : Fr a _ _ ((7, s6) :: _) := hf
 replace hS := (hS.callX1 hS1 (i := 1) rfl (fun _ h => h)).eqM (N := [slE 98 1 E98 s6 x5, pt b4 (Cs #[Bv false, .slice none 0 0] 39)]) rfl
 clear hS1
 refine O.val hf rfl rfl rfl (RunV.assign rfl) ?_; clear hf a; intro a hf
 refine O.nil ?_
 refine k_seq ?_
 replace hf : Fr a 20 [] [(0, Bv x1), (1, s6), (4, Pv b4 0), (5, Iv 0)] := hf.to ⟨rfl, rfl, rfl, rfl, trivial⟩
 refine W.seq ?_
 refine W.seq ?_
 refine W.regionL (l := [0, 1, 2]) rfl ?_
 refine O.val hf rfl rfl rfl (RunV.move rfl) ?_; clear hf a; intro a hf
 refine O.val (v := Iv (x5.length : Int)) hf rfl rfl rfl (RunV.lenE (e := 98) (by simpa using T_elem_37) rfl (hS.rdS (j := 0) rfl)) ?_; clear hf a; intro a hf
 refine O.val (v := Bv (decide ((x5.length : Int) > (4096 : Int)))) hf rfl rfl rfl (RunV.gtr rfl rfl) ?_; clear hf a; intro a hf
 refine O.nil ?_
 refine k_seq ?_
 replace hf : Fr a 20 [] [(0, Bv x1), (1, s6), (4, Pv b4 0), (5, Iv 0), (10, Bv (decide ((x5.length : Int) > (4096 : Int))))] := hf.to ⟨rfl, rfl, rfl, rfl, rfl, trivial⟩
 refine W.ifdI hf rfl (fun hc7 => ?_) (fun hc7 => ?_)
 ·replace hm := hm_p hm hc7
  refine W.seq ?_
  refine W.regionL (l := [0, 1, 2]) rfl ?_
  refine O.val (v := .agg #[Bv false, .slice none 0 0]) hf rfl rfl rfl (RunV.buildS (cs' := #[Bv false, .slice none 0 0]) T_places_39 T_zero_39 rfl (by kernel_rfl)) ?_; clear hf a; intro a hf
  refine O.store (j := 1) (cs' := #[Bv false, .slice none 0 0]) (M' := [slE 98 1 E98 s6 x5, pt b4 (Cs #[Bv false, .slice none 0 0] 39)]) hf hS rfl rfl rfl T_size_39 rfl rfl rfl (Nat.le_of_ble_eq_true rfl) rfl rfl ?_
  clear hS; intro w hS
  refine O.val hf rfl rfl rfl (RunV.assign rfl) ?_; clear hf a; intro a hf
  refine O.nil ?_
  refine k_seq ?_
  replace hf : Fr a 20 [] [(0, Bv x1), (1, s6), (4, Pv b4 0), (5, Iv 16)] := hf.to ⟨rfl, rfl, rfl, rfl, trivial⟩
  refine W.ret ?_
  refine k_then_ret ?_
  replace hS := hS.nilE 98 1 E98
  obtain rfl := Option.some.inj hm
  refine post2 hf rfl (ResOK.cellN (cs' := #[Bv false, .slice none 0 0]) rfl T_agg_39 T_size_39 (hS.ptAt (i := 2) rfl) (Nat.le_of_ble_eq_true rfl) rfl) (ResOK.tmp rfl) ?_
  replace hS := hS.nilE 98 1 E98
  replace hS := hS.sub (N := [slE 98 1 E98 (.slice none 0 0) ([] : List Int)]) (.cons_cons _ (.cons _ (.cons _ (.cons _ .slnil))))
  exact ⟨(.slice none 0 0), rfl, hS.noB⟩
 ·replace hm := hm_n hm hc7
  refine W.skip ?_
  refine k_seq ?_
  replace hf : Fr a 20 [] [(0, Bv x1), (1, s6), (4, Pv b4 0), (5, Iv 0)] := hf.to ⟨rfl, rfl, rfl, rfl, trivial⟩
  refine W.seq ?_
  refine W.regionL (l := [0, 1, 2, 3, 4, 5, 6, 7, 8, 9]) rfl ?_
  refine O.val hf rfl rfl rfl (RunV.move rfl) ?_; clear hf a; intro a hf
  refine O.val hf rfl rfl rfl (RunV.move rfl) ?_; clear hf a; intro a hf
  refine O.cutN (l₁ := [2, 3, 4, 5]) (l₂ := _) (fun a w => Fr a 20 [] [(1, s6), (4, Pv b4 0), (5, Iv 0), (17, Bv (x1 && (decide ((x5.length : Int) > (0 : Int)))))] ∧ St w0 w (fun k => s2.ownBlock = some k) [] [slE 98 1 E98 s6 x5, pt b4 (Cs #[Bv false, .slice none 0 0] 39)]) rfl ?_ ?_
  ·rcases Bool.eq_false_or_eq_true (x1) with hb8 | hb8
   ·refine O.gvalB hf rfl rfl rfl hb8 rfl rfl (RunV.move rfl) ?_; clear hf a; intro a hf
    refine O.gvalB (v := Iv (x5.length : Int)) hf rfl rfl rfl hb8 rfl rfl (RunV.lenE (e := 98) (by simpa using T_elem_37) rfl (hS.rdS (j := 0) rfl)) ?_; clear hf a; intro a hf
    refine O.gvalB (v := Bv (decide ((x5.length : Int) > (0 : Int)))) hf rfl rfl rfl hb8 rfl rfl (RunV.gtr rfl rfl) ?_; clear hf a; intro a hf
    refine O.val (v := Bv (x1 && (decide ((x5.length : Int) > (0 : Int))))) hf rfl rfl rfl (RunV.pick rfl rfl rfl (by rw [hb8]; rfl)) ?_; clear hf a; intro a hf
    exact O.nil ⟨rfl, hf.to ⟨rfl, rfl, rfl, rfl, trivial⟩, hS⟩
   ·refine O.skipB hf rfl rfl rfl hb8 rfl ?_; clear hf a; intro a hf
    refine O.skipB hf rfl rfl rfl hb8 rfl ?_; clear hf a; intro a hf
    refine O.skipB hf rfl rfl rfl hb8 rfl ?_; clear hf a; intro a hf
    refine O.val (v := Bv (x1 && (decide ((x5.length : Int) > (0 : Int))))) hf rfl rfl rfl (RunV.pick rfl rfl rfl (by rw [hb8]; rfl)) ?_; clear hf a; intro a hf
    exact O.nil ⟨rfl, hf.to ⟨rfl, rfl, rfl, rfl, trivial⟩, hS⟩
  clear hf hS a; try clear w
  rintro a w ⟨hf, hS⟩
  refine O.val hf rfl rfl rfl (RunV.move rfl) ?_; clear hf a; intro a hf
  refine O.val (v := .agg #[Bv (x1 && (decide ((x5.length : Int) > (0 : Int)))), s6]) hf rfl rfl rfl (RunV.buildS (cs' := #[Bv (x1 && (decide ((x5.length : Int) > (0 : Int)))), s6]) T_places_39 T_zero_39 rfl (by simp only [Instr.fill, (rdEOK_cells (hS.rdS (j := 0) rfl))]; rfl)) ?_; clear hf a; intro a hf
  refine O.store (j := 1) (cs' := #[Bv (x1 && (decide ((x5.length : Int) > (0 : Int)))), s6]) (M' := [slE 98 1 E98 s6 x5, pt b4 (Cs #[Bv (x1 && (decide ((x5.length : Int) > (0 : Int)))), s6] 39)]) hf hS rfl rfl rfl T_size_39 rfl (oneCells_cc rfl (oneCells_cc (rdEOK_one (hS.rdS (j := 0) rfl)) rfl)) rfl (Nat.le_of_ble_eq_true rfl) rfl rfl ?_
  clear hS; intro w hS
  refine O.val hf rfl rfl rfl (RunV.assign rfl) ?_; clear hf a; intro a hf
  refine O.nil ?_
  refine k_seq ?_
  replace hf : Fr a 20 [] [(4, Pv b4 0), (5, Iv 0)] := hf.to ⟨rfl, rfl, trivial⟩
  refine W.ret ?_
  obtain rfl := Option.some.inj hm
  refine post2 hf rfl (ResOK.cellN (cs' := #[Bv (x1 && (decide ((x5.length : Int) > (0 : Int)))), s6]) rfl T_agg_39 T_size_39 (hS.ptAt (i := 1) rfl) (Nat.le_of_ble_eq_true rfl) rfl) (ResOK.tmp rfl) ?_
  replace hS := hS.sub (N := [slE 98 1 E98 s6 x5]) (.cons_cons _ (.cons _ .slnil))
  exact ⟨s6, rfl, hS.noB⟩

def m_wide_From_j1 (F : Nat) (x1 : Int) (x3 : Int) : Option (Bool × (List Int)) :=
  (m_wide_made_3 F (decide (x1 < (0 : Int))) ([IntKind.u32.wrap x3, IntKind.u32.wrap (Int.fdiv x3 (2 ^ 32))])).bind fun x6 => some (x6.1, x6.2.1)
def m_wide_From (F : Nat)  (x1 : Int) : Option (Bool × (List Int)) :=
  if x1 < (0 : Int) then (m_wide_From_j1 F x1 (IntKind.u64.wrap (0 - (IntKind.u64.wrap x1)))) else (m_wide_From_j1 F x1 (IntKind.u64.wrap x1))
set_option maxHeartbeats 1000000 in
set_option maxRecDepth 8000 in
theorem m_wide_From_ok (F : Nat)    (x1 : Int) (w0 : World)  (r : Bool × (List Int)) (hm : m_wide_From F x1 = some r) :
    Ret Try.prog 30 #[Iv x1] w0 (G := Value) (fun g1 => .agg #[Bv r.1, g1]) (fun g1 w => St w0 w noX [] [slE 98 1 E98 g1 r.2]) := by
 unfold m_wide_From at hm
 refine ret_of_W (lv := [Iv x1]) Try.func30 rfl rfl rfl (fun a hf => ?_)
 replace hf : Fr a 25 [] [(0, Iv x1)] := hf
 have hS : St w0 w0 noX [] [] := St.borrow lendAll_nil
 refine W.seq ?_
 refine W.regionL (l := [0]) rfl ?_
 refine O.alloc (cs := #[Bv false, .slice none 0 0]) hf hS rfl rfl T_zero_39 rfl ?_
 clear hf hS a; intro b2 w a hb2 hS hf
 refine O.nil ?_
 refine k_seq ?_
 refine W.seq ?_
 refine W.regionL (l := [0, 1, 2]) rfl ?_
 refine O.val hf rfl rfl rfl (RunV.move rfl) ?_; clear hf a; intro a hf
 refine O.val (v := Uv (IntKind.u64.wrap x1)) hf rfl rfl rfl (RunV.conv T_und_2 T_int_108 rfl) ?_; clear hf a; intro a hf
 refine O.val hf rfl rfl rfl (RunV.assign rfl) ?_; clear hf a; intro a hf
 refine O.nil ?_
 refine k_seq ?_
 replace hf : Fr a 25 [] [(0, Iv x1), (2, Pv b2 0), (3, Uv (IntKind.u64.wrap x1))] := hf.to ⟨rfl, rfl, rfl, trivial⟩
 refine W.seqR (fun a w => ∃ (x3 : Int), Fr a 25 [] [(0, Iv x1), (2, Pv b2 0), (3, Uv x3)] ∧ St w0 w noX [] [pt b2 (Cs #[Bv false, .slice none 0 0] 39)] ∧ m_wide_From_j1 F x1 x3 = some r) ?_ ?_
 ·refine W.seq ?_
  refine W.regionL (l := [0, 1]) rfl ?_
  refine O.val hf rfl rfl rfl (RunV.move rfl) ?_; clear hf a; intro a hf
  refine O.val (v := Bv (decide (x1 < (0 : Int)))) hf rfl rfl rfl (RunV.lss rfl rfl) ?_; clear hf a; intro a hf
  refine O.nil ?_
  refine k_seq ?_
  replace hf : Fr a 25 [] [(0, Iv x1), (2, Pv b2 0), (3, Uv (IntKind.u64.wrap x1)), (9, Bv (decide (x1 < (0 : Int))))] := hf.to ⟨rfl, rfl, rfl, rfl, trivial⟩
  refine W.ifdI hf rfl (fun hc9 => ?_) (fun hc9 => ?_)
  ·replace hm := hm_p hm hc9
   refine W.regionL (l := [0, 1, 2]) rfl ?_
   refine O.val hf rfl rfl rfl (RunV.move rfl) ?_; clear hf a; intro a hf
   refine O.val (v := Uv (IntKind.u64.wrap (0 - (IntKind.u64.wrap x1)))) hf rfl rfl rfl (RunV.neg rfl) ?_; clear hf a; intro a hf
   refine O.val hf rfl rfl rfl (RunV.assign rfl) ?_; clear hf a; intro a hf
   refine O.nil ?_
   exact k_then ⟨IntKind.u64.wrap (0 - (IntKind.u64.wrap x1)), hf.to ⟨rfl, rfl, rfl, trivial⟩, hS, hm⟩
  ·replace hm := hm_n hm hc9
   refine W.skip ?_
   exact k_then ⟨IntKind.u64.wrap x1, hf.to ⟨rfl, rfl, rfl, trivial⟩, hS, hm⟩
 ·clear hf hS hm a; try clear w
  rintro a w ⟨x3, hf, hS, hm⟩
  unfold m_wide_From_j1 at hm
  refine W.seq ?_
  refine W.regionL (l := [0, 1, 2, 3, 4, 5, 6, 7, 8, 9, 10, 11, 12, 13, 14]) rfl ?_
  refine O.val hf rfl rfl rfl (RunV.move rfl) ?_; clear hf a; intro a hf
  refine O.val (v := Bv (decide (x1 < (0 : Int)))) hf rfl rfl rfl (RunV.lss rfl rfl) ?_; clear hf a; intro a hf
  refine O.val hf rfl rfl rfl (RunV.move rfl) ?_; clear hf a; intro a hf
  refine O.val (v := .int .u32 (IntKind.u32.wrap x3)) hf rfl rfl rfl (RunV.conv T_und_108 T_int_98 rfl) ?_; clear hf a; intro a hf
  refine O.val hf rfl rfl rfl (RunV.move rfl) ?_; clear hf a; intro a hf
  refine O.val (v := Uv (Int.fdiv x3 (2 ^ 32))) hf rfl rfl rfl (RunV.shr (q := 32) rfl rfl (by decide)) ?_; clear hf a; intro a hf
  refine O.val (v := .int .u32 (IntKind.u32.wrap (Int.fdiv x3 (2 ^ 32)))) hf rfl rfl rfl (RunV.conv T_und_108 T_int_98 rfl) ?_; clear hf a; intro a hf
  refine O.buildSlice (cs' := #[.int .u32 (IntKind.u32.wrap x3), .int .u32 (IntKind.u32.wrap (Int.fdiv x3 (2 ^ 32)))]) (zs := #[.int .u32 0, .int .u32 0]) hf hS rfl rfl T_elem_37 T_size_98 T_zero_98 rfl rfl rfl rfl rfl ?_
  clear hf hS a; intro b4 w a hb4 hS hf
  replace hS := hS.ptE (j := 0) (enc := E98) (xs := [IntKind.u32.wrap x3, IntKind.u32.wrap (Int.fdiv x3 (2 ^ 32))]) (N := 2) (M' := [slE 98 1 E98 (.slice (some ⟨b4, 0, none⟩) 2 2) ([IntKind.u32.wrap x3, IntKind.u32.wrap (Int.fdiv x3 (2 ^ 32))]), pt b2 (Cs #[Bv false, .slice none 0 0] 39)]) rfl rfl rfl rfl rfl rfl
  obtain ⟨s5, hs5⟩ : ∃ v, v = (.slice (some ⟨b4, 0, none⟩) 2 2 : Value) := ⟨_, rfl⟩
  rw [← hs5] at hf hS
  replace hS : St w0 _ noX [] [slE 98 1 E98 s5 ([IntKind.u32.wrap x3, IntKind.u32.wrap (Int.fdiv x3 (2 ^ 32))]), pt b2 (Cs #[Bv false, .slice none 0 0] 39)] := hS
  replace hf : Fr a 25 [] [(0, Iv x1), (2, Pv b2 0), (3, Uv x3), (13, Iv x1), (14, Bv (decide (x1 < (0 : Int)))), (15, Uv x3), (16, .int .u32 (IntKind.u32.wrap x3)), (17, Uv x3), (18, Uv (Int.fdiv x3 (2 ^ 32))), (19, .int .u32 (IntKind.u32.wrap (Int.fdiv x3 (2 ^ 32)))), (20, s5)] := hf.to ⟨rfl, rfl, rfl, rfl, rfl, rfl, rfl, rfl, rfl, rfl, rfl, trivial⟩
  obtain ⟨x6, hx6, hm⟩ := hm_b hm
  refine O.callR hf rfl rfl rfl (RunE.call (av := #[Bv (decide (x1 < (0 : Int))), s5]) C_ok_60 rfl rfl rfl) (m_wide_made_3_ok F (decide (x1 < (0 : Int))) s5 ([IntKind.u32.wrap x3, IntKind.u32.wrap (Int.fdiv x3 (2 ^ 32))]) _ (hS.slS (j := 0) rfl) x6 hx6) ?_
  clear hf a; rintro s7 w hS1 a hf
  replace hf : Fr a _ _ ((21, .tuple #[.agg #[Bv x6.1, s7], Iv x6.2.2]) :: _) := hf
  replace hS := (hS.callX1 hS1 (i := 0) rfl (fun _ h => h)).eqM (N := [slE 98 1 E98 s7 x6.2.1, pt b2 (Cs #[Bv false, .slice none 0 0] 39)]) rfl
  clear hS1
  refine O.val hf rfl rfl rfl (RunV.move rfl) ?_; clear hf a; intro a hf
  refine O.val hf rfl rfl rfl (RunV.extract rfl rfl) ?_; clear hf a; intro a hf
  refine O.val hf rfl rfl rfl (RunV.extract rfl rfl) ?_; clear hf a; intro a hf
  refine O.alloc (cs := #[Bv false, .slice none 0 0]) hf hS rfl rfl T_zero_39 rfl ?_
  clear hf hS a; intro b8 w a hb8 hS hf
  refine O.store (j := 0) (cs' := #[Bv x6.1, s7]) (M' := [pt b8 (Cs #[Bv x6.1, s7] 39), slE 98 1 E98 s7 x6.2.1, pt b2 (Cs #[Bv false, .slice none 0 0] 39)]) hf hS rfl rfl rfl T_size_39 rfl (oneCells_cc rfl (oneCells_cc (rdEOK_one (hS.rdS (j := 1) rfl)) rfl)) rfl (Nat.le_of_ble_eq_true rfl) rfl rfl ?_
  clear hS; intro w hS
  refine O.val hf rfl rfl rfl (RunV.assign rfl) ?_; clear hf a; intro a hf
  refine O.nil ?_
  refine k_seq ?_
  replace hf : Fr a 25 [] [(2, Pv b2 0), (4, Pv b8 0)] := hf.to ⟨rfl, rfl, trivial⟩
  refine W.seq ?_
  refine W.regionL (l := [0, 1]) rfl ?_
  refine O.val hf rfl rfl rfl (RunV.loadN (cs' := #[Bv x6.1, s7]) T_agg_39 T_size_39 rfl (hS.ptAt (i := 0) rfl) (Nat.le_of_ble_eq_true rfl) rfl) ?_; clear hf a; intro a hf
  refine O.store (j := 2) (cs' := #[Bv x6.1, s7]) (M' := [pt b8 (Cs #[Bv x6.1, s7] 39), slE 98 1 E98 s7 x6.2.1, pt b2 (Cs #[Bv x6.1, s7] 39)]) hf hS rfl rfl rfl T_size_39 rfl (oneCells_cc rfl (oneCells_cc (rdEOK_one (hS.rdS (j := 1) rfl)) rfl)) rfl (Nat.le_of_ble_eq_true rfl) rfl rfl ?_
  clear hS; intro w hS
  refine O.nil ?_
  refine k_seq ?_
  replace hf : Fr a 25 [] [(2, Pv b2 0)] := hf.to ⟨rfl, trivial⟩
  refine W.ret ?_
  obtain rfl := Option.some.inj hm
  refine post1 hf rfl (ResOK.cellN (cs' := #[Bv x6.1, s7]) rfl T_agg_39 T_size_39 (hS.ptAt (i := 2) rfl) (Nat.le_of_ble_eq_true rfl) rfl) ?_
  replace hS := hS.sub (N := [slE 98 1 E98 s7 x6.2.1]) (.cons _ (.cons_cons _ (.cons _ .slnil)))
  exact ⟨s7, rfl, hS.noB⟩

def m_wide_check_j1 (F : Nat)  : Option Int :=
  some 0
def m_wide_check_j2 (F : Nat) (x7 : List Int) (x5 : Bool) (x14 : Bool) : Option Int :=
  if (x14 || ((decide ((x7.length : Int) = (0 : Int))) && x5)) = true then (some 8) else (m_wide_check_j1 F)
def m_wide_check_j3 (F : Nat) (x7 : List Int) (x5 : Bool) (x19 : Bool) : Option Int :=
  m_wide_check_j2 F x7 x5 x19
def m_wide_check_j4 (F : Nat) (x4 : List Int) (x2 : Bool) (x7 : List Int) (x5 : Bool) (x9 : Bool) : Option Int :=
  if (x9 || ((decide ((x4.length : Int) = (0 : Int))) && x2)) = true then (some 8) else (if (x7.length : Int) > (4096 : Int) then (m_wide_check_j2 F x7 x5 true) else (if (x7.length : Int) > (0 : Int) then ((idx x7 (IntKind.i64.wrap ((x7.length : Int) - 1))).bind fun x21 => m_wide_check_j3 F x7 x5 (decide (x21 = (0 : Int)))) else (m_wide_check_j3 F x7 x5 false)))
def m_wide_check_j5 (F : Nat) (x4 : List Int) (x2 : Bool) (x7 : List Int) (x5 : Bool) (x23 : Bool) : Option Int :=
  m_wide_check_j4 F x4 x2 x7 x5 x23
def m_wide_check (F : Nat)  (x2 : Bool) (x4 : List Int) (x5 : Bool) (x7 : List Int) : Option Int :=
  if (x4.length : Int) > (4096 : Int) then (m_wide_check_j4 F x4 x2 x7 x5 true) else (if (x4.length : Int) > (0 : Int) then ((idx x4 (IntKind.i64.wrap ((x4.length : Int) - 1))).bind fun x25 => m_wide_check_j5 F x4 x2 x7 x5 (decide (x25 = (0 : Int)))) else (m_wide_check_j5 F x4 x2 x7 x5 false))
end Go.Proofs.Ytipedambeemdaaa
