/- Part of a proof: walks printed by a program. -/
import Derived.Test.YtipedambeemdaaaWad
set_option linter.unusedVariables false
set_option linter.unusedSimpArgs false
namespace Go.Proofs.Ytipedambeemdaaa
open Go Go.SL
set_option maxHeartbeats 1000000 in
set_option maxRecDepth 8000 in
theorem m_law42_PlanMore_ok (F : Nat)    (s1 : Value) (x2 : List (Int × Int × Int × Int)) (x3 : Int) (x4 : Int) (x5 : Int) (x6 : Int) (w0 : World) (h_s1 : rdEOK (hp w0) 4 E24 s1 x2) (r : Bool) (hm : m_law42_PlanMore F x2 x3 x4 x5 x6 = some r) :
    Ret Try.prog 3 #[s1, .agg #[Iv x3, Iv x4, Iv x5, Iv x6]] w0 (G := Unit) (fun _ => Bv r) (fun _ w => St w0 w noX [] []) := by
 unfold m_law42_PlanMore at hm
 refine ret_of_W (lv := [s1, .agg #[Iv x3, Iv x4, Iv x5, Iv x6]]) Try.func3 rfl rfl rfl (fun a hf => ?_)
 replace hf : Fr a 91 [] [(0, s1), (1, .agg #[Iv x3, Iv x4, Iv x5, Iv x6])] := hf
 have hS : St w0 w0 noX [rdE 4 E24 s1 x2] [] := St.borrow (lendAll_cons (lendRd h_s1) lendAll_nil)
 refine W.seq ?_
 refine W.regionL (l := [0, 1]) rfl ?_
 refine O.box (cs := #[Iv x3, Iv x4, Iv x5, Iv x6]) hf hS rfl rfl rfl rfl ?_
 clear hf hS a; intro b7 w a hb7 hS hf
 refine O.val hf rfl rfl rfl (RunV.assign rfl) ?_; clear hf a; intro a hf
 refine O.nil ?_
 refine k_seq ?_
 replace hf : Fr a 91 [] [(0, s1), (3, Pv b7 0), (4, Bv false)] := hf.to ⟨rfl, rfl, rfl, trivial⟩
 refine W.seq ?_
 refine W.regionL (l := [0, 1]) rfl ?_
 obtain ⟨x8, hx8, hm⟩ := hm_b hm
 refine O.callR hf rfl rfl rfl (RunE.call (av := #[]) C_ok_7 rfl rfl rfl) (m_law42_alive_ok F _ x8 hx8) ?_
 clear hf a; rintro _ w hS1 a hf
 replace hf : Fr a _ _ ((15, Bv x8) :: _) := hf
 replace hS := (hS.call hS1).eqM (N := [pt b7 (Cs #[Iv x3, Iv x4, Iv x5, Iv x6] 24)]) rfl
 clear hS1
 refine O.val hf rfl rfl rfl (RunV.assign rfl) ?_; clear hf a; intro a hf
 refine O.nil ?_
 refine k_seq ?_
 replace hf : Fr a 91 [] [(0, s1), (3, Pv b7 0), (4, Bv false), (5, Bv x8)] := hf.to ⟨rfl, rfl, rfl, rfl, trivial⟩
 refine W.seq ?_
 refine W.seq ?_
 refine W.regionL (l := [0, 1, 2, 3, 4, 5, 6, 7, 8, 9, 10, 11, 12, 13, 14, 15, 16, 17]) rfl ?_
 refine O.val hf rfl rfl rfl (RunV.move rfl) ?_; clear hf a; intro a hf
 refine O.val (v := Iv (x2.length : Int)) hf rfl rfl rfl (RunV.lenE (e := 24) (by simpa using T_elem_22) rfl (hS.rdB (j := 0) rfl)) ?_; clear hf a; intro a hf
 refine O.val (v := Bv (decide ((x2.length : Int) > (4 : Int)))) hf rfl rfl rfl (RunV.gtr rfl rfl) ?_; clear hf a; intro a hf
 refine O.val hf rfl rfl rfl (RunV.move rfl) ?_; clear hf a; intro a hf
 refine O.cutN (l₁ := [4, 5, 6, 7]) (l₂ := _) (fun a w => ∃ (x9 : Bool), Fr a 91 [] [(0, s1), (3, Pv b7 0), (4, Bv false), (5, Bv x8), (23, Bv x9)] ∧ St w0 w noX [rdE 4 E24 s1 x2] [pt b7 (Cs #[Iv x3, Iv x4, Iv x5, Iv x6] 24)] ∧ m_law42_PlanMore_j2 F x8 x2 x3 x4 x5 x6 x9 = some r) rfl ?_ ?_
 ·rcases Bool.eq_false_or_eq_true (decide ((x2.length : Int) > (4 : Int))) with hb46 | hb46
  ·have hb46p := of_decide_eq_true hb46
   replace hm := hm_p hm hb46p
   refine O.skipB hf rfl rfl rfl hb46 rfl ?_; clear hf a; intro a hf
   refine O.skipB hf rfl rfl rfl hb46 rfl ?_; clear hf a; intro a hf
   refine O.skipB hf rfl rfl rfl hb46 rfl ?_; clear hf a; intro a hf
   refine O.val (v := Bv true) hf rfl rfl rfl (RunV.pick rfl rfl rfl (by rw [hb46]; rfl)) ?_; clear hf a; intro a hf
   exact O.nil ⟨rfl, true, hf.to ⟨rfl, rfl, rfl, rfl, rfl, trivial⟩, hS, hm⟩
  ·have hb46p := of_decide_eq_false hb46
   replace hm := hm_n hm hb46p
   refine O.gvalB hf rfl rfl rfl hb46 rfl rfl (RunV.move rfl) ?_; clear hf a; intro a hf
   obtain ⟨x47, hx47, hm⟩ := hm_b hm
   refine O.gcallR hf rfl rfl rfl hb46 rfl rfl (RunE.call (av := #[s1]) C_ok_8 rfl rfl rfl) (m_ref42_Check_ok F s1 x2 _ (hS.rdB (j := 0) rfl) x47 hx47) ?_
   clear hf a; rintro _ w hS1 a hf
   replace hf : Fr a _ _ ((21, Iv x47) :: _) := hf
   replace hS := (hS.call hS1).eqM (N := [pt b7 (Cs #[Iv x3, Iv x4, Iv x5, Iv x6] 24)]) rfl
   clear hS1
   refine O.gvalB (v := Bv (decide (x47 ≠ (0 : Int)))) hf rfl rfl rfl hb46 rfl rfl (RunV.neq rfl rfl) ?_; clear hf a; intro a hf
   refine O.val (v := Bv (decide (x47 ≠ (0 : Int)))) hf rfl rfl rfl (RunV.pick rfl rfl rfl (by rw [hb46]; rfl)) ?_; clear hf a; intro a hf
   exact O.nil ⟨rfl, decide (x47 ≠ (0 : Int)), hf.to ⟨rfl, rfl, rfl, rfl, rfl, trivial⟩, hS, hm⟩
 clear hf hS hm a; try clear w
 rintro a w ⟨x9, hf, hS, hm⟩
 unfold m_law42_PlanMore_j2 at hm
 refine O.val hf rfl rfl rfl (RunV.move rfl) ?_; clear hf a; intro a hf
 refine O.cutN (l₁ := [9, 10, 11, 12, 13]) (l₂ := _) (fun a w => ∃ (x10 : Bool), Fr a 91 [] [(0, s1), (3, Pv b7 0), (4, Bv false), (5, Bv x8), (29, Bv x10)] ∧ St w0 w noX [rdE 4 E24 s1 x2] [pt b7 (Cs #[Iv x3, Iv x4, Iv x5, Iv x6] 24)] ∧ m_law42_PlanMore_j1 F x8 x2 x3 x4 x5 x6 x10 = some r) rfl ?_ ?_
 ·rcases Bool.eq_false_or_eq_true (x9) with hb43 | hb43
  ·replace hm := hm_t hm hb43
   refine O.skipB hf rfl rfl rfl hb43 rfl ?_; clear hf a; intro a hf
   refine O.skipB hf rfl rfl rfl hb43 rfl ?_; clear hf a; intro a hf
   refine O.skipB hf rfl rfl rfl hb43 rfl ?_; clear hf a; intro a hf
   refine O.skipB hf rfl rfl rfl hb43 rfl ?_; clear hf a; intro a hf
   refine O.val (v := Bv true) hf rfl rfl rfl (RunV.pick rfl rfl rfl (by rw [hb43]; rfl)) ?_; clear hf a; intro a hf
   exact O.nil ⟨rfl, true, hf.to ⟨rfl, rfl, rfl, rfl, rfl, trivial⟩, hS, hm⟩
  ·replace hm := hm_f hm hb43
   refine O.gvalB hf rfl rfl rfl hb43 rfl rfl (RunV.loadN (cs' := #[Iv x3, Iv x4, Iv x5, Iv x6]) T_agg_24 T_size_24 rfl (hS.ptAt (i := 0) rfl) (Nat.le_of_ble_eq_true rfl) rfl) ?_; clear hf a; intro a hf
   refine O.unguard hf rfl rfl rfl hb43 ?_
   refine O.buildSlice (cs' := #[Iv x3, Iv x4, Iv x5, Iv x6]) (zs := #[Iv 0, Iv 0, Iv 0, Iv 0]) hf hS rfl rfl T_elem_22 T_size_24 T_zero_24 rfl rfl rfl rfl rfl ?_
   clear hf hS a; intro b44 w a hb44 hS hf
   refine O.nil ⟨rfl, ?_⟩
   obtain ⟨x45, hx45, hm⟩ := hm_b hm
   refine O.gcallR hf rfl rfl rfl hb43 rfl rfl (RunE.call (av := #[.slice (some ⟨b44, 0, none⟩) 1 1]) C_ok_8 rfl rfl rfl) (m_ref42_Check_2_ok F b44 x3 x4 x5 x6 _ (hS.ptAt (i := 0) rfl) x45 hx45) ?_
   clear hf a; rintro _ w hS1 a hf
   replace hf : Fr a _ _ ((27, Iv x45) :: _) := hf
   replace hS := (hS.call hS1).eqM (N := [pt b44 (Cs #[Iv x3, Iv x4, Iv x5, Iv x6] 24), pt b7 (Cs #[Iv x3, Iv x4, Iv x5, Iv x6] 24)]) rfl
   clear hS1
   refine O.gvalB (v := Bv (decide (x45 ≠ (0 : Int)))) hf rfl rfl rfl hb43 rfl rfl (RunV.neq rfl rfl) ?_; clear hf a; intro a hf
   refine O.val (v := Bv (decide (x45 ≠ (0 : Int)))) hf rfl rfl rfl (RunV.pick rfl rfl rfl (by rw [hb43]; rfl)) ?_; clear hf a; intro a hf
   replace hS := hS.sub (N := [pt b7 (Cs #[Iv x3, Iv x4, Iv x5, Iv x6] 24)]) (.cons _ (.cons_cons _ .slnil))
   exact O.nil ⟨rfl, decide (x45 ≠ (0 : Int)), hf.to ⟨rfl, rfl, rfl, rfl, rfl, trivial⟩, hS, hm⟩
 clear hf hS hm a; try clear w
 rintro a w ⟨x10, hf, hS, hm⟩
 unfold m_law42_PlanMore_j1 at hm
 refine O.val hf rfl rfl rfl (RunV.move rfl) ?_; clear hf a; intro a hf
 refine O.cutN (l₁ := [15, 16, 17]) (l₂ := _) (fun a w => Fr a 91 [] [(0, s1), (3, Pv b7 0), (4, Bv false), (5, Bv x8), (33, Bv (x10 || (!x8)))] ∧ St w0 w noX [rdE 4 E24 s1 x2] [pt b7 (Cs #[Iv x3, Iv x4, Iv x5, Iv x6] 24)]) rfl ?_ ?_
 ·rcases Bool.eq_false_or_eq_true (x10) with hb11 | hb11
  ·refine O.skipB hf rfl rfl rfl hb11 rfl ?_; clear hf a; intro a hf
   refine O.skipB hf rfl rfl rfl hb11 rfl ?_; clear hf a; intro a hf
   refine O.val (v := Bv (x10 || (!x8))) hf rfl rfl rfl (RunV.pick rfl rfl rfl (by rw [hb11]; rfl)) ?_; clear hf a; intro a hf
   exact O.nil ⟨rfl, hf.to ⟨rfl, rfl, rfl, rfl, rfl, trivial⟩, hS⟩
  ·refine O.gvalB hf rfl rfl rfl hb11 rfl rfl (RunV.move rfl) ?_; clear hf a; intro a hf
   refine O.gvalB (v := Bv (!x8)) hf rfl rfl rfl hb11 rfl rfl (RunV.not rfl) ?_; clear hf a; intro a hf
   refine O.val (v := Bv (x10 || (!x8))) hf rfl rfl rfl (RunV.pick rfl rfl rfl (by rw [hb11]; rfl)) ?_; clear hf a; intro a hf
   exact O.nil ⟨rfl, hf.to ⟨rfl, rfl, rfl, rfl, rfl, trivial⟩, hS⟩
 clear hf hS a; try clear w
 rintro a w ⟨hf, hS⟩
 refine O.nil ?_
 refine k_seq ?_
 refine W.if_ hf rfl (fun hc12 => ?_) (fun hc12 => ?_)
 ·replace hm := hm_t hm hc12
  refine W.seq ?_
  refine W.regionL (l := [0, 1]) rfl ?_
  refine O.val hf rfl rfl rfl (RunV.move rfl) ?_; clear hf a; intro a hf
  refine O.val hf rfl rfl rfl (RunV.assign rfl) ?_; clear hf a; intro a hf
  refine O.nil ?_
  refine k_seq ?_
  replace hf : Fr a 91 [] [(0, s1), (3, Pv b7 0), (4, Bv x8), (5, Bv x8)] := hf.to ⟨rfl, rfl, rfl, rfl, trivial⟩
  refine W.ret ?_
  refine k_then_ret ?_
  obtain rfl := Option.some.inj hm
  refine post1 hf rfl (ResOK.tmp rfl) ?_
  replace hS := hS.sub (N := []) (.cons _ .slnil)
  exact ⟨(), rfl, hS.noB⟩
 ·replace hm := hm_f hm hc12
  refine W.skip ?_
  refine k_seq ?_
  replace hf : Fr a 91 [] [(0, s1), (3, Pv b7 0), (4, Bv false), (5, Bv x8)] := hf.to ⟨rfl, rfl, rfl, rfl, trivial⟩
  refine W.seq ?_
  refine W.regionL (l := [0, 1, 2, 3, 4, 5, 6, 7, 8]) rfl ?_
  refine O.val hf rfl rfl rfl (RunV.move rfl) ?_; clear hf a; intro a hf
  obtain ⟨x13, hx13, hm⟩ := hm_b hm
  refine O.callR hf rfl rfl rfl (RunE.call (av := #[s1]) C_ok_9 rfl rfl rfl) (m_plan_Best_ok F s1 x2 _ (hS.rdB (j := 0) rfl) x13 hx13) ?_
  clear hf a; rintro s14 w hS1 a hf
  replace hf : Fr a _ _ ((37, .tuple #[s14, Iv x13.2.1, Iv x13.2.2]) :: _) := hf
  replace hS := (hS.call hS1).eqM (N := [slE 33 2 E33 s14 x13.1, pt b7 (Cs #[Iv x3, Iv x4, Iv x5, Iv x6] 24)]) rfl
  clear hS1
  refine O.val hf rfl rfl rfl (RunV.move rfl) ?_; clear hf a; intro a hf
  refine O.val hf rfl rfl rfl (RunV.extract rfl rfl) ?_; clear hf a; intro a hf
  refine O.val hf rfl rfl rfl (RunV.extract rfl rfl) ?_; clear hf a; intro a hf
  refine O.val hf rfl rfl rfl (RunV.extract rfl rfl) ?_; clear hf a; intro a hf
  refine O.val hf rfl rfl rfl (RunV.assign rfl) ?_; clear hf a; intro a hf
  refine O.val hf rfl rfl rfl (RunV.assign rfl) ?_; clear hf a; intro a hf
  refine O.val hf rfl rfl rfl (RunV.assign rfl) ?_; clear hf a; intro a hf
  refine O.nil ?_
  refine k_seq ?_
  replace hf : Fr a 91 [] [(0, s1), (3, Pv b7 0), (4, Bv false), (5, Bv x8), (7, Iv x13.2.1), (8, Iv x13.2.2)] := hf.to ⟨rfl, rfl, rfl, rfl, rfl, rfl, trivial⟩
  refine W.seq ?_
  -- [0, 2, 4, 5, 6] turn memory
  have hf1 : Fr a 91 [] [] := hf.to trivial
  replace hf : Fr a 91 [] [(0, s1), (3, Pv b7 0), (4, Bv false), (5, Bv x8), (7, Iv x13.2.1), (8, Iv x13.2.2)] := hf.to ⟨rfl, rfl, rfl, rfl, rfl, rfl, trivial⟩
  obtain ⟨hg17, hm⟩ := hm_g hm
  obtain ⟨hg18, hm⟩ := hm_g hm
  obtain ⟨hg21, hm⟩ := hm_g hm
  obtain ⟨x23, hx23, hm⟩ := hm_b hm
  refine W.drawP (γ := Value × Value × Nat × Value × Value) (L0 := [(0, s1), (3, Pv b7 0), (4, Bv false), (5, Bv x8), (7, Iv x13.2.1), (8, Iv x13.2.2)]) (L1 := []) (undef, undef, 0, undef, undef) [0, 2, 4, 5, 6] [1, 3, 7, 8, 9, 10, 11, 12, 13] (fun i => match i with | 0 => [] | 1 => [] | 2 => [0, 1] | 3 => [] | 4 => [3] | 5 => [2, 4] | 6 => [5] | 7 => [6] | 8 => [7] | 9 => [7] | 10 => [7] | 11 => [0, 1, 2, 3, 4, 5, 6, 7, 8] | 12 => [0, 1, 2, 3, 4, 5, 6, 7, 8, 9, 11] | 13 => [0, 1, 2, 3, 4, 5, 6, 7, 8, 9, 10, 11, 12] | _ => []) (fun i => match i with | 2 => [0] | 5 => [0, 2, 4] | 6 => [0, 2, 4, 5] | 7 => [0, 2, 4, 5, 6] | 8 => [0, 2, 4, 5, 6] | 9 => [0, 2, 4, 5, 6] | 10 => [0, 2, 4, 5, 6] | 11 => [0, 2, 4, 5, 6] | 12 => [0, 2, 4, 5, 6] | 13 => [0, 2, 4, 5, 6] | _ => []) (fun i => match i with | 0 => [2, 5, 6] | 1 => [2, 5, 6] | 2 => [5, 6] | 3 => [4, 5, 6] | 4 => [5, 6] | 5 => [6] | _ => []) (fun i => match i with | 0 => [2, 5, 6, 7, 8, 9, 10, 11, 12, 13] | 2 => [5, 6, 7, 8, 9, 10, 11, 12, 13] | 4 => [5, 6, 7, 8, 9, 10, 11, 12, 13] | 5 => [6, 7, 8, 9, 10, 11, 12, 13] | 6 => [7, 8, 9, 10, 11, 12, 13] | _ => []) (fun _ => []) (fun (g : Value × Value × Nat × Value × Value) j => match g, j with | (s16, s19, b20, s22, s24), 0 => s16 | (s16, s19, b20, s22, s24), 1 => s1 | (s16, s19, b20, s22, s24), 2 => s19 | (s16, s19, b20, s22, s24), 3 => .agg #[Iv x3, Iv x4, Iv x5, Iv x6] | (s16, s19, b20, s22, s24), 4 => .slice (some ⟨b20, 0, none⟩) 1 1 | (s16, s19, b20, s22, s24), 5 => s22 | (s16, s19, b20, s22, s24), 6 => .tuple #[s24, Iv x23.2.1, Iv x23.2.2] | (s16, s19, b20, s22, s24), 7 => .tuple #[s24, Iv x23.2.1, Iv x23.2.2] | (s16, s19, b20, s22, s24), 8 => s24 | (s16, s19, b20, s22, s24), 9 => Iv x23.2.1 | (s16, s19, b20, s22, s24), 10 => Iv x23.2.2 | (s16, s19, b20, s22, s24), 11 => s24 | (s16, s19, b20, s22, s24), 12 => Iv x23.2.1 | (s16, s19, b20, s22, s24), 13 => Iv x23.2.2 | _, _ => undef) (fun s (g : Value × Value × Nat × Value × Value) w => match g with | (s16, s19, b20, s22, s24) => (s 0 = false ∧ s 2 = false ∧ s 4 = false ∧ s 5 = false ∧ s 6 = false ∧ St w0 w noX [rdE 4 E24 s1 x2] [slE 33 2 E33 s14 x13.1, pt b7 (Cs #[Iv x3, Iv x4, Iv x5, Iv x6] 24)]) ∨ (s 0 = true ∧ s 2 = false ∧ s 4 = false ∧ s 5 = false ∧ s 6 = false ∧ St w0 w noX [rdE 4 E24 s1 x2] [slE 24 4 E24 s16 ([] : List (Int × Int × Int × Int)), slE 33 2 E33 s14 x13.1, pt b7 (Cs #[Iv x3, Iv x4, Iv x5, Iv x6] 24)]) ∨ (s 0 = false ∧ s 2 = false ∧ s 4 = true ∧ s 5 = false ∧ s 6 = false ∧ St w0 w noX [rdE 4 E24 s1 x2] [pt b20 (Cs #[Iv x3, Iv x4, Iv x5, Iv x6] 24), slE 33 2 E33 s14 x13.1, pt b7 (Cs #[Iv x3, Iv x4, Iv x5, Iv x6] 24)]) ∨ (s 0 = true ∧ s 2 = true ∧ s 4 = false ∧ s 5 = false ∧ s 6 = false ∧ St w0 w noX [rdE 4 E24 s1 x2] [slE 24 4 E24 s19 (([] : List (Int × Int × Int × Int)) ++ x2), slE 33 2 E33 s14 x13.1, pt b7 (Cs #[Iv x3, Iv x4, Iv x5, Iv x6] 24)]) ∨ (s 0 = true ∧ s 2 = false ∧ s 4 = true ∧ s 5 = false ∧ s 6 = false ∧ St w0 w noX [rdE 4 E24 s1 x2] [pt b20 (Cs #[Iv x3, Iv x4, Iv x5, Iv x6] 24), slE 24 4 E24 s16 ([] : List (Int × Int × Int × Int)), slE 33 2 E33 s14 x13.1, pt b7 (Cs #[Iv x3, Iv x4, Iv x5, Iv x6] 24)]) ∨ (s 0 = true ∧ s 2 = true ∧ s 4 = true ∧ s 5 = false ∧ s 6 = false ∧ St w0 w noX [rdE 4 E24 s1 x2] [pt b20 (Cs #[Iv x3, Iv x4, Iv x5, Iv x6] 24), slE 24 4 E24 s19 (([] : List (Int × Int × Int × Int)) ++ x2), slE 33 2 E33 s14 x13.1, pt b7 (Cs #[Iv x3, Iv x4, Iv x5, Iv x6] 24)]) ∨ (s 0 = true ∧ s 2 = true ∧ s 4 = true ∧ s 5 = true ∧ s 6 = false ∧ St w0 w noX [rdE 4 E24 s1 x2] [pt b20 (Cs #[Iv x3, Iv x4, Iv x5, Iv x6] 24), slE 24 4 E24 s22 ((([] : List (Int × Int × Int × Int)) ++ x2) ++ [(x3, x4, x5, x6)]), slE 33 2 E33 s14 x13.1, pt b7 (Cs #[Iv x3, Iv x4, Iv x5, Iv x6] 24)]) ∨ (s 0 = true ∧ s 2 = true ∧ s 4 = true ∧ s 5 = true ∧ s 6 = true ∧ St w0 w noX [rdE 4 E24 s1 x2] [slE 33 2 E33 s24 x23.1, pt b20 (Cs #[Iv x3, Iv x4, Iv x5, Iv x6] 24), slE 24 4 E24 s22 ((([] : List (Int × Int × Int × Int)) ++ x2) ++ [(x3, x4, x5, x6)]), slE 33 2 E33 s14 x13.1, pt b7 (Cs #[Iv x3, Iv x4, Iv x5, Iv x6] 24)])) P_mixed (by kernel_rfl) hf hf1 (Or.inl ⟨rfl, rfl, rfl, rfl, rfl, hS.drew⟩) ?_ ?_ ?_
  ·clear hf hf1 hS
   refine ⟨?_, ?_, ?_, ?_, ?_, ?_, ?_, ?_, ?_, trivial⟩
   ·intro s g w hsp hsb hD a hf
    obtain ⟨s16, s19, b20, s22, s24⟩ := g
    rcases hD with (⟨h0_, h2_, h4_, h5_, h6_, hD⟩ | ⟨h0_, h2_, h4_, h5_, h6_, hD⟩ | ⟨h0_, h2_, h4_, h5_, h6_, hD⟩ | ⟨h0_, h2_, h4_, h5_, h6_, hD⟩ | ⟨h0_, h2_, h4_, h5_, h6_, hD⟩ | ⟨h0_, h2_, h4_, h5_, h6_, hD⟩ | ⟨h0_, h2_, h4_, h5_, h6_, hD⟩ | ⟨h0_, h2_, h4_, h5_, h6_, hD⟩)
    ·have hS : St w0 w noX [rdE 4 E24 s1 x2] [slE 33 2 E33 s14 x13.1, pt b7 (Cs #[Iv x3, Iv x4, Iv x5, Iv x6] 24)] := hD; clear hD
     replace hf : Fr a 91 [] [(0, s1), (3, Pv b7 0), (4, Bv false), (5, Bv x8), (7, Iv x13.2.1), (8, Iv x13.2.2)] := hf
     refine O.val hf rfl rfl rfl (RunV.move rfl) ?_; clear hf a; intro a hf
     exact O.nil ⟨rfl, hf.to trivial, (fun d hd => by cases (show some 43 = some d from hd); exact hf.get _ _ rfl), (Or.inl ⟨h0_, h2_, h4_, h5_, h6_, hS⟩)⟩
    ·have hS : St w0 w noX [rdE 4 E24 s1 x2] [slE 24 4 E24 s16 ([] : List (Int × Int × Int × Int)), slE 33 2 E33 s14 x13.1, pt b7 (Cs #[Iv x3, Iv x4, Iv x5, Iv x6] 24)] := hD; clear hD
     replace hf : Fr a 91 [] [(0, s1), (3, Pv b7 0), (4, Bv false), (5, Bv x8), (7, Iv x13.2.1), (8, Iv x13.2.2)] := hf
     refine O.val hf rfl rfl rfl (RunV.move rfl) ?_; clear hf a; intro a hf
     exact O.nil ⟨rfl, hf.to trivial, (fun d hd => by cases (show some 43 = some d from hd); exact hf.get _ _ rfl), (Or.inr (Or.inl ⟨h0_, h2_, h4_, h5_, h6_, hS⟩))⟩
    ·have hS : St w0 w noX [rdE 4 E24 s1 x2] [pt b20 (Cs #[Iv x3, Iv x4, Iv x5, Iv x6] 24), slE 33 2 E33 s14 x13.1, pt b7 (Cs #[Iv x3, Iv x4, Iv x5, Iv x6] 24)] := hD; clear hD
     replace hf : Fr a 91 [] [(0, s1), (3, Pv b7 0), (4, Bv false), (5, Bv x8), (7, Iv x13.2.1), (8, Iv x13.2.2)] := hf
     refine O.val hf rfl rfl rfl (RunV.move rfl) ?_; clear hf a; intro a hf
     exact O.nil ⟨rfl, hf.to trivial, (fun d hd => by cases (show some 43 = some d from hd); exact hf.get _ _ rfl), (Or.inr (Or.inr (Or.inl ⟨h0_, h2_, h4_, h5_, h6_, hS⟩)))⟩
    ·exact absurd ((hsb 2 (by simp)).symm.trans h2_) (by decide)
    ·have hS : St w0 w noX [rdE 4 E24 s1 x2] [pt b20 (Cs #[Iv x3, Iv x4, Iv x5, Iv x6] 24), slE 24 4 E24 s16 ([] : List (Int × Int × Int × Int)), slE 33 2 E33 s14 x13.1, pt b7 (Cs #[Iv x3, Iv x4, Iv x5, Iv x6] 24)] := hD; clear hD
     replace hf : Fr a 91 [] [(0, s1), (3, Pv b7 0), (4, Bv false), (5, Bv x8), (7, Iv x13.2.1), (8, Iv x13.2.2)] := hf
     refine O.val hf rfl rfl rfl (RunV.move rfl) ?_; clear hf a; intro a hf
     exact O.nil ⟨rfl, hf.to trivial, (fun d hd => by cases (show some 43 = some d from hd); exact hf.get _ _ rfl), (Or.inr (Or.inr (Or.inr (Or.inr (Or.inl ⟨h0_, h2_, h4_, h5_, h6_, hS⟩)))))⟩
    ·exact absurd ((hsb 2 (by simp)).symm.trans h2_) (by decide)
    ·exact absurd ((hsb 2 (by simp)).symm.trans h2_) (by decide)
    ·exact absurd ((hsb 2 (by simp)).symm.trans h2_) (by decide)
   ·intro s g w hsp hsb hD a hf
    obtain ⟨s16, s19, b20, s22, s24⟩ := g
    rcases hD with (⟨h0_, h2_, h4_, h5_, h6_, hD⟩ | ⟨h0_, h2_, h4_, h5_, h6_, hD⟩ | ⟨h0_, h2_, h4_, h5_, h6_, hD⟩ | ⟨h0_, h2_, h4_, h5_, h6_, hD⟩ | ⟨h0_, h2_, h4_, h5_, h6_, hD⟩ | ⟨h0_, h2_, h4_, h5_, h6_, hD⟩ | ⟨h0_, h2_, h4_, h5_, h6_, hD⟩ | ⟨h0_, h2_, h4_, h5_, h6_, hD⟩)
    ·have hS : St w0 w noX [rdE 4 E24 s1 x2] [slE 33 2 E33 s14 x13.1, pt b7 (Cs #[Iv x3, Iv x4, Iv x5, Iv x6] 24)] := hD; clear hD
     replace hf : Fr a 91 [] [(0, s1), (3, Pv b7 0), (4, Bv false), (5, Bv x8), (7, Iv x13.2.1), (8, Iv x13.2.2)] := hf
     refine O.val hf rfl rfl rfl (RunV.loadN (cs' := #[Iv x3, Iv x4, Iv x5, Iv x6]) T_agg_24 T_size_24 rfl (hS.ptAt (i := 1) rfl) (Nat.le_of_ble_eq_true rfl) rfl) ?_; clear hf a; intro a hf
     exact O.nil ⟨rfl, hf.to trivial, (fun d hd => by cases (show some 45 = some d from hd); exact hf.get _ _ rfl), (Or.inl ⟨h0_, h2_, h4_, h5_, h6_, hS⟩)⟩
    ·have hS : St w0 w noX [rdE 4 E24 s1 x2] [slE 24 4 E24 s16 ([] : List (Int × Int × Int × Int)), slE 33 2 E33 s14 x13.1, pt b7 (Cs #[Iv x3, Iv x4, Iv x5, Iv x6] 24)] := hD; clear hD
     replace hf : Fr a 91 [] [(0, s1), (3, Pv b7 0), (4, Bv false), (5, Bv x8), (7, Iv x13.2.1), (8, Iv x13.2.2)] := hf
     refine O.val hf rfl rfl rfl (RunV.loadN (cs' := #[Iv x3, Iv x4, Iv x5, Iv x6]) T_agg_24 T_size_24 rfl (hS.ptAt (i := 2) rfl) (Nat.le_of_ble_eq_true rfl) rfl) ?_; clear hf a; intro a hf
     exact O.nil ⟨rfl, hf.to trivial, (fun d hd => by cases (show some 45 = some d from hd); exact hf.get _ _ rfl), (Or.inr (Or.inl ⟨h0_, h2_, h4_, h5_, h6_, hS⟩))⟩
    ·exact absurd ((hsb 4 (by simp)).symm.trans h4_) (by decide)
    ·have hS : St w0 w noX [rdE 4 E24 s1 x2] [slE 24 4 E24 s19 (([] : List (Int × Int × Int × Int)) ++ x2), slE 33 2 E33 s14 x13.1, pt b7 (Cs #[Iv x3, Iv x4, Iv x5, Iv x6] 24)] := hD; clear hD
     replace hf : Fr a 91 [] [(0, s1), (3, Pv b7 0), (4, Bv false), (5, Bv x8), (7, Iv x13.2.1), (8, Iv x13.2.2)] := hf
     refine O.val hf rfl rfl rfl (RunV.loadN (cs' := #[Iv x3, Iv x4, Iv x5, Iv x6]) T_agg_24 T_size_24 rfl (hS.ptAt (i := 2) rfl) (Nat.le_of_ble_eq_true rfl) rfl) ?_; clear hf a; intro a hf
     exact O.nil ⟨rfl, hf.to trivial, (fun d hd => by cases (show some 45 = some d from hd); exact hf.get _ _ rfl), (Or.inr (Or.inr (Or.inr (Or.inl ⟨h0_, h2_, h4_, h5_, h6_, hS⟩))))⟩
    ·exact absurd ((hsb 4 (by simp)).symm.trans h4_) (by decide)
    ·exact absurd ((hsb 4 (by simp)).symm.trans h4_) (by decide)
    ·exact absurd ((hsb 4 (by simp)).symm.trans h4_) (by decide)
    ·exact absurd ((hsb 4 (by simp)).symm.trans h4_) (by decide)
   ·intro s g w hsp hsb hD a hf
    obtain ⟨s16, s19, b20, s22, s24⟩ := g
    rcases hD with (⟨h0_, h2_, h4_, h5_, h6_, hD⟩ | ⟨h0_, h2_, h4_, h5_, h6_, hD⟩ | ⟨h0_, h2_, h4_, h5_, h6_, hD⟩ | ⟨h0_, h2_, h4_, h5_, h6_, hD⟩ | ⟨h0_, h2_, h4_, h5_, h6_, hD⟩ | ⟨h0_, h2_, h4_, h5_, h6_, hD⟩ | ⟨h0_, h2_, h4_, h5_, h6_, hD⟩ | ⟨h0_, h2_, h4_, h5_, h6_, hD⟩)
    ·exact absurd ((hsp 0 (by simp)).symm.trans h0_) (by decide)
    ·exact absurd ((hsp 2 (by simp)).symm.trans h2_) (by decide)
    ·exact absurd ((hsp 0 (by simp)).symm.trans h0_) (by decide)
    ·exact absurd ((hsp 4 (by simp)).symm.trans h4_) (by decide)
    ·exact absurd ((hsp 2 (by simp)).symm.trans h2_) (by decide)
    ·exact absurd ((hsp 5 (by simp)).symm.trans h5_) (by decide)
    ·exact absurd ((hsp 6 (by simp)).symm.trans h6_) (by decide)
    ·have hS : St w0 w noX [rdE 4 E24 s1 x2] [slE 33 2 E33 s24 x23.1, pt b20 (Cs #[Iv x3, Iv x4, Iv x5, Iv x6] 24), slE 24 4 E24 s22 ((([] : List (Int × Int × Int × Int)) ++ x2) ++ [(x3, x4, x5, x6)]), slE 33 2 E33 s14 x13.1, pt b7 (Cs #[Iv x3, Iv x4, Iv x5, Iv x6] 24)] := hD; clear hD
     replace hf : Fr a 91 [] [(48, .tuple #[s24, Iv x23.2.1, Iv x23.2.2]), (0, s1), (3, Pv b7 0), (4, Bv false), (5, Bv x8), (7, Iv x13.2.1), (8, Iv x13.2.2)] := hf
     refine O.val hf rfl rfl rfl (RunV.move rfl) ?_; clear hf a; intro a hf
     exact O.nil ⟨rfl, hf.to trivial, (fun d hd => by cases (show some 41 = some d from hd); exact hf.get _ _ rfl), (Or.inr (Or.inr (Or.inr (Or.inr (Or.inr (Or.inr (Or.inr ⟨h0_, h2_, h4_, h5_, h6_, hS⟩)))))))⟩
   ·intro s g w hsp hsb hD a hf
    obtain ⟨s16, s19, b20, s22, s24⟩ := g
    rcases hD with (⟨h0_, h2_, h4_, h5_, h6_, hD⟩ | ⟨h0_, h2_, h4_, h5_, h6_, hD⟩ | ⟨h0_, h2_, h4_, h5_, h6_, hD⟩ | ⟨h0_, h2_, h4_, h5_, h6_, hD⟩ | ⟨h0_, h2_, h4_, h5_, h6_, hD⟩ | ⟨h0_, h2_, h4_, h5_, h6_, hD⟩ | ⟨h0_, h2_, h4_, h5_, h6_, hD⟩ | ⟨h0_, h2_, h4_, h5_, h6_, hD⟩)
    ·exact absurd ((hsp 0 (by simp)).symm.trans h0_) (by decide)
    ·exact absurd ((hsp 2 (by simp)).symm.trans h2_) (by decide)
    ·exact absurd ((hsp 0 (by simp)).symm.trans h0_) (by decide)
    ·exact absurd ((hsp 4 (by simp)).symm.trans h4_) (by decide)
    ·exact absurd ((hsp 2 (by simp)).symm.trans h2_) (by decide)
    ·exact absurd ((hsp 5 (by simp)).symm.trans h5_) (by decide)
    ·exact absurd ((hsp 6 (by simp)).symm.trans h6_) (by decide)
    ·have hS : St w0 w noX [rdE 4 E24 s1 x2] [slE 33 2 E33 s24 x23.1, pt b20 (Cs #[Iv x3, Iv x4, Iv x5, Iv x6] 24), slE 24 4 E24 s22 ((([] : List (Int × Int × Int × Int)) ++ x2) ++ [(x3, x4, x5, x6)]), slE 33 2 E33 s14 x13.1, pt b7 (Cs #[Iv x3, Iv x4, Iv x5, Iv x6] 24)] := hD; clear hD
     replace hf : Fr a 91 [] [(41, .tuple #[s24, Iv x23.2.1, Iv x23.2.2]), (0, s1), (3, Pv b7 0), (4, Bv false), (5, Bv x8), (7, Iv x13.2.1), (8, Iv x13.2.2)] := hf
     refine O.val hf rfl rfl rfl (RunV.extract rfl rfl) ?_; clear hf a; intro a hf
     exact O.nil ⟨rfl, hf.to trivial, (fun d hd => by cases (show some 49 = some d from hd); exact hf.get _ _ rfl), (Or.inr (Or.inr (Or.inr (Or.inr (Or.inr (Or.inr (Or.inr ⟨h0_, h2_, h4_, h5_, h6_, hS⟩)))))))⟩
   ·intro s g w hsp hsb hD a hf
    obtain ⟨s16, s19, b20, s22, s24⟩ := g
    rcases hD with (⟨h0_, h2_, h4_, h5_, h6_, hD⟩ | ⟨h0_, h2_, h4_, h5_, h6_, hD⟩ | ⟨h0_, h2_, h4_, h5_, h6_, hD⟩ | ⟨h0_, h2_, h4_, h5_, h6_, hD⟩ | ⟨h0_, h2_, h4_, h5_, h6_, hD⟩ | ⟨h0_, h2_, h4_, h5_, h6_, hD⟩ | ⟨h0_, h2_, h4_, h5_, h6_, hD⟩ | ⟨h0_, h2_, h4_, h5_, h6_, hD⟩)
    ·exact absurd ((hsp 0 (by simp)).symm.trans h0_) (by decide)
    ·exact absurd ((hsp 2 (by simp)).symm.trans h2_) (by decide)
    ·exact absurd ((hsp 0 (by simp)).symm.trans h0_) (by decide)
    ·exact absurd ((hsp 4 (by simp)).symm.trans h4_) (by decide)
    ·exact absurd ((hsp 2 (by simp)).symm.trans h2_) (by decide)
    ·exact absurd ((hsp 5 (by simp)).symm.trans h5_) (by decide)
    ·exact absurd ((hsp 6 (by simp)).symm.trans h6_) (by decide)
    ·have hS : St w0 w noX [rdE 4 E24 s1 x2] [slE 33 2 E33 s24 x23.1, pt b20 (Cs #[Iv x3, Iv x4, Iv x5, Iv x6] 24), slE 24 4 E24 s22 ((([] : List (Int × Int × Int × Int)) ++ x2) ++ [(x3, x4, x5, x6)]), slE 33 2 E33 s14 x13.1, pt b7 (Cs #[Iv x3, Iv x4, Iv x5, Iv x6] 24)] := hD; clear hD
     replace hf : Fr a 91 [] [(41, .tuple #[s24, Iv x23.2.1, Iv x23.2.2]), (0, s1), (3, Pv b7 0), (4, Bv false), (5, Bv x8), (7, Iv x13.2.1), (8, Iv x13.2.2)] := hf
     refine O.val hf rfl rfl rfl (RunV.extract rfl rfl) ?_; clear hf a; intro a hf
     exact O.nil ⟨rfl, hf.to trivial, (fun d hd => by cases (show some 50 = some d from hd); exact hf.get _ _ rfl), (Or.inr (Or.inr (Or.inr (Or.inr (Or.inr (Or.inr (Or.inr ⟨h0_, h2_, h4_, h5_, h6_, hS⟩)))))))⟩
   ·intro s g w hsp hsb hD a hf
    obtain ⟨s16, s19, b20, s22, s24⟩ := g
    rcases hD with (⟨h0_, h2_, h4_, h5_, h6_, hD⟩ | ⟨h0_, h2_, h4_, h5_, h6_, hD⟩ | ⟨h0_, h2_, h4_, h5_, h6_, hD⟩ | ⟨h0_, h2_, h4_, h5_, h6_, hD⟩ | ⟨h0_, h2_, h4_, h5_, h6_, hD⟩ | ⟨h0_, h2_, h4_, h5_, h6_, hD⟩ | ⟨h0_, h2_, h4_, h5_, h6_, hD⟩ | ⟨h0_, h2_, h4_, h5_, h6_, hD⟩)
    ·exact absurd ((hsp 0 (by simp)).symm.trans h0_) (by decide)
    ·exact absurd ((hsp 2 (by simp)).symm.trans h2_) (by decide)
    ·exact absurd ((hsp 0 (by simp)).symm.trans h0_) (by decide)
    ·exact absurd ((hsp 4 (by simp)).symm.trans h4_) (by decide)
    ·exact absurd ((hsp 2 (by simp)).symm.trans h2_) (by decide)
    ·exact absurd ((hsp 5 (by simp)).symm.trans h5_) (by decide)
    ·exact absurd ((hsp 6 (by simp)).symm.trans h6_) (by decide)
    ·have hS : St w0 w noX [rdE 4 E24 s1 x2] [slE 33 2 E33 s24 x23.1, pt b20 (Cs #[Iv x3, Iv x4, Iv x5, Iv x6] 24), slE 24 4 E24 s22 ((([] : List (Int × Int × Int × Int)) ++ x2) ++ [(x3, x4, x5, x6)]), slE 33 2 E33 s14 x13.1, pt b7 (Cs #[Iv x3, Iv x4, Iv x5, Iv x6] 24)] := hD; clear hD
     replace hf : Fr a 91 [] [(41, .tuple #[s24, Iv x23.2.1, Iv x23.2.2]), (0, s1), (3, Pv b7 0), (4, Bv false), (5, Bv x8), (7, Iv x13.2.1), (8, Iv x13.2.2)] := hf
     refine O.val hf rfl rfl rfl (RunV.extract rfl rfl) ?_; clear hf a; intro a hf
     exact O.nil ⟨rfl, hf.to trivial, (fun d hd => by cases (show some 51 = some d from hd); exact hf.get _ _ rfl), (Or.inr (Or.inr (Or.inr (Or.inr (Or.inr (Or.inr (Or.inr ⟨h0_, h2_, h4_, h5_, h6_, hS⟩)))))))⟩
   ·intro s g w hsp hsb hD a hf
    obtain ⟨s16, s19, b20, s22, s24⟩ := g
    rcases hD with (⟨h0_, h2_, h4_, h5_, h6_, hD⟩ | ⟨h0_, h2_, h4_, h5_, h6_, hD⟩ | ⟨h0_, h2_, h4_, h5_, h6_, hD⟩ | ⟨h0_, h2_, h4_, h5_, h6_, hD⟩ | ⟨h0_, h2_, h4_, h5_, h6_, hD⟩ | ⟨h0_, h2_, h4_, h5_, h6_, hD⟩ | ⟨h0_, h2_, h4_, h5_, h6_, hD⟩ | ⟨h0_, h2_, h4_, h5_, h6_, hD⟩)
    ·exact absurd ((hsp 0 (by simp)).symm.trans h0_) (by decide)
    ·exact absurd ((hsp 2 (by simp)).symm.trans h2_) (by decide)
    ·exact absurd ((hsp 0 (by simp)).symm.trans h0_) (by decide)
    ·exact absurd ((hsp 4 (by simp)).symm.trans h4_) (by decide)
    ·exact absurd ((hsp 2 (by simp)).symm.trans h2_) (by decide)
    ·exact absurd ((hsp 5 (by simp)).symm.trans h5_) (by decide)
    ·exact absurd ((hsp 6 (by simp)).symm.trans h6_) (by decide)
    ·have hS : St w0 w noX [rdE 4 E24 s1 x2] [slE 33 2 E33 s24 x23.1, pt b20 (Cs #[Iv x3, Iv x4, Iv x5, Iv x6] 24), slE 24 4 E24 s22 ((([] : List (Int × Int × Int × Int)) ++ x2) ++ [(x3, x4, x5, x6)]), slE 33 2 E33 s14 x13.1, pt b7 (Cs #[Iv x3, Iv x4, Iv x5, Iv x6] 24)] := hD; clear hD
     replace hf : Fr a 91 [] [(42, s16), (43, s1), (44, s19), (45, .agg #[Iv x3, Iv x4, Iv x5, Iv x6]), (46, .slice (some ⟨b20, 0, none⟩) 1 1), (47, s22), (48, .tuple #[s24, Iv x23.2.1, Iv x23.2.2]), (41, .tuple #[s24, Iv x23.2.1, Iv x23.2.2]), (49, s24), (0, s1), (3, Pv b7 0), (4, Bv false), (5, Bv x8), (7, Iv x13.2.1), (8, Iv x13.2.2)] := hf
     refine O.val hf rfl rfl rfl (RunV.assign rfl) ?_; clear hf a; intro a hf
     exact O.nil ⟨rfl, hf.to trivial, (fun d hd => by cases (show some 9 = some d from hd); exact hf.get _ _ rfl), (Or.inr (Or.inr (Or.inr (Or.inr (Or.inr (Or.inr (Or.inr ⟨h0_, h2_, h4_, h5_, h6_, hS⟩)))))))⟩
   ·intro s g w hsp hsb hD a hf
    obtain ⟨s16, s19, b20, s22, s24⟩ := g
    rcases hD with (⟨h0_, h2_, h4_, h5_, h6_, hD⟩ | ⟨h0_, h2_, h4_, h5_, h6_, hD⟩ | ⟨h0_, h2_, h4_, h5_, h6_, hD⟩ | ⟨h0_, h2_, h4_, h5_, h6_, hD⟩ | ⟨h0_, h2_, h4_, h5_, h6_, hD⟩ | ⟨h0_, h2_, h4_, h5_, h6_, hD⟩ | ⟨h0_, h2_, h4_, h5_, h6_, hD⟩ | ⟨h0_, h2_, h4_, h5_, h6_, hD⟩)
    ·exact absurd ((hsp 0 (by simp)).symm.trans h0_) (by decide)
    ·exact absurd ((hsp 2 (by simp)).symm.trans h2_) (by decide)
    ·exact absurd ((hsp 0 (by simp)).symm.trans h0_) (by decide)
    ·exact absurd ((hsp 4 (by simp)).symm.trans h4_) (by decide)
    ·exact absurd ((hsp 2 (by simp)).symm.trans h2_) (by decide)
    ·exact absurd ((hsp 5 (by simp)).symm.trans h5_) (by decide)
    ·exact absurd ((hsp 6 (by simp)).symm.trans h6_) (by decide)
    ·have hS : St w0 w noX [rdE 4 E24 s1 x2] [slE 33 2 E33 s24 x23.1, pt b20 (Cs #[Iv x3, Iv x4, Iv x5, Iv x6] 24), slE 24 4 E24 s22 ((([] : List (Int × Int × Int × Int)) ++ x2) ++ [(x3, x4, x5, x6)]), slE 33 2 E33 s14 x13.1, pt b7 (Cs #[Iv x3, Iv x4, Iv x5, Iv x6] 24)] := hD; clear hD
     replace hf : Fr a 91 [] [(42, s16), (43, s1), (44, s19), (45, .agg #[Iv x3, Iv x4, Iv x5, Iv x6]), (46, .slice (some ⟨b20, 0, none⟩) 1 1), (47, s22), (48, .tuple #[s24, Iv x23.2.1, Iv x23.2.2]), (41, .tuple #[s24, Iv x23.2.1, Iv x23.2.2]), (49, s24), (50, Iv x23.2.1), (9, s24), (0, s1), (3, Pv b7 0), (4, Bv false), (5, Bv x8), (7, Iv x13.2.1), (8, Iv x13.2.2)] := hf
     refine O.val hf rfl rfl rfl (RunV.assign rfl) ?_; clear hf a; intro a hf
     exact O.nil ⟨rfl, hf.to trivial, (fun d hd => by cases (show some 10 = some d from hd); exact hf.get _ _ rfl), (Or.inr (Or.inr (Or.inr (Or.inr (Or.inr (Or.inr (Or.inr ⟨h0_, h2_, h4_, h5_, h6_, hS⟩)))))))⟩
   ·intro s g w hsp hsb hD a hf
    obtain ⟨s16, s19, b20, s22, s24⟩ := g
    rcases hD with (⟨h0_, h2_, h4_, h5_, h6_, hD⟩ | ⟨h0_, h2_, h4_, h5_, h6_, hD⟩ | ⟨h0_, h2_, h4_, h5_, h6_, hD⟩ | ⟨h0_, h2_, h4_, h5_, h6_, hD⟩ | ⟨h0_, h2_, h4_, h5_, h6_, hD⟩ | ⟨h0_, h2_, h4_, h5_, h6_, hD⟩ | ⟨h0_, h2_, h4_, h5_, h6_, hD⟩ | ⟨h0_, h2_, h4_, h5_, h6_, hD⟩)
    ·exact absurd ((hsp 0 (by simp)).symm.trans h0_) (by decide)
    ·exact absurd ((hsp 2 (by simp)).symm.trans h2_) (by decide)
    ·exact absurd ((hsp 0 (by simp)).symm.trans h0_) (by decide)
    ·exact absurd ((hsp 4 (by simp)).symm.trans h4_) (by decide)
    ·exact absurd ((hsp 2 (by simp)).symm.trans h2_) (by decide)
    ·exact absurd ((hsp 5 (by simp)).symm.trans h5_) (by decide)
    ·exact absurd ((hsp 6 (by simp)).symm.trans h6_) (by decide)
    ·have hS : St w0 w noX [rdE 4 E24 s1 x2] [slE 33 2 E33 s24 x23.1, pt b20 (Cs #[Iv x3, Iv x4, Iv x5, Iv x6] 24), slE 24 4 E24 s22 ((([] : List (Int × Int × Int × Int)) ++ x2) ++ [(x3, x4, x5, x6)]), slE 33 2 E33 s14 x13.1, pt b7 (Cs #[Iv x3, Iv x4, Iv x5, Iv x6] 24)] := hD; clear hD
     replace hf : Fr a 91 [] [(42, s16), (43, s1), (44, s19), (45, .agg #[Iv x3, Iv x4, Iv x5, Iv x6]), (46, .slice (some ⟨b20, 0, none⟩) 1 1), (47, s22), (48, .tuple #[s24, Iv x23.2.1, Iv x23.2.2]), (41, .tuple #[s24, Iv x23.2.1, Iv x23.2.2]), (49, s24), (50, Iv x23.2.1), (51, Iv x23.2.2), (9, s24), (10, Iv x23.2.1), (0, s1), (3, Pv b7 0), (4, Bv false), (5, Bv x8), (7, Iv x13.2.1), (8, Iv x13.2.2)] := hf
     refine O.val hf rfl rfl rfl (RunV.assign rfl) ?_; clear hf a; intro a hf
     exact O.nil ⟨rfl, hf.to trivial, (fun d hd => by cases (show some 11 = some d from hd); exact hf.get _ _ rfl), (Or.inr (Or.inr (Or.inr (Or.inr (Or.inr (Or.inr (Or.inr ⟨h0_, h2_, h4_, h5_, h6_, hS⟩)))))))⟩
  ·clear hf hf1 hS
   refine ⟨?_, ?_, ?_, ?_, ?_, trivial⟩
   ·intro s g w hs0 hsp hsb hD a hf
    obtain ⟨s16, s19, b20, s22, s24⟩ := g
    rcases hD with (⟨h0_, h2_, h4_, h5_, h6_, hD⟩ | ⟨h0_, h2_, h4_, h5_, h6_, hD⟩ | ⟨h0_, h2_, h4_, h5_, h6_, hD⟩ | ⟨h0_, h2_, h4_, h5_, h6_, hD⟩ | ⟨h0_, h2_, h4_, h5_, h6_, hD⟩ | ⟨h0_, h2_, h4_, h5_, h6_, hD⟩ | ⟨h0_, h2_, h4_, h5_, h6_, hD⟩ | ⟨h0_, h2_, h4_, h5_, h6_, hD⟩)
    ·have hS : St w0 w noX [rdE 4 E24 s1 x2] [slE 33 2 E33 s14 x13.1, pt b7 (Cs #[Iv x3, Iv x4, Iv x5, Iv x6] 24)] := hD; clear hD
     replace hf : Fr a 91 [] [(0, s1), (3, Pv b7 0), (4, Bv false), (5, Bv x8), (7, Iv x13.2.1), (8, Iv x13.2.2)] := hf
     refine O.buildSlice0 hf hS rfl rfl T_elem_22 T_size_24 rfl ?_
     clear hf hS a; intro b31 w a hb31 hS hf
     obtain ⟨s16, hs16⟩ : ∃ v, v = Value.slice (some ⟨b31, 0, none⟩) 0 0 := ⟨_, rfl⟩
     rw [← hs16] at hf hS
     replace hS : St w0 _ noX [rdE 4 E24 s1 x2] [slE 24 4 E24 s16 ([] : List (Int × Int × Int × Int)), slE 33 2 E33 s14 x13.1, pt b7 (Cs #[Iv x3, Iv x4, Iv x5, Iv x6] 24)] := hS
     exact O.nil ⟨rfl, (s16, s19, b20, s22, s24), hf.to trivial, (fun d hd => by cases (show some 42 = some d from hd); exact hf.get _ _ rfl), (fun j hj hk => match j, hj, hk with | 0, hj, hk => absurd rfl hj | 1, hj, hk => rfl | 2, hj, hk => absurd hk (by decide) | 3, hj, hk => rfl | 4, hj, hk => rfl | 5, hj, hk => absurd hk (by decide) | 6, hj, hk => absurd hk (by decide) | 7, hj, hk => absurd hk (by decide) | 8, hj, hk => absurd hk (by decide) | 9, hj, hk => absurd hk (by decide) | 10, hj, hk => absurd hk (by decide) | 11, hj, hk => absurd hk (by decide) | 12, hj, hk => absurd hk (by decide) | 13, hj, hk => absurd hk (by decide) | _ + 14, _, _ => rfl), (Or.inr (Or.inl ⟨rfl, h2_, h4_, h5_, h6_, hS⟩))⟩
    ·exact absurd (hs0.symm.trans h0_) (by decide)
    ·have hS : St w0 w noX [rdE 4 E24 s1 x2] [pt b20 (Cs #[Iv x3, Iv x4, Iv x5, Iv x6] 24), slE 33 2 E33 s14 x13.1, pt b7 (Cs #[Iv x3, Iv x4, Iv x5, Iv x6] 24)] := hD; clear hD
     replace hf : Fr a 91 [] [(0, s1), (3, Pv b7 0), (4, Bv false), (5, Bv x8), (7, Iv x13.2.1), (8, Iv x13.2.2)] := hf
     refine O.buildSlice0 hf hS rfl rfl T_elem_22 T_size_24 rfl ?_
     clear hf hS a; intro b32 w a hb32 hS hf
     obtain ⟨s16, hs16⟩ : ∃ v, v = Value.slice (some ⟨b32, 0, none⟩) 0 0 := ⟨_, rfl⟩
     rw [← hs16] at hf hS
     replace hS : St w0 _ noX [rdE 4 E24 s1 x2] [slE 24 4 E24 s16 ([] : List (Int × Int × Int × Int)), pt b20 (Cs #[Iv x3, Iv x4, Iv x5, Iv x6] 24), slE 33 2 E33 s14 x13.1, pt b7 (Cs #[Iv x3, Iv x4, Iv x5, Iv x6] 24)] := hS
     replace hS := hS.front (i := 3) (M' := [pt b7 (Cs #[Iv x3, Iv x4, Iv x5, Iv x6] 24), slE 24 4 E24 s16 ([] : List (Int × Int × Int × Int)), pt b20 (Cs #[Iv x3, Iv x4, Iv x5, Iv x6] 24), slE 33 2 E33 s14 x13.1]) rfl rfl
     replace hS := hS.front (i := 3) (M' := [slE 33 2 E33 s14 x13.1, pt b7 (Cs #[Iv x3, Iv x4, Iv x5, Iv x6] 24), slE 24 4 E24 s16 ([] : List (Int × Int × Int × Int)), pt b20 (Cs #[Iv x3, Iv x4, Iv x5, Iv x6] 24)]) rfl rfl
     replace hS := hS.front (i := 2) (M' := [slE 24 4 E24 s16 ([] : List (Int × Int × Int × Int)), slE 33 2 E33 s14 x13.1, pt b7 (Cs #[Iv x3, Iv x4, Iv x5, Iv x6] 24), pt b20 (Cs #[Iv x3, Iv x4, Iv x5, Iv x6] 24)]) rfl rfl
     replace hS := hS.front (i := 3) (M' := [pt b20 (Cs #[Iv x3, Iv x4, Iv x5, Iv x6] 24), slE 24 4 E24 s16 ([] : List (Int × Int × Int × Int)), slE 33 2 E33 s14 x13.1, pt b7 (Cs #[Iv x3, Iv x4, Iv x5, Iv x6] 24)]) rfl rfl
     exact O.nil ⟨rfl, (s16, s19, b20, s22, s24), hf.to trivial, (fun d hd => by cases (show some 42 = some d from hd); exact hf.get _ _ rfl), (fun j hj hk => match j, hj, hk with | 0, hj, hk => absurd rfl hj | 1, hj, hk => rfl | 2, hj, hk => absurd hk (by decide) | 3, hj, hk => rfl | 4, hj, hk => rfl | 5, hj, hk => absurd hk (by decide) | 6, hj, hk => absurd hk (by decide) | 7, hj, hk => absurd hk (by decide) | 8, hj, hk => absurd hk (by decide) | 9, hj, hk => absurd hk (by decide) | 10, hj, hk => absurd hk (by decide) | 11, hj, hk => absurd hk (by decide) | 12, hj, hk => absurd hk (by decide) | 13, hj, hk => absurd hk (by decide) | _ + 14, _, _ => rfl), (Or.inr (Or.inr (Or.inr (Or.inr (Or.inl ⟨rfl, h2_, h4_, h5_, h6_, hS⟩)))))⟩
    ·exact absurd (hs0.symm.trans h0_) (by decide)
    ·exact absurd (hs0.symm.trans h0_) (by decide)
    ·exact absurd (hs0.symm.trans h0_) (by decide)
    ·exact absurd (hs0.symm.trans h0_) (by decide)
    ·exact absurd (hs0.symm.trans h0_) (by decide)
   ·intro s g w hs0 hsp hsb hD a hf
    obtain ⟨s16, s19, b20, s22, s24⟩ := g
    rcases hD with (⟨h0_, h2_, h4_, h5_, h6_, hD⟩ | ⟨h0_, h2_, h4_, h5_, h6_, hD⟩ | ⟨h0_, h2_, h4_, h5_, h6_, hD⟩ | ⟨h0_, h2_, h4_, h5_, h6_, hD⟩ | ⟨h0_, h2_, h4_, h5_, h6_, hD⟩ | ⟨h0_, h2_, h4_, h5_, h6_, hD⟩ | ⟨h0_, h2_, h4_, h5_, h6_, hD⟩ | ⟨h0_, h2_, h4_, h5_, h6_, hD⟩)
    ·exact absurd ((hsp 0 (by simp)).symm.trans h0_) (by decide)
    ·have hS : St w0 w noX [rdE 4 E24 s1 x2] [slE 24 4 E24 s16 ([] : List (Int × Int × Int × Int)), slE 33 2 E33 s14 x13.1, pt b7 (Cs #[Iv x3, Iv x4, Iv x5, Iv x6] 24)] := hD; clear hD
     replace hf : Fr a 91 [] [(42, s16), (43, s1), (0, s1), (3, Pv b7 0), (4, Bv false), (5, Bv x8), (7, Iv x13.2.1), (8, Iv x13.2.2)] := hf
     refine O.appendEV (j := 0) (l' := ([] : List (Int × Int × Int × Int)) ++ x2) hf hS rfl rfl T_elem_22 T_size_24 T_bytes_24 T_zero_24 rfl rfl rfl rfl rfl (hS.rdB (j := 0) rfl) E24_one hg17 hg18 rfl rfl ?_
     clear hf hS a; intro s19 w a hS hf
     replace hS : St w0 _ noX [rdE 4 E24 s1 x2] [slE 24 4 E24 s19 (([] : List (Int × Int × Int × Int)) ++ x2), slE 33 2 E33 s14 x13.1, pt b7 (Cs #[Iv x3, Iv x4, Iv x5, Iv x6] 24)] := hS
     exact O.nil ⟨rfl, (s16, s19, b20, s22, s24), hf.to trivial, (fun d hd => by cases (show some 44 = some d from hd); exact hf.get _ _ rfl), (fun j hj hk => match j, hj, hk with | 0, hj, hk => rfl | 1, hj, hk => rfl | 2, hj, hk => absurd rfl hj | 3, hj, hk => rfl | 4, hj, hk => rfl | 5, hj, hk => absurd hk (by decide) | 6, hj, hk => absurd hk (by decide) | 7, hj, hk => absurd hk (by decide) | 8, hj, hk => absurd hk (by decide) | 9, hj, hk => absurd hk (by decide) | 10, hj, hk => absurd hk (by decide) | 11, hj, hk => absurd hk (by decide) | 12, hj, hk => absurd hk (by decide) | 13, hj, hk => absurd hk (by decide) | _ + 14, _, _ => rfl), (Or.inr (Or.inr (Or.inr (Or.inl ⟨h0_, rfl, h4_, h5_, h6_, hS⟩))))⟩
    ·exact absurd ((hsp 0 (by simp)).symm.trans h0_) (by decide)
    ·exact absurd (hs0.symm.trans h2_) (by decide)
    ·have hS : St w0 w noX [rdE 4 E24 s1 x2] [pt b20 (Cs #[Iv x3, Iv x4, Iv x5, Iv x6] 24), slE 24 4 E24 s16 ([] : List (Int × Int × Int × Int)), slE 33 2 E33 s14 x13.1, pt b7 (Cs #[Iv x3, Iv x4, Iv x5, Iv x6] 24)] := hD; clear hD
     replace hf : Fr a 91 [] [(42, s16), (43, s1), (0, s1), (3, Pv b7 0), (4, Bv false), (5, Bv x8), (7, Iv x13.2.1), (8, Iv x13.2.2)] := hf
     refine O.appendEV (j := 1) (l' := ([] : List (Int × Int × Int × Int)) ++ x2) hf hS rfl rfl T_elem_22 T_size_24 T_bytes_24 T_zero_24 rfl rfl rfl rfl rfl (hS.rdB (j := 0) rfl) E24_one hg17 hg18 rfl rfl ?_
     clear hf hS a; intro s19 w a hS hf
     replace hS : St w0 _ noX [rdE 4 E24 s1 x2] [pt b20 (Cs #[Iv x3, Iv x4, Iv x5, Iv x6] 24), slE 24 4 E24 s19 (([] : List (Int × Int × Int × Int)) ++ x2), slE 33 2 E33 s14 x13.1, pt b7 (Cs #[Iv x3, Iv x4, Iv x5, Iv x6] 24)] := hS
     exact O.nil ⟨rfl, (s16, s19, b20, s22, s24), hf.to trivial, (fun d hd => by cases (show some 44 = some d from hd); exact hf.get _ _ rfl), (fun j hj hk => match j, hj, hk with | 0, hj, hk => rfl | 1, hj, hk => rfl | 2, hj, hk => absurd rfl hj | 3, hj, hk => rfl | 4, hj, hk => rfl | 5, hj, hk => absurd hk (by decide) | 6, hj, hk => absurd hk (by decide) | 7, hj, hk => absurd hk (by decide) | 8, hj, hk => absurd hk (by decide) | 9, hj, hk => absurd hk (by decide) | 10, hj, hk => absurd hk (by decide) | 11, hj, hk => absurd hk (by decide) | 12, hj, hk => absurd hk (by decide) | 13, hj, hk => absurd hk (by decide) | _ + 14, _, _ => rfl), (Or.inr (Or.inr (Or.inr (Or.inr (Or.inr (Or.inl ⟨h0_, rfl, h4_, h5_, h6_, hS⟩))))))⟩
    ·exact absurd (hs0.symm.trans h2_) (by decide)
    ·exact absurd (hs0.symm.trans h2_) (by decide)
    ·exact absurd (hs0.symm.trans h2_) (by decide)
   ·intro s g w hs0 hsp hsb hD a hf
    obtain ⟨s16, s19, b20, s22, s24⟩ := g
    rcases hD with (⟨h0_, h2_, h4_, h5_, h6_, hD⟩ | ⟨h0_, h2_, h4_, h5_, h6_, hD⟩ | ⟨h0_, h2_, h4_, h5_, h6_, hD⟩ | ⟨h0_, h2_, h4_, h5_, h6_, hD⟩ | ⟨h0_, h2_, h4_, h5_, h6_, hD⟩ | ⟨h0_, h2_, h4_, h5_, h6_, hD⟩ | ⟨h0_, h2_, h4_, h5_, h6_, hD⟩ | ⟨h0_, h2_, h4_, h5_, h6_, hD⟩)
    ·have hS : St w0 w noX [rdE 4 E24 s1 x2] [slE 33 2 E33 s14 x13.1, pt b7 (Cs #[Iv x3, Iv x4, Iv x5, Iv x6] 24)] := hD; clear hD
     replace hf : Fr a 91 [] [(45, .agg #[Iv x3, Iv x4, Iv x5, Iv x6]), (0, s1), (3, Pv b7 0), (4, Bv false), (5, Bv x8), (7, Iv x13.2.1), (8, Iv x13.2.2)] := hf
     refine O.buildSlice (cs' := #[Iv x3, Iv x4, Iv x5, Iv x6]) (zs := #[Iv 0, Iv 0, Iv 0, Iv 0]) hf hS rfl rfl T_elem_22 T_size_24 T_zero_24 rfl rfl rfl rfl rfl ?_
     clear hf hS a; intro b20 w a hb20 hS hf
     exact O.nil ⟨rfl, (s16, s19, b20, s22, s24), hf.to trivial, (fun d hd => by cases (show some 46 = some d from hd); exact hf.get _ _ rfl), (fun j hj hk => match j, hj, hk with | 0, hj, hk => rfl | 1, hj, hk => rfl | 2, hj, hk => rfl | 3, hj, hk => rfl | 4, hj, hk => absurd rfl hj | 5, hj, hk => absurd hk (by decide) | 6, hj, hk => absurd hk (by decide) | 7, hj, hk => absurd hk (by decide) | 8, hj, hk => absurd hk (by decide) | 9, hj, hk => absurd hk (by decide) | 10, hj, hk => absurd hk (by decide) | 11, hj, hk => absurd hk (by decide) | 12, hj, hk => absurd hk (by decide) | 13, hj, hk => absurd hk (by decide) | _ + 14, _, _ => rfl), (Or.inr (Or.inr (Or.inl ⟨h0_, h2_, rfl, h5_, h6_, hS⟩)))⟩
    ·have hS : St w0 w noX [rdE 4 E24 s1 x2] [slE 24 4 E24 s16 ([] : List (Int × Int × Int × Int)), slE 33 2 E33 s14 x13.1, pt b7 (Cs #[Iv x3, Iv x4, Iv x5, Iv x6] 24)] := hD; clear hD
     replace hf : Fr a 91 [] [(45, .agg #[Iv x3, Iv x4, Iv x5, Iv x6]), (0, s1), (3, Pv b7 0), (4, Bv false), (5, Bv x8), (7, Iv x13.2.1), (8, Iv x13.2.2)] := hf
     refine O.buildSlice (cs' := #[Iv x3, Iv x4, Iv x5, Iv x6]) (zs := #[Iv 0, Iv 0, Iv 0, Iv 0]) hf hS rfl rfl T_elem_22 T_size_24 T_zero_24 rfl rfl rfl rfl rfl ?_
     clear hf hS a; intro b20 w a hb20 hS hf
     exact O.nil ⟨rfl, (s16, s19, b20, s22, s24), hf.to trivial, (fun d hd => by cases (show some 46 = some d from hd); exact hf.get _ _ rfl), (fun j hj hk => match j, hj, hk with | 0, hj, hk => rfl | 1, hj, hk => rfl | 2, hj, hk => rfl | 3, hj, hk => rfl | 4, hj, hk => absurd rfl hj | 5, hj, hk => absurd hk (by decide) | 6, hj, hk => absurd hk (by decide) | 7, hj, hk => absurd hk (by decide) | 8, hj, hk => absurd hk (by decide) | 9, hj, hk => absurd hk (by decide) | 10, hj, hk => absurd hk (by decide) | 11, hj, hk => absurd hk (by decide) | 12, hj, hk => absurd hk (by decide) | 13, hj, hk => absurd hk (by decide) | _ + 14, _, _ => rfl), (Or.inr (Or.inr (Or.inr (Or.inr (Or.inl ⟨h0_, h2_, rfl, h5_, h6_, hS⟩)))))⟩
    ·exact absurd (hs0.symm.trans h4_) (by decide)
    ·have hS : St w0 w noX [rdE 4 E24 s1 x2] [slE 24 4 E24 s19 (([] : List (Int × Int × Int × Int)) ++ x2), slE 33 2 E33 s14 x13.1, pt b7 (Cs #[Iv x3, Iv x4, Iv x5, Iv x6] 24)] := hD; clear hD
     replace hf : Fr a 91 [] [(45, .agg #[Iv x3, Iv x4, Iv x5, Iv x6]), (0, s1), (3, Pv b7 0), (4, Bv false), (5, Bv x8), (7, Iv x13.2.1), (8, Iv x13.2.2)] := hf
     refine O.buildSlice (cs' := #[Iv x3, Iv x4, Iv x5, Iv x6]) (zs := #[Iv 0, Iv 0, Iv 0, Iv 0]) hf hS rfl rfl T_elem_22 T_size_24 T_zero_24 rfl rfl rfl rfl rfl ?_
     clear hf hS a; intro b20 w a hb20 hS hf
     exact O.nil ⟨rfl, (s16, s19, b20, s22, s24), hf.to trivial, (fun d hd => by cases (show some 46 = some d from hd); exact hf.get _ _ rfl), (fun j hj hk => match j, hj, hk with | 0, hj, hk => rfl | 1, hj, hk => rfl | 2, hj, hk => rfl | 3, hj, hk => rfl | 4, hj, hk => absurd rfl hj | 5, hj, hk => absurd hk (by decide) | 6, hj, hk => absurd hk (by decide) | 7, hj, hk => absurd hk (by decide) | 8, hj, hk => absurd hk (by decide) | 9, hj, hk => absurd hk (by decide) | 10, hj, hk => absurd hk (by decide) | 11, hj, hk => absurd hk (by decide) | 12, hj, hk => absurd hk (by decide) | 13, hj, hk => absurd hk (by decide) | _ + 14, _, _ => rfl), (Or.inr (Or.inr (Or.inr (Or.inr (Or.inr (Or.inl ⟨h0_, h2_, rfl, h5_, h6_, hS⟩))))))⟩
    ·exact absurd (hs0.symm.trans h4_) (by decide)
    ·exact absurd (hs0.symm.trans h4_) (by decide)
    ·exact absurd (hs0.symm.trans h4_) (by decide)
    ·exact absurd (hs0.symm.trans h4_) (by decide)
   ·intro s g w hs0 hsp hsb hD a hf
    obtain ⟨s16, s19, b20, s22, s24⟩ := g
    rcases hD with (⟨h0_, h2_, h4_, h5_, h6_, hD⟩ | ⟨h0_, h2_, h4_, h5_, h6_, hD⟩ | ⟨h0_, h2_, h4_, h5_, h6_, hD⟩ | ⟨h0_, h2_, h4_, h5_, h6_, hD⟩ | ⟨h0_, h2_, h4_, h5_, h6_, hD⟩ | ⟨h0_, h2_, h4_, h5_, h6_, hD⟩ | ⟨h0_, h2_, h4_, h5_, h6_, hD⟩ | ⟨h0_, h2_, h4_, h5_, h6_, hD⟩)
    ·exact absurd ((hsp 0 (by simp)).symm.trans h0_) (by decide)
    ·exact absurd ((hsp 2 (by simp)).symm.trans h2_) (by decide)
    ·exact absurd ((hsp 0 (by simp)).symm.trans h0_) (by decide)
    ·exact absurd ((hsp 4 (by simp)).symm.trans h4_) (by decide)
    ·exact absurd ((hsp 2 (by simp)).symm.trans h2_) (by decide)
    ·have hS : St w0 w noX [rdE 4 E24 s1 x2] [pt b20 (Cs #[Iv x3, Iv x4, Iv x5, Iv x6] 24), slE 24 4 E24 s19 (([] : List (Int × Int × Int × Int)) ++ x2), slE 33 2 E33 s14 x13.1, pt b7 (Cs #[Iv x3, Iv x4, Iv x5, Iv x6] 24)] := hD; clear hD
     replace hf : Fr a 91 [] [(44, s19), (46, .slice (some ⟨b20, 0, none⟩) 1 1), (0, s1), (3, Pv b7 0), (4, Bv false), (5, Bv x8), (7, Iv x13.2.1), (8, Iv x13.2.2)] := hf
     refine O.appendE1 (j := 1) (jj := 0) (enc := E24) (m := [(x3, x4, x5, x6)]) (l' := (([] : List (Int × Int × Int × Int)) ++ x2) ++ [(x3, x4, x5, x6)]) hf hS rfl rfl T_elem_22 T_size_24 T_bytes_24 T_zero_24 rfl rfl rfl rfl rfl rfl rfl rfl rfl rfl hg21 rfl rfl rfl ?_
     clear hf hS a; intro s22 w a hS hf
     replace hS : St w0 _ noX [rdE 4 E24 s1 x2] [pt b20 (Cs #[Iv x3, Iv x4, Iv x5, Iv x6] 24), slE 24 4 E24 s22 ((([] : List (Int × Int × Int × Int)) ++ x2) ++ [(x3, x4, x5, x6)]), slE 33 2 E33 s14 x13.1, pt b7 (Cs #[Iv x3, Iv x4, Iv x5, Iv x6] 24)] := hS
     exact O.nil ⟨rfl, (s16, s19, b20, s22, s24), hf.to trivial, (fun d hd => by cases (show some 47 = some d from hd); exact hf.get _ _ rfl), (fun j hj hk => match j, hj, hk with | 0, hj, hk => rfl | 1, hj, hk => rfl | 2, hj, hk => rfl | 3, hj, hk => rfl | 4, hj, hk => rfl | 5, hj, hk => absurd rfl hj | 6, hj, hk => absurd hk (by decide) | 7, hj, hk => absurd hk (by decide) | 8, hj, hk => absurd hk (by decide) | 9, hj, hk => absurd hk (by decide) | 10, hj, hk => absurd hk (by decide) | 11, hj, hk => absurd hk (by decide) | 12, hj, hk => absurd hk (by decide) | 13, hj, hk => absurd hk (by decide) | _ + 14, _, _ => rfl), (Or.inr (Or.inr (Or.inr (Or.inr (Or.inr (Or.inr (Or.inl ⟨h0_, h2_, h4_, rfl, h6_, hS⟩)))))))⟩
    ·exact absurd (hs0.symm.trans h5_) (by decide)
    ·exact absurd (hs0.symm.trans h5_) (by decide)
   ·intro s g w hs0 hsp hsb hD a hf
    obtain ⟨s16, s19, b20, s22, s24⟩ := g
    rcases hD with (⟨h0_, h2_, h4_, h5_, h6_, hD⟩ | ⟨h0_, h2_, h4_, h5_, h6_, hD⟩ | ⟨h0_, h2_, h4_, h5_, h6_, hD⟩ | ⟨h0_, h2_, h4_, h5_, h6_, hD⟩ | ⟨h0_, h2_, h4_, h5_, h6_, hD⟩ | ⟨h0_, h2_, h4_, h5_, h6_, hD⟩ | ⟨h0_, h2_, h4_, h5_, h6_, hD⟩ | ⟨h0_, h2_, h4_, h5_, h6_, hD⟩)
    ·exact absurd ((hsp 0 (by simp)).symm.trans h0_) (by decide)
    ·exact absurd ((hsp 2 (by simp)).symm.trans h2_) (by decide)
    ·exact absurd ((hsp 0 (by simp)).symm.trans h0_) (by decide)
    ·exact absurd ((hsp 4 (by simp)).symm.trans h4_) (by decide)
    ·exact absurd ((hsp 2 (by simp)).symm.trans h2_) (by decide)
    ·exact absurd ((hsp 5 (by simp)).symm.trans h5_) (by decide)
    ·have hS : St w0 w noX [rdE 4 E24 s1 x2] [pt b20 (Cs #[Iv x3, Iv x4, Iv x5, Iv x6] 24), slE 24 4 E24 s22 ((([] : List (Int × Int × Int × Int)) ++ x2) ++ [(x3, x4, x5, x6)]), slE 33 2 E33 s14 x13.1, pt b7 (Cs #[Iv x3, Iv x4, Iv x5, Iv x6] 24)] := hD; clear hD
     replace hf : Fr a 91 [] [(47, s22), (0, s1), (3, Pv b7 0), (4, Bv false), (5, Bv x8), (7, Iv x13.2.1), (8, Iv x13.2.2)] := hf
     refine O.callR hf rfl rfl rfl (RunE.call (av := #[s22]) C_ok_9 rfl rfl rfl) (m_plan_Best_ok F s22 ((([] : List (Int × Int × Int × Int)) ++ x2) ++ [(x3, x4, x5, x6)]) _ (hS.rdS (j := 1) rfl) x23 hx23) ?_
     clear hf a; rintro s24 w hS1 a hf
     replace hf : Fr a _ _ ((48, .tuple #[s24, Iv x23.2.1, Iv x23.2.2]) :: _) := hf
     replace hS := (hS.call hS1).eqM (N := [slE 33 2 E33 s24 x23.1, pt b20 (Cs #[Iv x3, Iv x4, Iv x5, Iv x6] 24), slE 24 4 E24 s22 ((([] : List (Int × Int × Int × Int)) ++ x2) ++ [(x3, x4, x5, x6)]), slE 33 2 E33 s14 x13.1, pt b7 (Cs #[Iv x3, Iv x4, Iv x5, Iv x6] 24)]) rfl
     clear hS1
     exact O.nil ⟨rfl, (s16, s19, b20, s22, s24), hf.to trivial, (fun d hd => by cases (show some 48 = some d from hd); exact hf.get _ _ rfl), (fun j hj hk => match j, hj, hk with | 0, hj, hk => rfl | 1, hj, hk => rfl | 2, hj, hk => rfl | 3, hj, hk => rfl | 4, hj, hk => rfl | 5, hj, hk => rfl | 6, hj, hk => absurd rfl hj | 7, hj, hk => absurd hk (by decide) | 8, hj, hk => absurd hk (by decide) | 9, hj, hk => absurd hk (by decide) | 10, hj, hk => absurd hk (by decide) | 11, hj, hk => absurd hk (by decide) | 12, hj, hk => absurd hk (by decide) | 13, hj, hk => absurd hk (by decide) | _ + 14, _, _ => rfl), (Or.inr (Or.inr (Or.inr (Or.inr (Or.inr (Or.inr (Or.inr ⟨h0_, h2_, h4_, h5_, rfl, hS⟩)))))))⟩
    ·exact absurd (hs0.symm.trans h6_) (by decide)
  clear hf hf1 hS; intro s g a w hs hf hD
  obtain ⟨s16, s19, b20, s22, s24⟩ := g
  rcases hD with (⟨h0_, h2_, h4_, h5_, h6_, hD⟩ | ⟨h0_, h2_, h4_, h5_, h6_, hD⟩ | ⟨h0_, h2_, h4_, h5_, h6_, hD⟩ | ⟨h0_, h2_, h4_, h5_, h6_, hD⟩ | ⟨h0_, h2_, h4_, h5_, h6_, hD⟩ | ⟨h0_, h2_, h4_, h5_, h6_, hD⟩ | ⟨h0_, h2_, h4_, h5_, h6_, hD⟩ | ⟨h0_, h2_, h4_, h5_, h6_, hD⟩)
  · exact absurd ((hs 0 (by simp)).symm.trans h0_) (by decide)
  · exact absurd ((hs 2 (by simp)).symm.trans h2_) (by decide)
  · exact absurd ((hs 0 (by simp)).symm.trans h0_) (by decide)
  · exact absurd ((hs 4 (by simp)).symm.trans h4_) (by decide)
  · exact absurd ((hs 2 (by simp)).symm.trans h2_) (by decide)
  · exact absurd ((hs 5 (by simp)).symm.trans h5_) (by decide)
  · exact absurd ((hs 6 (by simp)).symm.trans h6_) (by decide)
  have hS : St w0 w noX [rdE 4 E24 s1 x2] [slE 33 2 E33 s24 x23.1, pt b20 (Cs #[Iv x3, Iv x4, Iv x5, Iv x6] 24), slE 24 4 E24 s22 ((([] : List (Int × Int × Int × Int)) ++ x2) ++ [(x3, x4, x5, x6)]), slE 33 2 E33 s14 x13.1, pt b7 (Cs #[Iv x3, Iv x4, Iv x5, Iv x6] 24)] := hD; clear hD
  replace hf : Fr a 91 [] [(42, s16), (43, s1), (44, s19), (45, .agg #[Iv x3, Iv x4, Iv x5, Iv x6]), (46, .slice (some ⟨b20, 0, none⟩) 1 1), (47, s22), (48, .tuple #[s24, Iv x23.2.1, Iv x23.2.2]), (41, .tuple #[s24, Iv x23.2.1, Iv x23.2.2]), (49, s24), (50, Iv x23.2.1), (51, Iv x23.2.2), (9, s24), (10, Iv x23.2.1), (11, Iv x23.2.2), (0, s1), (3, Pv b7 0), (4, Bv false), (5, Bv x8), (7, Iv x13.2.1), (8, Iv x13.2.2)] := hf
  refine k_seq ?_
  replace hf : Fr a 91 [] [(3, Pv b7 0), (4, Bv false), (5, Bv x8), (7, Iv x13.2.1), (8, Iv x13.2.2), (10, Iv x23.2.1), (11, Iv x23.2.2)] := hf.to ⟨rfl, rfl, rfl, rfl, rfl, rfl, rfl, trivial⟩
  refine W.seq ?_
  refine W.regionL (l := [0, 1, 2, 3, 4, 5, 6, 7, 8, 9]) rfl ?_
  refine O.val hf rfl rfl rfl (RunV.loadN (cs' := #[Iv x3, Iv x4, Iv x5, Iv x6]) T_agg_24 T_size_24 rfl (hS.ptAt (i := 4) rfl) (Nat.le_of_ble_eq_true rfl) rfl) ?_; clear hf a; intro a hf
  refine O.buildSlice (cs' := #[Iv x3, Iv x4, Iv x5, Iv x6]) (zs := #[Iv 0, Iv 0, Iv 0, Iv 0]) hf hS rfl rfl T_elem_22 T_size_24 T_zero_24 rfl rfl rfl rfl rfl ?_
  clear hf hS a; intro b33 w a hb33 hS hf
  replace hS := hS.ptE (j := 0) (enc := E24) (xs := [(x3, x4, x5, x6)]) (N := 1) (M' := [slE 24 4 E24 (.slice (some ⟨b33, 0, none⟩) 1 1) ([(x3, x4, x5, x6)]), slE 33 2 E33 s24 x23.1, pt b20 (Cs #[Iv x3, Iv x4, Iv x5, Iv x6] 24), slE 24 4 E24 s22 ((([] : List (Int × Int × Int × Int)) ++ x2) ++ [(x3, x4, x5, x6)]), slE 33 2 E33 s14 x13.1, pt b7 (Cs #[Iv x3, Iv x4, Iv x5, Iv x6] 24)]) rfl rfl rfl rfl rfl rfl
  obtain ⟨s34, hs34⟩ : ∃ v, v = (.slice (some ⟨b33, 0, none⟩) 1 1 : Value) := ⟨_, rfl⟩
  rw [← hs34] at hf hS
  replace hS : St w0 _ noX [rdE 4 E24 s1 x2] [slE 24 4 E24 s34 ([(x3, x4, x5, x6)]), slE 33 2 E33 s24 x23.1, pt b20 (Cs #[Iv x3, Iv x4, Iv x5, Iv x6] 24), slE 24 4 E24 s22 ((([] : List (Int × Int × Int × Int)) ++ x2) ++ [(x3, x4, x5, x6)]), slE 33 2 E33 s14 x13.1, pt b7 (Cs #[Iv x3, Iv x4, Iv x5, Iv x6] 24)] := hS
  replace hf : Fr a 91 [] [(3, Pv b7 0), (4, Bv false), (5, Bv x8), (7, Iv x13.2.1), (8, Iv x13.2.2), (10, Iv x23.2.1), (11, Iv x23.2.2), (53, .agg #[Iv x3, Iv x4, Iv x5, Iv x6]), (54, s34)] := hf.to ⟨rfl, rfl, rfl, rfl, rfl, rfl, rfl, rfl, rfl, trivial⟩
  obtain ⟨x35, hx35, hm⟩ := hm_b hm
  refine O.callR hf rfl rfl rfl (RunE.call (av := #[s34]) C_ok_9 rfl rfl rfl) (m_plan_Best_ok F s34 ([(x3, x4, x5, x6)]) _ (hS.rdS (j := 0) rfl) x35 hx35) ?_
  clear hf a; rintro s36 w hS1 a hf
  replace hf : Fr a _ _ ((55, .tuple #[s36, Iv x35.2.1, Iv x35.2.2]) :: _) := hf
  replace hS := (hS.call hS1).eqM (N := [slE 33 2 E33 s36 x35.1, slE 24 4 E24 s34 ([(x3, x4, x5, x6)]), slE 33 2 E33 s24 x23.1, pt b20 (Cs #[Iv x3, Iv x4, Iv x5, Iv x6] 24), slE 24 4 E24 s22 ((([] : List (Int × Int × Int × Int)) ++ x2) ++ [(x3, x4, x5, x6)]), slE 33 2 E33 s14 x13.1, pt b7 (Cs #[Iv x3, Iv x4, Iv x5, Iv x6] 24)]) rfl
  clear hS1
  refine O.val hf rfl rfl rfl (RunV.move rfl) ?_; clear hf a; intro a hf
  refine O.val hf rfl rfl rfl (RunV.extract rfl rfl) ?_; clear hf a; intro a hf
  refine O.val hf rfl rfl rfl (RunV.extract rfl rfl) ?_; clear hf a; intro a hf
  refine O.val hf rfl rfl rfl (RunV.extract rfl rfl) ?_; clear hf a; intro a hf
  refine O.val hf rfl rfl rfl (RunV.assign rfl) ?_; clear hf a; intro a hf
  refine O.val hf rfl rfl rfl (RunV.assign rfl) ?_; clear hf a; intro a hf
  refine O.val hf rfl rfl rfl (RunV.assign rfl) ?_; clear hf a; intro a hf
  refine O.nil ?_
  refine k_seq ?_
  replace hf : Fr a 91 [] [(3, Pv b7 0), (4, Bv false), (5, Bv x8), (7, Iv x13.2.1), (8, Iv x13.2.2), (10, Iv x23.2.1), (11, Iv x23.2.2), (13, Iv x35.2.1), (14, Iv x35.2.2)] := hf.to ⟨rfl, rfl, rfl, rfl, rfl, rfl, rfl, rfl, rfl, trivial⟩
  refine W.seq ?_
  refine W.regionL (l := [0, 1, 2, 3, 4, 5, 6, 7, 8, 9, 10, 11, 12, 13, 14, 15, 16, 17, 18, 19, 20, 21, 22, 23, 24, 25, 26, 27, 28, 29, 30, 31, 32]) rfl ?_
  refine O.val hf rfl rfl rfl (RunV.move rfl) ?_; clear hf a; intro a hf
  refine O.val hf rfl rfl rfl (RunV.move rfl) ?_; clear hf a; intro a hf
  refine O.cutN (l₁ := [2, 3, 4]) (l₂ := _) (fun a w => Fr a 91 [] [(3, Pv b7 0), (4, Bv false), (7, Iv x13.2.1), (10, Iv x23.2.1), (11, Iv x23.2.2), (13, Iv x35.2.1), (14, Iv x35.2.2), (63, Bv (x8 && (decide (x13.2.2 = (0 : Int)))))] ∧ St w0 w noX [rdE 4 E24 s1 x2] [slE 33 2 E33 s36 x35.1, slE 24 4 E24 s34 ([(x3, x4, x5, x6)]), slE 33 2 E33 s24 x23.1, pt b20 (Cs #[Iv x3, Iv x4, Iv x5, Iv x6] 24), slE 24 4 E24 s22 ((([] : List (Int × Int × Int × Int)) ++ x2) ++ [(x3, x4, x5, x6)]), slE 33 2 E33 s14 x13.1, pt b7 (Cs #[Iv x3, Iv x4, Iv x5, Iv x6] 24)]) rfl ?_ ?_
  ·rcases Bool.eq_false_or_eq_true (x8) with hb37 | hb37
   ·refine O.gvalB hf rfl rfl rfl hb37 rfl rfl (RunV.move rfl) ?_; clear hf a; intro a hf
    refine O.gvalB (v := Bv (decide (x13.2.2 = (0 : Int)))) hf rfl rfl rfl hb37 rfl rfl (RunV.eql rfl rfl) ?_; clear hf a; intro a hf
    refine O.val (v := Bv (x8 && (decide (x13.2.2 = (0 : Int))))) hf rfl rfl rfl (RunV.pick rfl rfl rfl (by rw [hb37]; rfl)) ?_; clear hf a; intro a hf
    exact O.nil ⟨rfl, hf.to ⟨rfl, rfl, rfl, rfl, rfl, rfl, rfl, rfl, trivial⟩, hS⟩
   ·refine O.skipB hf rfl rfl rfl hb37 rfl ?_; clear hf a; intro a hf
    refine O.skipB hf rfl rfl rfl hb37 rfl ?_; clear hf a; intro a hf
    refine O.val (v := Bv (x8 && (decide (x13.2.2 = (0 : Int))))) hf rfl rfl rfl (RunV.pick rfl rfl rfl (by rw [hb37]; rfl)) ?_; clear hf a; intro a hf
    exact O.nil ⟨rfl, hf.to ⟨rfl, rfl, rfl, rfl, rfl, rfl, rfl, rfl, trivial⟩, hS⟩
  clear hf hS a; try clear w
  rintro a w ⟨hf, hS⟩
  refine O.val hf rfl rfl rfl (RunV.move rfl) ?_; clear hf a; intro a hf
  refine O.cutN (l₁ := [6, 7, 8]) (l₂ := _) (fun a w => Fr a 91 [] [(3, Pv b7 0), (4, Bv false), (7, Iv x13.2.1), (10, Iv x23.2.1), (13, Iv x35.2.1), (14, Iv x35.2.2), (67, Bv ((x8 && (decide (x13.2.2 = (0 : Int)))) && (decide (x23.2.2 = (0 : Int)))))] ∧ St w0 w noX [rdE 4 E24 s1 x2] [slE 33 2 E33 s36 x35.1, slE 24 4 E24 s34 ([(x3, x4, x5, x6)]), slE 33 2 E33 s24 x23.1, pt b20 (Cs #[Iv x3, Iv x4, Iv x5, Iv x6] 24), slE 24 4 E24 s22 ((([] : List (Int × Int × Int × Int)) ++ x2) ++ [(x3, x4, x5, x6)]), slE 33 2 E33 s14 x13.1, pt b7 (Cs #[Iv x3, Iv x4, Iv x5, Iv x6] 24)]) rfl ?_ ?_
  ·rcases Bool.eq_false_or_eq_true (x8 && (decide (x13.2.2 = (0 : Int)))) with hb38 | hb38
   ·refine O.gvalB hf rfl rfl rfl hb38 rfl rfl (RunV.move rfl) ?_; clear hf a; intro a hf
    refine O.gvalB (v := Bv (decide (x23.2.2 = (0 : Int)))) hf rfl rfl rfl hb38 rfl rfl (RunV.eql rfl rfl) ?_; clear hf a; intro a hf
    refine O.val (v := Bv ((x8 && (decide (x13.2.2 = (0 : Int)))) && (decide (x23.2.2 = (0 : Int))))) hf rfl rfl rfl (RunV.pick rfl rfl rfl (by rw [hb38]; rfl)) ?_; clear hf a; intro a hf
    exact O.nil ⟨rfl, hf.to ⟨rfl, rfl, rfl, rfl, rfl, rfl, rfl, trivial⟩, hS⟩
   ·refine O.skipB hf rfl rfl rfl hb38 rfl ?_; clear hf a; intro a hf
    refine O.skipB hf rfl rfl rfl hb38 rfl ?_; clear hf a; intro a hf
    refine O.val (v := Bv ((x8 && (decide (x13.2.2 = (0 : Int)))) && (decide (x23.2.2 = (0 : Int))))) hf rfl rfl rfl (RunV.pick rfl rfl rfl (by rw [hb38]; rfl)) ?_; clear hf a; intro a hf
    exact O.nil ⟨rfl, hf.to ⟨rfl, rfl, rfl, rfl, rfl, rfl, rfl, trivial⟩, hS⟩
  clear hf hS a; try clear w
  rintro a w ⟨hf, hS⟩
  refine O.val hf rfl rfl rfl (RunV.move rfl) ?_; clear hf a; intro a hf
  refine O.cutN (l₁ := [10, 11, 12]) (l₂ := _) (fun a w => Fr a 91 [] [(3, Pv b7 0), (4, Bv false), (7, Iv x13.2.1), (10, Iv x23.2.1), (13, Iv x35.2.1), (71, Bv (((x8 && (decide (x13.2.2 = (0 : Int)))) && (decide (x23.2.2 = (0 : Int)))) && (decide (x35.2.2 = (0 : Int)))))] ∧ St w0 w noX [rdE 4 E24 s1 x2] [slE 33 2 E33 s36 x35.1, slE 24 4 E24 s34 ([(x3, x4, x5, x6)]), slE 33 2 E33 s24 x23.1, pt b20 (Cs #[Iv x3, Iv x4, Iv x5, Iv x6] 24), slE 24 4 E24 s22 ((([] : List (Int × Int × Int × Int)) ++ x2) ++ [(x3, x4, x5, x6)]), slE 33 2 E33 s14 x13.1, pt b7 (Cs #[Iv x3, Iv x4, Iv x5, Iv x6] 24)]) rfl ?_ ?_
  ·rcases Bool.eq_false_or_eq_true ((x8 && (decide (x13.2.2 = (0 : Int)))) && (decide (x23.2.2 = (0 : Int)))) with hb39 | hb39
   ·refine O.gvalB hf rfl rfl rfl hb39 rfl rfl (RunV.move rfl) ?_; clear hf a; intro a hf
    refine O.gvalB (v := Bv (decide (x35.2.2 = (0 : Int)))) hf rfl rfl rfl hb39 rfl rfl (RunV.eql rfl rfl) ?_; clear hf a; intro a hf
    refine O.val (v := Bv (((x8 && (decide (x13.2.2 = (0 : Int)))) && (decide (x23.2.2 = (0 : Int)))) && (decide (x35.2.2 = (0 : Int))))) hf rfl rfl rfl (RunV.pick rfl rfl rfl (by rw [hb39]; rfl)) ?_; clear hf a; intro a hf
    exact O.nil ⟨rfl, hf.to ⟨rfl, rfl, rfl, rfl, rfl, rfl, trivial⟩, hS⟩
   ·refine O.skipB hf rfl rfl rfl hb39 rfl ?_; clear hf a; intro a hf
    refine O.skipB hf rfl rfl rfl hb39 rfl ?_; clear hf a; intro a hf
    refine O.val (v := Bv (((x8 && (decide (x13.2.2 = (0 : Int)))) && (decide (x23.2.2 = (0 : Int)))) && (decide (x35.2.2 = (0 : Int))))) hf rfl rfl rfl (RunV.pick rfl rfl rfl (by rw [hb39]; rfl)) ?_; clear hf a; intro a hf
    exact O.nil ⟨rfl, hf.to ⟨rfl, rfl, rfl, rfl, rfl, rfl, trivial⟩, hS⟩
  clear hf hS a; try clear w
  rintro a w ⟨hf, hS⟩
  refine O.val hf rfl rfl rfl (RunV.move rfl) ?_; clear hf a; intro a hf
  refine O.cutN (l₁ := [14, 15, 16, 17]) (l₂ := _) (fun a w => Fr a 91 [] [(3, Pv b7 0), (4, Bv false), (7, Iv x13.2.1), (10, Iv x23.2.1), (13, Iv x35.2.1), (76, Bv ((((x8 && (decide (x13.2.2 = (0 : Int)))) && (decide (x23.2.2 = (0 : Int)))) && (decide (x35.2.2 = (0 : Int)))) && (decide (x23.2.1 ≥ (x13.2.1 : Int)))))] ∧ St w0 w noX [rdE 4 E24 s1 x2] [slE 33 2 E33 s36 x35.1, slE 24 4 E24 s34 ([(x3, x4, x5, x6)]), slE 33 2 E33 s24 x23.1, pt b20 (Cs #[Iv x3, Iv x4, Iv x5, Iv x6] 24), slE 24 4 E24 s22 ((([] : List (Int × Int × Int × Int)) ++ x2) ++ [(x3, x4, x5, x6)]), slE 33 2 E33 s14 x13.1, pt b7 (Cs #[Iv x3, Iv x4, Iv x5, Iv x6] 24)]) rfl ?_ ?_
  ·rcases Bool.eq_false_or_eq_true (((x8 && (decide (x13.2.2 = (0 : Int)))) && (decide (x23.2.2 = (0 : Int)))) && (decide (x35.2.2 = (0 : Int)))) with hb40 | hb40
   ·refine O.gvalB hf rfl rfl rfl hb40 rfl rfl (RunV.move rfl) ?_; clear hf a; intro a hf
    refine O.gvalB hf rfl rfl rfl hb40 rfl rfl (RunV.move rfl) ?_; clear hf a; intro a hf
    refine O.gvalB (v := Bv (decide (x23.2.1 ≥ (x13.2.1 : Int)))) hf rfl rfl rfl hb40 rfl rfl (RunV.geq rfl rfl) ?_; clear hf a; intro a hf
    refine O.val (v := Bv ((((x8 && (decide (x13.2.2 = (0 : Int)))) && (decide (x23.2.2 = (0 : Int)))) && (decide (x35.2.2 = (0 : Int)))) && (decide (x23.2.1 ≥ (x13.2.1 : Int))))) hf rfl rfl rfl (RunV.pick rfl rfl rfl (by rw [hb40]; rfl)) ?_; clear hf a; intro a hf
    exact O.nil ⟨rfl, hf.to ⟨rfl, rfl, rfl, rfl, rfl, rfl, trivial⟩, hS⟩
   ·refine O.skipB hf rfl rfl rfl hb40 rfl ?_; clear hf a; intro a hf
    refine O.skipB hf rfl rfl rfl hb40 rfl ?_; clear hf a; intro a hf
    refine O.skipB hf rfl rfl rfl hb40 rfl ?_; clear hf a; intro a hf
    refine O.val (v := Bv ((((x8 && (decide (x13.2.2 = (0 : Int)))) && (decide (x23.2.2 = (0 : Int)))) && (decide (x35.2.2 = (0 : Int)))) && (decide (x23.2.1 ≥ (x13.2.1 : Int))))) hf rfl rfl rfl (RunV.pick rfl rfl rfl (by rw [hb40]; rfl)) ?_; clear hf a; intro a hf
    exact O.nil ⟨rfl, hf.to ⟨rfl, rfl, rfl, rfl, rfl, rfl, trivial⟩, hS⟩
  clear hf hS a; try clear w
  rintro a w ⟨hf, hS⟩
  refine O.val hf rfl rfl rfl (RunV.move rfl) ?_; clear hf a; intro a hf
  refine O.cutN (l₁ := [19, 20, 21, 22, 23, 24, 25]) (l₂ := _) (fun a w => Fr a 91 [] [(3, Pv b7 0), (4, Bv false), (13, Iv x35.2.1), (84, Bv (((((x8 && (decide (x13.2.2 = (0 : Int)))) && (decide (x23.2.2 = (0 : Int)))) && (decide (x35.2.2 = (0 : Int)))) && (decide (x23.2.1 ≥ (x13.2.1 : Int)))) && (decide (x23.2.1 ≤ (IntKind.i64.wrap (x13.2.1 + x6) : Int)))))] ∧ St w0 w noX [rdE 4 E24 s1 x2] [slE 33 2 E33 s36 x35.1, slE 24 4 E24 s34 ([(x3, x4, x5, x6)]), slE 33 2 E33 s24 x23.1, pt b20 (Cs #[Iv x3, Iv x4, Iv x5, Iv x6] 24), slE 24 4 E24 s22 ((([] : List (Int × Int × Int × Int)) ++ x2) ++ [(x3, x4, x5, x6)]), slE 33 2 E33 s14 x13.1, pt b7 (Cs #[Iv x3, Iv x4, Iv x5, Iv x6] 24)]) rfl ?_ ?_
  ·rcases Bool.eq_false_or_eq_true ((((x8 && (decide (x13.2.2 = (0 : Int)))) && (decide (x23.2.2 = (0 : Int)))) && (decide (x35.2.2 = (0 : Int)))) && (decide (x23.2.1 ≥ (x13.2.1 : Int)))) with hb41 | hb41
   ·refine O.gvalB hf rfl rfl rfl hb41 rfl rfl (RunV.move rfl) ?_; clear hf a; intro a hf
    refine O.gvalB hf rfl rfl rfl hb41 rfl rfl (RunV.move rfl) ?_; clear hf a; intro a hf
    refine O.gvalB hf rfl rfl rfl hb41 rfl rfl (RunV.field T_field_24_3 rfl rfl) ?_; clear hf a; intro a hf
    refine O.gvalB hf rfl rfl rfl hb41 rfl rfl (RunV.load1 T_agg_3 rfl (hS.ptAt (i := 6) rfl) rfl) ?_; clear hf a; intro a hf
    refine O.gvalB (v := Iv (IntKind.i64.wrap (x13.2.1 + x6))) hf rfl rfl rfl hb41 rfl rfl (RunV.add rfl rfl) ?_; clear hf a; intro a hf
    refine O.gvalB (v := Bv (decide (x23.2.1 ≤ (IntKind.i64.wrap (x13.2.1 + x6) : Int)))) hf rfl rfl rfl hb41 rfl rfl (RunV.leq rfl rfl) ?_; clear hf a; intro a hf
    refine O.val (v := Bv (((((x8 && (decide (x13.2.2 = (0 : Int)))) && (decide (x23.2.2 = (0 : Int)))) && (decide (x35.2.2 = (0 : Int)))) && (decide (x23.2.1 ≥ (x13.2.1 : Int)))) && (decide (x23.2.1 ≤ (IntKind.i64.wrap (x13.2.1 + x6) : Int))))) hf rfl rfl rfl (RunV.pick rfl rfl rfl (by rw [hb41]; rfl)) ?_; clear hf a; intro a hf
    exact O.nil ⟨rfl, hf.to ⟨rfl, rfl, rfl, rfl, trivial⟩, hS⟩
   ·refine O.skipB hf rfl rfl rfl hb41 rfl ?_; clear hf a; intro a hf
    refine O.skipB hf rfl rfl rfl hb41 rfl ?_; clear hf a; intro a hf
    refine O.skipB hf rfl rfl rfl hb41 rfl ?_; clear hf a; intro a hf
    refine O.skipB hf rfl rfl rfl hb41 rfl ?_; clear hf a; intro a hf
    refine O.skipB hf rfl rfl rfl hb41 rfl ?_; clear hf a; intro a hf
    refine O.skipB hf rfl rfl rfl hb41 rfl ?_; clear hf a; intro a hf
    refine O.val (v := Bv (((((x8 && (decide (x13.2.2 = (0 : Int)))) && (decide (x23.2.2 = (0 : Int)))) && (decide (x35.2.2 = (0 : Int)))) && (decide (x23.2.1 ≥ (x13.2.1 : Int)))) && (decide (x23.2.1 ≤ (IntKind.i64.wrap (x13.2.1 + x6) : Int))))) hf rfl rfl rfl (RunV.pick rfl rfl rfl (by rw [hb41]; rfl)) ?_; clear hf a; intro a hf
    exact O.nil ⟨rfl, hf.to ⟨rfl, rfl, rfl, rfl, trivial⟩, hS⟩
  clear hf hS a; try clear w
  rintro a w ⟨hf, hS⟩
  refine O.val hf rfl rfl rfl (RunV.move rfl) ?_; clear hf a; intro a hf
  refine O.cutN (l₁ := [27, 28, 29, 30, 31]) (l₂ := _) (fun a w => Fr a 91 [] [(4, Bv false), (90, Bv ((((((x8 && (decide (x13.2.2 = (0 : Int)))) && (decide (x23.2.2 = (0 : Int)))) && (decide (x35.2.2 = (0 : Int)))) && (decide (x23.2.1 ≥ (x13.2.1 : Int)))) && (decide (x23.2.1 ≤ (IntKind.i64.wrap (x13.2.1 + x6) : Int)))) && (decide (x35.2.1 = (x6 : Int)))))] ∧ St w0 w noX [rdE 4 E24 s1 x2] [slE 33 2 E33 s36 x35.1, slE 24 4 E24 s34 ([(x3, x4, x5, x6)]), slE 33 2 E33 s24 x23.1, pt b20 (Cs #[Iv x3, Iv x4, Iv x5, Iv x6] 24), slE 24 4 E24 s22 ((([] : List (Int × Int × Int × Int)) ++ x2) ++ [(x3, x4, x5, x6)]), slE 33 2 E33 s14 x13.1, pt b7 (Cs #[Iv x3, Iv x4, Iv x5, Iv x6] 24)]) rfl ?_ ?_
  ·rcases Bool.eq_false_or_eq_true (((((x8 && (decide (x13.2.2 = (0 : Int)))) && (decide (x23.2.2 = (0 : Int)))) && (decide (x35.2.2 = (0 : Int)))) && (decide (x23.2.1 ≥ (x13.2.1 : Int)))) && (decide (x23.2.1 ≤ (IntKind.i64.wrap (x13.2.1 + x6) : Int)))) with hb42 | hb42
   ·refine O.gvalB hf rfl rfl rfl hb42 rfl rfl (RunV.move rfl) ?_; clear hf a; intro a hf
    refine O.gvalB hf rfl rfl rfl hb42 rfl rfl (RunV.field T_field_24_3 rfl rfl) ?_; clear hf a; intro a hf
    refine O.gvalB hf rfl rfl rfl hb42 rfl rfl (RunV.load1 T_agg_3 rfl (hS.ptAt (i := 6) rfl) rfl) ?_; clear hf a; intro a hf
    refine O.gvalB (v := Bv (decide (x35.2.1 = (x6 : Int)))) hf rfl rfl rfl hb42 rfl rfl (RunV.eql rfl rfl) ?_; clear hf a; intro a hf
    refine O.val (v := Bv ((((((x8 && (decide (x13.2.2 = (0 : Int)))) && (decide (x23.2.2 = (0 : Int)))) && (decide (x35.2.2 = (0 : Int)))) && (decide (x23.2.1 ≥ (x13.2.1 : Int)))) && (decide (x23.2.1 ≤ (IntKind.i64.wrap (x13.2.1 + x6) : Int)))) && (decide (x35.2.1 = (x6 : Int))))) hf rfl rfl rfl (RunV.pick rfl rfl rfl (by rw [hb42]; rfl)) ?_; clear hf a; intro a hf
    exact O.nil ⟨rfl, hf.to ⟨rfl, rfl, trivial⟩, hS⟩
   ·refine O.skipB hf rfl rfl rfl hb42 rfl ?_; clear hf a; intro a hf
    refine O.skipB hf rfl rfl rfl hb42 rfl ?_; clear hf a; intro a hf
    refine O.skipB hf rfl rfl rfl hb42 rfl ?_; clear hf a; intro a hf
    refine O.skipB hf rfl rfl rfl hb42 rfl ?_; clear hf a; intro a hf
    refine O.val (v := Bv ((((((x8 && (decide (x13.2.2 = (0 : Int)))) && (decide (x23.2.2 = (0 : Int)))) && (decide (x35.2.2 = (0 : Int)))) && (decide (x23.2.1 ≥ (x13.2.1 : Int)))) && (decide (x23.2.1 ≤ (IntKind.i64.wrap (x13.2.1 + x6) : Int)))) && (decide (x35.2.1 = (x6 : Int))))) hf rfl rfl rfl (RunV.pick rfl rfl rfl (by rw [hb42]; rfl)) ?_; clear hf a; intro a hf
    exact O.nil ⟨rfl, hf.to ⟨rfl, rfl, trivial⟩, hS⟩
  clear hf hS a; try clear w
  rintro a w ⟨hf, hS⟩
  refine O.val hf rfl rfl rfl (RunV.assign rfl) ?_; clear hf a; intro a hf
  refine O.nil ?_
  refine k_seq ?_
  replace hf : Fr a 91 [] [(4, Bv ((((((x8 && (decide (x13.2.2 = (0 : Int)))) && (decide (x23.2.2 = (0 : Int)))) && (decide (x35.2.2 = (0 : Int)))) && (decide (x23.2.1 ≥ (x13.2.1 : Int)))) && (decide (x23.2.1 ≤ (IntKind.i64.wrap (x13.2.1 + x6) : Int)))) && (decide (x35.2.1 = (x6 : Int)))))] := hf.to ⟨rfl, trivial⟩
  refine W.ret ?_
  obtain rfl := Option.some.inj hm
  refine post1 hf rfl (ResOK.tmp rfl) ?_
  replace hS := hS.sub (N := []) (.cons _ (.cons _ (.cons _ (.cons _ (.cons _ (.cons _ (.cons _ .slnil)))))))
  exact ⟨(), rfl, hS.noB⟩
end Go.Proofs.Ytipedambeemdaaa
