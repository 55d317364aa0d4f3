/- Part of a proof: walks printed by a program. -/
import Derived.Test.YtipedambeemdaaaWad
set_option linter.unusedVariables false
set_option linter.unusedSimpArgs false
namespace Go.Proofs.Ytipedambeemdaaa
open Go Go.SL
set_option maxHeartbeats 1000000 in
set_option maxRecDepth 8000 in
theorem m_law42_PlanBest_ok (F : Nat)    (s1 : Value) (x2 : List (Int × Int × Int × Int)) (s3 : Value) (x4 : List Int) (w0 : World) (h_s1 : rdEOK (hp w0) 4 E24 s1 x2) (h_s3 : rdEOK (hp w0) 1 E3 s3 x4) (r : Bool) (hm : m_law42_PlanBest F x2 x4 = some r) :
    Ret Try.prog 6 #[s1, s3] w0 (G := Unit) (fun _ => Bv r) (fun _ w => St w0 w noX [] []) := by
 unfold m_law42_PlanBest at hm
 refine ret_of_W (lv := [s1, s3]) Try.func6 rfl rfl rfl (fun a hf => ?_)
 replace hf : Fr a 172 [] [(0, s1), (1, s3)] := hf
 have hS : St w0 w0 noX [rdE 4 E24 s1 x2, rdE 1 E3 s3 x4] [] := St.borrow (lendAll_cons (lendRd h_s1) (lendAll_cons (lendRd h_s3) lendAll_nil))
 refine W.seq ?_
 refine W.regionL (l := [0]) rfl ?_
 refine O.val hf rfl rfl rfl (RunV.assign rfl) ?_; clear hf a; intro a hf
 refine O.nil ?_
 refine k_seq ?_
 refine W.seq ?_
 refine W.regionL (l := [0, 1]) rfl ?_
 obtain ⟨x5, hx5, hm⟩ := hm_b hm
 refine O.callR hf rfl rfl rfl (RunE.call (av := #[]) C_ok_7 rfl rfl rfl) (m_law42_alive_ok F _ x5 hx5) ?_
 clear hf a; rintro _ w hS1 a hf
 replace hf : Fr a _ _ ((18, Bv x5) :: _) := hf
 replace hS := (hS.call hS1).eqM (N := []) rfl
 clear hS1
 refine O.val hf rfl rfl rfl (RunV.assign rfl) ?_; clear hf a; intro a hf
 refine O.nil ?_
 refine k_seq ?_
 replace hf : Fr a 172 [] [(0, s1), (1, s3), (4, Bv false), (5, Bv x5)] := hf.to ⟨rfl, rfl, rfl, rfl, trivial⟩
 refine W.seq ?_
 refine W.seq ?_
 refine W.regionL (l := [0, 1, 2, 3, 4, 5, 6, 7, 8, 9, 10, 11, 12, 13, 14, 15, 16, 17, 18, 19, 20]) rfl ?_
 refine O.val hf rfl rfl rfl (RunV.move rfl) ?_; clear hf a; intro a hf
 obtain ⟨x6, hx6, hm⟩ := hm_b hm
 refine O.callR hf rfl rfl rfl (RunE.call (av := #[s1]) C_ok_15 rfl rfl rfl) (m_law42_great_ok F s1 x2 _ (hS.rdB (j := 0) rfl) x6 hx6) ?_
 clear hf a; rintro _ w hS1 a hf
 replace hf : Fr a _ _ ((20, Bv x6) :: _) := hf
 replace hS := (hS.call hS1).eqM (N := []) rfl
 clear hS1
 refine O.val hf rfl rfl rfl (RunV.move rfl) ?_; clear hf a; intro a hf
 refine O.cutN (l₁ := [3, 4, 5, 6]) (l₂ := _) (fun a w => Fr a 172 [] [(0, s1), (1, s3), (4, Bv false), (5, Bv x5), (25, Bv (x6 || (decide ((x2.length : Int) > (5 : Int)))))] ∧ St w0 w noX [rdE 4 E24 s1 x2, rdE 1 E3 s3 x4] []) rfl ?_ ?_
 ·rcases Bool.eq_false_or_eq_true (x6) with hb7 | hb7
  ·refine O.skipB hf rfl rfl rfl hb7 rfl ?_; clear hf a; intro a hf
   refine O.skipB hf rfl rfl rfl hb7 rfl ?_; clear hf a; intro a hf
   refine O.skipB hf rfl rfl rfl hb7 rfl ?_; clear hf a; intro a hf
   refine O.val (v := Bv (x6 || (decide ((x2.length : Int) > (5 : Int))))) hf rfl rfl rfl (RunV.pick rfl rfl rfl (by rw [hb7]; rfl)) ?_; clear hf a; intro a hf
   exact O.nil ⟨rfl, hf.to ⟨rfl, rfl, rfl, rfl, rfl, trivial⟩, hS⟩
  ·refine O.gvalB hf rfl rfl rfl hb7 rfl rfl (RunV.move rfl) ?_; clear hf a; intro a hf
   refine O.gvalB (v := Iv (x2.length : Int)) hf rfl rfl rfl hb7 rfl rfl (RunV.lenE (e := 24) (by simpa using T_elem_22) rfl (hS.rdB (j := 0) rfl)) ?_; clear hf a; intro a hf
   refine O.gvalB (v := Bv (decide ((x2.length : Int) > (5 : Int)))) hf rfl rfl rfl hb7 rfl rfl (RunV.gtr rfl rfl) ?_; clear hf a; intro a hf
   refine O.val (v := Bv (x6 || (decide ((x2.length : Int) > (5 : Int))))) hf rfl rfl rfl (RunV.pick rfl rfl rfl (by rw [hb7]; rfl)) ?_; clear hf a; intro a hf
   exact O.nil ⟨rfl, hf.to ⟨rfl, rfl, rfl, rfl, rfl, trivial⟩, hS⟩
 clear hf hS a; try clear w
 rintro a w ⟨hf, hS⟩
 refine O.val hf rfl rfl rfl (RunV.move rfl) ?_; clear hf a; intro a hf
 refine O.cutN (l₁ := [8, 9, 10, 11]) (l₂ := _) (fun a w => ∃ (x8 : Bool), Fr a 172 [] [(0, s1), (1, s3), (4, Bv false), (5, Bv x5), (30, Bv x8)] ∧ St w0 w noX [rdE 4 E24 s1 x2, rdE 1 E3 s3 x4] [] ∧ m_law42_PlanBest_j6 F x4 x5 x2 x8 = some r) rfl ?_ ?_
 ·rcases Bool.eq_false_or_eq_true (x6 || (decide ((x2.length : Int) > (5 : Int)))) with hb57 | hb57
  ·replace hm := hm_t hm hb57
   refine O.skipB hf rfl rfl rfl hb57 rfl ?_; clear hf a; intro a hf
   refine O.skipB hf rfl rfl rfl hb57 rfl ?_; clear hf a; intro a hf
   refine O.skipB hf rfl rfl rfl hb57 rfl ?_; clear hf a; intro a hf
   refine O.val (v := Bv true) hf rfl rfl rfl (RunV.pick rfl rfl rfl (by rw [hb57]; rfl)) ?_; clear hf a; intro a hf
   exact O.nil ⟨rfl, true, hf.to ⟨rfl, rfl, rfl, rfl, rfl, trivial⟩, hS, hm⟩
  ·replace hm := hm_f hm hb57
   refine O.gvalB hf rfl rfl rfl hb57 rfl rfl (RunV.move rfl) ?_; clear hf a; intro a hf
   obtain ⟨x58, hx58, hm⟩ := hm_b hm
   refine O.gcallR hf rfl rfl rfl hb57 rfl rfl (RunE.call (av := #[s1]) C_ok_8 rfl rfl rfl) (m_ref42_Check_ok F s1 x2 _ (hS.rdB (j := 0) rfl) x58 hx58) ?_
   clear hf a; rintro _ w hS1 a hf
   replace hf : Fr a _ _ ((28, Iv x58) :: _) := hf
   replace hS := (hS.call hS1).eqM (N := []) rfl
   clear hS1
   refine O.gvalB (v := Bv (decide (x58 ≠ (0 : Int)))) hf rfl rfl rfl hb57 rfl rfl (RunV.neq rfl rfl) ?_; clear hf a; intro a hf
   refine O.val (v := Bv (decide (x58 ≠ (0 : Int)))) hf rfl rfl rfl (RunV.pick rfl rfl rfl (by rw [hb57]; rfl)) ?_; clear hf a; intro a hf
   exact O.nil ⟨rfl, decide (x58 ≠ (0 : Int)), hf.to ⟨rfl, rfl, rfl, rfl, rfl, trivial⟩, hS, hm⟩
 clear hf hS hm a; try clear w
 rintro a w ⟨x8, hf, hS, hm⟩
 unfold m_law42_PlanBest_j6 at hm
 refine O.val hf rfl rfl rfl (RunV.move rfl) ?_; clear hf a; intro a hf
 refine O.cutN (l₁ := [13, 14, 15, 16]) (l₂ := _) (fun a w => Fr a 172 [] [(0, s1), (1, s3), (4, Bv false), (5, Bv x5), (35, Bv (x8 || (decide ((x4.length : Int) > (8 : Int)))))] ∧ St w0 w noX [rdE 4 E24 s1 x2, rdE 1 E3 s3 x4] []) rfl ?_ ?_
 ·rcases Bool.eq_false_or_eq_true (x8) with hb9 | hb9
  ·refine O.skipB hf rfl rfl rfl hb9 rfl ?_; clear hf a; intro a hf
   refine O.skipB hf rfl rfl rfl hb9 rfl ?_; clear hf a; intro a hf
   refine O.skipB hf rfl rfl rfl hb9 rfl ?_; clear hf a; intro a hf
   refine O.val (v := Bv (x8 || (decide ((x4.length : Int) > (8 : Int))))) hf rfl rfl rfl (RunV.pick rfl rfl rfl (by rw [hb9]; rfl)) ?_; clear hf a; intro a hf
   exact O.nil ⟨rfl, hf.to ⟨rfl, rfl, rfl, rfl, rfl, trivial⟩, hS⟩
  ·refine O.gvalB hf rfl rfl rfl hb9 rfl rfl (RunV.move rfl) ?_; clear hf a; intro a hf
   refine O.gvalB (v := Iv (x4.length : Int)) hf rfl rfl rfl hb9 rfl rfl (RunV.lenE (e := 3) (by simpa using T_elem_49) rfl (hS.rdB (j := 1) rfl)) ?_; clear hf a; intro a hf
   refine O.gvalB (v := Bv (decide ((x4.length : Int) > (8 : Int)))) hf rfl rfl rfl hb9 rfl rfl (RunV.gtr rfl rfl) ?_; clear hf a; intro a hf
   refine O.val (v := Bv (x8 || (decide ((x4.length : Int) > (8 : Int))))) hf rfl rfl rfl (RunV.pick rfl rfl rfl (by rw [hb9]; rfl)) ?_; clear hf a; intro a hf
   exact O.nil ⟨rfl, hf.to ⟨rfl, rfl, rfl, rfl, rfl, trivial⟩, hS⟩
 clear hf hS a; try clear w
 rintro a w ⟨hf, hS⟩
 refine O.val hf rfl rfl rfl (RunV.move rfl) ?_; clear hf a; intro a hf
 refine O.cutN (l₁ := [18, 19, 20]) (l₂ := _) (fun a w => Fr a 172 [] [(0, s1), (1, s3), (4, Bv false), (5, Bv x5), (39, Bv ((x8 || (decide ((x4.length : Int) > (8 : Int)))) || (!x5)))] ∧ St w0 w noX [rdE 4 E24 s1 x2, rdE 1 E3 s3 x4] []) rfl ?_ ?_
 ·rcases Bool.eq_false_or_eq_true (x8 || (decide ((x4.length : Int) > (8 : Int)))) with hb10 | hb10
  ·refine O.skipB hf rfl rfl rfl hb10 rfl ?_; clear hf a; intro a hf
   refine O.skipB hf rfl rfl rfl hb10 rfl ?_; clear hf a; intro a hf
   refine O.val (v := Bv ((x8 || (decide ((x4.length : Int) > (8 : Int)))) || (!x5))) hf rfl rfl rfl (RunV.pick rfl rfl rfl (by rw [hb10]; rfl)) ?_; clear hf a; intro a hf
   exact O.nil ⟨rfl, hf.to ⟨rfl, rfl, rfl, rfl, rfl, trivial⟩, hS⟩
  ·refine O.gvalB hf rfl rfl rfl hb10 rfl rfl (RunV.move rfl) ?_; clear hf a; intro a hf
   refine O.gvalB (v := Bv (!x5)) hf rfl rfl rfl hb10 rfl rfl (RunV.not rfl) ?_; clear hf a; intro a hf
   refine O.val (v := Bv ((x8 || (decide ((x4.length : Int) > (8 : Int)))) || (!x5))) hf rfl rfl rfl (RunV.pick rfl rfl rfl (by rw [hb10]; rfl)) ?_; clear hf a; intro a hf
   exact O.nil ⟨rfl, hf.to ⟨rfl, rfl, rfl, rfl, rfl, trivial⟩, hS⟩
 clear hf hS a; try clear w
 rintro a w ⟨hf, hS⟩
 refine O.nil ?_
 refine k_seq ?_
 refine W.if_ hf rfl (fun hc11 => ?_) (fun hc11 => ?_)
 ·replace hm := hm_t hm hc11
  refine W.seq ?_
  refine W.regionL (l := [0, 1]) rfl ?_
  refine O.val hf rfl rfl rfl (RunV.move rfl) ?_; clear hf a; intro a hf
  refine O.val hf rfl rfl rfl (RunV.assign rfl) ?_; clear hf a; intro a hf
  refine O.nil ?_
  refine k_seq ?_
  replace hf : Fr a 172 [] [(0, s1), (1, s3), (4, Bv x5), (5, Bv x5)] := hf.to ⟨rfl, rfl, rfl, rfl, trivial⟩
  refine W.ret ?_
  refine k_then_ret ?_
  obtain rfl := Option.some.inj hm
  refine post1 hf rfl (ResOK.tmp rfl) ?_
  exact ⟨(), rfl, hS.noB⟩
 ·replace hm := hm_f hm hc11
  refine W.skip ?_
  refine k_seq ?_
  replace hf : Fr a 172 [] [(0, s1), (1, s3), (4, Bv false), (5, Bv x5)] := hf.to ⟨rfl, rfl, rfl, rfl, trivial⟩
  refine W.seq ?_
  refine W.regionL (l := [0, 1, 2, 3, 4, 5, 6, 7, 8]) rfl ?_
  refine O.val hf rfl rfl rfl (RunV.move rfl) ?_; clear hf a; intro a hf
  obtain ⟨x12, hx12, hm⟩ := hm_b hm
  refine O.callR hf rfl rfl rfl (RunE.call (av := #[s1]) C_ok_9 rfl rfl rfl) (m_plan_Best_ok F s1 x2 _ (hS.rdB (j := 0) rfl) x12 hx12) ?_
  clear hf a; rintro s13 w hS1 a hf
  replace hf : Fr a _ _ ((43, .tuple #[s13, Iv x12.2.1, Iv x12.2.2]) :: _) := hf
  replace hS := (hS.call hS1).eqM (N := [slE 33 2 E33 s13 x12.1]) rfl
  clear hS1
  refine O.val hf rfl rfl rfl (RunV.move rfl) ?_; clear hf a; intro a hf
  refine O.val hf rfl rfl rfl (RunV.extract rfl rfl) ?_; clear hf a; intro a hf
  refine O.val hf rfl rfl rfl (RunV.extract rfl rfl) ?_; clear hf a; intro a hf
  refine O.val hf rfl rfl rfl (RunV.extract rfl rfl) ?_; clear hf a; intro a hf
  refine O.val hf rfl rfl rfl (RunV.assign rfl) ?_; clear hf a; intro a hf
  refine O.val hf rfl rfl rfl (RunV.assign rfl) ?_; clear hf a; intro a hf
  refine O.val hf rfl rfl rfl (RunV.assign rfl) ?_; clear hf a; intro a hf
  refine O.nil ?_
  refine k_seq ?_
  replace hf : Fr a 172 [] [(0, s1), (1, s3), (4, Bv false), (5, Bv x5), (6, s13), (7, Iv x12.2.1), (8, Iv x12.2.2)] := hf.to ⟨rfl, rfl, rfl, rfl, rfl, rfl, rfl, trivial⟩
  refine W.seq ?_
  refine W.seq ?_
  refine W.regionL (l := [0, 1]) rfl ?_
  refine O.val hf rfl rfl rfl (RunV.move rfl) ?_; clear hf a; intro a hf
  refine O.val (v := Bv (decide (x12.2.2 ≠ (0 : Int)))) hf rfl rfl rfl (RunV.neq rfl rfl) ?_; clear hf a; intro a hf
  refine O.nil ?_
  refine k_seq ?_
  replace hf : Fr a 172 [] [(0, s1), (1, s3), (4, Bv false), (5, Bv x5), (6, s13), (7, Iv x12.2.1), (48, Bv (decide (x12.2.2 ≠ (0 : Int))))] := hf.to ⟨rfl, rfl, rfl, rfl, rfl, rfl, rfl, trivial⟩
  refine W.ifdI hf rfl (fun hc14 => ?_) (fun hc14 => ?_)
  ·replace hm := hm_p hm hc14
   refine W.seq ?_
   refine W.regionL (l := [0]) rfl ?_
   refine O.val hf rfl rfl rfl (RunV.assign rfl) ?_; clear hf a; intro a hf
   refine O.nil ?_
   refine k_seq ?_
   replace hf : Fr a 172 [] [(0, s1), (1, s3), (4, Bv false), (5, Bv x5), (6, s13), (7, Iv x12.2.1)] := hf.to ⟨rfl, rfl, rfl, rfl, rfl, rfl, trivial⟩
   refine W.ret ?_
   refine k_then_ret ?_
   obtain rfl := Option.some.inj hm
   refine post1 hf rfl (ResOK.tmp rfl) ?_
   replace hS := hS.sub (N := []) (.cons _ .slnil)
   exact ⟨(), rfl, hS.noB⟩
  ·replace hm := hm_n hm hc14
   refine W.skip ?_
   refine k_seq ?_
   replace hf : Fr a 172 [] [(0, s1), (1, s3), (4, Bv false), (5, Bv x5), (6, s13), (7, Iv x12.2.1)] := hf.to ⟨rfl, rfl, rfl, rfl, rfl, rfl, trivial⟩
   refine W.seq ?_
   refine W.regionL (l := [0]) rfl ?_
   refine O.val hf rfl rfl rfl (RunV.assign rfl) ?_; clear hf a; intro a hf
   refine O.nil ?_
   refine k_seq ?_
   refine W.seqR (fun a w => ∃ (s15 : Value) (x16 : List Int), Fr a 172 [] [(0, s1), (1, s3), (4, Bv false), (5, Bv x5), (6, s13), (7, Iv x12.2.1), (9, s15)] ∧ St w0 w noX [rdE 4 E24 s1 x2, rdE 1 E3 s3 x4] [slE 33 2 E33 s13 x12.1, slE 3 1 E3 s15 x16] ∧ m_law42_PlanBest_j4 F x2 x4 x5 x12 x16 = some r) ?_ ?_
   ·refine W.seq ?_
    refine W.regionL (l := [0]) rfl ?_
    refine O.val hf rfl rfl rfl (RunV.assign rfl) ?_; clear hf a; intro a hf
    refine O.nil ?_
    refine k_seq ?_
    refine W.block ?_
    replace hS := hS.nilE 3 1 E3
    replace hS := hS.front (i := 1) (M' := [slE 33 2 E33 s13 x12.1, slE 3 1 E3 (.slice none 0 0) ([] : List Int)]) rfl rfl
    refine W.loop (G := Nat × Value × (List Int) × Int) (fun g a w => match g with | (k49, s46, x47, x48) => Fr a 172 [] [(0, s1), (1, s3), (4, Bv false), (5, Bv x5), (6, s13), (7, Iv x12.2.1), (9, s46), (10, Iv x48)] ∧ St w0 w noX [rdE 4 E24 s1 x2, rdE 1 E3 s3 x4] [slE 33 2 E33 s13 x12.1, slE 3 1 E3 s46 x47] ∧ m_law42_PlanBest_l5 F x12 x2 x4 x5 k49 x47 x48 = some r) (fun g => match g with | (k49, s46, x47, x48) => k49) (F, (.slice none 0 0), ([] : List Int), 0) ⟨hf.to ⟨rfl, rfl, rfl, rfl, rfl, rfl, rfl, rfl, trivial⟩, hS, hm⟩ ?_
    clear hf hS hm a; try clear w
    rintro ⟨k49, s46, x47, x48⟩ a w ⟨hf, hS, hm⟩
    rcases k49 with _ | k49
    · exact absurd (show none = some r from hm) (by simp)
    replace hm : m_law42_PlanBest_b5 F x12 x2 x4 x5 (m_law42_PlanBest_l5 F x12 x2 x4 x5 k49) x47 x48 = some r := hm
    obtain ⟨rec49, hrec49⟩ : ∃ f, f = m_law42_PlanBest_l5 F x12 x2 x4 x5 k49 := ⟨_, rfl⟩
    rw [← hrec49] at hm; unfold m_law42_PlanBest_b5 at hm
    refine W.seq ?_
    refine W.seq ?_
    refine W.regionL (l := [0, 1, 2, 3]) rfl ?_
    refine O.val hf rfl rfl rfl (RunV.move rfl) ?_; clear hf a; intro a hf
    refine O.val hf rfl rfl rfl (RunV.move rfl) ?_; clear hf a; intro a hf
    refine O.val (v := Iv (x12.1.length : Int)) hf rfl rfl rfl (RunV.lenE (e := 33) (by simpa using T_elem_27) rfl (hS.rdS (j := 0) rfl)) ?_; clear hf a; intro a hf
    refine O.val (v := Bv (decide (x48 < ((x12.1.length : Int) : Int)))) hf rfl rfl rfl (RunV.lss rfl rfl) ?_; clear hf a; intro a hf
    refine O.nil ?_
    refine k_seq ?_
    refine W.ifdI hf rfl (fun hc50 => ?_) (fun hc50 => ?_)
    ·replace hm := hm_p hm hc50
     refine W.skip ?_
     refine k_seq ?_
     refine W.seq ?_
     refine W.block ?_
     refine W.seq ?_
     refine W.seq ?_
     refine W.regionL (l := [0, 1, 2, 3, 4, 5, 6, 7, 8, 9, 10, 11, 12, 13, 14, 15]) rfl ?_
     refine O.val hf rfl rfl rfl (RunV.move rfl) ?_; clear hf a; intro a hf
     refine O.val hf rfl rfl rfl (RunV.move rfl) ?_; clear hf a; intro a hf
     obtain ⟨x51, hx51, hm⟩ := hm_b hm
     refine O.val hf rfl rfl rfl (RunV.ixE T_elem_27 T_size_33 rfl rfl (hS.rdS (j := 0) rfl) hx51) ?_; clear hf a; intro a hf
     refine O.val hf rfl rfl rfl (RunV.ixFE T_field_33_0 rfl (hS.rdS (j := 0) rfl) hx51 rfl) ?_; clear hf a; intro a hf
     refine O.val hf rfl rfl rfl (RunV.ldE1 (o := 0) T_agg_3 E33_len rfl (hS.rdS (j := 0) rfl) hx51 rfl rfl) ?_; clear hf a; intro a hf
     refine O.val (v := Bv (decide (x51.1 < (0 : Int)))) hf rfl rfl rfl (RunV.lss rfl rfl) ?_; clear hf a; intro a hf
     refine O.val hf rfl rfl rfl (RunV.move rfl) ?_; clear hf a; intro a hf
     refine O.cutN (l₁ := [7, 8, 9, 10, 11, 12, 13, 14, 15]) (l₂ := _) (fun a w => Fr a 172 [] [(0, s1), (1, s3), (4, Bv false), (5, Bv x5), (6, s13), (7, Iv x12.2.1), (9, s46), (10, Iv x48), (49, Iv x48), (50, s13), (51, Iv (x12.1.length : Int)), (52, Bv (decide (x48 < ((x12.1.length : Int) : Int)))), (55, s13), (56, Iv x48), (57, ix s13 (Int.toNat x48 * 2)), (58, ix s13 (Int.toNat x48 * 2)), (59, Iv x51.1), (60, Bv (decide (x51.1 < (0 : Int)))), (61, Bv (decide (x51.1 < (0 : Int)))), (70, Bv ((decide (x51.1 < (0 : Int))) || (decide (x51.1 ≥ ((x2.length : Int) : Int)))))] ∧ St w0 w noX [rdE 4 E24 s1 x2, rdE 1 E3 s3 x4] [slE 33 2 E33 s13 x12.1, slE 3 1 E3 s46 x47]) rfl ?_ ?_
     ·rcases Bool.eq_false_or_eq_true (decide (x51.1 < (0 : Int))) with hb52 | hb52
      ·refine O.skipB hf rfl rfl rfl hb52 rfl ?_; clear hf a; intro a hf
       refine O.skipB hf rfl rfl rfl hb52 rfl ?_; clear hf a; intro a hf
       refine O.skipB hf rfl rfl rfl hb52 rfl ?_; clear hf a; intro a hf
       refine O.skipB hf rfl rfl rfl hb52 rfl ?_; clear hf a; intro a hf
       refine O.skipB hf rfl rfl rfl hb52 rfl ?_; clear hf a; intro a hf
       refine O.skipB hf rfl rfl rfl hb52 rfl ?_; clear hf a; intro a hf
       refine O.skipB hf rfl rfl rfl hb52 rfl ?_; clear hf a; intro a hf
       refine O.skipB hf rfl rfl rfl hb52 rfl ?_; clear hf a; intro a hf
       refine O.val (v := Bv ((decide (x51.1 < (0 : Int))) || (decide (x51.1 ≥ ((x2.length : Int) : Int))))) hf rfl rfl rfl (RunV.pick rfl rfl rfl (by rw [hb52]; rfl)) ?_; clear hf a; intro a hf
       exact O.nil ⟨rfl, hf.to ⟨rfl, rfl, rfl, rfl, rfl, rfl, rfl, rfl, rfl, rfl, rfl, rfl, rfl, rfl, rfl, rfl, rfl, rfl, rfl, rfl, trivial⟩, hS⟩
      ·refine O.gvalB hf rfl rfl rfl hb52 rfl rfl (RunV.move rfl) ?_; clear hf a; intro a hf
       refine O.gvalB hf rfl rfl rfl hb52 rfl rfl (RunV.move rfl) ?_; clear hf a; intro a hf
       refine O.gvalB hf rfl rfl rfl hb52 rfl rfl (RunV.ixE T_elem_27 T_size_33 rfl rfl (hS.rdS (j := 0) rfl) hx51) ?_; clear hf a; intro a hf
       refine O.gvalB hf rfl rfl rfl hb52 rfl rfl (RunV.ixFE T_field_33_0 rfl (hS.rdS (j := 0) rfl) hx51 rfl) ?_; clear hf a; intro a hf
       refine O.gvalB hf rfl rfl rfl hb52 rfl rfl (RunV.ldE1 (o := 0) T_agg_3 E33_len rfl (hS.rdS (j := 0) rfl) hx51 rfl rfl) ?_; clear hf a; intro a hf
       refine O.gvalB hf rfl rfl rfl hb52 rfl rfl (RunV.move rfl) ?_; clear hf a; intro a hf
       refine O.gvalB (v := Iv (x2.length : Int)) hf rfl rfl rfl hb52 rfl rfl (RunV.lenE (e := 24) (by simpa using T_elem_22) rfl (hS.rdB (j := 0) rfl)) ?_; clear hf a; intro a hf
       refine O.gvalB (v := Bv (decide (x51.1 ≥ ((x2.length : Int) : Int)))) hf rfl rfl rfl hb52 rfl rfl (RunV.geq rfl rfl) ?_; clear hf a; intro a hf
       refine O.val (v := Bv ((decide (x51.1 < (0 : Int))) || (decide (x51.1 ≥ ((x2.length : Int) : Int))))) hf rfl rfl rfl (RunV.pick rfl rfl rfl (by rw [hb52]; rfl)) ?_; clear hf a; intro a hf
       exact O.nil ⟨rfl, hf.to ⟨rfl, rfl, rfl, rfl, rfl, rfl, rfl, rfl, rfl, rfl, rfl, rfl, rfl, rfl, rfl, rfl, rfl, rfl, rfl, rfl, trivial⟩, hS⟩
     clear hf hS a; try clear w
     rintro a w ⟨hf, hS⟩
     refine O.nil ?_
     refine k_seq ?_
     refine W.if_ hf rfl (fun hc53 => ?_) (fun hc53 => ?_)
     ·replace hm := hm_t hm hc53
      refine W.seq ?_
      refine W.regionL (l := [0]) rfl ?_
      refine O.val hf rfl rfl rfl (RunV.assign rfl) ?_; clear hf a; intro a hf
      refine O.nil ?_
      refine k_seq ?_
      refine W.ret ?_
      refine k_then_ret ?_
      refine k_blk_ret ?_
      refine k_then_ret ?_
      refine k_then_ret ?_
      refine k_blk_ret ?_
      refine k_then_ret ?_
      obtain rfl := Option.some.inj hm
      refine post1 hf rfl (ResOK.tmp rfl) ?_
      replace hS := hS.sub (N := []) (.cons _ (.cons _ .slnil))
      exact ⟨(), rfl, hS.noB⟩
     ·replace hm := hm_f hm hc53
      refine W.skip ?_
      refine k_seq ?_
      refine W.regionL (l := [0, 1, 2, 3, 4, 5, 6, 7, 8]) rfl ?_
      refine O.val hf rfl rfl rfl (RunV.move rfl) ?_; clear hf a; intro a hf
      refine O.val hf rfl rfl rfl (RunV.move rfl) ?_; clear hf a; intro a hf
      refine O.val hf rfl rfl rfl (RunV.move rfl) ?_; clear hf a; intro a hf
      refine O.val hf rfl rfl rfl (RunV.ixE T_elem_27 T_size_33 rfl rfl (hS.rdS (j := 0) rfl) hx51) ?_; clear hf a; intro a hf
      refine O.val hf rfl rfl rfl (RunV.ixFE T_field_33_0 rfl (hS.rdS (j := 0) rfl) hx51 rfl) ?_; clear hf a; intro a hf
      refine O.val hf rfl rfl rfl (RunV.ldE1 (o := 0) T_agg_3 E33_len rfl (hS.rdS (j := 0) rfl) hx51 rfl rfl) ?_; clear hf a; intro a hf
      refine O.buildSlice (cs' := #[Iv x51.1]) (zs := #[Iv 0]) hf hS rfl rfl T_elem_49 T_size_3 T_zero_3 rfl rfl rfl rfl rfl ?_
      clear hf hS a; intro b54 w a hb54 hS hf
      obtain ⟨hg55, hm⟩ := hm_g hm
      refine O.appendE1 (j := 2) (jj := 0) (enc := E3) (m := [x51.1]) (l' := x47 ++ [x51.1]) hf hS rfl rfl T_elem_49 T_size_3 T_bytes_3 T_zero_3 rfl rfl rfl rfl rfl rfl rfl rfl rfl rfl hg55 rfl rfl rfl ?_
      clear hf hS a; intro s56 w a hS hf
      replace hS : St w0 _ noX [rdE 4 E24 s1 x2, rdE 1 E3 s3 x4] [pt b54 (Cs #[Iv x51.1] 3), slE 33 2 E33 s13 x12.1, slE 3 1 E3 s56 (x47 ++ [x51.1])] := hS
      refine O.val hf rfl rfl rfl (RunV.assign rfl) ?_; clear hf a; intro a hf
      refine O.nil ?_
      refine k_blk_normal ?_
      refine k_seq ?_
      refine W.regionL (l := [0, 1, 2]) rfl ?_
      refine O.val hf rfl rfl rfl (RunV.move rfl) ?_; clear hf a; intro a hf
      refine O.val (v := Iv (IntKind.i64.wrap (x48 + 1))) hf rfl rfl rfl (RunV.add rfl rfl) ?_; clear hf a; intro a hf
      refine O.val hf rfl rfl rfl (RunV.assign rfl) ?_; clear hf a; intro a hf
      refine O.nil ?_
      replace hS := hS.sub (N := [slE 33 2 E33 s13 x12.1, slE 3 1 E3 s56 (x47 ++ [x51.1])]) (.cons _ (.cons_cons _ (.cons_cons _ .slnil)))
      refine k_then ⟨(k49, s56, x47 ++ [x51.1], IntKind.i64.wrap (x48 + 1)), ⟨hf.to ⟨rfl, rfl, rfl, rfl, rfl, rfl, rfl, rfl, trivial⟩, hS, ?_⟩, Nat.lt_succ_self _⟩
      rw [hrec49] at hm; exact hm
    ·replace hm := hm_n hm hc50
     refine W.exit ?_
     refine k_then_exit ?_
     refine k_then_exit ?_
     refine k_blk ?_
     exact k_then ⟨s46, x47, hf.to ⟨rfl, rfl, rfl, rfl, rfl, rfl, rfl, trivial⟩, hS, hm⟩
   ·clear hf hS hm a; try clear w
    rintro a w ⟨s15, x16, hf, hS, hm⟩
    unfold m_law42_PlanBest_j4 at hm
    refine W.seq ?_
    refine W.regionL (l := [0, 1, 2, 3, 4, 5, 6, 7]) rfl ?_
    refine O.val hf rfl rfl rfl (RunV.move rfl) ?_; clear hf a; intro a hf
    refine O.val hf rfl rfl rfl (RunV.move rfl) ?_; clear hf a; intro a hf
    obtain ⟨x17, hx17, hm⟩ := hm_b hm
    refine O.callR hf rfl rfl rfl (RunE.call (av := #[s1, s15]) C_ok_16 rfl rfl rfl) (m_plan_Follow_ok F s1 x2 s15 x16 _ (hS.rdB (j := 0) rfl) (hS.rdS (j := 1) rfl) x17 hx17) ?_
    clear hf a; rintro s18 w hS1 a hf
    replace hf : Fr a _ _ ((82, .tuple #[s18, Iv x17.2]) :: _) := hf
    replace hS := (hS.call hS1).eqM (N := [slE 33 2 E33 s18 x17.1, slE 33 2 E33 s13 x12.1, slE 3 1 E3 s15 x16]) rfl
    clear hS1
    refine O.val hf rfl rfl rfl (RunV.move rfl) ?_; clear hf a; intro a hf
    refine O.val hf rfl rfl rfl (RunV.extract rfl rfl) ?_; clear hf a; intro a hf
    refine O.val hf rfl rfl rfl (RunV.extract rfl rfl) ?_; clear hf a; intro a hf
    refine O.val hf rfl rfl rfl (RunV.assign rfl) ?_; clear hf a; intro a hf
    refine O.val hf rfl rfl rfl (RunV.assign rfl) ?_; clear hf a; intro a hf
    refine O.nil ?_
    refine k_seq ?_
    replace hf : Fr a 172 [] [(0, s1), (1, s3), (4, Bv false), (5, Bv x5), (6, s13), (7, Iv x12.2.1), (9, s15), (11, s18), (12, Iv x17.2)] := hf.to ⟨rfl, rfl, rfl, rfl, rfl, rfl, rfl, rfl, rfl, trivial⟩
    refine W.seq ?_
    refine W.seq ?_
    refine W.regionL (l := [0, 1, 2, 3, 4, 5, 6, 7, 8, 9, 10, 11, 12, 13, 14]) rfl ?_
    refine O.val hf rfl rfl rfl (RunV.move rfl) ?_; clear hf a; intro a hf
    refine O.val (v := Bv (decide (x17.2 ≠ (0 : Int)))) hf rfl rfl rfl (RunV.neq rfl rfl) ?_; clear hf a; intro a hf
    refine O.val hf rfl rfl rfl (RunV.move rfl) ?_; clear hf a; intro a hf
    refine O.cutN (l₁ := [3, 4, 5, 6, 7]) (l₂ := _) (fun a w => ∃ (x19 : Bool), Fr a 172 [] [(0, s1), (1, s3), (4, Bv false), (5, Bv x5), (7, Iv x12.2.1), (9, s15), (11, s18), (92, Bv x19)] ∧ St w0 w noX [rdE 4 E24 s1 x2, rdE 1 E3 s3 x4] [slE 3 1 E3 s15 x16, slE 33 2 E33 s18 x17.1] ∧ m_law42_PlanBest_j3 F x2 x4 x5 x12 x17 x16 x19 = some r) rfl ?_ ?_
    ·rcases Bool.eq_false_or_eq_true (decide (x17.2 ≠ (0 : Int))) with hb44 | hb44
     ·have hb44p := of_decide_eq_true hb44
      replace hm := hm_p hm hb44p
      refine O.skipB hf rfl rfl rfl hb44 rfl ?_; clear hf a; intro a hf
      refine O.skipB hf rfl rfl rfl hb44 rfl ?_; clear hf a; intro a hf
      refine O.skipB hf rfl rfl rfl hb44 rfl ?_; clear hf a; intro a hf
      refine O.skipB hf rfl rfl rfl hb44 rfl ?_; clear hf a; intro a hf
      refine O.val (v := Bv true) hf rfl rfl rfl (RunV.pick rfl rfl rfl (by rw [hb44]; rfl)) ?_; clear hf a; intro a hf
      replace hS := hS.front (i := 2) (M' := [slE 3 1 E3 s15 x16, slE 33 2 E33 s18 x17.1, slE 33 2 E33 s13 x12.1]) rfl rfl
      replace hS := hS.sub (N := [slE 3 1 E3 s15 x16, slE 33 2 E33 s18 x17.1]) (.cons_cons _ (.cons_cons _ (.cons _ .slnil)))
      exact O.nil ⟨rfl, true, hf.to ⟨rfl, rfl, rfl, rfl, rfl, rfl, rfl, rfl, trivial⟩, hS, hm⟩
     ·have hb44p := of_decide_eq_false hb44
      replace hm := hm_n hm hb44p
      refine O.gvalB hf rfl rfl rfl hb44 rfl rfl (RunV.move rfl) ?_; clear hf a; intro a hf
      refine O.gvalB hf rfl rfl rfl hb44 rfl rfl (RunV.move rfl) ?_; clear hf a; intro a hf
      obtain ⟨x45, hx45, hm⟩ := hm_b hm
      refine O.gcallR hf rfl rfl rfl hb44 rfl rfl (RunE.call (av := #[s18, s13]) C_ok_17 rfl rfl rfl) (m_ref42_SameSlots_2_ok F s18 x17.1 s13 x12.1 _ (hS.rdS (j := 0) rfl) (hS.rdS (j := 1) rfl) x45 hx45) ?_
      clear hf a; rintro _ w hS1 a hf
      replace hf : Fr a _ _ ((90, Bv x45) :: _) := hf
      replace hS := (hS.call hS1).eqM (N := [slE 33 2 E33 s18 x17.1, slE 33 2 E33 s13 x12.1, slE 3 1 E3 s15 x16]) rfl
      clear hS1
      refine O.gvalB (v := Bv (!x45)) hf rfl rfl rfl hb44 rfl rfl (RunV.not rfl) ?_; clear hf a; intro a hf
      refine O.val (v := Bv (!x45)) hf rfl rfl rfl (RunV.pick rfl rfl rfl (by rw [hb44]; rfl)) ?_; clear hf a; intro a hf
      replace hS := hS.front (i := 2) (M' := [slE 3 1 E3 s15 x16, slE 33 2 E33 s18 x17.1, slE 33 2 E33 s13 x12.1]) rfl rfl
      replace hS := hS.sub (N := [slE 3 1 E3 s15 x16, slE 33 2 E33 s18 x17.1]) (.cons_cons _ (.cons_cons _ (.cons _ .slnil)))
      exact O.nil ⟨rfl, !x45, hf.to ⟨rfl, rfl, rfl, rfl, rfl, rfl, rfl, rfl, trivial⟩, hS, hm⟩
    clear hf hS hm a; try clear w
    rintro a w ⟨x19, hf, hS, hm⟩
    unfold m_law42_PlanBest_j3 at hm
    refine O.val hf rfl rfl rfl (RunV.move rfl) ?_; clear hf a; intro a hf
    refine O.cutN (l₁ := [9, 10, 11, 12, 13, 14]) (l₂ := _) (fun a w => ∃ (x20 : Bool), Fr a 172 [] [(0, s1), (1, s3), (4, Bv false), (5, Bv x5), (7, Iv x12.2.1), (11, s18), (99, Bv x20)] ∧ St w0 w noX [rdE 4 E24 s1 x2, rdE 1 E3 s3 x4] [slE 33 2 E33 s18 x17.1] ∧ m_law42_PlanBest_j2 F x2 x4 x5 x12 x17 x20 = some r) rfl ?_ ?_
    ·rcases Bool.eq_false_or_eq_true (x19) with hb42 | hb42
     ·replace hm := hm_t hm hb42
      refine O.skipB hf rfl rfl rfl hb42 rfl ?_; clear hf a; intro a hf
      refine O.skipB hf rfl rfl rfl hb42 rfl ?_; clear hf a; intro a hf
      refine O.skipB hf rfl rfl rfl hb42 rfl ?_; clear hf a; intro a hf
      refine O.skipB hf rfl rfl rfl hb42 rfl ?_; clear hf a; intro a hf
      refine O.skipB hf rfl rfl rfl hb42 rfl ?_; clear hf a; intro a hf
      refine O.val (v := Bv true) hf rfl rfl rfl (RunV.pick rfl rfl rfl (by rw [hb42]; rfl)) ?_; clear hf a; intro a hf
      replace hS := hS.sub (N := [slE 33 2 E33 s18 x17.1]) (.cons _ (.cons_cons _ .slnil))
      exact O.nil ⟨rfl, true, hf.to ⟨rfl, rfl, rfl, rfl, rfl, rfl, rfl, trivial⟩, hS, hm⟩
     ·replace hm := hm_f hm hb42
      refine O.gvalB hf rfl rfl rfl hb42 rfl rfl (RunV.move rfl) ?_; clear hf a; intro a hf
      refine O.gvalB hf rfl rfl rfl hb42 rfl rfl (RunV.move rfl) ?_; clear hf a; intro a hf
      obtain ⟨x43, hx43, hm⟩ := hm_b hm
      refine O.gcallR hf rfl rfl rfl hb42 rfl rfl (RunE.call (av := #[s1, s15]) C_ok_18 rfl rfl rfl) (m_ref42_Value_ok F s1 x2 s15 x16 _ (hS.rdB (j := 0) rfl) (hS.rdS (j := 0) rfl) x43 hx43) ?_
      clear hf a; rintro _ w hS1 a hf
      replace hf : Fr a _ _ ((96, Iv x43) :: _) := hf
      replace hS := (hS.call hS1).eqM (N := [slE 3 1 E3 s15 x16, slE 33 2 E33 s18 x17.1]) rfl
      clear hS1
      refine O.gvalB hf rfl rfl rfl hb42 rfl rfl (RunV.move rfl) ?_; clear hf a; intro a hf
      refine O.gvalB (v := Bv (decide (x43 ≠ (x12.2.1 : Int)))) hf rfl rfl rfl hb42 rfl rfl (RunV.neq rfl rfl) ?_; clear hf a; intro a hf
      refine O.val (v := Bv (decide (x43 ≠ (x12.2.1 : Int)))) hf rfl rfl rfl (RunV.pick rfl rfl rfl (by rw [hb42]; rfl)) ?_; clear hf a; intro a hf
      replace hS := hS.sub (N := [slE 33 2 E33 s18 x17.1]) (.cons _ (.cons_cons _ .slnil))
      exact O.nil ⟨rfl, decide (x43 ≠ (x12.2.1 : Int)), hf.to ⟨rfl, rfl, rfl, rfl, rfl, rfl, rfl, trivial⟩, hS, hm⟩
    clear hf hS hm a; try clear w
    rintro a w ⟨x20, hf, hS, hm⟩
    unfold m_law42_PlanBest_j2 at hm
    refine O.nil ?_
    refine k_seq ?_
    refine W.if_ hf rfl (fun hc21 => ?_) (fun hc21 => ?_)
    ·replace hm := hm_t hm hc21
     refine W.seq ?_
     refine W.regionL (l := [0]) rfl ?_
     refine O.val hf rfl rfl rfl (RunV.assign rfl) ?_; clear hf a; intro a hf
     refine O.nil ?_
     refine k_seq ?_
     replace hf : Fr a 172 [] [(0, s1), (1, s3), (4, Bv false), (5, Bv x5), (7, Iv x12.2.1), (11, s18)] := hf.to ⟨rfl, rfl, rfl, rfl, rfl, rfl, trivial⟩
     refine W.ret ?_
     refine k_then_ret ?_
     obtain rfl := Option.some.inj hm
     refine post1 hf rfl (ResOK.tmp rfl) ?_
     replace hS := hS.sub (N := []) (.cons _ .slnil)
     exact ⟨(), rfl, hS.noB⟩
    ·replace hm := hm_f hm hc21
     refine W.skip ?_
     refine k_seq ?_
     replace hf : Fr a 172 [] [(0, s1), (1, s3), (4, Bv false), (5, Bv x5), (7, Iv x12.2.1), (11, s18)] := hf.to ⟨rfl, rfl, rfl, rfl, rfl, rfl, trivial⟩
     refine W.seq ?_
     refine W.regionL (l := [0, 1, 2, 3, 4, 5, 6, 7]) rfl ?_
     refine O.val hf rfl rfl rfl (RunV.move rfl) ?_; clear hf a; intro a hf
     refine O.val hf rfl rfl rfl (RunV.move rfl) ?_; clear hf a; intro a hf
     obtain ⟨x22, hx22, hm⟩ := hm_b hm
     refine O.callR hf rfl rfl rfl (RunE.call (av := #[s1, s3]) C_ok_16 rfl rfl rfl) (m_plan_Follow_ok F s1 x2 s3 x4 _ (hS.rdB (j := 0) rfl) (hS.rdB (j := 1) rfl) x22 hx22) ?_
     clear hf a; rintro s23 w hS1 a hf
     replace hf : Fr a _ _ ((103, .tuple #[s23, Iv x22.2]) :: _) := hf
     replace hS := (hS.call hS1).eqM (N := [slE 33 2 E33 s23 x22.1, slE 33 2 E33 s18 x17.1]) rfl
     clear hS1
     refine O.val hf rfl rfl rfl (RunV.move rfl) ?_; clear hf a; intro a hf
     refine O.val hf rfl rfl rfl (RunV.extract rfl rfl) ?_; clear hf a; intro a hf
     refine O.val hf rfl rfl rfl (RunV.extract rfl rfl) ?_; clear hf a; intro a hf
     refine O.val hf rfl rfl rfl (RunV.assign rfl) ?_; clear hf a; intro a hf
     refine O.val hf rfl rfl rfl (RunV.assign rfl) ?_; clear hf a; intro a hf
     refine O.nil ?_
     refine k_seq ?_
     replace hf : Fr a 172 [] [(0, s1), (1, s3), (4, Bv false), (5, Bv x5), (7, Iv x12.2.1), (11, s18), (13, s23), (14, Iv x22.2)] := hf.to ⟨rfl, rfl, rfl, rfl, rfl, rfl, rfl, rfl, trivial⟩
     refine W.seq ?_
     refine W.seq ?_
     refine W.regionL (l := [0, 1]) rfl ?_
     refine O.val hf rfl rfl rfl (RunV.move rfl) ?_; clear hf a; intro a hf
     refine O.val (v := Bv (decide (x22.2 ≠ (0 : Int)))) hf rfl rfl rfl (RunV.neq rfl rfl) ?_; clear hf a; intro a hf
     refine O.nil ?_
     refine k_seq ?_
     replace hf : Fr a 172 [] [(0, s1), (1, s3), (4, Bv false), (5, Bv x5), (7, Iv x12.2.1), (11, s18), (13, s23), (14, Iv x22.2), (107, Bv (decide (x22.2 ≠ (0 : Int))))] := hf.to ⟨rfl, rfl, rfl, rfl, rfl, rfl, rfl, rfl, rfl, trivial⟩
     refine W.ifdI hf rfl (fun hc24 => ?_) (fun hc24 => ?_)
     ·replace hm := hm_p hm hc24
      refine W.seq ?_
      refine W.regionL (l := [0, 1, 2, 3, 4, 5, 6, 7, 8, 9, 10, 11, 12, 13]) rfl ?_
      refine O.val hf rfl rfl rfl (RunV.move rfl) ?_; clear hf a; intro a hf
      refine O.val hf rfl rfl rfl (RunV.move rfl) ?_; clear hf a; intro a hf
      refine O.cutN (l₁ := [2, 3, 4, 5, 6, 7, 8, 9, 10, 11, 12]) (l₂ := _) (fun a w => Fr a 172 [] [(0, s1), (1, s3), (4, Bv false), (5, Bv x5), (7, Iv x12.2.1), (11, s18), (13, s23), (120, Bv (x5 && (((decide (x22.2 = (2 : Int))) || (decide (x22.2 = (14 : Int)))) || (decide (x22.2 = (16 : Int))))))] ∧ St w0 w noX [rdE 4 E24 s1 x2, rdE 1 E3 s3 x4] [slE 33 2 E33 s23 x22.1, slE 33 2 E33 s18 x17.1]) rfl ?_ ?_
      ·rcases Bool.eq_false_or_eq_true (x5) with hb25 | hb25
       ·refine O.gvalB hf rfl rfl rfl hb25 rfl rfl (RunV.move rfl) ?_; clear hf a; intro a hf
        refine O.gvalB (v := Bv (decide (x22.2 = (2 : Int)))) hf rfl rfl rfl hb25 rfl rfl (RunV.eql rfl rfl) ?_; clear hf a; intro a hf
        refine O.gvalB hf rfl rfl rfl hb25 rfl rfl (RunV.move rfl) ?_; clear hf a; intro a hf
        refine O.cutN (l₁ := [5, 6, 7]) (l₂ := _) (fun a w => Fr a 172 [] [(0, s1), (1, s3), (4, Bv false), (5, Bv x5), (7, Iv x12.2.1), (11, s18), (13, s23), (14, Iv x22.2), (107, Bv (decide (x22.2 ≠ (0 : Int)))), (108, Bv x5), (109, Bv x5), (110, Iv x22.2), (111, Bv (decide (x22.2 = (2 : Int)))), (112, Bv (decide (x22.2 = (2 : Int)))), (115, Bv ((decide (x22.2 = (2 : Int))) || (decide (x22.2 = (14 : Int)))))] ∧ St w0 w noX [rdE 4 E24 s1 x2, rdE 1 E3 s3 x4] [slE 33 2 E33 s23 x22.1, slE 33 2 E33 s18 x17.1]) rfl ?_ ?_
        ·rcases Bool.eq_false_or_eq_true (decide (x22.2 = (2 : Int))) with hb26 | hb26
         ·refine O.skipB hf rfl rfl rfl hb26 rfl ?_; clear hf a; intro a hf
          refine O.skipB hf rfl rfl rfl hb26 rfl ?_; clear hf a; intro a hf
          refine O.gvalB (v := Bv ((decide (x22.2 = (2 : Int))) || (decide (x22.2 = (14 : Int))))) hf rfl rfl rfl hb25 rfl rfl (RunV.pick rfl rfl rfl (by rw [hb26]; rfl)) ?_; clear hf a; intro a hf
          exact O.nil ⟨rfl, hf.to ⟨rfl, rfl, rfl, rfl, rfl, rfl, rfl, rfl, rfl, rfl, rfl, rfl, rfl, rfl, rfl, trivial⟩, hS⟩
         ·refine O.gvalB hf rfl rfl rfl hb26 rfl rfl (RunV.move rfl) ?_; clear hf a; intro a hf
          refine O.gvalB (v := Bv (decide (x22.2 = (14 : Int)))) hf rfl rfl rfl hb26 rfl rfl (RunV.eql rfl rfl) ?_; clear hf a; intro a hf
          refine O.gvalB (v := Bv ((decide (x22.2 = (2 : Int))) || (decide (x22.2 = (14 : Int))))) hf rfl rfl rfl hb25 rfl rfl (RunV.pick rfl rfl rfl (by rw [hb26]; rfl)) ?_; clear hf a; intro a hf
          exact O.nil ⟨rfl, hf.to ⟨rfl, rfl, rfl, rfl, rfl, rfl, rfl, rfl, rfl, rfl, rfl, rfl, rfl, rfl, rfl, trivial⟩, hS⟩
        clear hf hS a; try clear w
        rintro a w ⟨hf, hS⟩
        refine O.gvalB hf rfl rfl rfl hb25 rfl rfl (RunV.move rfl) ?_; clear hf a; intro a hf
        refine O.cutN (l₁ := [9, 10, 11]) (l₂ := _) (fun a w => Fr a 172 [] [(0, s1), (1, s3), (4, Bv false), (5, Bv x5), (7, Iv x12.2.1), (11, s18), (13, s23), (14, Iv x22.2), (107, Bv (decide (x22.2 ≠ (0 : Int)))), (108, Bv x5), (109, Bv x5), (110, Iv x22.2), (111, Bv (decide (x22.2 = (2 : Int)))), (112, Bv (decide (x22.2 = (2 : Int)))), (115, Bv ((decide (x22.2 = (2 : Int))) || (decide (x22.2 = (14 : Int))))), (116, Bv ((decide (x22.2 = (2 : Int))) || (decide (x22.2 = (14 : Int))))), (119, Bv (((decide (x22.2 = (2 : Int))) || (decide (x22.2 = (14 : Int)))) || (decide (x22.2 = (16 : Int)))))] ∧ St w0 w noX [rdE 4 E24 s1 x2, rdE 1 E3 s3 x4] [slE 33 2 E33 s23 x22.1, slE 33 2 E33 s18 x17.1]) rfl ?_ ?_
        ·rcases Bool.eq_false_or_eq_true ((decide (x22.2 = (2 : Int))) || (decide (x22.2 = (14 : Int)))) with hb27 | hb27
         ·refine O.skipB hf rfl rfl rfl hb27 rfl ?_; clear hf a; intro a hf
          refine O.skipB hf rfl rfl rfl hb27 rfl ?_; clear hf a; intro a hf
          refine O.gvalB (v := Bv (((decide (x22.2 = (2 : Int))) || (decide (x22.2 = (14 : Int)))) || (decide (x22.2 = (16 : Int))))) hf rfl rfl rfl hb25 rfl rfl (RunV.pick rfl rfl rfl (by rw [hb27]; rfl)) ?_; clear hf a; intro a hf
          exact O.nil ⟨rfl, hf.to ⟨rfl, rfl, rfl, rfl, rfl, rfl, rfl, rfl, rfl, rfl, rfl, rfl, rfl, rfl, rfl, rfl, rfl, trivial⟩, hS⟩
         ·refine O.gvalB hf rfl rfl rfl hb27 rfl rfl (RunV.move rfl) ?_; clear hf a; intro a hf
          refine O.gvalB (v := Bv (decide (x22.2 = (16 : Int)))) hf rfl rfl rfl hb27 rfl rfl (RunV.eql rfl rfl) ?_; clear hf a; intro a hf
          refine O.gvalB (v := Bv (((decide (x22.2 = (2 : Int))) || (decide (x22.2 = (14 : Int)))) || (decide (x22.2 = (16 : Int))))) hf rfl rfl rfl hb25 rfl rfl (RunV.pick rfl rfl rfl (by rw [hb27]; rfl)) ?_; clear hf a; intro a hf
          exact O.nil ⟨rfl, hf.to ⟨rfl, rfl, rfl, rfl, rfl, rfl, rfl, rfl, rfl, rfl, rfl, rfl, rfl, rfl, rfl, rfl, rfl, trivial⟩, hS⟩
        clear hf hS a; try clear w
        rintro a w ⟨hf, hS⟩
        refine O.val (v := Bv (x5 && (((decide (x22.2 = (2 : Int))) || (decide (x22.2 = (14 : Int)))) || (decide (x22.2 = (16 : Int)))))) hf rfl rfl rfl (RunV.pick rfl rfl rfl (by rw [hb25]; rfl)) ?_; clear hf a; intro a hf
        exact O.nil ⟨rfl, hf.to ⟨rfl, rfl, rfl, rfl, rfl, rfl, rfl, rfl, trivial⟩, hS⟩
       ·refine O.skipB hf rfl rfl rfl hb25 rfl ?_; clear hf a; intro a hf
        refine O.skipB hf rfl rfl rfl hb25 rfl ?_; clear hf a; intro a hf
        refine O.skipB hf rfl rfl rfl hb25 rfl ?_; clear hf a; intro a hf
        refine O.skipU hf rfl rfl rfl rfl ?_; clear hf a; intro a hf
        refine O.skipU hf rfl rfl rfl rfl ?_; clear hf a; intro a hf
        refine O.skipB hf rfl rfl rfl hb25 rfl ?_; clear hf a; intro a hf
        refine O.skipB hf rfl rfl rfl hb25 rfl ?_; clear hf a; intro a hf
        refine O.skipU hf rfl rfl rfl rfl ?_; clear hf a; intro a hf
        refine O.skipU hf rfl rfl rfl rfl ?_; clear hf a; intro a hf
        refine O.skipB hf rfl rfl rfl hb25 rfl ?_; clear hf a; intro a hf
        refine O.val (v := Bv (x5 && (((decide (x22.2 = (2 : Int))) || (decide (x22.2 = (14 : Int)))) || (decide (x22.2 = (16 : Int)))))) hf rfl rfl rfl (RunV.pick rfl rfl rfl (by rw [hb25]; rfl)) ?_; clear hf a; intro a hf
        exact O.nil ⟨rfl, hf.to ⟨rfl, rfl, rfl, rfl, rfl, rfl, rfl, rfl, trivial⟩, hS⟩
      clear hf hS a; try clear w
      rintro a w ⟨hf, hS⟩
      refine O.val hf rfl rfl rfl (RunV.assign rfl) ?_; clear hf a; intro a hf
      refine O.nil ?_
      refine k_seq ?_
      replace hf : Fr a 172 [] [(0, s1), (1, s3), (4, Bv (x5 && (((decide (x22.2 = (2 : Int))) || (decide (x22.2 = (14 : Int)))) || (decide (x22.2 = (16 : Int)))))), (5, Bv x5), (7, Iv x12.2.1), (11, s18), (13, s23)] := hf.to ⟨rfl, rfl, rfl, rfl, rfl, rfl, rfl, trivial⟩
      refine W.ret ?_
      refine k_then_ret ?_
      obtain rfl := Option.some.inj hm
      refine post1 hf rfl (ResOK.tmp rfl) ?_
      replace hS := hS.sub (N := []) (.cons _ (.cons _ .slnil))
      exact ⟨(), rfl, hS.noB⟩
     ·replace hm := hm_n hm hc24
      refine W.skip ?_
      refine k_seq ?_
      replace hf : Fr a 172 [] [(0, s1), (1, s3), (4, Bv false), (5, Bv x5), (7, Iv x12.2.1), (11, s18), (13, s23)] := hf.to ⟨rfl, rfl, rfl, rfl, rfl, rfl, rfl, trivial⟩
      refine W.seq ?_
      refine W.regionL (l := [0, 1, 2, 3]) rfl ?_
      refine O.val hf rfl rfl rfl (RunV.move rfl) ?_; clear hf a; intro a hf
      refine O.val hf rfl rfl rfl (RunV.move rfl) ?_; clear hf a; intro a hf
      obtain ⟨x28, hx28, hm⟩ := hm_b hm
      refine O.callR hf rfl rfl rfl (RunE.call (av := #[s1, s3]) C_ok_18 rfl rfl rfl) (m_ref42_Value_ok F s1 x2 s3 x4 _ (hS.rdB (j := 0) rfl) (hS.rdB (j := 1) rfl) x28 hx28) ?_
      clear hf a; rintro _ w hS1 a hf
      replace hf : Fr a _ _ ((123, Iv x28) :: _) := hf
      replace hS := (hS.call hS1).eqM (N := [slE 33 2 E33 s23 x22.1, slE 33 2 E33 s18 x17.1]) rfl
      clear hS1
      refine O.val hf rfl rfl rfl (RunV.assign rfl) ?_; clear hf a; intro a hf
      refine O.nil ?_
      refine k_seq ?_
      replace hf : Fr a 172 [] [(0, s1), (4, Bv false), (5, Bv x5), (7, Iv x12.2.1), (11, s18), (13, s23), (15, Iv x28)] := hf.to ⟨rfl, rfl, rfl, rfl, rfl, rfl, rfl, trivial⟩
      refine W.seq ?_
      refine W.seq ?_
      refine W.regionL (l := [0, 1, 2, 3, 4, 5, 6, 7]) rfl ?_
      refine O.val hf rfl rfl rfl (RunV.move rfl) ?_; clear hf a; intro a hf
      refine O.val hf rfl rfl rfl (RunV.move rfl) ?_; clear hf a; intro a hf
      refine O.val (v := Bv (decide (x28 ≠ (x12.2.1 : Int)))) hf rfl rfl rfl (RunV.neq rfl rfl) ?_; clear hf a; intro a hf
      refine O.val hf rfl rfl rfl (RunV.move rfl) ?_; clear hf a; intro a hf
      refine O.cutN (l₁ := [4, 5, 6, 7]) (l₂ := _) (fun a w => Fr a 172 [] [(0, s1), (4, Bv false), (5, Bv x5), (7, Iv x12.2.1), (11, s18), (13, s23), (15, Iv x28), (131, Bv ((decide (x28 ≠ (x12.2.1 : Int))) || (decide ((x22.1.length : Int) = (0 : Int)))))] ∧ St w0 w noX [rdE 4 E24 s1 x2, rdE 1 E3 s3 x4] [slE 33 2 E33 s23 x22.1, slE 33 2 E33 s18 x17.1]) rfl ?_ ?_
      ·rcases Bool.eq_false_or_eq_true (decide (x28 ≠ (x12.2.1 : Int))) with hb29 | hb29
       ·refine O.skipB hf rfl rfl rfl hb29 rfl ?_; clear hf a; intro a hf
        refine O.skipB hf rfl rfl rfl hb29 rfl ?_; clear hf a; intro a hf
        refine O.skipB hf rfl rfl rfl hb29 rfl ?_; clear hf a; intro a hf
        refine O.val (v := Bv ((decide (x28 ≠ (x12.2.1 : Int))) || (decide ((x22.1.length : Int) = (0 : Int))))) hf rfl rfl rfl (RunV.pick rfl rfl rfl (by rw [hb29]; rfl)) ?_; clear hf a; intro a hf
        exact O.nil ⟨rfl, hf.to ⟨rfl, rfl, rfl, rfl, rfl, rfl, rfl, rfl, trivial⟩, hS⟩
       ·refine O.gvalB hf rfl rfl rfl hb29 rfl rfl (RunV.move rfl) ?_; clear hf a; intro a hf
        refine O.gvalB (v := Iv (x22.1.length : Int)) hf rfl rfl rfl hb29 rfl rfl (RunV.lenE (e := 33) (by simpa using T_elem_27) rfl (hS.rdS (j := 0) rfl)) ?_; clear hf a; intro a hf
        refine O.gvalB (v := Bv (decide ((x22.1.length : Int) = (0 : Int)))) hf rfl rfl rfl hb29 rfl rfl (RunV.eql rfl rfl) ?_; clear hf a; intro a hf
        refine O.val (v := Bv ((decide (x28 ≠ (x12.2.1 : Int))) || (decide ((x22.1.length : Int) = (0 : Int))))) hf rfl rfl rfl (RunV.pick rfl rfl rfl (by rw [hb29]; rfl)) ?_; clear hf a; intro a hf
        exact O.nil ⟨rfl, hf.to ⟨rfl, rfl, rfl, rfl, rfl, rfl, rfl, rfl, trivial⟩, hS⟩
      clear hf hS a; try clear w
      rintro a w ⟨hf, hS⟩
      refine O.nil ?_
      refine k_seq ?_
      refine W.if_ hf rfl (fun hc30 => ?_) (fun hc30 => ?_)
      ·replace hm := hm_t hm hc30
       refine W.seq ?_
       refine W.regionL (l := [0, 1, 2, 3, 4, 5, 6]) rfl ?_
       refine O.val hf rfl rfl rfl (RunV.move rfl) ?_; clear hf a; intro a hf
       refine O.val hf rfl rfl rfl (RunV.move rfl) ?_; clear hf a; intro a hf
       refine O.cutN (l₁ := [2, 3, 4, 5]) (l₂ := _) (fun a w => Fr a 172 [] [(0, s1), (4, Bv false), (5, Bv x5), (11, s18), (13, s23), (137, Bv (x5 && (decide (x28 ≤ (x12.2.1 : Int)))))] ∧ St w0 w noX [rdE 4 E24 s1 x2, rdE 1 E3 s3 x4] [slE 33 2 E33 s23 x22.1, slE 33 2 E33 s18 x17.1]) rfl ?_ ?_
       ·rcases Bool.eq_false_or_eq_true (x5) with hb31 | hb31
        ·refine O.gvalB hf rfl rfl rfl hb31 rfl rfl (RunV.move rfl) ?_; clear hf a; intro a hf
         refine O.gvalB hf rfl rfl rfl hb31 rfl rfl (RunV.move rfl) ?_; clear hf a; intro a hf
         refine O.gvalB (v := Bv (decide (x28 ≤ (x12.2.1 : Int)))) hf rfl rfl rfl hb31 rfl rfl (RunV.leq rfl rfl) ?_; clear hf a; intro a hf
         refine O.val (v := Bv (x5 && (decide (x28 ≤ (x12.2.1 : Int))))) hf rfl rfl rfl (RunV.pick rfl rfl rfl (by rw [hb31]; rfl)) ?_; clear hf a; intro a hf
         exact O.nil ⟨rfl, hf.to ⟨rfl, rfl, rfl, rfl, rfl, rfl, trivial⟩, hS⟩
        ·refine O.skipB hf rfl rfl rfl hb31 rfl ?_; clear hf a; intro a hf
         refine O.skipB hf rfl rfl rfl hb31 rfl ?_; clear hf a; intro a hf
         refine O.skipB hf rfl rfl rfl hb31 rfl ?_; clear hf a; intro a hf
         refine O.val (v := Bv (x5 && (decide (x28 ≤ (x12.2.1 : Int))))) hf rfl rfl rfl (RunV.pick rfl rfl rfl (by rw [hb31]; rfl)) ?_; clear hf a; intro a hf
         exact O.nil ⟨rfl, hf.to ⟨rfl, rfl, rfl, rfl, rfl, rfl, trivial⟩, hS⟩
       clear hf hS a; try clear w
       rintro a w ⟨hf, hS⟩
       refine O.val hf rfl rfl rfl (RunV.assign rfl) ?_; clear hf a; intro a hf
       refine O.nil ?_
       refine k_seq ?_
       replace hf : Fr a 172 [] [(0, s1), (4, Bv (x5 && (decide (x28 ≤ (x12.2.1 : Int))))), (5, Bv x5), (11, s18), (13, s23)] := hf.to ⟨rfl, rfl, rfl, rfl, rfl, trivial⟩
       refine W.ret ?_
       refine k_then_ret ?_
       obtain rfl := Option.some.inj hm
       refine post1 hf rfl (ResOK.tmp rfl) ?_
       replace hS := hS.sub (N := []) (.cons _ (.cons _ .slnil))
       exact ⟨(), rfl, hS.noB⟩
      ·replace hm := hm_f hm hc30
       refine W.skip ?_
       refine k_seq ?_
       replace hf : Fr a 172 [] [(0, s1), (4, Bv false), (5, Bv x5), (11, s18), (13, s23)] := hf.to ⟨rfl, rfl, rfl, rfl, rfl, trivial⟩
       refine W.seq ?_
       have hf1 : Fr a 172 [] [] := hf.to trivial
       replace hf : Fr a 172 [] [(0, s1), (4, Bv false), (5, Bv x5), (11, s18), (13, s23)] := hf.to ⟨rfl, rfl, rfl, rfl, rfl, trivial⟩
       obtain ⟨x32, hx32, hm⟩ := hm_b hm
       obtain ⟨x33, hx33, hm⟩ := hm_b hm
       replace hS := hS.drew
       replace hS := hS.emp
       replace hS := hS.emp
       refine W.drawC (γ := Nat × Nat) (L0 := [(0, s1), (4, Bv false), (5, Bv x5), (11, s18), (13, s23)]) (L1 := []) (0, 0) [14, 15] [12, 13] [0, 1, 2, 3, 4, 5, 6, 7, 8, 9, 10, 11] (fun i => match i with | 2 => [1] | 3 => [2] | 4 => [0, 3] | 5 => [4] | 8 => [7] | 9 => [8] | 10 => [6, 9] | 11 => [10] | 14 => [0, 1, 2, 3, 4, 5, 12, 13] | 15 => [0, 1, 2, 3, 4, 5, 6, 7, 8, 9, 10, 11, 12, 13, 14] | _ => []) (fun i => match i with | 14 => [12, 13] | 15 => [14, 12, 13] | _ => []) (fun i => match i with | 0 => [14, 15] | 1 => [14, 15] | 2 => [14, 15] | 3 => [14, 15] | 4 => [14, 15] | 5 => [14, 15] | 6 => [15] | 7 => [15] | 8 => [15] | 9 => [15] | 10 => [15] | 11 => [15] | 12 => [14, 15] | 13 => [14, 15] | 14 => [15] | _ => []) (fun i => match i with | 14 => [12, 13] | 15 => [12, 13] | _ => []) (fun i => match i with | 12 => [14, 15] | 13 => [14, 15] | 14 => [15] | _ => []) (fun _ => []) (fun i => match i with | 15 => 1 | _ => 0) (fun i => match i with | 6 => 1 | 7 => 1 | 8 => 1 | 9 => 1 | 10 => 1 | 11 => 1 | 14 => 1 | 15 => 2 | _ => 0) (fun (g : Nat × Nat) j => match j with | 0 => s18 | 1 => s18 | 2 => Iv (x17.1.length : Int) | 3 => Iv (IntKind.i64.wrap ((x17.1.length : Int) - 1)) | 4 => ix s18 (Int.toNat (IntKind.i64.wrap ((x17.1.length : Int) - 1)) * 2) | 5 => .agg #[Iv x32.1, Iv x32.2] | 6 => s23 | 7 => s23 | 8 => Iv (x22.1.length : Int) | 9 => Iv (IntKind.i64.wrap ((x22.1.length : Int) - 1)) | 10 => ix s23 (Int.toNat (IntKind.i64.wrap ((x22.1.length : Int) - 1)) * 2) | 11 => .agg #[Iv x33.1, Iv x33.2] | 12 => Pv g.1 0 | 13 => Pv g.2 0 | _ => undef) (fun k s (g : Nat × Nat) w => match k with | 0 => St w0 w noX [rdE 4 E24 s1 x2, rdE 1 E3 s3 x4] [condA (s 13) (pt g.2 (Cs #[Iv 0, Iv 0] 33)), condA (s 12) (pt g.1 (Cs #[Iv 0, Iv 0] 33)), slE 33 2 E33 s23 x22.1, slE 33 2 E33 s18 x17.1] | 1 => St w0 w noX [rdE 4 E24 s1 x2, rdE 1 E3 s3 x4] [pt g.2 (Cs #[Iv 0, Iv 0] 33), pt g.1 (Cs #[Iv x32.1, Iv x32.2] 33), slE 33 2 E33 s23 x22.1, slE 33 2 E33 s18 x17.1] | _ => St w0 w noX [rdE 4 E24 s1 x2, rdE 1 E3 s3 x4] [pt g.2 (Cs #[Iv x33.1, Iv x33.2] 33), pt g.1 (Cs #[Iv x32.1, Iv x32.2] 33), slE 33 2 E33 s23 x22.1, slE 33 2 E33 s18 x17.1]) P_mixed (by kernel_rfl) (by kernel_rfl) (by kernel_rfl) hf hf1 hS ?_ ?_ ?_ ?_
       ·clear hf hf1 hS
        refine ⟨fun k s g w _ _ _ hD a hf => Q.val (v := s18) rfl rfl rfl hD hf (RunV.move rfl), fun k s g w _ _ _ hD a hf => Q.val (v := s18) rfl rfl rfl hD hf (RunV.move rfl), ?_, fun k s g w _ _ _ hD a hf => Q.val (v := Iv (IntKind.i64.wrap ((x17.1.length : Int) - 1))) rfl rfl rfl hD hf (RunV.sub rfl rfl), ?_, ?_, fun k s g w _ _ _ hD a hf => Q.val (v := s23) rfl rfl rfl hD hf (RunV.move rfl), fun k s g w _ _ _ hD a hf => Q.val (v := s23) rfl rfl rfl hD hf (RunV.move rfl), ?_, fun k s g w _ _ _ hD a hf => Q.val (v := Iv (IntKind.i64.wrap ((x22.1.length : Int) - 1))) rfl rfl rfl hD hf (RunV.sub rfl rfl), ?_, ?_, trivial⟩
        ·intro k s g w h1_ h2_ hsp hD a hf
         obtain ⟨b34, b35⟩ := g
         rcases k with _ | k
         ·have hS : St w0 w noX [rdE 4 E24 s1 x2, rdE 1 E3 s3 x4] [condA (s 13) (pt b35 (Cs #[Iv 0, Iv 0] 33)), condA (s 12) (pt b34 (Cs #[Iv 0, Iv 0] 33)), slE 33 2 E33 s23 x22.1, slE 33 2 E33 s18 x17.1] := hD; clear hD
          replace hf : Fr a 172 [] [(139, s18), (0, s1), (4, Bv false), (5, Bv x5), (11, s18), (13, s23)] := hf
          exact Q.val (v := Iv (x17.1.length : Int)) rfl rfl rfl hS hf (RunV.lenE (e := 33) (by simpa using T_elem_27) rfl (hS.rdS (j := 3) rfl))
         ·exact absurd h2_ (by simp)
        ·intro k s g w h1_ h2_ hsp hD a hf
         obtain ⟨b34, b35⟩ := g
         rcases k with _ | k
         ·have hS : St w0 w noX [rdE 4 E24 s1 x2, rdE 1 E3 s3 x4] [condA (s 13) (pt b35 (Cs #[Iv 0, Iv 0] 33)), condA (s 12) (pt b34 (Cs #[Iv 0, Iv 0] 33)), slE 33 2 E33 s23 x22.1, slE 33 2 E33 s18 x17.1] := hD; clear hD
          replace hf : Fr a 172 [] [(138, s18), (141, Iv (IntKind.i64.wrap ((x17.1.length : Int) - 1))), (0, s1), (4, Bv false), (5, Bv x5), (11, s18), (13, s23)] := hf
          exact Q.val (v := ix s18 (Int.toNat (IntKind.i64.wrap ((x17.1.length : Int) - 1)) * 2)) rfl rfl rfl hS hf (RunV.ixE T_elem_27 T_size_33 rfl rfl (hS.rdS (j := 3) rfl) hx32)
         ·exact absurd h2_ (by simp)
        ·intro k s g w h1_ h2_ hsp hD a hf
         obtain ⟨b34, b35⟩ := g
         rcases k with _ | k
         ·have hS : St w0 w noX [rdE 4 E24 s1 x2, rdE 1 E3 s3 x4] [condA (s 13) (pt b35 (Cs #[Iv 0, Iv 0] 33)), condA (s 12) (pt b34 (Cs #[Iv 0, Iv 0] 33)), slE 33 2 E33 s23 x22.1, slE 33 2 E33 s18 x17.1] := hD; clear hD
          replace hf : Fr a 172 [] [(142, ix s18 (Int.toNat (IntKind.i64.wrap ((x17.1.length : Int) - 1)) * 2)), (0, s1), (4, Bv false), (5, Bv x5), (11, s18), (13, s23)] := hf
          exact Q.val (v := .agg #[Iv x32.1, Iv x32.2]) rfl rfl rfl hS hf (RunV.ldEN (us := [Iv x32.1, Iv x32.2]) (o := 0) T_agg_33 T_size_33 rfl E33_len rfl (hS.rdS (j := 3) rfl) hx32 rfl rfl rfl)
         ·exact absurd h2_ (by simp)
        ·intro k s g w h1_ h2_ hsp hD a hf
         obtain ⟨b34, b35⟩ := g
         rcases k with _ | _ | k
         ·have hS : St w0 w noX [rdE 4 E24 s1 x2, rdE 1 E3 s3 x4] [condA (s 13) (pt b35 (Cs #[Iv 0, Iv 0] 33)), condA (s 12) (pt b34 (Cs #[Iv 0, Iv 0] 33)), slE 33 2 E33 s23 x22.1, slE 33 2 E33 s18 x17.1] := hD; clear hD
          replace hf : Fr a 172 [] [(145, s23), (0, s1), (4, Bv false), (5, Bv x5), (11, s18), (13, s23)] := hf
          exact Q.val (v := Iv (x22.1.length : Int)) rfl rfl rfl hS hf (RunV.lenE (e := 33) (by simpa using T_elem_27) rfl (hS.rdS (j := 2) rfl))
         ·have hS : St w0 w noX [rdE 4 E24 s1 x2, rdE 1 E3 s3 x4] [pt b35 (Cs #[Iv 0, Iv 0] 33), pt b34 (Cs #[Iv x32.1, Iv x32.2] 33), slE 33 2 E33 s23 x22.1, slE 33 2 E33 s18 x17.1] := hD; clear hD
          replace hf : Fr a 172 [] [(145, s23), (0, s1), (4, Bv false), (5, Bv x5), (11, s18), (13, s23)] := hf
          exact Q.val (v := Iv (x22.1.length : Int)) rfl rfl rfl hS hf (RunV.lenE (e := 33) (by simpa using T_elem_27) rfl (hS.rdS (j := 2) rfl))
         ·exact absurd h2_ (by simp)
        ·intro k s g w h1_ h2_ hsp hD a hf
         obtain ⟨b34, b35⟩ := g
         rcases k with _ | _ | k
         ·have hS : St w0 w noX [rdE 4 E24 s1 x2, rdE 1 E3 s3 x4] [condA (s 13) (pt b35 (Cs #[Iv 0, Iv 0] 33)), condA (s 12) (pt b34 (Cs #[Iv 0, Iv 0] 33)), slE 33 2 E33 s23 x22.1, slE 33 2 E33 s18 x17.1] := hD; clear hD
          replace hf : Fr a 172 [] [(144, s23), (147, Iv (IntKind.i64.wrap ((x22.1.length : Int) - 1))), (0, s1), (4, Bv false), (5, Bv x5), (11, s18), (13, s23)] := hf
          exact Q.val (v := ix s23 (Int.toNat (IntKind.i64.wrap ((x22.1.length : Int) - 1)) * 2)) rfl rfl rfl hS hf (RunV.ixE T_elem_27 T_size_33 rfl rfl (hS.rdS (j := 2) rfl) hx33)
         ·have hS : St w0 w noX [rdE 4 E24 s1 x2, rdE 1 E3 s3 x4] [pt b35 (Cs #[Iv 0, Iv 0] 33), pt b34 (Cs #[Iv x32.1, Iv x32.2] 33), slE 33 2 E33 s23 x22.1, slE 33 2 E33 s18 x17.1] := hD; clear hD
          replace hf : Fr a 172 [] [(144, s23), (147, Iv (IntKind.i64.wrap ((x22.1.length : Int) - 1))), (0, s1), (4, Bv false), (5, Bv x5), (11, s18), (13, s23)] := hf
          exact Q.val (v := ix s23 (Int.toNat (IntKind.i64.wrap ((x22.1.length : Int) - 1)) * 2)) rfl rfl rfl hS hf (RunV.ixE T_elem_27 T_size_33 rfl rfl (hS.rdS (j := 2) rfl) hx33)
         ·exact absurd h2_ (by simp)
        ·intro k s g w h1_ h2_ hsp hD a hf
         obtain ⟨b34, b35⟩ := g
         rcases k with _ | _ | k
         ·have hS : St w0 w noX [rdE 4 E24 s1 x2, rdE 1 E3 s3 x4] [condA (s 13) (pt b35 (Cs #[Iv 0, Iv 0] 33)), condA (s 12) (pt b34 (Cs #[Iv 0, Iv 0] 33)), slE 33 2 E33 s23 x22.1, slE 33 2 E33 s18 x17.1] := hD; clear hD
          replace hf : Fr a 172 [] [(148, ix s23 (Int.toNat (IntKind.i64.wrap ((x22.1.length : Int) - 1)) * 2)), (0, s1), (4, Bv false), (5, Bv x5), (11, s18), (13, s23)] := hf
          exact Q.val (v := .agg #[Iv x33.1, Iv x33.2]) rfl rfl rfl hS hf (RunV.ldEN (us := [Iv x33.1, Iv x33.2]) (o := 0) T_agg_33 T_size_33 rfl E33_len rfl (hS.rdS (j := 2) rfl) hx33 rfl rfl rfl)
         ·have hS : St w0 w noX [rdE 4 E24 s1 x2, rdE 1 E3 s3 x4] [pt b35 (Cs #[Iv 0, Iv 0] 33), pt b34 (Cs #[Iv x32.1, Iv x32.2] 33), slE 33 2 E33 s23 x22.1, slE 33 2 E33 s18 x17.1] := hD; clear hD
          replace hf : Fr a 172 [] [(148, ix s23 (Int.toNat (IntKind.i64.wrap ((x22.1.length : Int) - 1)) * 2)), (0, s1), (4, Bv false), (5, Bv x5), (11, s18), (13, s23)] := hf
          exact Q.val (v := .agg #[Iv x33.1, Iv x33.2]) rfl rfl rfl hS hf (RunV.ldEN (us := [Iv x33.1, Iv x33.2]) (o := 0) T_agg_33 T_size_33 rfl E33_len rfl (hS.rdS (j := 2) rfl) hx33 rfl rfl rfl)
         ·exact absurd h2_ (by simp)
       ·clear hf hf1 hS
        refine ⟨?_, ?_, trivial⟩
        ·intro s g w hsp hD a hf
         obtain ⟨b34, b35⟩ := g
         have h12_ : s 12 = true := hsp 12 (by simp)
         have h13_ : s 13 = true := hsp 13 (by simp)
         have hS : St w0 w noX [rdE 4 E24 s1 x2, rdE 1 E3 s3 x4] [condA (s 13) (pt b35 (Cs #[Iv 0, Iv 0] 33)), condA (s 12) (pt b34 (Cs #[Iv 0, Iv 0] 33)), slE 33 2 E33 s23 x22.1, slE 33 2 E33 s18 x17.1] := hD; clear hD; rw [h12_, h13_] at hS
         replace hS : St w0 w noX [rdE 4 E24 s1 x2, rdE 1 E3 s3 x4] [pt b35 (Cs #[Iv 0, Iv 0] 33), pt b34 (Cs #[Iv 0, Iv 0] 33), slE 33 2 E33 s23 x22.1, slE 33 2 E33 s18 x17.1] := hS
         replace hf : Fr a 172 [] [(138, s18), (139, s18), (140, Iv (x17.1.length : Int)), (141, Iv (IntKind.i64.wrap ((x17.1.length : Int) - 1))), (142, ix s18 (Int.toNat (IntKind.i64.wrap ((x17.1.length : Int) - 1)) * 2)), (143, .agg #[Iv x32.1, Iv x32.2]), (16, Pv b34 0), (17, Pv b35 0), (0, s1), (4, Bv false), (5, Bv x5), (11, s18), (13, s23)] := hf
         refine O.store (j := 1) (cs' := #[Iv x32.1, Iv x32.2]) (M' := [pt b35 (Cs #[Iv 0, Iv 0] 33), pt b34 (Cs #[Iv x32.1, Iv x32.2] 33), slE 33 2 E33 s23 x22.1, slE 33 2 E33 s18 x17.1]) hf hS rfl rfl rfl T_size_33 rfl rfl rfl (Nat.le_of_ble_eq_true rfl) rfl rfl ?_
         clear hS; intro w hS
         exact O.nil ⟨rfl, (b34, b35), hf.to trivial, (fun d hd => by cases (show none = some d from hd)), (fun _ _ _ => rfl), hS⟩
        ·intro s g w hsp hD a hf
         obtain ⟨b34, b35⟩ := g
         have h12_ : s 12 = true := hsp 12 (by simp)
         have h13_ : s 13 = true := hsp 13 (by simp)
         have hS : St w0 w noX [rdE 4 E24 s1 x2, rdE 1 E3 s3 x4] [pt b35 (Cs #[Iv 0, Iv 0] 33), pt b34 (Cs #[Iv x32.1, Iv x32.2] 33), slE 33 2 E33 s23 x22.1, slE 33 2 E33 s18 x17.1] := hD; clear hD
         replace hf : Fr a 172 [] [(138, s18), (139, s18), (140, Iv (x17.1.length : Int)), (141, Iv (IntKind.i64.wrap ((x17.1.length : Int) - 1))), (142, ix s18 (Int.toNat (IntKind.i64.wrap ((x17.1.length : Int) - 1)) * 2)), (143, .agg #[Iv x32.1, Iv x32.2]), (144, s23), (145, s23), (146, Iv (x22.1.length : Int)), (147, Iv (IntKind.i64.wrap ((x22.1.length : Int) - 1))), (148, ix s23 (Int.toNat (IntKind.i64.wrap ((x22.1.length : Int) - 1)) * 2)), (149, .agg #[Iv x33.1, Iv x33.2]), (16, Pv b34 0), (17, Pv b35 0), (0, s1), (4, Bv false), (5, Bv x5), (11, s18), (13, s23)] := hf
         refine O.store (j := 0) (cs' := #[Iv x33.1, Iv x33.2]) (M' := [pt b35 (Cs #[Iv x33.1, Iv x33.2] 33), pt b34 (Cs #[Iv x32.1, Iv x32.2] 33), slE 33 2 E33 s23 x22.1, slE 33 2 E33 s18 x17.1]) hf hS rfl rfl rfl T_size_33 rfl rfl rfl (Nat.le_of_ble_eq_true rfl) rfl rfl ?_
         clear hS; intro w hS
         exact O.nil ⟨rfl, (b34, b35), hf.to trivial, (fun d hd => by cases (show none = some d from hd)), (fun _ _ _ => rfl), hS⟩
       ·clear hf hf1 hS
        refine ⟨?_, ?_, trivial⟩
        ·intro k s g w h1_ h2_ hs0 hD a hf
         obtain ⟨b34, b35⟩ := g
         rcases k with _ | k
         ·have hS : St w0 w noX [rdE 4 E24 s1 x2, rdE 1 E3 s3 x4] [condA (s 13) (pt b35 (Cs #[Iv 0, Iv 0] 33)), condA (s 12) (pt b34 (Cs #[Iv 0, Iv 0] 33)), slE 33 2 E33 s23 x22.1, slE 33 2 E33 s18 x17.1] := hD; clear hD
          refine O.allocC (j := 1) (cs := #[Iv 0, Iv 0]) hf hS rfl hs0 rfl rfl T_zero_33 rfl ?_; clear hf hS a; intro b34 w a hS hf
          exact O.nil ⟨rfl, (b34, b35), hf.to trivial, (fun d hd => by cases (show some 16 = some d from hd); exact hf.get _ _ rfl), (fun j hj hk => match j, hj, hk with | 0, hj, hk => rfl | 1, hj, hk => rfl | 2, hj, hk => rfl | 3, hj, hk => rfl | 4, hj, hk => rfl | 5, hj, hk => rfl | 6, hj, hk => rfl | 7, hj, hk => rfl | 8, hj, hk => rfl | 9, hj, hk => rfl | 10, hj, hk => rfl | 11, hj, hk => rfl | 12, hj, hk => absurd rfl hj | 13, hj, hk => rfl | 14, hj, hk => absurd hk (by decide) | 15, hj, hk => absurd hk (by decide) | _ + 16, _, _ => rfl), hS⟩
         ·exact absurd h2_ (by simp)
        ·intro k s g w h1_ h2_ hs0 hD a hf
         obtain ⟨b34, b35⟩ := g
         rcases k with _ | k
         ·have hS : St w0 w noX [rdE 4 E24 s1 x2, rdE 1 E3 s3 x4] [condA (s 13) (pt b35 (Cs #[Iv 0, Iv 0] 33)), condA (s 12) (pt b34 (Cs #[Iv 0, Iv 0] 33)), slE 33 2 E33 s23 x22.1, slE 33 2 E33 s18 x17.1] := hD; clear hD
          refine O.allocC (j := 0) (cs := #[Iv 0, Iv 0]) hf hS rfl hs0 rfl rfl T_zero_33 rfl ?_; clear hf hS a; intro b35 w a hS hf
          exact O.nil ⟨rfl, (b34, b35), hf.to trivial, (fun d hd => by cases (show some 17 = some d from hd); exact hf.get _ _ rfl), (fun j hj hk => match j, hj, hk with | 0, hj, hk => rfl | 1, hj, hk => rfl | 2, hj, hk => rfl | 3, hj, hk => rfl | 4, hj, hk => rfl | 5, hj, hk => rfl | 6, hj, hk => rfl | 7, hj, hk => rfl | 8, hj, hk => rfl | 9, hj, hk => rfl | 10, hj, hk => rfl | 11, hj, hk => rfl | 12, hj, hk => rfl | 13, hj, hk => absurd rfl hj | 14, hj, hk => absurd hk (by decide) | 15, hj, hk => absurd hk (by decide) | _ + 16, _, _ => rfl), hS⟩
         ·exact absurd h2_ (by simp)
       clear hf hf1 hS; intro s g a w hs hf hD
       obtain ⟨b34, b35⟩ := g
       have h12_ : s 12 = true := hs 12 (by simp)
       have h13_ : s 13 = true := hs 13 (by simp)
       have hS : St w0 w noX [rdE 4 E24 s1 x2, rdE 1 E3 s3 x4] [pt b35 (Cs #[Iv x33.1, Iv x33.2] 33), pt b34 (Cs #[Iv x32.1, Iv x32.2] 33), slE 33 2 E33 s23 x22.1, slE 33 2 E33 s18 x17.1] := hD; clear hD
       replace hf : Fr a 172 [] [(138, s18), (139, s18), (140, Iv (x17.1.length : Int)), (141, Iv (IntKind.i64.wrap ((x17.1.length : Int) - 1))), (142, ix s18 (Int.toNat (IntKind.i64.wrap ((x17.1.length : Int) - 1)) * 2)), (143, .agg #[Iv x32.1, Iv x32.2]), (144, s23), (145, s23), (146, Iv (x22.1.length : Int)), (147, Iv (IntKind.i64.wrap ((x22.1.length : Int) - 1))), (148, ix s23 (Int.toNat (IntKind.i64.wrap ((x22.1.length : Int) - 1)) * 2)), (149, .agg #[Iv x33.1, Iv x33.2]), (16, Pv b34 0), (17, Pv b35 0), (0, s1), (4, Bv false), (5, Bv x5), (11, s18), (13, s23)] := hf
       refine k_seq ?_
       replace hf : Fr a 172 [] [(0, s1), (4, Bv false), (5, Bv x5), (16, Pv b34 0), (17, Pv b35 0)] := hf.to ⟨rfl, rfl, rfl, rfl, rfl, trivial⟩
       refine W.seqR (fun a w => ∃ (x36 : Bool), Fr a 172 [] [(4, Bv x36)] ∧ St w0 w noX [rdE 4 E24 s1 x2, rdE 1 E3 s3 x4] [] ∧ m_law42_PlanBest_j1 F x36 = some r) ?_ ?_
       ·obtain ⟨x37, hx37, hm⟩ := hm_b hm
        obtain ⟨x38, hx38, hm⟩ := hm_b hm
        rcases Bool.eq_false_or_eq_true (x5) with hb39 | hb39
        ·replace hm := hm_t hm hb39
         obtain ⟨x40, hx40, hm⟩ := hm_b hm
         obtain ⟨x41, hx41, hm⟩ := hm_b hm
         refine W.drawQ (fun w => St w0 w noX [rdE 4 E24 s1 x2, rdE 1 E3 s3 x4] [pt b35 (Cs #[Iv x33.1, Iv x33.2] 33), pt b34 (Cs #[Iv x32.1, Iv x32.2] 33), slE 33 2 E33 s23 x22.1, slE 33 2 E33 s18 x17.1]) P_mixed rfl (by kernel_rfl) rfl hS.drew ?_
         clear hS; try clear w
         refine OQ.val (v := Bv x5) hf rfl (fun w hS => RunV.move rfl) ?_; clear hf a; intro a hf
         refine OQ.val (v := Bv x5) hf rfl (fun w hS => RunV.move rfl) ?_; clear hf a; intro a hf
         refine OQ.gval (v := Pv b34 1) hf rfl rfl hb39 rfl (fun w hS => RunV.field T_field_33_1 rfl rfl) ?_; clear hf a; intro a hf
         refine OQ.gval (v := Iv x32.2) hf rfl rfl hb39 rfl (fun w hS => RunV.load1 T_agg_2 rfl (hS.ptAt (i := 1) rfl) rfl) ?_; clear hf a; intro a hf
         refine OQ.gval (v := s1) hf rfl rfl hb39 rfl (fun w hS => RunV.move rfl) ?_; clear hf a; intro a hf
         refine OQ.gval (v := Pv b34 0) hf rfl rfl hb39 rfl (fun w hS => RunV.field T_field_33_0 rfl rfl) ?_; clear hf a; intro a hf
         refine OQ.gval (v := Iv x32.1) hf rfl rfl hb39 rfl (fun w hS => RunV.load1 T_agg_3 rfl (hS.ptAt (i := 1) rfl) rfl) ?_; clear hf a; intro a hf
         refine OQ.gval (v := ix s1 (Int.toNat x32.1 * 4)) hf rfl rfl hb39 rfl (fun w hS => RunV.ixE T_elem_22 T_size_24 rfl rfl (hS.rdB (j := 0) rfl) hx40) ?_; clear hf a; intro a hf
         refine OQ.gval (v := ix s1 (Int.toNat x32.1 * 4 + 2)) hf rfl rfl hb39 rfl (fun w hS => RunV.ixFE T_field_24_2 rfl (hS.rdB (j := 0) rfl) hx40 rfl) ?_; clear hf a; intro a hf
         refine OQ.gval (v := Iv x40.2.2.1) hf rfl rfl hb39 rfl (fun w hS => RunV.ldE1 (o := 2) T_agg_2 E24_len rfl (hS.rdB (j := 0) rfl) hx40 rfl rfl) ?_; clear hf a; intro a hf
         refine OQ.gval (v := Iv (IntKind.i64.wrap (x32.2 + x40.2.2.1))) hf rfl rfl hb39 rfl (fun w hS => RunV.add rfl rfl) ?_; clear hf a; intro a hf
         refine OQ.gval (v := Pv b35 1) hf rfl rfl hb39 rfl (fun w hS => RunV.field T_field_33_1 rfl rfl) ?_; clear hf a; intro a hf
         refine OQ.gval (v := Iv x33.2) hf rfl rfl hb39 rfl (fun w hS => RunV.load1 T_agg_2 rfl (hS.ptAt (i := 0) rfl) rfl) ?_; clear hf a; intro a hf
         refine OQ.gval (v := s1) hf rfl rfl hb39 rfl (fun w hS => RunV.move rfl) ?_; clear hf a; intro a hf
         refine OQ.gval (v := Pv b35 0) hf rfl rfl hb39 rfl (fun w hS => RunV.field T_field_33_0 rfl rfl) ?_; clear hf a; intro a hf
         refine OQ.gval (v := Iv x33.1) hf rfl rfl hb39 rfl (fun w hS => RunV.load1 T_agg_3 rfl (hS.ptAt (i := 0) rfl) rfl) ?_; clear hf a; intro a hf
         refine OQ.gval (v := ix s1 (Int.toNat x33.1 * 4)) hf rfl rfl hb39 rfl (fun w hS => RunV.ixE T_elem_22 T_size_24 rfl rfl (hS.rdB (j := 0) rfl) hx41) ?_; clear hf a; intro a hf
         refine OQ.gval (v := ix s1 (Int.toNat x33.1 * 4 + 2)) hf rfl rfl hb39 rfl (fun w hS => RunV.ixFE T_field_24_2 rfl (hS.rdB (j := 0) rfl) hx41 rfl) ?_; clear hf a; intro a hf
         refine OQ.gval (v := Iv x41.2.2.1) hf rfl rfl hb39 rfl (fun w hS => RunV.ldE1 (o := 2) T_agg_2 E24_len rfl (hS.rdB (j := 0) rfl) hx41 rfl rfl) ?_; clear hf a; intro a hf
         refine OQ.gval (v := Iv (IntKind.i64.wrap (x33.2 + x41.2.2.1))) hf rfl rfl hb39 rfl (fun w hS => RunV.add rfl rfl) ?_; clear hf a; intro a hf
         refine OQ.gval (v := Bv (decide ((IntKind.i64.wrap (x32.2 + x40.2.2.1)) ≤ (IntKind.i64.wrap (x33.2 + x41.2.2.1) : Int)))) hf rfl rfl hb39 rfl (fun w hS => RunV.leq rfl rfl) ?_; clear hf a; intro a hf
         refine OQ.val (v := Bv (decide ((IntKind.i64.wrap (x32.2 + x40.2.2.1)) ≤ (IntKind.i64.wrap (x33.2 + x41.2.2.1) : Int)))) hf rfl (fun w hS => RunV.pick rfl rfl rfl (by rw [hb39]; rfl)) ?_; clear hf a; intro a hf
         refine OQ.val (v := Bv (decide ((IntKind.i64.wrap (x32.2 + x40.2.2.1)) ≤ (IntKind.i64.wrap (x33.2 + x41.2.2.1) : Int)))) hf rfl (fun w hS => RunV.assign rfl) ?_; clear hf a; intro a hf
         refine OQ.nil ?_; intro w hS
         replace hS := hS.sub (N := []) (.cons _ (.cons _ (.cons _ (.cons _ .slnil))))
         exact k_then ⟨decide ((IntKind.i64.wrap (x32.2 + x40.2.2.1)) ≤ (IntKind.i64.wrap (x33.2 + x41.2.2.1) : Int)), hf.to ⟨rfl, trivial⟩, hS, hm⟩
        ·replace hm := hm_f hm hb39
         refine W.drawQ (fun w => St w0 w noX [rdE 4 E24 s1 x2, rdE 1 E3 s3 x4] [pt b35 (Cs #[Iv x33.1, Iv x33.2] 33), pt b34 (Cs #[Iv x32.1, Iv x32.2] 33), slE 33 2 E33 s23 x22.1, slE 33 2 E33 s18 x17.1]) P_mixed rfl (by kernel_rfl) rfl hS.drew ?_
         clear hS; try clear w
         refine OQ.val (v := Bv x5) hf rfl (fun w hS => RunV.move rfl) ?_; clear hf a; intro a hf
         refine OQ.val (v := Bv x5) hf rfl (fun w hS => RunV.move rfl) ?_; clear hf a; intro a hf
         refine OQ.skipB hf rfl rfl hb39 rfl ?_; clear hf a; intro a hf
         refine OQ.skipB hf rfl rfl hb39 rfl ?_; clear hf a; intro a hf
         refine OQ.skipB hf rfl rfl hb39 rfl ?_; clear hf a; intro a hf
         refine OQ.skipB hf rfl rfl hb39 rfl ?_; clear hf a; intro a hf
         refine OQ.skipB hf rfl rfl hb39 rfl ?_; clear hf a; intro a hf
         refine OQ.skipB hf rfl rfl hb39 rfl ?_; clear hf a; intro a hf
         refine OQ.skipB hf rfl rfl hb39 rfl ?_; clear hf a; intro a hf
         refine OQ.skipB hf rfl rfl hb39 rfl ?_; clear hf a; intro a hf
         refine OQ.skipB hf rfl rfl hb39 rfl ?_; clear hf a; intro a hf
         refine OQ.skipB hf rfl rfl hb39 rfl ?_; clear hf a; intro a hf
         refine OQ.skipB hf rfl rfl hb39 rfl ?_; clear hf a; intro a hf
         refine OQ.skipB hf rfl rfl hb39 rfl ?_; clear hf a; intro a hf
         refine OQ.skipB hf rfl rfl hb39 rfl ?_; clear hf a; intro a hf
         refine OQ.skipB hf rfl rfl hb39 rfl ?_; clear hf a; intro a hf
         refine OQ.skipB hf rfl rfl hb39 rfl ?_; clear hf a; intro a hf
         refine OQ.skipB hf rfl rfl hb39 rfl ?_; clear hf a; intro a hf
         refine OQ.skipB hf rfl rfl hb39 rfl ?_; clear hf a; intro a hf
         refine OQ.skipB hf rfl rfl hb39 rfl ?_; clear hf a; intro a hf
         refine OQ.skipB hf rfl rfl hb39 rfl ?_; clear hf a; intro a hf
         refine OQ.val (v := Bv false) hf rfl (fun w hS => RunV.pick rfl rfl rfl (by rw [hb39]; rfl)) ?_; clear hf a; intro a hf
         refine OQ.val (v := Bv false) hf rfl (fun w hS => RunV.assign rfl) ?_; clear hf a; intro a hf
         refine OQ.nil ?_; intro w hS
         replace hS := hS.sub (N := []) (.cons _ (.cons _ (.cons _ (.cons _ .slnil))))
         exact k_then ⟨false, hf.to ⟨rfl, trivial⟩, hS, hm⟩
       ·clear hf hS hm a; try clear w
        rintro a w ⟨x36, hf, hS, hm⟩
        unfold m_law42_PlanBest_j1 at hm
        refine W.ret ?_
        obtain rfl := Option.some.inj hm
        refine post1 hf rfl (ResOK.tmp rfl) ?_
        exact ⟨(), rfl, hS.noB⟩
end Go.Proofs.Ytipedambeemdaaa
