/- Part of a proof: walks printed by a program. -/
import Derived.Test.YtipedambeemdaaaWaa
set_option linter.unusedVariables false
set_option linter.unusedSimpArgs false
namespace Go.Proofs.Ytipedambeemdaaa
open Go Go.SL
set_option maxHeartbeats 1000000 in
set_option maxRecDepth 8000 in
theorem m_wide_check_ok (F : Nat)    (b1 : Nat) (x2 : Bool) (s3 : Value) (x4 : List Int) (x5 : Bool) (s6 : Value) (x7 : List Int) (w0 : World) (h_s3 : rdEOK (hp w0) 1 E98 s3 x4) (h_s6 : rdEOK (hp w0) 1 E98 s6 x7) (h_b1 : w0.heap[b1]? = some (.cells #[Bv x2, s3, Bv x5, s6] 39 (0, 0))) (r : Int) (hm : m_wide_check F x2 x4 x5 x7 = some r) :
    Ret Try.prog 51 #[.slice (some ⟨b1, 0, none⟩) 2 2] w0 (G := Unit) (fun _ => Iv r) (fun _ w => St w0 w noX [] []) := by
 unfold m_wide_check at hm
 refine ret_of_W (lv := [.slice (some ⟨b1, 0, none⟩) 2 2]) Try.func51 rfl rfl rfl (fun a hf => ?_)
 replace hf : Fr a 39 [] [(0, .slice (some ⟨b1, 0, none⟩) 2 2)] := hf
 have hS : St w0 w0 noX [rdE 1 E98 s3 x4, rdE 1 E98 s6 x7, pt b1 (Cs #[Bv x2, s3, Bv x5, s6] 39)] [] := St.borrow (lendAll_cons (lendRd h_s3) (lendAll_cons (lendRd h_s6) (lendAll_cons (lendPt h_b1) lendAll_nil)))
 refine W.seq ?_
 refine W.regionL (l := [0]) rfl ?_
 refine O.val hf rfl rfl rfl (RunV.assign rfl) ?_; clear hf a; intro a hf
 refine O.nil ?_
 refine k_seq ?_
 refine W.seqR (fun a w => Fr a 39 [] [(2, Iv 0)] ∧ St w0 w noX [rdE 1 E98 s3 x4, rdE 1 E98 s6 x7, pt b1 (Cs #[Bv x2, s3, Bv x5, s6] 39)] [] ∧ m_wide_check_j1 F = some r) ?_ ?_
 ·refine W.seq ?_
  refine W.regionL (l := [0, 1, 2]) rfl ?_
  refine O.val hf rfl rfl rfl (RunV.move rfl) ?_; clear hf a; intro a hf
  refine O.val (v := Iv 2) hf rfl rfl rfl (RunV.len (e := 39) (by simpa using T_elem_124) rfl) ?_; clear hf a; intro a hf
  refine O.val hf rfl rfl rfl (RunV.move rfl) ?_; clear hf a; intro a hf
  refine O.nil ?_
  refine k_seq ?_
  replace hf : Fr a 39 [] [(2, Iv 0), (6, .slice (some ⟨b1, 0, none⟩) 2 2), (7, Iv 2), (8, Iv 0)] := hf.to ⟨rfl, rfl, rfl, rfl, trivial⟩
  refine W.block ?_
  refine W.loopH (LH.step ?_)
  refine W.seq ?_
  refine W.regionL (l := [0]) rfl ?_
  refine O.val (v := Bv true) hf rfl rfl rfl (RunV.lss (p := 0) (q := 2) rfl rfl) ?_; clear hf a; intro a hf
  refine O.nil ?_
  refine k_seq ?_
  refine W.seq ?_
  refine W.if_tt hf rfl ?_
  refine W.skip ?_
  refine k_seq ?_
  refine W.seq ?_
  refine W.block ?_
  refine W.seq ?_
  refine W.regionL (l := [0, 1, 2, 3]) rfl ?_
  refine O.val hf rfl rfl rfl (RunV.indexSl (j := 0) (m := 0) T_elem_124 T_size_39 rfl rfl rfl (by decide) rfl) ?_; clear hf a; intro a hf
  refine O.val hf rfl rfl rfl (RunV.loadN (cs' := #[Bv x2, s3]) T_agg_39 T_size_39 rfl (hS.bptAt (i := 2) rfl) (Nat.le_of_ble_eq_true rfl) rfl) ?_; clear hf a; intro a hf
  refine O.alloc (cs := #[Bv false, .slice none 0 0]) hf hS rfl rfl T_zero_39 rfl ?_
  clear hf hS a; intro b8 w a hb8 hS hf
  refine O.store (j := 0) (cs' := #[Bv x2, s3]) (M' := [pt b8 (Cs #[Bv x2, s3] 39)]) hf hS rfl rfl rfl T_size_39 rfl (oneCells_cc rfl (oneCells_cc (rdEOK_one (hS.rdB (j := 0) rfl)) rfl)) rfl (Nat.le_of_ble_eq_true rfl) rfl rfl ?_
  clear hS; intro w hS
  refine O.nil ?_
  refine k_seq ?_
  refine W.seq ?_
  refine W.regionL (l := [0, 1, 2, 3]) rfl ?_
  refine O.val hf rfl rfl rfl (RunV.field T_field_39_1 rfl rfl) ?_; clear hf a; intro a hf
  refine O.val hf rfl rfl rfl (RunV.load1 T_agg_37 rfl (hS.ptAt (i := 0) rfl) rfl) ?_; clear hf a; intro a hf
  refine O.val (v := Iv (x4.length : Int)) hf rfl rfl rfl (RunV.lenE (e := 98) (by simpa using T_elem_37) rfl (hS.rdB (j := 0) rfl)) ?_; clear hf a; intro a hf
  refine O.val hf rfl rfl rfl (RunV.assign rfl) ?_; clear hf a; intro a hf
  refine O.nil ?_
  refine k_seq ?_
  refine W.seq ?_
  refine W.regionL (l := [0, 1, 2, 3, 4, 5, 6, 7, 8, 9, 10, 11, 12, 13, 14, 15, 16, 17, 18, 19, 20, 21, 22]) rfl ?_
  refine O.val hf rfl rfl rfl (RunV.move rfl) ?_; clear hf a; intro a hf
  refine O.val (v := Bv (decide ((x4.length : Int) > (4096 : Int)))) hf rfl rfl rfl (RunV.gtr rfl rfl) ?_; clear hf a; intro a hf
  refine O.val hf rfl rfl rfl (RunV.move rfl) ?_; clear hf a; intro a hf
  refine O.cutN (l₁ := [3, 4, 5, 6, 7, 8, 9, 10, 11, 12, 13, 14]) (l₂ := _) (fun a w => ∃ (x9 : Bool), Fr a 39 [] [(2, Iv 0), (4, Pv b8 0), (5, Iv (x4.length : Int)), (6, .slice (some ⟨b1, 0, none⟩) 2 2), (7, Iv 2), (8, Iv 0), (9, Bv true), (10, Pv b1 0), (11, .agg #[Bv x2, s3]), (12, Pv b8 1), (13, s3), (14, Iv (x4.length : Int)), (15, Iv (x4.length : Int)), (16, Bv (decide ((x4.length : Int) > (4096 : Int)))), (17, Bv (decide ((x4.length : Int) > (4096 : Int)))), (29, Bv x9)] ∧ St w0 w noX [rdE 1 E98 s3 x4, rdE 1 E98 s6 x7, pt b1 (Cs #[Bv x2, s3, Bv x5, s6] 39)] [pt b8 (Cs #[Bv x2, s3] 39)] ∧ m_wide_check_j4 F x4 x2 x7 x5 x9 = some r) rfl ?_ ?_
  ·rcases Bool.eq_false_or_eq_true (decide ((x4.length : Int) > (4096 : Int))) with hb22 | hb22
   ·have hb22p := of_decide_eq_true hb22
    replace hm := hm_p hm hb22p
    refine O.skipB hf rfl rfl rfl hb22 rfl ?_; clear hf a; intro a hf
    refine O.skipB hf rfl rfl rfl hb22 rfl ?_; clear hf a; intro a hf
    refine O.skipB hf rfl rfl rfl hb22 rfl ?_; clear hf a; intro a hf
    refine O.skipU hf rfl rfl rfl rfl ?_; clear hf a; intro a hf
    refine O.skipU hf rfl rfl rfl rfl ?_; clear hf a; intro a hf
    refine O.skipU hf rfl rfl rfl rfl ?_; clear hf a; intro a hf
    refine O.skipU hf rfl rfl rfl rfl ?_; clear hf a; intro a hf
    refine O.skipU hf rfl rfl rfl rfl ?_; clear hf a; intro a hf
    refine O.skipU hf rfl rfl rfl rfl ?_; clear hf a; intro a hf
    refine O.skipU hf rfl rfl rfl rfl ?_; clear hf a; intro a hf
    refine O.skipB hf rfl rfl rfl hb22 rfl ?_; clear hf a; intro a hf
    refine O.val (v := Bv true) hf rfl rfl rfl (RunV.pick rfl rfl rfl (by rw [hb22]; rfl)) ?_; clear hf a; intro a hf
    exact O.nil ⟨rfl, true, hf.to ⟨rfl, rfl, rfl, rfl, rfl, rfl, rfl, rfl, rfl, rfl, rfl, rfl, rfl, rfl, rfl, rfl, trivial⟩, hS, hm⟩
   ·have hb22p := of_decide_eq_false hb22
    replace hm := hm_n hm hb22p
    refine O.gvalB hf rfl rfl rfl hb22 rfl rfl (RunV.move rfl) ?_; clear hf a; intro a hf
    refine O.gvalB (v := Bv (decide ((x4.length : Int) > (0 : Int)))) hf rfl rfl rfl hb22 rfl rfl (RunV.gtr rfl rfl) ?_; clear hf a; intro a hf
    refine O.gvalB hf rfl rfl rfl hb22 rfl rfl (RunV.move rfl) ?_; clear hf a; intro a hf
    refine O.cutN (l₁ := [6, 7, 8, 9, 10, 11, 12, 13]) (l₂ := _) (fun a w => ∃ (x23 : Bool), Fr a 39 [] [(2, Iv 0), (4, Pv b8 0), (5, Iv (x4.length : Int)), (6, .slice (some ⟨b1, 0, none⟩) 2 2), (7, Iv 2), (8, Iv 0), (9, Bv true), (10, Pv b1 0), (11, .agg #[Bv x2, s3]), (12, Pv b8 1), (13, s3), (14, Iv (x4.length : Int)), (15, Iv (x4.length : Int)), (16, Bv (decide ((x4.length : Int) > (4096 : Int)))), (17, Bv (decide ((x4.length : Int) > (4096 : Int)))), (18, Iv (x4.length : Int)), (19, Bv (decide ((x4.length : Int) > (0 : Int)))), (20, Bv (decide ((x4.length : Int) > (0 : Int)))), (28, Bv x23)] ∧ St w0 w noX [rdE 1 E98 s3 x4, rdE 1 E98 s6 x7, pt b1 (Cs #[Bv x2, s3, Bv x5, s6] 39)] [pt b8 (Cs #[Bv x2, s3] 39)] ∧ m_wide_check_j5 F x4 x2 x7 x5 x23 = some r) rfl ?_ ?_
    ·rcases Bool.eq_false_or_eq_true (decide ((x4.length : Int) > (0 : Int))) with hb24 | hb24
     ·have hb24p := of_decide_eq_true hb24
      replace hm := hm_p hm hb24p
      refine O.gvalB hf rfl rfl rfl hb24 rfl rfl (RunV.field T_field_39_1 rfl rfl) ?_; clear hf a; intro a hf
      refine O.gvalB hf rfl rfl rfl hb24 rfl rfl (RunV.load1 T_agg_37 rfl (hS.ptAt (i := 0) rfl) rfl) ?_; clear hf a; intro a hf
      refine O.gvalB hf rfl rfl rfl hb24 rfl rfl (RunV.move rfl) ?_; clear hf a; intro a hf
      refine O.gvalB (v := Iv (IntKind.i64.wrap ((x4.length : Int) - 1))) hf rfl rfl rfl hb24 rfl rfl (RunV.sub rfl rfl) ?_; clear hf a; intro a hf
      obtain ⟨x25, hx25, hm⟩ := hm_b hm
      refine O.gvalB hf rfl rfl rfl hb24 rfl rfl (RunV.ixE T_elem_37 T_size_98 rfl rfl (hS.rdB (j := 0) rfl) hx25) ?_; clear hf a; intro a hf
      refine O.gvalB hf rfl rfl rfl hb24 rfl rfl (RunV.ldE1 (o := 0) T_agg_98 E98_len rfl (hS.rdB (j := 0) rfl) hx25 rfl rfl) ?_; clear hf a; intro a hf
      refine O.gvalB (v := Bv (decide (x25 = (0 : Int)))) hf rfl rfl rfl hb24 rfl rfl (RunV.eql rfl rfl) ?_; clear hf a; intro a hf
      refine O.gvalB (v := Bv (decide (x25 = (0 : Int)))) hf rfl rfl rfl hb22 rfl rfl (RunV.pick rfl rfl rfl (by rw [hb24]; rfl)) ?_; clear hf a; intro a hf
      exact O.nil ⟨rfl, decide (x25 = (0 : Int)), hf.to ⟨rfl, rfl, rfl, rfl, rfl, rfl, rfl, rfl, rfl, rfl, rfl, rfl, rfl, rfl, rfl, rfl, rfl, rfl, rfl, trivial⟩, hS, hm⟩
     ·have hb24p := of_decide_eq_false hb24
      replace hm := hm_n hm hb24p
      refine O.skipB hf rfl rfl rfl hb24 rfl ?_; clear hf a; intro a hf
      refine O.skipB hf rfl rfl rfl hb24 rfl ?_; clear hf a; intro a hf
      refine O.skipB hf rfl rfl rfl hb24 rfl ?_; clear hf a; intro a hf
      refine O.skipB hf rfl rfl rfl hb24 rfl ?_; clear hf a; intro a hf
      refine O.skipB hf rfl rfl rfl hb24 rfl ?_; clear hf a; intro a hf
      refine O.skipB hf rfl rfl rfl hb24 rfl ?_; clear hf a; intro a hf
      refine O.skipB hf rfl rfl rfl hb24 rfl ?_; clear hf a; intro a hf
      refine O.gvalB (v := Bv false) hf rfl rfl rfl hb22 rfl rfl (RunV.pick rfl rfl rfl (by rw [hb24]; rfl)) ?_; clear hf a; intro a hf
      exact O.nil ⟨rfl, false, hf.to ⟨rfl, rfl, rfl, rfl, rfl, rfl, rfl, rfl, rfl, rfl, rfl, rfl, rfl, rfl, rfl, rfl, rfl, rfl, rfl, trivial⟩, hS, hm⟩
    clear hf hS hm a; try clear w
    rintro a w ⟨x23, hf, hS, hm⟩
    unfold m_wide_check_j5 at hm
    refine O.val (v := Bv x23) hf rfl rfl rfl (RunV.pick rfl rfl rfl (by rw [hb22]; rfl)) ?_; clear hf a; intro a hf
    exact O.nil ⟨rfl, x23, hf.to ⟨rfl, rfl, rfl, rfl, rfl, rfl, rfl, rfl, rfl, rfl, rfl, rfl, rfl, rfl, rfl, rfl, trivial⟩, hS, hm⟩
  clear hf hS hm a; try clear w
  rintro a w ⟨x9, hf, hS, hm⟩
  unfold m_wide_check_j4 at hm
  refine O.val hf rfl rfl rfl (RunV.move rfl) ?_; clear hf a; intro a hf
  refine O.cutN (l₁ := [16, 17, 18, 19, 20, 21, 22]) (l₂ := _) (fun a w => Fr a 39 [] [(2, Iv 0), (4, Pv b8 0), (5, Iv (x4.length : Int)), (6, .slice (some ⟨b1, 0, none⟩) 2 2), (7, Iv 2), (8, Iv 0), (9, Bv true), (10, Pv b1 0), (11, .agg #[Bv x2, s3]), (12, Pv b8 1), (13, s3), (14, Iv (x4.length : Int)), (15, Iv (x4.length : Int)), (16, Bv (decide ((x4.length : Int) > (4096 : Int)))), (17, Bv (decide ((x4.length : Int) > (4096 : Int)))), (29, Bv x9), (30, Bv x9), (37, Bv (x9 || ((decide ((x4.length : Int) = (0 : Int))) && x2)))] ∧ St w0 w noX [rdE 1 E98 s3 x4, rdE 1 E98 s6 x7, pt b1 (Cs #[Bv x2, s3, Bv x5, s6] 39)] [pt b8 (Cs #[Bv x2, s3] 39)]) rfl ?_ ?_
  ·rcases Bool.eq_false_or_eq_true (x9) with hb10 | hb10
   ·refine O.skipB hf rfl rfl rfl hb10 rfl ?_; clear hf a; intro a hf
    refine O.skipB hf rfl rfl rfl hb10 rfl ?_; clear hf a; intro a hf
    refine O.skipB hf rfl rfl rfl hb10 rfl ?_; clear hf a; intro a hf
    refine O.skipU hf rfl rfl rfl rfl ?_; clear hf a; intro a hf
    refine O.skipU hf rfl rfl rfl rfl ?_; clear hf a; intro a hf
    refine O.skipB hf rfl rfl rfl hb10 rfl ?_; clear hf a; intro a hf
    refine O.val (v := Bv (x9 || ((decide ((x4.length : Int) = (0 : Int))) && x2))) hf rfl rfl rfl (RunV.pick rfl rfl rfl (by rw [hb10]; rfl)) ?_; clear hf a; intro a hf
    exact O.nil ⟨rfl, hf.to ⟨rfl, rfl, rfl, rfl, rfl, rfl, rfl, rfl, rfl, rfl, rfl, rfl, rfl, rfl, rfl, rfl, rfl, rfl, trivial⟩, hS⟩
   ·refine O.gvalB hf rfl rfl rfl hb10 rfl rfl (RunV.move rfl) ?_; clear hf a; intro a hf
    refine O.gvalB (v := Bv (decide ((x4.length : Int) = (0 : Int)))) hf rfl rfl rfl hb10 rfl rfl (RunV.eql rfl rfl) ?_; clear hf a; intro a hf
    refine O.gvalB hf rfl rfl rfl hb10 rfl rfl (RunV.move rfl) ?_; clear hf a; intro a hf
    refine O.cutN (l₁ := [19, 20, 21]) (l₂ := _) (fun a w => Fr a 39 [] [(2, Iv 0), (4, Pv b8 0), (5, Iv (x4.length : Int)), (6, .slice (some ⟨b1, 0, none⟩) 2 2), (7, Iv 2), (8, Iv 0), (9, Bv true), (10, Pv b1 0), (11, .agg #[Bv x2, s3]), (12, Pv b8 1), (13, s3), (14, Iv (x4.length : Int)), (15, Iv (x4.length : Int)), (16, Bv (decide ((x4.length : Int) > (4096 : Int)))), (17, Bv (decide ((x4.length : Int) > (4096 : Int)))), (29, Bv x9), (30, Bv x9), (31, Iv (x4.length : Int)), (32, Bv (decide ((x4.length : Int) = (0 : Int)))), (33, Bv (decide ((x4.length : Int) = (0 : Int)))), (36, Bv ((decide ((x4.length : Int) = (0 : Int))) && x2))] ∧ St w0 w noX [rdE 1 E98 s3 x4, rdE 1 E98 s6 x7, pt b1 (Cs #[Bv x2, s3, Bv x5, s6] 39)] [pt b8 (Cs #[Bv x2, s3] 39)]) rfl ?_ ?_
    ·rcases Bool.eq_false_or_eq_true (decide ((x4.length : Int) = (0 : Int))) with hb11 | hb11
     ·refine O.gvalB hf rfl rfl rfl hb11 rfl rfl (RunV.field T_field_39_0 rfl rfl) ?_; clear hf a; intro a hf
      refine O.gvalB hf rfl rfl rfl hb11 rfl rfl (RunV.load1 T_agg_4 rfl (hS.ptAt (i := 0) rfl) rfl) ?_; clear hf a; intro a hf
      refine O.gvalB (v := Bv ((decide ((x4.length : Int) = (0 : Int))) && x2)) hf rfl rfl rfl hb10 rfl rfl (RunV.pick rfl rfl rfl (by rw [hb11]; rfl)) ?_; clear hf a; intro a hf
      exact O.nil ⟨rfl, hf.to ⟨rfl, rfl, rfl, rfl, rfl, rfl, rfl, rfl, rfl, rfl, rfl, rfl, rfl, rfl, rfl, rfl, rfl, rfl, rfl, rfl, rfl, trivial⟩, hS⟩
     ·refine O.skipB hf rfl rfl rfl hb11 rfl ?_; clear hf a; intro a hf
      refine O.skipB hf rfl rfl rfl hb11 rfl ?_; clear hf a; intro a hf
      refine O.gvalB (v := Bv ((decide ((x4.length : Int) = (0 : Int))) && x2)) hf rfl rfl rfl hb10 rfl rfl (RunV.pick rfl rfl rfl (by rw [hb11]; rfl)) ?_; clear hf a; intro a hf
      exact O.nil ⟨rfl, hf.to ⟨rfl, rfl, rfl, rfl, rfl, rfl, rfl, rfl, rfl, rfl, rfl, rfl, rfl, rfl, rfl, rfl, rfl, rfl, rfl, rfl, rfl, trivial⟩, hS⟩
    clear hf hS a; try clear w
    rintro a w ⟨hf, hS⟩
    refine O.val (v := Bv (x9 || ((decide ((x4.length : Int) = (0 : Int))) && x2))) hf rfl rfl rfl (RunV.pick rfl rfl rfl (by rw [hb10]; rfl)) ?_; clear hf a; intro a hf
    exact O.nil ⟨rfl, hf.to ⟨rfl, rfl, rfl, rfl, rfl, rfl, rfl, rfl, rfl, rfl, rfl, rfl, rfl, rfl, rfl, rfl, rfl, rfl, trivial⟩, hS⟩
  clear hf hS a; try clear w
  rintro a w ⟨hf, hS⟩
  refine O.nil ?_
  refine k_seq ?_
  refine W.if_ hf rfl (fun hc12 => ?_) (fun hc12 => ?_)
  ·replace hm := hm_t hm hc12
   refine W.seq ?_
   refine W.regionL (l := [0]) rfl ?_
   refine O.val hf rfl rfl rfl (RunV.assign rfl) ?_; clear hf a; intro a hf
   refine O.nil ?_
   refine k_seq ?_
   refine W.ret ?_
   refine k_blk_ret ?_
   refine k_then_ret ?_
   refine k_then_ret ?_
   refine k_blk_ret ?_
   refine k_then_ret ?_
   obtain rfl := Option.some.inj hm
   refine post1 hf rfl (ResOK.tmp rfl) ?_
   replace hS := hS.sub (N := []) (.cons _ .slnil)
   exact ⟨(), rfl, hS.noB⟩
  ·replace hm := hm_f hm hc12
   refine W.skip ?_
   refine k_blk_normal ?_
   refine k_seq ?_
   refine W.regionL (l := [0, 1]) rfl ?_
   refine O.val (v := Iv 1) hf rfl rfl rfl (RunV.add (p := 0) (q := 1) rfl rfl) ?_; clear hf a; intro a hf
   refine O.val hf rfl rfl rfl (RunV.move rfl) ?_; clear hf a; intro a hf
   refine O.nil ?_
   refine k_then (LH.step ?_)
   refine W.seq ?_
   refine W.regionL (l := [0]) rfl ?_
   refine O.val (v := Bv true) hf rfl rfl rfl (RunV.lss (p := 1) (q := 2) rfl rfl) ?_; clear hf a; intro a hf
   refine O.nil ?_
   refine k_seq ?_
   refine W.seq ?_
   refine W.if_tt hf rfl ?_
   refine W.skip ?_
   refine k_seq ?_
   refine W.seq ?_
   refine W.block ?_
   refine W.seq ?_
   refine W.regionL (l := [0, 1, 2, 3]) rfl ?_
   refine O.val hf rfl rfl rfl (RunV.indexSl (j := 1) (m := 2) T_elem_124 T_size_39 rfl rfl rfl (by decide) rfl) ?_; clear hf a; intro a hf
   refine O.val hf rfl rfl rfl (RunV.loadN (cs' := #[Bv x5, s6]) T_agg_39 T_size_39 rfl (hS.bptAt (i := 2) rfl) (Nat.le_of_ble_eq_true rfl) rfl) ?_; clear hf a; intro a hf
   refine O.alloc (cs := #[Bv false, .slice none 0 0]) hf hS rfl rfl T_zero_39 rfl ?_
   clear hf hS a; intro b13 w a hb13 hS hf
   refine O.store (j := 0) (cs' := #[Bv x5, s6]) (M' := [pt b13 (Cs #[Bv x5, s6] 39), pt b8 (Cs #[Bv x2, s3] 39)]) hf hS rfl rfl rfl T_size_39 rfl (oneCells_cc rfl (oneCells_cc (rdEOK_one (hS.rdB (j := 1) rfl)) rfl)) rfl (Nat.le_of_ble_eq_true rfl) rfl rfl ?_
   clear hS; intro w hS
   refine O.nil ?_
   refine k_seq ?_
   refine W.seq ?_
   refine W.regionL (l := [0, 1, 2, 3]) rfl ?_
   refine O.val hf rfl rfl rfl (RunV.field T_field_39_1 rfl rfl) ?_; clear hf a; intro a hf
   refine O.val hf rfl rfl rfl (RunV.load1 T_agg_37 rfl (hS.ptAt (i := 0) rfl) rfl) ?_; clear hf a; intro a hf
   refine O.val (v := Iv (x7.length : Int)) hf rfl rfl rfl (RunV.lenE (e := 98) (by simpa using T_elem_37) rfl (hS.rdB (j := 1) rfl)) ?_; clear hf a; intro a hf
   refine O.val hf rfl rfl rfl (RunV.assign rfl) ?_; clear hf a; intro a hf
   refine O.nil ?_
   refine k_seq ?_
   refine W.seq ?_
   refine W.regionL (l := [0, 1, 2, 3, 4, 5, 6, 7, 8, 9, 10, 11, 12, 13, 14, 15, 16, 17, 18, 19, 20, 21, 22]) rfl ?_
   refine O.val hf rfl rfl rfl (RunV.move rfl) ?_; clear hf a; intro a hf
   refine O.val (v := Bv (decide ((x7.length : Int) > (4096 : Int)))) hf rfl rfl rfl (RunV.gtr rfl rfl) ?_; clear hf a; intro a hf
   refine O.val hf rfl rfl rfl (RunV.move rfl) ?_; clear hf a; intro a hf
   refine O.cutN (l₁ := [3, 4, 5, 6, 7, 8, 9, 10, 11, 12, 13, 14]) (l₂ := _) (fun a w => ∃ (x14 : Bool), Fr a 39 [] [(2, Iv 0), (4, Pv b13 0), (5, Iv (x7.length : Int)), (6, .slice (some ⟨b1, 0, none⟩) 2 2), (7, Iv 2), (8, Iv 1), (9, Bv true), (10, Pv b1 2), (11, .agg #[Bv x5, s6]), (12, Pv b13 1), (13, s6), (14, Iv (x7.length : Int)), (15, Iv (x7.length : Int)), (16, Bv (decide ((x7.length : Int) > (4096 : Int)))), (17, Bv (decide ((x7.length : Int) > (4096 : Int)))), (29, Bv x14), (30, Bv x9), (37, Bv (x9 || ((decide ((x4.length : Int) = (0 : Int))) && x2))), (38, Iv 1)] ∧ St w0 w noX [rdE 1 E98 s3 x4, rdE 1 E98 s6 x7, pt b1 (Cs #[Bv x2, s3, Bv x5, s6] 39)] [pt b13 (Cs #[Bv x5, s6] 39)] ∧ m_wide_check_j2 F x7 x5 x14 = some r) rfl ?_ ?_
   ·rcases Bool.eq_false_or_eq_true (decide ((x7.length : Int) > (4096 : Int))) with hb18 | hb18
    ·have hb18p := of_decide_eq_true hb18
     replace hm := hm_p hm hb18p
     refine O.skipB hf rfl rfl rfl hb18 rfl ?_; clear hf a; intro a hf
     refine O.skipB hf rfl rfl rfl hb18 rfl ?_; clear hf a; intro a hf
     refine O.skipB hf rfl rfl rfl hb18 rfl ?_; clear hf a; intro a hf
     refine O.skipU hf rfl rfl rfl rfl ?_; clear hf a; intro a hf
     refine O.skipU hf rfl rfl rfl rfl ?_; clear hf a; intro a hf
     refine O.skipU hf rfl rfl rfl rfl ?_; clear hf a; intro a hf
     refine O.skipU hf rfl rfl rfl rfl ?_; clear hf a; intro a hf
     refine O.skipU hf rfl rfl rfl rfl ?_; clear hf a; intro a hf
     refine O.skipU hf rfl rfl rfl rfl ?_; clear hf a; intro a hf
     refine O.skipU hf rfl rfl rfl rfl ?_; clear hf a; intro a hf
     refine O.skipB hf rfl rfl rfl hb18 rfl ?_; clear hf a; intro a hf
     refine O.val (v := Bv true) hf rfl rfl rfl (RunV.pick rfl rfl rfl (by rw [hb18]; rfl)) ?_; clear hf a; intro a hf
     replace hS := hS.sub (N := [pt b13 (Cs #[Bv x5, s6] 39)]) (.cons_cons _ (.cons _ .slnil))
     exact O.nil ⟨rfl, true, hf.to ⟨rfl, rfl, rfl, rfl, rfl, rfl, rfl, rfl, rfl, rfl, rfl, rfl, rfl, rfl, rfl, rfl, rfl, rfl, rfl, trivial⟩, hS, hm⟩
    ·have hb18p := of_decide_eq_false hb18
     replace hm := hm_n hm hb18p
     refine O.gvalB hf rfl rfl rfl hb18 rfl rfl (RunV.move rfl) ?_; clear hf a; intro a hf
     refine O.gvalB (v := Bv (decide ((x7.length : Int) > (0 : Int)))) hf rfl rfl rfl hb18 rfl rfl (RunV.gtr rfl rfl) ?_; clear hf a; intro a hf
     refine O.gvalB hf rfl rfl rfl hb18 rfl rfl (RunV.move rfl) ?_; clear hf a; intro a hf
     refine O.cutN (l₁ := [6, 7, 8, 9, 10, 11, 12, 13]) (l₂ := _) (fun a w => ∃ (x19 : Bool), Fr a 39 [] [(2, Iv 0), (4, Pv b13 0), (5, Iv (x7.length : Int)), (6, .slice (some ⟨b1, 0, none⟩) 2 2), (7, Iv 2), (8, Iv 1), (9, Bv true), (10, Pv b1 2), (11, .agg #[Bv x5, s6]), (12, Pv b13 1), (13, s6), (14, Iv (x7.length : Int)), (15, Iv (x7.length : Int)), (16, Bv (decide ((x7.length : Int) > (4096 : Int)))), (17, Bv (decide ((x7.length : Int) > (4096 : Int)))), (18, Iv (x7.length : Int)), (19, Bv (decide ((x7.length : Int) > (0 : Int)))), (20, Bv (decide ((x7.length : Int) > (0 : Int)))), (28, Bv x19), (29, Bv x9), (30, Bv x9), (37, Bv (x9 || ((decide ((x4.length : Int) = (0 : Int))) && x2))), (38, Iv 1)] ∧ St w0 w noX [rdE 1 E98 s3 x4, rdE 1 E98 s6 x7, pt b1 (Cs #[Bv x2, s3, Bv x5, s6] 39)] [pt b13 (Cs #[Bv x5, s6] 39)] ∧ m_wide_check_j3 F x7 x5 x19 = some r) rfl ?_ ?_
     ·rcases Bool.eq_false_or_eq_true (decide ((x7.length : Int) > (0 : Int))) with hb20 | hb20
      ·have hb20p := of_decide_eq_true hb20
       replace hm := hm_p hm hb20p
       refine O.gvalB hf rfl rfl rfl hb20 rfl rfl (RunV.field T_field_39_1 rfl rfl) ?_; clear hf a; intro a hf
       refine O.gvalB hf rfl rfl rfl hb20 rfl rfl (RunV.load1 T_agg_37 rfl (hS.ptAt (i := 0) rfl) rfl) ?_; clear hf a; intro a hf
       refine O.gvalB hf rfl rfl rfl hb20 rfl rfl (RunV.move rfl) ?_; clear hf a; intro a hf
       refine O.gvalB (v := Iv (IntKind.i64.wrap ((x7.length : Int) - 1))) hf rfl rfl rfl hb20 rfl rfl (RunV.sub rfl rfl) ?_; clear hf a; intro a hf
       obtain ⟨x21, hx21, hm⟩ := hm_b hm
       refine O.gvalB hf rfl rfl rfl hb20 rfl rfl (RunV.ixE T_elem_37 T_size_98 rfl rfl (hS.rdB (j := 1) rfl) hx21) ?_; clear hf a; intro a hf
       refine O.gvalB hf rfl rfl rfl hb20 rfl rfl (RunV.ldE1 (o := 0) T_agg_98 E98_len rfl (hS.rdB (j := 1) rfl) hx21 rfl rfl) ?_; clear hf a; intro a hf
       refine O.gvalB (v := Bv (decide (x21 = (0 : Int)))) hf rfl rfl rfl hb20 rfl rfl (RunV.eql rfl rfl) ?_; clear hf a; intro a hf
       refine O.gvalB (v := Bv (decide (x21 = (0 : Int)))) hf rfl rfl rfl hb18 rfl rfl (RunV.pick rfl rfl rfl (by rw [hb20]; rfl)) ?_; clear hf a; intro a hf
       replace hS := hS.sub (N := [pt b13 (Cs #[Bv x5, s6] 39)]) (.cons_cons _ (.cons _ .slnil))
       exact O.nil ⟨rfl, decide (x21 = (0 : Int)), hf.to ⟨rfl, rfl, rfl, rfl, rfl, rfl, rfl, rfl, rfl, rfl, rfl, rfl, rfl, rfl, rfl, rfl, rfl, rfl, rfl, rfl, rfl, rfl, rfl, trivial⟩, hS, hm⟩
      ·have hb20p := of_decide_eq_false hb20
       replace hm := hm_n hm hb20p
       refine O.skipB hf rfl rfl rfl hb20 rfl ?_; clear hf a; intro a hf
       refine O.skipB hf rfl rfl rfl hb20 rfl ?_; clear hf a; intro a hf
       refine O.skipB hf rfl rfl rfl hb20 rfl ?_; clear hf a; intro a hf
       refine O.skipB hf rfl rfl rfl hb20 rfl ?_; clear hf a; intro a hf
       refine O.skipB hf rfl rfl rfl hb20 rfl ?_; clear hf a; intro a hf
       refine O.skipB hf rfl rfl rfl hb20 rfl ?_; clear hf a; intro a hf
       refine O.skipB hf rfl rfl rfl hb20 rfl ?_; clear hf a; intro a hf
       refine O.gvalB (v := Bv false) hf rfl rfl rfl hb18 rfl rfl (RunV.pick rfl rfl rfl (by rw [hb20]; rfl)) ?_; clear hf a; intro a hf
       replace hS := hS.sub (N := [pt b13 (Cs #[Bv x5, s6] 39)]) (.cons_cons _ (.cons _ .slnil))
       exact O.nil ⟨rfl, false, hf.to ⟨rfl, rfl, rfl, rfl, rfl, rfl, rfl, rfl, rfl, rfl, rfl, rfl, rfl, rfl, rfl, rfl, rfl, rfl, rfl, rfl, rfl, rfl, rfl, trivial⟩, hS, hm⟩
     clear hf hS hm a; try clear w
     rintro a w ⟨x19, hf, hS, hm⟩
     unfold m_wide_check_j3 at hm
     refine O.val (v := Bv x19) hf rfl rfl rfl (RunV.pick rfl rfl rfl (by rw [hb18]; rfl)) ?_; clear hf a; intro a hf
     exact O.nil ⟨rfl, x19, hf.to ⟨rfl, rfl, rfl, rfl, rfl, rfl, rfl, rfl, rfl, rfl, rfl, rfl, rfl, rfl, rfl, rfl, rfl, rfl, rfl, trivial⟩, hS, hm⟩
   clear hf hS hm a; try clear w
   rintro a w ⟨x14, hf, hS, hm⟩
   unfold m_wide_check_j2 at hm
   refine O.val hf rfl rfl rfl (RunV.move rfl) ?_; clear hf a; intro a hf
   refine O.cutN (l₁ := [16, 17, 18, 19, 20, 21, 22]) (l₂ := _) (fun a w => Fr a 39 [] [(2, Iv 0), (4, Pv b13 0), (5, Iv (x7.length : Int)), (6, .slice (some ⟨b1, 0, none⟩) 2 2), (7, Iv 2), (8, Iv 1), (9, Bv true), (10, Pv b1 2), (11, .agg #[Bv x5, s6]), (12, Pv b13 1), (13, s6), (14, Iv (x7.length : Int)), (15, Iv (x7.length : Int)), (16, Bv (decide ((x7.length : Int) > (4096 : Int)))), (17, Bv (decide ((x7.length : Int) > (4096 : Int)))), (29, Bv x14), (30, Bv x14), (37, Bv (x14 || ((decide ((x7.length : Int) = (0 : Int))) && x5))), (38, Iv 1)] ∧ St w0 w noX [rdE 1 E98 s3 x4, rdE 1 E98 s6 x7, pt b1 (Cs #[Bv x2, s3, Bv x5, s6] 39)] [pt b13 (Cs #[Bv x5, s6] 39)]) rfl ?_ ?_
   ·rcases Bool.eq_false_or_eq_true (x14) with hb15 | hb15
    ·refine O.skipB hf rfl rfl rfl hb15 rfl ?_; clear hf a; intro a hf
     refine O.skipB hf rfl rfl rfl hb15 rfl ?_; clear hf a; intro a hf
     refine O.skipB hf rfl rfl rfl hb15 rfl ?_; clear hf a; intro a hf
     refine O.skipU hf rfl rfl rfl rfl ?_; clear hf a; intro a hf
     refine O.skipU hf rfl rfl rfl rfl ?_; clear hf a; intro a hf
     refine O.skipB hf rfl rfl rfl hb15 rfl ?_; clear hf a; intro a hf
     refine O.val (v := Bv (x14 || ((decide ((x7.length : Int) = (0 : Int))) && x5))) hf rfl rfl rfl (RunV.pick rfl rfl rfl (by rw [hb15]; rfl)) ?_; clear hf a; intro a hf
     exact O.nil ⟨rfl, hf.to ⟨rfl, rfl, rfl, rfl, rfl, rfl, rfl, rfl, rfl, rfl, rfl, rfl, rfl, rfl, rfl, rfl, rfl, rfl, rfl, trivial⟩, hS⟩
    ·refine O.gvalB hf rfl rfl rfl hb15 rfl rfl (RunV.move rfl) ?_; clear hf a; intro a hf
     refine O.gvalB (v := Bv (decide ((x7.length : Int) = (0 : Int)))) hf rfl rfl rfl hb15 rfl rfl (RunV.eql rfl rfl) ?_; clear hf a; intro a hf
     refine O.gvalB hf rfl rfl rfl hb15 rfl rfl (RunV.move rfl) ?_; clear hf a; intro a hf
     refine O.cutN (l₁ := [19, 20, 21]) (l₂ := _) (fun a w => Fr a 39 [] [(2, Iv 0), (4, Pv b13 0), (5, Iv (x7.length : Int)), (6, .slice (some ⟨b1, 0, none⟩) 2 2), (7, Iv 2), (8, Iv 1), (9, Bv true), (10, Pv b1 2), (11, .agg #[Bv x5, s6]), (12, Pv b13 1), (13, s6), (14, Iv (x7.length : Int)), (15, Iv (x7.length : Int)), (16, Bv (decide ((x7.length : Int) > (4096 : Int)))), (17, Bv (decide ((x7.length : Int) > (4096 : Int)))), (29, Bv x14), (30, Bv x14), (31, Iv (x7.length : Int)), (32, Bv (decide ((x7.length : Int) = (0 : Int)))), (33, Bv (decide ((x7.length : Int) = (0 : Int)))), (36, Bv ((decide ((x7.length : Int) = (0 : Int))) && x5)), (37, Bv (x9 || ((decide ((x4.length : Int) = (0 : Int))) && x2))), (38, Iv 1)] ∧ St w0 w noX [rdE 1 E98 s3 x4, rdE 1 E98 s6 x7, pt b1 (Cs #[Bv x2, s3, Bv x5, s6] 39)] [pt b13 (Cs #[Bv x5, s6] 39)]) rfl ?_ ?_
     ·rcases Bool.eq_false_or_eq_true (decide ((x7.length : Int) = (0 : Int))) with hb16 | hb16
      ·refine O.gvalB hf rfl rfl rfl hb16 rfl rfl (RunV.field T_field_39_0 rfl rfl) ?_; clear hf a; intro a hf
       refine O.gvalB hf rfl rfl rfl hb16 rfl rfl (RunV.load1 T_agg_4 rfl (hS.ptAt (i := 0) rfl) rfl) ?_; clear hf a; intro a hf
       refine O.gvalB (v := Bv ((decide ((x7.length : Int) = (0 : Int))) && x5)) hf rfl rfl rfl hb15 rfl rfl (RunV.pick rfl rfl rfl (by rw [hb16]; rfl)) ?_; clear hf a; intro a hf
       exact O.nil ⟨rfl, hf.to ⟨rfl, rfl, rfl, rfl, rfl, rfl, rfl, rfl, rfl, rfl, rfl, rfl, rfl, rfl, rfl, rfl, rfl, rfl, rfl, rfl, rfl, rfl, rfl, trivial⟩, hS⟩
      ·refine O.skipB hf rfl rfl rfl hb16 rfl ?_; clear hf a; intro a hf
       refine O.skipB hf rfl rfl rfl hb16 rfl ?_; clear hf a; intro a hf
       refine O.gvalB (v := Bv ((decide ((x7.length : Int) = (0 : Int))) && x5)) hf rfl rfl rfl hb15 rfl rfl (RunV.pick rfl rfl rfl (by rw [hb16]; rfl)) ?_; clear hf a; intro a hf
       exact O.nil ⟨rfl, hf.to ⟨rfl, rfl, rfl, rfl, rfl, rfl, rfl, rfl, rfl, rfl, rfl, rfl, rfl, rfl, rfl, rfl, rfl, rfl, rfl, rfl, rfl, rfl, rfl, trivial⟩, hS⟩
     clear hf hS a; try clear w
     rintro a w ⟨hf, hS⟩
     refine O.val (v := Bv (x14 || ((decide ((x7.length : Int) = (0 : Int))) && x5))) hf rfl rfl rfl (RunV.pick rfl rfl rfl (by rw [hb15]; rfl)) ?_; clear hf a; intro a hf
     exact O.nil ⟨rfl, hf.to ⟨rfl, rfl, rfl, rfl, rfl, rfl, rfl, rfl, rfl, rfl, rfl, rfl, rfl, rfl, rfl, rfl, rfl, rfl, rfl, trivial⟩, hS⟩
   clear hf hS a; try clear w
   rintro a w ⟨hf, hS⟩
   refine O.nil ?_
   refine k_seq ?_
   refine W.if_ hf rfl (fun hc17 => ?_) (fun hc17 => ?_)
   ·replace hm := hm_t hm hc17
    refine W.seq ?_
    refine W.regionL (l := [0]) rfl ?_
    refine O.val hf rfl rfl rfl (RunV.assign rfl) ?_; clear hf a; intro a hf
    refine O.nil ?_
    refine k_seq ?_
    refine W.ret ?_
    refine k_blk_ret ?_
    refine k_then_ret ?_
    refine k_then_ret ?_
    refine k_blk_ret ?_
    refine k_then_ret ?_
    obtain rfl := Option.some.inj hm
    refine post1 hf rfl (ResOK.tmp rfl) ?_
    replace hS := hS.sub (N := []) (.cons _ .slnil)
    exact ⟨(), rfl, hS.noB⟩
   ·replace hm := hm_f hm hc17
    refine W.skip ?_
    refine k_blk_normal ?_
    refine k_seq ?_
    refine W.regionL (l := [0, 1]) rfl ?_
    refine O.val (v := Iv 2) hf rfl rfl rfl (RunV.add (p := 1) (q := 1) rfl rfl) ?_; clear hf a; intro a hf
    refine O.val hf rfl rfl rfl (RunV.move rfl) ?_; clear hf a; intro a hf
    refine O.nil ?_
    refine k_then (LH.step ?_)
    refine W.seq ?_
    refine W.regionL (l := [0]) rfl ?_
    refine O.val (v := Bv false) hf rfl rfl rfl (RunV.lss (p := 2) (q := 2) rfl rfl) ?_; clear hf a; intro a hf
    refine O.nil ?_
    refine k_seq ?_
    refine W.seq ?_
    refine W.if_ff hf rfl ?_
    refine W.exit ?_
    refine k_then_exit ?_
    refine k_then_exit ?_
    refine k_blk ?_
    replace hS := hS.sub (N := []) (.cons _ .slnil)
    exact k_then ⟨hf.to ⟨rfl, trivial⟩, hS, hm⟩
 ·clear hf hS hm a; try clear w
  rintro a w ⟨hf, hS, hm⟩
  unfold m_wide_check_j1 at hm
  refine W.seq ?_
  refine W.regionL (l := [0]) rfl ?_
  refine O.val hf rfl rfl rfl (RunV.assign rfl) ?_; clear hf a; intro a hf
  refine O.nil ?_
  refine k_seq ?_
  refine W.ret ?_
  obtain rfl := Option.some.inj hm
  refine post1 hf rfl (ResOK.tmp rfl) ?_
  exact ⟨(), rfl, hS.noB⟩

def m_wide_times_j1 (F : Nat) (x7 : List Int) : Option (List Int) :=
  some x7
def m_wide_times_j3 (F : Nat) (rec10 : (List Int) → Int → Option (List Int)) (x9 : Int) (x12 : List Int) (x13 : Int) (x14 : Int) (x15 : Int) (x16 : Int) (x17 : Bool) (x18 : Int) (x19 : Int) : Option (List Int) :=
  rec10 x12 (IntKind.i64.wrap (x9 + 1))
def m_wide_times_j4 (F : Nat) (x9 : Int) (x4 : List Int) (rec10 : (List Int) → Int → Option (List Int)) (x20 : Int) (x21 : List Int) (x22 : Int) (x23 : Int) (x24 : Bool) : Option (List Int) :=
  (idx x21 (IntKind.i64.wrap (x9 + (x4.length : Int)))).bind fun x25 => m_wide_times_j3 F rec10 x9 (x21.set (Int.toNat (IntKind.i64.wrap (x9 + (x4.length : Int)))) (IntKind.u32.wrap x22)) x20 x22 x20 x23 x24 x22 (IntKind.u32.wrap x22)
def m_wide_times_b5 (F : Nat) (x4 : List Int) (x9 : Int) (x20 : Int) (rec10 : (List Int) → Int → Option (List Int)) (rec29 : (List Int) → Int → Int → Option (List Int)) (x26 : List Int) (x27 : Int) (x28 : Int) : Option (List Int) :=
  if x28 < ((x4.length : Int) : Int) then ((idx x4 x28).bind fun x31 => (idx x26 (IntKind.i64.wrap (x9 + x28))).bind fun x32 => (some (IntKind.i64.wrap (x9 + x28))).bind fun x33 => (some (IntKind.u64.wrap ((IntKind.u64.wrap x20) * (IntKind.u64.wrap x31)))).bind fun x34 => (some (IntKind.u64.wrap (x34 + (IntKind.u64.wrap x32)))).bind fun x35 => (some (IntKind.u64.wrap (x27 + x35))).bind fun x36 => (some (IntKind.i64.wrap (x9 + x28))).bind fun x37 => rec29 (x26.set (Int.toNat x37) (IntKind.u32.wrap x36)) (Int.fdiv x36 (2 ^ 32)) (IntKind.i64.wrap (x28 + 1))) else (m_wide_times_j4 F x9 x4 rec10 x20 x26 x27 x28 (decide (x28 < ((x4.length : Int) : Int))))
def m_wide_times_l5 (F : Nat) (x4 : List Int) (x9 : Int) (x20 : Int) (rec10 : (List Int) → Int → Option (List Int)) : Nat → (List Int) → Int → Int → Option (List Int)
  | 0, _, _, _ => none
  | n + 1, x26, x27, x28 => m_wide_times_b5 F x4 x9 x20 rec10 (m_wide_times_l5 F x4 x9 x20 rec10 n) x26 x27 x28
def m_wide_times_b2 (F : Nat) (x2 : List Int) (x4 : List Int) (rec10 : (List Int) → Int → Option (List Int)) (x8 : List Int) (x9 : Int) : Option (List Int) :=
  if x9 < ((x2.length : Int) : Int) then ((idx x2 x9).bind fun x20 => m_wide_times_l5 F x4 x9 x20 rec10 F x8 0 0) else (m_wide_times_j1 F x8)
def m_wide_times_l2 (F : Nat) (x2 : List Int) (x4 : List Int) : Nat → (List Int) → Int → Option (List Int)
  | 0, _, _ => none
  | n + 1, x8, x9 => m_wide_times_b2 F x2 x4 (m_wide_times_l2 F x2 x4 n) x8 x9
def m_wide_times (F : Nat)  (x2 : List Int) (x4 : List Int) : Option (List Int) :=
  if 0 ≤ (IntKind.i64.wrap ((x2.length : Int) + (x4.length : Int))) ∧ (IntKind.i64.wrap ((x2.length : Int) + (x4.length : Int))) ≤ 4294967296 then m_wide_times_l2 F x2 x4 F (List.replicate (Int.toNat (IntKind.i64.wrap ((x2.length : Int) + (x4.length : Int)))) (0 : Int)) 0 else none
set_option maxHeartbeats 1000000 in
set_option maxRecDepth 8000 in
theorem m_wide_times_ok (F : Nat)    (s1 : Value) (x2 : List Int) (s3 : Value) (x4 : List Int) (w0 : World) (h_s1 : rdEOK (hp w0) 1 E98 s1 x2) (h_s3 : rdEOK (hp w0) 1 E98 s3 x4) (r : List Int) (hm : m_wide_times F x2 x4 = some r) :
    Ret Try.prog 62 #[s1, s3] w0 (G := Value) (fun g1 => g1) (fun g1 w => St w0 w noX [] [slE 98 1 E98 g1 r]) := by
 unfold m_wide_times at hm
 refine ret_of_W (lv := [s1, s3]) Try.func62 rfl rfl rfl (fun a hf => ?_)
 replace hf : Fr a 66 [] [(0, s1), (1, s3)] := hf
 have hS : St w0 w0 noX [rdE 1 E98 s1 x2, rdE 1 E98 s3 x4] [] := St.borrow (lendAll_cons (lendRd h_s1) (lendAll_cons (lendRd h_s3) lendAll_nil))
 refine W.seq ?_
 refine W.regionL (l := [0]) rfl ?_
 refine O.val hf rfl rfl rfl (RunV.assign rfl) ?_; clear hf a; intro a hf
 refine O.nil ?_
 refine k_seq ?_
 refine W.seq ?_
 refine W.regionL (l := [0, 1, 2, 3, 4, 5, 6]) rfl ?_
 refine O.val hf rfl rfl rfl (RunV.move rfl) ?_; clear hf a; intro a hf
 refine O.val (v := Iv (x2.length : Int)) hf rfl rfl rfl (RunV.lenE (e := 98) (by simpa using T_elem_37) rfl (hS.rdB (j := 0) rfl)) ?_; clear hf a; intro a hf
 refine O.val hf rfl rfl rfl (RunV.move rfl) ?_; clear hf a; intro a hf
 refine O.val (v := Iv (x4.length : Int)) hf rfl rfl rfl (RunV.lenE (e := 98) (by simpa using T_elem_37) rfl (hS.rdB (j := 1) rfl)) ?_; clear hf a; intro a hf
 refine O.val (v := Iv (IntKind.i64.wrap ((x2.length : Int) + (x4.length : Int)))) hf rfl rfl rfl (RunV.add rfl rfl) ?_; clear hf a; intro a hf
 obtain ⟨hg5, hm⟩ := hm_g hm
 refine O.makeE (enc := E98) (x0 := (0 : Int)) hf hS rfl rfl T_elem_37 T_size_98 T_bytes_98 T_zero_98 rfl rfl rfl hg5 rfl E98_len rfl ?_
 clear hf hS a; intro s6 w a hS hf
 refine O.val hf rfl rfl rfl (RunV.assign rfl) ?_; clear hf a; intro a hf
 refine O.nil ?_
 refine k_seq ?_
 replace hf : Fr a 66 [] [(0, s1), (1, s3), (4, .slice none 0 0), (5, s6)] := hf.to ⟨rfl, rfl, rfl, rfl, trivial⟩
 refine W.seqR (fun a w => ∃ (x7 : List Int), Fr a 66 [] [(4, .slice none 0 0), (5, s6)] ∧ St w0 w noX [rdE 1 E98 s1 x2, rdE 1 E98 s3 x4] [slE 98 1 E98 s6 x7] ∧ m_wide_times_j1 F x7 = some r) ?_ ?_
 ·refine W.seq ?_
  refine W.regionL (l := [0, 1, 2]) rfl ?_
  refine O.val hf rfl rfl rfl (RunV.move rfl) ?_; clear hf a; intro a hf
  refine O.val (v := Iv (x2.length : Int)) hf rfl rfl rfl (RunV.lenE (e := 98) (by simpa using T_elem_37) rfl (hS.rdB (j := 0) rfl)) ?_; clear hf a; intro a hf
  refine O.val hf rfl rfl rfl (RunV.move rfl) ?_; clear hf a; intro a hf
  refine O.nil ?_
  refine k_seq ?_
  replace hf : Fr a 66 [] [(1, s3), (4, .slice none 0 0), (5, s6), (17, s1), (18, Iv (x2.length : Int)), (19, Iv 0)] := hf.to ⟨rfl, rfl, rfl, rfl, rfl, rfl, trivial⟩
  refine W.block ?_
  refine W.loop (G := Nat × (List Int) × Int) (fun g a w => match g with | (k10, x8, x9) => Fr a 66 [] [(1, s3), (4, .slice none 0 0), (5, s6), (17, s1), (18, Iv (x2.length : Int)), (19, Iv x9)] ∧ St w0 w noX [rdE 1 E98 s1 x2, rdE 1 E98 s3 x4] [slE 98 1 E98 s6 x8] ∧ m_wide_times_l2 F x2 x4 k10 x8 x9 = some r) (fun g => match g with | (k10, x8, x9) => k10) (F, List.replicate (Int.toNat (IntKind.i64.wrap ((x2.length : Int) + (x4.length : Int)))) (0 : Int), 0) ⟨hf.to ⟨rfl, rfl, rfl, rfl, rfl, rfl, trivial⟩, hS, hm⟩ ?_
  clear hf hS hm a; try clear w
  rintro ⟨k10, x8, x9⟩ a w ⟨hf, hS, hm⟩
  rcases k10 with _ | k10
  · exact absurd (show none = some r from hm) (by simp)
  replace hm : m_wide_times_b2 F x2 x4 (m_wide_times_l2 F x2 x4 k10) x8 x9 = some r := hm
  obtain ⟨rec10, hrec10⟩ : ∃ f, f = m_wide_times_l2 F x2 x4 k10 := ⟨_, rfl⟩
  rw [← hrec10] at hm; unfold m_wide_times_b2 at hm
  refine W.seq ?_
  refine W.regionL (l := [0]) rfl ?_
  refine O.val (v := Bv (decide (x9 < ((x2.length : Int) : Int)))) hf rfl rfl rfl (RunV.lss rfl rfl) ?_; clear hf a; intro a hf
  refine O.nil ?_
  refine k_seq ?_
  refine W.seq ?_
  refine W.ifdI hf rfl (fun hc11 => ?_) (fun hc11 => ?_)
  ·replace hm := hm_p hm hc11
   refine W.skip ?_
   refine k_seq ?_
   refine W.seqR (fun a w => ∃ (x12 : List Int) (x13 : Int) (x14 : Int) (x15 : Int) (x16 : Int) (x17 : Bool) (x18 : Int) (x19 : Int), Fr a 66 [] [(1, s3), (4, .slice none 0 0), (5, s6), (6, Iv x9), (7, .int .u32 x13), (8, Uv x14), (17, s1), (18, Iv (x2.length : Int)), (19, Iv x9), (20, Bv (decide (x9 < ((x2.length : Int) : Int)))), (21, Iv x9), (22, ix s1 (Int.toNat x9 * 1)), (23, .int .u32 x15), (24, s3), (25, Iv (x4.length : Int)), (26, Iv x16), (27, Bv x17), (56, s6), (57, Iv x9), (58, s3), (59, Iv (x4.length : Int)), (60, Iv (IntKind.i64.wrap (x9 + (x4.length : Int)))), (61, Uv x18), (62, .int .u32 x19), (63, ix s6 (Int.toNat (IntKind.i64.wrap (x9 + (x4.length : Int))) * 1))] ∧ St w0 w noX [rdE 1 E98 s1 x2, rdE 1 E98 s3 x4] [slE 98 1 E98 s6 x12] ∧ m_wide_times_j3 F rec10 x9 x12 x13 x14 x15 x16 x17 x18 x19 = some r) ?_ ?_
   ·refine W.block ?_
    refine W.seq ?_
    refine W.regionL (l := [0, 1, 2, 3, 4]) rfl ?_
    refine O.val hf rfl rfl rfl (RunV.move rfl) ?_; clear hf a; intro a hf
    obtain ⟨x20, hx20, hm⟩ := hm_b hm
    refine O.val hf rfl rfl rfl (RunV.ixE T_elem_37 T_size_98 rfl rfl (hS.rdB (j := 0) rfl) hx20) ?_; clear hf a; intro a hf
    refine O.val hf rfl rfl rfl (RunV.ldE1 (o := 0) T_agg_98 E98_len rfl (hS.rdB (j := 0) rfl) hx20 rfl rfl) ?_; clear hf a; intro a hf
    refine O.val hf rfl rfl rfl (RunV.assign rfl) ?_; clear hf a; intro a hf
    refine O.val hf rfl rfl rfl (RunV.assign rfl) ?_; clear hf a; intro a hf
    refine O.nil ?_
    refine k_seq ?_
    refine W.seq ?_
    refine W.regionL (l := [0]) rfl ?_
    refine O.val hf rfl rfl rfl (RunV.assign rfl) ?_; clear hf a; intro a hf
    refine O.nil ?_
    refine k_seq ?_
    refine W.seqR (fun a w => ∃ (x21 : List Int) (x22 : Int) (x23 : Int) (x24 : Bool), Fr a 66 [] [(1, s3), (4, .slice none 0 0), (5, s6), (6, Iv x9), (7, .int .u32 x20), (8, Uv x22), (17, s1), (18, Iv (x2.length : Int)), (19, Iv x9), (20, Bv (decide (x9 < ((x2.length : Int) : Int)))), (21, Iv x9), (22, ix s1 (Int.toNat x9 * 1)), (23, .int .u32 x20), (24, s3), (25, Iv (x4.length : Int)), (26, Iv x23), (27, Bv x24)] ∧ St w0 w noX [rdE 1 E98 s1 x2, rdE 1 E98 s3 x4] [slE 98 1 E98 s6 x21] ∧ m_wide_times_j4 F x9 x4 rec10 x20 x21 x22 x23 x24 = some r) ?_ ?_
    ·refine W.seq ?_
     refine W.regionL (l := [0, 1, 2]) rfl ?_
     refine O.val hf rfl rfl rfl (RunV.move rfl) ?_; clear hf a; intro a hf
     refine O.val (v := Iv (x4.length : Int)) hf rfl rfl rfl (RunV.lenE (e := 98) (by simpa using T_elem_37) rfl (hS.rdB (j := 1) rfl)) ?_; clear hf a; intro a hf
     refine O.val hf rfl rfl rfl (RunV.move rfl) ?_; clear hf a; intro a hf
     refine O.nil ?_
     refine k_seq ?_
     refine W.block ?_
     refine W.loop (G := Nat × (List Int) × Int × Int) (fun g a w => match g with | (k29, x26, x27, x28) => Fr a 66 [] [(1, s3), (4, .slice none 0 0), (5, s6), (6, Iv x9), (7, .int .u32 x20), (8, Uv x27), (17, s1), (18, Iv (x2.length : Int)), (19, Iv x9), (20, Bv (decide (x9 < ((x2.length : Int) : Int)))), (21, Iv x9), (22, ix s1 (Int.toNat x9 * 1)), (23, .int .u32 x20), (24, s3), (25, Iv (x4.length : Int)), (26, Iv x28)] ∧ St w0 w noX [rdE 1 E98 s1 x2, rdE 1 E98 s3 x4] [slE 98 1 E98 s6 x26] ∧ m_wide_times_l5 F x4 x9 x20 rec10 k29 x26 x27 x28 = some r) (fun g => match g with | (k29, x26, x27, x28) => k29) (F, x8, 0, 0) ⟨hf.to ⟨rfl, rfl, rfl, rfl, rfl, rfl, rfl, rfl, rfl, rfl, rfl, rfl, rfl, rfl, rfl, rfl, trivial⟩, hS, hm⟩ ?_
     clear hf hS hm a; try clear w
     rintro ⟨k29, x26, x27, x28⟩ a w ⟨hf, hS, hm⟩
     rcases k29 with _ | k29
     · exact absurd (show none = some r from hm) (by simp)
     replace hm : m_wide_times_b5 F x4 x9 x20 rec10 (m_wide_times_l5 F x4 x9 x20 rec10 k29) x26 x27 x28 = some r := hm
     obtain ⟨rec29, hrec29⟩ : ∃ f, f = m_wide_times_l5 F x4 x9 x20 rec10 k29 := ⟨_, rfl⟩
     rw [← hrec29] at hm; unfold m_wide_times_b5 at hm
     refine W.seq ?_
     refine W.regionL (l := [0]) rfl ?_
     refine O.val (v := Bv (decide (x28 < ((x4.length : Int) : Int)))) hf rfl rfl rfl (RunV.lss rfl rfl) ?_; clear hf a; intro a hf
     refine O.nil ?_
     refine k_seq ?_
     refine W.seq ?_
     refine W.ifdI hf rfl (fun hc30 => ?_) (fun hc30 => ?_)
     ·replace hm := hm_p hm hc30
      refine W.skip ?_
      refine k_seq ?_
      refine W.seq ?_
      refine W.block ?_
      refine W.seq ?_
      refine W.regionL (l := [0, 1, 2, 3, 4]) rfl ?_
      refine O.val hf rfl rfl rfl (RunV.move rfl) ?_; clear hf a; intro a hf
      obtain ⟨x31, hx31, hm⟩ := hm_b hm
      refine O.val hf rfl rfl rfl (RunV.ixE T_elem_37 T_size_98 rfl rfl (hS.rdB (j := 1) rfl) hx31) ?_; clear hf a; intro a hf
      refine O.val hf rfl rfl rfl (RunV.ldE1 (o := 0) T_agg_98 E98_len rfl (hS.rdB (j := 1) rfl) hx31 rfl rfl) ?_; clear hf a; intro a hf
      refine O.val hf rfl rfl rfl (RunV.assign rfl) ?_; clear hf a; intro a hf
      refine O.val hf rfl rfl rfl (RunV.assign rfl) ?_; clear hf a; intro a hf
      refine O.nil ?_
      refine k_seq ?_
      refine W.seq ?_
      refine W.regionL (l := [0, 1, 2, 3, 4, 5, 6, 7, 8, 9, 10, 11, 12, 13, 14, 15]) rfl ?_
      refine O.val hf rfl rfl rfl (RunV.move rfl) ?_; clear hf a; intro a hf
      refine O.val hf rfl rfl rfl (RunV.move rfl) ?_; clear hf a; intro a hf
      refine O.val (v := Uv (IntKind.u64.wrap x20)) hf rfl rfl rfl (RunV.conv T_und_98 T_int_108 rfl) ?_; clear hf a; intro a hf
      refine O.val hf rfl rfl rfl (RunV.move rfl) ?_; clear hf a; intro a hf
      refine O.val (v := Uv (IntKind.u64.wrap x31)) hf rfl rfl rfl (RunV.conv T_und_98 T_int_108 rfl) ?_; clear hf a; intro a hf
      refine O.val (v := Uv (IntKind.u64.wrap ((IntKind.u64.wrap x20) * (IntKind.u64.wrap x31)))) hf rfl rfl rfl (RunV.mul rfl rfl) ?_; clear hf a; intro a hf
      refine O.val hf rfl rfl rfl (RunV.move rfl) ?_; clear hf a; intro a hf
      refine O.val hf rfl rfl rfl (RunV.move rfl) ?_; clear hf a; intro a hf
      refine O.val hf rfl rfl rfl (RunV.move rfl) ?_; clear hf a; intro a hf
      refine O.val (v := Iv (IntKind.i64.wrap (x9 + x28))) hf rfl rfl rfl (RunV.add rfl rfl) ?_; clear hf a; intro a hf
      obtain ⟨x32, hx32, hm⟩ := hm_b hm
      refine O.val hf rfl rfl rfl (RunV.ixE T_elem_37 T_size_98 rfl rfl (hS.rdS (j := 0) rfl) hx32) ?_; clear hf a; intro a hf
      refine O.val hf rfl rfl rfl (RunV.ldE1 (o := 0) T_agg_98 E98_len rfl (hS.rdS (j := 0) rfl) hx32 rfl rfl) ?_; clear hf a; intro a hf
      refine O.val (v := Uv (IntKind.u64.wrap x32)) hf rfl rfl rfl (RunV.conv T_und_98 T_int_108 rfl) ?_; clear hf a; intro a hf
      refine O.val (v := Uv (IntKind.u64.wrap ((IntKind.u64.wrap ((IntKind.u64.wrap x20) * (IntKind.u64.wrap x31))) + (IntKind.u64.wrap x32)))) hf rfl rfl rfl (RunV.add rfl rfl) ?_; clear hf a; intro a hf
      refine O.val (v := Uv (IntKind.u64.wrap (x27 + (IntKind.u64.wrap ((IntKind.u64.wrap ((IntKind.u64.wrap x20) * (IntKind.u64.wrap x31))) + (IntKind.u64.wrap x32)))))) hf rfl rfl rfl (RunV.add rfl rfl) ?_; clear hf a; intro a hf
      refine O.val hf rfl rfl rfl (RunV.assign rfl) ?_; clear hf a; intro a hf
      refine O.nil ?_
      refine k_seq ?_
      obtain ⟨x33, hx33, hm⟩ := hm_b hm
      rw [Option.some.inj hx33] at hf
      obtain ⟨x34, hx34, hm⟩ := hm_b hm
      rw [Option.some.inj hx34] at hf
      obtain ⟨x35, hx35, hm⟩ := hm_b hm
      rw [Option.some.inj hx35] at hf
      obtain ⟨x36, hx36, hm⟩ := hm_b hm
      rw [Option.some.inj hx36] at hf
      refine W.seq ?_
      refine W.regionL (l := [0, 1, 2, 3, 4, 5, 6, 7]) rfl ?_
      refine O.val hf rfl rfl rfl (RunV.move rfl) ?_; clear hf a; intro a hf
      refine O.val hf rfl rfl rfl (RunV.move rfl) ?_; clear hf a; intro a hf
      refine O.val hf rfl rfl rfl (RunV.move rfl) ?_; clear hf a; intro a hf
      refine O.val (v := Iv (IntKind.i64.wrap (x9 + x28))) hf rfl rfl rfl (RunV.add rfl rfl) ?_; clear hf a; intro a hf
      refine O.val hf rfl rfl rfl (RunV.move rfl) ?_; clear hf a; intro a hf
      refine O.val (v := .int .u32 (IntKind.u32.wrap x36)) hf rfl rfl rfl (RunV.conv T_und_108 T_int_98 rfl) ?_; clear hf a; intro a hf
      refine O.val hf rfl rfl rfl (RunV.ixE T_elem_37 T_size_98 rfl rfl (hS.rdS (j := 0) rfl) hx32) ?_; clear hf a; intro a hf
      refine O.storeE (j := 0) (o := 0) (y0 := (IntKind.u32.wrap x36)) (l' := x26.set (Int.toNat (IntKind.i64.wrap (x9 + x28))) (IntKind.u32.wrap x36)) (M' := [slE 98 1 E98 s6 (x26.set (Int.toNat (IntKind.i64.wrap (x9 + x28))) (IntKind.u32.wrap x36))]) hf hS rfl rfl rfl T_size_98 rfl rfl rfl E98_len hx32 rfl rfl rfl rfl ?_
      clear hS; intro w hS
      refine O.nil ?_
      refine k_seq ?_
      obtain ⟨x37, hx37, hm⟩ := hm_b hm
      rw [Option.some.inj hx37] at hf
      rw [Option.some.inj hx37] at hS
      refine W.regionL (l := [0, 1, 2]) rfl ?_
      refine O.val hf rfl rfl rfl (RunV.move rfl) ?_; clear hf a; intro a hf
      refine O.val (v := Uv (Int.fdiv x36 (2 ^ 32))) hf rfl rfl rfl (RunV.shr (q := 32) rfl rfl (by decide)) ?_; clear hf a; intro a hf
      refine O.val hf rfl rfl rfl (RunV.assign rfl) ?_; clear hf a; intro a hf
      refine O.nil ?_
      refine k_blk_normal ?_
      refine k_seq ?_
      refine W.regionL (l := [0, 1]) rfl ?_
      refine O.val (v := Iv (IntKind.i64.wrap (x28 + 1))) hf rfl rfl rfl (RunV.add rfl rfl) ?_; clear hf a; intro a hf
      refine O.val hf rfl rfl rfl (RunV.move rfl) ?_; clear hf a; intro a hf
      refine O.nil ?_
      refine k_then ⟨(k29, x26.set (Int.toNat x37) (IntKind.u32.wrap x36), Int.fdiv x36 (2 ^ 32), IntKind.i64.wrap (x28 + 1)), ⟨hf.to ⟨rfl, rfl, rfl, rfl, rfl, rfl, rfl, rfl, rfl, rfl, rfl, rfl, rfl, rfl, rfl, rfl, trivial⟩, hS, ?_⟩, Nat.lt_succ_self _⟩
      rw [hrec29] at hm; exact hm
     ·replace hm := hm_n hm hc30
      refine W.exit ?_
      refine k_then_exit ?_
      refine k_then_exit ?_
      refine k_blk ?_
      exact k_then ⟨x26, x27, x28, decide (x28 < ((x4.length : Int) : Int)), hf.to ⟨rfl, rfl, rfl, rfl, rfl, rfl, rfl, rfl, rfl, rfl, rfl, rfl, rfl, rfl, rfl, rfl, rfl, trivial⟩, hS, hm⟩
    ·clear hf hS hm a; try clear w
     rintro a w ⟨x21, x22, x23, x24, hf, hS, hm⟩
     unfold m_wide_times_j4 at hm
     refine W.regionL (l := [0, 1, 2, 3, 4, 5, 6, 7, 8]) rfl ?_
     refine O.val hf rfl rfl rfl (RunV.move rfl) ?_; clear hf a; intro a hf
     refine O.val hf rfl rfl rfl (RunV.move rfl) ?_; clear hf a; intro a hf
     refine O.val hf rfl rfl rfl (RunV.move rfl) ?_; clear hf a; intro a hf
     refine O.val (v := Iv (x4.length : Int)) hf rfl rfl rfl (RunV.lenE (e := 98) (by simpa using T_elem_37) rfl (hS.rdB (j := 1) rfl)) ?_; clear hf a; intro a hf
     refine O.val (v := Iv (IntKind.i64.wrap (x9 + (x4.length : Int)))) hf rfl rfl rfl (RunV.add rfl rfl) ?_; clear hf a; intro a hf
     refine O.val hf rfl rfl rfl (RunV.move rfl) ?_; clear hf a; intro a hf
     refine O.val (v := .int .u32 (IntKind.u32.wrap x22)) hf rfl rfl rfl (RunV.conv T_und_108 T_int_98 rfl) ?_; clear hf a; intro a hf
     obtain ⟨x25, hx25, hm⟩ := hm_b hm
     refine O.val hf rfl rfl rfl (RunV.ixE T_elem_37 T_size_98 rfl rfl (hS.rdS (j := 0) rfl) hx25) ?_; clear hf a; intro a hf
     refine O.storeE (j := 0) (o := 0) (y0 := (IntKind.u32.wrap x22)) (l' := x21.set (Int.toNat (IntKind.i64.wrap (x9 + (x4.length : Int)))) (IntKind.u32.wrap x22)) (M' := [slE 98 1 E98 s6 (x21.set (Int.toNat (IntKind.i64.wrap (x9 + (x4.length : Int)))) (IntKind.u32.wrap x22))]) hf hS rfl rfl rfl T_size_98 rfl rfl rfl E98_len hx25 rfl rfl rfl rfl ?_
     clear hS; intro w hS
     refine O.nil ?_
     refine k_blk_normal ?_
     exact k_then ⟨x21.set (Int.toNat (IntKind.i64.wrap (x9 + (x4.length : Int)))) (IntKind.u32.wrap x22), x20, x22, x20, x23, x24, x22, IntKind.u32.wrap x22, hf.to ⟨rfl, rfl, rfl, rfl, rfl, rfl, rfl, rfl, rfl, rfl, rfl, rfl, rfl, rfl, rfl, rfl, rfl, rfl, rfl, rfl, rfl, rfl, rfl, rfl, rfl, trivial⟩, hS, hm⟩
   ·clear hf hS hm a; try clear w
    rintro a w ⟨x12, x13, x14, x15, x16, x17, x18, x19, hf, hS, hm⟩
    unfold m_wide_times_j3 at hm
    refine W.regionL (l := [0, 1]) rfl ?_
    refine O.val (v := Iv (IntKind.i64.wrap (x9 + 1))) hf rfl rfl rfl (RunV.add rfl rfl) ?_; clear hf a; intro a hf
    refine O.val hf rfl rfl rfl (RunV.move rfl) ?_; clear hf a; intro a hf
    refine O.nil ?_
    refine k_then ⟨(k10, x12, IntKind.i64.wrap (x9 + 1)), ⟨hf.to ⟨rfl, rfl, rfl, rfl, rfl, rfl, trivial⟩, hS, ?_⟩, Nat.lt_succ_self _⟩
    rw [hrec10] at hm; exact hm
  ·replace hm := hm_n hm hc11
   refine W.exit ?_
   refine k_then_exit ?_
   refine k_then_exit ?_
   refine k_blk ?_
   exact k_then ⟨x8, hf.to ⟨rfl, rfl, trivial⟩, hS, hm⟩
 ·clear hf hS hm a; try clear w
  rintro a w ⟨x7, hf, hS, hm⟩
  unfold m_wide_times_j1 at hm
  refine W.seq ?_
  refine W.regionL (l := [0, 1]) rfl ?_
  refine O.val hf rfl rfl rfl (RunV.move rfl) ?_; clear hf a; intro a hf
  refine O.val hf rfl rfl rfl (RunV.assign rfl) ?_; clear hf a; intro a hf
  refine O.nil ?_
  refine k_seq ?_
  replace hf : Fr a 66 [] [(4, s6)] := hf.to ⟨rfl, trivial⟩
  refine W.ret ?_
  obtain rfl := Option.some.inj hm
  refine post1 hf rfl (ResOK.tmp rfl) ?_
  exact ⟨s6, rfl, hS.noB⟩

def m_wide_Mul (F : Nat)  (x1 : Bool) (x3 : List Int) (x4 : Bool) (x6 : List Int) : Option (Bool × (List Int) × Int) :=
  (m_wide_check F x1 x3 x4 x6).bind fun x11 => if x11 ≠ (0 : Int) then (some (false, ([] : List Int), x11)) else ((m_wide_times F x3 x6).bind fun x13 => (m_wide_made_3 F (!(x1 == x4)) x13).bind fun x15 => some x15)
set_option maxHeartbeats 1000000 in
set_option maxRecDepth 8000 in
theorem m_wide_Mul_ok (F : Nat)    (x1 : Bool) (s2 : Value) (x3 : List Int) (x4 : Bool) (s5 : Value) (x6 : List Int) (w0 : World) (h_s2 : rdEOK (hp w0) 1 E98 s2 x3) (h_s5 : rdEOK (hp w0) 1 E98 s5 x6) (r : Bool × (List Int) × Int) (hm : m_wide_Mul F x1 x3 x4 x6 = some r) :
    Ret Try.prog 29 #[.agg #[Bv x1, s2], .agg #[Bv x4, s5]] w0 (G := Value) (fun g1 => .tuple #[.agg #[Bv r.1, g1], Iv r.2.2]) (fun g1 w => St w0 w noX [] [slE 98 1 E98 g1 r.2.1]) := by
 unfold m_wide_Mul at hm
 refine ret_of_W (lv := [.agg #[Bv x1, s2], .agg #[Bv x4, s5]]) Try.func29 rfl rfl rfl (fun a hf => ?_)
 replace hf : Fr a 28 [] [(0, .agg #[Bv x1, s2]), (1, .agg #[Bv x4, s5])] := hf
 have hS : St w0 w0 noX [rdE 1 E98 s2 x3, rdE 1 E98 s5 x6] [] := St.borrow (lendAll_cons (lendRd h_s2) (lendAll_cons (lendRd h_s5) lendAll_nil))
 refine W.seq ?_
 refine W.regionL (l := [0, 1, 2, 3]) rfl ?_
 refine O.box (cs := #[Bv x1, s2]) hf hS rfl rfl rfl rfl ?_
 clear hf hS a; intro b7 w a hb7 hS hf
 refine O.box (cs := #[Bv x4, s5]) hf hS rfl rfl rfl rfl ?_
 clear hf hS a; intro b8 w a hb8 hS hf
 refine O.alloc (cs := #[Bv false, .slice none 0 0]) hf hS rfl rfl T_zero_39 rfl ?_
 clear hf hS a; intro b9 w a hb9 hS hf
 refine O.val hf rfl rfl rfl (RunV.assign rfl) ?_; clear hf a; intro a hf
 refine O.nil ?_
 refine k_seq ?_
 replace hf : Fr a 28 [] [(2, Pv b7 0), (3, Pv b8 0), (4, Pv b9 0), (5, Iv 0)] := hf.to ⟨rfl, rfl, rfl, rfl, trivial⟩
 refine W.seq ?_
 refine W.seq ?_
 refine W.regionL (l := [0, 1, 2, 3, 4]) rfl ?_
 refine O.val hf rfl rfl rfl (RunV.loadN (cs' := #[Bv x1, s2]) T_agg_39 T_size_39 rfl (hS.ptAt (i := 2) rfl) (Nat.le_of_ble_eq_true rfl) rfl) ?_; clear hf a; intro a hf
 refine O.val hf rfl rfl rfl (RunV.loadN (cs' := #[Bv x4, s5]) T_agg_39 T_size_39 rfl (hS.ptAt (i := 1) rfl) (Nat.le_of_ble_eq_true rfl) rfl) ?_; clear hf a; intro a hf
 refine O.buildSlice (cs' := #[Bv x1, s2, Bv x4, s5]) (zs := #[Bv false, .slice none 0 0, Bv false, .slice none 0 0]) hf hS rfl rfl T_elem_124 T_size_39 T_zero_39 rfl rfl rfl rfl rfl ?_
 clear hf hS a; intro b10 w a hb10 hS hf
 obtain ⟨x11, hx11, hm⟩ := hm_b hm
 refine O.callR hf rfl rfl rfl (RunE.call (av := #[.slice (some ⟨b10, 0, none⟩) 2 2]) C_ok_51 rfl rfl rfl) (m_wide_check_ok F b10 x1 s2 x3 x4 s5 x6 _ (hS.rdB (j := 0) rfl) (hS.rdB (j := 1) rfl) (hS.ptAt (i := 0) rfl) x11 hx11) ?_
 clear hf a; rintro _ w hS1 a hf
 replace hf : Fr a _ _ ((10, Iv x11) :: _) := hf
 replace hS := (hS.call hS1).eqM (N := [pt b10 (Cs #[Bv x1, s2, Bv x4, s5] 39), pt b9 (Cs #[Bv false, .slice none 0 0] 39), pt b8 (Cs #[Bv x4, s5] 39), pt b7 (Cs #[Bv x1, s2] 39)]) rfl
 clear hS1
 refine O.val hf rfl rfl rfl (RunV.assign rfl) ?_; clear hf a; intro a hf
 refine O.nil ?_
 refine k_seq ?_
 replace hf : Fr a 28 [] [(2, Pv b7 0), (3, Pv b8 0), (4, Pv b9 0), (5, Iv 0), (6, Iv x11)] := hf.to ⟨rfl, rfl, rfl, rfl, rfl, trivial⟩
 refine W.seq ?_
 refine W.regionL (l := [0, 1]) rfl ?_
 refine O.val hf rfl rfl rfl (RunV.move rfl) ?_; clear hf a; intro a hf
 refine O.val (v := Bv (decide (x11 ≠ (0 : Int)))) hf rfl rfl rfl (RunV.neq rfl rfl) ?_; clear hf a; intro a hf
 refine O.nil ?_
 refine k_seq ?_
 replace hf : Fr a 28 [] [(2, Pv b7 0), (3, Pv b8 0), (4, Pv b9 0), (5, Iv 0), (6, Iv x11), (12, Bv (decide (x11 ≠ (0 : Int))))] := hf.to ⟨rfl, rfl, rfl, rfl, rfl, rfl, trivial⟩
 refine W.ifdI hf rfl (fun hc12 => ?_) (fun hc12 => ?_)
 ·replace hm := hm_p hm hc12
  refine W.seq ?_
  refine W.regionL (l := [0, 1, 2, 3]) rfl ?_
  refine O.val (v := .agg #[Bv false, .slice none 0 0]) hf rfl rfl rfl (RunV.buildS (cs' := #[Bv false, .slice none 0 0]) T_places_39 T_zero_39 rfl (by kernel_rfl)) ?_; clear hf a; intro a hf
  refine O.val hf rfl rfl rfl (RunV.move rfl) ?_; clear hf a; intro a hf
  refine O.store (j := 1) (cs' := #[Bv false, .slice none 0 0]) (M' := [pt b10 (Cs #[Bv x1, s2, Bv x4, s5] 39), pt b9 (Cs #[Bv false, .slice none 0 0] 39), pt b8 (Cs #[Bv x4, s5] 39), pt b7 (Cs #[Bv x1, s2] 39)]) hf hS rfl rfl rfl T_size_39 rfl rfl rfl (Nat.le_of_ble_eq_true rfl) rfl rfl ?_
  clear hS; intro w hS
  refine O.val hf rfl rfl rfl (RunV.assign rfl) ?_; clear hf a; intro a hf
  refine O.nil ?_
  refine k_seq ?_
  replace hf : Fr a 28 [] [(2, Pv b7 0), (3, Pv b8 0), (4, Pv b9 0), (5, Iv x11)] := hf.to ⟨rfl, rfl, rfl, rfl, trivial⟩
  refine W.ret ?_
  refine k_then_ret ?_
  replace hS := hS.nilE 98 1 E98
  obtain rfl := Option.some.inj hm
  refine post2 hf rfl (ResOK.cellN (cs' := #[Bv false, .slice none 0 0]) rfl T_agg_39 T_size_39 (hS.ptAt (i := 2) rfl) (Nat.le_of_ble_eq_true rfl) rfl) (ResOK.tmp rfl) ?_
  replace hS := hS.nilE 98 1 E98
  replace hS := hS.sub (N := [slE 98 1 E98 (.slice none 0 0) ([] : List Int)]) (.cons_cons _ (.cons _ (.cons _ (.cons _ (.cons _ (.cons _ .slnil))))))
  exact ⟨(.slice none 0 0), rfl, hS.noB⟩
 ·replace hm := hm_n hm hc12
  refine W.skip ?_
  refine k_seq ?_
  replace hf : Fr a 28 [] [(2, Pv b7 0), (3, Pv b8 0), (4, Pv b9 0), (5, Iv 0)] := hf.to ⟨rfl, rfl, rfl, rfl, trivial⟩
  refine W.seq ?_
  have hf1 : Fr a 28 [] [(5, Iv 0)] := hf.to ⟨rfl, trivial⟩
  replace hf : Fr a 28 [] [(2, Pv b7 0), (3, Pv b8 0), (4, Pv b9 0)] := hf.to ⟨rfl, rfl, rfl, trivial⟩
  obtain ⟨x13, hx13, hm⟩ := hm_b hm
  obtain ⟨x15, hx15, hm⟩ := hm_b hm
  refine W.drawC (γ := Value × Value) (L0 := [(2, Pv b7 0), (3, Pv b8 0), (4, Pv b9 0)]) (L1 := [(5, Iv 0)]) (undef, undef) [9, 10, 13] [] [0, 1, 2, 3, 4, 5, 6, 7, 8, 11, 12, 14] (fun i => match i with | 1 => [0] | 3 => [2] | 4 => [1, 3] | 6 => [5] | 8 => [7] | 9 => [6, 8] | 10 => [4, 9] | 11 => [10] | 12 => [10] | 13 => [0, 1, 2, 3, 4, 5, 6, 7, 8, 9, 10, 11, 12] | 14 => [0, 1, 2, 3, 4, 5, 6, 7, 8, 9, 10, 11, 12, 13] | _ => []) (fun i => match i with | 10 => [9] | 11 => [9, 10] | 12 => [9, 10] | 13 => [9, 10] | 14 => [9, 10, 13] | _ => []) (fun i => match i with | 0 => [10, 13] | 1 => [10, 13] | 2 => [10, 13] | 3 => [10, 13] | 4 => [10, 13] | 5 => [9, 10, 13] | 6 => [9, 10, 13] | 7 => [9, 10, 13] | 8 => [9, 10, 13] | 9 => [10, 13] | 10 => [13] | 11 => [13] | 12 => [13] | _ => []) (fun _ => []) (fun i => match i with | 9 => [10, 11, 12, 13, 14] | 10 => [11, 12, 13, 14] | 13 => [14] | _ => []) (fun _ => []) (fun i => match i with | 10 => 1 | 11 => 2 | 12 => 2 | 13 => 2 | 14 => 3 | _ => 0) (fun i => match i with | 0 => 1 | 1 => 1 | 2 => 1 | 3 => 1 | 4 => 1 | 9 => 1 | 10 => 2 | 11 => 2 | 12 => 2 | 13 => 3 | 14 => 3 | _ => 0) (fun (g : Value × Value) j => match j with | 0 => Pv b7 0 | 1 => Bv x1 | 2 => Pv b8 0 | 3 => Bv x4 | 4 => Bv (!(x1 == x4)) | 5 => Pv b7 1 | 6 => s2 | 7 => Pv b8 1 | 8 => s5 | 9 => g.1 | 10 => .tuple #[.agg #[Bv x15.1, g.2], Iv x15.2.2] | 11 => .agg #[Bv x15.1, g.2] | 12 => Iv x15.2.2 | 14 => Iv x15.2.2 | _ => undef) (fun k s (g : Value × Value) w => match k with | 0 => St w0 w noX [rdE 1 E98 s2 x3, rdE 1 E98 s5 x6] [pt b10 (Cs #[Bv x1, s2, Bv x4, s5] 39), pt b9 (Cs #[Bv false, .slice none 0 0] 39), pt b8 (Cs #[Bv x4, s5] 39), pt b7 (Cs #[Bv x1, s2] 39)] | 1 => St w0 w noX [rdE 1 E98 s2 x3, rdE 1 E98 s5 x6] [slE 98 1 E98 g.1 x13, pt b10 (Cs #[Bv x1, s2, Bv x4, s5] 39), pt b9 (Cs #[Bv false, .slice none 0 0] 39), pt b8 (Cs #[Bv x4, s5] 39), pt b7 (Cs #[Bv x1, s2] 39)] | 2 => St w0 w noX [rdE 1 E98 s2 x3, rdE 1 E98 s5 x6] [slE 98 1 E98 g.2 x15.2.1, pt b10 (Cs #[Bv x1, s2, Bv x4, s5] 39), pt b9 (Cs #[Bv false, .slice none 0 0] 39), pt b8 (Cs #[Bv x4, s5] 39), pt b7 (Cs #[Bv x1, s2] 39)] | _ => St w0 w noX [rdE 1 E98 s2 x3, rdE 1 E98 s5 x6] [slE 98 1 E98 g.2 x15.2.1, pt b10 (Cs #[Bv x1, s2, Bv x4, s5] 39), pt b9 (Cs #[Bv x15.1, g.2] 39), pt b8 (Cs #[Bv x4, s5] 39), pt b7 (Cs #[Bv x1, s2] 39)]) P_mixed (by kernel_rfl) (by kernel_rfl) (by kernel_rfl) hf hf1 hS.drew ?_ ?_ ?_ ?_
  ·clear hf hf1 hS
   refine ⟨fun k s g w _ _ _ hD a hf => Q.val (v := Pv b7 0) rfl rfl rfl hD hf (RunV.field T_field_39_0 rfl rfl), ?_, fun k s g w _ _ _ hD a hf => Q.val (v := Pv b8 0) rfl rfl rfl hD hf (RunV.field T_field_39_0 rfl rfl), ?_, fun k s g w _ _ _ hD a hf => Q.val (v := Bv (!(x1 == x4))) rfl rfl rfl hD hf (RunV.neBool T_bool_4 rfl rfl), fun k s g w _ _ _ hD a hf => Q.val (v := Pv b7 1) rfl rfl rfl hD hf (RunV.field T_field_39_1 rfl rfl), ?_, fun k s g w _ _ _ hD a hf => Q.val (v := Pv b8 1) rfl rfl rfl hD hf (RunV.field T_field_39_1 rfl rfl), ?_, fun k s g w _ _ _ hD a hf => Q.val (v := .agg #[Bv x15.1, g.2]) rfl rfl rfl hD hf (RunV.extract rfl rfl), fun k s g w _ _ _ hD a hf => Q.val (v := Iv x15.2.2) rfl rfl rfl hD hf (RunV.extract rfl rfl), fun k s g w _ _ _ hD a hf => Q.val (v := Iv x15.2.2) rfl rfl rfl hD hf (RunV.assign rfl), trivial⟩
   ·intro k s g w h1_ h2_ hsp hD a hf
    obtain ⟨s14, s16⟩ := g
    rcases k with _ | _ | k
    ·have hS : St w0 w noX [rdE 1 E98 s2 x3, rdE 1 E98 s5 x6] [pt b10 (Cs #[Bv x1, s2, Bv x4, s5] 39), pt b9 (Cs #[Bv false, .slice none 0 0] 39), pt b8 (Cs #[Bv x4, s5] 39), pt b7 (Cs #[Bv x1, s2] 39)] := hD; clear hD
     replace hf : Fr a 28 [] [(15, Pv b7 0), (2, Pv b7 0), (3, Pv b8 0), (4, Pv b9 0)] := hf
     exact Q.val (v := Bv x1) rfl rfl rfl hS hf (RunV.load1 T_agg_4 rfl (hS.ptAt (i := 3) rfl) rfl)
    ·have hS : St w0 w noX [rdE 1 E98 s2 x3, rdE 1 E98 s5 x6] [slE 98 1 E98 s14 x13, pt b10 (Cs #[Bv x1, s2, Bv x4, s5] 39), pt b9 (Cs #[Bv false, .slice none 0 0] 39), pt b8 (Cs #[Bv x4, s5] 39), pt b7 (Cs #[Bv x1, s2] 39)] := hD; clear hD
     replace hf : Fr a 28 [] [(15, Pv b7 0), (2, Pv b7 0), (3, Pv b8 0), (4, Pv b9 0)] := hf
     exact Q.val (v := Bv x1) rfl rfl rfl hS hf (RunV.load1 T_agg_4 rfl (hS.ptAt (i := 4) rfl) rfl)
    ·exact absurd h2_ (by simp)
   ·intro k s g w h1_ h2_ hsp hD a hf
    obtain ⟨s14, s16⟩ := g
    rcases k with _ | _ | k
    ·have hS : St w0 w noX [rdE 1 E98 s2 x3, rdE 1 E98 s5 x6] [pt b10 (Cs #[Bv x1, s2, Bv x4, s5] 39), pt b9 (Cs #[Bv false, .slice none 0 0] 39), pt b8 (Cs #[Bv x4, s5] 39), pt b7 (Cs #[Bv x1, s2] 39)] := hD; clear hD
     replace hf : Fr a 28 [] [(17, Pv b8 0), (2, Pv b7 0), (3, Pv b8 0), (4, Pv b9 0)] := hf
     exact Q.val (v := Bv x4) rfl rfl rfl hS hf (RunV.load1 T_agg_4 rfl (hS.ptAt (i := 2) rfl) rfl)
    ·have hS : St w0 w noX [rdE 1 E98 s2 x3, rdE 1 E98 s5 x6] [slE 98 1 E98 s14 x13, pt b10 (Cs #[Bv x1, s2, Bv x4, s5] 39), pt b9 (Cs #[Bv false, .slice none 0 0] 39), pt b8 (Cs #[Bv x4, s5] 39), pt b7 (Cs #[Bv x1, s2] 39)] := hD; clear hD
     replace hf : Fr a 28 [] [(17, Pv b8 0), (2, Pv b7 0), (3, Pv b8 0), (4, Pv b9 0)] := hf
     exact Q.val (v := Bv x4) rfl rfl rfl hS hf (RunV.load1 T_agg_4 rfl (hS.ptAt (i := 3) rfl) rfl)
    ·exact absurd h2_ (by simp)
   ·intro k s g w h1_ h2_ hsp hD a hf
    obtain ⟨s14, s16⟩ := g
    rcases k with _ | k
    ·have hS : St w0 w noX [rdE 1 E98 s2 x3, rdE 1 E98 s5 x6] [pt b10 (Cs #[Bv x1, s2, Bv x4, s5] 39), pt b9 (Cs #[Bv false, .slice none 0 0] 39), pt b8 (Cs #[Bv x4, s5] 39), pt b7 (Cs #[Bv x1, s2] 39)] := hD; clear hD
     replace hf : Fr a 28 [] [(20, Pv b7 1), (2, Pv b7 0), (3, Pv b8 0), (4, Pv b9 0)] := hf
     exact Q.val (v := s2) rfl rfl rfl hS hf (RunV.load1 T_agg_37 rfl (hS.ptAt (i := 3) rfl) rfl)
    ·exact absurd h2_ (by simp)
   ·intro k s g w h1_ h2_ hsp hD a hf
    obtain ⟨s14, s16⟩ := g
    rcases k with _ | k
    ·have hS : St w0 w noX [rdE 1 E98 s2 x3, rdE 1 E98 s5 x6] [pt b10 (Cs #[Bv x1, s2, Bv x4, s5] 39), pt b9 (Cs #[Bv false, .slice none 0 0] 39), pt b8 (Cs #[Bv x4, s5] 39), pt b7 (Cs #[Bv x1, s2] 39)] := hD; clear hD
     replace hf : Fr a 28 [] [(22, Pv b8 1), (2, Pv b7 0), (3, Pv b8 0), (4, Pv b9 0)] := hf
     exact Q.val (v := s5) rfl rfl rfl hS hf (RunV.load1 T_agg_37 rfl (hS.ptAt (i := 2) rfl) rfl)
    ·exact absurd h2_ (by simp)
  ·clear hf hf1 hS
   refine ⟨?_, ?_, ?_, trivial⟩
   ·intro s g w hsp hD a hf
    obtain ⟨s14, s16⟩ := g
    have hS : St w0 w noX [rdE 1 E98 s2 x3, rdE 1 E98 s5 x6] [pt b10 (Cs #[Bv x1, s2, Bv x4, s5] 39), pt b9 (Cs #[Bv false, .slice none 0 0] 39), pt b8 (Cs #[Bv x4, s5] 39), pt b7 (Cs #[Bv x1, s2] 39)] := hD; clear hD
    replace hf : Fr a 28 [] [(21, s2), (23, s5), (2, Pv b7 0), (3, Pv b8 0), (4, Pv b9 0)] := hf
    refine O.callR hf rfl rfl rfl (RunE.call (av := #[s2, s5]) C_ok_62 rfl rfl rfl) (m_wide_times_ok F s2 x3 s5 x6 _ (hS.rdB (j := 0) rfl) (hS.rdB (j := 1) rfl) x13 hx13) ?_
    clear hf a; rintro s14 w hS1 a hf
    replace hf : Fr a _ _ ((24, s14) :: _) := hf
    replace hS := (hS.call hS1).eqM (N := [slE 98 1 E98 s14 x13, pt b10 (Cs #[Bv x1, s2, Bv x4, s5] 39), pt b9 (Cs #[Bv false, .slice none 0 0] 39), pt b8 (Cs #[Bv x4, s5] 39), pt b7 (Cs #[Bv x1, s2] 39)]) rfl
    clear hS1
    exact O.nil ⟨rfl, (s14, s16), hf.to trivial, (fun d hd => by cases (show some 24 = some d from hd); exact hf.get _ _ rfl), (fun j hj hk => match j, hj, hk with | 0, hj, hk => rfl | 1, hj, hk => rfl | 2, hj, hk => rfl | 3, hj, hk => rfl | 4, hj, hk => rfl | 5, hj, hk => rfl | 6, hj, hk => rfl | 7, hj, hk => rfl | 8, hj, hk => rfl | 9, hj, hk => absurd rfl hj | 10, hj, hk => absurd hk (by decide) | 11, hj, hk => absurd hk (by decide) | 12, hj, hk => absurd hk (by decide) | 13, hj, hk => absurd hk (by decide) | 14, hj, hk => absurd hk (by decide) | _ + 15, _, _ => rfl), hS⟩
   ·intro s g w hsp hD a hf
    obtain ⟨s14, s16⟩ := g
    have hS : St w0 w noX [rdE 1 E98 s2 x3, rdE 1 E98 s5 x6] [slE 98 1 E98 s14 x13, pt b10 (Cs #[Bv x1, s2, Bv x4, s5] 39), pt b9 (Cs #[Bv false, .slice none 0 0] 39), pt b8 (Cs #[Bv x4, s5] 39), pt b7 (Cs #[Bv x1, s2] 39)] := hD; clear hD
    replace hf : Fr a 28 [] [(19, Bv (!(x1 == x4))), (24, s14), (2, Pv b7 0), (3, Pv b8 0), (4, Pv b9 0)] := hf
    refine O.callR hf rfl rfl rfl (RunE.call (av := #[Bv (!(x1 == x4)), s14]) C_ok_60 rfl rfl rfl) (m_wide_made_3_ok F (!(x1 == x4)) s14 x13 _ (hS.slS (j := 0) rfl) x15 hx15) ?_
    clear hf a; rintro s16 w hS1 a hf
    replace hf : Fr a _ _ ((25, .tuple #[.agg #[Bv x15.1, s16], Iv x15.2.2]) :: _) := hf
    replace hS := (hS.callX1 hS1 (i := 0) rfl (fun _ h => h)).eqM (N := [slE 98 1 E98 s16 x15.2.1, pt b10 (Cs #[Bv x1, s2, Bv x4, s5] 39), pt b9 (Cs #[Bv false, .slice none 0 0] 39), pt b8 (Cs #[Bv x4, s5] 39), pt b7 (Cs #[Bv x1, s2] 39)]) rfl
    clear hS1
    exact O.nil ⟨rfl, (s14, s16), hf.to trivial, (fun d hd => by cases (show some 25 = some d from hd); exact hf.get _ _ rfl), (fun j hj hk => match j, hj, hk with | 0, hj, hk => rfl | 1, hj, hk => rfl | 2, hj, hk => rfl | 3, hj, hk => rfl | 4, hj, hk => rfl | 5, hj, hk => rfl | 6, hj, hk => rfl | 7, hj, hk => rfl | 8, hj, hk => rfl | 9, hj, hk => rfl | 10, hj, hk => absurd rfl hj | 11, hj, hk => absurd hk (by decide) | 12, hj, hk => absurd hk (by decide) | 13, hj, hk => absurd hk (by decide) | 14, hj, hk => absurd hk (by decide) | _ + 15, _, _ => rfl), hS⟩
   ·intro s g w hsp hD a hf
    obtain ⟨s14, s16⟩ := g
    have hS : St w0 w noX [rdE 1 E98 s2 x3, rdE 1 E98 s5 x6] [slE 98 1 E98 s16 x15.2.1, pt b10 (Cs #[Bv x1, s2, Bv x4, s5] 39), pt b9 (Cs #[Bv false, .slice none 0 0] 39), pt b8 (Cs #[Bv x4, s5] 39), pt b7 (Cs #[Bv x1, s2] 39)] := hD; clear hD
    replace hf : Fr a 28 [] [(15, Pv b7 0), (16, Bv x1), (17, Pv b8 0), (18, Bv x4), (19, Bv (!(x1 == x4))), (20, Pv b7 1), (21, s2), (22, Pv b8 1), (23, s5), (24, s14), (25, .tuple #[.agg #[Bv x15.1, s16], Iv x15.2.2]), (26, .agg #[Bv x15.1, s16]), (27, Iv x15.2.2), (2, Pv b7 0), (3, Pv b8 0), (4, Pv b9 0)] := hf
    refine O.store (j := 2) (cs' := #[Bv x15.1, s16]) (M' := [slE 98 1 E98 s16 x15.2.1, pt b10 (Cs #[Bv x1, s2, Bv x4, s5] 39), pt b9 (Cs #[Bv x15.1, s16] 39), pt b8 (Cs #[Bv x4, s5] 39), pt b7 (Cs #[Bv x1, s2] 39)]) hf hS rfl rfl rfl T_size_39 rfl (oneCells_cc rfl (oneCells_cc (rdEOK_one (hS.rdS (j := 0) rfl)) rfl)) rfl (Nat.le_of_ble_eq_true rfl) rfl rfl ?_
    clear hS; intro w hS
    exact O.nil ⟨rfl, (s14, s16), hf.to trivial, (fun d hd => by cases (show none = some d from hd)), (fun _ _ _ => rfl), hS⟩
  ·clear hf hf1 hS
   exact trivial
  clear hf hf1 hS; intro s g a w hs hf hD
  obtain ⟨s14, s16⟩ := g
  have hS : St w0 w noX [rdE 1 E98 s2 x3, rdE 1 E98 s5 x6] [slE 98 1 E98 s16 x15.2.1, pt b10 (Cs #[Bv x1, s2, Bv x4, s5] 39), pt b9 (Cs #[Bv x15.1, s16] 39), pt b8 (Cs #[Bv x4, s5] 39), pt b7 (Cs #[Bv x1, s2] 39)] := hD; clear hD
  replace hf : Fr a 28 [] [(15, Pv b7 0), (16, Bv x1), (17, Pv b8 0), (18, Bv x4), (19, Bv (!(x1 == x4))), (20, Pv b7 1), (21, s2), (22, Pv b8 1), (23, s5), (24, s14), (25, .tuple #[.agg #[Bv x15.1, s16], Iv x15.2.2]), (26, .agg #[Bv x15.1, s16]), (27, Iv x15.2.2), (5, Iv x15.2.2), (2, Pv b7 0), (3, Pv b8 0), (4, Pv b9 0)] := hf
  refine k_seq ?_
  replace hf : Fr a 28 [] [(4, Pv b9 0), (5, Iv x15.2.2)] := hf.to ⟨rfl, rfl, trivial⟩
  refine W.ret ?_
  obtain rfl := Option.some.inj hm
  refine post2 hf rfl (ResOK.cellN (cs' := #[Bv x15.1, s16]) rfl T_agg_39 T_size_39 (hS.ptAt (i := 2) rfl) (Nat.le_of_ble_eq_true rfl) rfl) (ResOK.tmp rfl) ?_
  replace hS := hS.sub (N := [slE 98 1 E98 s16 x15.2.1]) (.cons_cons _ (.cons _ (.cons _ (.cons _ (.cons _ .slnil)))))
  exact ⟨s16, rfl, hS.noB⟩

def m_plan_calc_keep_j1 (F : Nat) (x9 : Int) : Option Int :=
  some x9
def m_plan_calc_keep (F : Nat)  (x2 : Int) (x3 : Bool) (x5 : List Int) (x6 : Int) : Option Int :=
  if x2 = (0 : Int) then (m_plan_calc_keep_j1 F x6) else (m_plan_calc_keep_j1 F x2)
set_option maxHeartbeats 1000000 in
set_option maxRecDepth 8000 in
theorem m_plan_calc_keep_ok (F : Nat)    (b1 : Nat) (x2 : Int) (x3 : Bool) (s4 : Value) (x5 : List Int) (x6 : Int) (w0 : World) (h_s4 : rdEOK (hp w0) 1 E98 s4 x5) (h_b1 : w0.heap[b1]? = some (.cells #[Iv x2] 67 (0, 0))) (ap_s4 : ∀ k, (rdE 1 E98 s4 x5).fp k → ¬ (pt b1 (Cs #[Iv x2] 67)).fp k) (r : Int) (hm : m_plan_calc_keep F x2 x3 x5 x6 = some r) :
    Ret Try.prog 24 #[Pv b1 0, .agg #[Bv x3, s4], Iv x6] w0 (G := Unit) (fun _ => .agg #[Bv x3, s4]) (fun _ w => St w0 w (fun k => k = b1) [] [pt b1 (Cs #[Iv r] 67)]) := by
 unfold m_plan_calc_keep at hm
 refine ret_of_W (lv := [Pv b1 0, .agg #[Bv x3, s4], Iv x6]) Try.func24 rfl rfl rfl (fun a hf => ?_)
 replace hf : Fr a 17 [] [(0, Pv b1 0), (1, .agg #[Bv x3, s4]), (2, Iv x6)] := hf
 have hS : St w0 w0 (fun k => k = b1) [rdE 1 E98 s4 x5] [pt b1 (Cs #[Iv x2] 67)] := St.ownPt h_b1 (lendAll_cons (lendRd h_s4) lendAll_nil) (apAll_cons ap_s4 (apAll_nil (q := pt b1 (Cs #[Iv x2] 67))))
 refine W.seq ?_
 refine W.regionL (l := [0, 1]) rfl ?_
 refine O.box (cs := #[Bv x3, s4]) hf hS rfl rfl rfl rfl ?_
 clear hf hS a; intro b7 w a hb7 hS hf
 refine O.alloc (cs := #[Bv false, .slice none 0 0]) hf hS rfl rfl T_zero_39 rfl ?_
 clear hf hS a; intro b8 w a hb8 hS hf
 refine O.nil ?_
 refine k_seq ?_
 replace hf : Fr a 17 [] [(0, Pv b1 0), (2, Iv x6), (4, Pv b7 0), (6, Pv b8 0)] := hf.to ⟨rfl, rfl, rfl, rfl, trivial⟩
 refine W.seqR (fun a w => ∃ (x9 : Int), Fr a 17 [] [(4, Pv b7 0), (6, Pv b8 0)] ∧ St w0 w (fun k => k = b1) [rdE 1 E98 s4 x5] [pt b7 (Cs #[Bv x3, s4] 39), pt b8 (Cs #[Bv false, .slice none 0 0] 39), pt b1 (Cs #[Iv x9] 67)] ∧ m_plan_calc_keep_j1 F x9 = some r) ?_ ?_
 ·refine W.seq ?_
  refine W.regionL (l := [0, 1, 2, 3, 4]) rfl ?_
  refine O.val hf rfl rfl rfl (RunV.move rfl) ?_; clear hf a; intro a hf
  refine O.val hf rfl rfl rfl (RunV.nilCheck rfl) ?_; clear hf a; intro a hf
  refine O.val hf rfl rfl rfl (RunV.field T_field_67_0 rfl rfl) ?_; clear hf a; intro a hf
  refine O.val hf rfl rfl rfl (RunV.load1 T_agg_28 rfl (hS.ptAt (i := 2) rfl) rfl) ?_; clear hf a; intro a hf
  refine O.val (v := Bv (decide (x2 = (0 : Int)))) hf rfl rfl rfl (RunV.eql rfl rfl) ?_; clear hf a; intro a hf
  refine O.nil ?_
  refine k_seq ?_
  replace hf : Fr a 17 [] [(0, Pv b1 0), (2, Iv x6), (4, Pv b7 0), (6, Pv b8 0), (11, Bv (decide (x2 = (0 : Int))))] := hf.to ⟨rfl, rfl, rfl, rfl, rfl, trivial⟩
  refine W.ifdI hf rfl (fun hc10 => ?_) (fun hc10 => ?_)
  ·replace hm := hm_p hm hc10
   refine W.regionL (l := [0, 1, 2, 3, 4]) rfl ?_
   refine O.val hf rfl rfl rfl (RunV.move rfl) ?_; clear hf a; intro a hf
   refine O.val hf rfl rfl rfl (RunV.move rfl) ?_; clear hf a; intro a hf
   refine O.val hf rfl rfl rfl (RunV.nilCheck rfl) ?_; clear hf a; intro a hf
   refine O.val hf rfl rfl rfl (RunV.field T_field_67_0 rfl rfl) ?_; clear hf a; intro a hf
   refine O.store (j := 2) (cs' := #[Iv x6]) (M' := [pt b8 (Cs #[Bv false, .slice none 0 0] 39), pt b7 (Cs #[Bv x3, s4] 39), pt b1 (Cs #[Iv x6] 67)]) hf hS rfl rfl rfl T_size_28 rfl rfl rfl (Nat.le_of_ble_eq_true rfl) rfl rfl ?_
   clear hS; intro w hS
   refine O.nil ?_
   replace hS := hS.front (i := 2) (M' := [pt b1 (Cs #[Iv x6] 67), pt b8 (Cs #[Bv false, .slice none 0 0] 39), pt b7 (Cs #[Bv x3, s4] 39)]) rfl rfl
   replace hS := hS.front (i := 1) (M' := [pt b8 (Cs #[Bv false, .slice none 0 0] 39), pt b1 (Cs #[Iv x6] 67), pt b7 (Cs #[Bv x3, s4] 39)]) rfl rfl
   replace hS := hS.front (i := 2) (M' := [pt b7 (Cs #[Bv x3, s4] 39), pt b8 (Cs #[Bv false, .slice none 0 0] 39), pt b1 (Cs #[Iv x6] 67)]) rfl rfl
   exact k_then ⟨x6, hf.to ⟨rfl, rfl, trivial⟩, hS, hm⟩
  ·replace hm := hm_n hm hc10
   refine W.skip ?_
   replace hS := hS.front (i := 2) (M' := [pt b1 (Cs #[Iv x2] 67), pt b8 (Cs #[Bv false, .slice none 0 0] 39), pt b7 (Cs #[Bv x3, s4] 39)]) rfl rfl
   replace hS := hS.front (i := 1) (M' := [pt b8 (Cs #[Bv false, .slice none 0 0] 39), pt b1 (Cs #[Iv x2] 67), pt b7 (Cs #[Bv x3, s4] 39)]) rfl rfl
   replace hS := hS.front (i := 2) (M' := [pt b7 (Cs #[Bv x3, s4] 39), pt b8 (Cs #[Bv false, .slice none 0 0] 39), pt b1 (Cs #[Iv x2] 67)]) rfl rfl
   exact k_then ⟨x2, hf.to ⟨rfl, rfl, trivial⟩, hS, hm⟩
 ·clear hf hS hm a; try clear w
  rintro a w ⟨x9, hf, hS, hm⟩
  unfold m_plan_calc_keep_j1 at hm
  refine W.seq ?_
  refine W.regionL (l := [0, 1]) rfl ?_
  refine O.val hf rfl rfl rfl (RunV.loadN (cs' := #[Bv x3, s4]) T_agg_39 T_size_39 rfl (hS.ptAt (i := 0) rfl) (Nat.le_of_ble_eq_true rfl) rfl) ?_; clear hf a; intro a hf
  refine O.store (j := 1) (cs' := #[Bv x3, s4]) (M' := [pt b7 (Cs #[Bv x3, s4] 39), pt b8 (Cs #[Bv x3, s4] 39), pt b1 (Cs #[Iv x9] 67)]) hf hS rfl rfl rfl T_size_39 rfl (oneCells_cc rfl (oneCells_cc (rdEOK_one (hS.rdB (j := 0) rfl)) rfl)) rfl (Nat.le_of_ble_eq_true rfl) rfl rfl ?_
  clear hS; intro w hS
  refine O.nil ?_
  refine k_seq ?_
  replace hf : Fr a 17 [] [(6, Pv b8 0)] := hf.to ⟨rfl, trivial⟩
  refine W.ret ?_
  obtain rfl := Option.some.inj hm
  refine post1 hf rfl (ResOK.cellN (cs' := #[Bv x3, s4]) rfl T_agg_39 T_size_39 (hS.ptAt (i := 1) rfl) (Nat.le_of_ble_eq_true rfl) rfl) ?_
  replace hS := hS.sub (N := [pt b1 (Cs #[Iv x9] 67)]) (.cons _ (.cons _ (.cons_cons _ .slnil)))
  exact ⟨(), rfl, hS.noB⟩

def m_plan_calc_square (F : Nat)  (x2 : Int) (x3 : Int) (x4 : Int) : Option (Bool × (List Int) × Int) :=
  (m_wide_From F x3).bind fun x6 => (m_wide_From F x4).bind fun x8 => (m_wide_Mul F x6.1 x6.2 x8.1 x8.2).bind fun x10 => (m_plan_calc_keep F x2 x10.1 x10.2.1 x10.2.2).bind fun x12 => (m_wide_Mul F x10.1 x10.2.1 x10.1 x10.2.1).bind fun x14 => (m_plan_calc_keep F x12 x14.1 x14.2.1 x14.2.2).bind fun x16 => some (x14.1, x14.2.1, x16)
set_option maxHeartbeats 1000000 in
set_option maxRecDepth 8000 in
theorem m_plan_calc_square_ok (F : Nat)    (b1 : Nat) (x2 : Int) (x3 : Int) (x4 : Int) (w0 : World) (h_b1 : w0.heap[b1]? = some (.cells #[Iv x2] 67 (0, 0))) (r : Bool × (List Int) × Int) (hm : m_plan_calc_square F x2 x3 x4 = some r) :
    Ret Try.prog 26 #[Pv b1 0, Iv x3, Iv x4] w0 (G := Value) (fun g1 => .agg #[Bv r.1, g1]) (fun g1 w => St w0 w (fun k => k = b1) [] [slE 98 1 E98 g1 r.2.1, pt b1 (Cs #[Iv r.2.2] 67)]) := by
 unfold m_plan_calc_square at hm
 refine ret_of_W (lv := [Pv b1 0, Iv x3, Iv x4]) Try.func26 rfl rfl rfl (fun a hf => ?_)
 replace hf : Fr a 24 [] [(0, Pv b1 0), (1, Iv x3), (2, Iv x4)] := hf
 have hS : St w0 w0 (fun k => k = b1) [] [pt b1 (Cs #[Iv x2] 67)] := St.ownPt h_b1 lendAll_nil (apAll_nil (q := pt b1 (Cs #[Iv x2] 67)))
 refine W.seq ?_
 refine W.regionL (l := [0]) rfl ?_
 refine O.alloc (cs := #[Bv false, .slice none 0 0]) hf hS rfl rfl T_zero_39 rfl ?_
 clear hf hS a; intro b5 w a hb5 hS hf
 refine O.nil ?_
 refine k_seq ?_
 refine W.seq ?_
 refine W.regionL (l := [0, 1, 2, 3, 4, 5, 6, 7, 8, 9, 10]) rfl ?_
 refine O.val hf rfl rfl rfl (RunV.move rfl) ?_; clear hf a; intro a hf
 refine O.val hf rfl rfl rfl (RunV.move rfl) ?_; clear hf a; intro a hf
 obtain ⟨x6, hx6, hm⟩ := hm_b hm
 refine O.callR hf rfl rfl rfl (RunE.call (av := #[Iv x3]) C_ok_30 rfl rfl rfl) (m_wide_From_ok F x3 _ x6 hx6) ?_
 clear hf a; rintro s7 w hS1 a hf
 replace hf : Fr a _ _ ((10, .agg #[Bv x6.1, s7]) :: _) := hf
 replace hS := (hS.call hS1).eqM (N := [slE 98 1 E98 s7 x6.2, pt b5 (Cs #[Bv false, .slice none 0 0] 39), pt b1 (Cs #[Iv x2] 67)]) rfl
 clear hS1
 refine O.val hf rfl rfl rfl (RunV.move rfl) ?_; clear hf a; intro a hf
 obtain ⟨x8, hx8, hm⟩ := hm_b hm
 refine O.callR hf rfl rfl rfl (RunE.call (av := #[Iv x4]) C_ok_30 rfl rfl rfl) (m_wide_From_ok F x4 _ x8 hx8) ?_
 clear hf a; rintro s9 w hS1 a hf
 replace hf : Fr a _ _ ((12, .agg #[Bv x8.1, s9]) :: _) := hf
 replace hS := (hS.call hS1).eqM (N := [slE 98 1 E98 s9 x8.2, slE 98 1 E98 s7 x6.2, pt b5 (Cs #[Bv false, .slice none 0 0] 39), pt b1 (Cs #[Iv x2] 67)]) rfl
 clear hS1
 obtain ⟨x10, hx10, hm⟩ := hm_b hm
 refine O.callR hf rfl rfl rfl (RunE.call (av := #[.agg #[Bv x6.1, s7], .agg #[Bv x8.1, s9]]) C_ok_29 rfl rfl rfl) (m_wide_Mul_ok F x6.1 s7 x6.2 x8.1 s9 x8.2 _ (hS.rdS (j := 1) rfl) (hS.rdS (j := 0) rfl) x10 hx10) ?_
 clear hf a; rintro s11 w hS1 a hf
 replace hf : Fr a _ _ ((13, .tuple #[.agg #[Bv x10.1, s11], Iv x10.2.2]) :: _) := hf
 replace hS := (hS.call hS1).eqM (N := [slE 98 1 E98 s11 x10.2.1, slE 98 1 E98 s9 x8.2, slE 98 1 E98 s7 x6.2, pt b5 (Cs #[Bv false, .slice none 0 0] 39), pt b1 (Cs #[Iv x2] 67)]) rfl
 clear hS1
 refine O.val hf rfl rfl rfl (RunV.extract rfl rfl) ?_; clear hf a; intro a hf
 refine O.val hf rfl rfl rfl (RunV.extract rfl rfl) ?_; clear hf a; intro a hf
 obtain ⟨x12, hx12, hm⟩ := hm_b hm
 refine O.callR hf rfl rfl rfl (RunE.call (av := #[Pv b1 0, .agg #[Bv x10.1, s11], Iv x10.2.2]) C_ok_24 rfl rfl rfl) (m_plan_calc_keep_ok F b1 x2 x10.1 s11 x10.2.1 x10.2.2 _ (hS.rdS (j := 0) rfl) (hS.ptAt (i := 4) rfl) (apRd (hS.apMM (i := 4) (j := 0) rfl rfl (by decide))) x12 hx12) ?_
 clear hf a; rintro _ w hS1 a hf
 replace hf : Fr a _ _ ((16, .agg #[Bv x10.1, s11]) :: _) := hf
 replace hS := (hS.callX1 hS1 (i := 4) rfl (fun _ h => h)).eqM (N := [pt b1 (Cs #[Iv x12] 67), slE 98 1 E98 s11 x10.2.1, slE 98 1 E98 s9 x8.2, slE 98 1 E98 s7 x6.2, pt b5 (Cs #[Bv false, .slice none 0 0] 39)]) rfl
 clear hS1
 refine O.alloc (cs := #[Bv false, .slice none 0 0]) hf hS rfl rfl T_zero_39 rfl ?_
 clear hf hS a; intro b13 w a hb13 hS hf
 refine O.store (j := 0) (cs' := #[Bv x10.1, s11]) (M' := [pt b13 (Cs #[Bv x10.1, s11] 39), pt b1 (Cs #[Iv x12] 67), slE 98 1 E98 s11 x10.2.1, slE 98 1 E98 s9 x8.2, slE 98 1 E98 s7 x6.2, pt b5 (Cs #[Bv false, .slice none 0 0] 39)]) hf hS rfl rfl rfl T_size_39 rfl (oneCells_cc rfl (oneCells_cc (rdEOK_one (hS.rdS (j := 2) rfl)) rfl)) rfl (Nat.le_of_ble_eq_true rfl) rfl rfl ?_
 clear hS; intro w hS
 refine O.nil ?_
 refine k_seq ?_
 replace hf : Fr a 24 [] [(0, Pv b1 0), (6, Pv b5 0), (7, Pv b13 0)] := hf.to ⟨rfl, rfl, rfl, trivial⟩
 refine W.seq ?_
 refine W.regionL (l := [0, 1, 2, 3, 4, 5, 6, 7]) rfl ?_
 refine O.val hf rfl rfl rfl (RunV.move rfl) ?_; clear hf a; intro a hf
 refine O.val hf rfl rfl rfl (RunV.loadN (cs' := #[Bv x10.1, s11]) T_agg_39 T_size_39 rfl (hS.ptAt (i := 0) rfl) (Nat.le_of_ble_eq_true rfl) rfl) ?_; clear hf a; intro a hf
 refine O.val hf rfl rfl rfl (RunV.loadN (cs' := #[Bv x10.1, s11]) T_agg_39 T_size_39 rfl (hS.ptAt (i := 0) rfl) (Nat.le_of_ble_eq_true rfl) rfl) ?_; clear hf a; intro a hf
 obtain ⟨x14, hx14, hm⟩ := hm_b hm
 refine O.callR hf rfl rfl rfl (RunE.call (av := #[.agg #[Bv x10.1, s11], .agg #[Bv x10.1, s11]]) C_ok_29 rfl rfl rfl) (m_wide_Mul_ok F x10.1 s11 x10.2.1 x10.1 s11 x10.2.1 _ (hS.rdS (j := 2) rfl) (hS.rdS (j := 2) rfl) x14 hx14) ?_
 clear hf a; rintro s15 w hS1 a hf
 replace hf : Fr a _ _ ((20, .tuple #[.agg #[Bv x14.1, s15], Iv x14.2.2]) :: _) := hf
 replace hS := (hS.call hS1).eqM (N := [slE 98 1 E98 s15 x14.2.1, pt b13 (Cs #[Bv x10.1, s11] 39), pt b1 (Cs #[Iv x12] 67), slE 98 1 E98 s11 x10.2.1, slE 98 1 E98 s9 x8.2, slE 98 1 E98 s7 x6.2, pt b5 (Cs #[Bv false, .slice none 0 0] 39)]) rfl
 clear hS1
 refine O.val hf rfl rfl rfl (RunV.extract rfl rfl) ?_; clear hf a; intro a hf
 refine O.val hf rfl rfl rfl (RunV.extract rfl rfl) ?_; clear hf a; intro a hf
 obtain ⟨x16, hx16, hm⟩ := hm_b hm
 refine O.callR hf rfl rfl rfl (RunE.call (av := #[Pv b1 0, .agg #[Bv x14.1, s15], Iv x14.2.2]) C_ok_24 rfl rfl rfl) (m_plan_calc_keep_ok F b1 x12 x14.1 s15 x14.2.1 x14.2.2 _ (hS.rdS (j := 0) rfl) (hS.ptAt (i := 2) rfl) (apRd (hS.apMM (i := 2) (j := 0) rfl rfl (by decide))) x16 hx16) ?_
 clear hf a; rintro _ w hS1 a hf
 replace hf : Fr a _ _ ((23, .agg #[Bv x14.1, s15]) :: _) := hf
 replace hS := (hS.callX1 hS1 (i := 2) rfl (fun _ h => h)).eqM (N := [pt b1 (Cs #[Iv x16] 67), slE 98 1 E98 s15 x14.2.1, pt b13 (Cs #[Bv x10.1, s11] 39), slE 98 1 E98 s11 x10.2.1, slE 98 1 E98 s9 x8.2, slE 98 1 E98 s7 x6.2, pt b5 (Cs #[Bv false, .slice none 0 0] 39)]) rfl
 clear hS1
 refine O.store (j := 6) (cs' := #[Bv x14.1, s15]) (M' := [pt b1 (Cs #[Iv x16] 67), slE 98 1 E98 s15 x14.2.1, pt b13 (Cs #[Bv x10.1, s11] 39), slE 98 1 E98 s11 x10.2.1, slE 98 1 E98 s9 x8.2, slE 98 1 E98 s7 x6.2, pt b5 (Cs #[Bv x14.1, s15] 39)]) hf hS rfl rfl rfl T_size_39 rfl (oneCells_cc rfl (oneCells_cc (rdEOK_one (hS.rdS (j := 1) rfl)) rfl)) rfl (Nat.le_of_ble_eq_true rfl) rfl rfl ?_
 clear hS; intro w hS
 refine O.nil ?_
 refine k_seq ?_
 replace hf : Fr a 24 [] [(6, Pv b5 0)] := hf.to ⟨rfl, trivial⟩
 refine W.ret ?_
 obtain rfl := Option.some.inj hm
 refine post1 hf rfl (ResOK.cellN (cs' := #[Bv x14.1, s15]) rfl T_agg_39 T_size_39 (hS.ptAt (i := 6) rfl) (Nat.le_of_ble_eq_true rfl) rfl) ?_
 replace hS := hS.front (i := 1) (M' := [slE 98 1 E98 s15 x14.2.1, pt b1 (Cs #[Iv x16] 67), pt b13 (Cs #[Bv x10.1, s11] 39), slE 98 1 E98 s11 x10.2.1, slE 98 1 E98 s9 x8.2, slE 98 1 E98 s7 x6.2, pt b5 (Cs #[Bv x14.1, s15] 39)]) rfl rfl
 replace hS := hS.sub (N := [slE 98 1 E98 s15 x14.2.1, pt b1 (Cs #[Iv x16] 67)]) (.cons_cons _ (.cons_cons _ (.cons _ (.cons _ (.cons _ (.cons _ (.cons _ .slnil)))))))
 exact ⟨s15, rfl, hS.noB⟩

def m_wide_down (F : Nat)  (x2 : List Int) : Option Unit :=
  some ()
set_option maxHeartbeats 1000000 in
set_option maxRecDepth 8000 in
theorem m_wide_down_ok (F : Nat)    (s1 : Value) (x2 : List Int) (w0 : World) (h_s1 : rdEOK (hp w0) 1 E98 s1 x2) (r : Unit) (hm : m_wide_down F x2 = some r) :
    Ret Try.prog 84 #[s1] w0 (G := Nat) (fun g1 => .func (.func 107) #[] #[Pv g1 0]) (fun g1 w => St w0 w noX [] [pt g1 (Cs #[s1] 37)]) := by
 unfold m_wide_down at hm
 refine ret_of_W (lv := [s1]) Try.func84 rfl rfl rfl (fun a hf => ?_)
 replace hf : Fr a 4 [] [(0, s1)] := hf
 have hS : St w0 w0 noX [rdE 1 E98 s1 x2] [] := St.borrow (lendAll_cons (lendRd h_s1) lendAll_nil)
 refine W.seq ?_
 refine W.regionL (l := [0, 1]) rfl ?_
 refine O.box (cs := #[s1]) hf hS rfl rfl rfl (rdEOK_cells (hS.rdB (j := 0) rfl)) ?_
 clear hf hS a; intro b3 w a hb3 hS hf
 refine O.val hf rfl rfl rfl (RunV.assign rfl) ?_; clear hf a; intro a hf
 refine O.nil ?_
 refine k_seq ?_
 replace hf : Fr a 4 [] [(1, Pv b3 0), (2, .nilFunc)] := hf.to ⟨rfl, rfl, trivial⟩
 refine W.seq ?_
 refine W.regionL (l := [0, 1]) rfl ?_
 refine O.val (v := .func (.func 107) #[] #[Pv b3 0]) hf rfl rfl rfl (RunV.makeFunc rfl rfl rfl rfl) ?_; clear hf a; intro a hf
 refine O.val hf rfl rfl rfl (RunV.assign rfl) ?_; clear hf a; intro a hf
 refine O.nil ?_
 refine k_seq ?_
 replace hf : Fr a 4 [] [(2, .func (.func 107) #[] #[Pv b3 0])] := hf.to ⟨rfl, trivial⟩
 refine W.ret ?_
 obtain rfl := Option.some.inj hm
 refine post1 hf rfl (ResOK.tmp rfl) ?_
 exact ⟨b3, rfl, hS.noB⟩

theorem iter_107 (b : Nat) (s : Value) (l : List Int) : IterX Try.prog 107 #[Pv b 0] ((downL l).map fun p => (Iv p.1, .int .u32 p.2)) (RdAt 37 1 E98 b s l) := by
  intro lp R S hdrew hrd hy w h0
  refine calls_of_W (l := [.func (.yield lp) #[] #[], Pv b 0]) Try.func107 rfl rfl rfl (fun a hf => ?_)
  replace hf : Fr a 19 [] [(0, .func (.yield lp) #[] #[]), (1, Pv b 0)] := hf
  obtain ⟨hb, hr⟩ := hrd 0 w h0
  have hlen := hr.le
  refine W.seq ?_
  refine W.regionL (l := [0, 1, 2, 3]) rfl ?_
  refine O.val (v := s) hf rfl rfl rfl (RunV.load1 T_agg_37 rfl hb rfl) ?_; clear hf a; intro a hf
  refine O.val hf rfl rfl rfl (RunV.lenE (e := 98) (by simpa using T_elem_37) rfl hr) ?_; clear hf a; intro a hf
  refine O.val hf rfl rfl rfl (RunV.sub rfl rfl) ?_; clear hf a; intro a hf
  refine O.val hf rfl rfl rfl (RunV.assign rfl) ?_; clear hf a; intro a hf
  refine O.nil ?_
  refine k_seq ?_
  have hw1 : IntKind.i64.wrap ((l.length : Int) - 1) = (l.length : Int) - 1 - (0 : Nat) := by
    rw [IntKind.wrap_i64]; unfold maxLen at hlen; omega
  rw [hw1] at hf
  replace hf : Fr a 19 [] [(0, .func (.yield lp) #[] #[]), (1, Pv b 0), (3, Iv ((l.length : Int) - 1 - (0 : Nat)))] := hf.to ⟨rfl, rfl, rfl, trivial⟩
  refine W.block ?_
  refine W.loop (G := Nat) (fun k a w => Fr a 19 [] [(0, .func (.yield lp) #[] #[]), (1, Pv b 0), (3, Iv ((l.length : Int) - 1 - k))] ∧ R k w ∧ k ≤ l.length) (fun k => l.length - k) 0 ⟨hf, h0, Nat.zero_le _⟩ ?_
  clear hf hb hr h0 a; clear w
  rintro k a w ⟨hf, hR, hk⟩
  obtain ⟨hb, hr⟩ := hrd k w hR
  refine W.seq ?_
  refine W.seq ?_
  refine W.regionL (l := [0, 1]) rfl ?_
  refine O.val hf rfl rfl rfl (RunV.move rfl) ?_; clear hf a; intro a hf
  refine O.val hf rfl rfl rfl (RunV.geq rfl rfl) ?_; clear hf a; intro a hf
  refine O.nil ?_
  refine k_seq ?_
  refine W.ifdI hf rfl (fun hc => ?_) (fun hc => ?_)
  · refine W.skip ?_
    refine k_seq ?_
    have hk1 : k < l.length := by omega
    have hi : idx l ((l.length : Int) - 1 - k) = some l[l.length - 1 - k] := by
      unfold idx
      rw [if_pos (by omega), List.getElem?_eq_some_iff]
      refine ⟨by omega, ?_⟩
      congr 1; omega
    have hx : ((downL l).map fun p => (Iv p.1, Value.int .u32 p.2))[k]? = some (Iv ((l.length : Int) - 1 - k), .int .u32 l[l.length - 1 - k]) := by
      rw [List.getElem?_map, downL_get hk1]
      simp only [Option.map_some, Option.some.injEq, Prod.mk.injEq, and_true]
      congr 1; omega
    refine W.seq ?_
    refine W.block ?_
    refine W.seq ?_
    refine W.regionL (l := [0, 1, 2, 3, 4, 5, 6, 7]) rfl ?_
    refine O.val hf rfl rfl rfl (RunV.move rfl) ?_; clear hf a; intro a hf
    refine O.val hf rfl rfl rfl (RunV.move rfl) ?_; clear hf a; intro a hf
    refine O.val (v := s) hf rfl rfl rfl (RunV.load1 T_agg_37 rfl hb rfl) ?_; clear hf a; intro a hf
    refine O.val hf rfl rfl rfl (RunV.move rfl) ?_; clear hf a; intro a hf
    refine O.val (v := ix s _) hf rfl rfl rfl (RunV.ixE T_elem_37 T_size_98 rfl rfl hr hi) ?_; clear hf a; intro a hf
    refine O.val hf rfl rfl rfl (RunV.ldE1 (o := 0) T_agg_98 E98_len rfl hr hi rfl rfl) ?_; clear hf a; intro a hf
    refine O.yield2 hf rfl rfl rfl rfl rfl (hy k _ hx w hR) ?_
    clear hf hR hb hr a; clear w
    intro c w a hc2 hf
    refine O.val hf rfl rfl rfl (RunV.not rfl) ?_; clear hf a; intro a hf
    refine O.nil ?_
    refine k_seq ?_
    rcases hc2 with ⟨rfl, hR⟩ | ⟨rfl, hR⟩
    · refine W.if_ff hf rfl ?_
      refine W.skip ?_
      refine k_blk_normal ?_
      refine k_seq ?_
      refine W.regionL (l := [0, 1, 2]) rfl ?_
      refine O.val hf rfl rfl rfl (RunV.move rfl) ?_; clear hf a; intro a hf
      refine O.val hf rfl rfl rfl (RunV.sub rfl rfl) ?_; clear hf a; intro a hf
      refine O.val hf rfl rfl rfl (RunV.assign rfl) ?_; clear hf a; intro a hf
      refine O.nil ?_
      have hw2 : IntKind.i64.wrap ((l.length : Int) - 1 - k - 1) = (l.length : Int) - 1 - (k + 1 : Nat) := by
        rw [IntKind.wrap_i64]; unfold maxLen at hlen; omega
      rw [hw2] at hf
      refine k_then ⟨k + 1, ⟨hf.to ⟨rfl, rfl, rfl, trivial⟩, hR, by omega⟩, by omega⟩
    · refine W.if_tt hf rfl ?_
      refine W.ret ?_
      refine k_blk_ret ?_
      refine k_then_ret ?_
      refine k_then_ret ?_
      refine k_blk_ret ?_
      refine post0 (hf.to (L' := []) trivial) rfl ⟨⟨_, rfl⟩, .inr hR⟩
  · refine W.exit ?_
    refine k_then_exit ?_
    refine k_then_exit ?_
    refine k_blk ?_
    have hk2 : k = l.length := by omega
    subst hk2
    refine post_normal ?_
    refine post0 (hf.to (L' := []) trivial) rfl ⟨⟨_, rfl⟩, .inl (by rw [List.length_map, downL_len]; exact hR)⟩

def m_wide_compare_s1 (F : Nat)  (x14 : Int) : Option Int :=
  some x14
def m_wide_compare_j1 (F : Nat)   : Option Int :=
  some 0
def m_wide_compare_b1 (F : Nat) (x4 : List Int) (rec11 : Option Int) (x12 x13 : Int)  : Option Int :=
  (idx x4 x12).bind fun x15 => if x13 < (x15 : Int) then (m_wide_compare_s1 F (-1)) else (if x13 > (x15 : Int) then (m_wide_compare_s1 F 1) else (rec11))
def m_wide_compare_l1 (F : Nat) (x4 : List Int) : List (Int × Int) → Option Int
  | [] => m_wide_compare_j1 F
  | p :: t => m_wide_compare_b1 F x4 (m_wide_compare_l1 F x4 t) p.1 p.2
def m_wide_compare (F : Nat)  (x2 : List Int) (x4 : List Int) : Option Int :=
  if (x2.length : Int) ≠ ((x4.length : Int) : Int) then (if (x2.length : Int) < ((x4.length : Int) : Int) then (some (-1)) else (some 1)) else ((m_wide_down F x2).bind fun x9 => m_wide_compare_l1 F x4 (downL x2))
set_option maxHeartbeats 1000000 in
set_option maxRecDepth 8000 in
theorem m_wide_compare_ok (F : Nat)    (s1 : Value) (x2 : List Int) (s3 : Value) (x4 : List Int) (w0 : World) (h_s1 : rdEOK (hp w0) 1 E98 s1 x2) (h_s3 : rdEOK (hp w0) 1 E98 s3 x4) (r : Int) (hm : m_wide_compare F x2 x4 = some r) :
    Ret Try.prog 59 #[s1, s3] w0 (G := Unit) (fun _ => Iv r) (fun _ w => St w0 w noX [] []) := by
 unfold m_wide_compare at hm
 refine ret_of_WM (lv := [s1, s3]) Try.func59 rfl rfl rfl (fun a hf => ?_)
 replace hf : Fr a 33 [] [(0, s1), (1, s3)] := hf
 have hS : St w0 w0 noX [rdE 1 E98 s1 x2, rdE 1 E98 s3 x4] [] := St.borrow (lendAll_cons (lendRd h_s1) (lendAll_cons (lendRd h_s3) lendAll_nil))
 replace hS := hS.mk0
 refine W.seq ?_
 refine W.regionL (l := [0, 1]) rfl ?_
 refine O.box (cs := #[s3]) hf hS rfl rfl rfl (rdEOK_cells (hS.rdB (j := 1) rfl)) ?_
 clear hf hS a; intro b5 w a hb5 hS hf
 refine O.alloc (cs := #[Iv 0]) hf hS rfl rfl T_zero_3 rfl ?_
 clear hf hS a; intro b6 w a hb6 hS hf
 refine O.nil ?_
 refine k_seq ?_
 replace hf : Fr a 33 [] [(0, s1), (3, Pv b5 0), (4, Pv b6 0)] := hf.to ⟨rfl, rfl, rfl, trivial⟩
 refine W.seq ?_
 refine W.seq ?_
 refine W.regionL (l := [0, 1, 2, 3, 4]) rfl ?_
 refine O.val hf rfl rfl rfl (RunV.move rfl) ?_; clear hf a; intro a hf
 refine O.val (v := Iv (x2.length : Int)) hf rfl rfl rfl (RunV.lenE (e := 98) (by simpa using T_elem_37) rfl (hS.rdB (j := 0) rfl)) ?_; clear hf a; intro a hf
 refine O.val hf rfl rfl rfl (RunV.load1 T_agg_37 rfl (hS.ptAt (i := 1) rfl) rfl) ?_; clear hf a; intro a hf
 refine O.val (v := Iv (x4.length : Int)) hf rfl rfl rfl (RunV.lenE (e := 98) (by simpa using T_elem_37) rfl (hS.rdB (j := 1) rfl)) ?_; clear hf a; intro a hf
 refine O.val (v := Bv (decide ((x2.length : Int) ≠ ((x4.length : Int) : Int)))) hf rfl rfl rfl (RunV.neq rfl rfl) ?_; clear hf a; intro a hf
 refine O.nil ?_
 refine k_seq ?_
 replace hf : Fr a 33 [] [(0, s1), (3, Pv b5 0), (4, Pv b6 0), (11, Bv (decide ((x2.length : Int) ≠ ((x4.length : Int) : Int))))] := hf.to ⟨rfl, rfl, rfl, rfl, trivial⟩
 refine W.ifdI hf rfl (fun hc7 => ?_) (fun hc7 => ?_)
 ·replace hm := hm_p hm hc7
  refine W.seq ?_
  refine W.seq ?_
  refine W.regionL (l := [0, 1, 2, 3, 4]) rfl ?_
  refine O.val hf rfl rfl rfl (RunV.move rfl) ?_; clear hf a; intro a hf
  refine O.val (v := Iv (x2.length : Int)) hf rfl rfl rfl (RunV.lenE (e := 98) (by simpa using T_elem_37) rfl (hS.rdB (j := 0) rfl)) ?_; clear hf a; intro a hf
  refine O.val hf rfl rfl rfl (RunV.load1 T_agg_37 rfl (hS.ptAt (i := 1) rfl) rfl) ?_; clear hf a; intro a hf
  refine O.val (v := Iv (x4.length : Int)) hf rfl rfl rfl (RunV.lenE (e := 98) (by simpa using T_elem_37) rfl (hS.rdB (j := 1) rfl)) ?_; clear hf a; intro a hf
  refine O.val (v := Bv (decide ((x2.length : Int) < ((x4.length : Int) : Int)))) hf rfl rfl rfl (RunV.lss rfl rfl) ?_; clear hf a; intro a hf
  refine O.nil ?_
  refine k_seq ?_
  replace hf : Fr a 33 [] [(0, s1), (3, Pv b5 0), (4, Pv b6 0), (16, Bv (decide ((x2.length : Int) < ((x4.length : Int) : Int))))] := hf.to ⟨rfl, rfl, rfl, rfl, trivial⟩
  refine W.ifdI hf rfl (fun hc8 => ?_) (fun hc8 => ?_)
  ·replace hm := hm_p hm hc8
   refine W.seq ?_
   refine W.regionL (l := [0]) rfl ?_
   refine O.store (j := 0) (cs' := #[Iv (-1)]) (M' := [pt b6 (Cs #[Iv (-1)] 3), pt b5 (Cs #[s3] 37), mkA []]) hf hS rfl rfl rfl T_size_3 rfl rfl rfl (Nat.le_of_ble_eq_true rfl) rfl rfl ?_
   clear hS; intro w hS
   refine O.nil ?_
   refine k_seq ?_
   replace hf : Fr a 33 [] [(0, s1), (3, Pv b5 0), (4, Pv b6 0)] := hf.to ⟨rfl, rfl, rfl, trivial⟩
   refine W.ret ?_
   refine k_then_ret ?_
   refine k_then_ret ?_
   replace hS := hS.front (i := 1) (M' := [pt b5 (Cs #[s3] 37), pt b6 (Cs #[Iv (-1)] 3), mkA []]) rfl rfl
   replace hS := hS.front (i := 1) (M' := [pt b6 (Cs #[Iv (-1)] 3), pt b5 (Cs #[s3] 37), mkA []]) rfl rfl
   replace hS := hS.front (i := 2) (M' := [mkA [], pt b6 (Cs #[Iv (-1)] 3), pt b5 (Cs #[s3] 37)]) rfl rfl
   refine postM (Ds := []) hS hf (fun w a hf hS => ?_)
   obtain rfl := Option.some.inj hm
   refine post1 hf rfl (ResOK.cell1 rfl T_agg_3 (hS.ptAt (i := 0) rfl) rfl) ?_
   replace hS := hS.sub (N := []) (.cons _ (.cons _ .slnil))
   exact ⟨(), rfl, hS.noB⟩
  ·replace hm := hm_n hm hc8
   refine W.skip ?_
   refine k_seq ?_
   replace hf : Fr a 33 [] [(0, s1), (3, Pv b5 0), (4, Pv b6 0)] := hf.to ⟨rfl, rfl, rfl, trivial⟩
   refine W.seq ?_
   refine W.regionL (l := [0]) rfl ?_
   refine O.store (j := 0) (cs' := #[Iv 1]) (M' := [pt b6 (Cs #[Iv 1] 3), pt b5 (Cs #[s3] 37), mkA []]) hf hS rfl rfl rfl T_size_3 rfl rfl rfl (Nat.le_of_ble_eq_true rfl) rfl rfl ?_
   clear hS; intro w hS
   refine O.nil ?_
   refine k_seq ?_
   refine W.ret ?_
   refine k_then_ret ?_
   replace hS := hS.front (i := 1) (M' := [pt b5 (Cs #[s3] 37), pt b6 (Cs #[Iv 1] 3), mkA []]) rfl rfl
   replace hS := hS.front (i := 1) (M' := [pt b6 (Cs #[Iv 1] 3), pt b5 (Cs #[s3] 37), mkA []]) rfl rfl
   replace hS := hS.front (i := 2) (M' := [mkA [], pt b6 (Cs #[Iv 1] 3), pt b5 (Cs #[s3] 37)]) rfl rfl
   refine postM (Ds := []) hS hf (fun w a hf hS => ?_)
   obtain rfl := Option.some.inj hm
   refine post1 hf rfl (ResOK.cell1 rfl T_agg_3 (hS.ptAt (i := 0) rfl) rfl) ?_
   replace hS := hS.sub (N := []) (.cons _ (.cons _ .slnil))
   exact ⟨(), rfl, hS.noB⟩
 ·replace hm := hm_n hm hc7
  refine W.skip ?_
  refine k_seq ?_
  replace hf : Fr a 33 [] [(0, s1), (3, Pv b5 0), (4, Pv b6 0)] := hf.to ⟨rfl, rfl, rfl, trivial⟩
  refine W.seq ?_
  refine W.seq ?_
  refine W.regionL (l := [0, 1]) rfl ?_
  refine O.val hf rfl rfl rfl (RunV.move rfl) ?_; clear hf a; intro a hf
  obtain ⟨x9, hx9, hm⟩ := hm_b hm
  refine O.callR hf rfl rfl rfl (RunE.call (av := #[s1]) C_ok_84 rfl rfl rfl) (m_wide_down_ok F s1 x2 _ (hS.rdB (j := 0) rfl) x9 hx9) ?_
  clear hf a; rintro b10 w hS1 a hf
  replace hf : Fr a _ _ ((18, .func (.func 107) #[] #[Pv b10 0]) :: _) := hf
  replace hS := (hS.call hS1).eqM (N := [pt b10 (Cs #[s1] 37), pt b6 (Cs #[Iv 0] 3), pt b5 (Cs #[s3] 37), mkA []]) rfl
  clear hS1
  refine O.nil ?_
  refine k_seq ?_
  replace hf : Fr a 33 [] [(3, Pv b5 0), (4, Pv b6 0), (18, .func (.func 107) #[] #[Pv b10 0])] := hf.to ⟨rfl, rfl, rfl, trivial⟩
  refine W.block ?_
  replace hf : Fr a 33 [] [(3, Pv b5 0), (4, Pv b6 0), (18, .func (.func 107) #[] #[Pv b10 0])] := hf.to ⟨rfl, rfl, rfl, trivial⟩
  replace hS := hS.front (i := 1) (M' := [pt b6 (Cs #[Iv 0] 3), pt b10 (Cs #[s1] 37), pt b5 (Cs #[s3] 37), mkA []]) rfl rfl
  replace hS := hS.front (i := 2) (M' := [pt b5 (Cs #[s3] 37), pt b6 (Cs #[Iv 0] 3), pt b10 (Cs #[s1] 37), mkA []]) rfl rfl
  replace hS := hS.front (i := 3) (M' := [mkA [], pt b5 (Cs #[s3] 37), pt b6 (Cs #[Iv 0] 3), pt b10 (Cs #[s1] 37)]) rfl rfl
  refine W.rangeFn2 (G := Unit) (G2 := Int) (gf := 107) (lb := #[Pv b10 0]) (xs := (downL x2).map (fun p : Int × Int => (Iv p.1, Value.int .u32 p.2))) (fun x y => [(3, Pv b5 0), (4, Pv b6 0), (5, x), (6, y), (18, .func (.func 107) #[] #[Pv b10 0]), (19, x), (20, y)]) (fun g => match g with | _ => [mkA [], pt b5 (Cs #[s3] 37), pt b6 (Cs #[Iv 0] 3), pt b10 (Cs #[s1] 37)]) (fun k g => match g with | _ => m_wide_compare_l1 F x4 ((downL x2).drop k) = some r) () (RdAt 37 1 E98 b10 s1 x2) (fun g => match g with | x14 => [mkA [], pt b5 (Cs #[s3] 37), pt b6 (Cs #[Iv x14] 3), pt b10 (Cs #[s1] 37)]) (fun g => match g with | x14 => m_wide_compare_s1 F x14 = some r) hf rfl rfl rfl C_ok_107 hS hm (iter_107 _ _ _) ?_ ?_ ?_ ?_ ?_
  ·rintro _ w hS
   replace hS : St w0 w noX [rdE 1 E98 s1 x2, rdE 1 E98 s3 x4] [mkA [], pt b5 (Cs #[s3] 37), pt b6 (Cs #[Iv 0] 3), pt b10 (Cs #[s1] 37)] := hS
   exact ⟨hS.ptAt (i := 3) rfl, (hS.rdB (j := 0) rfl)⟩
  ·clear hf hS hm a; clear w
   intro l x y w a hf
   replace hf : Fr a 33 [] [(3, Pv b5 0), (4, Pv b6 0), (18, .func (.func 107) #[] #[Pv b10 0]), (19, x), (20, y)] := hf.to ⟨rfl, rfl, rfl, rfl, rfl, trivial⟩
   refine W.seq ?_
   refine W.regionL (l := [0]) rfl ?_
   refine O.val hf rfl rfl rfl (RunV.assign rfl) ?_; clear hf a; intro a hf
   refine O.nil ?_
   refine k_seq ?_
   refine W.regionL (l := [0]) rfl ?_
   refine O.val hf rfl rfl rfl (RunV.assign rfl) ?_; clear hf a; intro a hf
   refine O.nil ?_
   exact ⟨rfl, hf.to ⟨rfl, rfl, rfl, rfl, rfl, rfl, rfl, trivial⟩, rfl⟩
  ·clear hf hS hm a; clear w
   rintro dl11 do11 dD11 k11 x y _ w hx hm hS a hf
   obtain ⟨⟨x12, x13⟩, hp, hxy⟩ := down_x hx; obtain ⟨rfl, rfl⟩ := Prod.mk.inj hxy
   replace hf : Fr a 33 [] [(3, Pv b5 0), (4, Pv b6 0), (5, Iv x12), (6, .int .u32 x13), (18, .func (.func 107) #[] #[Pv b10 0]), (19, Iv x12), (20, .int .u32 x13)] := hf
   replace hS : St w0 w noX [rdE 1 E98 s1 x2, rdE 1 E98 s3 x4] [pt dl11 do11, pt dD11 (.deferred (some [])), mkA [], pt b5 (Cs #[s3] 37), pt b6 (Cs #[Iv 0] 3), pt b10 (Cs #[s1] 37)] := hS
   replace hm : m_wide_compare_l1 F x4 ((downL x2).drop k11) = some r := hm
   rw [drop_cons hp] at hm
   replace hm : m_wide_compare_b1 F x4 (m_wide_compare_l1 F x4 ((downL x2).drop (k11 + 1))) x12 x13 = some r := hm
   obtain ⟨rec11, hrec11⟩ : ∃ f, f = m_wide_compare_l1 F x4 ((downL x2).drop (k11 + 1)) := ⟨_, rfl⟩
   rw [← hrec11] at hm; unfold m_wide_compare_b1 at hm
   refine W.block ?_
   refine W.seq ?_
   refine W.seq ?_
   refine W.regionL (l := [0, 1, 2, 3, 4, 5]) rfl ?_
   refine O.val hf rfl rfl rfl (RunV.move rfl) ?_; clear hf a; intro a hf
   refine O.val hf rfl rfl rfl (RunV.load1 T_agg_37 rfl (hS.ptAt (i := 3) rfl) rfl) ?_; clear hf a; intro a hf
   refine O.val hf rfl rfl rfl (RunV.move rfl) ?_; clear hf a; intro a hf
   obtain ⟨x15, hx15, hm⟩ := hm_b hm
   refine O.val hf rfl rfl rfl (RunV.ixE T_elem_37 T_size_98 rfl rfl (hS.rdB (j := 1) rfl) hx15) ?_; clear hf a; intro a hf
   refine O.val hf rfl rfl rfl (RunV.ldE1 (o := 0) T_agg_98 E98_len rfl (hS.rdB (j := 1) rfl) hx15 rfl rfl) ?_; clear hf a; intro a hf
   refine O.val (v := Bv (decide (x13 < (x15 : Int)))) hf rfl rfl rfl (RunV.lss rfl rfl) ?_; clear hf a; intro a hf
   refine O.nil ?_
   refine k_seq ?_
   replace hf : Fr a 33 [] [(3, Pv b5 0), (4, Pv b6 0), (5, Iv x12), (6, .int .u32 x13), (26, Bv (decide (x13 < (x15 : Int))))] := hf.to ⟨rfl, rfl, rfl, rfl, rfl, trivial⟩
   refine W.ifdI hf rfl (fun hc16 => ?_) (fun hc16 => ?_)
   ·replace hm := hm_p hm hc16
    refine W.seq ?_
    refine W.regionL (l := [0]) rfl ?_
    refine O.store (j := 4) (cs' := #[Iv (-1)]) (M' := [pt dl11 do11, pt dD11 (.deferred (some [])), mkA [], pt b5 (Cs #[s3] 37), pt b6 (Cs #[Iv (-1)] 3), pt b10 (Cs #[s1] 37)]) hf hS rfl rfl rfl T_size_3 rfl rfl rfl (Nat.le_of_ble_eq_true rfl) rfl rfl ?_
    clear hS; intro w hS
    refine O.nil ?_
    refine k_seq ?_
    replace hf : Fr a 33 [] [(3, Pv b5 0), (4, Pv b6 0), (5, Iv x12), (6, .int .u32 x13)] := hf.to ⟨rfl, rfl, rfl, rfl, trivial⟩
    refine W.ret ?_
    refine k_then_ret ?_
    refine k_blk_ret ?_
    exact .inr ⟨rfl, -1, hm, hS⟩
   ·replace hm := hm_n hm hc16
    refine W.skip ?_
    refine k_seq ?_
    replace hf : Fr a 33 [] [(3, Pv b5 0), (4, Pv b6 0), (5, Iv x12), (6, .int .u32 x13)] := hf.to ⟨rfl, rfl, rfl, rfl, trivial⟩
    refine W.seq ?_
    refine W.regionL (l := [0, 1, 2, 3, 4, 5]) rfl ?_
    refine O.val hf rfl rfl rfl (RunV.move rfl) ?_; clear hf a; intro a hf
    refine O.val hf rfl rfl rfl (RunV.load1 T_agg_37 rfl (hS.ptAt (i := 3) rfl) rfl) ?_; clear hf a; intro a hf
    refine O.val hf rfl rfl rfl (RunV.move rfl) ?_; clear hf a; intro a hf
    refine O.val hf rfl rfl rfl (RunV.ixE T_elem_37 T_size_98 rfl rfl (hS.rdB (j := 1) rfl) hx15) ?_; clear hf a; intro a hf
    refine O.val hf rfl rfl rfl (RunV.ldE1 (o := 0) T_agg_98 E98_len rfl (hS.rdB (j := 1) rfl) hx15 rfl rfl) ?_; clear hf a; intro a hf
    refine O.val (v := Bv (decide (x13 > (x15 : Int)))) hf rfl rfl rfl (RunV.gtr rfl rfl) ?_; clear hf a; intro a hf
    refine O.nil ?_
    refine k_seq ?_
    replace hf : Fr a 33 [] [(4, Pv b6 0), (32, Bv (decide (x13 > (x15 : Int))))] := hf.to ⟨rfl, rfl, trivial⟩
    refine W.ifdI hf rfl (fun hc17 => ?_) (fun hc17 => ?_)
    ·replace hm := hm_p hm hc17
     refine W.seq ?_
     refine W.regionL (l := [0]) rfl ?_
     refine O.store (j := 4) (cs' := #[Iv 1]) (M' := [pt dl11 do11, pt dD11 (.deferred (some [])), mkA [], pt b5 (Cs #[s3] 37), pt b6 (Cs #[Iv 1] 3), pt b10 (Cs #[s1] 37)]) hf hS rfl rfl rfl T_size_3 rfl rfl rfl (Nat.le_of_ble_eq_true rfl) rfl rfl ?_
     clear hS; intro w hS
     refine O.nil ?_
     refine k_seq ?_
     replace hf : Fr a 33 [] [(4, Pv b6 0)] := hf.to ⟨rfl, trivial⟩
     refine W.ret ?_
     refine k_blk_ret ?_
     exact .inr ⟨rfl, 1, hm, hS⟩
    ·replace hm := hm_n hm hc17
     refine W.skip ?_
     refine k_blk_normal ?_
     exact .inl ⟨rfl, (), by rw [hrec11] at hm; exact hm, hS⟩
  ·clear hf hS hm a; clear w
   rintro dD11 _ a w hm hS hf
   replace hm : m_wide_compare_l1 F x4 ((downL x2).drop ((downL x2).map (fun p : Int × Int => (Iv p.1, Value.int .u32 p.2))).length) = some r := hm
   rw [List.length_map, List.drop_length] at hm
   replace hm : m_wide_compare_j1 F = some r := hm
   unfold m_wide_compare_j1 at hm
   replace hf : Fr a 33 (mkDs (dD11 :: [])) [(3, Pv b5 0), (4, Pv b6 0), (18, .func (.func 107) #[] #[Pv b10 0])] := hf
   replace hS : St w0 w noX [rdE 1 E98 s1 x2, rdE 1 E98 s3 x4] (pt dD11 (.deferred (some [])) :: [mkA [], pt b5 (Cs #[s3] 37), pt b6 (Cs #[Iv 0] 3), pt b10 (Cs #[s1] 37)]) := hS
   replace hS := hS.mkCons
   refine k_blk_normal ?_
   refine k_seq ?_
   replace hf : Fr a 33 (mkDs (dD11 :: [])) [(4, Pv b6 0)] := hf.to ⟨rfl, trivial⟩
   refine W.seq ?_
   refine W.regionL (l := [0]) rfl ?_
   refine O.store (j := 2) (cs' := #[Iv 0]) (M' := [mkA (dD11 :: []), pt b5 (Cs #[s3] 37), pt b6 (Cs #[Iv 0] 3), pt b10 (Cs #[s1] 37)]) hf hS rfl rfl rfl T_size_3 rfl rfl rfl (Nat.le_of_ble_eq_true rfl) rfl rfl ?_
   clear hS; intro w hS
   refine O.nil ?_
   refine k_seq ?_
   refine W.ret ?_
   refine postM (Ds := (dD11 :: [])) hS hf (fun w a hf hS => ?_)
   obtain rfl := Option.some.inj hm
   refine post1 hf rfl (ResOK.cell1 rfl T_agg_3 (hS.ptAt (i := 1) rfl) rfl) ?_
   replace hS := hS.sub (N := []) (.cons _ (.cons _ (.cons _ .slnil)))
   exact ⟨(), rfl, hS.noB⟩
  ·clear hf hS hm a; clear w
   rintro dD11 x14 a w hm hS hf
   replace hm : m_wide_compare_s1 F x14 = some r := hm
   unfold m_wide_compare_s1 at hm
   replace hf : Fr a 33 (mkDs (dD11 :: [])) [(3, Pv b5 0), (4, Pv b6 0), (18, .func (.func 107) #[] #[Pv b10 0])] := hf
   replace hS : St w0 w noX [rdE 1 E98 s1 x2, rdE 1 E98 s3 x4] (pt dD11 (.deferred (some [])) :: [mkA [], pt b5 (Cs #[s3] 37), pt b6 (Cs #[Iv x14] 3), pt b10 (Cs #[s1] 37)]) := hS
   replace hS := hS.mkCons
   refine k_blk_ret ?_
   refine k_then_ret ?_
   refine postM (Ds := (dD11 :: [])) hS hf (fun w a hf hS => ?_)
   obtain rfl := Option.some.inj hm
   refine post1 hf rfl (ResOK.cell1 rfl T_agg_3 (hS.ptAt (i := 1) rfl) rfl) ?_
   replace hS := hS.sub (N := []) (.cons _ (.cons _ (.cons _ .slnil)))
   exact ⟨(), rfl, hS.noB⟩

def m_math_bits_Add32 (F : Nat)  (x1 : Int) (x2 : Int) (x3 : Int) : Option (Int × Int) :=
  (some (IntKind.u64.wrap ((IntKind.u64.wrap ((IntKind.u64.wrap x1) + (IntKind.u64.wrap x2))) + (IntKind.u64.wrap x3)))).bind fun x4 => (some (IntKind.u32.wrap (Int.fdiv x4 (2 ^ 32)))).bind fun x5 => some (IntKind.u32.wrap x4, x5)
set_option maxHeartbeats 1000000 in
set_option maxRecDepth 8000 in
theorem m_math_bits_Add32_ok (F : Nat)    (x1 : Int) (x2 : Int) (x3 : Int) (w0 : World)  (r : Int × Int) (hm : m_math_bits_Add32 F x1 x2 x3 = some r) :
    Ret Try.prog 85 #[.int .u32 x1, .int .u32 x2, .int .u32 x3] w0 (G := Unit) (fun _ => .tuple #[.int .u32 r.1, .int .u32 r.2]) (fun _ w => St w0 w noX [] []) := by
 unfold m_math_bits_Add32 at hm
 refine ret_of_W (lv := [.int .u32 x1, .int .u32 x2, .int .u32 x3]) Try.func85 rfl rfl rfl (fun a hf => ?_)
 replace hf : Fr a 22 [] [(0, .int .u32 x1), (1, .int .u32 x2), (2, .int .u32 x3)] := hf
 have hS : St w0 w0 noX [] [] := St.borrow lendAll_nil
 refine W.seq ?_
 refine W.regionL (l := [0, 1]) rfl ?_
 refine O.val hf rfl rfl rfl (RunV.assign rfl) ?_; clear hf a; intro a hf
 refine O.val hf rfl rfl rfl (RunV.assign rfl) ?_; clear hf a; intro a hf
 refine O.nil ?_
 refine k_seq ?_
 refine W.seq ?_
 refine W.regionL (l := [0, 1, 2, 3, 4, 5, 6, 7, 8]) rfl ?_
 refine O.val hf rfl rfl rfl (RunV.move rfl) ?_; clear hf a; intro a hf
 refine O.val (v := Uv (IntKind.u64.wrap x1)) hf rfl rfl rfl (RunV.conv T_und_98 T_int_108 rfl) ?_; clear hf a; intro a hf
 refine O.val hf rfl rfl rfl (RunV.move rfl) ?_; clear hf a; intro a hf
 refine O.val (v := Uv (IntKind.u64.wrap x2)) hf rfl rfl rfl (RunV.conv T_und_98 T_int_108 rfl) ?_; clear hf a; intro a hf
 refine O.val (v := Uv (IntKind.u64.wrap ((IntKind.u64.wrap x1) + (IntKind.u64.wrap x2)))) hf rfl rfl rfl (RunV.add rfl rfl) ?_; clear hf a; intro a hf
 refine O.val hf rfl rfl rfl (RunV.move rfl) ?_; clear hf a; intro a hf
 refine O.val (v := Uv (IntKind.u64.wrap x3)) hf rfl rfl rfl (RunV.conv T_und_98 T_int_108 rfl) ?_; clear hf a; intro a hf
 refine O.val (v := Uv (IntKind.u64.wrap ((IntKind.u64.wrap ((IntKind.u64.wrap x1) + (IntKind.u64.wrap x2))) + (IntKind.u64.wrap x3)))) hf rfl rfl rfl (RunV.add rfl rfl) ?_; clear hf a; intro a hf
 refine O.val hf rfl rfl rfl (RunV.assign rfl) ?_; clear hf a; intro a hf
 refine O.nil ?_
 refine k_seq ?_
 replace hf : Fr a 22 [] [(6, .int .u32 0), (7, .int .u32 0), (8, Uv (IntKind.u64.wrap ((IntKind.u64.wrap ((IntKind.u64.wrap x1) + (IntKind.u64.wrap x2))) + (IntKind.u64.wrap x3))))] := hf.to ⟨rfl, rfl, rfl, trivial⟩
 obtain ⟨x4, hx4, hm⟩ := hm_b hm
 rw [Option.some.inj hx4] at hf
 refine W.seq ?_
 refine W.regionL (l := [0, 1, 2]) rfl ?_
 refine O.val hf rfl rfl rfl (RunV.move rfl) ?_; clear hf a; intro a hf
 refine O.val (v := .int .u32 (IntKind.u32.wrap x4)) hf rfl rfl rfl (RunV.conv T_und_108 T_int_98 rfl) ?_; clear hf a; intro a hf
 refine O.val hf rfl rfl rfl (RunV.assign rfl) ?_; clear hf a; intro a hf
 refine O.nil ?_
 refine k_seq ?_
 replace hf : Fr a 22 [] [(6, .int .u32 (IntKind.u32.wrap x4)), (7, .int .u32 0), (8, Uv x4)] := hf.to ⟨rfl, rfl, rfl, trivial⟩
 refine W.seq ?_
 refine W.regionL (l := [0, 1, 2, 3]) rfl ?_
 refine O.val hf rfl rfl rfl (RunV.move rfl) ?_; clear hf a; intro a hf
 refine O.val (v := Uv (Int.fdiv x4 (2 ^ 32))) hf rfl rfl rfl (RunV.shr (q := 32) rfl rfl (by decide)) ?_; clear hf a; intro a hf
 refine O.val (v := .int .u32 (IntKind.u32.wrap (Int.fdiv x4 (2 ^ 32)))) hf rfl rfl rfl (RunV.conv T_und_108 T_int_98 rfl) ?_; clear hf a; intro a hf
 refine O.val hf rfl rfl rfl (RunV.assign rfl) ?_; clear hf a; intro a hf
 refine O.nil ?_
 refine k_seq ?_
 replace hf : Fr a 22 [] [(6, .int .u32 (IntKind.u32.wrap x4)), (7, .int .u32 (IntKind.u32.wrap (Int.fdiv x4 (2 ^ 32))))] := hf.to ⟨rfl, rfl, trivial⟩
 obtain ⟨x5, hx5, hm⟩ := hm_b hm
 rw [Option.some.inj hx5] at hf
 refine W.ret ?_
 obtain rfl := Option.some.inj hm
 refine post2 hf rfl (ResOK.tmp rfl) (ResOK.tmp rfl) ?_
 exact ⟨(), rfl, hS.noB⟩

def m_wide_plus_j1 (F : Nat) (x6 : List Int) (x11 : List Int) (x12 : Int) : Option (List Int) :=
  (idx x11 (x6.length : Int)).bind fun x13 => some (x11.set (Int.toNat (x6.length : Int)) x12)
def m_wide_plus_j3 (F : Nat) (x19 : Int) (x15 : Int) (x14 : List Int) (x16 : Int) (rec17 : (List Int) → Int → Int → Option (List Int)) (x20 : Int) : Option (List Int) :=
  (m_math_bits_Add32 F x19 x20 x15).bind fun x21 => (idx x14 x16).bind fun x22 => rec17 (x14.set (Int.toNat x16) x21.1) x21.2 (IntKind.i64.wrap (x16 + 1))
def m_wide_plus_b2 (F : Nat) (x6 : List Int) (x8 : List Int) (rec17 : (List Int) → Int → Int → Option (List Int)) (x14 : List Int) (x15 : Int) (x16 : Int) : Option (List Int) :=
  if x16 < ((x6.length : Int) : Int) then ((idx x6 x16).bind fun x19 => if x16 < ((x8.length : Int) : Int) then ((idx x8 x16).bind fun x24 => m_wide_plus_j3 F x19 x15 x14 x16 rec17 x24) else (m_wide_plus_j3 F x19 x15 x14 x16 rec17 0)) else (m_wide_plus_j1 F x6 x14 x15)
def m_wide_plus_l2 (F : Nat) (x6 : List Int) (x8 : List Int) : Nat → (List Int) → Int → Int → Option (List Int)
  | 0, _, _, _ => none
  | n + 1, x14, x15, x16 => m_wide_plus_b2 F x6 x8 (m_wide_plus_l2 F x6 x8 n) x14 x15 x16
def m_wide_plus_j4 (F : Nat) (x6 : List Int) (x8 : List Int) : Option (List Int) :=
  if 0 ≤ (IntKind.i64.wrap ((x6.length : Int) + 1)) ∧ (IntKind.i64.wrap ((x6.length : Int) + 1)) ≤ 4294967296 then m_wide_plus_l2 F x6 x8 F (List.replicate (Int.toNat (IntKind.i64.wrap ((x6.length : Int) + 1))) (0 : Int)) 0 0 else none
def m_wide_plus (F : Nat)  (x2 : List Int) (x4 : List Int) : Option (List Int) :=
  if (x2.length : Int) < ((x4.length : Int) : Int) then (m_wide_plus_j4 F x4 x2) else (m_wide_plus_j4 F x2 x4)
set_option maxHeartbeats 1000000 in
set_option maxRecDepth 8000 in
theorem m_wide_plus_ok (F : Nat)    (s1 : Value) (x2 : List Int) (s3 : Value) (x4 : List Int) (w0 : World) (h_s1 : rdEOK (hp w0) 1 E98 s1 x2) (h_s3 : rdEOK (hp w0) 1 E98 s3 x4) (r : List Int) (hm : m_wide_plus F x2 x4 = some r) :
    Ret Try.prog 58 #[s1, s3] w0 (G := Value) (fun g1 => g1) (fun g1 w => St w0 w noX [] [slE 98 1 E98 g1 r]) := by
 unfold m_wide_plus at hm
 refine ret_of_W (lv := [s1, s3]) Try.func58 rfl rfl rfl (fun a hf => ?_)
 replace hf : Fr a 53 [] [(0, s1), (1, s3)] := hf
 have hS : St w0 w0 noX [rdE 1 E98 s1 x2, rdE 1 E98 s3 x4] [] := St.borrow (lendAll_cons (lendRd h_s1) (lendAll_cons (lendRd h_s3) lendAll_nil))
 refine W.seq ?_
 refine W.regionL (l := [0]) rfl ?_
 refine O.val hf rfl rfl rfl (RunV.assign rfl) ?_; clear hf a; intro a hf
 refine O.nil ?_
 refine k_seq ?_
 refine W.seqR (fun a w => ∃ (s5 : Value) (x6 : List Int) (s7 : Value) (x8 : List Int), Fr a 53 [] [(0, s5), (1, s7), (4, .slice none 0 0)] ∧ St w0 w noX [rdE 1 E98 s1 x2, rdE 1 E98 s3 x4, rdE 1 E98 s5 x6, rdE 1 E98 s7 x8] [] ∧ m_wide_plus_j4 F x6 x8 = some r) ?_ ?_
 ·refine W.seq ?_
  refine W.regionL (l := [0, 1, 2, 3, 4]) rfl ?_
  refine O.val hf rfl rfl rfl (RunV.move rfl) ?_; clear hf a; intro a hf
  refine O.val (v := Iv (x2.length : Int)) hf rfl rfl rfl (RunV.lenE (e := 98) (by simpa using T_elem_37) rfl (hS.rdB (j := 0) rfl)) ?_; clear hf a; intro a hf
  refine O.val hf rfl rfl rfl (RunV.move rfl) ?_; clear hf a; intro a hf
  refine O.val (v := Iv (x4.length : Int)) hf rfl rfl rfl (RunV.lenE (e := 98) (by simpa using T_elem_37) rfl (hS.rdB (j := 1) rfl)) ?_; clear hf a; intro a hf
  refine O.val (v := Bv (decide ((x2.length : Int) < ((x4.length : Int) : Int)))) hf rfl rfl rfl (RunV.lss rfl rfl) ?_; clear hf a; intro a hf
  refine O.nil ?_
  refine k_seq ?_
  replace hf : Fr a 53 [] [(0, s1), (1, s3), (4, .slice none 0 0), (14, Bv (decide ((x2.length : Int) < ((x4.length : Int) : Int))))] := hf.to ⟨rfl, rfl, rfl, rfl, trivial⟩
  refine W.ifdI hf rfl (fun hc25 => ?_) (fun hc25 => ?_)
  ·replace hm := hm_p hm hc25
   refine W.regionL (l := [0, 1, 2, 3]) rfl ?_
   refine O.val hf rfl rfl rfl (RunV.move rfl) ?_; clear hf a; intro a hf
   refine O.val hf rfl rfl rfl (RunV.move rfl) ?_; clear hf a; intro a hf
   refine O.val hf rfl rfl rfl (RunV.assign rfl) ?_; clear hf a; intro a hf
   refine O.val hf rfl rfl rfl (RunV.assign rfl) ?_; clear hf a; intro a hf
   refine O.nil ?_
   replace hS := hS.selB (B' := [rdE 1 E98 s1 x2, rdE 1 E98 s3 x4, rdE 1 E98 s3 x4, rdE 1 E98 s1 x2]) [0, 1, 1, 0] rfl
   exact k_then ⟨s3, x4, s1, x2, hf.to ⟨rfl, rfl, rfl, trivial⟩, hS, hm⟩
  ·replace hm := hm_n hm hc25
   refine W.skip ?_
   replace hS := hS.selB (B' := [rdE 1 E98 s1 x2, rdE 1 E98 s3 x4, rdE 1 E98 s1 x2, rdE 1 E98 s3 x4]) [0, 1, 0, 1] rfl
   exact k_then ⟨s1, x2, s3, x4, hf.to ⟨rfl, rfl, rfl, trivial⟩, hS, hm⟩
 ·clear hf hS hm a; try clear w
  rintro a w ⟨s5, x6, s7, x8, hf, hS, hm⟩
  unfold m_wide_plus_j4 at hm
  refine W.seq ?_
  refine W.regionL (l := [0, 1, 2, 3, 4]) rfl ?_
  refine O.val hf rfl rfl rfl (RunV.move rfl) ?_; clear hf a; intro a hf
  refine O.val (v := Iv (x6.length : Int)) hf rfl rfl rfl (RunV.lenE (e := 98) (by simpa using T_elem_37) rfl (hS.rdB (j := 2) rfl)) ?_; clear hf a; intro a hf
  refine O.val (v := Iv (IntKind.i64.wrap ((x6.length : Int) + 1))) hf rfl rfl rfl (RunV.add rfl rfl) ?_; clear hf a; intro a hf
  obtain ⟨hg9, hm⟩ := hm_g hm
  refine O.makeE (enc := E98) (x0 := (0 : Int)) hf hS rfl rfl T_elem_37 T_size_98 T_bytes_98 T_zero_98 rfl rfl rfl hg9 rfl E98_len rfl ?_
  clear hf hS a; intro s10 w a hS hf
  refine O.val hf rfl rfl rfl (RunV.assign rfl) ?_; clear hf a; intro a hf
  refine O.nil ?_
  refine k_seq ?_
  replace hf : Fr a 53 [] [(0, s5), (1, s7), (4, .slice none 0 0), (5, s10)] := hf.to ⟨rfl, rfl, rfl, rfl, trivial⟩
  refine W.seq ?_
  refine W.regionL (l := [0]) rfl ?_
  refine O.val hf rfl rfl rfl (RunV.assign rfl) ?_; clear hf a; intro a hf
  refine O.nil ?_
  refine k_seq ?_
  refine W.seqR (fun a w => ∃ (x11 : List Int) (x12 : Int), Fr a 53 [] [(0, s5), (4, .slice none 0 0), (5, s10), (6, .int .u32 x12)] ∧ St w0 w noX [rdE 1 E98 s1 x2, rdE 1 E98 s3 x4, rdE 1 E98 s5 x6, rdE 1 E98 s7 x8] [slE 98 1 E98 s10 x11] ∧ m_wide_plus_j1 F x6 x11 x12 = some r) ?_ ?_
  ·refine W.seq ?_
   refine W.regionL (l := [0, 1, 2]) rfl ?_
   refine O.val hf rfl rfl rfl (RunV.move rfl) ?_; clear hf a; intro a hf
   refine O.val (v := Iv (x6.length : Int)) hf rfl rfl rfl (RunV.lenE (e := 98) (by simpa using T_elem_37) rfl (hS.rdB (j := 2) rfl)) ?_; clear hf a; intro a hf
   refine O.val hf rfl rfl rfl (RunV.move rfl) ?_; clear hf a; intro a hf
   refine O.nil ?_
   refine k_seq ?_
   refine W.block ?_
   refine W.loop (G := Nat × (List Int) × Int × Int) (fun g a w => match g with | (k17, x14, x15, x16) => Fr a 53 [] [(0, s5), (1, s7), (4, .slice none 0 0), (5, s10), (6, .int .u32 x15), (21, s5), (22, Iv (x6.length : Int)), (23, Iv x16)] ∧ St w0 w noX [rdE 1 E98 s1 x2, rdE 1 E98 s3 x4, rdE 1 E98 s5 x6, rdE 1 E98 s7 x8] [slE 98 1 E98 s10 x14] ∧ m_wide_plus_l2 F x6 x8 k17 x14 x15 x16 = some r) (fun g => match g with | (k17, x14, x15, x16) => k17) (F, List.replicate (Int.toNat (IntKind.i64.wrap ((x6.length : Int) + 1))) (0 : Int), 0, 0) ⟨hf.to ⟨rfl, rfl, rfl, rfl, rfl, rfl, rfl, rfl, trivial⟩, hS, hm⟩ ?_
   clear hf hS hm a; try clear w
   rintro ⟨k17, x14, x15, x16⟩ a w ⟨hf, hS, hm⟩
   rcases k17 with _ | k17
   · exact absurd (show none = some r from hm) (by simp)
   replace hm : m_wide_plus_b2 F x6 x8 (m_wide_plus_l2 F x6 x8 k17) x14 x15 x16 = some r := hm
   obtain ⟨rec17, hrec17⟩ : ∃ f, f = m_wide_plus_l2 F x6 x8 k17 := ⟨_, rfl⟩
   rw [← hrec17] at hm; unfold m_wide_plus_b2 at hm
   refine W.seq ?_
   refine W.regionL (l := [0]) rfl ?_
   refine O.val (v := Bv (decide (x16 < ((x6.length : Int) : Int)))) hf rfl rfl rfl (RunV.lss rfl rfl) ?_; clear hf a; intro a hf
   refine O.nil ?_
   refine k_seq ?_
   refine W.seq ?_
   refine W.ifdI hf rfl (fun hc18 => ?_) (fun hc18 => ?_)
   ·replace hm := hm_p hm hc18
    refine W.skip ?_
    refine k_seq ?_
    refine W.seq ?_
    refine W.block ?_
    refine W.seq ?_
    refine W.regionL (l := [0, 1, 2, 3, 4]) rfl ?_
    refine O.val hf rfl rfl rfl (RunV.move rfl) ?_; clear hf a; intro a hf
    obtain ⟨x19, hx19, hm⟩ := hm_b hm
    refine O.val hf rfl rfl rfl (RunV.ixE T_elem_37 T_size_98 rfl rfl (hS.rdB (j := 2) rfl) hx19) ?_; clear hf a; intro a hf
    refine O.val hf rfl rfl rfl (RunV.ldE1 (o := 0) T_agg_98 E98_len rfl (hS.rdB (j := 2) rfl) hx19 rfl rfl) ?_; clear hf a; intro a hf
    refine O.val hf rfl rfl rfl (RunV.assign rfl) ?_; clear hf a; intro a hf
    refine O.val hf rfl rfl rfl (RunV.assign rfl) ?_; clear hf a; intro a hf
    refine O.nil ?_
    refine k_seq ?_
    refine W.seq ?_
    refine W.regionL (l := [0]) rfl ?_
    refine O.val hf rfl rfl rfl (RunV.assign rfl) ?_; clear hf a; intro a hf
    refine O.nil ?_
    refine k_seq ?_
    refine W.seqR (fun a w => ∃ (x20 : Int), Fr a 53 [] [(0, s5), (1, s7), (4, .slice none 0 0), (5, s10), (6, .int .u32 x15), (7, Iv x16), (8, .int .u32 x19), (9, .int .u32 x20), (21, s5), (22, Iv (x6.length : Int)), (23, Iv x16), (24, Bv (decide (x16 < ((x6.length : Int) : Int)))), (25, Iv x16), (26, ix s5 (Int.toNat x16 * 1)), (27, .int .u32 x19), (28, Iv x16), (29, s7), (30, Iv (x8.length : Int)), (31, Bv (decide (x16 < ((x8.length : Int) : Int))))] ∧ St w0 w noX [rdE 1 E98 s1 x2, rdE 1 E98 s3 x4, rdE 1 E98 s5 x6, rdE 1 E98 s7 x8] [slE 98 1 E98 s10 x14] ∧ m_wide_plus_j3 F x19 x15 x14 x16 rec17 x20 = some r) ?_ ?_
    ·refine W.seq ?_
     refine W.regionL (l := [0, 1, 2, 3]) rfl ?_
     refine O.val hf rfl rfl rfl (RunV.move rfl) ?_; clear hf a; intro a hf
     refine O.val hf rfl rfl rfl (RunV.move rfl) ?_; clear hf a; intro a hf
     refine O.val (v := Iv (x8.length : Int)) hf rfl rfl rfl (RunV.lenE (e := 98) (by simpa using T_elem_37) rfl (hS.rdB (j := 3) rfl)) ?_; clear hf a; intro a hf
     refine O.val (v := Bv (decide (x16 < ((x8.length : Int) : Int)))) hf rfl rfl rfl (RunV.lss rfl rfl) ?_; clear hf a; intro a hf
     refine O.nil ?_
     refine k_seq ?_
     refine W.ifdI hf rfl (fun hc23 => ?_) (fun hc23 => ?_)
     ·replace hm := hm_p hm hc23
      refine W.regionL (l := [0, 1, 2, 3, 4]) rfl ?_
      refine O.val hf rfl rfl rfl (RunV.move rfl) ?_; clear hf a; intro a hf
      refine O.val hf rfl rfl rfl (RunV.move rfl) ?_; clear hf a; intro a hf
      obtain ⟨x24, hx24, hm⟩ := hm_b hm
      refine O.val hf rfl rfl rfl (RunV.ixE T_elem_37 T_size_98 rfl rfl (hS.rdB (j := 3) rfl) hx24) ?_; clear hf a; intro a hf
      refine O.val hf rfl rfl rfl (RunV.ldE1 (o := 0) T_agg_98 E98_len rfl (hS.rdB (j := 3) rfl) hx24 rfl rfl) ?_; clear hf a; intro a hf
      refine O.val hf rfl rfl rfl (RunV.assign rfl) ?_; clear hf a; intro a hf
      refine O.nil ?_
      exact k_then ⟨x24, hf.to ⟨rfl, rfl, rfl, rfl, rfl, rfl, rfl, rfl, rfl, rfl, rfl, rfl, rfl, rfl, rfl, rfl, rfl, rfl, rfl, trivial⟩, hS, hm⟩
     ·replace hm := hm_n hm hc23
      refine W.skip ?_
      exact k_then ⟨0, hf.to ⟨rfl, rfl, rfl, rfl, rfl, rfl, rfl, rfl, rfl, rfl, rfl, rfl, rfl, rfl, rfl, rfl, rfl, rfl, rfl, trivial⟩, hS, hm⟩
    ·clear hf hS hm a; try clear w
     rintro a w ⟨x20, hf, hS, hm⟩
     unfold m_wide_plus_j3 at hm
     refine W.regionL (l := [0, 1, 2, 3, 4, 5, 6, 7, 8, 9, 10, 11]) rfl ?_
     refine O.val hf rfl rfl rfl (RunV.move rfl) ?_; clear hf a; intro a hf
     refine O.val hf rfl rfl rfl (RunV.move rfl) ?_; clear hf a; intro a hf
     refine O.val hf rfl rfl rfl (RunV.move rfl) ?_; clear hf a; intro a hf
     refine O.val hf rfl rfl rfl (RunV.move rfl) ?_; clear hf a; intro a hf
     refine O.val hf rfl rfl rfl (RunV.move rfl) ?_; clear hf a; intro a hf
     obtain ⟨x21, hx21, hm⟩ := hm_b hm
     refine O.callR hf rfl rfl rfl (RunE.call (av := #[.int .u32 x19, .int .u32 x20, .int .u32 x15]) C_ok_85 rfl rfl rfl) (m_math_bits_Add32_ok F x19 x20 x15 _ x21 hx21) ?_
     clear hf a; rintro _ w hS1 a hf
     replace hf : Fr a _ _ ((42, .tuple #[.int .u32 x21.1, .int .u32 x21.2]) :: _) := hf
     replace hS := (hS.call hS1).eqM (N := [slE 98 1 E98 s10 x14]) rfl
     clear hS1
     refine O.val hf rfl rfl rfl (RunV.move rfl) ?_; clear hf a; intro a hf
     refine O.val hf rfl rfl rfl (RunV.extract rfl rfl) ?_; clear hf a; intro a hf
     refine O.val hf rfl rfl rfl (RunV.extract rfl rfl) ?_; clear hf a; intro a hf
     obtain ⟨x22, hx22, hm⟩ := hm_b hm
     refine O.val hf rfl rfl rfl (RunV.ixE T_elem_37 T_size_98 rfl rfl (hS.rdS (j := 0) rfl) hx22) ?_; clear hf a; intro a hf
     refine O.storeE (j := 0) (o := 0) (y0 := x21.1) (l' := x14.set (Int.toNat x16) x21.1) (M' := [slE 98 1 E98 s10 (x14.set (Int.toNat x16) x21.1)]) hf hS rfl rfl rfl T_size_98 rfl rfl rfl E98_len hx22 rfl rfl rfl rfl ?_
     clear hS; intro w hS
     refine O.val hf rfl rfl rfl (RunV.assign rfl) ?_; clear hf a; intro a hf
     refine O.nil ?_
     refine k_blk_normal ?_
     refine k_seq ?_
     refine W.regionL (l := [0, 1]) rfl ?_
     refine O.val (v := Iv (IntKind.i64.wrap (x16 + 1))) hf rfl rfl rfl (RunV.add rfl rfl) ?_; clear hf a; intro a hf
     refine O.val hf rfl rfl rfl (RunV.move rfl) ?_; clear hf a; intro a hf
     refine O.nil ?_
     refine k_then ⟨(k17, x14.set (Int.toNat x16) x21.1, x21.2, IntKind.i64.wrap (x16 + 1)), ⟨hf.to ⟨rfl, rfl, rfl, rfl, rfl, rfl, rfl, rfl, trivial⟩, hS, ?_⟩, Nat.lt_succ_self _⟩
     rw [hrec17] at hm; exact hm
   ·replace hm := hm_n hm hc18
    refine W.exit ?_
    refine k_then_exit ?_
    refine k_then_exit ?_
    refine k_blk ?_
    exact k_then ⟨x14, x15, hf.to ⟨rfl, rfl, rfl, rfl, trivial⟩, hS, hm⟩
  ·clear hf hS hm a; try clear w
   rintro a w ⟨x11, x12, hf, hS, hm⟩
   unfold m_wide_plus_j1 at hm
   refine W.seq ?_
   refine W.regionL (l := [0, 1, 2, 3, 4, 5]) rfl ?_
   refine O.val hf rfl rfl rfl (RunV.move rfl) ?_; clear hf a; intro a hf
   refine O.val hf rfl rfl rfl (RunV.move rfl) ?_; clear hf a; intro a hf
   refine O.val (v := Iv (x6.length : Int)) hf rfl rfl rfl (RunV.lenE (e := 98) (by simpa using T_elem_37) rfl (hS.rdB (j := 2) rfl)) ?_; clear hf a; intro a hf
   refine O.val hf rfl rfl rfl (RunV.move rfl) ?_; clear hf a; intro a hf
   obtain ⟨x13, hx13, hm⟩ := hm_b hm
   refine O.val hf rfl rfl rfl (RunV.ixE T_elem_37 T_size_98 rfl rfl (hS.rdS (j := 0) rfl) hx13) ?_; clear hf a; intro a hf
   refine O.storeE (j := 0) (o := 0) (y0 := x12) (l' := x11.set (Int.toNat (x6.length : Int)) x12) (M' := [slE 98 1 E98 s10 (x11.set (Int.toNat (x6.length : Int)) x12)]) hf hS rfl rfl rfl T_size_98 rfl rfl rfl E98_len hx13 rfl rfl rfl rfl ?_
   clear hS; intro w hS
   refine O.nil ?_
   refine k_seq ?_
   replace hf : Fr a 53 [] [(4, .slice none 0 0), (5, s10)] := hf.to ⟨rfl, rfl, trivial⟩
   refine W.seq ?_
   refine W.regionL (l := [0, 1]) rfl ?_
   refine O.val hf rfl rfl rfl (RunV.move rfl) ?_; clear hf a; intro a hf
   refine O.val hf rfl rfl rfl (RunV.assign rfl) ?_; clear hf a; intro a hf
   refine O.nil ?_
   refine k_seq ?_
   replace hf : Fr a 53 [] [(4, s10)] := hf.to ⟨rfl, trivial⟩
   refine W.ret ?_
   obtain rfl := Option.some.inj hm
   refine post1 hf rfl (ResOK.tmp rfl) ?_
   replace hS := hS.selB (B' := [rdE 1 E98 s1 x2, rdE 1 E98 s3 x4]) [0, 1] rfl
   exact ⟨s10, rfl, hS.noB⟩

def m_math_bits_Sub32 (F : Nat)  (x1 : Int) (x2 : Int) (x3 : Int) : Option (Int × Int) :=
  (some (IntKind.u32.wrap ((IntKind.u32.wrap (x1 - x2)) - x3))).bind fun x4 => (some (Int.fdiv (bitor .u32 (bitand .u32 (bitxor .u32 (4294967295) x1) x2) (bitand .u32 (bitxor .u32 (4294967295) (bitxor .u32 x1 x2)) x4)) (2 ^ 31))).bind fun x5 => some (x4, x5)
set_option maxHeartbeats 1000000 in
set_option maxRecDepth 8000 in
theorem m_math_bits_Sub32_ok (F : Nat)    (x1 : Int) (x2 : Int) (x3 : Int) (w0 : World)  (r : Int × Int) (hm : m_math_bits_Sub32 F x1 x2 x3 = some r) :
    Ret Try.prog 86 #[.int .u32 x1, .int .u32 x2, .int .u32 x3] w0 (G := Unit) (fun _ => .tuple #[.int .u32 r.1, .int .u32 r.2]) (fun _ w => St w0 w noX [] []) := by
 unfold m_math_bits_Sub32 at hm
 refine ret_of_W (lv := [.int .u32 x1, .int .u32 x2, .int .u32 x3]) Try.func86 rfl rfl rfl (fun a hf => ?_)
 replace hf : Fr a 25 [] [(0, .int .u32 x1), (1, .int .u32 x2), (2, .int .u32 x3)] := hf
 have hS : St w0 w0 noX [] [] := St.borrow lendAll_nil
 refine W.seq ?_
 refine W.regionL (l := [0, 1]) rfl ?_
 refine O.val hf rfl rfl rfl (RunV.assign rfl) ?_; clear hf a; intro a hf
 refine O.val hf rfl rfl rfl (RunV.assign rfl) ?_; clear hf a; intro a hf
 refine O.nil ?_
 refine k_seq ?_
 refine W.seq ?_
 refine W.regionL (l := [0, 1, 2, 3, 4, 5]) rfl ?_
 refine O.val hf rfl rfl rfl (RunV.move rfl) ?_; clear hf a; intro a hf
 refine O.val hf rfl rfl rfl (RunV.move rfl) ?_; clear hf a; intro a hf
 refine O.val (v := .int .u32 (IntKind.u32.wrap (x1 - x2))) hf rfl rfl rfl (RunV.sub rfl rfl) ?_; clear hf a; intro a hf
 refine O.val hf rfl rfl rfl (RunV.move rfl) ?_; clear hf a; intro a hf
 refine O.val (v := .int .u32 (IntKind.u32.wrap ((IntKind.u32.wrap (x1 - x2)) - x3))) hf rfl rfl rfl (RunV.sub rfl rfl) ?_; clear hf a; intro a hf
 refine O.val hf rfl rfl rfl (RunV.assign rfl) ?_; clear hf a; intro a hf
 refine O.nil ?_
 refine k_seq ?_
 replace hf : Fr a 25 [] [(0, .int .u32 x1), (1, .int .u32 x2), (6, .int .u32 (IntKind.u32.wrap ((IntKind.u32.wrap (x1 - x2)) - x3))), (7, .int .u32 0)] := hf.to ⟨rfl, rfl, rfl, rfl, trivial⟩
 obtain ⟨x4, hx4, hm⟩ := hm_b hm
 rw [Option.some.inj hx4] at hf
 refine W.seq ?_
 refine W.regionL (l := [0, 1, 2, 3, 4, 5, 6, 7, 8, 9, 10, 11, 12]) rfl ?_
 refine O.val hf rfl rfl rfl (RunV.move rfl) ?_; clear hf a; intro a hf
 refine O.val (v := .int .u32 (bitxor .u32 (4294967295) x1)) hf rfl rfl rfl (RunV.com (c := 4294967295) rfl rfl) ?_; clear hf a; intro a hf
 refine O.val hf rfl rfl rfl (RunV.move rfl) ?_; clear hf a; intro a hf
 refine O.val (v := .int .u32 (bitand .u32 (bitxor .u32 (4294967295) x1) x2)) hf rfl rfl rfl (RunV.bitand rfl rfl) ?_; clear hf a; intro a hf
 refine O.val hf rfl rfl rfl (RunV.move rfl) ?_; clear hf a; intro a hf
 refine O.val hf rfl rfl rfl (RunV.move rfl) ?_; clear hf a; intro a hf
 refine O.val (v := .int .u32 (bitxor .u32 x1 x2)) hf rfl rfl rfl (RunV.bitxor rfl rfl) ?_; clear hf a; intro a hf
 refine O.val (v := .int .u32 (bitxor .u32 (4294967295) (bitxor .u32 x1 x2))) hf rfl rfl rfl (RunV.com (c := 4294967295) rfl rfl) ?_; clear hf a; intro a hf
 refine O.val hf rfl rfl rfl (RunV.move rfl) ?_; clear hf a; intro a hf
 refine O.val (v := .int .u32 (bitand .u32 (bitxor .u32 (4294967295) (bitxor .u32 x1 x2)) x4)) hf rfl rfl rfl (RunV.bitand rfl rfl) ?_; clear hf a; intro a hf
 refine O.val (v := .int .u32 (bitor .u32 (bitand .u32 (bitxor .u32 (4294967295) x1) x2) (bitand .u32 (bitxor .u32 (4294967295) (bitxor .u32 x1 x2)) x4))) hf rfl rfl rfl (RunV.bitor rfl rfl) ?_; clear hf a; intro a hf
 refine O.val (v := .int .u32 (Int.fdiv (bitor .u32 (bitand .u32 (bitxor .u32 (4294967295) x1) x2) (bitand .u32 (bitxor .u32 (4294967295) (bitxor .u32 x1 x2)) x4)) (2 ^ 31))) hf rfl rfl rfl (RunV.shr (q := 31) rfl rfl (by decide)) ?_; clear hf a; intro a hf
 refine O.val hf rfl rfl rfl (RunV.assign rfl) ?_; clear hf a; intro a hf
 refine O.nil ?_
 refine k_seq ?_
 replace hf : Fr a 25 [] [(6, .int .u32 x4), (7, .int .u32 (Int.fdiv (bitor .u32 (bitand .u32 (bitxor .u32 (4294967295) x1) x2) (bitand .u32 (bitxor .u32 (4294967295) (bitxor .u32 x1 x2)) x4)) (2 ^ 31)))] := hf.to ⟨rfl, rfl, trivial⟩
 obtain ⟨x5, hx5, hm⟩ := hm_b hm
 rw [Option.some.inj hx5] at hf
 refine W.ret ?_
 obtain rfl := Option.some.inj hm
 refine post2 hf rfl (ResOK.tmp rfl) (ResOK.tmp rfl) ?_
 exact ⟨(), rfl, hS.noB⟩

def m_wide_minus_j1 (F : Nat) (x7 : List Int) : Option (List Int) :=
  some x7
def m_wide_minus_j3 (F : Nat) (x13 : Int) (x9 : Int) (x8 : List Int) (x10 : Int) (rec11 : (List Int) → Int → Int → Option (List Int)) (x14 : Int) : Option (List Int) :=
  (m_math_bits_Sub32 F x13 x14 x9).bind fun x15 => (idx x8 x10).bind fun x16 => rec11 (x8.set (Int.toNat x10) x15.1) x15.2 (IntKind.i64.wrap (x10 + 1))
def m_wide_minus_b2 (F : Nat) (x2 : List Int) (x4 : List Int) (rec11 : (List Int) → Int → Int → Option (List Int)) (x8 : List Int) (x9 : Int) (x10 : Int) : Option (List Int) :=
  if x10 < ((x2.length : Int) : Int) then ((idx x2 x10).bind fun x13 => if x10 < ((x4.length : Int) : Int) then ((idx x4 x10).bind fun x18 => m_wide_minus_j3 F x13 x9 x8 x10 rec11 x18) else (m_wide_minus_j3 F x13 x9 x8 x10 rec11 0)) else (m_wide_minus_j1 F x8)
def m_wide_minus_l2 (F : Nat) (x2 : List Int) (x4 : List Int) : Nat → (List Int) → Int → Int → Option (List Int)
  | 0, _, _, _ => none
  | n + 1, x8, x9, x10 => m_wide_minus_b2 F x2 x4 (m_wide_minus_l2 F x2 x4 n) x8 x9 x10
def m_wide_minus (F : Nat)  (x2 : List Int) (x4 : List Int) : Option (List Int) :=
  if 0 ≤ (x2.length : Int) ∧ (x2.length : Int) ≤ 4294967296 then m_wide_minus_l2 F x2 x4 F (List.replicate (Int.toNat (x2.length : Int)) (0 : Int)) 0 0 else none
set_option maxHeartbeats 1000000 in
set_option maxRecDepth 8000 in
theorem m_wide_minus_ok (F : Nat)    (s1 : Value) (x2 : List Int) (s3 : Value) (x4 : List Int) (w0 : World) (h_s1 : rdEOK (hp w0) 1 E98 s1 x2) (h_s3 : rdEOK (hp w0) 1 E98 s3 x4) (r : List Int) (hm : m_wide_minus F x2 x4 = some r) :
    Ret Try.prog 63 #[s1, s3] w0 (G := Value) (fun g1 => g1) (fun g1 w => St w0 w noX [] [slE 98 1 E98 g1 r]) := by
 unfold m_wide_minus at hm
 refine ret_of_W (lv := [s1, s3]) Try.func63 rfl rfl rfl (fun a hf => ?_)
 replace hf : Fr a 40 [] [(0, s1), (1, s3)] := hf
 have hS : St w0 w0 noX [rdE 1 E98 s1 x2, rdE 1 E98 s3 x4] [] := St.borrow (lendAll_cons (lendRd h_s1) (lendAll_cons (lendRd h_s3) lendAll_nil))
 refine W.seq ?_
 refine W.regionL (l := [0]) rfl ?_
 refine O.val hf rfl rfl rfl (RunV.assign rfl) ?_; clear hf a; intro a hf
 refine O.nil ?_
 refine k_seq ?_
 refine W.seq ?_
 refine W.regionL (l := [0, 1, 2, 3]) rfl ?_
 refine O.val hf rfl rfl rfl (RunV.move rfl) ?_; clear hf a; intro a hf
 refine O.val (v := Iv (x2.length : Int)) hf rfl rfl rfl (RunV.lenE (e := 98) (by simpa using T_elem_37) rfl (hS.rdB (j := 0) rfl)) ?_; clear hf a; intro a hf
 obtain ⟨hg5, hm⟩ := hm_g hm
 refine O.makeE (enc := E98) (x0 := (0 : Int)) hf hS rfl rfl T_elem_37 T_size_98 T_bytes_98 T_zero_98 rfl rfl rfl hg5 rfl E98_len rfl ?_
 clear hf hS a; intro s6 w a hS hf
 refine O.val hf rfl rfl rfl (RunV.assign rfl) ?_; clear hf a; intro a hf
 refine O.nil ?_
 refine k_seq ?_
 replace hf : Fr a 40 [] [(0, s1), (1, s3), (4, .slice none 0 0), (5, s6)] := hf.to ⟨rfl, rfl, rfl, rfl, trivial⟩
 refine W.seq ?_
 refine W.regionL (l := [0]) rfl ?_
 refine O.val hf rfl rfl rfl (RunV.assign rfl) ?_; clear hf a; intro a hf
 refine O.nil ?_
 refine k_seq ?_
 refine W.seqR (fun a w => ∃ (x7 : List Int), Fr a 40 [] [(4, .slice none 0 0), (5, s6)] ∧ St w0 w noX [rdE 1 E98 s1 x2, rdE 1 E98 s3 x4] [slE 98 1 E98 s6 x7] ∧ m_wide_minus_j1 F x7 = some r) ?_ ?_
 ·refine W.seq ?_
  refine W.regionL (l := [0, 1, 2]) rfl ?_
  refine O.val hf rfl rfl rfl (RunV.move rfl) ?_; clear hf a; intro a hf
  refine O.val (v := Iv (x2.length : Int)) hf rfl rfl rfl (RunV.lenE (e := 98) (by simpa using T_elem_37) rfl (hS.rdB (j := 0) rfl)) ?_; clear hf a; intro a hf
  refine O.val hf rfl rfl rfl (RunV.move rfl) ?_; clear hf a; intro a hf
  refine O.nil ?_
  refine k_seq ?_
  replace hf : Fr a 40 [] [(1, s3), (4, .slice none 0 0), (5, s6), (6, .int .u32 0), (13, s1), (14, Iv (x2.length : Int)), (15, Iv 0)] := hf.to ⟨rfl, rfl, rfl, rfl, rfl, rfl, rfl, trivial⟩
  refine W.block ?_
  refine W.loop (G := Nat × (List Int) × Int × Int) (fun g a w => match g with | (k11, x8, x9, x10) => Fr a 40 [] [(1, s3), (4, .slice none 0 0), (5, s6), (6, .int .u32 x9), (13, s1), (14, Iv (x2.length : Int)), (15, Iv x10)] ∧ St w0 w noX [rdE 1 E98 s1 x2, rdE 1 E98 s3 x4] [slE 98 1 E98 s6 x8] ∧ m_wide_minus_l2 F x2 x4 k11 x8 x9 x10 = some r) (fun g => match g with | (k11, x8, x9, x10) => k11) (F, List.replicate (Int.toNat (x2.length : Int)) (0 : Int), 0, 0) ⟨hf.to ⟨rfl, rfl, rfl, rfl, rfl, rfl, rfl, trivial⟩, hS, hm⟩ ?_
  clear hf hS hm a; try clear w
  rintro ⟨k11, x8, x9, x10⟩ a w ⟨hf, hS, hm⟩
  rcases k11 with _ | k11
  · exact absurd (show none = some r from hm) (by simp)
  replace hm : m_wide_minus_b2 F x2 x4 (m_wide_minus_l2 F x2 x4 k11) x8 x9 x10 = some r := hm
  obtain ⟨rec11, hrec11⟩ : ∃ f, f = m_wide_minus_l2 F x2 x4 k11 := ⟨_, rfl⟩
  rw [← hrec11] at hm; unfold m_wide_minus_b2 at hm
  refine W.seq ?_
  refine W.regionL (l := [0]) rfl ?_
  refine O.val (v := Bv (decide (x10 < ((x2.length : Int) : Int)))) hf rfl rfl rfl (RunV.lss rfl rfl) ?_; clear hf a; intro a hf
  refine O.nil ?_
  refine k_seq ?_
  refine W.seq ?_
  refine W.ifdI hf rfl (fun hc12 => ?_) (fun hc12 => ?_)
  ·replace hm := hm_p hm hc12
   refine W.skip ?_
   refine k_seq ?_
   refine W.seq ?_
   refine W.block ?_
   refine W.seq ?_
   refine W.regionL (l := [0, 1, 2, 3, 4]) rfl ?_
   refine O.val hf rfl rfl rfl (RunV.move rfl) ?_; clear hf a; intro a hf
   obtain ⟨x13, hx13, hm⟩ := hm_b hm
   refine O.val hf rfl rfl rfl (RunV.ixE T_elem_37 T_size_98 rfl rfl (hS.rdB (j := 0) rfl) hx13) ?_; clear hf a; intro a hf
   refine O.val hf rfl rfl rfl (RunV.ldE1 (o := 0) T_agg_98 E98_len rfl (hS.rdB (j := 0) rfl) hx13 rfl rfl) ?_; clear hf a; intro a hf
   refine O.val hf rfl rfl rfl (RunV.assign rfl) ?_; clear hf a; intro a hf
   refine O.val hf rfl rfl rfl (RunV.assign rfl) ?_; clear hf a; intro a hf
   refine O.nil ?_
   refine k_seq ?_
   refine W.seq ?_
   refine W.regionL (l := [0]) rfl ?_
   refine O.val hf rfl rfl rfl (RunV.assign rfl) ?_; clear hf a; intro a hf
   refine O.nil ?_
   refine k_seq ?_
   refine W.seqR (fun a w => ∃ (x14 : Int), Fr a 40 [] [(1, s3), (4, .slice none 0 0), (5, s6), (6, .int .u32 x9), (7, Iv x10), (8, .int .u32 x13), (9, .int .u32 x14), (13, s1), (14, Iv (x2.length : Int)), (15, Iv x10), (16, Bv (decide (x10 < ((x2.length : Int) : Int)))), (17, Iv x10), (18, ix s1 (Int.toNat x10 * 1)), (19, .int .u32 x13), (20, Iv x10), (21, s3), (22, Iv (x4.length : Int)), (23, Bv (decide (x10 < ((x4.length : Int) : Int))))] ∧ St w0 w noX [rdE 1 E98 s1 x2, rdE 1 E98 s3 x4] [slE 98 1 E98 s6 x8] ∧ m_wide_minus_j3 F x13 x9 x8 x10 rec11 x14 = some r) ?_ ?_
   ·refine W.seq ?_
    refine W.regionL (l := [0, 1, 2, 3]) rfl ?_
    refine O.val hf rfl rfl rfl (RunV.move rfl) ?_; clear hf a; intro a hf
    refine O.val hf rfl rfl rfl (RunV.move rfl) ?_; clear hf a; intro a hf
    refine O.val (v := Iv (x4.length : Int)) hf rfl rfl rfl (RunV.lenE (e := 98) (by simpa using T_elem_37) rfl (hS.rdB (j := 1) rfl)) ?_; clear hf a; intro a hf
    refine O.val (v := Bv (decide (x10 < ((x4.length : Int) : Int)))) hf rfl rfl rfl (RunV.lss rfl rfl) ?_; clear hf a; intro a hf
    refine O.nil ?_
    refine k_seq ?_
    refine W.ifdI hf rfl (fun hc17 => ?_) (fun hc17 => ?_)
    ·replace hm := hm_p hm hc17
     refine W.regionL (l := [0, 1, 2, 3, 4]) rfl ?_
     refine O.val hf rfl rfl rfl (RunV.move rfl) ?_; clear hf a; intro a hf
     refine O.val hf rfl rfl rfl (RunV.move rfl) ?_; clear hf a; intro a hf
     obtain ⟨x18, hx18, hm⟩ := hm_b hm
     refine O.val hf rfl rfl rfl (RunV.ixE T_elem_37 T_size_98 rfl rfl (hS.rdB (j := 1) rfl) hx18) ?_; clear hf a; intro a hf
     refine O.val hf rfl rfl rfl (RunV.ldE1 (o := 0) T_agg_98 E98_len rfl (hS.rdB (j := 1) rfl) hx18 rfl rfl) ?_; clear hf a; intro a hf
     refine O.val hf rfl rfl rfl (RunV.assign rfl) ?_; clear hf a; intro a hf
     refine O.nil ?_
     exact k_then ⟨x18, hf.to ⟨rfl, rfl, rfl, rfl, rfl, rfl, rfl, rfl, rfl, rfl, rfl, rfl, rfl, rfl, rfl, rfl, rfl, rfl, trivial⟩, hS, hm⟩
    ·replace hm := hm_n hm hc17
     refine W.skip ?_
     exact k_then ⟨0, hf.to ⟨rfl, rfl, rfl, rfl, rfl, rfl, rfl, rfl, rfl, rfl, rfl, rfl, rfl, rfl, rfl, rfl, rfl, rfl, trivial⟩, hS, hm⟩
   ·clear hf hS hm a; try clear w
    rintro a w ⟨x14, hf, hS, hm⟩
    unfold m_wide_minus_j3 at hm
    refine W.regionL (l := [0, 1, 2, 3, 4, 5, 6, 7, 8, 9, 10, 11]) rfl ?_
    refine O.val hf rfl rfl rfl (RunV.move rfl) ?_; clear hf a; intro a hf
    refine O.val hf rfl rfl rfl (RunV.move rfl) ?_; clear hf a; intro a hf
    refine O.val hf rfl rfl rfl (RunV.move rfl) ?_; clear hf a; intro a hf
    refine O.val hf rfl rfl rfl (RunV.move rfl) ?_; clear hf a; intro a hf
    refine O.val hf rfl rfl rfl (RunV.move rfl) ?_; clear hf a; intro a hf
    obtain ⟨x15, hx15, hm⟩ := hm_b hm
    refine O.callR hf rfl rfl rfl (RunE.call (av := #[.int .u32 x13, .int .u32 x14, .int .u32 x9]) C_ok_86 rfl rfl rfl) (m_math_bits_Sub32_ok F x13 x14 x9 _ x15 hx15) ?_
    clear hf a; rintro _ w hS1 a hf
    replace hf : Fr a _ _ ((34, .tuple #[.int .u32 x15.1, .int .u32 x15.2]) :: _) := hf
    replace hS := (hS.call hS1).eqM (N := [slE 98 1 E98 s6 x8]) rfl
    clear hS1
    refine O.val hf rfl rfl rfl (RunV.move rfl) ?_; clear hf a; intro a hf
    refine O.val hf rfl rfl rfl (RunV.extract rfl rfl) ?_; clear hf a; intro a hf
    refine O.val hf rfl rfl rfl (RunV.extract rfl rfl) ?_; clear hf a; intro a hf
    obtain ⟨x16, hx16, hm⟩ := hm_b hm
    refine O.val hf rfl rfl rfl (RunV.ixE T_elem_37 T_size_98 rfl rfl (hS.rdS (j := 0) rfl) hx16) ?_; clear hf a; intro a hf
    refine O.storeE (j := 0) (o := 0) (y0 := x15.1) (l' := x8.set (Int.toNat x10) x15.1) (M' := [slE 98 1 E98 s6 (x8.set (Int.toNat x10) x15.1)]) hf hS rfl rfl rfl T_size_98 rfl rfl rfl E98_len hx16 rfl rfl rfl rfl ?_
    clear hS; intro w hS
    refine O.val hf rfl rfl rfl (RunV.assign rfl) ?_; clear hf a; intro a hf
    refine O.nil ?_
    refine k_blk_normal ?_
    refine k_seq ?_
    refine W.regionL (l := [0, 1]) rfl ?_
    refine O.val (v := Iv (IntKind.i64.wrap (x10 + 1))) hf rfl rfl rfl (RunV.add rfl rfl) ?_; clear hf a; intro a hf
    refine O.val hf rfl rfl rfl (RunV.move rfl) ?_; clear hf a; intro a hf
    refine O.nil ?_
    refine k_then ⟨(k11, x8.set (Int.toNat x10) x15.1, x15.2, IntKind.i64.wrap (x10 + 1)), ⟨hf.to ⟨rfl, rfl, rfl, rfl, rfl, rfl, rfl, trivial⟩, hS, ?_⟩, Nat.lt_succ_self _⟩
    rw [hrec11] at hm; exact hm
  ·replace hm := hm_n hm hc12
   refine W.exit ?_
   refine k_then_exit ?_
   refine k_then_exit ?_
   refine k_blk ?_
   exact k_then ⟨x8, hf.to ⟨rfl, rfl, trivial⟩, hS, hm⟩
 ·clear hf hS hm a; try clear w
  rintro a w ⟨x7, hf, hS, hm⟩
  unfold m_wide_minus_j1 at hm
  refine W.seq ?_
  refine W.regionL (l := [0, 1]) rfl ?_
  refine O.val hf rfl rfl rfl (RunV.move rfl) ?_; clear hf a; intro a hf
  refine O.val hf rfl rfl rfl (RunV.assign rfl) ?_; clear hf a; intro a hf
  refine O.nil ?_
  refine k_seq ?_
  replace hf : Fr a 40 [] [(4, s6)] := hf.to ⟨rfl, trivial⟩
  refine W.ret ?_
  obtain rfl := Option.some.inj hm
  refine post1 hf rfl (ResOK.tmp rfl) ?_
  exact ⟨s6, rfl, hS.noB⟩

def m_wide_add (F : Nat)  (x1 : Bool) (x3 : List Int) (x4 : Bool) (x6 : List Int) : Option (Bool × (List Int) × Int) :=
  (m_wide_compare F x3 x6).bind fun x10 => if (x1 == x4) = true then ((m_wide_plus F x3 x6).bind fun x12 => (m_wide_made_3 F x1 x12).bind fun x14 => some x14) else (if x10 ≥ (0 : Int) then ((m_wide_minus F x3 x6).bind fun x17 => (m_wide_made_3 F x1 x17).bind fun x19 => some x19) else ((m_wide_minus F x6 x3).bind fun x21 => (m_wide_made_3 F x4 x21).bind fun x23 => some x23))
set_option maxHeartbeats 1000000 in
set_option maxRecDepth 8000 in
theorem m_wide_add_ok (F : Nat)    (x1 : Bool) (s2 : Value) (x3 : List Int) (x4 : Bool) (s5 : Value) (x6 : List Int) (w0 : World) (h_s2 : rdEOK (hp w0) 1 E98 s2 x3) (h_s5 : rdEOK (hp w0) 1 E98 s5 x6) (r : Bool × (List Int) × Int) (hm : m_wide_add F x1 x3 x4 x6 = some r) :
    Ret Try.prog 52 #[.agg #[Bv x1, s2], .agg #[Bv x4, s5]] w0 (G := Value) (fun g1 => .tuple #[.agg #[Bv r.1, g1], Iv r.2.2]) (fun g1 w => St w0 w noX [] [slE 98 1 E98 g1 r.2.1]) := by
 unfold m_wide_add at hm
 refine ret_of_W (lv := [.agg #[Bv x1, s2], .agg #[Bv x4, s5]]) Try.func52 rfl rfl rfl (fun a hf => ?_)
 replace hf : Fr a 51 [] [(0, .agg #[Bv x1, s2]), (1, .agg #[Bv x4, s5])] := hf
 have hS : St w0 w0 noX [rdE 1 E98 s2 x3, rdE 1 E98 s5 x6] [] := St.borrow (lendAll_cons (lendRd h_s2) (lendAll_cons (lendRd h_s5) lendAll_nil))
 refine W.seq ?_
 refine W.regionL (l := [0, 1, 2, 3]) rfl ?_
 refine O.box (cs := #[Bv x1, s2]) hf hS rfl rfl rfl rfl ?_
 clear hf hS a; intro b7 w a hb7 hS hf
 refine O.box (cs := #[Bv x4, s5]) hf hS rfl rfl rfl rfl ?_
 clear hf hS a; intro b8 w a hb8 hS hf
 refine O.alloc (cs := #[Bv false, .slice none 0 0]) hf hS rfl rfl T_zero_39 rfl ?_
 clear hf hS a; intro b9 w a hb9 hS hf
 refine O.val hf rfl rfl rfl (RunV.assign rfl) ?_; clear hf a; intro a hf
 refine O.nil ?_
 refine k_seq ?_
 replace hf : Fr a 51 [] [(2, Pv b7 0), (3, Pv b8 0), (4, Pv b9 0), (5, Iv 0)] := hf.to ⟨rfl, rfl, rfl, rfl, trivial⟩
 refine W.seq ?_
 refine W.seq ?_
 refine W.regionL (l := [0, 1, 2, 3, 4, 5]) rfl ?_
 refine O.val hf rfl rfl rfl (RunV.field T_field_39_1 rfl rfl) ?_; clear hf a; intro a hf
 refine O.val hf rfl rfl rfl (RunV.load1 T_agg_37 rfl (hS.ptAt (i := 2) rfl) rfl) ?_; clear hf a; intro a hf
 refine O.val hf rfl rfl rfl (RunV.field T_field_39_1 rfl rfl) ?_; clear hf a; intro a hf
 refine O.val hf rfl rfl rfl (RunV.load1 T_agg_37 rfl (hS.ptAt (i := 1) rfl) rfl) ?_; clear hf a; intro a hf
 obtain ⟨x10, hx10, hm⟩ := hm_b hm
 refine O.callR hf rfl rfl rfl (RunE.call (av := #[s2, s5]) C_ok_59 rfl rfl rfl) (m_wide_compare_ok F s2 x3 s5 x6 _ (hS.rdB (j := 0) rfl) (hS.rdB (j := 1) rfl) x10 hx10) ?_
 clear hf a; rintro _ w hS1 a hf
 replace hf : Fr a _ _ ((11, Iv x10) :: _) := hf
 replace hS := (hS.call hS1).eqM (N := [pt b9 (Cs #[Bv false, .slice none 0 0] 39), pt b8 (Cs #[Bv x4, s5] 39), pt b7 (Cs #[Bv x1, s2] 39)]) rfl
 clear hS1
 refine O.val hf rfl rfl rfl (RunV.assign rfl) ?_; clear hf a; intro a hf
 refine O.nil ?_
 refine k_seq ?_
 replace hf : Fr a 51 [] [(2, Pv b7 0), (3, Pv b8 0), (4, Pv b9 0), (5, Iv 0), (6, Iv x10)] := hf.to ⟨rfl, rfl, rfl, rfl, rfl, trivial⟩
 refine W.block ?_
 refine W.seq ?_
 refine W.regionL (l := [0, 1, 2, 3, 4, 5]) rfl ?_
 refine O.val hf rfl rfl rfl (RunV.field T_field_39_0 rfl rfl) ?_; clear hf a; intro a hf
 refine O.val hf rfl rfl rfl (RunV.load1 T_agg_4 rfl (hS.ptAt (i := 2) rfl) rfl) ?_; clear hf a; intro a hf
 refine O.val hf rfl rfl rfl (RunV.field T_field_39_0 rfl rfl) ?_; clear hf a; intro a hf
 refine O.val hf rfl rfl rfl (RunV.load1 T_agg_4 rfl (hS.ptAt (i := 1) rfl) rfl) ?_; clear hf a; intro a hf
 refine O.val (v := Bv (x1 == x4)) hf rfl rfl rfl (RunV.eqBool T_bool_4 rfl rfl) ?_; clear hf a; intro a hf
 refine O.val hf rfl rfl rfl (RunV.assign rfl) ?_; clear hf a; intro a hf
 refine O.nil ?_
 refine k_seq ?_
 replace hf : Fr a 51 [] [(2, Pv b7 0), (3, Pv b8 0), (4, Pv b9 0), (5, Iv 0), (6, Iv x10), (12, Bv (x1 == x4))] := hf.to ⟨rfl, rfl, rfl, rfl, rfl, rfl, trivial⟩
 refine W.if_ hf rfl (fun hc11 => ?_) (fun hc11 => ?_)
 ·replace hm := hm_t hm hc11
  refine W.seq ?_
  have hf1 : Fr a 51 [] [(5, Iv 0)] := hf.to ⟨rfl, trivial⟩
  replace hf : Fr a 51 [] [(2, Pv b7 0), (3, Pv b8 0), (4, Pv b9 0), (6, Iv x10), (12, Bv (x1 == x4))] := hf.to ⟨rfl, rfl, rfl, rfl, rfl, trivial⟩
  obtain ⟨x12, hx12, hm⟩ := hm_b hm
  obtain ⟨x14, hx14, hm⟩ := hm_b hm
  refine W.drawC (γ := Value × Value) (L0 := [(2, Pv b7 0), (3, Pv b8 0), (4, Pv b9 0), (6, Iv x10), (12, Bv (x1 == x4))]) (L1 := [(5, Iv 0)]) (undef, undef) [6, 7, 10] [] [0, 1, 2, 3, 4, 5, 8, 9, 11] (fun i => match i with | 1 => [0] | 3 => [2] | 5 => [4] | 6 => [3, 5] | 7 => [1, 6] | 8 => [7] | 9 => [7] | 10 => [0, 1, 2, 3, 4, 5, 6, 7, 8, 9] | 11 => [0, 1, 2, 3, 4, 5, 6, 7, 8, 9, 10] | _ => []) (fun i => match i with | 7 => [6] | 8 => [6, 7] | 9 => [6, 7] | 10 => [6, 7] | 11 => [6, 7, 10] | _ => []) (fun i => match i with | 0 => [7, 10] | 1 => [7, 10] | 2 => [6, 7, 10] | 3 => [6, 7, 10] | 4 => [6, 7, 10] | 5 => [6, 7, 10] | 6 => [7, 10] | 7 => [10] | 8 => [10] | 9 => [10] | _ => []) (fun _ => []) (fun i => match i with | 6 => [7, 8, 9, 10, 11] | 7 => [8, 9, 10, 11] | 10 => [11] | _ => []) (fun _ => []) (fun i => match i with | 7 => 1 | 8 => 2 | 9 => 2 | 10 => 2 | 11 => 3 | _ => 0) (fun i => match i with | 0 => 1 | 1 => 1 | 6 => 1 | 7 => 2 | 8 => 2 | 9 => 2 | 10 => 3 | 11 => 3 | _ => 0) (fun (g : Value × Value) j => match j with | 0 => Pv b7 0 | 1 => Bv x1 | 2 => Pv b7 1 | 3 => s2 | 4 => Pv b8 1 | 5 => s5 | 6 => g.1 | 7 => .tuple #[.agg #[Bv x14.1, g.2], Iv x14.2.2] | 8 => .agg #[Bv x14.1, g.2] | 9 => Iv x14.2.2 | 11 => Iv x14.2.2 | _ => undef) (fun k s (g : Value × Value) w => match k with | 0 => St w0 w noX [rdE 1 E98 s2 x3, rdE 1 E98 s5 x6] [pt b9 (Cs #[Bv false, .slice none 0 0] 39), pt b8 (Cs #[Bv x4, s5] 39), pt b7 (Cs #[Bv x1, s2] 39)] | 1 => St w0 w noX [rdE 1 E98 s2 x3, rdE 1 E98 s5 x6] [slE 98 1 E98 g.1 x12, pt b9 (Cs #[Bv false, .slice none 0 0] 39), pt b8 (Cs #[Bv x4, s5] 39), pt b7 (Cs #[Bv x1, s2] 39)] | 2 => St w0 w noX [rdE 1 E98 s2 x3, rdE 1 E98 s5 x6] [slE 98 1 E98 g.2 x14.2.1, pt b9 (Cs #[Bv false, .slice none 0 0] 39), pt b8 (Cs #[Bv x4, s5] 39), pt b7 (Cs #[Bv x1, s2] 39)] | _ => St w0 w noX [rdE 1 E98 s2 x3, rdE 1 E98 s5 x6] [slE 98 1 E98 g.2 x14.2.1, pt b9 (Cs #[Bv x14.1, g.2] 39), pt b8 (Cs #[Bv x4, s5] 39), pt b7 (Cs #[Bv x1, s2] 39)]) P_mixed (by kernel_rfl) (by kernel_rfl) (by kernel_rfl) hf hf1 hS.drew ?_ ?_ ?_ ?_
  ·clear hf hf1 hS
   refine ⟨fun k s g w _ _ _ hD a hf => Q.val (v := Pv b7 0) rfl rfl rfl hD hf (RunV.field T_field_39_0 rfl rfl), ?_, fun k s g w _ _ _ hD a hf => Q.val (v := Pv b7 1) rfl rfl rfl hD hf (RunV.field T_field_39_1 rfl rfl), ?_, fun k s g w _ _ _ hD a hf => Q.val (v := Pv b8 1) rfl rfl rfl hD hf (RunV.field T_field_39_1 rfl rfl), ?_, fun k s g w _ _ _ hD a hf => Q.val (v := .agg #[Bv x14.1, g.2]) rfl rfl rfl hD hf (RunV.extract rfl rfl), fun k s g w _ _ _ hD a hf => Q.val (v := Iv x14.2.2) rfl rfl rfl hD hf (RunV.extract rfl rfl), fun k s g w _ _ _ hD a hf => Q.val (v := Iv x14.2.2) rfl rfl rfl hD hf (RunV.assign rfl), trivial⟩
   ·intro k s g w h1_ h2_ hsp hD a hf
    obtain ⟨s13, s15⟩ := g
    rcases k with _ | _ | k
    ·have hS : St w0 w noX [rdE 1 E98 s2 x3, rdE 1 E98 s5 x6] [pt b9 (Cs #[Bv false, .slice none 0 0] 39), pt b8 (Cs #[Bv x4, s5] 39), pt b7 (Cs #[Bv x1, s2] 39)] := hD; clear hD
     replace hf : Fr a 51 [] [(18, Pv b7 0), (2, Pv b7 0), (3, Pv b8 0), (4, Pv b9 0), (6, Iv x10), (12, Bv (x1 == x4))] := hf
     exact Q.val (v := Bv x1) rfl rfl rfl hS hf (RunV.load1 T_agg_4 rfl (hS.ptAt (i := 2) rfl) rfl)
    ·have hS : St w0 w noX [rdE 1 E98 s2 x3, rdE 1 E98 s5 x6] [slE 98 1 E98 s13 x12, pt b9 (Cs #[Bv false, .slice none 0 0] 39), pt b8 (Cs #[Bv x4, s5] 39), pt b7 (Cs #[Bv x1, s2] 39)] := hD; clear hD
     replace hf : Fr a 51 [] [(18, Pv b7 0), (2, Pv b7 0), (3, Pv b8 0), (4, Pv b9 0), (6, Iv x10), (12, Bv (x1 == x4))] := hf
     exact Q.val (v := Bv x1) rfl rfl rfl hS hf (RunV.load1 T_agg_4 rfl (hS.ptAt (i := 3) rfl) rfl)
    ·exact absurd h2_ (by simp)
   ·intro k s g w h1_ h2_ hsp hD a hf
    obtain ⟨s13, s15⟩ := g
    rcases k with _ | k
    ·have hS : St w0 w noX [rdE 1 E98 s2 x3, rdE 1 E98 s5 x6] [pt b9 (Cs #[Bv false, .slice none 0 0] 39), pt b8 (Cs #[Bv x4, s5] 39), pt b7 (Cs #[Bv x1, s2] 39)] := hD; clear hD
     replace hf : Fr a 51 [] [(20, Pv b7 1), (2, Pv b7 0), (3, Pv b8 0), (4, Pv b9 0), (6, Iv x10), (12, Bv (x1 == x4))] := hf
     exact Q.val (v := s2) rfl rfl rfl hS hf (RunV.load1 T_agg_37 rfl (hS.ptAt (i := 2) rfl) rfl)
    ·exact absurd h2_ (by simp)
   ·intro k s g w h1_ h2_ hsp hD a hf
    obtain ⟨s13, s15⟩ := g
    rcases k with _ | k
    ·have hS : St w0 w noX [rdE 1 E98 s2 x3, rdE 1 E98 s5 x6] [pt b9 (Cs #[Bv false, .slice none 0 0] 39), pt b8 (Cs #[Bv x4, s5] 39), pt b7 (Cs #[Bv x1, s2] 39)] := hD; clear hD
     replace hf : Fr a 51 [] [(22, Pv b8 1), (2, Pv b7 0), (3, Pv b8 0), (4, Pv b9 0), (6, Iv x10), (12, Bv (x1 == x4))] := hf
     exact Q.val (v := s5) rfl rfl rfl hS hf (RunV.load1 T_agg_37 rfl (hS.ptAt (i := 1) rfl) rfl)
    ·exact absurd h2_ (by simp)
  ·clear hf hf1 hS
   refine ⟨?_, ?_, ?_, trivial⟩
   ·intro s g w hsp hD a hf
    obtain ⟨s13, s15⟩ := g
    have hS : St w0 w noX [rdE 1 E98 s2 x3, rdE 1 E98 s5 x6] [pt b9 (Cs #[Bv false, .slice none 0 0] 39), pt b8 (Cs #[Bv x4, s5] 39), pt b7 (Cs #[Bv x1, s2] 39)] := hD; clear hD
    replace hf : Fr a 51 [] [(21, s2), (23, s5), (2, Pv b7 0), (3, Pv b8 0), (4, Pv b9 0), (6, Iv x10), (12, Bv (x1 == x4))] := hf
    refine O.callR hf rfl rfl rfl (RunE.call (av := #[s2, s5]) C_ok_58 rfl rfl rfl) (m_wide_plus_ok F s2 x3 s5 x6 _ (hS.rdB (j := 0) rfl) (hS.rdB (j := 1) rfl) x12 hx12) ?_
    clear hf a; rintro s13 w hS1 a hf
    replace hf : Fr a _ _ ((24, s13) :: _) := hf
    replace hS := (hS.call hS1).eqM (N := [slE 98 1 E98 s13 x12, pt b9 (Cs #[Bv false, .slice none 0 0] 39), pt b8 (Cs #[Bv x4, s5] 39), pt b7 (Cs #[Bv x1, s2] 39)]) rfl
    clear hS1
    exact O.nil ⟨rfl, (s13, s15), hf.to trivial, (fun d hd => by cases (show some 24 = some d from hd); exact hf.get _ _ rfl), (fun j hj hk => match j, hj, hk with | 0, hj, hk => rfl | 1, hj, hk => rfl | 2, hj, hk => rfl | 3, hj, hk => rfl | 4, hj, hk => rfl | 5, hj, hk => rfl | 6, hj, hk => absurd rfl hj | 7, hj, hk => absurd hk (by decide) | 8, hj, hk => absurd hk (by decide) | 9, hj, hk => absurd hk (by decide) | 10, hj, hk => absurd hk (by decide) | 11, hj, hk => absurd hk (by decide) | _ + 12, _, _ => rfl), hS⟩
   ·intro s g w hsp hD a hf
    obtain ⟨s13, s15⟩ := g
    have hS : St w0 w noX [rdE 1 E98 s2 x3, rdE 1 E98 s5 x6] [slE 98 1 E98 s13 x12, pt b9 (Cs #[Bv false, .slice none 0 0] 39), pt b8 (Cs #[Bv x4, s5] 39), pt b7 (Cs #[Bv x1, s2] 39)] := hD; clear hD
    replace hf : Fr a 51 [] [(19, Bv x1), (24, s13), (2, Pv b7 0), (3, Pv b8 0), (4, Pv b9 0), (6, Iv x10), (12, Bv (x1 == x4))] := hf
    refine O.callR hf rfl rfl rfl (RunE.call (av := #[Bv x1, s13]) C_ok_60 rfl rfl rfl) (m_wide_made_3_ok F x1 s13 x12 _ (hS.slS (j := 0) rfl) x14 hx14) ?_
    clear hf a; rintro s15 w hS1 a hf
    replace hf : Fr a _ _ ((25, .tuple #[.agg #[Bv x14.1, s15], Iv x14.2.2]) :: _) := hf
    replace hS := (hS.callX1 hS1 (i := 0) rfl (fun _ h => h)).eqM (N := [slE 98 1 E98 s15 x14.2.1, pt b9 (Cs #[Bv false, .slice none 0 0] 39), pt b8 (Cs #[Bv x4, s5] 39), pt b7 (Cs #[Bv x1, s2] 39)]) rfl
    clear hS1
    exact O.nil ⟨rfl, (s13, s15), hf.to trivial, (fun d hd => by cases (show some 25 = some d from hd); exact hf.get _ _ rfl), (fun j hj hk => match j, hj, hk with | 0, hj, hk => rfl | 1, hj, hk => rfl | 2, hj, hk => rfl | 3, hj, hk => rfl | 4, hj, hk => rfl | 5, hj, hk => rfl | 6, hj, hk => rfl | 7, hj, hk => absurd rfl hj | 8, hj, hk => absurd hk (by decide) | 9, hj, hk => absurd hk (by decide) | 10, hj, hk => absurd hk (by decide) | 11, hj, hk => absurd hk (by decide) | _ + 12, _, _ => rfl), hS⟩
   ·intro s g w hsp hD a hf
    obtain ⟨s13, s15⟩ := g
    have hS : St w0 w noX [rdE 1 E98 s2 x3, rdE 1 E98 s5 x6] [slE 98 1 E98 s15 x14.2.1, pt b9 (Cs #[Bv false, .slice none 0 0] 39), pt b8 (Cs #[Bv x4, s5] 39), pt b7 (Cs #[Bv x1, s2] 39)] := hD; clear hD
    replace hf : Fr a 51 [] [(18, Pv b7 0), (19, Bv x1), (20, Pv b7 1), (21, s2), (22, Pv b8 1), (23, s5), (24, s13), (25, .tuple #[.agg #[Bv x14.1, s15], Iv x14.2.2]), (26, .agg #[Bv x14.1, s15]), (27, Iv x14.2.2), (2, Pv b7 0), (3, Pv b8 0), (4, Pv b9 0), (6, Iv x10), (12, Bv (x1 == x4))] := hf
    refine O.store (j := 1) (cs' := #[Bv x14.1, s15]) (M' := [slE 98 1 E98 s15 x14.2.1, pt b9 (Cs #[Bv x14.1, s15] 39), pt b8 (Cs #[Bv x4, s5] 39), pt b7 (Cs #[Bv x1, s2] 39)]) hf hS rfl rfl rfl T_size_39 rfl (oneCells_cc rfl (oneCells_cc (rdEOK_one (hS.rdS (j := 0) rfl)) rfl)) rfl (Nat.le_of_ble_eq_true rfl) rfl rfl ?_
    clear hS; intro w hS
    exact O.nil ⟨rfl, (s13, s15), hf.to trivial, (fun d hd => by cases (show none = some d from hd)), (fun _ _ _ => rfl), hS⟩
  ·clear hf hf1 hS
   exact trivial
  clear hf hf1 hS; intro s g a w hs hf hD
  obtain ⟨s13, s15⟩ := g
  have hS : St w0 w noX [rdE 1 E98 s2 x3, rdE 1 E98 s5 x6] [slE 98 1 E98 s15 x14.2.1, pt b9 (Cs #[Bv x14.1, s15] 39), pt b8 (Cs #[Bv x4, s5] 39), pt b7 (Cs #[Bv x1, s2] 39)] := hD; clear hD
  replace hf : Fr a 51 [] [(18, Pv b7 0), (19, Bv x1), (20, Pv b7 1), (21, s2), (22, Pv b8 1), (23, s5), (24, s13), (25, .tuple #[.agg #[Bv x14.1, s15], Iv x14.2.2]), (26, .agg #[Bv x14.1, s15]), (27, Iv x14.2.2), (5, Iv x14.2.2), (2, Pv b7 0), (3, Pv b8 0), (4, Pv b9 0), (6, Iv x10), (12, Bv (x1 == x4))] := hf
  refine k_seq ?_
  replace hf : Fr a 51 [] [(2, Pv b7 0), (3, Pv b8 0), (4, Pv b9 0), (5, Iv x14.2.2)] := hf.to ⟨rfl, rfl, rfl, rfl, trivial⟩
  refine W.ret ?_
  refine k_blk_ret ?_
  refine k_then_ret ?_
  obtain rfl := Option.some.inj hm
  refine post2 hf rfl (ResOK.cellN (cs' := #[Bv x14.1, s15]) rfl T_agg_39 T_size_39 (hS.ptAt (i := 1) rfl) (Nat.le_of_ble_eq_true rfl) rfl) (ResOK.tmp rfl) ?_
  replace hS := hS.sub (N := [slE 98 1 E98 s15 x14.2.1]) (.cons_cons _ (.cons _ (.cons _ (.cons _ .slnil))))
  exact ⟨s15, rfl, hS.noB⟩
 ·replace hm := hm_f hm hc11
  refine W.seq ?_
  refine W.regionL (l := [0, 1, 2]) rfl ?_
  refine O.val hf rfl rfl rfl (RunV.move rfl) ?_; clear hf a; intro a hf
  refine O.val (v := Bv (decide (x10 ≥ (0 : Int)))) hf rfl rfl rfl (RunV.geq rfl rfl) ?_; clear hf a; intro a hf
  refine O.val hf rfl rfl rfl (RunV.assign rfl) ?_; clear hf a; intro a hf
  refine O.nil ?_
  refine k_seq ?_
  replace hf : Fr a 51 [] [(2, Pv b7 0), (3, Pv b8 0), (4, Pv b9 0), (5, Iv 0), (28, Bv (decide (x10 ≥ (0 : Int))))] := hf.to ⟨rfl, rfl, rfl, rfl, rfl, trivial⟩
  refine W.ifdI hf rfl (fun hc16 => ?_) (fun hc16 => ?_)
  ·replace hm := hm_p hm hc16
   refine W.seq ?_
   have hf1 : Fr a 51 [] [(5, Iv 0)] := hf.to ⟨rfl, trivial⟩
   replace hf : Fr a 51 [] [(2, Pv b7 0), (3, Pv b8 0), (4, Pv b9 0), (28, Bv (decide (x10 ≥ (0 : Int))))] := hf.to ⟨rfl, rfl, rfl, rfl, trivial⟩
   obtain ⟨x17, hx17, hm⟩ := hm_b hm
   obtain ⟨x19, hx19, hm⟩ := hm_b hm
   refine W.drawC (γ := Value × Value) (L0 := [(2, Pv b7 0), (3, Pv b8 0), (4, Pv b9 0), (28, Bv (decide (x10 ≥ (0 : Int))))]) (L1 := [(5, Iv 0)]) (undef, undef) [6, 7, 10] [] [0, 1, 2, 3, 4, 5, 8, 9, 11] (fun i => match i with | 1 => [0] | 3 => [2] | 5 => [4] | 6 => [3, 5] | 7 => [1, 6] | 8 => [7] | 9 => [7] | 10 => [0, 1, 2, 3, 4, 5, 6, 7, 8, 9] | 11 => [0, 1, 2, 3, 4, 5, 6, 7, 8, 9, 10] | _ => []) (fun i => match i with | 7 => [6] | 8 => [6, 7] | 9 => [6, 7] | 10 => [6, 7] | 11 => [6, 7, 10] | _ => []) (fun i => match i with | 0 => [7, 10] | 1 => [7, 10] | 2 => [6, 7, 10] | 3 => [6, 7, 10] | 4 => [6, 7, 10] | 5 => [6, 7, 10] | 6 => [7, 10] | 7 => [10] | 8 => [10] | 9 => [10] | _ => []) (fun _ => []) (fun i => match i with | 6 => [7, 8, 9, 10, 11] | 7 => [8, 9, 10, 11] | 10 => [11] | _ => []) (fun _ => []) (fun i => match i with | 7 => 1 | 8 => 2 | 9 => 2 | 10 => 2 | 11 => 3 | _ => 0) (fun i => match i with | 0 => 1 | 1 => 1 | 6 => 1 | 7 => 2 | 8 => 2 | 9 => 2 | 10 => 3 | 11 => 3 | _ => 0) (fun (g : Value × Value) j => match j with | 0 => Pv b7 0 | 1 => Bv x1 | 2 => Pv b7 1 | 3 => s2 | 4 => Pv b8 1 | 5 => s5 | 6 => g.1 | 7 => .tuple #[.agg #[Bv x19.1, g.2], Iv x19.2.2] | 8 => .agg #[Bv x19.1, g.2] | 9 => Iv x19.2.2 | 11 => Iv x19.2.2 | _ => undef) (fun k s (g : Value × Value) w => match k with | 0 => St w0 w noX [rdE 1 E98 s2 x3, rdE 1 E98 s5 x6] [pt b9 (Cs #[Bv false, .slice none 0 0] 39), pt b8 (Cs #[Bv x4, s5] 39), pt b7 (Cs #[Bv x1, s2] 39)] | 1 => St w0 w noX [rdE 1 E98 s2 x3, rdE 1 E98 s5 x6] [slE 98 1 E98 g.1 x17, pt b9 (Cs #[Bv false, .slice none 0 0] 39), pt b8 (Cs #[Bv x4, s5] 39), pt b7 (Cs #[Bv x1, s2] 39)] | 2 => St w0 w noX [rdE 1 E98 s2 x3, rdE 1 E98 s5 x6] [slE 98 1 E98 g.2 x19.2.1, pt b9 (Cs #[Bv false, .slice none 0 0] 39), pt b8 (Cs #[Bv x4, s5] 39), pt b7 (Cs #[Bv x1, s2] 39)] | _ => St w0 w noX [rdE 1 E98 s2 x3, rdE 1 E98 s5 x6] [slE 98 1 E98 g.2 x19.2.1, pt b9 (Cs #[Bv x19.1, g.2] 39), pt b8 (Cs #[Bv x4, s5] 39), pt b7 (Cs #[Bv x1, s2] 39)]) P_mixed (by kernel_rfl) (by kernel_rfl) (by kernel_rfl) hf hf1 hS.drew ?_ ?_ ?_ ?_
   ·clear hf hf1 hS
    refine ⟨fun k s g w _ _ _ hD a hf => Q.val (v := Pv b7 0) rfl rfl rfl hD hf (RunV.field T_field_39_0 rfl rfl), ?_, fun k s g w _ _ _ hD a hf => Q.val (v := Pv b7 1) rfl rfl rfl hD hf (RunV.field T_field_39_1 rfl rfl), ?_, fun k s g w _ _ _ hD a hf => Q.val (v := Pv b8 1) rfl rfl rfl hD hf (RunV.field T_field_39_1 rfl rfl), ?_, fun k s g w _ _ _ hD a hf => Q.val (v := .agg #[Bv x19.1, g.2]) rfl rfl rfl hD hf (RunV.extract rfl rfl), fun k s g w _ _ _ hD a hf => Q.val (v := Iv x19.2.2) rfl rfl rfl hD hf (RunV.extract rfl rfl), fun k s g w _ _ _ hD a hf => Q.val (v := Iv x19.2.2) rfl rfl rfl hD hf (RunV.assign rfl), trivial⟩
    ·intro k s g w h1_ h2_ hsp hD a hf
     obtain ⟨s18, s20⟩ := g
     rcases k with _ | _ | k
     ·have hS : St w0 w noX [rdE 1 E98 s2 x3, rdE 1 E98 s5 x6] [pt b9 (Cs #[Bv false, .slice none 0 0] 39), pt b8 (Cs #[Bv x4, s5] 39), pt b7 (Cs #[Bv x1, s2] 39)] := hD; clear hD
      replace hf : Fr a 51 [] [(31, Pv b7 0), (2, Pv b7 0), (3, Pv b8 0), (4, Pv b9 0), (28, Bv (decide (x10 ≥ (0 : Int))))] := hf
      exact Q.val (v := Bv x1) rfl rfl rfl hS hf (RunV.load1 T_agg_4 rfl (hS.ptAt (i := 2) rfl) rfl)
     ·have hS : St w0 w noX [rdE 1 E98 s2 x3, rdE 1 E98 s5 x6] [slE 98 1 E98 s18 x17, pt b9 (Cs #[Bv false, .slice none 0 0] 39), pt b8 (Cs #[Bv x4, s5] 39), pt b7 (Cs #[Bv x1, s2] 39)] := hD; clear hD
      replace hf : Fr a 51 [] [(31, Pv b7 0), (2, Pv b7 0), (3, Pv b8 0), (4, Pv b9 0), (28, Bv (decide (x10 ≥ (0 : Int))))] := hf
      exact Q.val (v := Bv x1) rfl rfl rfl hS hf (RunV.load1 T_agg_4 rfl (hS.ptAt (i := 3) rfl) rfl)
     ·exact absurd h2_ (by simp)
    ·intro k s g w h1_ h2_ hsp hD a hf
     obtain ⟨s18, s20⟩ := g
     rcases k with _ | k
     ·have hS : St w0 w noX [rdE 1 E98 s2 x3, rdE 1 E98 s5 x6] [pt b9 (Cs #[Bv false, .slice none 0 0] 39), pt b8 (Cs #[Bv x4, s5] 39), pt b7 (Cs #[Bv x1, s2] 39)] := hD; clear hD
      replace hf : Fr a 51 [] [(33, Pv b7 1), (2, Pv b7 0), (3, Pv b8 0), (4, Pv b9 0), (28, Bv (decide (x10 ≥ (0 : Int))))] := hf
      exact Q.val (v := s2) rfl rfl rfl hS hf (RunV.load1 T_agg_37 rfl (hS.ptAt (i := 2) rfl) rfl)
     ·exact absurd h2_ (by simp)
    ·intro k s g w h1_ h2_ hsp hD a hf
     obtain ⟨s18, s20⟩ := g
     rcases k with _ | k
     ·have hS : St w0 w noX [rdE 1 E98 s2 x3, rdE 1 E98 s5 x6] [pt b9 (Cs #[Bv false, .slice none 0 0] 39), pt b8 (Cs #[Bv x4, s5] 39), pt b7 (Cs #[Bv x1, s2] 39)] := hD; clear hD
      replace hf : Fr a 51 [] [(35, Pv b8 1), (2, Pv b7 0), (3, Pv b8 0), (4, Pv b9 0), (28, Bv (decide (x10 ≥ (0 : Int))))] := hf
      exact Q.val (v := s5) rfl rfl rfl hS hf (RunV.load1 T_agg_37 rfl (hS.ptAt (i := 1) rfl) rfl)
     ·exact absurd h2_ (by simp)
   ·clear hf hf1 hS
    refine ⟨?_, ?_, ?_, trivial⟩
    ·intro s g w hsp hD a hf
     obtain ⟨s18, s20⟩ := g
     have hS : St w0 w noX [rdE 1 E98 s2 x3, rdE 1 E98 s5 x6] [pt b9 (Cs #[Bv false, .slice none 0 0] 39), pt b8 (Cs #[Bv x4, s5] 39), pt b7 (Cs #[Bv x1, s2] 39)] := hD; clear hD
     replace hf : Fr a 51 [] [(34, s2), (36, s5), (2, Pv b7 0), (3, Pv b8 0), (4, Pv b9 0), (28, Bv (decide (x10 ≥ (0 : Int))))] := hf
     refine O.callR hf rfl rfl rfl (RunE.call (av := #[s2, s5]) C_ok_63 rfl rfl rfl) (m_wide_minus_ok F s2 x3 s5 x6 _ (hS.rdB (j := 0) rfl) (hS.rdB (j := 1) rfl) x17 hx17) ?_
     clear hf a; rintro s18 w hS1 a hf
     replace hf : Fr a _ _ ((37, s18) :: _) := hf
     replace hS := (hS.call hS1).eqM (N := [slE 98 1 E98 s18 x17, pt b9 (Cs #[Bv false, .slice none 0 0] 39), pt b8 (Cs #[Bv x4, s5] 39), pt b7 (Cs #[Bv x1, s2] 39)]) rfl
     clear hS1
     exact O.nil ⟨rfl, (s18, s20), hf.to trivial, (fun d hd => by cases (show some 37 = some d from hd); exact hf.get _ _ rfl), (fun j hj hk => match j, hj, hk with | 0, hj, hk => rfl | 1, hj, hk => rfl | 2, hj, hk => rfl | 3, hj, hk => rfl | 4, hj, hk => rfl | 5, hj, hk => rfl | 6, hj, hk => absurd rfl hj | 7, hj, hk => absurd hk (by decide) | 8, hj, hk => absurd hk (by decide) | 9, hj, hk => absurd hk (by decide) | 10, hj, hk => absurd hk (by decide) | 11, hj, hk => absurd hk (by decide) | _ + 12, _, _ => rfl), hS⟩
    ·intro s g w hsp hD a hf
     obtain ⟨s18, s20⟩ := g
     have hS : St w0 w noX [rdE 1 E98 s2 x3, rdE 1 E98 s5 x6] [slE 98 1 E98 s18 x17, pt b9 (Cs #[Bv false, .slice none 0 0] 39), pt b8 (Cs #[Bv x4, s5] 39), pt b7 (Cs #[Bv x1, s2] 39)] := hD; clear hD
     replace hf : Fr a 51 [] [(32, Bv x1), (37, s18), (2, Pv b7 0), (3, Pv b8 0), (4, Pv b9 0), (28, Bv (decide (x10 ≥ (0 : Int))))] := hf
     refine O.callR hf rfl rfl rfl (RunE.call (av := #[Bv x1, s18]) C_ok_60 rfl rfl rfl) (m_wide_made_3_ok F x1 s18 x17 _ (hS.slS (j := 0) rfl) x19 hx19) ?_
     clear hf a; rintro s20 w hS1 a hf
     replace hf : Fr a _ _ ((38, .tuple #[.agg #[Bv x19.1, s20], Iv x19.2.2]) :: _) := hf
     replace hS := (hS.callX1 hS1 (i := 0) rfl (fun _ h => h)).eqM (N := [slE 98 1 E98 s20 x19.2.1, pt b9 (Cs #[Bv false, .slice none 0 0] 39), pt b8 (Cs #[Bv x4, s5] 39), pt b7 (Cs #[Bv x1, s2] 39)]) rfl
     clear hS1
     exact O.nil ⟨rfl, (s18, s20), hf.to trivial, (fun d hd => by cases (show some 38 = some d from hd); exact hf.get _ _ rfl), (fun j hj hk => match j, hj, hk with | 0, hj, hk => rfl | 1, hj, hk => rfl | 2, hj, hk => rfl | 3, hj, hk => rfl | 4, hj, hk => rfl | 5, hj, hk => rfl | 6, hj, hk => rfl | 7, hj, hk => absurd rfl hj | 8, hj, hk => absurd hk (by decide) | 9, hj, hk => absurd hk (by decide) | 10, hj, hk => absurd hk (by decide) | 11, hj, hk => absurd hk (by decide) | _ + 12, _, _ => rfl), hS⟩
    ·intro s g w hsp hD a hf
     obtain ⟨s18, s20⟩ := g
     have hS : St w0 w noX [rdE 1 E98 s2 x3, rdE 1 E98 s5 x6] [slE 98 1 E98 s20 x19.2.1, pt b9 (Cs #[Bv false, .slice none 0 0] 39), pt b8 (Cs #[Bv x4, s5] 39), pt b7 (Cs #[Bv x1, s2] 39)] := hD; clear hD
     replace hf : Fr a 51 [] [(31, Pv b7 0), (32, Bv x1), (33, Pv b7 1), (34, s2), (35, Pv b8 1), (36, s5), (37, s18), (38, .tuple #[.agg #[Bv x19.1, s20], Iv x19.2.2]), (39, .agg #[Bv x19.1, s20]), (40, Iv x19.2.2), (2, Pv b7 0), (3, Pv b8 0), (4, Pv b9 0), (28, Bv (decide (x10 ≥ (0 : Int))))] := hf
     refine O.store (j := 1) (cs' := #[Bv x19.1, s20]) (M' := [slE 98 1 E98 s20 x19.2.1, pt b9 (Cs #[Bv x19.1, s20] 39), pt b8 (Cs #[Bv x4, s5] 39), pt b7 (Cs #[Bv x1, s2] 39)]) hf hS rfl rfl rfl T_size_39 rfl (oneCells_cc rfl (oneCells_cc (rdEOK_one (hS.rdS (j := 0) rfl)) rfl)) rfl (Nat.le_of_ble_eq_true rfl) rfl rfl ?_
     clear hS; intro w hS
     exact O.nil ⟨rfl, (s18, s20), hf.to trivial, (fun d hd => by cases (show none = some d from hd)), (fun _ _ _ => rfl), hS⟩
   ·clear hf hf1 hS
    exact trivial
   clear hf hf1 hS; intro s g a w hs hf hD
   obtain ⟨s18, s20⟩ := g
   have hS : St w0 w noX [rdE 1 E98 s2 x3, rdE 1 E98 s5 x6] [slE 98 1 E98 s20 x19.2.1, pt b9 (Cs #[Bv x19.1, s20] 39), pt b8 (Cs #[Bv x4, s5] 39), pt b7 (Cs #[Bv x1, s2] 39)] := hD; clear hD
   replace hf : Fr a 51 [] [(31, Pv b7 0), (32, Bv x1), (33, Pv b7 1), (34, s2), (35, Pv b8 1), (36, s5), (37, s18), (38, .tuple #[.agg #[Bv x19.1, s20], Iv x19.2.2]), (39, .agg #[Bv x19.1, s20]), (40, Iv x19.2.2), (5, Iv x19.2.2), (2, Pv b7 0), (3, Pv b8 0), (4, Pv b9 0), (28, Bv (decide (x10 ≥ (0 : Int))))] := hf
   refine k_seq ?_
   replace hf : Fr a 51 [] [(2, Pv b7 0), (3, Pv b8 0), (4, Pv b9 0), (5, Iv x19.2.2)] := hf.to ⟨rfl, rfl, rfl, rfl, trivial⟩
   refine W.ret ?_
   refine k_blk_ret ?_
   refine k_then_ret ?_
   obtain rfl := Option.some.inj hm
   refine post2 hf rfl (ResOK.cellN (cs' := #[Bv x19.1, s20]) rfl T_agg_39 T_size_39 (hS.ptAt (i := 1) rfl) (Nat.le_of_ble_eq_true rfl) rfl) (ResOK.tmp rfl) ?_
   replace hS := hS.sub (N := [slE 98 1 E98 s20 x19.2.1]) (.cons_cons _ (.cons _ (.cons _ (.cons _ .slnil))))
   exact ⟨s20, rfl, hS.noB⟩
  ·replace hm := hm_n hm hc16
   refine W.skip ?_
   refine k_blk_normal ?_
   refine k_seq ?_
   replace hf : Fr a 51 [] [(2, Pv b7 0), (3, Pv b8 0), (4, Pv b9 0), (5, Iv 0)] := hf.to ⟨rfl, rfl, rfl, rfl, trivial⟩
   refine W.seq ?_
   have hf1 : Fr a 51 [] [(5, Iv 0)] := hf.to ⟨rfl, trivial⟩
   replace hf : Fr a 51 [] [(2, Pv b7 0), (3, Pv b8 0), (4, Pv b9 0)] := hf.to ⟨rfl, rfl, rfl, trivial⟩
   obtain ⟨x21, hx21, hm⟩ := hm_b hm
   obtain ⟨x23, hx23, hm⟩ := hm_b hm
   refine W.drawC (γ := Value × Value) (L0 := [(2, Pv b7 0), (3, Pv b8 0), (4, Pv b9 0)]) (L1 := [(5, Iv 0)]) (undef, undef) [6, 7, 10] [] [0, 1, 2, 3, 4, 5, 8, 9, 11] (fun i => match i with | 1 => [0] | 3 => [2] | 5 => [4] | 6 => [3, 5] | 7 => [1, 6] | 8 => [7] | 9 => [7] | 10 => [0, 1, 2, 3, 4, 5, 6, 7, 8, 9] | 11 => [0, 1, 2, 3, 4, 5, 6, 7, 8, 9, 10] | _ => []) (fun i => match i with | 7 => [6] | 8 => [6, 7] | 9 => [6, 7] | 10 => [6, 7] | 11 => [6, 7, 10] | _ => []) (fun i => match i with | 0 => [7, 10] | 1 => [7, 10] | 2 => [6, 7, 10] | 3 => [6, 7, 10] | 4 => [6, 7, 10] | 5 => [6, 7, 10] | 6 => [7, 10] | 7 => [10] | 8 => [10] | 9 => [10] | _ => []) (fun _ => []) (fun i => match i with | 6 => [7, 8, 9, 10, 11] | 7 => [8, 9, 10, 11] | 10 => [11] | _ => []) (fun _ => []) (fun i => match i with | 7 => 1 | 8 => 2 | 9 => 2 | 10 => 2 | 11 => 3 | _ => 0) (fun i => match i with | 0 => 1 | 1 => 1 | 6 => 1 | 7 => 2 | 8 => 2 | 9 => 2 | 10 => 3 | 11 => 3 | _ => 0) (fun (g : Value × Value) j => match j with | 0 => Pv b8 0 | 1 => Bv x4 | 2 => Pv b8 1 | 3 => s5 | 4 => Pv b7 1 | 5 => s2 | 6 => g.1 | 7 => .tuple #[.agg #[Bv x23.1, g.2], Iv x23.2.2] | 8 => .agg #[Bv x23.1, g.2] | 9 => Iv x23.2.2 | 11 => Iv x23.2.2 | _ => undef) (fun k s (g : Value × Value) w => match k with | 0 => St w0 w noX [rdE 1 E98 s2 x3, rdE 1 E98 s5 x6] [pt b9 (Cs #[Bv false, .slice none 0 0] 39), pt b8 (Cs #[Bv x4, s5] 39), pt b7 (Cs #[Bv x1, s2] 39)] | 1 => St w0 w noX [rdE 1 E98 s2 x3, rdE 1 E98 s5 x6] [slE 98 1 E98 g.1 x21, pt b9 (Cs #[Bv false, .slice none 0 0] 39), pt b8 (Cs #[Bv x4, s5] 39), pt b7 (Cs #[Bv x1, s2] 39)] | 2 => St w0 w noX [rdE 1 E98 s2 x3, rdE 1 E98 s5 x6] [slE 98 1 E98 g.2 x23.2.1, pt b9 (Cs #[Bv false, .slice none 0 0] 39), pt b8 (Cs #[Bv x4, s5] 39), pt b7 (Cs #[Bv x1, s2] 39)] | _ => St w0 w noX [rdE 1 E98 s2 x3, rdE 1 E98 s5 x6] [slE 98 1 E98 g.2 x23.2.1, pt b9 (Cs #[Bv x23.1, g.2] 39), pt b8 (Cs #[Bv x4, s5] 39), pt b7 (Cs #[Bv x1, s2] 39)]) P_mixed (by kernel_rfl) (by kernel_rfl) (by kernel_rfl) hf hf1 hS.drew ?_ ?_ ?_ ?_
   ·clear hf hf1 hS
    refine ⟨fun k s g w _ _ _ hD a hf => Q.val (v := Pv b8 0) rfl rfl rfl hD hf (RunV.field T_field_39_0 rfl rfl), ?_, fun k s g w _ _ _ hD a hf => Q.val (v := Pv b8 1) rfl rfl rfl hD hf (RunV.field T_field_39_1 rfl rfl), ?_, fun k s g w _ _ _ hD a hf => Q.val (v := Pv b7 1) rfl rfl rfl hD hf (RunV.field T_field_39_1 rfl rfl), ?_, fun k s g w _ _ _ hD a hf => Q.val (v := .agg #[Bv x23.1, g.2]) rfl rfl rfl hD hf (RunV.extract rfl rfl), fun k s g w _ _ _ hD a hf => Q.val (v := Iv x23.2.2) rfl rfl rfl hD hf (RunV.extract rfl rfl), fun k s g w _ _ _ hD a hf => Q.val (v := Iv x23.2.2) rfl rfl rfl hD hf (RunV.assign rfl), trivial⟩
    ·intro k s g w h1_ h2_ hsp hD a hf
     obtain ⟨s22, s24⟩ := g
     rcases k with _ | _ | k
     ·have hS : St w0 w noX [rdE 1 E98 s2 x3, rdE 1 E98 s5 x6] [pt b9 (Cs #[Bv false, .slice none 0 0] 39), pt b8 (Cs #[Bv x4, s5] 39), pt b7 (Cs #[Bv x1, s2] 39)] := hD; clear hD
      replace hf : Fr a 51 [] [(41, Pv b8 0), (2, Pv b7 0), (3, Pv b8 0), (4, Pv b9 0)] := hf
      exact Q.val (v := Bv x4) rfl rfl rfl hS hf (RunV.load1 T_agg_4 rfl (hS.ptAt (i := 1) rfl) rfl)
     ·have hS : St w0 w noX [rdE 1 E98 s2 x3, rdE 1 E98 s5 x6] [slE 98 1 E98 s22 x21, pt b9 (Cs #[Bv false, .slice none 0 0] 39), pt b8 (Cs #[Bv x4, s5] 39), pt b7 (Cs #[Bv x1, s2] 39)] := hD; clear hD
      replace hf : Fr a 51 [] [(41, Pv b8 0), (2, Pv b7 0), (3, Pv b8 0), (4, Pv b9 0)] := hf
      exact Q.val (v := Bv x4) rfl rfl rfl hS hf (RunV.load1 T_agg_4 rfl (hS.ptAt (i := 2) rfl) rfl)
     ·exact absurd h2_ (by simp)
    ·intro k s g w h1_ h2_ hsp hD a hf
     obtain ⟨s22, s24⟩ := g
     rcases k with _ | k
     ·have hS : St w0 w noX [rdE 1 E98 s2 x3, rdE 1 E98 s5 x6] [pt b9 (Cs #[Bv false, .slice none 0 0] 39), pt b8 (Cs #[Bv x4, s5] 39), pt b7 (Cs #[Bv x1, s2] 39)] := hD; clear hD
      replace hf : Fr a 51 [] [(43, Pv b8 1), (2, Pv b7 0), (3, Pv b8 0), (4, Pv b9 0)] := hf
      exact Q.val (v := s5) rfl rfl rfl hS hf (RunV.load1 T_agg_37 rfl (hS.ptAt (i := 1) rfl) rfl)
     ·exact absurd h2_ (by simp)
    ·intro k s g w h1_ h2_ hsp hD a hf
     obtain ⟨s22, s24⟩ := g
     rcases k with _ | k
     ·have hS : St w0 w noX [rdE 1 E98 s2 x3, rdE 1 E98 s5 x6] [pt b9 (Cs #[Bv false, .slice none 0 0] 39), pt b8 (Cs #[Bv x4, s5] 39), pt b7 (Cs #[Bv x1, s2] 39)] := hD; clear hD
      replace hf : Fr a 51 [] [(45, Pv b7 1), (2, Pv b7 0), (3, Pv b8 0), (4, Pv b9 0)] := hf
      exact Q.val (v := s2) rfl rfl rfl hS hf (RunV.load1 T_agg_37 rfl (hS.ptAt (i := 2) rfl) rfl)
     ·exact absurd h2_ (by simp)
   ·clear hf hf1 hS
    refine ⟨?_, ?_, ?_, trivial⟩
    ·intro s g w hsp hD a hf
     obtain ⟨s22, s24⟩ := g
     have hS : St w0 w noX [rdE 1 E98 s2 x3, rdE 1 E98 s5 x6] [pt b9 (Cs #[Bv false, .slice none 0 0] 39), pt b8 (Cs #[Bv x4, s5] 39), pt b7 (Cs #[Bv x1, s2] 39)] := hD; clear hD
     replace hf : Fr a 51 [] [(44, s5), (46, s2), (2, Pv b7 0), (3, Pv b8 0), (4, Pv b9 0)] := hf
     refine O.callR hf rfl rfl rfl (RunE.call (av := #[s5, s2]) C_ok_63 rfl rfl rfl) (m_wide_minus_ok F s5 x6 s2 x3 _ (hS.rdB (j := 1) rfl) (hS.rdB (j := 0) rfl) x21 hx21) ?_
     clear hf a; rintro s22 w hS1 a hf
     replace hf : Fr a _ _ ((47, s22) :: _) := hf
     replace hS := (hS.call hS1).eqM (N := [slE 98 1 E98 s22 x21, pt b9 (Cs #[Bv false, .slice none 0 0] 39), pt b8 (Cs #[Bv x4, s5] 39), pt b7 (Cs #[Bv x1, s2] 39)]) rfl
     clear hS1
     exact O.nil ⟨rfl, (s22, s24), hf.to trivial, (fun d hd => by cases (show some 47 = some d from hd); exact hf.get _ _ rfl), (fun j hj hk => match j, hj, hk with | 0, hj, hk => rfl | 1, hj, hk => rfl | 2, hj, hk => rfl | 3, hj, hk => rfl | 4, hj, hk => rfl | 5, hj, hk => rfl | 6, hj, hk => absurd rfl hj | 7, hj, hk => absurd hk (by decide) | 8, hj, hk => absurd hk (by decide) | 9, hj, hk => absurd hk (by decide) | 10, hj, hk => absurd hk (by decide) | 11, hj, hk => absurd hk (by decide) | _ + 12, _, _ => rfl), hS⟩
    ·intro s g w hsp hD a hf
     obtain ⟨s22, s24⟩ := g
     have hS : St w0 w noX [rdE 1 E98 s2 x3, rdE 1 E98 s5 x6] [slE 98 1 E98 s22 x21, pt b9 (Cs #[Bv false, .slice none 0 0] 39), pt b8 (Cs #[Bv x4, s5] 39), pt b7 (Cs #[Bv x1, s2] 39)] := hD; clear hD
     replace hf : Fr a 51 [] [(42, Bv x4), (47, s22), (2, Pv b7 0), (3, Pv b8 0), (4, Pv b9 0)] := hf
     refine O.callR hf rfl rfl rfl (RunE.call (av := #[Bv x4, s22]) C_ok_60 rfl rfl rfl) (m_wide_made_3_ok F x4 s22 x21 _ (hS.slS (j := 0) rfl) x23 hx23) ?_
     clear hf a; rintro s24 w hS1 a hf
     replace hf : Fr a _ _ ((48, .tuple #[.agg #[Bv x23.1, s24], Iv x23.2.2]) :: _) := hf
     replace hS := (hS.callX1 hS1 (i := 0) rfl (fun _ h => h)).eqM (N := [slE 98 1 E98 s24 x23.2.1, pt b9 (Cs #[Bv false, .slice none 0 0] 39), pt b8 (Cs #[Bv x4, s5] 39), pt b7 (Cs #[Bv x1, s2] 39)]) rfl
     clear hS1
     exact O.nil ⟨rfl, (s22, s24), hf.to trivial, (fun d hd => by cases (show some 48 = some d from hd); exact hf.get _ _ rfl), (fun j hj hk => match j, hj, hk with | 0, hj, hk => rfl | 1, hj, hk => rfl | 2, hj, hk => rfl | 3, hj, hk => rfl | 4, hj, hk => rfl | 5, hj, hk => rfl | 6, hj, hk => rfl | 7, hj, hk => absurd rfl hj | 8, hj, hk => absurd hk (by decide) | 9, hj, hk => absurd hk (by decide) | 10, hj, hk => absurd hk (by decide) | 11, hj, hk => absurd hk (by decide) | _ + 12, _, _ => rfl), hS⟩
    ·intro s g w hsp hD a hf
     obtain ⟨s22, s24⟩ := g
     have hS : St w0 w noX [rdE 1 E98 s2 x3, rdE 1 E98 s5 x6] [slE 98 1 E98 s24 x23.2.1, pt b9 (Cs #[Bv false, .slice none 0 0] 39), pt b8 (Cs #[Bv x4, s5] 39), pt b7 (Cs #[Bv x1, s2] 39)] := hD; clear hD
     replace hf : Fr a 51 [] [(41, Pv b8 0), (42, Bv x4), (43, Pv b8 1), (44, s5), (45, Pv b7 1), (46, s2), (47, s22), (48, .tuple #[.agg #[Bv x23.1, s24], Iv x23.2.2]), (49, .agg #[Bv x23.1, s24]), (50, Iv x23.2.2), (2, Pv b7 0), (3, Pv b8 0), (4, Pv b9 0)] := hf
     refine O.store (j := 1) (cs' := #[Bv x23.1, s24]) (M' := [slE 98 1 E98 s24 x23.2.1, pt b9 (Cs #[Bv x23.1, s24] 39), pt b8 (Cs #[Bv x4, s5] 39), pt b7 (Cs #[Bv x1, s2] 39)]) hf hS rfl rfl rfl T_size_39 rfl (oneCells_cc rfl (oneCells_cc (rdEOK_one (hS.rdS (j := 0) rfl)) rfl)) rfl (Nat.le_of_ble_eq_true rfl) rfl rfl ?_
     clear hS; intro w hS
     exact O.nil ⟨rfl, (s22, s24), hf.to trivial, (fun d hd => by cases (show none = some d from hd)), (fun _ _ _ => rfl), hS⟩
   ·clear hf hf1 hS
    exact trivial
   clear hf hf1 hS; intro s g a w hs hf hD
   obtain ⟨s22, s24⟩ := g
   have hS : St w0 w noX [rdE 1 E98 s2 x3, rdE 1 E98 s5 x6] [slE 98 1 E98 s24 x23.2.1, pt b9 (Cs #[Bv x23.1, s24] 39), pt b8 (Cs #[Bv x4, s5] 39), pt b7 (Cs #[Bv x1, s2] 39)] := hD; clear hD
   replace hf : Fr a 51 [] [(41, Pv b8 0), (42, Bv x4), (43, Pv b8 1), (44, s5), (45, Pv b7 1), (46, s2), (47, s22), (48, .tuple #[.agg #[Bv x23.1, s24], Iv x23.2.2]), (49, .agg #[Bv x23.1, s24]), (50, Iv x23.2.2), (5, Iv x23.2.2), (2, Pv b7 0), (3, Pv b8 0), (4, Pv b9 0)] := hf
   refine k_seq ?_
   replace hf : Fr a 51 [] [(4, Pv b9 0), (5, Iv x23.2.2)] := hf.to ⟨rfl, rfl, trivial⟩
   refine W.ret ?_
   obtain rfl := Option.some.inj hm
   refine post2 hf rfl (ResOK.cellN (cs' := #[Bv x23.1, s24]) rfl T_agg_39 T_size_39 (hS.ptAt (i := 1) rfl) (Nat.le_of_ble_eq_true rfl) rfl) (ResOK.tmp rfl) ?_
   replace hS := hS.sub (N := [slE 98 1 E98 s24 x23.2.1]) (.cons_cons _ (.cons _ (.cons _ (.cons _ .slnil))))
   exact ⟨s24, rfl, hS.noB⟩

def m_wide_Add (F : Nat)  (x1 : Bool) (x3 : List Int) (x4 : Bool) (x6 : List Int) : Option (Bool × (List Int) × Int) :=
  (m_wide_check F x1 x3 x4 x6).bind fun x11 => if x11 ≠ (0 : Int) then (some (false, ([] : List Int), x11)) else ((m_wide_add F x1 x3 x4 x6).bind fun x13 => some x13)
set_option maxHeartbeats 1000000 in
set_option maxRecDepth 8000 in
theorem m_wide_Add_ok (F : Nat)    (x1 : Bool) (s2 : Value) (x3 : List Int) (x4 : Bool) (s5 : Value) (x6 : List Int) (w0 : World) (h_s2 : rdEOK (hp w0) 1 E98 s2 x3) (h_s5 : rdEOK (hp w0) 1 E98 s5 x6) (r : Bool × (List Int) × Int) (hm : m_wide_Add F x1 x3 x4 x6 = some r) :
    Ret Try.prog 25 #[.agg #[Bv x1, s2], .agg #[Bv x4, s5]] w0 (G := Value) (fun g1 => .tuple #[.agg #[Bv r.1, g1], Iv r.2.2]) (fun g1 w => St w0 w noX [] [slE 98 1 E98 g1 r.2.1]) := by
 unfold m_wide_Add at hm
 refine ret_of_W (lv := [.agg #[Bv x1, s2], .agg #[Bv x4, s5]]) Try.func25 rfl rfl rfl (fun a hf => ?_)
 replace hf : Fr a 20 [] [(0, .agg #[Bv x1, s2]), (1, .agg #[Bv x4, s5])] := hf
 have hS : St w0 w0 noX [rdE 1 E98 s2 x3, rdE 1 E98 s5 x6] [] := St.borrow (lendAll_cons (lendRd h_s2) (lendAll_cons (lendRd h_s5) lendAll_nil))
 refine W.seq ?_
 refine W.regionL (l := [0, 1, 2, 3]) rfl ?_
 refine O.box (cs := #[Bv x1, s2]) hf hS rfl rfl rfl rfl ?_
 clear hf hS a; intro b7 w a hb7 hS hf
 refine O.box (cs := #[Bv x4, s5]) hf hS rfl rfl rfl rfl ?_
 clear hf hS a; intro b8 w a hb8 hS hf
 refine O.alloc (cs := #[Bv false, .slice none 0 0]) hf hS rfl rfl T_zero_39 rfl ?_
 clear hf hS a; intro b9 w a hb9 hS hf
 refine O.val hf rfl rfl rfl (RunV.assign rfl) ?_; clear hf a; intro a hf
 refine O.nil ?_
 refine k_seq ?_
 replace hf : Fr a 20 [] [(2, Pv b7 0), (3, Pv b8 0), (4, Pv b9 0), (5, Iv 0)] := hf.to ⟨rfl, rfl, rfl, rfl, trivial⟩
 refine W.seq ?_
 refine W.seq ?_
 refine W.regionL (l := [0, 1, 2, 3, 4]) rfl ?_
 refine O.val hf rfl rfl rfl (RunV.loadN (cs' := #[Bv x1, s2]) T_agg_39 T_size_39 rfl (hS.ptAt (i := 2) rfl) (Nat.le_of_ble_eq_true rfl) rfl) ?_; clear hf a; intro a hf
 refine O.val hf rfl rfl rfl (RunV.loadN (cs' := #[Bv x4, s5]) T_agg_39 T_size_39 rfl (hS.ptAt (i := 1) rfl) (Nat.le_of_ble_eq_true rfl) rfl) ?_; clear hf a; intro a hf
 refine O.buildSlice (cs' := #[Bv x1, s2, Bv x4, s5]) (zs := #[Bv false, .slice none 0 0, Bv false, .slice none 0 0]) hf hS rfl rfl T_elem_124 T_size_39 T_zero_39 rfl rfl rfl rfl rfl ?_
 clear hf hS a; intro b10 w a hb10 hS hf
 obtain ⟨x11, hx11, hm⟩ := hm_b hm
 refine O.callR hf rfl rfl rfl (RunE.call (av := #[.slice (some ⟨b10, 0, none⟩) 2 2]) C_ok_51 rfl rfl rfl) (m_wide_check_ok F b10 x1 s2 x3 x4 s5 x6 _ (hS.rdB (j := 0) rfl) (hS.rdB (j := 1) rfl) (hS.ptAt (i := 0) rfl) x11 hx11) ?_
 clear hf a; rintro _ w hS1 a hf
 replace hf : Fr a _ _ ((10, Iv x11) :: _) := hf
 replace hS := (hS.call hS1).eqM (N := [pt b10 (Cs #[Bv x1, s2, Bv x4, s5] 39), pt b9 (Cs #[Bv false, .slice none 0 0] 39), pt b8 (Cs #[Bv x4, s5] 39), pt b7 (Cs #[Bv x1, s2] 39)]) rfl
 clear hS1
 refine O.val hf rfl rfl rfl (RunV.assign rfl) ?_; clear hf a; intro a hf
 refine O.nil ?_
 refine k_seq ?_
 replace hf : Fr a 20 [] [(2, Pv b7 0), (3, Pv b8 0), (4, Pv b9 0), (5, Iv 0), (6, Iv x11)] := hf.to ⟨rfl, rfl, rfl, rfl, rfl, trivial⟩
 refine W.seq ?_
 refine W.regionL (l := [0, 1]) rfl ?_
 refine O.val hf rfl rfl rfl (RunV.move rfl) ?_; clear hf a; intro a hf
 refine O.val (v := Bv (decide (x11 ≠ (0 : Int)))) hf rfl rfl rfl (RunV.neq rfl rfl) ?_; clear hf a; intro a hf
 refine O.nil ?_
 refine k_seq ?_
 replace hf : Fr a 20 [] [(2, Pv b7 0), (3, Pv b8 0), (4, Pv b9 0), (5, Iv 0), (6, Iv x11), (12, Bv (decide (x11 ≠ (0 : Int))))] := hf.to ⟨rfl, rfl, rfl, rfl, rfl, rfl, trivial⟩
 refine W.ifdI hf rfl (fun hc12 => ?_) (fun hc12 => ?_)
 ·replace hm := hm_p hm hc12
  refine W.seq ?_
  refine W.regionL (l := [0, 1, 2, 3]) rfl ?_
  refine O.val (v := .agg #[Bv false, .slice none 0 0]) hf rfl rfl rfl (RunV.buildS (cs' := #[Bv false, .slice none 0 0]) T_places_39 T_zero_39 rfl (by kernel_rfl)) ?_; clear hf a; intro a hf
  refine O.val hf rfl rfl rfl (RunV.move rfl) ?_; clear hf a; intro a hf
  refine O.store (j := 1) (cs' := #[Bv false, .slice none 0 0]) (M' := [pt b10 (Cs #[Bv x1, s2, Bv x4, s5] 39), pt b9 (Cs #[Bv false, .slice none 0 0] 39), pt b8 (Cs #[Bv x4, s5] 39), pt b7 (Cs #[Bv x1, s2] 39)]) hf hS rfl rfl rfl T_size_39 rfl rfl rfl (Nat.le_of_ble_eq_true rfl) rfl rfl ?_
  clear hS; intro w hS
  refine O.val hf rfl rfl rfl (RunV.assign rfl) ?_; clear hf a; intro a hf
  refine O.nil ?_
  refine k_seq ?_
  replace hf : Fr a 20 [] [(2, Pv b7 0), (3, Pv b8 0), (4, Pv b9 0), (5, Iv x11)] := hf.to ⟨rfl, rfl, rfl, rfl, trivial⟩
  refine W.ret ?_
  refine k_then_ret ?_
  replace hS := hS.nilE 98 1 E98
  obtain rfl := Option.some.inj hm
  refine post2 hf rfl (ResOK.cellN (cs' := #[Bv false, .slice none 0 0]) rfl T_agg_39 T_size_39 (hS.ptAt (i := 2) rfl) (Nat.le_of_ble_eq_true rfl) rfl) (ResOK.tmp rfl) ?_
  replace hS := hS.nilE 98 1 E98
  replace hS := hS.sub (N := [slE 98 1 E98 (.slice none 0 0) ([] : List Int)]) (.cons_cons _ (.cons _ (.cons _ (.cons _ (.cons _ (.cons _ .slnil))))))
  exact ⟨(.slice none 0 0), rfl, hS.noB⟩
 ·replace hm := hm_n hm hc12
  refine W.skip ?_
  refine k_seq ?_
  replace hf : Fr a 20 [] [(2, Pv b7 0), (3, Pv b8 0), (4, Pv b9 0), (5, Iv 0)] := hf.to ⟨rfl, rfl, rfl, rfl, trivial⟩
  refine W.seq ?_
  refine W.regionL (l := [0, 1, 2, 3, 4, 5, 6]) rfl ?_
  refine O.val hf rfl rfl rfl (RunV.loadN (cs' := #[Bv x1, s2]) T_agg_39 T_size_39 rfl (hS.ptAt (i := 3) rfl) (Nat.le_of_ble_eq_true rfl) rfl) ?_; clear hf a; intro a hf
  refine O.val hf rfl rfl rfl (RunV.loadN (cs' := #[Bv x4, s5]) T_agg_39 T_size_39 rfl (hS.ptAt (i := 2) rfl) (Nat.le_of_ble_eq_true rfl) rfl) ?_; clear hf a; intro a hf
  obtain ⟨x13, hx13, hm⟩ := hm_b hm
  refine O.callR hf rfl rfl rfl (RunE.call (av := #[.agg #[Bv x1, s2], .agg #[Bv x4, s5]]) C_ok_52 rfl rfl rfl) (m_wide_add_ok F x1 s2 x3 x4 s5 x6 _ (hS.rdB (j := 0) rfl) (hS.rdB (j := 1) rfl) x13 hx13) ?_
  clear hf a; rintro s14 w hS1 a hf
  replace hf : Fr a _ _ ((17, .tuple #[.agg #[Bv x13.1, s14], Iv x13.2.2]) :: _) := hf
  replace hS := (hS.call hS1).eqM (N := [slE 98 1 E98 s14 x13.2.1, pt b10 (Cs #[Bv x1, s2, Bv x4, s5] 39), pt b9 (Cs #[Bv false, .slice none 0 0] 39), pt b8 (Cs #[Bv x4, s5] 39), pt b7 (Cs #[Bv x1, s2] 39)]) rfl
  clear hS1
  refine O.val hf rfl rfl rfl (RunV.extract rfl rfl) ?_; clear hf a; intro a hf
  refine O.val hf rfl rfl rfl (RunV.extract rfl rfl) ?_; clear hf a; intro a hf
  refine O.store (j := 2) (cs' := #[Bv x13.1, s14]) (M' := [slE 98 1 E98 s14 x13.2.1, pt b10 (Cs #[Bv x1, s2, Bv x4, s5] 39), pt b9 (Cs #[Bv x13.1, s14] 39), pt b8 (Cs #[Bv x4, s5] 39), pt b7 (Cs #[Bv x1, s2] 39)]) hf hS rfl rfl rfl T_size_39 rfl (oneCells_cc rfl (oneCells_cc (rdEOK_one (hS.rdS (j := 0) rfl)) rfl)) rfl (Nat.le_of_ble_eq_true rfl) rfl rfl ?_
  clear hS; intro w hS
  refine O.val hf rfl rfl rfl (RunV.assign rfl) ?_; clear hf a; intro a hf
  refine O.nil ?_
  refine k_seq ?_
  replace hf : Fr a 20 [] [(4, Pv b9 0), (5, Iv x13.2.2)] := hf.to ⟨rfl, rfl, trivial⟩
  refine W.ret ?_
  obtain rfl := Option.some.inj hm
  refine post2 hf rfl (ResOK.cellN (cs' := #[Bv x13.1, s14]) rfl T_agg_39 T_size_39 (hS.ptAt (i := 2) rfl) (Nat.le_of_ble_eq_true rfl) rfl) (ResOK.tmp rfl) ?_
  replace hS := hS.sub (N := [slE 98 1 E98 s14 x13.2.1]) (.cons_cons _ (.cons _ (.cons _ (.cons _ (.cons _ .slnil)))))
  exact ⟨s14, rfl, hS.noB⟩

def m_wide_check_2_j1 (F : Nat)  : Option Int :=
  some 0
def m_wide_check_2_j2 (F : Nat) (x4 : List Int) (x2 : Bool) (x6 : Bool) : Option Int :=
  if (x6 || ((decide ((x4.length : Int) = (0 : Int))) && x2)) = true then (some 8) else (m_wide_check_2_j1 F)
def m_wide_check_2_j3 (F : Nat) (x4 : List Int) (x2 : Bool) (x11 : Bool) : Option Int :=
  m_wide_check_2_j2 F x4 x2 x11
def m_wide_check_2 (F : Nat)  (x2 : Bool) (x4 : List Int) : Option Int :=
  if (x4.length : Int) > (4096 : Int) then (m_wide_check_2_j2 F x4 x2 true) else (if (x4.length : Int) > (0 : Int) then ((idx x4 (IntKind.i64.wrap ((x4.length : Int) - 1))).bind fun x13 => m_wide_check_2_j3 F x4 x2 (decide (x13 = (0 : Int)))) else (m_wide_check_2_j3 F x4 x2 false))
set_option maxHeartbeats 1000000 in
set_option maxRecDepth 8000 in
theorem m_wide_check_2_ok (F : Nat)    (b1 : Nat) (x2 : Bool) (s3 : Value) (x4 : List Int) (w0 : World) (h_s3 : rdEOK (hp w0) 1 E98 s3 x4) (h_b1 : w0.heap[b1]? = some (.cells #[Bv x2, s3] 39 (0, 0))) (r : Int) (hm : m_wide_check_2 F x2 x4 = some r) :
    Ret Try.prog 51 #[.slice (some ⟨b1, 0, none⟩) 1 1] w0 (G := Unit) (fun _ => Iv r) (fun _ w => St w0 w noX [] []) := by
 unfold m_wide_check_2 at hm
 refine ret_of_W (lv := [.slice (some ⟨b1, 0, none⟩) 1 1]) Try.func51 rfl rfl rfl (fun a hf => ?_)
 replace hf : Fr a 39 [] [(0, .slice (some ⟨b1, 0, none⟩) 1 1)] := hf
 have hS : St w0 w0 noX [rdE 1 E98 s3 x4, pt b1 (Cs #[Bv x2, s3] 39)] [] := St.borrow (lendAll_cons (lendRd h_s3) (lendAll_cons (lendPt h_b1) lendAll_nil))
 refine W.seq ?_
 refine W.regionL (l := [0]) rfl ?_
 refine O.val hf rfl rfl rfl (RunV.assign rfl) ?_; clear hf a; intro a hf
 refine O.nil ?_
 refine k_seq ?_
 refine W.seqR (fun a w => Fr a 39 [] [(2, Iv 0)] ∧ St w0 w noX [rdE 1 E98 s3 x4, pt b1 (Cs #[Bv x2, s3] 39)] [] ∧ m_wide_check_2_j1 F = some r) ?_ ?_
 ·refine W.seq ?_
  refine W.regionL (l := [0, 1, 2]) rfl ?_
  refine O.val hf rfl rfl rfl (RunV.move rfl) ?_; clear hf a; intro a hf
  refine O.val (v := Iv 1) hf rfl rfl rfl (RunV.len (e := 39) (by simpa using T_elem_124) rfl) ?_; clear hf a; intro a hf
  refine O.val hf rfl rfl rfl (RunV.move rfl) ?_; clear hf a; intro a hf
  refine O.nil ?_
  refine k_seq ?_
  replace hf : Fr a 39 [] [(2, Iv 0), (6, .slice (some ⟨b1, 0, none⟩) 1 1), (7, Iv 1), (8, Iv 0)] := hf.to ⟨rfl, rfl, rfl, rfl, trivial⟩
  refine W.block ?_
  refine W.loopH (LH.step ?_)
  refine W.seq ?_
  refine W.regionL (l := [0]) rfl ?_
  refine O.val (v := Bv true) hf rfl rfl rfl (RunV.lss (p := 0) (q := 1) rfl rfl) ?_; clear hf a; intro a hf
  refine O.nil ?_
  refine k_seq ?_
  refine W.seq ?_
  refine W.if_tt hf rfl ?_
  refine W.skip ?_
  refine k_seq ?_
  refine W.seq ?_
  refine W.block ?_
  refine W.seq ?_
  refine W.regionL (l := [0, 1, 2, 3]) rfl ?_
  refine O.val hf rfl rfl rfl (RunV.indexSl (j := 0) (m := 0) T_elem_124 T_size_39 rfl rfl rfl (by decide) rfl) ?_; clear hf a; intro a hf
  refine O.val hf rfl rfl rfl (RunV.loadN (cs' := #[Bv x2, s3]) T_agg_39 T_size_39 rfl (hS.bptAt (i := 1) rfl) (Nat.le_of_ble_eq_true rfl) rfl) ?_; clear hf a; intro a hf
  refine O.alloc (cs := #[Bv false, .slice none 0 0]) hf hS rfl rfl T_zero_39 rfl ?_
  clear hf hS a; intro b5 w a hb5 hS hf
  refine O.store (j := 0) (cs' := #[Bv x2, s3]) (M' := [pt b5 (Cs #[Bv x2, s3] 39)]) hf hS rfl rfl rfl T_size_39 rfl (oneCells_cc rfl (oneCells_cc (rdEOK_one (hS.rdB (j := 0) rfl)) rfl)) rfl (Nat.le_of_ble_eq_true rfl) rfl rfl ?_
  clear hS; intro w hS
  refine O.nil ?_
  refine k_seq ?_
  refine W.seq ?_
  refine W.regionL (l := [0, 1, 2, 3]) rfl ?_
  refine O.val hf rfl rfl rfl (RunV.field T_field_39_1 rfl rfl) ?_; clear hf a; intro a hf
  refine O.val hf rfl rfl rfl (RunV.load1 T_agg_37 rfl (hS.ptAt (i := 0) rfl) rfl) ?_; clear hf a; intro a hf
  refine O.val (v := Iv (x4.length : Int)) hf rfl rfl rfl (RunV.lenE (e := 98) (by simpa using T_elem_37) rfl (hS.rdB (j := 0) rfl)) ?_; clear hf a; intro a hf
  refine O.val hf rfl rfl rfl (RunV.assign rfl) ?_; clear hf a; intro a hf
  refine O.nil ?_
  refine k_seq ?_
  refine W.seq ?_
  refine W.regionL (l := [0, 1, 2, 3, 4, 5, 6, 7, 8, 9, 10, 11, 12, 13, 14, 15, 16, 17, 18, 19, 20, 21, 22]) rfl ?_
  refine O.val hf rfl rfl rfl (RunV.move rfl) ?_; clear hf a; intro a hf
  refine O.val (v := Bv (decide ((x4.length : Int) > (4096 : Int)))) hf rfl rfl rfl (RunV.gtr rfl rfl) ?_; clear hf a; intro a hf
  refine O.val hf rfl rfl rfl (RunV.move rfl) ?_; clear hf a; intro a hf
  refine O.cutN (l₁ := [3, 4, 5, 6, 7, 8, 9, 10, 11, 12, 13, 14]) (l₂ := _) (fun a w => ∃ (x6 : Bool), Fr a 39 [] [(2, Iv 0), (4, Pv b5 0), (5, Iv (x4.length : Int)), (6, .slice (some ⟨b1, 0, none⟩) 1 1), (7, Iv 1), (8, Iv 0), (9, Bv true), (10, Pv b1 0), (11, .agg #[Bv x2, s3]), (12, Pv b5 1), (13, s3), (14, Iv (x4.length : Int)), (15, Iv (x4.length : Int)), (16, Bv (decide ((x4.length : Int) > (4096 : Int)))), (17, Bv (decide ((x4.length : Int) > (4096 : Int)))), (29, Bv x6)] ∧ St w0 w noX [rdE 1 E98 s3 x4, pt b1 (Cs #[Bv x2, s3] 39)] [pt b5 (Cs #[Bv x2, s3] 39)] ∧ m_wide_check_2_j2 F x4 x2 x6 = some r) rfl ?_ ?_
  ·rcases Bool.eq_false_or_eq_true (decide ((x4.length : Int) > (4096 : Int))) with hb10 | hb10
   ·have hb10p := of_decide_eq_true hb10
    replace hm := hm_p hm hb10p
    refine O.skipB hf rfl rfl rfl hb10 rfl ?_; clear hf a; intro a hf
    refine O.skipB hf rfl rfl rfl hb10 rfl ?_; clear hf a; intro a hf
    refine O.skipB hf rfl rfl rfl hb10 rfl ?_; clear hf a; intro a hf
    refine O.skipU hf rfl rfl rfl rfl ?_; clear hf a; intro a hf
    refine O.skipU hf rfl rfl rfl rfl ?_; clear hf a; intro a hf
    refine O.skipU hf rfl rfl rfl rfl ?_; clear hf a; intro a hf
    refine O.skipU hf rfl rfl rfl rfl ?_; clear hf a; intro a hf
    refine O.skipU hf rfl rfl rfl rfl ?_; clear hf a; intro a hf
    refine O.skipU hf rfl rfl rfl rfl ?_; clear hf a; intro a hf
    refine O.skipU hf rfl rfl rfl rfl ?_; clear hf a; intro a hf
    refine O.skipB hf rfl rfl rfl hb10 rfl ?_; clear hf a; intro a hf
    refine O.val (v := Bv true) hf rfl rfl rfl (RunV.pick rfl rfl rfl (by rw [hb10]; rfl)) ?_; clear hf a; intro a hf
    exact O.nil ⟨rfl, true, hf.to ⟨rfl, rfl, rfl, rfl, rfl, rfl, rfl, rfl, rfl, rfl, rfl, rfl, rfl, rfl, rfl, rfl, trivial⟩, hS, hm⟩
   ·have hb10p := of_decide_eq_false hb10
    replace hm := hm_n hm hb10p
    refine O.gvalB hf rfl rfl rfl hb10 rfl rfl (RunV.move rfl) ?_; clear hf a; intro a hf
    refine O.gvalB (v := Bv (decide ((x4.length : Int) > (0 : Int)))) hf rfl rfl rfl hb10 rfl rfl (RunV.gtr rfl rfl) ?_; clear hf a; intro a hf
    refine O.gvalB hf rfl rfl rfl hb10 rfl rfl (RunV.move rfl) ?_; clear hf a; intro a hf
    refine O.cutN (l₁ := [6, 7, 8, 9, 10, 11, 12, 13]) (l₂ := _) (fun a w => ∃ (x11 : Bool), Fr a 39 [] [(2, Iv 0), (4, Pv b5 0), (5, Iv (x4.length : Int)), (6, .slice (some ⟨b1, 0, none⟩) 1 1), (7, Iv 1), (8, Iv 0), (9, Bv true), (10, Pv b1 0), (11, .agg #[Bv x2, s3]), (12, Pv b5 1), (13, s3), (14, Iv (x4.length : Int)), (15, Iv (x4.length : Int)), (16, Bv (decide ((x4.length : Int) > (4096 : Int)))), (17, Bv (decide ((x4.length : Int) > (4096 : Int)))), (18, Iv (x4.length : Int)), (19, Bv (decide ((x4.length : Int) > (0 : Int)))), (20, Bv (decide ((x4.length : Int) > (0 : Int)))), (28, Bv x11)] ∧ St w0 w noX [rdE 1 E98 s3 x4, pt b1 (Cs #[Bv x2, s3] 39)] [pt b5 (Cs #[Bv x2, s3] 39)] ∧ m_wide_check_2_j3 F x4 x2 x11 = some r) rfl ?_ ?_
    ·rcases Bool.eq_false_or_eq_true (decide ((x4.length : Int) > (0 : Int))) with hb12 | hb12
     ·have hb12p := of_decide_eq_true hb12
      replace hm := hm_p hm hb12p
      refine O.gvalB hf rfl rfl rfl hb12 rfl rfl (RunV.field T_field_39_1 rfl rfl) ?_; clear hf a; intro a hf
      refine O.gvalB hf rfl rfl rfl hb12 rfl rfl (RunV.load1 T_agg_37 rfl (hS.ptAt (i := 0) rfl) rfl) ?_; clear hf a; intro a hf
      refine O.gvalB hf rfl rfl rfl hb12 rfl rfl (RunV.move rfl) ?_; clear hf a; intro a hf
      refine O.gvalB (v := Iv (IntKind.i64.wrap ((x4.length : Int) - 1))) hf rfl rfl rfl hb12 rfl rfl (RunV.sub rfl rfl) ?_; clear hf a; intro a hf
      obtain ⟨x13, hx13, hm⟩ := hm_b hm
      refine O.gvalB hf rfl rfl rfl hb12 rfl rfl (RunV.ixE T_elem_37 T_size_98 rfl rfl (hS.rdB (j := 0) rfl) hx13) ?_; clear hf a; intro a hf
      refine O.gvalB hf rfl rfl rfl hb12 rfl rfl (RunV.ldE1 (o := 0) T_agg_98 E98_len rfl (hS.rdB (j := 0) rfl) hx13 rfl rfl) ?_; clear hf a; intro a hf
      refine O.gvalB (v := Bv (decide (x13 = (0 : Int)))) hf rfl rfl rfl hb12 rfl rfl (RunV.eql rfl rfl) ?_; clear hf a; intro a hf
      refine O.gvalB (v := Bv (decide (x13 = (0 : Int)))) hf rfl rfl rfl hb10 rfl rfl (RunV.pick rfl rfl rfl (by rw [hb12]; rfl)) ?_; clear hf a; intro a hf
      exact O.nil ⟨rfl, decide (x13 = (0 : Int)), hf.to ⟨rfl, rfl, rfl, rfl, rfl, rfl, rfl, rfl, rfl, rfl, rfl, rfl, rfl, rfl, rfl, rfl, rfl, rfl, rfl, trivial⟩, hS, hm⟩
     ·have hb12p := of_decide_eq_false hb12
      replace hm := hm_n hm hb12p
      refine O.skipB hf rfl rfl rfl hb12 rfl ?_; clear hf a; intro a hf
      refine O.skipB hf rfl rfl rfl hb12 rfl ?_; clear hf a; intro a hf
      refine O.skipB hf rfl rfl rfl hb12 rfl ?_; clear hf a; intro a hf
      refine O.skipB hf rfl rfl rfl hb12 rfl ?_; clear hf a; intro a hf
      refine O.skipB hf rfl rfl rfl hb12 rfl ?_; clear hf a; intro a hf
      refine O.skipB hf rfl rfl rfl hb12 rfl ?_; clear hf a; intro a hf
      refine O.skipB hf rfl rfl rfl hb12 rfl ?_; clear hf a; intro a hf
      refine O.gvalB (v := Bv false) hf rfl rfl rfl hb10 rfl rfl (RunV.pick rfl rfl rfl (by rw [hb12]; rfl)) ?_; clear hf a; intro a hf
      exact O.nil ⟨rfl, false, hf.to ⟨rfl, rfl, rfl, rfl, rfl, rfl, rfl, rfl, rfl, rfl, rfl, rfl, rfl, rfl, rfl, rfl, rfl, rfl, rfl, trivial⟩, hS, hm⟩
    clear hf hS hm a; try clear w
    rintro a w ⟨x11, hf, hS, hm⟩
    unfold m_wide_check_2_j3 at hm
    refine O.val (v := Bv x11) hf rfl rfl rfl (RunV.pick rfl rfl rfl (by rw [hb10]; rfl)) ?_; clear hf a; intro a hf
    exact O.nil ⟨rfl, x11, hf.to ⟨rfl, rfl, rfl, rfl, rfl, rfl, rfl, rfl, rfl, rfl, rfl, rfl, rfl, rfl, rfl, rfl, trivial⟩, hS, hm⟩
  clear hf hS hm a; try clear w
  rintro a w ⟨x6, hf, hS, hm⟩
  unfold m_wide_check_2_j2 at hm
  refine O.val hf rfl rfl rfl (RunV.move rfl) ?_; clear hf a; intro a hf
  refine O.cutN (l₁ := [16, 17, 18, 19, 20, 21, 22]) (l₂ := _) (fun a w => Fr a 39 [] [(2, Iv 0), (4, Pv b5 0), (5, Iv (x4.length : Int)), (6, .slice (some ⟨b1, 0, none⟩) 1 1), (7, Iv 1), (8, Iv 0), (9, Bv true), (10, Pv b1 0), (11, .agg #[Bv x2, s3]), (12, Pv b5 1), (13, s3), (14, Iv (x4.length : Int)), (15, Iv (x4.length : Int)), (16, Bv (decide ((x4.length : Int) > (4096 : Int)))), (17, Bv (decide ((x4.length : Int) > (4096 : Int)))), (29, Bv x6), (30, Bv x6), (37, Bv (x6 || ((decide ((x4.length : Int) = (0 : Int))) && x2)))] ∧ St w0 w noX [rdE 1 E98 s3 x4, pt b1 (Cs #[Bv x2, s3] 39)] [pt b5 (Cs #[Bv x2, s3] 39)]) rfl ?_ ?_
  ·rcases Bool.eq_false_or_eq_true (x6) with hb7 | hb7
   ·refine O.skipB hf rfl rfl rfl hb7 rfl ?_; clear hf a; intro a hf
    refine O.skipB hf rfl rfl rfl hb7 rfl ?_; clear hf a; intro a hf
    refine O.skipB hf rfl rfl rfl hb7 rfl ?_; clear hf a; intro a hf
    refine O.skipU hf rfl rfl rfl rfl ?_; clear hf a; intro a hf
    refine O.skipU hf rfl rfl rfl rfl ?_; clear hf a; intro a hf
    refine O.skipB hf rfl rfl rfl hb7 rfl ?_; clear hf a; intro a hf
    refine O.val (v := Bv (x6 || ((decide ((x4.length : Int) = (0 : Int))) && x2))) hf rfl rfl rfl (RunV.pick rfl rfl rfl (by rw [hb7]; rfl)) ?_; clear hf a; intro a hf
    exact O.nil ⟨rfl, hf.to ⟨rfl, rfl, rfl, rfl, rfl, rfl, rfl, rfl, rfl, rfl, rfl, rfl, rfl, rfl, rfl, rfl, rfl, rfl, trivial⟩, hS⟩
   ·refine O.gvalB hf rfl rfl rfl hb7 rfl rfl (RunV.move rfl) ?_; clear hf a; intro a hf
    refine O.gvalB (v := Bv (decide ((x4.length : Int) = (0 : Int)))) hf rfl rfl rfl hb7 rfl rfl (RunV.eql rfl rfl) ?_; clear hf a; intro a hf
    refine O.gvalB hf rfl rfl rfl hb7 rfl rfl (RunV.move rfl) ?_; clear hf a; intro a hf
    refine O.cutN (l₁ := [19, 20, 21]) (l₂ := _) (fun a w => Fr a 39 [] [(2, Iv 0), (4, Pv b5 0), (5, Iv (x4.length : Int)), (6, .slice (some ⟨b1, 0, none⟩) 1 1), (7, Iv 1), (8, Iv 0), (9, Bv true), (10, Pv b1 0), (11, .agg #[Bv x2, s3]), (12, Pv b5 1), (13, s3), (14, Iv (x4.length : Int)), (15, Iv (x4.length : Int)), (16, Bv (decide ((x4.length : Int) > (4096 : Int)))), (17, Bv (decide ((x4.length : Int) > (4096 : Int)))), (29, Bv x6), (30, Bv x6), (31, Iv (x4.length : Int)), (32, Bv (decide ((x4.length : Int) = (0 : Int)))), (33, Bv (decide ((x4.length : Int) = (0 : Int)))), (36, Bv ((decide ((x4.length : Int) = (0 : Int))) && x2))] ∧ St w0 w noX [rdE 1 E98 s3 x4, pt b1 (Cs #[Bv x2, s3] 39)] [pt b5 (Cs #[Bv x2, s3] 39)]) rfl ?_ ?_
    ·rcases Bool.eq_false_or_eq_true (decide ((x4.length : Int) = (0 : Int))) with hb8 | hb8
     ·refine O.gvalB hf rfl rfl rfl hb8 rfl rfl (RunV.field T_field_39_0 rfl rfl) ?_; clear hf a; intro a hf
      refine O.gvalB hf rfl rfl rfl hb8 rfl rfl (RunV.load1 T_agg_4 rfl (hS.ptAt (i := 0) rfl) rfl) ?_; clear hf a; intro a hf
      refine O.gvalB (v := Bv ((decide ((x4.length : Int) = (0 : Int))) && x2)) hf rfl rfl rfl hb7 rfl rfl (RunV.pick rfl rfl rfl (by rw [hb8]; rfl)) ?_; clear hf a; intro a hf
      exact O.nil ⟨rfl, hf.to ⟨rfl, rfl, rfl, rfl, rfl, rfl, rfl, rfl, rfl, rfl, rfl, rfl, rfl, rfl, rfl, rfl, rfl, rfl, rfl, rfl, rfl, trivial⟩, hS⟩
     ·refine O.skipB hf rfl rfl rfl hb8 rfl ?_; clear hf a; intro a hf
      refine O.skipB hf rfl rfl rfl hb8 rfl ?_; clear hf a; intro a hf
      refine O.gvalB (v := Bv ((decide ((x4.length : Int) = (0 : Int))) && x2)) hf rfl rfl rfl hb7 rfl rfl (RunV.pick rfl rfl rfl (by rw [hb8]; rfl)) ?_; clear hf a; intro a hf
      exact O.nil ⟨rfl, hf.to ⟨rfl, rfl, rfl, rfl, rfl, rfl, rfl, rfl, rfl, rfl, rfl, rfl, rfl, rfl, rfl, rfl, rfl, rfl, rfl, rfl, rfl, trivial⟩, hS⟩
    clear hf hS a; try clear w
    rintro a w ⟨hf, hS⟩
    refine O.val (v := Bv (x6 || ((decide ((x4.length : Int) = (0 : Int))) && x2))) hf rfl rfl rfl (RunV.pick rfl rfl rfl (by rw [hb7]; rfl)) ?_; clear hf a; intro a hf
    exact O.nil ⟨rfl, hf.to ⟨rfl, rfl, rfl, rfl, rfl, rfl, rfl, rfl, rfl, rfl, rfl, rfl, rfl, rfl, rfl, rfl, rfl, rfl, trivial⟩, hS⟩
  clear hf hS a; try clear w
  rintro a w ⟨hf, hS⟩
  refine O.nil ?_
  refine k_seq ?_
  refine W.if_ hf rfl (fun hc9 => ?_) (fun hc9 => ?_)
  ·replace hm := hm_t hm hc9
   refine W.seq ?_
   refine W.regionL (l := [0]) rfl ?_
   refine O.val hf rfl rfl rfl (RunV.assign rfl) ?_; clear hf a; intro a hf
   refine O.nil ?_
   refine k_seq ?_
   refine W.ret ?_
   refine k_blk_ret ?_
   refine k_then_ret ?_
   refine k_then_ret ?_
   refine k_blk_ret ?_
   refine k_then_ret ?_
   obtain rfl := Option.some.inj hm
   refine post1 hf rfl (ResOK.tmp rfl) ?_
   replace hS := hS.sub (N := []) (.cons _ .slnil)
   exact ⟨(), rfl, hS.noB⟩
  ·replace hm := hm_f hm hc9
   refine W.skip ?_
   refine k_blk_normal ?_
   refine k_seq ?_
   refine W.regionL (l := [0, 1]) rfl ?_
   refine O.val (v := Iv 1) hf rfl rfl rfl (RunV.add (p := 0) (q := 1) rfl rfl) ?_; clear hf a; intro a hf
   refine O.val hf rfl rfl rfl (RunV.move rfl) ?_; clear hf a; intro a hf
   refine O.nil ?_
   refine k_then (LH.step ?_)
   refine W.seq ?_
   refine W.regionL (l := [0]) rfl ?_
   refine O.val (v := Bv false) hf rfl rfl rfl (RunV.lss (p := 1) (q := 1) rfl rfl) ?_; clear hf a; intro a hf
   refine O.nil ?_
   refine k_seq ?_
   refine W.seq ?_
   refine W.if_ff hf rfl ?_
   refine W.exit ?_
   refine k_then_exit ?_
   refine k_then_exit ?_
   refine k_blk ?_
   replace hS := hS.sub (N := []) (.cons _ .slnil)
   exact k_then ⟨hf.to ⟨rfl, trivial⟩, hS, hm⟩
 ·clear hf hS hm a; try clear w
  rintro a w ⟨hf, hS, hm⟩
  unfold m_wide_check_2_j1 at hm
  refine W.seq ?_
  refine W.regionL (l := [0]) rfl ?_
  refine O.val hf rfl rfl rfl (RunV.assign rfl) ?_; clear hf a; intro a hf
  refine O.nil ?_
  refine k_seq ?_
  refine W.ret ?_
  obtain rfl := Option.some.inj hm
  refine post1 hf rfl (ResOK.tmp rfl) ?_
  exact ⟨(), rfl, hS.noB⟩

def m_math_bits_Len32_j1 (F : Nat) (x4 : Int) (x5 : Int) : Option Int :=
  (strIdx strc1 (IntKind.u8.wrap x4)).bind fun x6 => (some (IntKind.i64.wrap (x5 + (IntKind.i64.wrap x6)))).bind fun x7 => some x7
def m_math_bits_Len32_j2 (F : Nat) (x2 : Int) (x3 : Int) : Option Int :=
  if x2 ≥ (256 : Int) then (m_math_bits_Len32_j1 F (Int.fdiv x2 (2 ^ 8)) (IntKind.i64.wrap (x3 + 8))) else (m_math_bits_Len32_j1 F x2 x3)
def m_math_bits_Len32 (F : Nat)  (x1 : Int) : Option Int :=
  if x1 ≥ (65536 : Int) then (m_math_bits_Len32_j2 F (Int.fdiv x1 (2 ^ 16)) 16) else (m_math_bits_Len32_j2 F x1 0)
set_option maxHeartbeats 1000000 in
set_option maxRecDepth 8000 in
theorem m_math_bits_Len32_ok (F : Nat)    (x1 : Int) (w0 : World)  (r : Int) (hm : m_math_bits_Len32 F x1 = some r) :
    Ret Try.prog 77 #[.int .u32 x1] w0 (G := Unit) (fun _ => Iv r) (fun _ w => St w0 w noX [] []) := by
 unfold m_math_bits_Len32 at hm
 refine ret_of_W (lv := [.int .u32 x1]) Try.func77 rfl rfl rfl (fun a hf => ?_)
 replace hf : Fr a 19 [] [(0, .int .u32 x1)] := hf
 have hS : St w0 w0 noX [] [] := St.borrow lendAll_nil
 refine W.seq ?_
 refine W.regionL (l := [0]) rfl ?_
 refine O.val hf rfl rfl rfl (RunV.assign rfl) ?_; clear hf a; intro a hf
 refine O.nil ?_
 refine k_seq ?_
 refine W.seqR (fun a w => ∃ (x2 : Int) (x3 : Int), Fr a 19 [] [(0, .int .u32 x2), (2, Iv x3)] ∧ St w0 w noX [] [] ∧ m_math_bits_Len32_j2 F x2 x3 = some r) ?_ ?_
 ·refine W.seq ?_
  refine W.regionL (l := [0, 1]) rfl ?_
  refine O.val hf rfl rfl rfl (RunV.move rfl) ?_; clear hf a; intro a hf
  refine O.val (v := Bv (decide (x1 ≥ (65536 : Int)))) hf rfl rfl rfl (RunV.geq rfl rfl) ?_; clear hf a; intro a hf
  refine O.nil ?_
  refine k_seq ?_
  replace hf : Fr a 19 [] [(0, .int .u32 x1), (2, Iv 0), (4, Bv (decide (x1 ≥ (65536 : Int))))] := hf.to ⟨rfl, rfl, rfl, trivial⟩
  refine W.ifdI hf rfl (fun hc9 => ?_) (fun hc9 => ?_)
  ·replace hm := hm_p hm hc9
   refine W.seq ?_
   refine W.regionL (l := [0, 1, 2]) rfl ?_
   refine O.val hf rfl rfl rfl (RunV.move rfl) ?_; clear hf a; intro a hf
   refine O.val (v := .int .u32 (Int.fdiv x1 (2 ^ 16))) hf rfl rfl rfl (RunV.shr (q := 16) rfl rfl (by decide)) ?_; clear hf a; intro a hf
   refine O.val hf rfl rfl rfl (RunV.assign rfl) ?_; clear hf a; intro a hf
   refine O.nil ?_
   refine k_seq ?_
   replace hf : Fr a 19 [] [(0, .int .u32 (Int.fdiv x1 (2 ^ 16))), (2, Iv 0)] := hf.to ⟨rfl, rfl, trivial⟩
   refine W.regionL (l := [0]) rfl ?_
   refine O.val hf rfl rfl rfl (RunV.assign rfl) ?_; clear hf a; intro a hf
   refine O.nil ?_
   exact k_then ⟨Int.fdiv x1 (2 ^ 16), 16, hf.to ⟨rfl, rfl, trivial⟩, hS, hm⟩
  ·replace hm := hm_n hm hc9
   refine W.skip ?_
   exact k_then ⟨x1, 0, hf.to ⟨rfl, rfl, trivial⟩, hS, hm⟩
 ·clear hf hS hm a; try clear w
  rintro a w ⟨x2, x3, hf, hS, hm⟩
  unfold m_math_bits_Len32_j2 at hm
  refine W.seqR (fun a w => ∃ (x4 : Int) (x5 : Int), Fr a 19 [] [(0, .int .u32 x4), (2, Iv x5)] ∧ St w0 w noX [] [] ∧ m_math_bits_Len32_j1 F x4 x5 = some r) ?_ ?_
  ·refine W.seq ?_
   refine W.regionL (l := [0, 1]) rfl ?_
   refine O.val hf rfl rfl rfl (RunV.move rfl) ?_; clear hf a; intro a hf
   refine O.val (v := Bv (decide (x2 ≥ (256 : Int)))) hf rfl rfl rfl (RunV.geq rfl rfl) ?_; clear hf a; intro a hf
   refine O.nil ?_
   refine k_seq ?_
   replace hf : Fr a 19 [] [(0, .int .u32 x2), (2, Iv x3), (8, Bv (decide (x2 ≥ (256 : Int))))] := hf.to ⟨rfl, rfl, rfl, trivial⟩
   refine W.ifdI hf rfl (fun hc8 => ?_) (fun hc8 => ?_)
   ·replace hm := hm_p hm hc8
    refine W.seq ?_
    refine W.regionL (l := [0, 1, 2]) rfl ?_
    refine O.val hf rfl rfl rfl (RunV.move rfl) ?_; clear hf a; intro a hf
    refine O.val (v := .int .u32 (Int.fdiv x2 (2 ^ 8))) hf rfl rfl rfl (RunV.shr (q := 8) rfl rfl (by decide)) ?_; clear hf a; intro a hf
    refine O.val hf rfl rfl rfl (RunV.assign rfl) ?_; clear hf a; intro a hf
    refine O.nil ?_
    refine k_seq ?_
    replace hf : Fr a 19 [] [(0, .int .u32 (Int.fdiv x2 (2 ^ 8))), (2, Iv x3)] := hf.to ⟨rfl, rfl, trivial⟩
    refine W.regionL (l := [0, 1, 2]) rfl ?_
    refine O.val hf rfl rfl rfl (RunV.move rfl) ?_; clear hf a; intro a hf
    refine O.val (v := Iv (IntKind.i64.wrap (x3 + 8))) hf rfl rfl rfl (RunV.add rfl rfl) ?_; clear hf a; intro a hf
    refine O.val hf rfl rfl rfl (RunV.assign rfl) ?_; clear hf a; intro a hf
    refine O.nil ?_
    exact k_then ⟨Int.fdiv x2 (2 ^ 8), IntKind.i64.wrap (x3 + 8), hf.to ⟨rfl, rfl, trivial⟩, hS, hm⟩
   ·replace hm := hm_n hm hc8
    refine W.skip ?_
    exact k_then ⟨x2, x3, hf.to ⟨rfl, rfl, trivial⟩, hS, hm⟩
  ·clear hf hS hm a; try clear w
   rintro a w ⟨x4, x5, hf, hS, hm⟩
   unfold m_math_bits_Len32_j1 at hm
   refine W.seq ?_
   refine W.regionL (l := [0, 1, 2, 3, 4, 5, 6]) rfl ?_
   refine O.val hf rfl rfl rfl (RunV.move rfl) ?_; clear hf a; intro a hf
   refine O.val hf rfl rfl rfl (RunV.move rfl) ?_; clear hf a; intro a hf
   refine O.val (v := .int .u8 (IntKind.u8.wrap x4)) hf rfl rfl rfl (RunV.conv T_und_98 T_int_5 rfl) ?_; clear hf a; intro a hf
   obtain ⟨x6, hx6, hm⟩ := hm_b hm
   refine O.val hf rfl rfl rfl (RunV.indexStr T_string_9 rfl rfl hx6) ?_; clear hf a; intro a hf
   refine O.val (v := Iv (IntKind.i64.wrap x6)) hf rfl rfl rfl (RunV.conv T_und_5 T_int_3 rfl) ?_; clear hf a; intro a hf
   refine O.val (v := Iv (IntKind.i64.wrap (x5 + (IntKind.i64.wrap x6)))) hf rfl rfl rfl (RunV.add rfl rfl) ?_; clear hf a; intro a hf
   refine O.val hf rfl rfl rfl (RunV.assign rfl) ?_; clear hf a; intro a hf
   refine O.nil ?_
   refine k_seq ?_
   replace hf : Fr a 19 [] [(2, Iv (IntKind.i64.wrap (x5 + (IntKind.i64.wrap x6))))] := hf.to ⟨rfl, trivial⟩
   obtain ⟨x7, hx7, hm⟩ := hm_b hm
   rw [Option.some.inj hx7] at hf
   refine W.ret ?_
   obtain rfl := Option.some.inj hm
   refine post1 hf rfl (ResOK.tmp rfl) ?_
   exact ⟨(), rfl, hS.noB⟩

def m_wide_Bits (F : Nat)  (x1 : Bool) (x3 : List Int) : Option (Int × Int) :=
  (m_wide_check_2 F x1 x3).bind fun x6 => if ((decide (x6 ≠ (0 : Int))) || (decide ((x3.length : Int) = (0 : Int)))) = true then (some (0, x6)) else ((some (IntKind.i64.wrap ((x3.length : Int) - 1))).bind fun x9 => (idx x3 x9).bind fun x10 => (m_math_bits_Len32 F x10).bind fun x11 => (some (IntKind.i64.wrap ((IntKind.i64.wrap (32 * x9)) + x11))).bind fun x12 => some (x12, 0))
set_option maxHeartbeats 1000000 in
set_option maxRecDepth 8000 in
theorem m_wide_Bits_ok (F : Nat)    (x1 : Bool) (s2 : Value) (x3 : List Int) (w0 : World) (h_s2 : rdEOK (hp w0) 1 E98 s2 x3) (r : Int × Int) (hm : m_wide_Bits F x1 x3 = some r) :
    Ret Try.prog 53 #[.agg #[Bv x1, s2]] w0 (G := Unit) (fun _ => .tuple #[Iv r.1, Iv r.2]) (fun _ w => St w0 w noX [] []) := by
 unfold m_wide_Bits at hm
 refine ret_of_W (lv := [.agg #[Bv x1, s2]]) Try.func53 rfl rfl rfl (fun a hf => ?_)
 replace hf : Fr a 31 [] [(0, .agg #[Bv x1, s2])] := hf
 have hS : St w0 w0 noX [rdE 1 E98 s2 x3] [] := St.borrow (lendAll_cons (lendRd h_s2) lendAll_nil)
 refine W.seq ?_
 refine W.regionL (l := [0, 1, 2]) rfl ?_
 refine O.box (cs := #[Bv x1, s2]) hf hS rfl rfl rfl rfl ?_
 clear hf hS a; intro b4 w a hb4 hS hf
 refine O.val hf rfl rfl rfl (RunV.assign rfl) ?_; clear hf a; intro a hf
 refine O.val hf rfl rfl rfl (RunV.assign rfl) ?_; clear hf a; intro a hf
 refine O.nil ?_
 refine k_seq ?_
 replace hf : Fr a 31 [] [(1, Pv b4 0), (2, Iv 0), (3, Iv 0)] := hf.to ⟨rfl, rfl, rfl, trivial⟩
 refine W.seq ?_
 refine W.seq ?_
 refine W.regionL (l := [0, 1, 2, 3]) rfl ?_
 refine O.val hf rfl rfl rfl (RunV.loadN (cs' := #[Bv x1, s2]) T_agg_39 T_size_39 rfl (hS.ptAt (i := 0) rfl) (Nat.le_of_ble_eq_true rfl) rfl) ?_; clear hf a; intro a hf
 refine O.buildSlice (cs' := #[Bv x1, s2]) (zs := #[Bv false, .slice none 0 0]) hf hS rfl rfl T_elem_124 T_size_39 T_zero_39 rfl rfl rfl rfl rfl ?_
 clear hf hS a; intro b5 w a hb5 hS hf
 obtain ⟨x6, hx6, hm⟩ := hm_b hm
 refine O.callR hf rfl rfl rfl (RunE.call (av := #[.slice (some ⟨b5, 0, none⟩) 1 1]) C_ok_51 rfl rfl rfl) (m_wide_check_2_ok F b5 x1 s2 x3 _ (hS.rdB (j := 0) rfl) (hS.ptAt (i := 0) rfl) x6 hx6) ?_
 clear hf a; rintro _ w hS1 a hf
 replace hf : Fr a _ _ ((8, Iv x6) :: _) := hf
 replace hS := (hS.call hS1).eqM (N := [pt b5 (Cs #[Bv x1, s2] 39), pt b4 (Cs #[Bv x1, s2] 39)]) rfl
 clear hS1
 refine O.val hf rfl rfl rfl (RunV.assign rfl) ?_; clear hf a; intro a hf
 refine O.nil ?_
 refine k_seq ?_
 replace hf : Fr a 31 [] [(1, Pv b4 0), (2, Iv 0), (3, Iv 0), (4, Iv x6)] := hf.to ⟨rfl, rfl, rfl, rfl, trivial⟩
 refine W.seq ?_
 refine W.regionL (l := [0, 1, 2, 3, 4, 5, 6, 7]) rfl ?_
 refine O.val hf rfl rfl rfl (RunV.move rfl) ?_; clear hf a; intro a hf
 refine O.val (v := Bv (decide (x6 ≠ (0 : Int)))) hf rfl rfl rfl (RunV.neq rfl rfl) ?_; clear hf a; intro a hf
 refine O.val hf rfl rfl rfl (RunV.move rfl) ?_; clear hf a; intro a hf
 refine O.cutN (l₁ := [3, 4, 5, 6, 7]) (l₂ := _) (fun a w => Fr a 31 [] [(1, Pv b4 0), (2, Iv 0), (3, Iv 0), (4, Iv x6), (16, Bv ((decide (x6 ≠ (0 : Int))) || (decide ((x3.length : Int) = (0 : Int)))))] ∧ St w0 w noX [rdE 1 E98 s2 x3] [pt b5 (Cs #[Bv x1, s2] 39), pt b4 (Cs #[Bv x1, s2] 39)]) rfl ?_ ?_
 ·rcases Bool.eq_false_or_eq_true (decide (x6 ≠ (0 : Int))) with hb7 | hb7
  ·refine O.skipB hf rfl rfl rfl hb7 rfl ?_; clear hf a; intro a hf
   refine O.skipB hf rfl rfl rfl hb7 rfl ?_; clear hf a; intro a hf
   refine O.skipB hf rfl rfl rfl hb7 rfl ?_; clear hf a; intro a hf
   refine O.skipB hf rfl rfl rfl hb7 rfl ?_; clear hf a; intro a hf
   refine O.val (v := Bv ((decide (x6 ≠ (0 : Int))) || (decide ((x3.length : Int) = (0 : Int))))) hf rfl rfl rfl (RunV.pick rfl rfl rfl (by rw [hb7]; rfl)) ?_; clear hf a; intro a hf
   exact O.nil ⟨rfl, hf.to ⟨rfl, rfl, rfl, rfl, rfl, trivial⟩, hS⟩
  ·refine O.gvalB hf rfl rfl rfl hb7 rfl rfl (RunV.field T_field_39_1 rfl rfl) ?_; clear hf a; intro a hf
   refine O.gvalB hf rfl rfl rfl hb7 rfl rfl (RunV.load1 T_agg_37 rfl (hS.ptAt (i := 1) rfl) rfl) ?_; clear hf a; intro a hf
   refine O.gvalB (v := Iv (x3.length : Int)) hf rfl rfl rfl hb7 rfl rfl (RunV.lenE (e := 98) (by simpa using T_elem_37) rfl (hS.rdB (j := 0) rfl)) ?_; clear hf a; intro a hf
   refine O.gvalB (v := Bv (decide ((x3.length : Int) = (0 : Int)))) hf rfl rfl rfl hb7 rfl rfl (RunV.eql rfl rfl) ?_; clear hf a; intro a hf
   refine O.val (v := Bv ((decide (x6 ≠ (0 : Int))) || (decide ((x3.length : Int) = (0 : Int))))) hf rfl rfl rfl (RunV.pick rfl rfl rfl (by rw [hb7]; rfl)) ?_; clear hf a; intro a hf
   exact O.nil ⟨rfl, hf.to ⟨rfl, rfl, rfl, rfl, rfl, trivial⟩, hS⟩
 clear hf hS a; try clear w
 rintro a w ⟨hf, hS⟩
 refine O.nil ?_
 refine k_seq ?_
 refine W.if_ hf rfl (fun hc8 => ?_) (fun hc8 => ?_)
 ·replace hm := hm_t hm hc8
  refine W.seq ?_
  refine W.regionL (l := [0, 1, 2]) rfl ?_
  refine O.val hf rfl rfl rfl (RunV.move rfl) ?_; clear hf a; intro a hf
  refine O.val hf rfl rfl rfl (RunV.assign rfl) ?_; clear hf a; intro a hf
  refine O.val hf rfl rfl rfl (RunV.assign rfl) ?_; clear hf a; intro a hf
  refine O.nil ?_
  refine k_seq ?_
  replace hf : Fr a 31 [] [(1, Pv b4 0), (2, Iv 0), (3, Iv x6)] := hf.to ⟨rfl, rfl, rfl, trivial⟩
  refine W.ret ?_
  refine k_then_ret ?_
  obtain rfl := Option.some.inj hm
  refine post2 hf rfl (ResOK.tmp rfl) (ResOK.tmp rfl) ?_
  replace hS := hS.sub (N := []) (.cons _ (.cons _ .slnil))
  exact ⟨(), rfl, hS.noB⟩
 ·replace hm := hm_f hm hc8
  refine W.skip ?_
  refine k_seq ?_
  replace hf : Fr a 31 [] [(1, Pv b4 0), (2, Iv 0), (3, Iv 0)] := hf.to ⟨rfl, rfl, rfl, trivial⟩
  refine W.seq ?_
  refine W.regionL (l := [0, 1, 2, 3, 4]) rfl ?_
  refine O.val hf rfl rfl rfl (RunV.field T_field_39_1 rfl rfl) ?_; clear hf a; intro a hf
  refine O.val hf rfl rfl rfl (RunV.load1 T_agg_37 rfl (hS.ptAt (i := 1) rfl) rfl) ?_; clear hf a; intro a hf
  refine O.val (v := Iv (x3.length : Int)) hf rfl rfl rfl (RunV.lenE (e := 98) (by simpa using T_elem_37) rfl (hS.rdB (j := 0) rfl)) ?_; clear hf a; intro a hf
  refine O.val (v := Iv (IntKind.i64.wrap ((x3.length : Int) - 1))) hf rfl rfl rfl (RunV.sub rfl rfl) ?_; clear hf a; intro a hf
  refine O.val hf rfl rfl rfl (RunV.assign rfl) ?_; clear hf a; intro a hf
  refine O.nil ?_
  refine k_seq ?_
  replace hf : Fr a 31 [] [(1, Pv b4 0), (2, Iv 0), (3, Iv 0), (5, Iv (IntKind.i64.wrap ((x3.length : Int) - 1)))] := hf.to ⟨rfl, rfl, rfl, rfl, trivial⟩
  obtain ⟨x9, hx9, hm⟩ := hm_b hm
  rw [Option.some.inj hx9] at hf
  refine W.seq ?_
  refine W.regionL (l := [0, 1, 2, 3, 4, 5, 6, 7, 8, 9, 10]) rfl ?_
  refine O.val hf rfl rfl rfl (RunV.move rfl) ?_; clear hf a; intro a hf
  refine O.val (v := Iv (IntKind.i64.wrap (32 * x9))) hf rfl rfl rfl (RunV.mul rfl rfl) ?_; clear hf a; intro a hf
  refine O.val hf rfl rfl rfl (RunV.field T_field_39_1 rfl rfl) ?_; clear hf a; intro a hf
  refine O.val hf rfl rfl rfl (RunV.load1 T_agg_37 rfl (hS.ptAt (i := 1) rfl) rfl) ?_; clear hf a; intro a hf
  refine O.val hf rfl rfl rfl (RunV.move rfl) ?_; clear hf a; intro a hf
  obtain ⟨x10, hx10, hm⟩ := hm_b hm
  refine O.val hf rfl rfl rfl (RunV.ixE T_elem_37 T_size_98 rfl rfl (hS.rdB (j := 0) rfl) hx10) ?_; clear hf a; intro a hf
  refine O.val hf rfl rfl rfl (RunV.ldE1 (o := 0) T_agg_98 E98_len rfl (hS.rdB (j := 0) rfl) hx10 rfl rfl) ?_; clear hf a; intro a hf
  obtain ⟨x11, hx11, hm⟩ := hm_b hm
  refine O.callR hf rfl rfl rfl (RunE.call (av := #[.int .u32 x10]) C_ok_77 rfl rfl rfl) (m_math_bits_Len32_ok F x10 _ x11 hx11) ?_
  clear hf a; rintro _ w hS1 a hf
  replace hf : Fr a _ _ ((29, Iv x11) :: _) := hf
  replace hS := (hS.call hS1).eqM (N := [pt b5 (Cs #[Bv x1, s2] 39), pt b4 (Cs #[Bv x1, s2] 39)]) rfl
  clear hS1
  refine O.val (v := Iv (IntKind.i64.wrap ((IntKind.i64.wrap (32 * x9)) + x11))) hf rfl rfl rfl (RunV.add rfl rfl) ?_; clear hf a; intro a hf
  refine O.val hf rfl rfl rfl (RunV.assign rfl) ?_; clear hf a; intro a hf
  refine O.val hf rfl rfl rfl (RunV.assign rfl) ?_; clear hf a; intro a hf
  refine O.nil ?_
  refine k_seq ?_
  replace hf : Fr a 31 [] [(2, Iv (IntKind.i64.wrap ((IntKind.i64.wrap (32 * x9)) + x11))), (3, Iv 0)] := hf.to ⟨rfl, rfl, trivial⟩
  obtain ⟨x12, hx12, hm⟩ := hm_b hm
  rw [Option.some.inj hx12] at hf
  refine W.ret ?_
  obtain rfl := Option.some.inj hm
  refine post2 hf rfl (ResOK.tmp rfl) (ResOK.tmp rfl) ?_
  replace hS := hS.sub (N := []) (.cons _ (.cons _ .slnil))
  exact ⟨(), rfl, hS.noB⟩

def m_wide_left_j1 (F : Nat) (x7 : List Int) (x8 : Int) : Option (List Int) :=
  if (x7.length : Int) ≤ 4294967296 then some (x7 ++ [IntKind.u32.wrap x8]) else none
def m_wide_left (F : Nat)  (x2 : Int) (x3 : Int) : Option (List Int) :=
  if 0 ≤ (IntKind.i64.wrap (Int.tdiv x3 32)) ∧ (IntKind.i64.wrap (Int.tdiv x3 32)) ≤ (IntKind.i64.wrap ((IntKind.i64.wrap ((IntKind.i64.wrap (Int.tdiv x3 32)) + 1)) + 1)) ∧ (IntKind.i64.wrap ((IntKind.i64.wrap ((IntKind.i64.wrap (Int.tdiv x3 32)) + 1)) + 1)) ≤ 4294967296 then if 0 ≤ (Int.tmod x3 32) then (some (IntKind.u64.wrap ((IntKind.u64.wrap x2) * 2 ^ (min (Int.toNat (Int.tmod x3 32)) (IntKind.bits .u64))))).bind fun x13 => (some (bitor .u64 0 x13)).bind fun x14 => if ((List.replicate (Int.toNat (IntKind.i64.wrap (Int.tdiv x3 32))) (0 : Int)).length : Int) ≤ 4294967296 then m_wide_left_j1 F ((List.replicate (Int.toNat (IntKind.i64.wrap (Int.tdiv x3 32))) (0 : Int)) ++ [IntKind.u32.wrap x14]) (Int.fdiv x14 (2 ^ 32)) else none else none else none
set_option maxHeartbeats 1000000 in
set_option maxRecDepth 8000 in
theorem m_wide_left_ok (F : Nat)    (b1 : Nat) (x2 : Int) (x3 : Int) (w0 : World) (h_b1 : w0.heap[b1]? = some (.cells #[.int .u32 x2] 98 (0, 0))) (r : List Int) (hm : m_wide_left F x2 x3 = some r) :
    Ret Try.prog 55 #[.slice (some ⟨b1, 0, none⟩) 1 1, Iv x3] w0 (G := Value) (fun g1 => g1) (fun g1 w => St w0 w noX [] [slE 98 1 E98 g1 r]) := by
 unfold m_wide_left at hm
 refine ret_of_W (lv := [.slice (some ⟨b1, 0, none⟩) 1 1, Iv x3]) Try.func55 rfl rfl rfl (fun a hf => ?_)
 replace hf : Fr a 44 [] [(0, .slice (some ⟨b1, 0, none⟩) 1 1), (1, Iv x3)] := hf
 have hS : St w0 w0 noX [pt b1 (Cs #[.int .u32 x2] 98)] [] := St.borrow (lendAll_cons (lendPt h_b1) lendAll_nil)
 refine W.seq ?_
 refine W.regionL (l := [0]) rfl ?_
 refine O.val hf rfl rfl rfl (RunV.assign rfl) ?_; clear hf a; intro a hf
 refine O.nil ?_
 refine k_seq ?_
 refine W.seq ?_
 refine W.regionL (l := [0, 1, 2, 3, 4, 5, 6, 7, 8, 9]) rfl ?_
 refine O.val hf rfl rfl rfl (RunV.move rfl) ?_; clear hf a; intro a hf
 refine O.val (v := Iv (IntKind.i64.wrap (Int.tdiv x3 32))) hf rfl rfl rfl (RunV.quo (q := 32) rfl rfl (by decide)) ?_; clear hf a; intro a hf
 refine O.val hf rfl rfl rfl (RunV.move rfl) ?_; clear hf a; intro a hf
 refine O.val (v := Iv (IntKind.i64.wrap (Int.tdiv x3 32))) hf rfl rfl rfl (RunV.quo (q := 32) rfl rfl (by decide)) ?_; clear hf a; intro a hf
 refine O.val hf rfl rfl rfl (RunV.move rfl) ?_; clear hf a; intro a hf
 refine O.val (v := Iv 1) hf rfl rfl rfl (RunV.len (e := 98) (by simpa using T_elem_37) rfl) ?_; clear hf a; intro a hf
 refine O.val (v := Iv (IntKind.i64.wrap ((IntKind.i64.wrap (Int.tdiv x3 32)) + 1))) hf rfl rfl rfl (RunV.add rfl rfl) ?_; clear hf a; intro a hf
 refine O.val (v := Iv (IntKind.i64.wrap ((IntKind.i64.wrap ((IntKind.i64.wrap (Int.tdiv x3 32)) + 1)) + 1))) hf rfl rfl rfl (RunV.add rfl rfl) ?_; clear hf a; intro a hf
 obtain ⟨hg4, hm⟩ := hm_g hm
 refine O.makeCapE (enc := E98) (x0 := (0 : Int)) hf hS rfl rfl T_elem_37 T_size_98 T_bytes_98 T_zero_98 rfl rfl rfl hg4 rfl E98_len rfl ?_
 clear hf hS a; intro s5 w a hS hf
 refine O.val hf rfl rfl rfl (RunV.assign rfl) ?_; clear hf a; intro a hf
 refine O.nil ?_
 refine k_seq ?_
 replace hf : Fr a 44 [] [(0, .slice (some ⟨b1, 0, none⟩) 1 1), (1, Iv x3), (4, .slice none 0 0), (5, s5)] := hf.to ⟨rfl, rfl, rfl, rfl, trivial⟩
 refine W.seq ?_
 refine W.regionL (l := [0]) rfl ?_
 refine O.val hf rfl rfl rfl (RunV.assign rfl) ?_; clear hf a; intro a hf
 refine O.nil ?_
 refine k_seq ?_
 refine W.seqR (fun a w => ∃ (s6 : Value) (x7 : List Int) (x8 : Int), Fr a 44 [] [(4, .slice none 0 0), (5, s6), (6, Uv x8)] ∧ St w0 w noX [pt b1 (Cs #[.int .u32 x2] 98)] [slE 98 1 E98 s6 x7] ∧ m_wide_left_j1 F x7 x8 = some r) ?_ ?_
 ·refine W.seq ?_
  refine W.regionL (l := [0, 1, 2]) rfl ?_
  refine O.val hf rfl rfl rfl (RunV.move rfl) ?_; clear hf a; intro a hf
  refine O.val (v := Iv 1) hf rfl rfl rfl (RunV.len (e := 98) (by simpa using T_elem_37) rfl) ?_; clear hf a; intro a hf
  refine O.val hf rfl rfl rfl (RunV.move rfl) ?_; clear hf a; intro a hf
  refine O.nil ?_
  refine k_seq ?_
  replace hf : Fr a 44 [] [(1, Iv x3), (4, .slice none 0 0), (5, s5), (6, Uv 0), (18, .slice (some ⟨b1, 0, none⟩) 1 1), (19, Iv 1), (20, Iv 0)] := hf.to ⟨rfl, rfl, rfl, rfl, rfl, rfl, rfl, trivial⟩
  refine W.block ?_
  refine W.loopH (LH.step ?_)
  refine W.seq ?_
  refine W.regionL (l := [0]) rfl ?_
  refine O.val (v := Bv true) hf rfl rfl rfl (RunV.lss (p := 0) (q := 1) rfl rfl) ?_; clear hf a; intro a hf
  refine O.nil ?_
  refine k_seq ?_
  refine W.seq ?_
  refine W.if_tt hf rfl ?_
  refine W.skip ?_
  refine k_seq ?_
  refine W.seq ?_
  refine W.block ?_
  refine W.seq ?_
  refine W.regionL (l := [0, 1, 2]) rfl ?_
  refine O.val hf rfl rfl rfl (RunV.indexSl (j := 0) (m := 0) T_elem_37 T_size_98 rfl rfl rfl (by decide) rfl) ?_; clear hf a; intro a hf
  refine O.val hf rfl rfl rfl (RunV.load1 T_agg_98 rfl (hS.bptAt (i := 0) rfl) rfl) ?_; clear hf a; intro a hf
  refine O.val hf rfl rfl rfl (RunV.assign rfl) ?_; clear hf a; intro a hf
  refine O.nil ?_
  refine k_seq ?_
  refine W.seq ?_
  refine W.regionL (l := [0, 1, 2, 3, 4, 5, 6, 7]) rfl ?_
  refine O.val hf rfl rfl rfl (RunV.move rfl) ?_; clear hf a; intro a hf
  refine O.val hf rfl rfl rfl (RunV.move rfl) ?_; clear hf a; intro a hf
  refine O.val (v := Uv (IntKind.u64.wrap x2)) hf rfl rfl rfl (RunV.conv T_und_98 T_int_108 rfl) ?_; clear hf a; intro a hf
  refine O.val hf rfl rfl rfl (RunV.move rfl) ?_; clear hf a; intro a hf
  refine O.val (v := Iv (Int.tmod x3 32)) hf rfl rfl rfl (RunV.rem (q := 32) rfl rfl (by decide)) ?_; clear hf a; intro a hf
  obtain ⟨hg12, hm⟩ := hm_g hm
  refine O.val (v := Uv (IntKind.u64.wrap ((IntKind.u64.wrap x2) * 2 ^ (min (Int.toNat (Int.tmod x3 32)) (IntKind.bits .u64))))) hf rfl rfl rfl (RunV.shl rfl rfl hg12) ?_; clear hf a; intro a hf
  refine O.val (v := Uv (bitor .u64 0 (IntKind.u64.wrap ((IntKind.u64.wrap x2) * 2 ^ (min (Int.toNat (Int.tmod x3 32)) (IntKind.bits .u64)))))) hf rfl rfl rfl (RunV.bitor rfl rfl) ?_; clear hf a; intro a hf
  refine O.val hf rfl rfl rfl (RunV.assign rfl) ?_; clear hf a; intro a hf
  refine O.nil ?_
  refine k_seq ?_
  obtain ⟨x13, hx13, hm⟩ := hm_b hm
  rw [Option.some.inj hx13] at hf
  obtain ⟨x14, hx14, hm⟩ := hm_b hm
  rw [Option.some.inj hx14] at hf
  refine W.seq ?_
  refine W.regionL (l := [0, 1, 2, 3, 4, 5]) rfl ?_
  refine O.val hf rfl rfl rfl (RunV.move rfl) ?_; clear hf a; intro a hf
  refine O.val hf rfl rfl rfl (RunV.move rfl) ?_; clear hf a; intro a hf
  refine O.val (v := .int .u32 (IntKind.u32.wrap x14)) hf rfl rfl rfl (RunV.conv T_und_108 T_int_98 rfl) ?_; clear hf a; intro a hf
  refine O.buildSlice (cs' := #[.int .u32 (IntKind.u32.wrap x14)]) (zs := #[.int .u32 0]) hf hS rfl rfl T_elem_37 T_size_98 T_zero_98 rfl rfl rfl rfl rfl ?_
  clear hf hS a; intro b15 w a hb15 hS hf
  obtain ⟨hg16, hm⟩ := hm_g hm
  refine O.appendE1 (j := 1) (jj := 0) (enc := E98) (m := [IntKind.u32.wrap x14]) (l' := (List.replicate (Int.toNat (IntKind.i64.wrap (Int.tdiv x3 32))) (0 : Int)) ++ [IntKind.u32.wrap x14]) hf hS rfl rfl T_elem_37 T_size_98 T_bytes_98 T_zero_98 rfl rfl rfl rfl rfl rfl rfl rfl rfl rfl hg16 rfl rfl rfl ?_
  clear hf hS a; intro s17 w a hS hf
  replace hS : St w0 _ noX [pt b1 (Cs #[.int .u32 x2] 98)] [pt b15 (Cs #[.int .u32 (IntKind.u32.wrap x14)] 98), slE 98 1 E98 s17 ((List.replicate (Int.toNat (IntKind.i64.wrap (Int.tdiv x3 32))) (0 : Int)) ++ [IntKind.u32.wrap x14])] := hS
  refine O.val hf rfl rfl rfl (RunV.assign rfl) ?_; clear hf a; intro a hf
  refine O.nil ?_
  refine k_seq ?_
  refine W.regionL (l := [0, 1, 2]) rfl ?_
  refine O.val hf rfl rfl rfl (RunV.move rfl) ?_; clear hf a; intro a hf
  refine O.val (v := Uv (Int.fdiv x14 (2 ^ 32))) hf rfl rfl rfl (RunV.shr (q := 32) rfl rfl (by decide)) ?_; clear hf a; intro a hf
  refine O.val hf rfl rfl rfl (RunV.assign rfl) ?_; clear hf a; intro a hf
  refine O.nil ?_
  refine k_blk_normal ?_
  refine k_seq ?_
  refine W.regionL (l := [0, 1]) rfl ?_
  refine O.val (v := Iv 1) hf rfl rfl rfl (RunV.add (p := 0) (q := 1) rfl rfl) ?_; clear hf a; intro a hf
  refine O.val hf rfl rfl rfl (RunV.move rfl) ?_; clear hf a; intro a hf
  refine O.nil ?_
  refine k_then (LH.step ?_)
  refine W.seq ?_
  refine W.regionL (l := [0]) rfl ?_
  refine O.val (v := Bv false) hf rfl rfl rfl (RunV.lss (p := 1) (q := 1) rfl rfl) ?_; clear hf a; intro a hf
  refine O.nil ?_
  refine k_seq ?_
  refine W.seq ?_
  refine W.if_ff hf rfl ?_
  refine W.exit ?_
  refine k_then_exit ?_
  refine k_then_exit ?_
  refine k_blk ?_
  replace hS := hS.sub (N := [slE 98 1 E98 s17 ((List.replicate (Int.toNat (IntKind.i64.wrap (Int.tdiv x3 32))) (0 : Int)) ++ [IntKind.u32.wrap x14])]) (.cons _ (.cons_cons _ .slnil))
  exact k_then ⟨s17, (List.replicate (Int.toNat (IntKind.i64.wrap (Int.tdiv x3 32))) (0 : Int)) ++ [IntKind.u32.wrap x14], Int.fdiv x14 (2 ^ 32), hf.to ⟨rfl, rfl, rfl, trivial⟩, hS, hm⟩
 ·clear hf hS hm a; try clear w
  rintro a w ⟨s6, x7, x8, hf, hS, hm⟩
  unfold m_wide_left_j1 at hm
  refine W.seq ?_
  refine W.regionL (l := [0, 1, 2, 3, 4, 5]) rfl ?_
  refine O.val hf rfl rfl rfl (RunV.move rfl) ?_; clear hf a; intro a hf
  refine O.val hf rfl rfl rfl (RunV.move rfl) ?_; clear hf a; intro a hf
  refine O.val (v := .int .u32 (IntKind.u32.wrap x8)) hf rfl rfl rfl (RunV.conv T_und_108 T_int_98 rfl) ?_; clear hf a; intro a hf
  refine O.buildSlice (cs' := #[.int .u32 (IntKind.u32.wrap x8)]) (zs := #[.int .u32 0]) hf hS rfl rfl T_elem_37 T_size_98 T_zero_98 rfl rfl rfl rfl rfl ?_
  clear hf hS a; intro b9 w a hb9 hS hf
  obtain ⟨hg10, hm⟩ := hm_g hm
  refine O.appendE1 (j := 1) (jj := 0) (enc := E98) (m := [IntKind.u32.wrap x8]) (l' := x7 ++ [IntKind.u32.wrap x8]) hf hS rfl rfl T_elem_37 T_size_98 T_bytes_98 T_zero_98 rfl rfl rfl rfl rfl rfl rfl rfl rfl rfl hg10 rfl rfl rfl ?_
  clear hf hS a; intro s11 w a hS hf
  replace hS : St w0 _ noX [pt b1 (Cs #[.int .u32 x2] 98)] [pt b9 (Cs #[.int .u32 (IntKind.u32.wrap x8)] 98), slE 98 1 E98 s11 (x7 ++ [IntKind.u32.wrap x8])] := hS
  refine O.val hf rfl rfl rfl (RunV.assign rfl) ?_; clear hf a; intro a hf
  refine O.nil ?_
  refine k_seq ?_
  replace hf : Fr a 44 [] [(4, s11)] := hf.to ⟨rfl, trivial⟩
  refine W.ret ?_
  obtain rfl := Option.some.inj hm
  refine post1 hf rfl (ResOK.tmp rfl) ?_
  replace hS := hS.sub (N := [slE 98 1 E98 s11 (x7 ++ [IntKind.u32.wrap x8])]) (.cons _ (.cons_cons _ .slnil))
  exact ⟨s11, rfl, hS.noB⟩

def m_slices_Clone_uint32_uint32 (F : Nat)  (x2 : List Int) : Option (List Int) :=
  if (([] : List Int).length : Int) ≤ 4294967296 then if (x2.length : Int) ≤ 4294967296 then some (([] : List Int) ++ x2) else none else none
set_option maxHeartbeats 1000000 in
set_option maxRecDepth 8000 in
theorem m_slices_Clone_uint32_uint32_ok (F : Nat)    (s1 : Value) (x2 : List Int) (w0 : World) (h_s1 : rdEOK (hp w0) 1 E98 s1 x2) (r : List Int) (hm : m_slices_Clone_uint32_uint32 F x2 = some r) :
    Ret Try.prog 78 #[s1] w0 (G := Value) (fun g1 => g1) (fun g1 w => St w0 w noX [] [slE 98 1 E98 g1 r]) := by
 unfold m_slices_Clone_uint32_uint32 at hm
 refine ret_of_W (lv := [s1]) Try.func78 rfl rfl rfl (fun a hf => ?_)
 replace hf : Fr a 8 [] [(0, s1)] := hf
 have hS : St w0 w0 noX [rdE 1 E98 s1 x2] [] := St.borrow (lendAll_cons (lendRd h_s1) lendAll_nil)
 refine W.seq ?_
 refine W.regionL (l := [0]) rfl ?_
 refine O.val hf rfl rfl rfl (RunV.assign rfl) ?_; clear hf a; intro a hf
 refine O.nil ?_
 refine k_seq ?_
 refine W.seq ?_
 refine W.seq ?_
 refine W.regionL (l := [0, 1]) rfl ?_
 refine O.val hf rfl rfl rfl (RunV.move rfl) ?_; clear hf a; intro a hf
 rcases nil_or (hS.rdB (j := 0) rfl) with ⟨_, hn3, hl⟩ | ⟨_, _, _, hn3⟩
 ·refine O.val (v := .bool true) hf rfl rfl rfl (RunV.eqNil1 T_elem_37 hn3 rfl rfl) ?_; clear hf a; intro a hf
  subst hl
  replace hm : some [] = some r := by simpa using hm
  refine O.nil ?_
  refine k_seq ?_
  replace hf : Fr a 8 [] [(0, s1), (2, .slice none 0 0), (4, Bv true)] := hf.to ⟨rfl, rfl, rfl, trivial⟩
  refine W.if_tt hf rfl ?_
  refine W.seq ?_
  refine W.regionL (l := [0]) rfl ?_
  refine O.val hf rfl rfl rfl (RunV.assign rfl) ?_; clear hf a; intro a hf
  refine O.nil ?_
  refine k_seq ?_
  replace hf : Fr a 8 [] [(0, s1), (2, .slice none 0 0)] := hf.to ⟨rfl, rfl, trivial⟩
  refine W.ret ?_
  refine k_then_ret ?_
  replace hS := hS.nilE 98 1 E98
  obtain rfl := Option.some.inj hm
  refine post1 hf rfl (ResOK.tmp rfl) ?_
  replace hS := hS.nilE 98 1 E98
  replace hS := hS.sub (N := [slE 98 1 E98 (.slice none 0 0) ([] : List Int)]) (.cons_cons _ (.cons _ .slnil))
  replace hS := hS.selB (B' := []) [] rfl
  exact ⟨(.slice none 0 0), rfl, hS.noB⟩
 ·refine O.val (v := .bool false) hf rfl rfl rfl (RunV.eqNil2 T_elem_37 hn3 rfl rfl) ?_; clear hf a; intro a hf
  refine O.nil ?_
  refine k_seq ?_
  replace hf : Fr a 8 [] [(0, s1), (2, .slice none 0 0), (4, Bv false)] := hf.to ⟨rfl, rfl, rfl, trivial⟩
  refine W.if_ff hf rfl ?_
  refine W.skip ?_
  refine k_seq ?_
  replace hf : Fr a 8 [] [(0, s1), (2, .slice none 0 0)] := hf.to ⟨rfl, rfl, trivial⟩
  refine W.seq ?_
  refine W.regionL (l := [0, 1, 2, 3]) rfl ?_
  refine O.buildSlice0 hf hS rfl rfl T_elem_37 T_size_98 rfl ?_
  clear hf hS a; intro b4 w a hb4 hS hf
  obtain ⟨s5, hs5⟩ : ∃ v, v = Value.slice (some ⟨b4, 0, none⟩) 0 0 := ⟨_, rfl⟩
  rw [← hs5] at hf hS
  replace hS : St w0 _ noX [rdE 1 E98 s1 x2] [slE 98 1 E98 s5 ([] : List Int)] := hS
  refine O.val hf rfl rfl rfl (RunV.move rfl) ?_; clear hf a; intro a hf
  obtain ⟨hg6, hm⟩ := hm_g hm
  obtain ⟨hg7, hm⟩ := hm_g hm
  refine O.appendEV (j := 0) (l' := ([] : List Int) ++ x2) hf hS rfl rfl T_elem_37 T_size_98 T_bytes_98 T_zero_98 rfl rfl rfl rfl rfl (hS.rdB (j := 0) rfl) E98_one hg6 hg7 rfl rfl ?_
  clear hf hS a; intro s8 w a hS hf
  replace hS : St w0 _ noX [rdE 1 E98 s1 x2] [slE 98 1 E98 s8 (([] : List Int) ++ x2)] := hS
  refine O.val hf rfl rfl rfl (RunV.assign rfl) ?_; clear hf a; intro a hf
  refine O.nil ?_
  refine k_seq ?_
  replace hf : Fr a 8 [] [(2, s8)] := hf.to ⟨rfl, trivial⟩
  refine W.ret ?_
  obtain rfl := Option.some.inj hm
  refine post1 hf rfl (ResOK.tmp rfl) ?_
  replace hS := hS.selB (B' := []) [] rfl
  exact ⟨s8, rfl, hS.noB⟩

def m_math_bits_Div32 (F : Nat)  (x1 : Int) (x2 : Int) (x3 : Int) : Option (Int × Int) :=
  if ((decide (x3 ≠ (0 : Int))) && (decide (x3 ≤ (x1 : Int)))) = true then (none) else ((some (bitor .u64 (IntKind.u64.wrap ((IntKind.u64.wrap x1) * 2 ^ 32)) (IntKind.u64.wrap x2))).bind fun x6 => if (IntKind.u64.wrap x3) ≠ (0 : Int) then if (IntKind.u64.wrap x3) ≠ (0 : Int) then (some (IntKind.u32.wrap (Int.tmod x6 (IntKind.u64.wrap x3)))).bind fun x9 => (some (IntKind.u32.wrap (IntKind.u64.wrap (Int.tdiv x6 (IntKind.u64.wrap x3))))).bind fun x10 => some (x10, x9) else none else none)
set_option maxHeartbeats 1000000 in
set_option maxRecDepth 8000 in
theorem m_math_bits_Div32_ok (F : Nat)    (x1 : Int) (x2 : Int) (x3 : Int) (w0 : World)  (r : Int × Int) (hm : m_math_bits_Div32 F x1 x2 x3 = some r) :
    Ret Try.prog 104 #[.int .u32 x1, .int .u32 x2, .int .u32 x3] w0 (G := Unit) (fun _ => .tuple #[.int .u32 r.1, .int .u32 r.2]) (fun _ w => St w0 w noX [] []) := by
 unfold m_math_bits_Div32 at hm
 refine ret_of_W (lv := [.int .u32 x1, .int .u32 x2, .int .u32 x3]) Try.func104 rfl rfl rfl (fun a hf => ?_)
 replace hf : Fr a 33 [] [(0, .int .u32 x1), (1, .int .u32 x2), (2, .int .u32 x3)] := hf
 have hS : St w0 w0 noX [] [] := St.borrow lendAll_nil
 refine W.seq ?_
 refine W.regionL (l := [0, 1]) rfl ?_
 refine O.val hf rfl rfl rfl (RunV.assign rfl) ?_; clear hf a; intro a hf
 refine O.val hf rfl rfl rfl (RunV.assign rfl) ?_; clear hf a; intro a hf
 refine O.nil ?_
 refine k_seq ?_
 refine W.seq ?_
 refine W.seq ?_
 refine W.regionL (l := [0, 1, 2, 3, 4, 5, 6]) rfl ?_
 refine O.val hf rfl rfl rfl (RunV.move rfl) ?_; clear hf a; intro a hf
 refine O.val (v := Bv (decide (x3 ≠ (0 : Int)))) hf rfl rfl rfl (RunV.neq rfl rfl) ?_; clear hf a; intro a hf
 refine O.val hf rfl rfl rfl (RunV.move rfl) ?_; clear hf a; intro a hf
 refine O.cutN (l₁ := [3, 4, 5, 6]) (l₂ := _) (fun a w => Fr a 33 [] [(0, .int .u32 x1), (1, .int .u32 x2), (2, .int .u32 x3), (6, .int .u32 0), (7, .int .u32 0), (15, Bv ((decide (x3 ≠ (0 : Int))) && (decide (x3 ≤ (x1 : Int)))))] ∧ St w0 w noX [] []) rfl ?_ ?_
 ·rcases Bool.eq_false_or_eq_true (decide (x3 ≠ (0 : Int))) with hb4 | hb4
  ·refine O.gvalB hf rfl rfl rfl hb4 rfl rfl (RunV.move rfl) ?_; clear hf a; intro a hf
   refine O.gvalB hf rfl rfl rfl hb4 rfl rfl (RunV.move rfl) ?_; clear hf a; intro a hf
   refine O.gvalB (v := Bv (decide (x3 ≤ (x1 : Int)))) hf rfl rfl rfl hb4 rfl rfl (RunV.leq rfl rfl) ?_; clear hf a; intro a hf
   refine O.val (v := Bv ((decide (x3 ≠ (0 : Int))) && (decide (x3 ≤ (x1 : Int))))) hf rfl rfl rfl (RunV.pick rfl rfl rfl (by rw [hb4]; rfl)) ?_; clear hf a; intro a hf
   exact O.nil ⟨rfl, hf.to ⟨rfl, rfl, rfl, rfl, rfl, rfl, trivial⟩, hS⟩
  ·refine O.skipB hf rfl rfl rfl hb4 rfl ?_; clear hf a; intro a hf
   refine O.skipB hf rfl rfl rfl hb4 rfl ?_; clear hf a; intro a hf
   refine O.skipB hf rfl rfl rfl hb4 rfl ?_; clear hf a; intro a hf
   refine O.val (v := Bv ((decide (x3 ≠ (0 : Int))) && (decide (x3 ≤ (x1 : Int))))) hf rfl rfl rfl (RunV.pick rfl rfl rfl (by rw [hb4]; rfl)) ?_; clear hf a; intro a hf
   exact O.nil ⟨rfl, hf.to ⟨rfl, rfl, rfl, rfl, rfl, rfl, trivial⟩, hS⟩
 clear hf hS a; try clear w
 rintro a w ⟨hf, hS⟩
 refine O.nil ?_
 refine k_seq ?_
 refine W.if_ hf rfl (fun hc5 => ?_) (fun hc5 => ?_)
 ·replace hm := hm_t hm hc5
  exact absurd hm (by simp)
 ·replace hm := hm_f hm hc5
  refine W.skip ?_
  refine k_seq ?_
  replace hf : Fr a 33 [] [(0, .int .u32 x1), (1, .int .u32 x2), (2, .int .u32 x3), (6, .int .u32 0), (7, .int .u32 0)] := hf.to ⟨rfl, rfl, rfl, rfl, rfl, trivial⟩
  refine W.seq ?_
  refine W.regionL (l := [0, 1, 2, 3, 4, 5, 6]) rfl ?_
  refine O.val hf rfl rfl rfl (RunV.move rfl) ?_; clear hf a; intro a hf
  refine O.val (v := Uv (IntKind.u64.wrap x1)) hf rfl rfl rfl (RunV.conv T_und_98 T_int_108 rfl) ?_; clear hf a; intro a hf
  refine O.val (v := Uv (IntKind.u64.wrap ((IntKind.u64.wrap x1) * 2 ^ 32))) hf rfl rfl rfl (RunV.shl (q := 32) rfl rfl (by decide)) ?_; clear hf a; intro a hf
  refine O.val hf rfl rfl rfl (RunV.move rfl) ?_; clear hf a; intro a hf
  refine O.val (v := Uv (IntKind.u64.wrap x2)) hf rfl rfl rfl (RunV.conv T_und_98 T_int_108 rfl) ?_; clear hf a; intro a hf
  refine O.val (v := Uv (bitor .u64 (IntKind.u64.wrap ((IntKind.u64.wrap x1) * 2 ^ 32)) (IntKind.u64.wrap x2))) hf rfl rfl rfl (RunV.bitor rfl rfl) ?_; clear hf a; intro a hf
  refine O.val hf rfl rfl rfl (RunV.assign rfl) ?_; clear hf a; intro a hf
  refine O.nil ?_
  refine k_seq ?_
  replace hf : Fr a 33 [] [(2, .int .u32 x3), (6, .int .u32 0), (7, .int .u32 0), (8, Uv (bitor .u64 (IntKind.u64.wrap ((IntKind.u64.wrap x1) * 2 ^ 32)) (IntKind.u64.wrap x2)))] := hf.to ⟨rfl, rfl, rfl, rfl, trivial⟩
  obtain ⟨x6, hx6, hm⟩ := hm_b hm
  rw [Option.some.inj hx6] at hf
  refine W.seq ?_
  obtain ⟨hg7, hm⟩ := hm_g hm
  obtain ⟨hg8, hm⟩ := hm_g hm
  refine W.drawQ (fun w => St w0 w noX [] []) P_mixed rfl (by kernel_rfl) rfl hS.drew ?_
  clear hS; try clear w
  refine OQ.val (v := Uv x6) hf rfl (fun w hS => RunV.move rfl) ?_; clear hf a; intro a hf
  refine OQ.val (v := .int .u32 x3) hf rfl (fun w hS => RunV.move rfl) ?_; clear hf a; intro a hf
  refine OQ.val (v := Uv (IntKind.u64.wrap x3)) hf rfl (fun w hS => RunV.conv T_und_98 T_int_108 rfl) ?_; clear hf a; intro a hf
  refine OQ.val (v := Uv (IntKind.u64.wrap (Int.tdiv x6 (IntKind.u64.wrap x3)))) hf rfl (fun w hS => RunV.quo rfl rfl hg7) ?_; clear hf a; intro a hf
  refine OQ.val (v := .int .u32 (IntKind.u32.wrap (IntKind.u64.wrap (Int.tdiv x6 (IntKind.u64.wrap x3))))) hf rfl (fun w hS => RunV.conv T_und_108 T_int_98 rfl) ?_; clear hf a; intro a hf
  refine OQ.val (v := Uv x6) hf rfl (fun w hS => RunV.move rfl) ?_; clear hf a; intro a hf
  refine OQ.val (v := .int .u32 x3) hf rfl (fun w hS => RunV.move rfl) ?_; clear hf a; intro a hf
  refine OQ.val (v := Uv (IntKind.u64.wrap x3)) hf rfl (fun w hS => RunV.conv T_und_98 T_int_108 rfl) ?_; clear hf a; intro a hf
  refine OQ.val (v := Uv (Int.tmod x6 (IntKind.u64.wrap x3))) hf rfl (fun w hS => RunV.rem rfl rfl hg8) ?_; clear hf a; intro a hf
  refine OQ.val (v := .int .u32 (IntKind.u32.wrap (Int.tmod x6 (IntKind.u64.wrap x3)))) hf rfl (fun w hS => RunV.conv T_und_108 T_int_98 rfl) ?_; clear hf a; intro a hf
  refine OQ.val (v := .int .u32 (IntKind.u32.wrap (IntKind.u64.wrap (Int.tdiv x6 (IntKind.u64.wrap x3))))) hf rfl (fun w hS => RunV.assign rfl) ?_; clear hf a; intro a hf
  refine OQ.val (v := .int .u32 (IntKind.u32.wrap (Int.tmod x6 (IntKind.u64.wrap x3)))) hf rfl (fun w hS => RunV.assign rfl) ?_; clear hf a; intro a hf
  refine OQ.nil ?_; intro w hS
  refine k_seq ?_
  replace hf : Fr a 33 [] [(6, .int .u32 (IntKind.u32.wrap (IntKind.u64.wrap (Int.tdiv x6 (IntKind.u64.wrap x3))))), (7, .int .u32 (IntKind.u32.wrap (Int.tmod x6 (IntKind.u64.wrap x3))))] := hf.to ⟨rfl, rfl, trivial⟩
  obtain ⟨x9, hx9, hm⟩ := hm_b hm
  rw [Option.some.inj hx9] at hf
  obtain ⟨x10, hx10, hm⟩ := hm_b hm
  rw [Option.some.inj hx10] at hf
  refine W.ret ?_
  obtain rfl := Option.some.inj hm
  refine post2 hf rfl (ResOK.tmp rfl) (ResOK.tmp rfl) ?_
  exact ⟨(), rfl, hS.noB⟩

def m_wide_short_j1 (F : Nat)  (x14 : List Int) (x15 : Int) : Option ((List Int) × Int) :=
  (m_wide_trim_3 F x14).bind fun x16 => some (x16, x15)
def m_wide_short_b1 (F : Nat) (x3 : Int) (rec11 : (List Int) → Int → Option ((List Int) × Int)) (x12 x13 : Int) (x14 : List Int) (x15 : Int) : Option ((List Int) × Int) :=
  (m_math_bits_Div32 F x15 x13 x3).bind fun x18 => (idx x14 x12).bind fun x19 => rec11 (x14.set (Int.toNat x12) x18.1) x18.2
def m_wide_short_l1 (F : Nat) (x3 : Int) : List (Int × Int) → (List Int) → Int → Option ((List Int) × Int)
  | [], x14, x15 => m_wide_short_j1 F x14 x15
  | p :: t, x14, x15 => m_wide_short_b1 F x3 (m_wide_short_l1 F x3 t) p.1 p.2 x14 x15
def m_wide_short (F : Nat)  (x2 : List Int) (x3 : Int) : Option ((List Int) × Int) :=
  if 0 ≤ (x2.length : Int) ∧ (x2.length : Int) ≤ 4294967296 then (m_wide_down F x2).bind fun x9 => m_wide_short_l1 F x3 (downL x2) (List.replicate (Int.toNat (x2.length : Int)) (0 : Int)) 0 else none
set_option maxHeartbeats 1000000 in
set_option maxRecDepth 8000 in
theorem m_wide_short_ok (F : Nat)    (s1 : Value) (x2 : List Int) (x3 : Int) (w0 : World) (h_s1 : rdEOK (hp w0) 1 E98 s1 x2) (r : (List Int) × Int) (hm : m_wide_short F x2 x3 = some r) :
    Ret Try.prog 79 #[s1, .int .u32 x3] w0 (G := Value) (fun g1 => .tuple #[g1, .int .u32 r.2]) (fun g1 w => St w0 w noX [] [slE 98 1 E98 g1 r.1]) := by
 unfold m_wide_short at hm
 refine ret_of_WM (lv := [s1, .int .u32 x3]) Try.func79 rfl rfl rfl (fun a hf => ?_)
 replace hf : Fr a 30 [] [(0, s1), (1, .int .u32 x3)] := hf
 have hS : St w0 w0 noX [rdE 1 E98 s1 x2] [] := St.borrow (lendAll_cons (lendRd h_s1) lendAll_nil)
 replace hS := hS.mk0
 refine W.seq ?_
 refine W.regionL (l := [0, 1, 2]) rfl ?_
 refine O.box (cs := #[.int .u32 x3]) hf hS rfl rfl rfl rfl ?_
 clear hf hS a; intro b4 w a hb4 hS hf
 refine O.val hf rfl rfl rfl (RunV.assign rfl) ?_; clear hf a; intro a hf
 refine O.val hf rfl rfl rfl (RunV.assign rfl) ?_; clear hf a; intro a hf
 refine O.nil ?_
 refine k_seq ?_
 replace hf : Fr a 30 [] [(0, s1), (3, Pv b4 0), (4, .slice none 0 0), (5, .int .u32 0)] := hf.to ⟨rfl, rfl, rfl, rfl, trivial⟩
 refine W.seq ?_
 refine W.regionL (l := [0, 1, 2, 3, 4]) rfl ?_
 refine O.val hf rfl rfl rfl (RunV.move rfl) ?_; clear hf a; intro a hf
 refine O.val (v := Iv (x2.length : Int)) hf rfl rfl rfl (RunV.lenE (e := 98) (by simpa using T_elem_37) rfl (hS.rdB (j := 0) rfl)) ?_; clear hf a; intro a hf
 obtain ⟨hg5, hm⟩ := hm_g hm
 refine O.makeE (enc := E98) (x0 := (0 : Int)) hf hS rfl rfl T_elem_37 T_size_98 T_bytes_98 T_zero_98 rfl rfl rfl hg5 rfl E98_len rfl ?_
 clear hf hS a; intro s6 w a hS hf
 refine O.alloc (cs := #[.slice none 0 0]) hf hS rfl rfl T_zero_37 rfl ?_
 clear hf hS a; intro b7 w a hb7 hS hf
 refine O.store (m := 1) (j := 0) (cs' := #[s6]) (M' := [pt b7 (Cs #[s6] 37), slE 98 1 E98 s6 (List.replicate (Int.toNat (x2.length : Int)) (0 : Int)), pt b4 (Cs #[.int .u32 x3] 98), mkA []]) hf hS rfl rfl rfl T_size_37 (by rw [rdEOK_cells (hS.rdS (j := 1) rfl)]; rfl) (by rw [rdEOK_cells (hS.rdS (j := 1) rfl)]; exact rdEOK_one (hS.rdS (j := 1) rfl)) rfl (Nat.le_of_ble_eq_true rfl) (by rw [rdEOK_cells (hS.rdS (j := 1) rfl)]; rfl) rfl ?_
 clear hS; intro w hS
 refine O.nil ?_
 refine k_seq ?_
 replace hf : Fr a 30 [] [(0, s1), (3, Pv b4 0), (4, .slice none 0 0), (5, .int .u32 0), (6, Pv b7 0)] := hf.to ⟨rfl, rfl, rfl, rfl, rfl, trivial⟩
 refine W.seq ?_
 refine W.regionL (l := [0]) rfl ?_
 refine O.alloc (cs := #[.int .u32 0]) hf hS rfl rfl T_zero_98 rfl ?_
 clear hf hS a; intro b8 w a hb8 hS hf
 refine O.nil ?_
 refine k_seq ?_
 refine W.seq ?_
 refine W.seq ?_
 refine W.regionL (l := [0, 1]) rfl ?_
 refine O.val hf rfl rfl rfl (RunV.move rfl) ?_; clear hf a; intro a hf
 obtain ⟨x9, hx9, hm⟩ := hm_b hm
 refine O.callR hf rfl rfl rfl (RunE.call (av := #[s1]) C_ok_84 rfl rfl rfl) (m_wide_down_ok F s1 x2 _ (hS.rdB (j := 0) rfl) x9 hx9) ?_
 clear hf a; rintro b10 w hS1 a hf
 replace hf : Fr a _ _ ((14, .func (.func 107) #[] #[Pv b10 0]) :: _) := hf
 replace hS := (hS.call hS1).eqM (N := [pt b10 (Cs #[s1] 37), pt b8 (Cs #[.int .u32 0] 98), pt b7 (Cs #[s6] 37), slE 98 1 E98 s6 (List.replicate (Int.toNat (x2.length : Int)) (0 : Int)), pt b4 (Cs #[.int .u32 x3] 98), mkA []]) rfl
 clear hS1
 refine O.nil ?_
 refine k_seq ?_
 replace hf : Fr a 30 [] [(3, Pv b4 0), (4, .slice none 0 0), (5, .int .u32 0), (6, Pv b7 0), (7, Pv b8 0), (14, .func (.func 107) #[] #[Pv b10 0])] := hf.to ⟨rfl, rfl, rfl, rfl, rfl, rfl, trivial⟩
 refine W.block ?_
 replace hf : Fr a 30 [] [(3, Pv b4 0), (4, .slice none 0 0), (5, .int .u32 0), (6, Pv b7 0), (7, Pv b8 0), (14, .func (.func 107) #[] #[Pv b10 0])] := hf.to ⟨rfl, rfl, rfl, rfl, rfl, rfl, trivial⟩
 replace hS := hS.front (i := 1) (M' := [pt b8 (Cs #[.int .u32 0] 98), pt b10 (Cs #[s1] 37), pt b7 (Cs #[s6] 37), slE 98 1 E98 s6 (List.replicate (Int.toNat (x2.length : Int)) (0 : Int)), pt b4 (Cs #[.int .u32 x3] 98), mkA []]) rfl rfl
 replace hS := hS.front (i := 2) (M' := [pt b7 (Cs #[s6] 37), pt b8 (Cs #[.int .u32 0] 98), pt b10 (Cs #[s1] 37), slE 98 1 E98 s6 (List.replicate (Int.toNat (x2.length : Int)) (0 : Int)), pt b4 (Cs #[.int .u32 x3] 98), mkA []]) rfl rfl
 replace hS := hS.front (i := 3) (M' := [slE 98 1 E98 s6 (List.replicate (Int.toNat (x2.length : Int)) (0 : Int)), pt b7 (Cs #[s6] 37), pt b8 (Cs #[.int .u32 0] 98), pt b10 (Cs #[s1] 37), pt b4 (Cs #[.int .u32 x3] 98), mkA []]) rfl rfl
 replace hS := hS.front (i := 4) (M' := [pt b4 (Cs #[.int .u32 x3] 98), slE 98 1 E98 s6 (List.replicate (Int.toNat (x2.length : Int)) (0 : Int)), pt b7 (Cs #[s6] 37), pt b8 (Cs #[.int .u32 0] 98), pt b10 (Cs #[s1] 37), mkA []]) rfl rfl
 replace hS := hS.front (i := 5) (M' := [mkA [], pt b4 (Cs #[.int .u32 x3] 98), slE 98 1 E98 s6 (List.replicate (Int.toNat (x2.length : Int)) (0 : Int)), pt b7 (Cs #[s6] 37), pt b8 (Cs #[.int .u32 0] 98), pt b10 (Cs #[s1] 37)]) rfl rfl
 refine W.rangeFn2 (G := (List Int) × Int) (G2 := Unit) (gf := 107) (lb := #[Pv b10 0]) (xs := (downL x2).map (fun p : Int × Int => (Iv p.1, Value.int .u32 p.2))) (fun x y => [(3, Pv b4 0), (4, .slice none 0 0), (5, .int .u32 0), (6, Pv b7 0), (7, Pv b8 0), (8, x), (9, y), (14, .func (.func 107) #[] #[Pv b10 0]), (15, x), (16, y)]) (fun g => match g with | (x14, x15) => [mkA [], pt b4 (Cs #[.int .u32 x3] 98), slE 98 1 E98 s6 x14, pt b7 (Cs #[s6] 37), pt b8 (Cs #[.int .u32 x15] 98), pt b10 (Cs #[s1] 37)]) (fun k g => match g with | (x14, x15) => m_wide_short_l1 F x3 ((downL x2).drop k) x14 x15 = some r) (List.replicate (Int.toNat (x2.length : Int)) (0 : Int), 0) (RdAt 37 1 E98 b10 s1 x2) (fun g => match g with | _ => []) (fun g => match g with | _ => False) hf rfl rfl rfl C_ok_107 hS hm (iter_107 _ _ _) ?_ ?_ ?_ ?_ ?_
 ·rintro ⟨x14, x15⟩ w hS
  replace hS : St w0 w noX [rdE 1 E98 s1 x2] [mkA [], pt b4 (Cs #[.int .u32 x3] 98), slE 98 1 E98 s6 x14, pt b7 (Cs #[s6] 37), pt b8 (Cs #[.int .u32 x15] 98), pt b10 (Cs #[s1] 37)] := hS
  exact ⟨hS.ptAt (i := 5) rfl, (hS.rdB (j := 0) rfl)⟩
 ·clear hf hS hm a; clear w
  intro l x y w a hf
  replace hf : Fr a 30 [] [(3, Pv b4 0), (4, .slice none 0 0), (5, .int .u32 0), (6, Pv b7 0), (7, Pv b8 0), (14, .func (.func 107) #[] #[Pv b10 0]), (15, x), (16, y)] := hf.to ⟨rfl, rfl, rfl, rfl, rfl, rfl, rfl, rfl, trivial⟩
  refine W.seq ?_
  refine W.regionL (l := [0]) rfl ?_
  refine O.val hf rfl rfl rfl (RunV.assign rfl) ?_; clear hf a; intro a hf
  refine O.nil ?_
  refine k_seq ?_
  refine W.regionL (l := [0]) rfl ?_
  refine O.val hf rfl rfl rfl (RunV.assign rfl) ?_; clear hf a; intro a hf
  refine O.nil ?_
  exact ⟨rfl, hf.to ⟨rfl, rfl, rfl, rfl, rfl, rfl, rfl, rfl, rfl, rfl, trivial⟩, rfl⟩
 ·clear hf hS hm a; clear w
  rintro dl11 do11 dD11 k11 x y ⟨x14, x15⟩ w hx hm hS a hf
  obtain ⟨⟨x12, x13⟩, hp, hxy⟩ := down_x hx; obtain ⟨rfl, rfl⟩ := Prod.mk.inj hxy
  replace hf : Fr a 30 [] [(3, Pv b4 0), (4, .slice none 0 0), (5, .int .u32 0), (6, Pv b7 0), (7, Pv b8 0), (8, Iv x12), (9, .int .u32 x13), (14, .func (.func 107) #[] #[Pv b10 0]), (15, Iv x12), (16, .int .u32 x13)] := hf
  replace hS : St w0 w noX [rdE 1 E98 s1 x2] [pt dl11 do11, pt dD11 (.deferred (some [])), mkA [], pt b4 (Cs #[.int .u32 x3] 98), slE 98 1 E98 s6 x14, pt b7 (Cs #[s6] 37), pt b8 (Cs #[.int .u32 x15] 98), pt b10 (Cs #[s1] 37)] := hS
  replace hm : m_wide_short_l1 F x3 ((downL x2).drop k11) x14 x15 = some r := hm
  rw [drop_cons hp] at hm
  replace hm : m_wide_short_b1 F x3 (m_wide_short_l1 F x3 ((downL x2).drop (k11 + 1))) x12 x13 x14 x15 = some r := hm
  obtain ⟨rec11, hrec11⟩ : ∃ f, f = m_wide_short_l1 F x3 ((downL x2).drop (k11 + 1)) := ⟨_, rfl⟩
  rw [← hrec11] at hm; unfold m_wide_short_b1 at hm
  refine W.block ?_
  have hf1 : Fr a 30 [] [] := hf.to trivial
  replace hf : Fr a 30 [] [(3, Pv b4 0), (4, .slice none 0 0), (5, .int .u32 0), (6, Pv b7 0), (7, Pv b8 0), (8, Iv x12), (9, .int .u32 x13), (14, .func (.func 107) #[] #[Pv b10 0]), (15, Iv x12), (16, .int .u32 x13)] := hf.to ⟨rfl, rfl, rfl, rfl, rfl, rfl, rfl, rfl, rfl, rfl, trivial⟩
  obtain ⟨x18, hx18, hm⟩ := hm_b hm
  obtain ⟨x19, hx19, hm⟩ := hm_b hm
  refine W.drawC (γ := Unit) (L0 := [(3, Pv b4 0), (4, .slice none 0 0), (5, .int .u32 0), (6, Pv b7 0), (7, Pv b8 0), (8, Iv x12), (9, .int .u32 x13), (14, .func (.func 107) #[] #[Pv b10 0]), (15, Iv x12), (16, .int .u32 x13)]) (L1 := []) () [5, 10, 11] [] [0, 1, 2, 3, 4, 6, 7, 8, 9] (fun i => match i with | 5 => [2, 3, 4] | 6 => [5] | 7 => [6] | 8 => [6] | 9 => [0, 1, 2, 3, 4, 5, 6, 7] | 10 => [0, 1, 2, 3, 4, 5, 6, 7, 9] | 11 => [0, 1, 2, 3, 4, 5, 6, 7, 8, 9, 10] | _ => []) (fun i => match i with | 6 => [5] | 7 => [5] | 8 => [5] | 9 => [5] | 10 => [5] | 11 => [5, 10] | _ => []) (fun i => match i with | 0 => [10, 11] | 1 => [10, 11] | 2 => [5, 10, 11] | 3 => [5, 10, 11] | 4 => [5, 10, 11] | 5 => [10, 11] | 6 => [10, 11] | 7 => [10, 11] | 8 => [11] | 9 => [10, 11] | 10 => [11] | _ => []) (fun _ => []) (fun i => match i with | 5 => [6, 7, 8, 9, 10, 11] | 10 => [11] | _ => []) (fun _ => []) (fun i => match i with | 6 => 1 | 7 => 1 | 8 => 1 | 9 => 1 | 10 => 1 | 11 => 2 | _ => 0) (fun i => match i with | 0 => 1 | 1 => 1 | 5 => 1 | 6 => 1 | 7 => 1 | 8 => 2 | 9 => 1 | 10 => 2 | 11 => 3 | _ => 0) (fun (g : Unit) j => match j with | 0 => s6 | 1 => Iv x12 | 2 => .int .u32 x15 | 3 => .int .u32 x13 | 4 => .int .u32 x3 | 5 => .tuple #[.int .u32 x18.1, .int .u32 x18.2] | 6 => .tuple #[.int .u32 x18.1, .int .u32 x18.2] | 7 => .int .u32 x18.1 | 8 => .int .u32 x18.2 | 9 => ix s6 (Int.toNat x12 * 1) | _ => undef) (fun k s (g : Unit) w => match k with | 0 => St w0 w noX [rdE 1 E98 s1 x2] [pt dl11 do11, pt dD11 (.deferred (some [])), mkA [], pt b4 (Cs #[.int .u32 x3] 98), slE 98 1 E98 s6 x14, pt b7 (Cs #[s6] 37), pt b8 (Cs #[.int .u32 x15] 98), pt b10 (Cs #[s1] 37)] | 1 => St w0 w noX [rdE 1 E98 s1 x2] [pt dl11 do11, pt dD11 (.deferred (some [])), mkA [], pt b4 (Cs #[.int .u32 x3] 98), slE 98 1 E98 s6 x14, pt b7 (Cs #[s6] 37), pt b8 (Cs #[.int .u32 x15] 98), pt b10 (Cs #[s1] 37)] | 2 => St w0 w noX [rdE 1 E98 s1 x2] [pt dl11 do11, pt dD11 (.deferred (some [])), mkA [], pt b4 (Cs #[.int .u32 x3] 98), slE 98 1 E98 s6 (x14.set (Int.toNat x12) x18.1), pt b7 (Cs #[s6] 37), pt b8 (Cs #[.int .u32 x15] 98), pt b10 (Cs #[s1] 37)] | _ => St w0 w noX [rdE 1 E98 s1 x2] [pt dl11 do11, pt dD11 (.deferred (some [])), mkA [], pt b4 (Cs #[.int .u32 x3] 98), slE 98 1 E98 s6 (x14.set (Int.toNat x12) x18.1), pt b7 (Cs #[s6] 37), pt b8 (Cs #[.int .u32 x18.2] 98), pt b10 (Cs #[s1] 37)]) P_mixed (by kernel_rfl) (by kernel_rfl) (by kernel_rfl) hf hf1 hS.drew ?_ ?_ ?_ ?_
  ·clear hf hf1 hS
   refine ⟨?_, fun k s g w _ _ _ hD a hf => Q.val (v := Iv x12) rfl rfl rfl hD hf (RunV.move rfl), ?_, fun k s g w _ _ _ hD a hf => Q.val (v := .int .u32 x13) rfl rfl rfl hD hf (RunV.move rfl), ?_, fun k s g w _ _ _ hD a hf => Q.val (v := .tuple #[.int .u32 x18.1, .int .u32 x18.2]) rfl rfl rfl hD hf (RunV.move rfl), fun k s g w _ _ _ hD a hf => Q.val (v := .int .u32 x18.1) rfl rfl rfl hD hf (RunV.extract rfl rfl), fun k s g w _ _ _ hD a hf => Q.val (v := .int .u32 x18.2) rfl rfl rfl hD hf (RunV.extract rfl rfl), ?_, trivial⟩
   ·intro k s g w h1_ h2_ hsp hD a hf
    rcases k with _ | _ | k
    ·have hS : St w0 w noX [rdE 1 E98 s1 x2] [pt dl11 do11, pt dD11 (.deferred (some [])), mkA [], pt b4 (Cs #[.int .u32 x3] 98), slE 98 1 E98 s6 x14, pt b7 (Cs #[s6] 37), pt b8 (Cs #[.int .u32 x15] 98), pt b10 (Cs #[s1] 37)] := hD; clear hD
     replace hf : Fr a 30 [] [(3, Pv b4 0), (4, .slice none 0 0), (5, .int .u32 0), (6, Pv b7 0), (7, Pv b8 0), (8, Iv x12), (9, .int .u32 x13), (14, .func (.func 107) #[] #[Pv b10 0]), (15, Iv x12), (16, .int .u32 x13)] := hf
     exact Q.val (v := s6) rfl rfl rfl hS hf (RunV.load1 T_agg_37 rfl (hS.ptAt (i := 5) rfl) rfl)
    ·have hS : St w0 w noX [rdE 1 E98 s1 x2] [pt dl11 do11, pt dD11 (.deferred (some [])), mkA [], pt b4 (Cs #[.int .u32 x3] 98), slE 98 1 E98 s6 x14, pt b7 (Cs #[s6] 37), pt b8 (Cs #[.int .u32 x15] 98), pt b10 (Cs #[s1] 37)] := hD; clear hD
     replace hf : Fr a 30 [] [(3, Pv b4 0), (4, .slice none 0 0), (5, .int .u32 0), (6, Pv b7 0), (7, Pv b8 0), (8, Iv x12), (9, .int .u32 x13), (14, .func (.func 107) #[] #[Pv b10 0]), (15, Iv x12), (16, .int .u32 x13)] := hf
     exact Q.val (v := s6) rfl rfl rfl hS hf (RunV.load1 T_agg_37 rfl (hS.ptAt (i := 5) rfl) rfl)
    ·exact absurd h2_ (by simp)
   ·intro k s g w h1_ h2_ hsp hD a hf
    rcases k with _ | k
    ·have hS : St w0 w noX [rdE 1 E98 s1 x2] [pt dl11 do11, pt dD11 (.deferred (some [])), mkA [], pt b4 (Cs #[.int .u32 x3] 98), slE 98 1 E98 s6 x14, pt b7 (Cs #[s6] 37), pt b8 (Cs #[.int .u32 x15] 98), pt b10 (Cs #[s1] 37)] := hD; clear hD
     replace hf : Fr a 30 [] [(3, Pv b4 0), (4, .slice none 0 0), (5, .int .u32 0), (6, Pv b7 0), (7, Pv b8 0), (8, Iv x12), (9, .int .u32 x13), (14, .func (.func 107) #[] #[Pv b10 0]), (15, Iv x12), (16, .int .u32 x13)] := hf
     exact Q.val (v := .int .u32 x15) rfl rfl rfl hS hf (RunV.load1 T_agg_98 rfl (hS.ptAt (i := 6) rfl) rfl)
    ·exact absurd h2_ (by simp)
   ·intro k s g w h1_ h2_ hsp hD a hf
    rcases k with _ | k
    ·have hS : St w0 w noX [rdE 1 E98 s1 x2] [pt dl11 do11, pt dD11 (.deferred (some [])), mkA [], pt b4 (Cs #[.int .u32 x3] 98), slE 98 1 E98 s6 x14, pt b7 (Cs #[s6] 37), pt b8 (Cs #[.int .u32 x15] 98), pt b10 (Cs #[s1] 37)] := hD; clear hD
     replace hf : Fr a 30 [] [(3, Pv b4 0), (4, .slice none 0 0), (5, .int .u32 0), (6, Pv b7 0), (7, Pv b8 0), (8, Iv x12), (9, .int .u32 x13), (14, .func (.func 107) #[] #[Pv b10 0]), (15, Iv x12), (16, .int .u32 x13)] := hf
     exact Q.val (v := .int .u32 x3) rfl rfl rfl hS hf (RunV.load1 T_agg_98 rfl (hS.ptAt (i := 3) rfl) rfl)
    ·exact absurd h2_ (by simp)
   ·intro k s g w h1_ h2_ hsp hD a hf
    rcases k with _ | _ | k
    ·exact absurd h1_ (by decide)
    ·have hS : St w0 w noX [rdE 1 E98 s1 x2] [pt dl11 do11, pt dD11 (.deferred (some [])), mkA [], pt b4 (Cs #[.int .u32 x3] 98), slE 98 1 E98 s6 x14, pt b7 (Cs #[s6] 37), pt b8 (Cs #[.int .u32 x15] 98), pt b10 (Cs #[s1] 37)] := hD; clear hD
     replace hf : Fr a 30 [] [(18, s6), (19, Iv x12), (20, .int .u32 x15), (21, .int .u32 x13), (22, .int .u32 x3), (23, .tuple #[.int .u32 x18.1, .int .u32 x18.2]), (17, .tuple #[.int .u32 x18.1, .int .u32 x18.2]), (24, .int .u32 x18.1), (3, Pv b4 0), (4, .slice none 0 0), (5, .int .u32 0), (6, Pv b7 0), (7, Pv b8 0), (8, Iv x12), (9, .int .u32 x13), (14, .func (.func 107) #[] #[Pv b10 0]), (15, Iv x12), (16, .int .u32 x13)] := hf
     exact Q.val (v := ix s6 (Int.toNat x12 * 1)) rfl rfl rfl hS hf (RunV.ixE T_elem_37 T_size_98 rfl rfl (hS.rdS (j := 4) rfl) hx19)
    ·exact absurd h2_ (by simp)
  ·clear hf hf1 hS
   refine ⟨?_, ?_, ?_, trivial⟩
   ·intro s g w hsp hD a hf
    have hS : St w0 w noX [rdE 1 E98 s1 x2] [pt dl11 do11, pt dD11 (.deferred (some [])), mkA [], pt b4 (Cs #[.int .u32 x3] 98), slE 98 1 E98 s6 x14, pt b7 (Cs #[s6] 37), pt b8 (Cs #[.int .u32 x15] 98), pt b10 (Cs #[s1] 37)] := hD; clear hD
    replace hf : Fr a 30 [] [(20, .int .u32 x15), (21, .int .u32 x13), (22, .int .u32 x3), (3, Pv b4 0), (4, .slice none 0 0), (5, .int .u32 0), (6, Pv b7 0), (7, Pv b8 0), (8, Iv x12), (9, .int .u32 x13), (14, .func (.func 107) #[] #[Pv b10 0]), (15, Iv x12), (16, .int .u32 x13)] := hf
    refine O.callR hf rfl rfl rfl (RunE.call (av := #[.int .u32 x15, .int .u32 x13, .int .u32 x3]) C_ok_104 rfl rfl rfl) (m_math_bits_Div32_ok F x15 x13 x3 _ x18 hx18) ?_
    clear hf a; rintro _ w hS1 a hf
    replace hf : Fr a _ _ ((23, .tuple #[.int .u32 x18.1, .int .u32 x18.2]) :: _) := hf
    replace hS := (hS.call hS1).eqM (N := [pt dl11 do11, pt dD11 (.deferred (some [])), mkA [], pt b4 (Cs #[.int .u32 x3] 98), slE 98 1 E98 s6 x14, pt b7 (Cs #[s6] 37), pt b8 (Cs #[.int .u32 x15] 98), pt b10 (Cs #[s1] 37)]) rfl
    clear hS1
    exact O.nil ⟨rfl, (), hf.to trivial, (fun d hd => by cases (show some 23 = some d from hd); exact hf.get _ _ rfl), (fun _ _ _ => rfl), hS⟩
   ·intro s g w hsp hD a hf
    have hS : St w0 w noX [rdE 1 E98 s1 x2] [pt dl11 do11, pt dD11 (.deferred (some [])), mkA [], pt b4 (Cs #[.int .u32 x3] 98), slE 98 1 E98 s6 x14, pt b7 (Cs #[s6] 37), pt b8 (Cs #[.int .u32 x15] 98), pt b10 (Cs #[s1] 37)] := hD; clear hD
    replace hf : Fr a 30 [] [(18, s6), (19, Iv x12), (20, .int .u32 x15), (21, .int .u32 x13), (22, .int .u32 x3), (23, .tuple #[.int .u32 x18.1, .int .u32 x18.2]), (17, .tuple #[.int .u32 x18.1, .int .u32 x18.2]), (24, .int .u32 x18.1), (26, ix s6 (Int.toNat x12 * 1)), (3, Pv b4 0), (4, .slice none 0 0), (5, .int .u32 0), (6, Pv b7 0), (7, Pv b8 0), (8, Iv x12), (9, .int .u32 x13), (14, .func (.func 107) #[] #[Pv b10 0]), (15, Iv x12), (16, .int .u32 x13)] := hf
    refine O.storeE (j := 4) (o := 0) (y0 := x18.1) (l' := x14.set (Int.toNat x12) x18.1) (M' := [pt dl11 do11, pt dD11 (.deferred (some [])), mkA [], pt b4 (Cs #[.int .u32 x3] 98), slE 98 1 E98 s6 (x14.set (Int.toNat x12) x18.1), pt b7 (Cs #[s6] 37), pt b8 (Cs #[.int .u32 x15] 98), pt b10 (Cs #[s1] 37)]) hf hS rfl rfl rfl T_size_98 rfl rfl rfl E98_len hx19 rfl rfl rfl rfl ?_
    clear hS; intro w hS
    exact O.nil ⟨rfl, (), hf.to trivial, (fun d hd => by cases (show none = some d from hd)), (fun _ _ _ => rfl), hS⟩
   ·intro s g w hsp hD a hf
    have hS : St w0 w noX [rdE 1 E98 s1 x2] [pt dl11 do11, pt dD11 (.deferred (some [])), mkA [], pt b4 (Cs #[.int .u32 x3] 98), slE 98 1 E98 s6 (x14.set (Int.toNat x12) x18.1), pt b7 (Cs #[s6] 37), pt b8 (Cs #[.int .u32 x15] 98), pt b10 (Cs #[s1] 37)] := hD; clear hD
    replace hf : Fr a 30 [] [(18, s6), (19, Iv x12), (20, .int .u32 x15), (21, .int .u32 x13), (22, .int .u32 x3), (23, .tuple #[.int .u32 x18.1, .int .u32 x18.2]), (17, .tuple #[.int .u32 x18.1, .int .u32 x18.2]), (24, .int .u32 x18.1), (25, .int .u32 x18.2), (26, ix s6 (Int.toNat x12 * 1)), (3, Pv b4 0), (4, .slice none 0 0), (5, .int .u32 0), (6, Pv b7 0), (7, Pv b8 0), (8, Iv x12), (9, .int .u32 x13), (14, .func (.func 107) #[] #[Pv b10 0]), (15, Iv x12), (16, .int .u32 x13)] := hf
    refine O.store (j := 6) (cs' := #[.int .u32 x18.2]) (M' := [pt dl11 do11, pt dD11 (.deferred (some [])), mkA [], pt b4 (Cs #[.int .u32 x3] 98), slE 98 1 E98 s6 (x14.set (Int.toNat x12) x18.1), pt b7 (Cs #[s6] 37), pt b8 (Cs #[.int .u32 x18.2] 98), pt b10 (Cs #[s1] 37)]) hf hS rfl rfl rfl T_size_98 rfl rfl rfl (Nat.le_of_ble_eq_true rfl) rfl rfl ?_
    clear hS; intro w hS
    exact O.nil ⟨rfl, (), hf.to trivial, (fun d hd => by cases (show none = some d from hd)), (fun _ _ _ => rfl), hS⟩
  ·clear hf hf1 hS
   exact trivial
  clear hf hf1 hS; intro s g a w hs hf hD
  have hS : St w0 w noX [rdE 1 E98 s1 x2] [pt dl11 do11, pt dD11 (.deferred (some [])), mkA [], pt b4 (Cs #[.int .u32 x3] 98), slE 98 1 E98 s6 (x14.set (Int.toNat x12) x18.1), pt b7 (Cs #[s6] 37), pt b8 (Cs #[.int .u32 x18.2] 98), pt b10 (Cs #[s1] 37)] := hD; clear hD
  replace hf : Fr a 30 [] [(18, s6), (19, Iv x12), (20, .int .u32 x15), (21, .int .u32 x13), (22, .int .u32 x3), (23, .tuple #[.int .u32 x18.1, .int .u32 x18.2]), (17, .tuple #[.int .u32 x18.1, .int .u32 x18.2]), (24, .int .u32 x18.1), (25, .int .u32 x18.2), (26, ix s6 (Int.toNat x12 * 1)), (3, Pv b4 0), (4, .slice none 0 0), (5, .int .u32 0), (6, Pv b7 0), (7, Pv b8 0), (8, Iv x12), (9, .int .u32 x13), (14, .func (.func 107) #[] #[Pv b10 0]), (15, Iv x12), (16, .int .u32 x13)] := hf
  refine k_blk_normal ?_
  exact .inl ⟨rfl, (x14.set (Int.toNat x12) x18.1, x18.2), by rw [hrec11] at hm; exact hm, hS⟩
 ·clear hf hS hm a; clear w
  rintro dD11 ⟨x14, x15⟩ a w hm hS hf
  replace hm : m_wide_short_l1 F x3 ((downL x2).drop ((downL x2).map (fun p : Int × Int => (Iv p.1, Value.int .u32 p.2))).length) x14 x15 = some r := hm
  rw [List.length_map, List.drop_length] at hm
  replace hm : m_wide_short_j1 F x14 x15 = some r := hm
  unfold m_wide_short_j1 at hm
  replace hf : Fr a 30 (mkDs (dD11 :: [])) [(3, Pv b4 0), (4, .slice none 0 0), (5, .int .u32 0), (6, Pv b7 0), (7, Pv b8 0), (14, .func (.func 107) #[] #[Pv b10 0])] := hf
  replace hS : St w0 w noX [rdE 1 E98 s1 x2] (pt dD11 (.deferred (some [])) :: [mkA [], pt b4 (Cs #[.int .u32 x3] 98), slE 98 1 E98 s6 x14, pt b7 (Cs #[s6] 37), pt b8 (Cs #[.int .u32 x15] 98), pt b10 (Cs #[s1] 37)]) := hS
  replace hS := hS.mkCons
  refine k_blk_normal ?_
  refine k_seq ?_
  replace hf : Fr a 30 (mkDs (dD11 :: [])) [(4, .slice none 0 0), (5, .int .u32 0), (6, Pv b7 0), (7, Pv b8 0)] := hf.to ⟨rfl, rfl, rfl, rfl, trivial⟩
  refine W.seq ?_
  have hf1 : Fr a 30 (mkDs (dD11 :: [])) [(4, .slice none 0 0), (5, .int .u32 0)] := hf.to ⟨rfl, rfl, trivial⟩
  replace hf : Fr a 30 (mkDs (dD11 :: [])) [(6, Pv b7 0), (7, Pv b8 0)] := hf.to ⟨rfl, rfl, trivial⟩
  obtain ⟨x16, hx16, hm⟩ := hm_b hm
  refine W.drawC (γ := Value) (L0 := [(6, Pv b7 0), (7, Pv b8 0)]) (L1 := [(4, .slice none 0 0), (5, .int .u32 0)]) (undef) [1] [] [0, 2, 3, 4] (fun i => match i with | 1 => [0] | 3 => [0, 1] | 4 => [0, 1, 2, 3] | _ => []) (fun i => match i with | 3 => [1] | 4 => [1] | _ => []) (fun i => match i with | 0 => [1] | _ => []) (fun _ => []) (fun i => match i with | 1 => [3, 4] | _ => []) (fun _ => []) (fun i => match i with | 3 => 1 | 4 => 1 | _ => 0) (fun i => match i with | 1 => 1 | 2 => 1 | 3 => 1 | 4 => 1 | _ => 0) (fun (g : Value) j => match j with | 0 => s6 | 1 => g | 2 => .int .u32 x15 | 3 => g | 4 => .int .u32 x15 | _ => undef) (fun k s (g : Value) w => match k with | 0 => St w0 w noX [rdE 1 E98 s1 x2] [mkA (dD11 :: []), pt b4 (Cs #[.int .u32 x3] 98), slE 98 1 E98 s6 x14, pt b7 (Cs #[s6] 37), pt b8 (Cs #[.int .u32 x15] 98), pt b10 (Cs #[s1] 37)] | _ => St w0 w noX [rdE 1 E98 s1 x2] [slE 98 1 E98 g x16, mkA (dD11 :: []), pt b4 (Cs #[.int .u32 x3] 98), pt b7 (Cs #[s6] 37), pt b8 (Cs #[.int .u32 x15] 98), pt b10 (Cs #[s1] 37)]) P_mixed (by kernel_rfl) (by kernel_rfl) (by kernel_rfl) hf hf1 hS.drew ?_ ?_ ?_ ?_
  ·clear hf hf1 hS
   refine ⟨?_, ?_, fun k s g w _ _ _ hD a hf => Q.val (v := g) rfl rfl rfl hD hf (RunV.assign rfl), fun k s g w _ _ _ hD a hf => Q.val (v := .int .u32 x15) rfl rfl rfl hD hf (RunV.assign rfl), trivial⟩
   ·intro k s s17 w h1_ h2_ hsp hD a hf
    rcases k with _ | k
    ·have hS : St w0 w noX [rdE 1 E98 s1 x2] [mkA (dD11 :: []), pt b4 (Cs #[.int .u32 x3] 98), slE 98 1 E98 s6 x14, pt b7 (Cs #[s6] 37), pt b8 (Cs #[.int .u32 x15] 98), pt b10 (Cs #[s1] 37)] := hD; clear hD
     replace hf : Fr a 30 (mkDs (dD11 :: [])) [(6, Pv b7 0), (7, Pv b8 0)] := hf
     exact Q.val (v := s6) rfl rfl rfl hS hf (RunV.load1 T_agg_37 rfl (hS.ptAt (i := 3) rfl) rfl)
    ·exact absurd h2_ (by simp)
   ·intro k s s17 w h1_ h2_ hsp hD a hf
    rcases k with _ | _ | k
    ·have hS : St w0 w noX [rdE 1 E98 s1 x2] [mkA (dD11 :: []), pt b4 (Cs #[.int .u32 x3] 98), slE 98 1 E98 s6 x14, pt b7 (Cs #[s6] 37), pt b8 (Cs #[.int .u32 x15] 98), pt b10 (Cs #[s1] 37)] := hD; clear hD
     replace hf : Fr a 30 (mkDs (dD11 :: [])) [(6, Pv b7 0), (7, Pv b8 0)] := hf
     exact Q.val (v := .int .u32 x15) rfl rfl rfl hS hf (RunV.load1 T_agg_98 rfl (hS.ptAt (i := 4) rfl) rfl)
    ·have hS : St w0 w noX [rdE 1 E98 s1 x2] [slE 98 1 E98 s17 x16, mkA (dD11 :: []), pt b4 (Cs #[.int .u32 x3] 98), pt b7 (Cs #[s6] 37), pt b8 (Cs #[.int .u32 x15] 98), pt b10 (Cs #[s1] 37)] := hD; clear hD
     replace hf : Fr a 30 (mkDs (dD11 :: [])) [(6, Pv b7 0), (7, Pv b8 0)] := hf
     exact Q.val (v := .int .u32 x15) rfl rfl rfl hS hf (RunV.load1 T_agg_98 rfl (hS.ptAt (i := 4) rfl) rfl)
    ·exact absurd h2_ (by simp)
  ·clear hf hf1 hS
   refine ⟨?_, trivial⟩
   ·intro s s17 w hsp hD a hf
    have hS : St w0 w noX [rdE 1 E98 s1 x2] [mkA (dD11 :: []), pt b4 (Cs #[.int .u32 x3] 98), slE 98 1 E98 s6 x14, pt b7 (Cs #[s6] 37), pt b8 (Cs #[.int .u32 x15] 98), pt b10 (Cs #[s1] 37)] := hD; clear hD
    replace hf : Fr a 30 (mkDs (dD11 :: [])) [(27, s6), (6, Pv b7 0), (7, Pv b8 0)] := hf
    refine O.callR hf rfl rfl rfl (RunE.call (av := #[s6]) C_ok_54 rfl rfl rfl) (m_wide_trim_3_ok F s6 x14 _ (hS.slS (j := 2) rfl) x16 hx16) ?_
    clear hf a; rintro s17 w hS1 a hf
    replace hf : Fr a _ _ ((28, s17) :: _) := hf
    replace hS := (hS.callX1 hS1 (i := 2) rfl (fun _ h => h)).eqM (N := [slE 98 1 E98 s17 x16, mkA (dD11 :: []), pt b4 (Cs #[.int .u32 x3] 98), pt b7 (Cs #[s6] 37), pt b8 (Cs #[.int .u32 x15] 98), pt b10 (Cs #[s1] 37)]) rfl
    clear hS1
    exact O.nil ⟨rfl, s17, hf.to trivial, (fun d hd => by cases (show some 28 = some d from hd); exact hf.get _ _ rfl), (fun j hj hk => match j, hj, hk with | 0, hj, hk => rfl | 1, hj, hk => absurd rfl hj | 2, hj, hk => rfl | 3, hj, hk => absurd hk (by decide) | 4, hj, hk => absurd hk (by decide) | _ + 5, _, _ => rfl), hS⟩
  ·clear hf hf1 hS
   exact trivial
  clear hf hf1 hS; intro s s17 a w hs hf hD
  have hS : St w0 w noX [rdE 1 E98 s1 x2] [slE 98 1 E98 s17 x16, mkA (dD11 :: []), pt b4 (Cs #[.int .u32 x3] 98), pt b7 (Cs #[s6] 37), pt b8 (Cs #[.int .u32 x15] 98), pt b10 (Cs #[s1] 37)] := hD; clear hD
  replace hf : Fr a 30 (mkDs (dD11 :: [])) [(27, s6), (28, s17), (29, .int .u32 x15), (4, s17), (5, .int .u32 x15), (6, Pv b7 0), (7, Pv b8 0)] := hf
  refine k_seq ?_
  replace hf : Fr a 30 (mkDs (dD11 :: [])) [(4, s17), (5, .int .u32 x15)] := hf.to ⟨rfl, rfl, trivial⟩
  refine W.ret ?_
  replace hS := hS.front (i := 5) (M' := [pt b10 (Cs #[s1] 37), slE 98 1 E98 s17 x16, mkA (dD11 :: []), pt b4 (Cs #[.int .u32 x3] 98), pt b7 (Cs #[s6] 37), pt b8 (Cs #[.int .u32 x15] 98)]) rfl rfl
  replace hS := hS.front (i := 5) (M' := [pt b8 (Cs #[.int .u32 x15] 98), pt b10 (Cs #[s1] 37), slE 98 1 E98 s17 x16, mkA (dD11 :: []), pt b4 (Cs #[.int .u32 x3] 98), pt b7 (Cs #[s6] 37)]) rfl rfl
  replace hS := hS.front (i := 5) (M' := [pt b7 (Cs #[s6] 37), pt b8 (Cs #[.int .u32 x15] 98), pt b10 (Cs #[s1] 37), slE 98 1 E98 s17 x16, mkA (dD11 :: []), pt b4 (Cs #[.int .u32 x3] 98)]) rfl rfl
  replace hS := hS.front (i := 5) (M' := [pt b4 (Cs #[.int .u32 x3] 98), pt b7 (Cs #[s6] 37), pt b8 (Cs #[.int .u32 x15] 98), pt b10 (Cs #[s1] 37), slE 98 1 E98 s17 x16, mkA (dD11 :: [])]) rfl rfl
  replace hS := hS.front (i := 4) (M' := [slE 98 1 E98 s17 x16, pt b4 (Cs #[.int .u32 x3] 98), pt b7 (Cs #[s6] 37), pt b8 (Cs #[.int .u32 x15] 98), pt b10 (Cs #[s1] 37), mkA (dD11 :: [])]) rfl rfl
  replace hS := hS.front (i := 5) (M' := [mkA (dD11 :: []), slE 98 1 E98 s17 x16, pt b4 (Cs #[.int .u32 x3] 98), pt b7 (Cs #[s6] 37), pt b8 (Cs #[.int .u32 x15] 98), pt b10 (Cs #[s1] 37)]) rfl rfl
  refine postM (Ds := (dD11 :: [])) hS hf (fun w a hf hS => ?_)
  obtain rfl := Option.some.inj hm
  refine post2 hf rfl (ResOK.tmp rfl) (ResOK.tmp rfl) ?_
  replace hS := hS.sub (N := [slE 98 1 E98 s17 x16]) (.cons_cons _ (.cons _ (.cons _ (.cons _ (.cons _ .slnil)))))
  exact ⟨s17, rfl, hS.noB⟩
 ·rintro dD11 _ a w hm _ _
  exact hm.elim

def m_math_bits_LeadingZeros32 (F : Nat)  (x1 : Int) : Option Int :=
  (m_math_bits_Len32 F x1).bind fun x2 => some (IntKind.i64.wrap (32 - x2))
set_option maxHeartbeats 1000000 in
set_option maxRecDepth 8000 in
theorem m_math_bits_LeadingZeros32_ok (F : Nat)    (x1 : Int) (w0 : World)  (r : Int) (hm : m_math_bits_LeadingZeros32 F x1 = some r) :
    Ret Try.prog 80 #[.int .u32 x1] w0 (G := Unit) (fun _ => Iv r) (fun _ w => St w0 w noX [] []) := by
 unfold m_math_bits_LeadingZeros32 at hm
 refine ret_of_W (lv := [.int .u32 x1]) Try.func80 rfl rfl rfl (fun a hf => ?_)
 replace hf : Fr a 6 [] [(0, .int .u32 x1)] := hf
 have hS : St w0 w0 noX [] [] := St.borrow lendAll_nil
 refine W.seq ?_
 refine W.regionL (l := [0]) rfl ?_
 refine O.val hf rfl rfl rfl (RunV.assign rfl) ?_; clear hf a; intro a hf
 refine O.nil ?_
 refine k_seq ?_
 refine W.seq ?_
 refine W.regionL (l := [0, 1, 2, 3]) rfl ?_
 refine O.val hf rfl rfl rfl (RunV.move rfl) ?_; clear hf a; intro a hf
 obtain ⟨x2, hx2, hm⟩ := hm_b hm
 refine O.callR hf rfl rfl rfl (RunE.call (av := #[.int .u32 x1]) C_ok_77 rfl rfl rfl) (m_math_bits_Len32_ok F x1 _ x2 hx2) ?_
 clear hf a; rintro _ w hS1 a hf
 replace hf : Fr a _ _ ((4, Iv x2) :: _) := hf
 replace hS := (hS.call hS1).eqM (N := []) rfl
 clear hS1
 refine O.val (v := Iv (IntKind.i64.wrap (32 - x2))) hf rfl rfl rfl (RunV.sub rfl rfl) ?_; clear hf a; intro a hf
 refine O.val hf rfl rfl rfl (RunV.assign rfl) ?_; clear hf a; intro a hf
 refine O.nil ?_
 refine k_seq ?_
 replace hf : Fr a 6 [] [(2, Iv (IntKind.i64.wrap (32 - x2)))] := hf.to ⟨rfl, trivial⟩
 refine W.ret ?_
 obtain rfl := Option.some.inj hm
 refine post1 hf rfl (ResOK.tmp rfl) ?_
 exact ⟨(), rfl, hS.noB⟩

def m_wide_left_2_j1 (F : Nat) (x7 : List Int) (x8 : Int) : Option (List Int) :=
  if (x7.length : Int) ≤ 4294967296 then some (x7 ++ [IntKind.u32.wrap x8]) else none
def m_wide_left_2_b2 (F : Nat) (x2 : List Int) (x3 : Int) (rec16 : (List Int) → Int → Int → Option (List Int)) (x13 : List Int) (x14 : Int) (x15 : Int) : Option (List Int) :=
  if x15 < ((x2.length : Int) : Int) then ((idx x2 x15).bind fun x18 => if 0 ≤ (Int.tmod x3 32) then (some (IntKind.u64.wrap ((IntKind.u64.wrap x18) * 2 ^ (min (Int.toNat (Int.tmod x3 32)) (IntKind.bits .u64))))).bind fun x20 => (some (bitor .u64 x14 x20)).bind fun x21 => if (x13.length : Int) ≤ 4294967296 then rec16 (x13 ++ [IntKind.u32.wrap x21]) (Int.fdiv x21 (2 ^ 32)) (IntKind.i64.wrap (x15 + 1)) else none else none) else (m_wide_left_2_j1 F x13 x14)
def m_wide_left_2_l2 (F : Nat) (x2 : List Int) (x3 : Int) : Nat → (List Int) → Int → Int → Option (List Int)
  | 0, _, _, _ => none
  | n + 1, x13, x14, x15 => m_wide_left_2_b2 F x2 x3 (m_wide_left_2_l2 F x2 x3 n) x13 x14 x15
def m_wide_left_2 (F : Nat)  (x2 : List Int) (x3 : Int) : Option (List Int) :=
  if 0 ≤ (IntKind.i64.wrap (Int.tdiv x3 32)) ∧ (IntKind.i64.wrap (Int.tdiv x3 32)) ≤ (IntKind.i64.wrap ((IntKind.i64.wrap ((IntKind.i64.wrap (Int.tdiv x3 32)) + (x2.length : Int))) + 1)) ∧ (IntKind.i64.wrap ((IntKind.i64.wrap ((IntKind.i64.wrap (Int.tdiv x3 32)) + (x2.length : Int))) + 1)) ≤ 4294967296 then m_wide_left_2_l2 F x2 x3 F (List.replicate (Int.toNat (IntKind.i64.wrap (Int.tdiv x3 32))) (0 : Int)) 0 0 else none
end Go.Proofs.Ytipedambeemdaaa
