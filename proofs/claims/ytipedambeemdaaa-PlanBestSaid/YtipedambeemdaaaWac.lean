/- Part of a proof: walks printed by a program. -/
import Derived.Test.YtipedambeemdaaaWab
set_option linter.unusedVariables false
set_option linter.unusedSimpArgs false
namespace Go.Proofs.Ytipedambeemdaaa
open Go Go.SL
set_option maxHeartbeats 1000000 in
set_option maxRecDepth 8000 in
theorem m_wide_left_2_ok (F : Nat)    (s1 : Value) (x2 : List Int) (x3 : Int) (w0 : World) (h_s1 : rdEOK (hp w0) 1 E98 s1 x2) (r : List Int) (hm : m_wide_left_2 F x2 x3 = some r) :
    Ret Try.prog 55 #[s1, Iv x3] w0 (G := Value) (fun g1 => g1) (fun g1 w => St w0 w noX [] [slE 98 1 E98 g1 r]) := by
 unfold m_wide_left_2 at hm
 refine ret_of_W (lv := [s1, Iv x3]) Try.func55 rfl rfl rfl (fun a hf => ?_)
 replace hf : Fr a 44 [] [(0, s1), (1, Iv x3)] := hf
 have hS : St w0 w0 noX [rdE 1 E98 s1 x2] [] := St.borrow (lendAll_cons (lendRd h_s1) lendAll_nil)
 refine W.seq ?_
 refine W.regionL (l := [0]) rfl ?_
 refine O.val hf rfl rfl rfl (RunV.assign rfl) ?_; clear hf a; intro a hf
 refine O.nil ?_
 refine k_seq ?_
 refine W.seq ?_
 refine W.regionL (l := [0, 1, 2, 3, 4, 5, 6, 7, 8, 9]) rfl ?_
 refine O.val hf rfl rfl rfl (RunV.move rfl) ?_; clear hf a; intro a hf
 refine O.val (v := Iv (IntKind.i64.wrap (Int.tdiv x3 32))) hf rfl rfl rfl (RunV.quo (q := 32) rfl rfl (by decide)) ?_; clear hf a; intro a hf
 refine O.val hf rfl rfl rfl (RunV.move rfl) ?_; clear hf a; intro a hf
 refine O.val (v := Iv (IntKind.i64.wrap (Int.tdiv x3 32))) hf rfl rfl rfl (RunV.quo (q := 32) rfl rfl (by decide)) ?_; clear hf a; intro a hf
 refine O.val hf rfl rfl rfl (RunV.move rfl) ?_; clear hf a; intro a hf
 refine O.val (v := Iv (x2.length : Int)) hf rfl rfl rfl (RunV.lenE (e := 98) (by simpa using T_elem_37) rfl (hS.rdB (j := 0) rfl)) ?_; clear hf a; intro a hf
 refine O.val (v := Iv (IntKind.i64.wrap ((IntKind.i64.wrap (Int.tdiv x3 32)) + (x2.length : Int)))) hf rfl rfl rfl (RunV.add rfl rfl) ?_; clear hf a; intro a hf
 refine O.val (v := Iv (IntKind.i64.wrap ((IntKind.i64.wrap ((IntKind.i64.wrap (Int.tdiv x3 32)) + (x2.length : Int))) + 1))) hf rfl rfl rfl (RunV.add rfl rfl) ?_; clear hf a; intro a hf
 obtain ⟨hg4, hm⟩ := hm_g hm
 refine O.makeCapE (enc := E98) (x0 := (0 : Int)) hf hS rfl rfl T_elem_37 T_size_98 T_bytes_98 T_zero_98 rfl rfl rfl hg4 rfl E98_len rfl ?_
 clear hf hS a; intro s5 w a hS hf
 refine O.val hf rfl rfl rfl (RunV.assign rfl) ?_; clear hf a; intro a hf
 refine O.nil ?_
 refine k_seq ?_
 replace hf : Fr a 44 [] [(0, s1), (1, Iv x3), (4, .slice none 0 0), (5, s5)] := hf.to ⟨rfl, rfl, rfl, rfl, trivial⟩
 refine W.seq ?_
 refine W.regionL (l := [0]) rfl ?_
 refine O.val hf rfl rfl rfl (RunV.assign rfl) ?_; clear hf a; intro a hf
 refine O.nil ?_
 refine k_seq ?_
 refine W.seqR (fun a w => ∃ (s6 : Value) (x7 : List Int) (x8 : Int), Fr a 44 [] [(4, .slice none 0 0), (5, s6), (6, Uv x8)] ∧ St w0 w noX [rdE 1 E98 s1 x2] [slE 98 1 E98 s6 x7] ∧ m_wide_left_2_j1 F x7 x8 = some r) ?_ ?_
 ·refine W.seq ?_
  refine W.regionL (l := [0, 1, 2]) rfl ?_
  refine O.val hf rfl rfl rfl (RunV.move rfl) ?_; clear hf a; intro a hf
  refine O.val (v := Iv (x2.length : Int)) hf rfl rfl rfl (RunV.lenE (e := 98) (by simpa using T_elem_37) rfl (hS.rdB (j := 0) rfl)) ?_; clear hf a; intro a hf
  refine O.val hf rfl rfl rfl (RunV.move rfl) ?_; clear hf a; intro a hf
  refine O.nil ?_
  refine k_seq ?_
  replace hf : Fr a 44 [] [(1, Iv x3), (4, .slice none 0 0), (5, s5), (6, Uv 0), (18, s1), (19, Iv (x2.length : Int)), (20, Iv 0)] := hf.to ⟨rfl, rfl, rfl, rfl, rfl, rfl, rfl, trivial⟩
  refine W.block ?_
  refine W.loop (G := Nat × Value × (List Int) × Int × Int) (fun g a w => match g with | (k16, s12, x13, x14, x15) => Fr a 44 [] [(1, Iv x3), (4, .slice none 0 0), (5, s12), (6, Uv x14), (18, s1), (19, Iv (x2.length : Int)), (20, Iv x15)] ∧ St w0 w noX [rdE 1 E98 s1 x2] [slE 98 1 E98 s12 x13] ∧ m_wide_left_2_l2 F x2 x3 k16 x13 x14 x15 = some r) (fun g => match g with | (k16, s12, x13, x14, x15) => k16) (F, s5, List.replicate (Int.toNat (IntKind.i64.wrap (Int.tdiv x3 32))) (0 : Int), 0, 0) ⟨hf.to ⟨rfl, rfl, rfl, rfl, rfl, rfl, rfl, trivial⟩, hS, hm⟩ ?_
  clear hf hS hm a; try clear w
  rintro ⟨k16, s12, x13, x14, x15⟩ a w ⟨hf, hS, hm⟩
  rcases k16 with _ | k16
  · exact absurd (show none = some r from hm) (by simp)
  replace hm : m_wide_left_2_b2 F x2 x3 (m_wide_left_2_l2 F x2 x3 k16) x13 x14 x15 = some r := hm
  obtain ⟨rec16, hrec16⟩ : ∃ f, f = m_wide_left_2_l2 F x2 x3 k16 := ⟨_, rfl⟩
  rw [← hrec16] at hm; unfold m_wide_left_2_b2 at hm
  refine W.seq ?_
  refine W.regionL (l := [0]) rfl ?_
  refine O.val (v := Bv (decide (x15 < ((x2.length : Int) : Int)))) hf rfl rfl rfl (RunV.lss rfl rfl) ?_; clear hf a; intro a hf
  refine O.nil ?_
  refine k_seq ?_
  refine W.seq ?_
  refine W.ifdI hf rfl (fun hc17 => ?_) (fun hc17 => ?_)
  ·replace hm := hm_p hm hc17
   refine W.skip ?_
   refine k_seq ?_
   refine W.seq ?_
   refine W.block ?_
   refine W.seq ?_
   refine W.regionL (l := [0, 1, 2]) rfl ?_
   obtain ⟨x18, hx18, hm⟩ := hm_b hm
   refine O.val hf rfl rfl rfl (RunV.ixE T_elem_37 T_size_98 rfl rfl (hS.rdB (j := 0) rfl) hx18) ?_; clear hf a; intro a hf
   refine O.val hf rfl rfl rfl (RunV.ldE1 (o := 0) T_agg_98 E98_len rfl (hS.rdB (j := 0) rfl) hx18 rfl rfl) ?_; clear hf a; intro a hf
   refine O.val hf rfl rfl rfl (RunV.assign rfl) ?_; clear hf a; intro a hf
   refine O.nil ?_
   refine k_seq ?_
   refine W.seq ?_
   refine W.regionL (l := [0, 1, 2, 3, 4, 5, 6, 7]) rfl ?_
   refine O.val hf rfl rfl rfl (RunV.move rfl) ?_; clear hf a; intro a hf
   refine O.val hf rfl rfl rfl (RunV.move rfl) ?_; clear hf a; intro a hf
   refine O.val (v := Uv (IntKind.u64.wrap x18)) hf rfl rfl rfl (RunV.conv T_und_98 T_int_108 rfl) ?_; clear hf a; intro a hf
   refine O.val hf rfl rfl rfl (RunV.move rfl) ?_; clear hf a; intro a hf
   refine O.val (v := Iv (Int.tmod x3 32)) hf rfl rfl rfl (RunV.rem (q := 32) rfl rfl (by decide)) ?_; clear hf a; intro a hf
   obtain ⟨hg19, hm⟩ := hm_g hm
   refine O.val (v := Uv (IntKind.u64.wrap ((IntKind.u64.wrap x18) * 2 ^ (min (Int.toNat (Int.tmod x3 32)) (IntKind.bits .u64))))) hf rfl rfl rfl (RunV.shl rfl rfl hg19) ?_; clear hf a; intro a hf
   refine O.val (v := Uv (bitor .u64 x14 (IntKind.u64.wrap ((IntKind.u64.wrap x18) * 2 ^ (min (Int.toNat (Int.tmod x3 32)) (IntKind.bits .u64)))))) hf rfl rfl rfl (RunV.bitor rfl rfl) ?_; clear hf a; intro a hf
   refine O.val hf rfl rfl rfl (RunV.assign rfl) ?_; clear hf a; intro a hf
   refine O.nil ?_
   refine k_seq ?_
   obtain ⟨x20, hx20, hm⟩ := hm_b hm
   rw [Option.some.inj hx20] at hf
   obtain ⟨x21, hx21, hm⟩ := hm_b hm
   rw [Option.some.inj hx21] at hf
   refine W.seq ?_
   refine W.regionL (l := [0, 1, 2, 3, 4, 5]) rfl ?_
   refine O.val hf rfl rfl rfl (RunV.move rfl) ?_; clear hf a; intro a hf
   refine O.val hf rfl rfl rfl (RunV.move rfl) ?_; clear hf a; intro a hf
   refine O.val (v := .int .u32 (IntKind.u32.wrap x21)) hf rfl rfl rfl (RunV.conv T_und_108 T_int_98 rfl) ?_; clear hf a; intro a hf
   refine O.buildSlice (cs' := #[.int .u32 (IntKind.u32.wrap x21)]) (zs := #[.int .u32 0]) hf hS rfl rfl T_elem_37 T_size_98 T_zero_98 rfl rfl rfl rfl rfl ?_
   clear hf hS a; intro b22 w a hb22 hS hf
   obtain ⟨hg23, hm⟩ := hm_g hm
   refine O.appendE1 (j := 1) (jj := 0) (enc := E98) (m := [IntKind.u32.wrap x21]) (l' := x13 ++ [IntKind.u32.wrap x21]) hf hS rfl rfl T_elem_37 T_size_98 T_bytes_98 T_zero_98 rfl rfl rfl rfl rfl rfl rfl rfl rfl rfl hg23 rfl rfl rfl ?_
   clear hf hS a; intro s24 w a hS hf
   replace hS : St w0 _ noX [rdE 1 E98 s1 x2] [pt b22 (Cs #[.int .u32 (IntKind.u32.wrap x21)] 98), slE 98 1 E98 s24 (x13 ++ [IntKind.u32.wrap x21])] := hS
   refine O.val hf rfl rfl rfl (RunV.assign rfl) ?_; clear hf a; intro a hf
   refine O.nil ?_
   refine k_seq ?_
   refine W.regionL (l := [0, 1, 2]) rfl ?_
   refine O.val hf rfl rfl rfl (RunV.move rfl) ?_; clear hf a; intro a hf
   refine O.val (v := Uv (Int.fdiv x21 (2 ^ 32))) hf rfl rfl rfl (RunV.shr (q := 32) rfl rfl (by decide)) ?_; clear hf a; intro a hf
   refine O.val hf rfl rfl rfl (RunV.assign rfl) ?_; clear hf a; intro a hf
   refine O.nil ?_
   refine k_blk_normal ?_
   refine k_seq ?_
   refine W.regionL (l := [0, 1]) rfl ?_
   refine O.val (v := Iv (IntKind.i64.wrap (x15 + 1))) hf rfl rfl rfl (RunV.add rfl rfl) ?_; clear hf a; intro a hf
   refine O.val hf rfl rfl rfl (RunV.move rfl) ?_; clear hf a; intro a hf
   refine O.nil ?_
   replace hS := hS.sub (N := [slE 98 1 E98 s24 (x13 ++ [IntKind.u32.wrap x21])]) (.cons _ (.cons_cons _ .slnil))
   refine k_then ⟨(k16, s24, x13 ++ [IntKind.u32.wrap x21], Int.fdiv x21 (2 ^ 32), IntKind.i64.wrap (x15 + 1)), ⟨hf.to ⟨rfl, rfl, rfl, rfl, rfl, rfl, rfl, trivial⟩, hS, ?_⟩, Nat.lt_succ_self _⟩
   rw [hrec16] at hm; exact hm
  ·replace hm := hm_n hm hc17
   refine W.exit ?_
   refine k_then_exit ?_
   refine k_then_exit ?_
   refine k_blk ?_
   exact k_then ⟨s12, x13, x14, hf.to ⟨rfl, rfl, rfl, trivial⟩, hS, hm⟩
 ·clear hf hS hm a; try clear w
  rintro a w ⟨s6, x7, x8, hf, hS, hm⟩
  unfold m_wide_left_2_j1 at hm
  refine W.seq ?_
  refine W.regionL (l := [0, 1, 2, 3, 4, 5]) rfl ?_
  refine O.val hf rfl rfl rfl (RunV.move rfl) ?_; clear hf a; intro a hf
  refine O.val hf rfl rfl rfl (RunV.move rfl) ?_; clear hf a; intro a hf
  refine O.val (v := .int .u32 (IntKind.u32.wrap x8)) hf rfl rfl rfl (RunV.conv T_und_108 T_int_98 rfl) ?_; clear hf a; intro a hf
  refine O.buildSlice (cs' := #[.int .u32 (IntKind.u32.wrap x8)]) (zs := #[.int .u32 0]) hf hS rfl rfl T_elem_37 T_size_98 T_zero_98 rfl rfl rfl rfl rfl ?_
  clear hf hS a; intro b9 w a hb9 hS hf
  obtain ⟨hg10, hm⟩ := hm_g hm
  refine O.appendE1 (j := 1) (jj := 0) (enc := E98) (m := [IntKind.u32.wrap x8]) (l' := x7 ++ [IntKind.u32.wrap x8]) hf hS rfl rfl T_elem_37 T_size_98 T_bytes_98 T_zero_98 rfl rfl rfl rfl rfl rfl rfl rfl rfl rfl hg10 rfl rfl rfl ?_
  clear hf hS a; intro s11 w a hS hf
  replace hS : St w0 _ noX [rdE 1 E98 s1 x2] [pt b9 (Cs #[.int .u32 (IntKind.u32.wrap x8)] 98), slE 98 1 E98 s11 (x7 ++ [IntKind.u32.wrap x8])] := hS
  refine O.val hf rfl rfl rfl (RunV.assign rfl) ?_; clear hf a; intro a hf
  refine O.nil ?_
  refine k_seq ?_
  replace hf : Fr a 44 [] [(4, s11)] := hf.to ⟨rfl, trivial⟩
  refine W.ret ?_
  obtain rfl := Option.some.inj hm
  refine post1 hf rfl (ResOK.tmp rfl) ?_
  replace hS := hS.sub (N := [slE 98 1 E98 s11 (x7 ++ [IntKind.u32.wrap x8])]) (.cons _ (.cons_cons _ .slnil))
  exact ⟨s11, rfl, hS.noB⟩

def m_wide_subtract_2_j1 (F : Nat) (x4 : List Int) (x6 : List Int) (x7 : Int) (x8 : Int) : Option (Bool × (List Int)) :=
  (idx x6 (x4.length : Int)).bind fun x9 => (m_math_bits_Sub32 F x9 (IntKind.u32.wrap x7) x8).bind fun x10 => some (decide (x10.2 = (0 : Int)), x6.set (Int.toNat (x4.length : Int)) x10.1)
def m_wide_subtract_2_b2 (F : Nat) (x4 : List Int) (x5 : Int) (rec15 : (List Int) → Int → Int → Int → Option (Bool × (List Int))) (x11 : List Int) (x12 : Int) (x13 : Int) (x14 : Int) : Option (Bool × (List Int)) :=
  if x14 < ((x4.length : Int) : Int) then ((idx x4 x14).bind fun x17 => (some (IntKind.u64.wrap ((IntKind.u64.wrap x5) * (IntKind.u64.wrap x17)))).bind fun x18 => (some (IntKind.u64.wrap (x12 + x18))).bind fun x19 => (idx x11 x14).bind fun x20 => (m_math_bits_Sub32 F x20 (IntKind.u32.wrap x19) x13).bind fun x21 => rec15 (x11.set (Int.toNat x14) x21.1) (Int.fdiv x19 (2 ^ 32)) x21.2 (IntKind.i64.wrap (x14 + 1))) else (m_wide_subtract_2_j1 F x4 x11 x12 x13)
def m_wide_subtract_2_l2 (F : Nat) (x4 : List Int) (x5 : Int) : Nat → (List Int) → Int → Int → Int → Option (Bool × (List Int))
  | 0, _, _, _, _ => none
  | n + 1, x11, x12, x13, x14 => m_wide_subtract_2_b2 F x4 x5 (m_wide_subtract_2_l2 F x4 x5 n) x11 x12 x13 x14
def m_wide_subtract_2 (F : Nat)  (x2 : List Int) (x4 : List Int) (x5 : Int) : Option (Bool × (List Int)) :=
  m_wide_subtract_2_l2 F x4 x5 F x2 0 0 0
set_option maxHeartbeats 1000000 in
set_option maxRecDepth 8000 in
theorem m_wide_subtract_2_ok (F : Nat)    (s1 : Value) (x2 : List Int) (s3 : Value) (x4 : List Int) (x5 : Int) (w0 : World) (h_s1 : slOK (hp w0) 98 1 s1 x2.length (encs E98 x2)) (h_s3 : rdEOK (hp w0) 1 E98 s3 x4) (ap_s3 : ∀ k, (rdE 1 E98 s3 x4).fp k → ¬ (slE 98 1 E98 s1 x2).fp k) (r : Bool × (List Int)) (hm : m_wide_subtract_2 F x2 x4 x5 = some r) :
    Ret Try.prog 105 #[s1, s3, .int .u32 x5] w0 (G := Unit) (fun _ => Bv r.1) (fun _ w => St w0 w (fun k => s1.ownBlock = some k) [] [slE 98 1 E98 s1 r.2]) := by
 unfold m_wide_subtract_2 at hm
 refine ret_of_W (lv := [s1, s3, .int .u32 x5]) Try.func105 rfl rfl rfl (fun a hf => ?_)
 replace hf : Fr a 61 [] [(0, s1), (1, s3), (2, .int .u32 x5)] := hf
 have hS : St w0 w0 (fun k => s1.ownBlock = some k) [rdE 1 E98 s3 x4] [slE 98 1 E98 s1 x2] := St.ownE h_s1 (lendAll_cons (lendRd h_s3) lendAll_nil) (apAll_cons ap_s3 (apAll_nil (q := slE 98 1 E98 s1 x2)))
 refine W.seq ?_
 refine W.regionL (l := [0]) rfl ?_
 refine O.val hf rfl rfl rfl (RunV.assign rfl) ?_; clear hf a; intro a hf
 refine O.nil ?_
 refine k_seq ?_
 refine W.seq ?_
 refine W.regionL (l := [0]) rfl ?_
 refine O.val hf rfl rfl rfl (RunV.assign rfl) ?_; clear hf a; intro a hf
 refine O.nil ?_
 refine k_seq ?_
 refine W.seq ?_
 refine W.regionL (l := [0]) rfl ?_
 refine O.val hf rfl rfl rfl (RunV.assign rfl) ?_; clear hf a; intro a hf
 refine O.nil ?_
 refine k_seq ?_
 refine W.seqR (fun a w => ∃ (x6 : List Int) (x7 : Int) (x8 : Int), Fr a 61 [] [(0, s1), (1, s3), (6, Bv false), (7, Uv x7), (8, .int .u32 x8)] ∧ St w0 w (fun k => s1.ownBlock = some k) [rdE 1 E98 s3 x4] [slE 98 1 E98 s1 x6] ∧ m_wide_subtract_2_j1 F x4 x6 x7 x8 = some r) ?_ ?_
 ·refine W.seq ?_
  refine W.regionL (l := [0, 1, 2]) rfl ?_
  refine O.val hf rfl rfl rfl (RunV.move rfl) ?_; clear hf a; intro a hf
  refine O.val (v := Iv (x4.length : Int)) hf rfl rfl rfl (RunV.lenE (e := 98) (by simpa using T_elem_37) rfl (hS.rdB (j := 0) rfl)) ?_; clear hf a; intro a hf
  refine O.val hf rfl rfl rfl (RunV.move rfl) ?_; clear hf a; intro a hf
  refine O.nil ?_
  refine k_seq ?_
  refine W.block ?_
  refine W.loop (G := Nat × (List Int) × Int × Int × Int) (fun g a w => match g with | (k15, x11, x12, x13, x14) => Fr a 61 [] [(0, s1), (1, s3), (2, .int .u32 x5), (6, Bv false), (7, Uv x12), (8, .int .u32 x13), (12, s3), (13, Iv (x4.length : Int)), (14, Iv x14)] ∧ St w0 w (fun k => s1.ownBlock = some k) [rdE 1 E98 s3 x4] [slE 98 1 E98 s1 x11] ∧ m_wide_subtract_2_l2 F x4 x5 k15 x11 x12 x13 x14 = some r) (fun g => match g with | (k15, x11, x12, x13, x14) => k15) (F, x2, 0, 0, 0) ⟨hf.to ⟨rfl, rfl, rfl, rfl, rfl, rfl, rfl, rfl, rfl, trivial⟩, hS, hm⟩ ?_
  clear hf hS hm a; try clear w
  rintro ⟨k15, x11, x12, x13, x14⟩ a w ⟨hf, hS, hm⟩
  rcases k15 with _ | k15
  · exact absurd (show none = some r from hm) (by simp)
  replace hm : m_wide_subtract_2_b2 F x4 x5 (m_wide_subtract_2_l2 F x4 x5 k15) x11 x12 x13 x14 = some r := hm
  obtain ⟨rec15, hrec15⟩ : ∃ f, f = m_wide_subtract_2_l2 F x4 x5 k15 := ⟨_, rfl⟩
  rw [← hrec15] at hm; unfold m_wide_subtract_2_b2 at hm
  refine W.seq ?_
  refine W.regionL (l := [0]) rfl ?_
  refine O.val (v := Bv (decide (x14 < ((x4.length : Int) : Int)))) hf rfl rfl rfl (RunV.lss rfl rfl) ?_; clear hf a; intro a hf
  refine O.nil ?_
  refine k_seq ?_
  refine W.seq ?_
  refine W.ifdI hf rfl (fun hc16 => ?_) (fun hc16 => ?_)
  ·replace hm := hm_p hm hc16
   refine W.skip ?_
   refine k_seq ?_
   refine W.seq ?_
   refine W.block ?_
   refine W.seq ?_
   refine W.regionL (l := [0, 1, 2, 3, 4]) rfl ?_
   refine O.val hf rfl rfl rfl (RunV.move rfl) ?_; clear hf a; intro a hf
   obtain ⟨x17, hx17, hm⟩ := hm_b hm
   refine O.val hf rfl rfl rfl (RunV.ixE T_elem_37 T_size_98 rfl rfl (hS.rdB (j := 0) rfl) hx17) ?_; clear hf a; intro a hf
   refine O.val hf rfl rfl rfl (RunV.ldE1 (o := 0) T_agg_98 E98_len rfl (hS.rdB (j := 0) rfl) hx17 rfl rfl) ?_; clear hf a; intro a hf
   refine O.val hf rfl rfl rfl (RunV.assign rfl) ?_; clear hf a; intro a hf
   refine O.val hf rfl rfl rfl (RunV.assign rfl) ?_; clear hf a; intro a hf
   refine O.nil ?_
   refine k_seq ?_
   refine W.seq ?_
   refine W.regionL (l := [0, 1, 2, 3, 4, 5, 6, 7]) rfl ?_
   refine O.val hf rfl rfl rfl (RunV.move rfl) ?_; clear hf a; intro a hf
   refine O.val hf rfl rfl rfl (RunV.move rfl) ?_; clear hf a; intro a hf
   refine O.val (v := Uv (IntKind.u64.wrap x5)) hf rfl rfl rfl (RunV.conv T_und_98 T_int_108 rfl) ?_; clear hf a; intro a hf
   refine O.val hf rfl rfl rfl (RunV.move rfl) ?_; clear hf a; intro a hf
   refine O.val (v := Uv (IntKind.u64.wrap x17)) hf rfl rfl rfl (RunV.conv T_und_98 T_int_108 rfl) ?_; clear hf a; intro a hf
   refine O.val (v := Uv (IntKind.u64.wrap ((IntKind.u64.wrap x5) * (IntKind.u64.wrap x17)))) hf rfl rfl rfl (RunV.mul rfl rfl) ?_; clear hf a; intro a hf
   refine O.val (v := Uv (IntKind.u64.wrap (x12 + (IntKind.u64.wrap ((IntKind.u64.wrap x5) * (IntKind.u64.wrap x17)))))) hf rfl rfl rfl (RunV.add rfl rfl) ?_; clear hf a; intro a hf
   refine O.val hf rfl rfl rfl (RunV.assign rfl) ?_; clear hf a; intro a hf
   refine O.nil ?_
   refine k_seq ?_
   obtain ⟨x18, hx18, hm⟩ := hm_b hm
   rw [Option.some.inj hx18] at hf
   obtain ⟨x19, hx19, hm⟩ := hm_b hm
   rw [Option.some.inj hx19] at hf
   refine W.seq ?_
   refine W.regionL (l := [0, 1, 2, 3, 4, 5, 6, 7, 8, 9, 10, 11, 12, 13, 14, 15]) rfl ?_
   refine O.val hf rfl rfl rfl (RunV.move rfl) ?_; clear hf a; intro a hf
   refine O.val hf rfl rfl rfl (RunV.move rfl) ?_; clear hf a; intro a hf
   refine O.val hf rfl rfl rfl (RunV.move rfl) ?_; clear hf a; intro a hf
   refine O.val hf rfl rfl rfl (RunV.move rfl) ?_; clear hf a; intro a hf
   obtain ⟨x20, hx20, hm⟩ := hm_b hm
   refine O.val hf rfl rfl rfl (RunV.ixE T_elem_37 T_size_98 rfl rfl (hS.rdS (j := 0) rfl) hx20) ?_; clear hf a; intro a hf
   refine O.val hf rfl rfl rfl (RunV.ldE1 (o := 0) T_agg_98 E98_len rfl (hS.rdS (j := 0) rfl) hx20 rfl rfl) ?_; clear hf a; intro a hf
   refine O.val hf rfl rfl rfl (RunV.move rfl) ?_; clear hf a; intro a hf
   refine O.val (v := .int .u32 (IntKind.u32.wrap x19)) hf rfl rfl rfl (RunV.conv T_und_108 T_int_98 rfl) ?_; clear hf a; intro a hf
   refine O.val hf rfl rfl rfl (RunV.move rfl) ?_; clear hf a; intro a hf
   obtain ⟨x21, hx21, hm⟩ := hm_b hm
   refine O.callR hf rfl rfl rfl (RunE.call (av := #[.int .u32 x20, .int .u32 (IntKind.u32.wrap x19), .int .u32 x13]) C_ok_86 rfl rfl rfl) (m_math_bits_Sub32_ok F x20 (IntKind.u32.wrap x19) x13 _ x21 hx21) ?_
   clear hf a; rintro _ w hS1 a hf
   replace hf : Fr a _ _ ((36, .tuple #[.int .u32 x21.1, .int .u32 x21.2]) :: _) := hf
   replace hS := (hS.call hS1).eqM (N := [slE 98 1 E98 s1 x11]) rfl
   clear hS1
   refine O.val hf rfl rfl rfl (RunV.move rfl) ?_; clear hf a; intro a hf
   refine O.val hf rfl rfl rfl (RunV.extract rfl rfl) ?_; clear hf a; intro a hf
   refine O.val hf rfl rfl rfl (RunV.extract rfl rfl) ?_; clear hf a; intro a hf
   refine O.val hf rfl rfl rfl (RunV.ixE T_elem_37 T_size_98 rfl rfl (hS.rdS (j := 0) rfl) hx20) ?_; clear hf a; intro a hf
   refine O.storeE (j := 0) (o := 0) (y0 := x21.1) (l' := x11.set (Int.toNat x14) x21.1) (M' := [slE 98 1 E98 s1 (x11.set (Int.toNat x14) x21.1)]) hf hS rfl rfl rfl T_size_98 rfl rfl rfl E98_len hx20 rfl rfl rfl rfl ?_
   clear hS; intro w hS
   refine O.val hf rfl rfl rfl (RunV.assign rfl) ?_; clear hf a; intro a hf
   refine O.nil ?_
   refine k_seq ?_
   refine W.regionL (l := [0, 1, 2]) rfl ?_
   refine O.val hf rfl rfl rfl (RunV.move rfl) ?_; clear hf a; intro a hf
   refine O.val (v := Uv (Int.fdiv x19 (2 ^ 32))) hf rfl rfl rfl (RunV.shr (q := 32) rfl rfl (by decide)) ?_; clear hf a; intro a hf
   refine O.val hf rfl rfl rfl (RunV.assign rfl) ?_; clear hf a; intro a hf
   refine O.nil ?_
   refine k_blk_normal ?_
   refine k_seq ?_
   refine W.regionL (l := [0, 1]) rfl ?_
   refine O.val (v := Iv (IntKind.i64.wrap (x14 + 1))) hf rfl rfl rfl (RunV.add rfl rfl) ?_; clear hf a; intro a hf
   refine O.val hf rfl rfl rfl (RunV.move rfl) ?_; clear hf a; intro a hf
   refine O.nil ?_
   refine k_then ⟨(k15, x11.set (Int.toNat x14) x21.1, Int.fdiv x19 (2 ^ 32), x21.2, IntKind.i64.wrap (x14 + 1)), ⟨hf.to ⟨rfl, rfl, rfl, rfl, rfl, rfl, rfl, rfl, rfl, trivial⟩, hS, ?_⟩, Nat.lt_succ_self _⟩
   rw [hrec15] at hm; exact hm
  ·replace hm := hm_n hm hc16
   refine W.exit ?_
   refine k_then_exit ?_
   refine k_then_exit ?_
   refine k_blk ?_
   exact k_then ⟨x11, x12, x13, hf.to ⟨rfl, rfl, rfl, rfl, rfl, trivial⟩, hS, hm⟩
 ·clear hf hS hm a; try clear w
  rintro a w ⟨x6, x7, x8, hf, hS, hm⟩
  unfold m_wide_subtract_2_j1 at hm
  refine W.seq ?_
  refine W.regionL (l := [0, 1, 2]) rfl ?_
  refine O.val hf rfl rfl rfl (RunV.move rfl) ?_; clear hf a; intro a hf
  refine O.val (v := Iv (x4.length : Int)) hf rfl rfl rfl (RunV.lenE (e := 98) (by simpa using T_elem_37) rfl (hS.rdB (j := 0) rfl)) ?_; clear hf a; intro a hf
  refine O.val hf rfl rfl rfl (RunV.assign rfl) ?_; clear hf a; intro a hf
  refine O.nil ?_
  refine k_seq ?_
  replace hf : Fr a 61 [] [(0, s1), (6, Bv false), (7, Uv x7), (8, .int .u32 x8), (11, Iv (x4.length : Int))] := hf.to ⟨rfl, rfl, rfl, rfl, rfl, trivial⟩
  refine W.seq ?_
  refine W.regionL (l := [0, 1, 2, 3, 4, 5, 6, 7, 8, 9, 10, 11, 12, 13, 14, 15]) rfl ?_
  refine O.val hf rfl rfl rfl (RunV.move rfl) ?_; clear hf a; intro a hf
  refine O.val hf rfl rfl rfl (RunV.move rfl) ?_; clear hf a; intro a hf
  refine O.val hf rfl rfl rfl (RunV.move rfl) ?_; clear hf a; intro a hf
  refine O.val hf rfl rfl rfl (RunV.move rfl) ?_; clear hf a; intro a hf
  obtain ⟨x9, hx9, hm⟩ := hm_b hm
  refine O.val hf rfl rfl rfl (RunV.ixE T_elem_37 T_size_98 rfl rfl (hS.rdS (j := 0) rfl) hx9) ?_; clear hf a; intro a hf
  refine O.val hf rfl rfl rfl (RunV.ldE1 (o := 0) T_agg_98 E98_len rfl (hS.rdS (j := 0) rfl) hx9 rfl rfl) ?_; clear hf a; intro a hf
  refine O.val hf rfl rfl rfl (RunV.move rfl) ?_; clear hf a; intro a hf
  refine O.val (v := .int .u32 (IntKind.u32.wrap x7)) hf rfl rfl rfl (RunV.conv T_und_108 T_int_98 rfl) ?_; clear hf a; intro a hf
  refine O.val hf rfl rfl rfl (RunV.move rfl) ?_; clear hf a; intro a hf
  obtain ⟨x10, hx10, hm⟩ := hm_b hm
  refine O.callR hf rfl rfl rfl (RunE.call (av := #[.int .u32 x9, .int .u32 (IntKind.u32.wrap x7), .int .u32 x8]) C_ok_86 rfl rfl rfl) (m_math_bits_Sub32_ok F x9 (IntKind.u32.wrap x7) x8 _ x10 hx10) ?_
  clear hf a; rintro _ w hS1 a hf
  replace hf : Fr a _ _ ((55, .tuple #[.int .u32 x10.1, .int .u32 x10.2]) :: _) := hf
  replace hS := (hS.call hS1).eqM (N := [slE 98 1 E98 s1 x6]) rfl
  clear hS1
  refine O.val hf rfl rfl rfl (RunV.move rfl) ?_; clear hf a; intro a hf
  refine O.val hf rfl rfl rfl (RunV.extract rfl rfl) ?_; clear hf a; intro a hf
  refine O.val hf rfl rfl rfl (RunV.extract rfl rfl) ?_; clear hf a; intro a hf
  refine O.val hf rfl rfl rfl (RunV.ixE T_elem_37 T_size_98 rfl rfl (hS.rdS (j := 0) rfl) hx9) ?_; clear hf a; intro a hf
  refine O.storeE (j := 0) (o := 0) (y0 := x10.1) (l' := x6.set (Int.toNat (x4.length : Int)) x10.1) (M' := [slE 98 1 E98 s1 (x6.set (Int.toNat (x4.length : Int)) x10.1)]) hf hS rfl rfl rfl T_size_98 rfl rfl rfl E98_len hx9 rfl rfl rfl rfl ?_
  clear hS; intro w hS
  refine O.val hf rfl rfl rfl (RunV.assign rfl) ?_; clear hf a; intro a hf
  refine O.nil ?_
  refine k_seq ?_
  replace hf : Fr a 61 [] [(6, Bv false), (8, .int .u32 x10.2)] := hf.to ⟨rfl, rfl, trivial⟩
  refine W.seq ?_
  refine W.regionL (l := [0, 1, 2]) rfl ?_
  refine O.val hf rfl rfl rfl (RunV.move rfl) ?_; clear hf a; intro a hf
  refine O.val (v := Bv (decide (x10.2 = (0 : Int)))) hf rfl rfl rfl (RunV.eql rfl rfl) ?_; clear hf a; intro a hf
  refine O.val hf rfl rfl rfl (RunV.assign rfl) ?_; clear hf a; intro a hf
  refine O.nil ?_
  refine k_seq ?_
  replace hf : Fr a 61 [] [(6, Bv (decide (x10.2 = (0 : Int))))] := hf.to ⟨rfl, trivial⟩
  refine W.ret ?_
  obtain rfl := Option.some.inj hm
  refine post1 hf rfl (ResOK.tmp rfl) ?_
  exact ⟨(), rfl, hS.noB⟩

def m_wide_step_2_b1 (F : Nat) (x3 : Int) (x4 : Int) (x2 : List Int) (x6 : List Int) (rec9 : Int → Option (Int × (List Int))) (x8 : Int) : Option (Int × (List Int)) :=
  if sbd x3 x4 (x2.length : Int) then (m_slices_Clone_uint32_uint32 F (lsub x2 x3 x4)).bind fun x11 => (m_wide_subtract_2 F x11 x6 x8).bind fun x13 => if (x13.1) = true then (some (x8, lcopy x2 x13.2 x3 (min x13.2.length (Int.toNat x4 - Int.toNat x3)))) else (rec9 (IntKind.u32.wrap (x8 - 1))) else none
def m_wide_step_2_l1 (F : Nat) (x3 : Int) (x4 : Int) (x2 : List Int) (x6 : List Int) : Nat → Int → Option (Int × (List Int))
  | 0, _ => none
  | n + 1, x8 => m_wide_step_2_b1 F x3 x4 x2 x6 (m_wide_step_2_l1 F x3 x4 x2 x6 n) x8
def m_wide_step_2_j2 (F : Nat) (x3 : Int) (x4 : Int) (x2 : List Int) (x6 : List Int) (x7 : Int) : Option (Int × (List Int)) :=
  m_wide_step_2_l1 F x3 x4 x2 x6 F x7
def m_wide_step_2 (F : Nat)  (x2 : List Int) (x3 : Int) (x4 : Int) (x6 : List Int) : Option (Int × (List Int)) :=
  if sbd x3 x4 (x2.length : Int) then (idx (lsub x2 x3 x4) (x6.length : Int)).bind fun x16 => (idx x6 (IntKind.i64.wrap ((x6.length : Int) - 1))).bind fun x17 => if x16 < (x17 : Int) then ((idx (lsub x2 x3 x4) (IntKind.i64.wrap ((x6.length : Int) - 1))).bind fun x19 => (m_math_bits_Div32 F x16 x19 x17).bind fun x20 => m_wide_step_2_j2 F x3 x4 x2 x6 x20.1) else (m_wide_step_2_j2 F x3 x4 x2 x6 4294967295) else none
set_option maxHeartbeats 1000000 in
set_option maxRecDepth 8000 in
theorem m_wide_step_2_ok (F : Nat)    (s1 : Value) (x2 : List Int) (x3 : Int) (x4 : Int) (s5 : Value) (x6 : List Int) (w0 : World) (h_s1 : slOK (hp w0) 98 1 s1 x2.length (encs E98 x2)) (h_s5 : rdEOK (hp w0) 1 E98 s5 x6) (ap_s5 : ∀ k, (rdE 1 E98 s5 x6).fp k → ¬ (slE 98 1 E98 s1 x2).fp k) (r : Int × (List Int)) (hm : m_wide_step_2 F x2 x3 x4 x6 = some r) :
    Ret Try.prog 81 #[vsub 1 s1 x3 x4, s5] w0 (G := Unit) (fun _ => .int .u32 r.1) (fun _ w => St w0 w (fun k => s1.ownBlock = some k) [] [slE 98 1 E98 s1 r.2]) := by
 unfold m_wide_step_2 at hm
 refine ret_of_W (lv := [vsub 1 s1 x3 x4, s5]) Try.func81 rfl rfl rfl (fun a hf => ?_)
 replace hf : Fr a 50 [] [(0, vsub 1 s1 x3 x4), (1, s5)] := hf
 have hS : St w0 w0 (fun k => s1.ownBlock = some k) [rdE 1 E98 s5 x6] [slE 98 1 E98 s1 x2] := St.ownE h_s1 (lendAll_cons (lendRd h_s5) lendAll_nil) (apAll_cons ap_s5 (apAll_nil (q := slE 98 1 E98 s1 x2)))
 refine W.seq ?_
 refine W.regionL (l := [0]) rfl ?_
 refine O.val hf rfl rfl rfl (RunV.assign rfl) ?_; clear hf a; intro a hf
 refine O.nil ?_
 refine k_seq ?_
 refine W.seq ?_
 refine W.regionL (l := [0, 1, 2]) rfl ?_
 refine O.val hf rfl rfl rfl (RunV.move rfl) ?_; clear hf a; intro a hf
 refine O.val (v := Iv (x6.length : Int)) hf rfl rfl rfl (RunV.lenE (e := 98) (by simpa using T_elem_37) rfl (hS.rdB (j := 0) rfl)) ?_; clear hf a; intro a hf
 refine O.val hf rfl rfl rfl (RunV.assign rfl) ?_; clear hf a; intro a hf
 refine O.nil ?_
 refine k_seq ?_
 replace hf : Fr a 50 [] [(0, vsub 1 s1 x3 x4), (1, s5), (4, .int .u32 0), (5, Iv (x6.length : Int))] := hf.to ⟨rfl, rfl, rfl, rfl, trivial⟩
 refine W.seq ?_
 refine W.regionL (l := [0]) rfl ?_
 refine O.val hf rfl rfl rfl (RunV.assign rfl) ?_; clear hf a; intro a hf
 refine O.nil ?_
 refine k_seq ?_
 refine W.seqR (fun a w => ∃ (x7 : Int), Fr a 50 [] [(0, vsub 1 s1 x3 x4), (1, s5), (4, .int .u32 0), (6, .int .u32 x7)] ∧ St w0 w (fun k => s1.ownBlock = some k) [rdE 1 E98 s5 x6] [slE 98 1 E98 s1 x2] ∧ m_wide_step_2_j2 F x3 x4 x2 x6 x7 = some r) ?_ ?_
 ·refine W.seq ?_
  obtain ⟨hg15, hm⟩ := hm_g hm
  obtain ⟨x16, hx16, hm⟩ := hm_b hm
  obtain ⟨x17, hx17, hm⟩ := hm_b hm
  refine W.drawQ (fun w => St w0 w (fun k => s1.ownBlock = some k) [rdE 1 E98 s5 x6] [slE 98 1 E98 s1 x2]) P_mixed rfl (by kernel_rfl) rfl hS.drew ?_
  clear hS; try clear w
  refine OQ.val (v := vsub 1 s1 x3 x4) hf rfl (fun w hS => RunV.move rfl) ?_; clear hf a; intro a hf
  refine OQ.val (v := Iv (x6.length : Int)) hf rfl (fun w hS => RunV.move rfl) ?_; clear hf a; intro a hf
  refine OQ.val (v := ix s1 (Int.toNat (x3 + (x6.length : Int)) * 1)) hf rfl (fun w hS => RunV.ixW T_elem_37 T_size_98 rfl rfl (hS.rdS (j := 0) rfl) E98_len hg15 hx16) ?_; clear hf a; intro a hf
  refine OQ.val (v := .int .u32 x16) hf rfl (fun w hS => RunV.ldE1 (o := 0) T_agg_98 E98_len rfl (hS.rdS (j := 0) rfl) (idx_lsub hg15 hx16) rfl rfl) ?_; clear hf a; intro a hf
  refine OQ.val (v := s5) hf rfl (fun w hS => RunV.move rfl) ?_; clear hf a; intro a hf
  refine OQ.val (v := Iv (x6.length : Int)) hf rfl (fun w hS => RunV.move rfl) ?_; clear hf a; intro a hf
  refine OQ.val (v := Iv (IntKind.i64.wrap ((x6.length : Int) - 1))) hf rfl (fun w hS => RunV.sub rfl rfl) ?_; clear hf a; intro a hf
  refine OQ.val (v := ix s5 (Int.toNat (IntKind.i64.wrap ((x6.length : Int) - 1)) * 1)) hf rfl (fun w hS => RunV.ixE T_elem_37 T_size_98 rfl rfl (hS.rdB (j := 0) rfl) hx17) ?_; clear hf a; intro a hf
  refine OQ.val (v := .int .u32 x17) hf rfl (fun w hS => RunV.ldE1 (o := 0) T_agg_98 E98_len rfl (hS.rdB (j := 0) rfl) hx17 rfl rfl) ?_; clear hf a; intro a hf
  refine OQ.val (v := Bv (decide (x16 < (x17 : Int)))) hf rfl (fun w hS => RunV.lss rfl rfl) ?_; clear hf a; intro a hf
  refine OQ.nil ?_; intro w hS
  refine k_seq ?_
  replace hf : Fr a 50 [] [(0, vsub 1 s1 x3 x4), (1, s5), (4, .int .u32 0), (5, Iv (x6.length : Int)), (6, .int .u32 4294967295), (19, Bv (decide (x16 < (x17 : Int))))] := hf.to ⟨rfl, rfl, rfl, rfl, rfl, rfl, trivial⟩
  refine W.ifdI hf rfl (fun hc18 => ?_) (fun hc18 => ?_)
  ·replace hm := hm_p hm hc18
   obtain ⟨x19, hx19, hm⟩ := hm_b hm
   obtain ⟨x20, hx20, hm⟩ := hm_b hm
   refine W.drawQ (fun w => St w0 w (fun k => s1.ownBlock = some k) [rdE 1 E98 s5 x6] [slE 98 1 E98 s1 x2]) P_mixed rfl (by kernel_rfl) rfl hS.drew ?_
   clear hS; try clear w
   refine OQ.val (v := vsub 1 s1 x3 x4) hf rfl (fun w hS => RunV.move rfl) ?_; clear hf a; intro a hf
   refine OQ.val (v := Iv (x6.length : Int)) hf rfl (fun w hS => RunV.move rfl) ?_; clear hf a; intro a hf
   refine OQ.val (v := ix s1 (Int.toNat (x3 + (x6.length : Int)) * 1)) hf rfl (fun w hS => RunV.ixW T_elem_37 T_size_98 rfl rfl (hS.rdS (j := 0) rfl) E98_len hg15 hx16) ?_; clear hf a; intro a hf
   refine OQ.val (v := .int .u32 x16) hf rfl (fun w hS => RunV.ldE1 (o := 0) T_agg_98 E98_len rfl (hS.rdS (j := 0) rfl) (idx_lsub hg15 hx16) rfl rfl) ?_; clear hf a; intro a hf
   refine OQ.val (v := vsub 1 s1 x3 x4) hf rfl (fun w hS => RunV.move rfl) ?_; clear hf a; intro a hf
   refine OQ.val (v := Iv (x6.length : Int)) hf rfl (fun w hS => RunV.move rfl) ?_; clear hf a; intro a hf
   refine OQ.val (v := Iv (IntKind.i64.wrap ((x6.length : Int) - 1))) hf rfl (fun w hS => RunV.sub rfl rfl) ?_; clear hf a; intro a hf
   refine OQ.val (v := ix s1 (Int.toNat (x3 + (IntKind.i64.wrap ((x6.length : Int) - 1))) * 1)) hf rfl (fun w hS => RunV.ixW T_elem_37 T_size_98 rfl rfl (hS.rdS (j := 0) rfl) E98_len hg15 hx19) ?_; clear hf a; intro a hf
   refine OQ.val (v := .int .u32 x19) hf rfl (fun w hS => RunV.ldE1 (o := 0) T_agg_98 E98_len rfl (hS.rdS (j := 0) rfl) (idx_lsub hg15 hx19) rfl rfl) ?_; clear hf a; intro a hf
   refine OQ.val (v := s5) hf rfl (fun w hS => RunV.move rfl) ?_; clear hf a; intro a hf
   refine OQ.val (v := Iv (x6.length : Int)) hf rfl (fun w hS => RunV.move rfl) ?_; clear hf a; intro a hf
   refine OQ.val (v := Iv (IntKind.i64.wrap ((x6.length : Int) - 1))) hf rfl (fun w hS => RunV.sub rfl rfl) ?_; clear hf a; intro a hf
   refine OQ.val (v := ix s5 (Int.toNat (IntKind.i64.wrap ((x6.length : Int) - 1)) * 1)) hf rfl (fun w hS => RunV.ixE T_elem_37 T_size_98 rfl rfl (hS.rdB (j := 0) rfl) hx17) ?_; clear hf a; intro a hf
   refine OQ.val (v := .int .u32 x17) hf rfl (fun w hS => RunV.ldE1 (o := 0) T_agg_98 E98_len rfl (hS.rdB (j := 0) rfl) hx17 rfl rfl) ?_; clear hf a; intro a hf
   refine OQ.callRq (v := .tuple #[.int .u32 x20.1, .int .u32 x20.2]) hf rfl (fun w hS => RunE.call (av := #[.int .u32 x16, .int .u32 x19, .int .u32 x17]) C_ok_104 rfl rfl rfl) (fun w hS => m_math_bits_Div32_ok F x16 x19 x17 _ x20 hx20) ?_; clear hf a; intro a hf
   refine OQ.val (v := .tuple #[.int .u32 x20.1, .int .u32 x20.2]) hf rfl (fun w hS => RunV.move rfl) ?_; clear hf a; intro a hf
   refine OQ.val (v := .int .u32 x20.1) hf rfl (fun w hS => RunV.extract rfl rfl) ?_; clear hf a; intro a hf
   refine OQ.val (v := .int .u32 x20.2) hf rfl (fun w hS => RunV.extract rfl rfl) ?_; clear hf a; intro a hf
   refine OQ.val (v := .int .u32 x20.1) hf rfl (fun w hS => RunV.assign rfl) ?_; clear hf a; intro a hf
   refine OQ.nil ?_; intro w hS
   exact k_then ⟨x20.1, hf.to ⟨rfl, rfl, rfl, rfl, trivial⟩, hS, hm⟩
  ·replace hm := hm_n hm hc18
   refine W.skip ?_
   exact k_then ⟨4294967295, hf.to ⟨rfl, rfl, rfl, rfl, trivial⟩, hS, hm⟩
 ·clear hf hS hm a; try clear w
  rintro a w ⟨x7, hf, hS, hm⟩
  unfold m_wide_step_2_j2 at hm
  refine W.block ?_
  refine W.loop (G := Nat × Int) (fun g a w => match g with | (k9, x8) => Fr a 50 [] [(0, vsub 1 s1 x3 x4), (1, s5), (4, .int .u32 0), (6, .int .u32 x8)] ∧ St w0 w (fun k => s1.ownBlock = some k) [rdE 1 E98 s5 x6] [slE 98 1 E98 s1 x2] ∧ m_wide_step_2_l1 F x3 x4 x2 x6 k9 x8 = some r) (fun g => match g with | (k9, x8) => k9) (F, x7) ⟨hf.to ⟨rfl, rfl, rfl, rfl, trivial⟩, hS, hm⟩ ?_
  clear hf hS hm a; try clear w
  rintro ⟨k9, x8⟩ a w ⟨hf, hS, hm⟩
  rcases k9 with _ | k9
  · exact absurd (show none = some r from hm) (by simp)
  replace hm : m_wide_step_2_b1 F x3 x4 x2 x6 (m_wide_step_2_l1 F x3 x4 x2 x6 k9) x8 = some r := hm
  obtain ⟨rec9, hrec9⟩ : ∃ f, f = m_wide_step_2_l1 F x3 x4 x2 x6 k9 := ⟨_, rfl⟩
  rw [← hrec9] at hm; unfold m_wide_step_2_b1 at hm
  refine W.block ?_
  refine W.seq ?_
  refine W.regionL (l := [0, 1, 2]) rfl ?_
  refine O.val hf rfl rfl rfl (RunV.move rfl) ?_; clear hf a; intro a hf
  obtain ⟨hg10, hm⟩ := hm_g hm
  obtain ⟨x11, hx11, hm⟩ := hm_b hm
  refine O.callR hf rfl rfl rfl (RunE.call (av := #[vsub 1 s1 x3 x4]) C_ok_78 rfl rfl rfl) (m_slices_Clone_uint32_uint32_ok F (vsub 1 s1 x3 x4) (lsub x2 x3 x4) _ (rdEOK.sub (hS.rdS (j := 0) rfl) E98_len hg10) x11 hx11) ?_
  clear hf a; rintro s12 w hS1 a hf
  replace hf : Fr a _ _ ((39, s12) :: _) := hf
  replace hS := (hS.call hS1).eqM (N := [slE 98 1 E98 s12 x11, slE 98 1 E98 s1 x2]) rfl
  clear hS1
  refine O.val hf rfl rfl rfl (RunV.assign rfl) ?_; clear hf a; intro a hf
  refine O.nil ?_
  refine k_seq ?_
  refine W.seq ?_
  refine W.seq ?_
  refine W.regionL (l := [0, 1, 2, 3]) rfl ?_
  refine O.val hf rfl rfl rfl (RunV.move rfl) ?_; clear hf a; intro a hf
  refine O.val hf rfl rfl rfl (RunV.move rfl) ?_; clear hf a; intro a hf
  refine O.val hf rfl rfl rfl (RunV.move rfl) ?_; clear hf a; intro a hf
  obtain ⟨x13, hx13, hm⟩ := hm_b hm
  refine O.callR hf rfl rfl rfl (RunE.call (av := #[s12, s5, .int .u32 x8]) C_ok_105 rfl rfl rfl) (m_wide_subtract_2_ok F s12 x11 s5 x6 x8 _ (hS.slS (j := 0) rfl) (hS.rdB (j := 0) rfl) (hS.apart (i := 0) (j := 0) rfl rfl) x13 hx13) ?_
  clear hf a; rintro _ w hS1 a hf
  replace hf : Fr a _ _ ((43, Bv x13.1) :: _) := hf
  replace hS := (hS.callX1 hS1 (i := 0) rfl (fun _ h => h)).eqM (N := [slE 98 1 E98 s12 x13.2, slE 98 1 E98 s1 x2]) rfl
  clear hS1
  refine O.nil ?_
  refine k_seq ?_
  refine W.if_ hf rfl (fun hc14 => ?_) (fun hc14 => ?_)
  ·replace hm := hm_t hm hc14
   refine W.seq ?_
   refine W.regionL (l := [0, 1, 2]) rfl ?_
   refine O.val hf rfl rfl rfl (RunV.move rfl) ?_; clear hf a; intro a hf
   refine O.val hf rfl rfl rfl (RunV.move rfl) ?_; clear hf a; intro a hf
   refine O.copyW (j := 1) (p1 := x3) (p2 := x4) (M' := [slE 98 1 E98 s12 x13.2, slE 98 1 E98 s1 (lcopy x2 x13.2 x3 (min x13.2.length (Int.toNat x4 - Int.toNat x3)))]) hf hS rfl rfl T_elem_37 T_size_98 rfl rfl rfl (hS.rdS (j := 0) rfl) E98_len E98_one hg10 rfl rfl ?_
   clear hf hS a; intro w a hS hf
   refine O.nil ?_
   refine k_seq ?_
   replace hf : Fr a 50 [] [(0, vsub 1 s1 x3 x4), (1, s5), (4, .int .u32 0), (6, .int .u32 x8), (7, s12), (38, vsub 1 s1 x3 x4), (39, s12), (40, s12), (41, s5), (42, .int .u32 x8), (43, Bv x13.1), (44, vsub 1 s1 x3 x4), (45, s12)] := hf.to ⟨rfl, rfl, rfl, rfl, rfl, rfl, rfl, rfl, rfl, rfl, rfl, rfl, rfl, trivial⟩
   refine W.seq ?_
   refine W.regionL (l := [0, 1]) rfl ?_
   refine O.val hf rfl rfl rfl (RunV.move rfl) ?_; clear hf a; intro a hf
   refine O.val hf rfl rfl rfl (RunV.assign rfl) ?_; clear hf a; intro a hf
   refine O.nil ?_
   refine k_seq ?_
   refine W.ret ?_
   refine k_then_ret ?_
   refine k_blk_ret ?_
   refine k_then_ret ?_
   refine k_blk_ret ?_
   obtain rfl := Option.some.inj hm
   refine post1 hf rfl (ResOK.tmp rfl) ?_
   replace hS := hS.sub (N := [slE 98 1 E98 s1 (lcopy x2 x13.2 x3 (min x13.2.length (Int.toNat x4 - Int.toNat x3)))]) (.cons _ (.cons_cons _ .slnil))
   exact ⟨(), rfl, hS.noB⟩
  ·replace hm := hm_f hm hc14
   refine W.skip ?_
   refine k_seq ?_
   refine W.regionL (l := [0, 1, 2]) rfl ?_
   refine O.val hf rfl rfl rfl (RunV.move rfl) ?_; clear hf a; intro a hf
   refine O.val (v := .int .u32 (IntKind.u32.wrap (x8 - 1))) hf rfl rfl rfl (RunV.sub rfl rfl) ?_; clear hf a; intro a hf
   refine O.val hf rfl rfl rfl (RunV.assign rfl) ?_; clear hf a; intro a hf
   refine O.nil ?_
   refine k_blk_normal ?_
   replace hS := hS.sub (N := [slE 98 1 E98 s1 x2]) (.cons _ (.cons_cons _ .slnil))
   refine k_then ⟨(k9, IntKind.u32.wrap (x8 - 1)), ⟨hf.to ⟨rfl, rfl, rfl, rfl, trivial⟩, hS, ?_⟩, Nat.lt_succ_self _⟩
   rw [hrec9] at hm; exact hm

def m_wide_right_1 (F : Nat)  (x1 : Int) : Option Bool :=
  some (decide (x1 > (0 : Int)))
set_option maxHeartbeats 1000000 in
set_option maxRecDepth 8000 in
theorem m_wide_right_1_ok (F : Nat)    (x1 : Int) (w0 : World)  (r : Bool) (hm : m_wide_right_1 F x1 = some r) :
    Ret Try.prog 83 #[.int .u32 x1] w0 (G := Unit) (fun _ => Bv r) (fun _ w => St w0 w noX [] []) := by
 unfold m_wide_right_1 at hm
 refine ret_of_W (lv := [.int .u32 x1]) Try.func83 rfl rfl rfl (fun a hf => ?_)
 replace hf : Fr a 5 [] [(0, .int .u32 x1)] := hf
 have hS : St w0 w0 noX [] [] := St.borrow lendAll_nil
 refine W.seq ?_
 refine W.regionL (l := [0]) rfl ?_
 refine O.val hf rfl rfl rfl (RunV.assign rfl) ?_; clear hf a; intro a hf
 refine O.nil ?_
 refine k_seq ?_
 refine W.seq ?_
 refine W.regionL (l := [0, 1, 2]) rfl ?_
 refine O.val hf rfl rfl rfl (RunV.move rfl) ?_; clear hf a; intro a hf
 refine O.val (v := Bv (decide (x1 > (0 : Int)))) hf rfl rfl rfl (RunV.gtr rfl rfl) ?_; clear hf a; intro a hf
 refine O.val hf rfl rfl rfl (RunV.assign rfl) ?_; clear hf a; intro a hf
 refine O.nil ?_
 refine k_seq ?_
 replace hf : Fr a 5 [] [(2, Bv (decide (x1 > (0 : Int))))] := hf.to ⟨rfl, trivial⟩
 refine W.ret ?_
 obtain rfl := Option.some.inj hm
 refine post1 hf rfl (ResOK.tmp rfl) ?_
 exact ⟨(), rfl, hS.noB⟩

def m_slices_IndexFunc_uint32_uint32_j1 (F : Nat)  : Option Int :=
  some (-1)
def m_slices_IndexFunc_uint32_uint32_b2 (F : Nat) (x2 : List Int) (rec4 : Int → Option Int) (x3 : Int) : Option Int :=
  if x3 < ((x2.length : Int) : Int) then ((idx x2 x3).bind fun x6 => (m_wide_right_1 F x6).bind fun x7 => if (x7) = true then (some x3) else (rec4 (IntKind.i64.wrap (x3 + 1)))) else (m_slices_IndexFunc_uint32_uint32_j1 F)
def m_slices_IndexFunc_uint32_uint32_l2 (F : Nat) (x2 : List Int) : Nat → Int → Option Int
  | 0, _ => none
  | n + 1, x3 => m_slices_IndexFunc_uint32_uint32_b2 F x2 (m_slices_IndexFunc_uint32_uint32_l2 F x2 n) x3
def m_slices_IndexFunc_uint32_uint32 (F : Nat)  (x2 : List Int) : Option Int :=
  m_slices_IndexFunc_uint32_uint32_l2 F x2 F 0
set_option maxHeartbeats 1000000 in
set_option maxRecDepth 8000 in
theorem m_slices_IndexFunc_uint32_uint32_ok (F : Nat)    (s1 : Value) (x2 : List Int) (w0 : World) (h_s1 : rdEOK (hp w0) 1 E98 s1 x2) (r : Int) (hm : m_slices_IndexFunc_uint32_uint32 F x2 = some r) :
    Ret Try.prog 106 #[s1, .func (.func 83) #[] #[]] w0 (G := Unit) (fun _ => Iv r) (fun _ w => St w0 w noX [] []) := by
 unfold m_slices_IndexFunc_uint32_uint32 at hm
 refine ret_of_W (lv := [s1, .func (.func 83) #[] #[]]) Try.func106 rfl rfl rfl (fun a hf => ?_)
 replace hf : Fr a 19 [] [(0, s1), (1, .func (.func 83) #[] #[])] := hf
 have hS : St w0 w0 noX [rdE 1 E98 s1 x2] [] := St.borrow (lendAll_cons (lendRd h_s1) lendAll_nil)
 refine W.seq ?_
 refine W.regionL (l := [0]) rfl ?_
 refine O.val hf rfl rfl rfl (RunV.assign rfl) ?_; clear hf a; intro a hf
 refine O.nil ?_
 refine k_seq ?_
 refine W.seqR (fun a w => Fr a 19 [] [(4, Iv 0)] ∧ St w0 w noX [rdE 1 E98 s1 x2] [] ∧ m_slices_IndexFunc_uint32_uint32_j1 F = some r) ?_ ?_
 ·refine W.seq ?_
  refine W.regionL (l := [0, 1, 2]) rfl ?_
  refine O.val hf rfl rfl rfl (RunV.move rfl) ?_; clear hf a; intro a hf
  refine O.val (v := Iv (x2.length : Int)) hf rfl rfl rfl (RunV.lenE (e := 98) (by simpa using T_elem_37) rfl (hS.rdB (j := 0) rfl)) ?_; clear hf a; intro a hf
  refine O.val hf rfl rfl rfl (RunV.move rfl) ?_; clear hf a; intro a hf
  refine O.nil ?_
  refine k_seq ?_
  replace hf : Fr a 19 [] [(0, s1), (1, .func (.func 83) #[] #[]), (4, Iv 0), (7, Iv (x2.length : Int)), (8, Iv 0)] := hf.to ⟨rfl, rfl, rfl, rfl, rfl, trivial⟩
  refine W.block ?_
  refine W.loop (G := Nat × Int) (fun g a w => match g with | (k4, x3) => Fr a 19 [] [(0, s1), (1, .func (.func 83) #[] #[]), (4, Iv 0), (7, Iv (x2.length : Int)), (8, Iv x3)] ∧ St w0 w noX [rdE 1 E98 s1 x2] [] ∧ m_slices_IndexFunc_uint32_uint32_l2 F x2 k4 x3 = some r) (fun g => match g with | (k4, x3) => k4) (F, 0) ⟨hf.to ⟨rfl, rfl, rfl, rfl, rfl, trivial⟩, hS, hm⟩ ?_
  clear hf hS hm a; try clear w
  rintro ⟨k4, x3⟩ a w ⟨hf, hS, hm⟩
  rcases k4 with _ | k4
  · exact absurd (show none = some r from hm) (by simp)
  replace hm : m_slices_IndexFunc_uint32_uint32_b2 F x2 (m_slices_IndexFunc_uint32_uint32_l2 F x2 k4) x3 = some r := hm
  obtain ⟨rec4, hrec4⟩ : ∃ f, f = m_slices_IndexFunc_uint32_uint32_l2 F x2 k4 := ⟨_, rfl⟩
  rw [← hrec4] at hm; unfold m_slices_IndexFunc_uint32_uint32_b2 at hm
  refine W.seq ?_
  refine W.regionL (l := [0]) rfl ?_
  refine O.val (v := Bv (decide (x3 < ((x2.length : Int) : Int)))) hf rfl rfl rfl (RunV.lss rfl rfl) ?_; clear hf a; intro a hf
  refine O.nil ?_
  refine k_seq ?_
  refine W.seq ?_
  refine W.ifdI hf rfl (fun hc5 => ?_) (fun hc5 => ?_)
  ·replace hm := hm_p hm hc5
   refine W.skip ?_
   refine k_seq ?_
   refine W.seq ?_
   refine W.block ?_
   refine W.seq ?_
   refine W.regionL (l := [0, 1]) rfl ?_
   refine O.val hf rfl rfl rfl (RunV.move rfl) ?_; clear hf a; intro a hf
   refine O.val hf rfl rfl rfl (RunV.assign rfl) ?_; clear hf a; intro a hf
   refine O.nil ?_
   refine k_seq ?_
   refine W.seq ?_
   refine W.regionL (l := [0, 1, 2, 3, 4, 5]) rfl ?_
   refine O.val hf rfl rfl rfl (RunV.move rfl) ?_; clear hf a; intro a hf
   refine O.val hf rfl rfl rfl (RunV.move rfl) ?_; clear hf a; intro a hf
   refine O.val hf rfl rfl rfl (RunV.move rfl) ?_; clear hf a; intro a hf
   obtain ⟨x6, hx6, hm⟩ := hm_b hm
   refine O.val hf rfl rfl rfl (RunV.ixE T_elem_37 T_size_98 rfl rfl (hS.rdB (j := 0) rfl) hx6) ?_; clear hf a; intro a hf
   refine O.val hf rfl rfl rfl (RunV.ldE1 (o := 0) T_agg_98 E98_len rfl (hS.rdB (j := 0) rfl) hx6 rfl rfl) ?_; clear hf a; intro a hf
   obtain ⟨x7, hx7, hm⟩ := hm_b hm
   refine O.callR hf rfl rfl rfl (RunE.call (av := #[.int .u32 x6]) C_ok_83 rfl rfl rfl) (m_wide_right_1_ok F x6 _ x7 hx7) ?_
   clear hf a; rintro _ w hS1 a hf
   replace hf : Fr a _ _ ((16, Bv x7) :: _) := hf
   replace hS := (hS.call hS1).eqM (N := []) rfl
   clear hS1
   refine O.nil ?_
   refine k_seq ?_
   refine W.if_ hf rfl (fun hc8 => ?_) (fun hc8 => ?_)
   ·replace hm := hm_t hm hc8
    refine W.seq ?_
    refine W.regionL (l := [0, 1]) rfl ?_
    refine O.val hf rfl rfl rfl (RunV.move rfl) ?_; clear hf a; intro a hf
    refine O.val hf rfl rfl rfl (RunV.assign rfl) ?_; clear hf a; intro a hf
    refine O.nil ?_
    refine k_seq ?_
    refine W.ret ?_
    refine k_blk_ret ?_
    refine k_then_ret ?_
    refine k_then_ret ?_
    refine k_blk_ret ?_
    refine k_then_ret ?_
    obtain rfl := Option.some.inj hm
    refine post1 hf rfl (ResOK.tmp rfl) ?_
    exact ⟨(), rfl, hS.noB⟩
   ·replace hm := hm_f hm hc8
    refine W.skip ?_
    refine k_blk_normal ?_
    refine k_seq ?_
    refine W.regionL (l := [0, 1]) rfl ?_
    refine O.val (v := Iv (IntKind.i64.wrap (x3 + 1))) hf rfl rfl rfl (RunV.add rfl rfl) ?_; clear hf a; intro a hf
    refine O.val hf rfl rfl rfl (RunV.move rfl) ?_; clear hf a; intro a hf
    refine O.nil ?_
    refine k_then ⟨(k4, IntKind.i64.wrap (x3 + 1)), ⟨hf.to ⟨rfl, rfl, rfl, rfl, rfl, trivial⟩, hS, ?_⟩, Nat.lt_succ_self _⟩
    rw [hrec4] at hm; exact hm
  ·replace hm := hm_n hm hc5
   refine W.exit ?_
   refine k_then_exit ?_
   refine k_then_exit ?_
   refine k_blk ?_
   exact k_then ⟨hf.to ⟨rfl, trivial⟩, hS, hm⟩
 ·clear hf hS hm a; try clear w
  rintro a w ⟨hf, hS, hm⟩
  unfold m_slices_IndexFunc_uint32_uint32_j1 at hm
  refine W.seq ?_
  refine W.regionL (l := [0]) rfl ?_
  refine O.val hf rfl rfl rfl (RunV.assign rfl) ?_; clear hf a; intro a hf
  refine O.nil ?_
  refine k_seq ?_
  refine W.ret ?_
  obtain rfl := Option.some.inj hm
  refine post1 hf rfl (ResOK.tmp rfl) ?_
  exact ⟨(), rfl, hS.noB⟩

def m_slices_ContainsFunc_uint32_uint32 (F : Nat)  (x2 : List Int) : Option Bool :=
  (m_slices_IndexFunc_uint32_uint32 F x2).bind fun x3 => some (decide (x3 ≥ (0 : Int)))
set_option maxHeartbeats 1000000 in
set_option maxRecDepth 8000 in
theorem m_slices_ContainsFunc_uint32_uint32_ok (F : Nat)    (s1 : Value) (x2 : List Int) (w0 : World) (h_s1 : rdEOK (hp w0) 1 E98 s1 x2) (r : Bool) (hm : m_slices_ContainsFunc_uint32_uint32 F x2 = some r) :
    Ret Try.prog 82 #[s1, .func (.func 83) #[] #[]] w0 (G := Unit) (fun _ => Bv r) (fun _ w => St w0 w noX [] []) := by
 unfold m_slices_ContainsFunc_uint32_uint32 at hm
 refine ret_of_W (lv := [s1, .func (.func 83) #[] #[]]) Try.func82 rfl rfl rfl (fun a hf => ?_)
 replace hf : Fr a 9 [] [(0, s1), (1, .func (.func 83) #[] #[])] := hf
 have hS : St w0 w0 noX [rdE 1 E98 s1 x2] [] := St.borrow (lendAll_cons (lendRd h_s1) lendAll_nil)
 refine W.seq ?_
 refine W.regionL (l := [0]) rfl ?_
 refine O.val hf rfl rfl rfl (RunV.assign rfl) ?_; clear hf a; intro a hf
 refine O.nil ?_
 refine k_seq ?_
 refine W.seq ?_
 refine W.regionL (l := [0, 1, 2, 3, 4]) rfl ?_
 refine O.val hf rfl rfl rfl (RunV.move rfl) ?_; clear hf a; intro a hf
 refine O.val hf rfl rfl rfl (RunV.move rfl) ?_; clear hf a; intro a hf
 obtain ⟨x3, hx3, hm⟩ := hm_b hm
 refine O.callR hf rfl rfl rfl (RunE.call (av := #[s1, .func (.func 83) #[] #[]]) C_ok_106 rfl rfl rfl) (m_slices_IndexFunc_uint32_uint32_ok F s1 x2 _ (hS.rdB (j := 0) rfl) x3 hx3) ?_
 clear hf a; rintro _ w hS1 a hf
 replace hf : Fr a _ _ ((7, Iv x3) :: _) := hf
 replace hS := (hS.call hS1).eqM (N := []) rfl
 clear hS1
 refine O.val (v := Bv (decide (x3 ≥ (0 : Int)))) hf rfl rfl rfl (RunV.geq rfl rfl) ?_; clear hf a; intro a hf
 refine O.val hf rfl rfl rfl (RunV.assign rfl) ?_; clear hf a; intro a hf
 refine O.nil ?_
 refine k_seq ?_
 replace hf : Fr a 9 [] [(4, Bv (decide (x3 ≥ (0 : Int))))] := hf.to ⟨rfl, trivial⟩
 refine W.ret ?_
 obtain rfl := Option.some.inj hm
 refine post1 hf rfl (ResOK.tmp rfl) ?_
 exact ⟨(), rfl, hS.noB⟩

def m_wide_right_j1 (F : Nat) (x7 : Bool) (x18 : List Int) (x19 : Int) : Option ((List Int) × Bool) :=
  some (x18, x7 || (decide (x19 > (0 : Int))))
def m_wide_right_b1 (F : Nat) (x3 : Int) (rec15 : (List Int) → Int → Option ((List Int) × Bool)) (x16 x17 : Int) (x18 : List Int) (x19 : Int) : Option ((List Int) × Bool) :=
  (some (bitor .u64 (IntKind.u64.wrap (x19 * 2 ^ 32)) (IntKind.u64.wrap x17))).bind fun x21 => if 0 ≤ (Int.tmod x3 32) then (idx x18 x16).bind fun x23 => if 0 ≤ (Int.tmod x3 32) then rec15 (x18.set (Int.toNat x16) (IntKind.u32.wrap (Int.fdiv x21 (2 ^ (min (Int.toNat (Int.tmod x3 32)) (IntKind.bits .u64)))))) (bitand .u64 x21 (IntKind.u64.wrap ((IntKind.u64.wrap (1 * 2 ^ (min (Int.toNat (Int.tmod x3 32)) (IntKind.bits .u64)))) - 1))) else none else none
def m_wide_right_l1 (F : Nat) (x3 : Int) (x7 : Bool) : List (Int × Int) → (List Int) → Int → Option ((List Int) × Bool)
  | [], x18, x19 => m_wide_right_j1 F x7 x18 x19
  | p :: t, x18, x19 => m_wide_right_b1 F x3 (m_wide_right_l1 F x3 x7 t) p.1 p.2 x18 x19
def m_wide_right (F : Nat)  (x2 : List Int) (x3 : Int) : Option ((List Int) × Bool) :=
  (some (if (x2.length : Int) < (IntKind.i64.wrap (Int.tdiv x3 32)) then (x2.length : Int) else (IntKind.i64.wrap (Int.tdiv x3 32)))).bind fun x5 => if sbd 0 x5 (x2.length : Int) then (m_slices_ContainsFunc_uint32_uint32 F (lsub x2 0 x5)).bind fun x7 => if 0 ≤ (IntKind.i64.wrap ((x2.length : Int) - x5)) ∧ (IntKind.i64.wrap ((x2.length : Int) - x5)) ≤ 4294967296 then if sbd x5 (x2.length : Int) (x2.length : Int) then (m_wide_down F (lsub x2 x5 (x2.length : Int))).bind fun x13 => m_wide_right_l1 F x3 x7 (downL (lsub x2 x5 (x2.length : Int))) (List.replicate (Int.toNat (IntKind.i64.wrap ((x2.length : Int) - x5))) (0 : Int)) 0 else none else none else none
set_option maxHeartbeats 1000000 in
set_option maxRecDepth 8000 in
theorem m_wide_right_ok (F : Nat)    (s1 : Value) (x2 : List Int) (x3 : Int) (w0 : World) (h_s1 : rdEOK (hp w0) 1 E98 s1 x2) (r : (List Int) × Bool) (hm : m_wide_right F x2 x3 = some r) :
    Ret Try.prog 57 #[s1, Iv x3] w0 (G := Value) (fun g1 => .tuple #[g1, Bv r.2]) (fun g1 w => St w0 w noX [] [slE 98 1 E98 g1 r.1]) := by
 unfold m_wide_right at hm
 refine ret_of_WM (lv := [s1, Iv x3]) Try.func57 rfl rfl rfl (fun a hf => ?_)
 replace hf : Fr a 57 [] [(0, s1), (1, Iv x3)] := hf
 have hS : St w0 w0 noX [rdE 1 E98 s1 x2] [] := St.borrow (lendAll_cons (lendRd h_s1) lendAll_nil)
 replace hS := hS.mk0
 refine W.seq ?_
 refine W.regionL (l := [0, 1, 2]) rfl ?_
 refine O.box (cs := #[Iv x3]) hf hS rfl rfl rfl rfl ?_
 clear hf hS a; intro b4 w a hb4 hS hf
 refine O.val hf rfl rfl rfl (RunV.assign rfl) ?_; clear hf a; intro a hf
 refine O.val hf rfl rfl rfl (RunV.assign rfl) ?_; clear hf a; intro a hf
 refine O.nil ?_
 refine k_seq ?_
 replace hf : Fr a 57 [] [(0, s1), (3, Pv b4 0), (4, .slice none 0 0), (5, Bv false)] := hf.to ⟨rfl, rfl, rfl, rfl, trivial⟩
 refine W.seq ?_
 refine W.regionL (l := [0, 1, 2, 3, 4, 5]) rfl ?_
 refine O.val hf rfl rfl rfl (RunV.load1 T_agg_3 rfl (hS.ptAt (i := 0) rfl) rfl) ?_; clear hf a; intro a hf
 refine O.val (v := Iv (IntKind.i64.wrap (Int.tdiv x3 32))) hf rfl rfl rfl (RunV.quo (q := 32) rfl rfl (by decide)) ?_; clear hf a; intro a hf
 refine O.val hf rfl rfl rfl (RunV.move rfl) ?_; clear hf a; intro a hf
 refine O.val (v := Iv (x2.length : Int)) hf rfl rfl rfl (RunV.lenE (e := 98) (by simpa using T_elem_37) rfl (hS.rdB (j := 0) rfl)) ?_; clear hf a; intro a hf
 refine O.val (v := Iv (if (x2.length : Int) < (IntKind.i64.wrap (Int.tdiv x3 32)) then (x2.length : Int) else (IntKind.i64.wrap (Int.tdiv x3 32)))) hf rfl rfl rfl (RunV.min rfl rfl) ?_; clear hf a; intro a hf
 refine O.val hf rfl rfl rfl (RunV.assign rfl) ?_; clear hf a; intro a hf
 refine O.nil ?_
 refine k_seq ?_
 replace hf : Fr a 57 [] [(0, s1), (3, Pv b4 0), (4, .slice none 0 0), (5, Bv false), (6, Iv (if (x2.length : Int) < (IntKind.i64.wrap (Int.tdiv x3 32)) then (x2.length : Int) else (IntKind.i64.wrap (Int.tdiv x3 32))))] := hf.to ⟨rfl, rfl, rfl, rfl, rfl, trivial⟩
 obtain ⟨x5, hx5, hm⟩ := hm_b hm
 rw [Option.some.inj hx5] at hf
 refine W.seq ?_
 refine W.regionL (l := [0, 1, 2, 3, 4]) rfl ?_
 refine O.val hf rfl rfl rfl (RunV.move rfl) ?_; clear hf a; intro a hf
 refine O.val hf rfl rfl rfl (RunV.move rfl) ?_; clear hf a; intro a hf
 obtain ⟨hg6, hm⟩ := hm_g hm
 refine O.val (v := vsub 1 s1 0 x5) hf rfl rfl rfl (RunV.sliceH T_elem_37 T_size_98 rfl rfl (hS.rdB (j := 0) rfl) hg6) ?_; clear hf a; intro a hf
 obtain ⟨x7, hx7, hm⟩ := hm_b hm
 refine O.callR hf rfl rfl rfl (RunE.call (av := #[vsub 1 s1 0 x5, .func (.func 83) #[] #[]]) C_ok_82 rfl rfl rfl) (m_slices_ContainsFunc_uint32_uint32_ok F (vsub 1 s1 0 x5) (lsub x2 0 x5) _ (rdEOK.sub (hS.rdB (j := 0) rfl) E98_len hg6) x7 hx7) ?_
 clear hf a; rintro _ w hS1 a hf
 replace hf : Fr a _ _ ((20, Bv x7) :: _) := hf
 replace hS := (hS.call hS1).eqM (N := [pt b4 (Cs #[Iv x3] 3), mkA []]) rfl
 clear hS1
 refine O.val hf rfl rfl rfl (RunV.assign rfl) ?_; clear hf a; intro a hf
 refine O.nil ?_
 refine k_seq ?_
 replace hf : Fr a 57 [] [(0, s1), (3, Pv b4 0), (4, .slice none 0 0), (5, Bv false), (6, Iv x5), (7, Bv x7)] := hf.to ⟨rfl, rfl, rfl, rfl, rfl, rfl, trivial⟩
 refine W.seq ?_
 refine W.regionL (l := [0, 1, 2, 3, 4, 5, 6]) rfl ?_
 refine O.val hf rfl rfl rfl (RunV.move rfl) ?_; clear hf a; intro a hf
 refine O.val (v := Iv (x2.length : Int)) hf rfl rfl rfl (RunV.lenE (e := 98) (by simpa using T_elem_37) rfl (hS.rdB (j := 0) rfl)) ?_; clear hf a; intro a hf
 refine O.val hf rfl rfl rfl (RunV.move rfl) ?_; clear hf a; intro a hf
 refine O.val (v := Iv (IntKind.i64.wrap ((x2.length : Int) - x5))) hf rfl rfl rfl (RunV.sub rfl rfl) ?_; clear hf a; intro a hf
 obtain ⟨hg8, hm⟩ := hm_g hm
 refine O.makeE (enc := E98) (x0 := (0 : Int)) hf hS rfl rfl T_elem_37 T_size_98 T_bytes_98 T_zero_98 rfl rfl rfl hg8 rfl E98_len rfl ?_
 clear hf hS a; intro s9 w a hS hf
 refine O.alloc (cs := #[.slice none 0 0]) hf hS rfl rfl T_zero_37 rfl ?_
 clear hf hS a; intro b10 w a hb10 hS hf
 refine O.store (m := 1) (j := 0) (cs' := #[s9]) (M' := [pt b10 (Cs #[s9] 37), slE 98 1 E98 s9 (List.replicate (Int.toNat (IntKind.i64.wrap ((x2.length : Int) - x5))) (0 : Int)), pt b4 (Cs #[Iv x3] 3), mkA []]) hf hS rfl rfl rfl T_size_37 (by rw [rdEOK_cells (hS.rdS (j := 1) rfl)]; rfl) (by rw [rdEOK_cells (hS.rdS (j := 1) rfl)]; exact rdEOK_one (hS.rdS (j := 1) rfl)) rfl (Nat.le_of_ble_eq_true rfl) (by rw [rdEOK_cells (hS.rdS (j := 1) rfl)]; rfl) rfl ?_
 clear hS; intro w hS
 refine O.nil ?_
 refine k_seq ?_
 replace hf : Fr a 57 [] [(0, s1), (3, Pv b4 0), (4, .slice none 0 0), (5, Bv false), (6, Iv x5), (7, Bv x7), (8, Pv b10 0)] := hf.to ⟨rfl, rfl, rfl, rfl, rfl, rfl, rfl, trivial⟩
 refine W.seq ?_
 refine W.regionL (l := [0]) rfl ?_
 refine O.alloc (cs := #[Uv 0]) hf hS rfl rfl T_zero_108 rfl ?_
 clear hf hS a; intro b11 w a hb11 hS hf
 refine O.nil ?_
 refine k_seq ?_
 refine W.seq ?_
 refine W.seq ?_
 refine W.regionL (l := [0, 1, 2, 3]) rfl ?_
 refine O.val hf rfl rfl rfl (RunV.move rfl) ?_; clear hf a; intro a hf
 refine O.val hf rfl rfl rfl (RunV.move rfl) ?_; clear hf a; intro a hf
 obtain ⟨hg12, hm⟩ := hm_g hm
 refine O.val (v := vsub 1 s1 x5 (x2.length : Int)) hf rfl rfl rfl (RunV.sliceL T_elem_37 T_size_98 rfl rfl (hS.rdB (j := 0) rfl) hg12) ?_; clear hf a; intro a hf
 obtain ⟨x13, hx13, hm⟩ := hm_b hm
 refine O.callR hf rfl rfl rfl (RunE.call (av := #[vsub 1 s1 x5 (x2.length : Int)]) C_ok_84 rfl rfl rfl) (m_wide_down_ok F (vsub 1 s1 x5 (x2.length : Int)) (lsub x2 x5 (x2.length : Int)) _ (rdEOK.sub (hS.rdB (j := 0) rfl) E98_len hg12) x13 hx13) ?_
 clear hf a; rintro b14 w hS1 a hf
 replace hf : Fr a _ _ ((29, .func (.func 107) #[] #[Pv b14 0]) :: _) := hf
 replace hS := (hS.call hS1).eqM (N := [pt b14 (Cs #[vsub 1 s1 x5 (x2.length : Int)] 37), pt b11 (Cs #[Uv 0] 108), pt b10 (Cs #[s9] 37), slE 98 1 E98 s9 (List.replicate (Int.toNat (IntKind.i64.wrap ((x2.length : Int) - x5))) (0 : Int)), pt b4 (Cs #[Iv x3] 3), mkA []]) rfl
 clear hS1
 refine O.nil ?_
 refine k_seq ?_
 replace hf : Fr a 57 [] [(3, Pv b4 0), (4, .slice none 0 0), (5, Bv false), (7, Bv x7), (8, Pv b10 0), (9, Pv b11 0), (29, .func (.func 107) #[] #[Pv b14 0])] := hf.to ⟨rfl, rfl, rfl, rfl, rfl, rfl, rfl, trivial⟩
 refine W.block ?_
 replace hf : Fr a 57 [] [(3, Pv b4 0), (4, .slice none 0 0), (5, Bv false), (7, Bv x7), (8, Pv b10 0), (9, Pv b11 0), (29, .func (.func 107) #[] #[Pv b14 0])] := hf.to ⟨rfl, rfl, rfl, rfl, rfl, rfl, rfl, trivial⟩
 replace hS := hS.front (i := 1) (M' := [pt b11 (Cs #[Uv 0] 108), pt b14 (Cs #[vsub 1 s1 x5 (x2.length : Int)] 37), pt b10 (Cs #[s9] 37), slE 98 1 E98 s9 (List.replicate (Int.toNat (IntKind.i64.wrap ((x2.length : Int) - x5))) (0 : Int)), pt b4 (Cs #[Iv x3] 3), mkA []]) rfl rfl
 replace hS := hS.front (i := 2) (M' := [pt b10 (Cs #[s9] 37), pt b11 (Cs #[Uv 0] 108), pt b14 (Cs #[vsub 1 s1 x5 (x2.length : Int)] 37), slE 98 1 E98 s9 (List.replicate (Int.toNat (IntKind.i64.wrap ((x2.length : Int) - x5))) (0 : Int)), pt b4 (Cs #[Iv x3] 3), mkA []]) rfl rfl
 replace hS := hS.front (i := 3) (M' := [slE 98 1 E98 s9 (List.replicate (Int.toNat (IntKind.i64.wrap ((x2.length : Int) - x5))) (0 : Int)), pt b10 (Cs #[s9] 37), pt b11 (Cs #[Uv 0] 108), pt b14 (Cs #[vsub 1 s1 x5 (x2.length : Int)] 37), pt b4 (Cs #[Iv x3] 3), mkA []]) rfl rfl
 replace hS := hS.front (i := 4) (M' := [pt b4 (Cs #[Iv x3] 3), slE 98 1 E98 s9 (List.replicate (Int.toNat (IntKind.i64.wrap ((x2.length : Int) - x5))) (0 : Int)), pt b10 (Cs #[s9] 37), pt b11 (Cs #[Uv 0] 108), pt b14 (Cs #[vsub 1 s1 x5 (x2.length : Int)] 37), mkA []]) rfl rfl
 replace hS := hS.front (i := 5) (M' := [mkA [], pt b4 (Cs #[Iv x3] 3), slE 98 1 E98 s9 (List.replicate (Int.toNat (IntKind.i64.wrap ((x2.length : Int) - x5))) (0 : Int)), pt b10 (Cs #[s9] 37), pt b11 (Cs #[Uv 0] 108), pt b14 (Cs #[vsub 1 s1 x5 (x2.length : Int)] 37)]) rfl rfl
 refine W.rangeFn2 (G := (List Int) × Int) (G2 := Unit) (gf := 107) (lb := #[Pv b14 0]) (xs := (downL (lsub x2 x5 (x2.length : Int))).map (fun p : Int × Int => (Iv p.1, Value.int .u32 p.2))) (fun x y => [(3, Pv b4 0), (4, .slice none 0 0), (5, Bv false), (7, Bv x7), (8, Pv b10 0), (9, Pv b11 0), (10, x), (11, y), (29, .func (.func 107) #[] #[Pv b14 0]), (30, x), (31, y)]) (fun g => match g with | (x18, x19) => [mkA [], pt b4 (Cs #[Iv x3] 3), slE 98 1 E98 s9 x18, pt b10 (Cs #[s9] 37), pt b11 (Cs #[Uv x19] 108), pt b14 (Cs #[vsub 1 s1 x5 (x2.length : Int)] 37)]) (fun k g => match g with | (x18, x19) => m_wide_right_l1 F x3 x7 ((downL (lsub x2 x5 (x2.length : Int))).drop k) x18 x19 = some r) (List.replicate (Int.toNat (IntKind.i64.wrap ((x2.length : Int) - x5))) (0 : Int), 0) (RdAt 37 1 E98 b14 (vsub 1 s1 x5 (x2.length : Int)) (lsub x2 x5 (x2.length : Int))) (fun g => match g with | _ => []) (fun g => match g with | _ => False) hf rfl rfl rfl C_ok_107 hS hm (iter_107 _ _ _) ?_ ?_ ?_ ?_ ?_
 ·rintro ⟨x18, x19⟩ w hS
  replace hS : St w0 w noX [rdE 1 E98 s1 x2] [mkA [], pt b4 (Cs #[Iv x3] 3), slE 98 1 E98 s9 x18, pt b10 (Cs #[s9] 37), pt b11 (Cs #[Uv x19] 108), pt b14 (Cs #[vsub 1 s1 x5 (x2.length : Int)] 37)] := hS
  exact ⟨hS.ptAt (i := 5) rfl, (rdEOK.sub (hS.rdB (j := 0) rfl) E98_len hg12)⟩
 ·clear hf hS hm a; clear w
  intro l x y w a hf
  replace hf : Fr a 57 [] [(3, Pv b4 0), (4, .slice none 0 0), (5, Bv false), (7, Bv x7), (8, Pv b10 0), (9, Pv b11 0), (29, .func (.func 107) #[] #[Pv b14 0]), (30, x), (31, y)] := hf.to ⟨rfl, rfl, rfl, rfl, rfl, rfl, rfl, rfl, rfl, trivial⟩
  refine W.seq ?_
  refine W.regionL (l := [0]) rfl ?_
  refine O.val hf rfl rfl rfl (RunV.assign rfl) ?_; clear hf a; intro a hf
  refine O.nil ?_
  refine k_seq ?_
  refine W.regionL (l := [0]) rfl ?_
  refine O.val hf rfl rfl rfl (RunV.assign rfl) ?_; clear hf a; intro a hf
  refine O.nil ?_
  exact ⟨rfl, hf.to ⟨rfl, rfl, rfl, rfl, rfl, rfl, rfl, rfl, rfl, rfl, rfl, trivial⟩, rfl⟩
 ·clear hf hS hm a; clear w
  rintro dl15 do15 dD15 k15 x y ⟨x18, x19⟩ w hx hm hS a hf
  obtain ⟨⟨x16, x17⟩, hp, hxy⟩ := down_x hx; obtain ⟨rfl, rfl⟩ := Prod.mk.inj hxy
  replace hf : Fr a 57 [] [(3, Pv b4 0), (4, .slice none 0 0), (5, Bv false), (7, Bv x7), (8, Pv b10 0), (9, Pv b11 0), (10, Iv x16), (11, .int .u32 x17), (29, .func (.func 107) #[] #[Pv b14 0]), (30, Iv x16), (31, .int .u32 x17)] := hf
  replace hS : St w0 w noX [rdE 1 E98 s1 x2] [pt dl15 do15, pt dD15 (.deferred (some [])), mkA [], pt b4 (Cs #[Iv x3] 3), slE 98 1 E98 s9 x18, pt b10 (Cs #[s9] 37), pt b11 (Cs #[Uv x19] 108), pt b14 (Cs #[vsub 1 s1 x5 (x2.length : Int)] 37)] := hS
  replace hm : m_wide_right_l1 F x3 x7 ((downL (lsub x2 x5 (x2.length : Int))).drop k15) x18 x19 = some r := hm
  rw [drop_cons hp] at hm
  replace hm : m_wide_right_b1 F x3 (m_wide_right_l1 F x3 x7 ((downL (lsub x2 x5 (x2.length : Int))).drop (k15 + 1))) x16 x17 x18 x19 = some r := hm
  obtain ⟨rec15, hrec15⟩ : ∃ f, f = m_wide_right_l1 F x3 x7 ((downL (lsub x2 x5 (x2.length : Int))).drop (k15 + 1)) := ⟨_, rfl⟩
  rw [← hrec15] at hm; unfold m_wide_right_b1 at hm
  refine W.block ?_
  refine W.seq ?_
  refine W.regionL (l := [0, 1, 2, 3, 4, 5]) rfl ?_
  refine O.val hf rfl rfl rfl (RunV.load1 T_agg_108 rfl (hS.ptAt (i := 6) rfl) rfl) ?_; clear hf a; intro a hf
  refine O.val (v := Uv (IntKind.u64.wrap (x19 * 2 ^ 32))) hf rfl rfl rfl (RunV.shl (q := 32) rfl rfl (by decide)) ?_; clear hf a; intro a hf
  refine O.val hf rfl rfl rfl (RunV.move rfl) ?_; clear hf a; intro a hf
  refine O.val (v := Uv (IntKind.u64.wrap x17)) hf rfl rfl rfl (RunV.conv T_und_98 T_int_108 rfl) ?_; clear hf a; intro a hf
  refine O.val (v := Uv (bitor .u64 (IntKind.u64.wrap (x19 * 2 ^ 32)) (IntKind.u64.wrap x17))) hf rfl rfl rfl (RunV.bitor rfl rfl) ?_; clear hf a; intro a hf
  refine O.store (j := 6) (cs' := #[Uv (bitor .u64 (IntKind.u64.wrap (x19 * 2 ^ 32)) (IntKind.u64.wrap x17))]) (M' := [pt dl15 do15, pt dD15 (.deferred (some [])), mkA [], pt b4 (Cs #[Iv x3] 3), slE 98 1 E98 s9 x18, pt b10 (Cs #[s9] 37), pt b11 (Cs #[Uv (bitor .u64 (IntKind.u64.wrap (x19 * 2 ^ 32)) (IntKind.u64.wrap x17))] 108), pt b14 (Cs #[vsub 1 s1 x5 (x2.length : Int)] 37)]) hf hS rfl rfl rfl T_size_108 rfl rfl rfl (Nat.le_of_ble_eq_true rfl) rfl rfl ?_
  clear hS; intro w hS
  refine O.nil ?_
  refine k_seq ?_
  replace hf : Fr a 57 [] [(3, Pv b4 0), (4, .slice none 0 0), (5, Bv false), (8, Pv b10 0), (9, Pv b11 0), (10, Iv x16)] := hf.to ⟨rfl, rfl, rfl, rfl, rfl, rfl, trivial⟩
  obtain ⟨x21, hx21, hm⟩ := hm_b hm
  rw [Option.some.inj hx21] at hS
  refine W.seq ?_
  have hf1 : Fr a 57 [] [] := hf.to trivial
  replace hf : Fr a 57 [] [(3, Pv b4 0), (4, .slice none 0 0), (5, Bv false), (8, Pv b10 0), (9, Pv b11 0), (10, Iv x16)] := hf.to ⟨rfl, rfl, rfl, rfl, rfl, rfl, trivial⟩
  obtain ⟨hg22, hm⟩ := hm_g hm
  obtain ⟨x23, hx23, hm⟩ := hm_b hm
  refine W.drawC (γ := Unit) (L0 := [(3, Pv b4 0), (4, .slice none 0 0), (5, Bv false), (8, Pv b10 0), (9, Pv b11 0), (10, Iv x16)]) (L1 := []) () [8] [] [0, 1, 2, 3, 4, 5, 6, 7] (fun i => match i with | 4 => [3] | 5 => [2, 4] | 6 => [5] | 7 => [0, 1, 2, 3, 4, 5, 6] | 8 => [0, 1, 2, 3, 4, 5, 6, 7] | _ => []) (fun _ => []) (fun i => match i with | 0 => [8] | 1 => [8] | 2 => [8] | 3 => [8] | 4 => [8] | 5 => [8] | 6 => [8] | 7 => [8] | _ => []) (fun _ => []) (fun _ => []) (fun _ => []) (fun _ => 0) (fun i => match i with | 8 => 1 | _ => 0) (fun (g : Unit) j => match j with | 0 => s9 | 1 => Iv x16 | 2 => Uv x21 | 3 => Iv x3 | 4 => Iv (Int.tmod x3 32) | 5 => Uv (Int.fdiv x21 (2 ^ (min (Int.toNat (Int.tmod x3 32)) (IntKind.bits .u64)))) | 6 => .int .u32 (IntKind.u32.wrap (Int.fdiv x21 (2 ^ (min (Int.toNat (Int.tmod x3 32)) (IntKind.bits .u64))))) | 7 => ix s9 (Int.toNat x16 * 1) | _ => undef) (fun k s (g : Unit) w => match k with | 0 => St w0 w noX [rdE 1 E98 s1 x2] [pt dl15 do15, pt dD15 (.deferred (some [])), mkA [], pt b4 (Cs #[Iv x3] 3), slE 98 1 E98 s9 x18, pt b10 (Cs #[s9] 37), pt b11 (Cs #[Uv x21] 108), pt b14 (Cs #[vsub 1 s1 x5 (x2.length : Int)] 37)] | _ => St w0 w noX [rdE 1 E98 s1 x2] [pt dl15 do15, pt dD15 (.deferred (some [])), mkA [], pt b4 (Cs #[Iv x3] 3), slE 98 1 E98 s9 (x18.set (Int.toNat x16) (IntKind.u32.wrap (Int.fdiv x21 (2 ^ (min (Int.toNat (Int.tmod x3 32)) (IntKind.bits .u64)))))), pt b10 (Cs #[s9] 37), pt b11 (Cs #[Uv x21] 108), pt b14 (Cs #[vsub 1 s1 x5 (x2.length : Int)] 37)]) P_mixed (by kernel_rfl) (by kernel_rfl) (by kernel_rfl) hf hf1 hS.drew ?_ ?_ ?_ ?_
  ·clear hf hf1 hS
   refine ⟨?_, fun k s g w _ _ _ hD a hf => Q.val (v := Iv x16) rfl rfl rfl hD hf (RunV.move rfl), ?_, ?_, fun k s g w _ _ _ hD a hf => Q.val (v := Iv (Int.tmod x3 32)) rfl rfl rfl hD hf (RunV.rem (q := 32) rfl rfl (by decide)), fun k s g w _ _ _ hD a hf => Q.val (v := Uv (Int.fdiv x21 (2 ^ (min (Int.toNat (Int.tmod x3 32)) (IntKind.bits .u64))))) rfl rfl rfl hD hf (RunV.shr rfl rfl hg22), fun k s g w _ _ _ hD a hf => Q.val (v := .int .u32 (IntKind.u32.wrap (Int.fdiv x21 (2 ^ (min (Int.toNat (Int.tmod x3 32)) (IntKind.bits .u64)))))) rfl rfl rfl hD hf (RunV.conv T_und_108 T_int_98 rfl), ?_, trivial⟩
   ·intro k s g w h1_ h2_ hsp hD a hf
    rcases k with _ | k
    ·have hS : St w0 w noX [rdE 1 E98 s1 x2] [pt dl15 do15, pt dD15 (.deferred (some [])), mkA [], pt b4 (Cs #[Iv x3] 3), slE 98 1 E98 s9 x18, pt b10 (Cs #[s9] 37), pt b11 (Cs #[Uv x21] 108), pt b14 (Cs #[vsub 1 s1 x5 (x2.length : Int)] 37)] := hD; clear hD
     replace hf : Fr a 57 [] [(3, Pv b4 0), (4, .slice none 0 0), (5, Bv false), (8, Pv b10 0), (9, Pv b11 0), (10, Iv x16)] := hf
     exact Q.val (v := s9) rfl rfl rfl hS hf (RunV.load1 T_agg_37 rfl (hS.ptAt (i := 5) rfl) rfl)
    ·exact absurd h2_ (by simp)
   ·intro k s g w h1_ h2_ hsp hD a hf
    rcases k with _ | k
    ·have hS : St w0 w noX [rdE 1 E98 s1 x2] [pt dl15 do15, pt dD15 (.deferred (some [])), mkA [], pt b4 (Cs #[Iv x3] 3), slE 98 1 E98 s9 x18, pt b10 (Cs #[s9] 37), pt b11 (Cs #[Uv x21] 108), pt b14 (Cs #[vsub 1 s1 x5 (x2.length : Int)] 37)] := hD; clear hD
     replace hf : Fr a 57 [] [(3, Pv b4 0), (4, .slice none 0 0), (5, Bv false), (8, Pv b10 0), (9, Pv b11 0), (10, Iv x16)] := hf
     exact Q.val (v := Uv x21) rfl rfl rfl hS hf (RunV.load1 T_agg_108 rfl (hS.ptAt (i := 6) rfl) rfl)
    ·exact absurd h2_ (by simp)
   ·intro k s g w h1_ h2_ hsp hD a hf
    rcases k with _ | k
    ·have hS : St w0 w noX [rdE 1 E98 s1 x2] [pt dl15 do15, pt dD15 (.deferred (some [])), mkA [], pt b4 (Cs #[Iv x3] 3), slE 98 1 E98 s9 x18, pt b10 (Cs #[s9] 37), pt b11 (Cs #[Uv x21] 108), pt b14 (Cs #[vsub 1 s1 x5 (x2.length : Int)] 37)] := hD; clear hD
     replace hf : Fr a 57 [] [(3, Pv b4 0), (4, .slice none 0 0), (5, Bv false), (8, Pv b10 0), (9, Pv b11 0), (10, Iv x16)] := hf
     exact Q.val (v := Iv x3) rfl rfl rfl hS hf (RunV.load1 T_agg_3 rfl (hS.ptAt (i := 3) rfl) rfl)
    ·exact absurd h2_ (by simp)
   ·intro k s g w h1_ h2_ hsp hD a hf
    rcases k with _ | k
    ·have hS : St w0 w noX [rdE 1 E98 s1 x2] [pt dl15 do15, pt dD15 (.deferred (some [])), mkA [], pt b4 (Cs #[Iv x3] 3), slE 98 1 E98 s9 x18, pt b10 (Cs #[s9] 37), pt b11 (Cs #[Uv x21] 108), pt b14 (Cs #[vsub 1 s1 x5 (x2.length : Int)] 37)] := hD; clear hD
     replace hf : Fr a 57 [] [(37, s9), (38, Iv x16), (39, Uv x21), (40, Iv x3), (41, Iv (Int.tmod x3 32)), (42, Uv (Int.fdiv x21 (2 ^ (min (Int.toNat (Int.tmod x3 32)) (IntKind.bits .u64))))), (43, .int .u32 (IntKind.u32.wrap (Int.fdiv x21 (2 ^ (min (Int.toNat (Int.tmod x3 32)) (IntKind.bits .u64)))))), (3, Pv b4 0), (4, .slice none 0 0), (5, Bv false), (8, Pv b10 0), (9, Pv b11 0), (10, Iv x16)] := hf
     exact Q.val (v := ix s9 (Int.toNat x16 * 1)) rfl rfl rfl hS hf (RunV.ixE T_elem_37 T_size_98 rfl rfl (hS.rdS (j := 4) rfl) hx23)
    ·exact absurd h2_ (by simp)
  ·clear hf hf1 hS
   refine ⟨?_, trivial⟩
   ·intro s g w hsp hD a hf
    have hS : St w0 w noX [rdE 1 E98 s1 x2] [pt dl15 do15, pt dD15 (.deferred (some [])), mkA [], pt b4 (Cs #[Iv x3] 3), slE 98 1 E98 s9 x18, pt b10 (Cs #[s9] 37), pt b11 (Cs #[Uv x21] 108), pt b14 (Cs #[vsub 1 s1 x5 (x2.length : Int)] 37)] := hD; clear hD
    replace hf : Fr a 57 [] [(37, s9), (38, Iv x16), (39, Uv x21), (40, Iv x3), (41, Iv (Int.tmod x3 32)), (42, Uv (Int.fdiv x21 (2 ^ (min (Int.toNat (Int.tmod x3 32)) (IntKind.bits .u64))))), (43, .int .u32 (IntKind.u32.wrap (Int.fdiv x21 (2 ^ (min (Int.toNat (Int.tmod x3 32)) (IntKind.bits .u64)))))), (44, ix s9 (Int.toNat x16 * 1)), (3, Pv b4 0), (4, .slice none 0 0), (5, Bv false), (8, Pv b10 0), (9, Pv b11 0), (10, Iv x16)] := hf
    refine O.storeE (j := 4) (o := 0) (y0 := (IntKind.u32.wrap (Int.fdiv x21 (2 ^ (min (Int.toNat (Int.tmod x3 32)) (IntKind.bits .u64)))))) (l' := x18.set (Int.toNat x16) (IntKind.u32.wrap (Int.fdiv x21 (2 ^ (min (Int.toNat (Int.tmod x3 32)) (IntKind.bits .u64)))))) (M' := [pt dl15 do15, pt dD15 (.deferred (some [])), mkA [], pt b4 (Cs #[Iv x3] 3), slE 98 1 E98 s9 (x18.set (Int.toNat x16) (IntKind.u32.wrap (Int.fdiv x21 (2 ^ (min (Int.toNat (Int.tmod x3 32)) (IntKind.bits .u64)))))), pt b10 (Cs #[s9] 37), pt b11 (Cs #[Uv x21] 108), pt b14 (Cs #[vsub 1 s1 x5 (x2.length : Int)] 37)]) hf hS rfl rfl rfl T_size_98 rfl rfl rfl E98_len hx23 rfl rfl rfl rfl ?_
    clear hS; intro w hS
    exact O.nil ⟨rfl, (), hf.to trivial, (fun d hd => by cases (show none = some d from hd)), (fun _ _ _ => rfl), hS⟩
  ·clear hf hf1 hS
   exact trivial
  clear hf hf1 hS; intro s g a w hs hf hD
  have hS : St w0 w noX [rdE 1 E98 s1 x2] [pt dl15 do15, pt dD15 (.deferred (some [])), mkA [], pt b4 (Cs #[Iv x3] 3), slE 98 1 E98 s9 (x18.set (Int.toNat x16) (IntKind.u32.wrap (Int.fdiv x21 (2 ^ (min (Int.toNat (Int.tmod x3 32)) (IntKind.bits .u64)))))), pt b10 (Cs #[s9] 37), pt b11 (Cs #[Uv x21] 108), pt b14 (Cs #[vsub 1 s1 x5 (x2.length : Int)] 37)] := hD; clear hD
  replace hf : Fr a 57 [] [(37, s9), (38, Iv x16), (39, Uv x21), (40, Iv x3), (41, Iv (Int.tmod x3 32)), (42, Uv (Int.fdiv x21 (2 ^ (min (Int.toNat (Int.tmod x3 32)) (IntKind.bits .u64))))), (43, .int .u32 (IntKind.u32.wrap (Int.fdiv x21 (2 ^ (min (Int.toNat (Int.tmod x3 32)) (IntKind.bits .u64)))))), (44, ix s9 (Int.toNat x16 * 1)), (3, Pv b4 0), (4, .slice none 0 0), (5, Bv false), (8, Pv b10 0), (9, Pv b11 0), (10, Iv x16)] := hf
  refine k_seq ?_
  replace hf : Fr a 57 [] [(3, Pv b4 0), (4, .slice none 0 0), (5, Bv false), (9, Pv b11 0)] := hf.to ⟨rfl, rfl, rfl, rfl, trivial⟩
  have hf1 : Fr a 57 [] [] := hf.to trivial
  replace hf : Fr a 57 [] [(3, Pv b4 0), (4, .slice none 0 0), (5, Bv false), (9, Pv b11 0)] := hf.to ⟨rfl, rfl, rfl, rfl, trivial⟩
  obtain ⟨hg24, hm⟩ := hm_g hm
  refine W.drawC (γ := Unit) (L0 := [(3, Pv b4 0), (4, .slice none 0 0), (5, Bv false), (9, Pv b11 0)]) (L1 := []) () [6] [] [0, 1, 2, 3, 4, 5] (fun i => match i with | 2 => [1] | 3 => [2] | 4 => [3] | 5 => [0, 4] | 6 => [0, 1, 2, 3, 4, 5] | _ => []) (fun _ => []) (fun i => match i with | 0 => [6] | 1 => [6] | 2 => [6] | 3 => [6] | 4 => [6] | 5 => [6] | _ => []) (fun _ => []) (fun _ => []) (fun _ => []) (fun _ => 0) (fun i => match i with | 6 => 1 | _ => 0) (fun (g : Unit) j => match j with | 0 => Uv x21 | 1 => Iv x3 | 2 => Iv (Int.tmod x3 32) | 3 => Uv (IntKind.u64.wrap (1 * 2 ^ (min (Int.toNat (Int.tmod x3 32)) (IntKind.bits .u64)))) | 4 => Uv (IntKind.u64.wrap ((IntKind.u64.wrap (1 * 2 ^ (min (Int.toNat (Int.tmod x3 32)) (IntKind.bits .u64)))) - 1)) | 5 => Uv (bitand .u64 x21 (IntKind.u64.wrap ((IntKind.u64.wrap (1 * 2 ^ (min (Int.toNat (Int.tmod x3 32)) (IntKind.bits .u64)))) - 1))) | _ => undef) (fun k s (g : Unit) w => match k with | 0 => St w0 w noX [rdE 1 E98 s1 x2] [pt dl15 do15, pt dD15 (.deferred (some [])), mkA [], pt b4 (Cs #[Iv x3] 3), slE 98 1 E98 s9 (x18.set (Int.toNat x16) (IntKind.u32.wrap (Int.fdiv x21 (2 ^ (min (Int.toNat (Int.tmod x3 32)) (IntKind.bits .u64)))))), pt b10 (Cs #[s9] 37), pt b11 (Cs #[Uv x21] 108), pt b14 (Cs #[vsub 1 s1 x5 (x2.length : Int)] 37)] | _ => St w0 w noX [rdE 1 E98 s1 x2] [pt dl15 do15, pt dD15 (.deferred (some [])), mkA [], pt b4 (Cs #[Iv x3] 3), slE 98 1 E98 s9 (x18.set (Int.toNat x16) (IntKind.u32.wrap (Int.fdiv x21 (2 ^ (min (Int.toNat (Int.tmod x3 32)) (IntKind.bits .u64)))))), pt b10 (Cs #[s9] 37), pt b11 (Cs #[Uv (bitand .u64 x21 (IntKind.u64.wrap ((IntKind.u64.wrap (1 * 2 ^ (min (Int.toNat (Int.tmod x3 32)) (IntKind.bits .u64)))) - 1)))] 108), pt b14 (Cs #[vsub 1 s1 x5 (x2.length : Int)] 37)]) P_mixed (by kernel_rfl) (by kernel_rfl) (by kernel_rfl) hf hf1 hS.drew ?_ ?_ ?_ ?_
  ·clear hf hf1 hS
   refine ⟨?_, ?_, fun k s g w _ _ _ hD a hf => Q.val (v := Iv (Int.tmod x3 32)) rfl rfl rfl hD hf (RunV.rem (q := 32) rfl rfl (by decide)), fun k s g w _ _ _ hD a hf => Q.val (v := Uv (IntKind.u64.wrap (1 * 2 ^ (min (Int.toNat (Int.tmod x3 32)) (IntKind.bits .u64))))) rfl rfl rfl hD hf (RunV.shl rfl rfl hg24), fun k s g w _ _ _ hD a hf => Q.val (v := Uv (IntKind.u64.wrap ((IntKind.u64.wrap (1 * 2 ^ (min (Int.toNat (Int.tmod x3 32)) (IntKind.bits .u64)))) - 1))) rfl rfl rfl hD hf (RunV.sub rfl rfl), fun k s g w _ _ _ hD a hf => Q.val (v := Uv (bitand .u64 x21 (IntKind.u64.wrap ((IntKind.u64.wrap (1 * 2 ^ (min (Int.toNat (Int.tmod x3 32)) (IntKind.bits .u64)))) - 1)))) rfl rfl rfl hD hf (RunV.bitand rfl rfl), trivial⟩
   ·intro k s g w h1_ h2_ hsp hD a hf
    rcases k with _ | k
    ·have hS : St w0 w noX [rdE 1 E98 s1 x2] [pt dl15 do15, pt dD15 (.deferred (some [])), mkA [], pt b4 (Cs #[Iv x3] 3), slE 98 1 E98 s9 (x18.set (Int.toNat x16) (IntKind.u32.wrap (Int.fdiv x21 (2 ^ (min (Int.toNat (Int.tmod x3 32)) (IntKind.bits .u64)))))), pt b10 (Cs #[s9] 37), pt b11 (Cs #[Uv x21] 108), pt b14 (Cs #[vsub 1 s1 x5 (x2.length : Int)] 37)] := hD; clear hD
     replace hf : Fr a 57 [] [(3, Pv b4 0), (4, .slice none 0 0), (5, Bv false), (9, Pv b11 0)] := hf
     exact Q.val (v := Uv x21) rfl rfl rfl hS hf (RunV.load1 T_agg_108 rfl (hS.ptAt (i := 6) rfl) rfl)
    ·exact absurd h2_ (by simp)
   ·intro k s g w h1_ h2_ hsp hD a hf
    rcases k with _ | k
    ·have hS : St w0 w noX [rdE 1 E98 s1 x2] [pt dl15 do15, pt dD15 (.deferred (some [])), mkA [], pt b4 (Cs #[Iv x3] 3), slE 98 1 E98 s9 (x18.set (Int.toNat x16) (IntKind.u32.wrap (Int.fdiv x21 (2 ^ (min (Int.toNat (Int.tmod x3 32)) (IntKind.bits .u64)))))), pt b10 (Cs #[s9] 37), pt b11 (Cs #[Uv x21] 108), pt b14 (Cs #[vsub 1 s1 x5 (x2.length : Int)] 37)] := hD; clear hD
     replace hf : Fr a 57 [] [(3, Pv b4 0), (4, .slice none 0 0), (5, Bv false), (9, Pv b11 0)] := hf
     exact Q.val (v := Iv x3) rfl rfl rfl hS hf (RunV.load1 T_agg_3 rfl (hS.ptAt (i := 3) rfl) rfl)
    ·exact absurd h2_ (by simp)
  ·clear hf hf1 hS
   refine ⟨?_, trivial⟩
   ·intro s g w hsp hD a hf
    have hS : St w0 w noX [rdE 1 E98 s1 x2] [pt dl15 do15, pt dD15 (.deferred (some [])), mkA [], pt b4 (Cs #[Iv x3] 3), slE 98 1 E98 s9 (x18.set (Int.toNat x16) (IntKind.u32.wrap (Int.fdiv x21 (2 ^ (min (Int.toNat (Int.tmod x3 32)) (IntKind.bits .u64)))))), pt b10 (Cs #[s9] 37), pt b11 (Cs #[Uv x21] 108), pt b14 (Cs #[vsub 1 s1 x5 (x2.length : Int)] 37)] := hD; clear hD
    replace hf : Fr a 57 [] [(45, Uv x21), (46, Iv x3), (47, Iv (Int.tmod x3 32)), (48, Uv (IntKind.u64.wrap (1 * 2 ^ (min (Int.toNat (Int.tmod x3 32)) (IntKind.bits .u64))))), (49, Uv (IntKind.u64.wrap ((IntKind.u64.wrap (1 * 2 ^ (min (Int.toNat (Int.tmod x3 32)) (IntKind.bits .u64)))) - 1))), (50, Uv (bitand .u64 x21 (IntKind.u64.wrap ((IntKind.u64.wrap (1 * 2 ^ (min (Int.toNat (Int.tmod x3 32)) (IntKind.bits .u64)))) - 1)))), (3, Pv b4 0), (4, .slice none 0 0), (5, Bv false), (9, Pv b11 0)] := hf
    refine O.store (j := 6) (cs' := #[Uv (bitand .u64 x21 (IntKind.u64.wrap ((IntKind.u64.wrap (1 * 2 ^ (min (Int.toNat (Int.tmod x3 32)) (IntKind.bits .u64)))) - 1)))]) (M' := [pt dl15 do15, pt dD15 (.deferred (some [])), mkA [], pt b4 (Cs #[Iv x3] 3), slE 98 1 E98 s9 (x18.set (Int.toNat x16) (IntKind.u32.wrap (Int.fdiv x21 (2 ^ (min (Int.toNat (Int.tmod x3 32)) (IntKind.bits .u64)))))), pt b10 (Cs #[s9] 37), pt b11 (Cs #[Uv (bitand .u64 x21 (IntKind.u64.wrap ((IntKind.u64.wrap (1 * 2 ^ (min (Int.toNat (Int.tmod x3 32)) (IntKind.bits .u64)))) - 1)))] 108), pt b14 (Cs #[vsub 1 s1 x5 (x2.length : Int)] 37)]) hf hS rfl rfl rfl T_size_108 rfl rfl rfl (Nat.le_of_ble_eq_true rfl) rfl rfl ?_
    clear hS; intro w hS
    exact O.nil ⟨rfl, (), hf.to trivial, (fun d hd => by cases (show none = some d from hd)), (fun _ _ _ => rfl), hS⟩
  ·clear hf hf1 hS
   exact trivial
  clear hf hf1 hS; intro s g a w hs hf hD
  have hS : St w0 w noX [rdE 1 E98 s1 x2] [pt dl15 do15, pt dD15 (.deferred (some [])), mkA [], pt b4 (Cs #[Iv x3] 3), slE 98 1 E98 s9 (x18.set (Int.toNat x16) (IntKind.u32.wrap (Int.fdiv x21 (2 ^ (min (Int.toNat (Int.tmod x3 32)) (IntKind.bits .u64)))))), pt b10 (Cs #[s9] 37), pt b11 (Cs #[Uv (bitand .u64 x21 (IntKind.u64.wrap ((IntKind.u64.wrap (1 * 2 ^ (min (Int.toNat (Int.tmod x3 32)) (IntKind.bits .u64)))) - 1)))] 108), pt b14 (Cs #[vsub 1 s1 x5 (x2.length : Int)] 37)] := hD; clear hD
  replace hf : Fr a 57 [] [(45, Uv x21), (46, Iv x3), (47, Iv (Int.tmod x3 32)), (48, Uv (IntKind.u64.wrap (1 * 2 ^ (min (Int.toNat (Int.tmod x3 32)) (IntKind.bits .u64))))), (49, Uv (IntKind.u64.wrap ((IntKind.u64.wrap (1 * 2 ^ (min (Int.toNat (Int.tmod x3 32)) (IntKind.bits .u64)))) - 1))), (50, Uv (bitand .u64 x21 (IntKind.u64.wrap ((IntKind.u64.wrap (1 * 2 ^ (min (Int.toNat (Int.tmod x3 32)) (IntKind.bits .u64)))) - 1)))), (3, Pv b4 0), (4, .slice none 0 0), (5, Bv false), (9, Pv b11 0)] := hf
  refine k_blk_normal ?_
  exact .inl ⟨rfl, (x18.set (Int.toNat x16) (IntKind.u32.wrap (Int.fdiv x21 (2 ^ (min (Int.toNat (Int.tmod x3 32)) (IntKind.bits .u64))))), bitand .u64 x21 (IntKind.u64.wrap ((IntKind.u64.wrap (1 * 2 ^ (min (Int.toNat (Int.tmod x3 32)) (IntKind.bits .u64)))) - 1))), by rw [hrec15] at hm; exact hm, hS⟩
 ·clear hf hS hm a; clear w
  rintro dD15 ⟨x18, x19⟩ a w hm hS hf
  replace hm : m_wide_right_l1 F x3 x7 ((downL (lsub x2 x5 (x2.length : Int))).drop ((downL (lsub x2 x5 (x2.length : Int))).map (fun p : Int × Int => (Iv p.1, Value.int .u32 p.2))).length) x18 x19 = some r := hm
  rw [List.length_map, List.drop_length] at hm
  replace hm : m_wide_right_j1 F x7 x18 x19 = some r := hm
  unfold m_wide_right_j1 at hm
  replace hf : Fr a 57 (mkDs (dD15 :: [])) [(3, Pv b4 0), (4, .slice none 0 0), (5, Bv false), (7, Bv x7), (8, Pv b10 0), (9, Pv b11 0), (29, .func (.func 107) #[] #[Pv b14 0])] := hf
  replace hS : St w0 w noX [rdE 1 E98 s1 x2] (pt dD15 (.deferred (some [])) :: [mkA [], pt b4 (Cs #[Iv x3] 3), slE 98 1 E98 s9 x18, pt b10 (Cs #[s9] 37), pt b11 (Cs #[Uv x19] 108), pt b14 (Cs #[vsub 1 s1 x5 (x2.length : Int)] 37)]) := hS
  replace hS := hS.mkCons
  refine k_blk_normal ?_
  refine k_seq ?_
  replace hf : Fr a 57 (mkDs (dD15 :: [])) [(4, .slice none 0 0), (5, Bv false), (7, Bv x7), (8, Pv b10 0), (9, Pv b11 0)] := hf.to ⟨rfl, rfl, rfl, rfl, rfl, trivial⟩
  refine W.seq ?_
  refine W.drawQ (fun w => St w0 w noX [rdE 1 E98 s1 x2] [mkA (dD15 :: []), pt b4 (Cs #[Iv x3] 3), slE 98 1 E98 s9 x18, pt b10 (Cs #[s9] 37), pt b11 (Cs #[Uv x19] 108), pt b14 (Cs #[vsub 1 s1 x5 (x2.length : Int)] 37)]) P_mixed rfl (by kernel_rfl) rfl hS.drew ?_
  clear hS; try clear w
  refine OQ.val (v := s9) hf rfl (fun w hS => RunV.load1 T_agg_37 rfl (hS.ptAt (i := 3) rfl) rfl) ?_; clear hf a; intro a hf
  refine OQ.val (v := Bv x7) hf rfl (fun w hS => RunV.move rfl) ?_; clear hf a; intro a hf
  refine OQ.val (v := Bv x7) hf rfl (fun w hS => RunV.move rfl) ?_; clear hf a; intro a hf
  refine OQ.cutK (K' := fun a => Fr a 57 (mkDs (dD15 :: [])) [(4, .slice none 0 0), (5, Bv false), (7, Bv x7), (8, Pv b10 0), (9, Pv b11 0), (51, s9), (52, Bv x7), (53, Bv x7), (56, Bv (x7 || (decide (x19 > (0 : Int)))))]) 3 ?_ ?_
  · rcases Bool.eq_false_or_eq_true (x7) with hb20 | hb20
    · refine OQ.skipB hf rfl rfl hb20 rfl ?_; clear hf a; intro a hf
      refine OQ.skipB hf rfl rfl hb20 rfl ?_; clear hf a; intro a hf
      refine OQ.val (v := Bv (x7 || (decide (x19 > (0 : Int))))) hf rfl (fun w hS => RunV.pick rfl rfl rfl (by rw [hb20]; rfl)) ?_; clear hf a; intro a hf
      exact OQ.nil (hf.to ⟨rfl, rfl, rfl, rfl, rfl, rfl, rfl, rfl, rfl, trivial⟩)
    · refine OQ.gval (v := Uv x19) hf rfl rfl hb20 rfl (fun w hS => RunV.load1 T_agg_108 rfl (hS.ptAt (i := 4) rfl) rfl) ?_; clear hf a; intro a hf
      refine OQ.gval (v := Bv (decide (x19 > (0 : Int)))) hf rfl rfl hb20 rfl (fun w hS => RunV.gtr rfl rfl) ?_; clear hf a; intro a hf
      refine OQ.val (v := Bv (x7 || (decide (x19 > (0 : Int))))) hf rfl (fun w hS => RunV.pick rfl rfl rfl (by rw [hb20]; rfl)) ?_; clear hf a; intro a hf
      exact OQ.nil (hf.to ⟨rfl, rfl, rfl, rfl, rfl, rfl, rfl, rfl, rfl, trivial⟩)
  clear hf a; intro a hf
  refine OQ.val (v := s9) hf rfl (fun w hS => RunV.assign rfl) ?_; clear hf a; intro a hf
  refine OQ.val (v := Bv (x7 || (decide (x19 > (0 : Int))))) hf rfl (fun w hS => RunV.assign rfl) ?_; clear hf a; intro a hf
  refine OQ.nil ?_; intro w hS
  refine k_seq ?_
  replace hf : Fr a 57 (mkDs (dD15 :: [])) [(4, s9), (5, Bv (x7 || (decide (x19 > (0 : Int)))))] := hf.to ⟨rfl, rfl, trivial⟩
  refine W.ret ?_
  refine postM (Ds := (dD15 :: [])) hS hf (fun w a hf hS => ?_)
  obtain rfl := Option.some.inj hm
  refine post2 hf rfl (ResOK.tmp rfl) (ResOK.tmp rfl) ?_
  replace hS := hS.sub (N := [slE 98 1 E98 s9 x18]) (.cons _ (.cons_cons _ (.cons _ (.cons _ (.cons _ .slnil)))))
  exact ⟨s9, rfl, hS.noB⟩
 ·rintro dD15 _ a w hm _ _
  exact hm.elim

def m_wide_divide_j1 (F : Nat) (x18 : Int) (x26 : List Int) (x27 : List Int) : Option ((List Int) × (List Int)) :=
  (m_wide_trim_3 F x27).bind fun x28 => (m_wide_right F x28 x18).bind fun x30 => (m_wide_trim_3 F x26).bind fun x32 => (m_wide_trim_3 F x30.1).bind fun x34 => some (x32, x34)
def m_wide_divide_b2 (F : Nat) (x4 : List Int) (x19 : List Int) (x18 : Int) (rec40 : (List Int) → (List Int) → Int → Option ((List Int) × (List Int))) (x37 : List Int) (x38 : List Int) (x39 : Int) : Option ((List Int) × (List Int)) :=
  if x39 ≥ (0 : Int) then (if sbd x39 (IntKind.i64.wrap ((IntKind.i64.wrap (x39 + (x4.length : Int))) + 1)) (x38.length : Int) then (m_wide_step_2 F x38 x39 (IntKind.i64.wrap ((IntKind.i64.wrap (x39 + (x4.length : Int))) + 1)) (lsub x19 0 (x4.length : Int))).bind fun x43 => (idx x37 x39).bind fun x44 => (some (IntKind.i64.wrap (x39 + (x4.length : Int)))).bind fun x45 => (some (IntKind.i64.wrap (x45 + 1))).bind fun x46 => rec40 (x37.set (Int.toNat x39) x43.1) x43.2 (IntKind.i64.wrap (x39 - 1)) else none) else (m_wide_divide_j1 F x18 x37 x38)
def m_wide_divide_l2 (F : Nat) (x4 : List Int) (x19 : List Int) (x18 : Int) : Nat → (List Int) → (List Int) → Int → Option ((List Int) × (List Int))
  | 0, _, _, _ => none
  | n + 1, x37, x38, x39 => m_wide_divide_b2 F x4 x19 x18 (m_wide_divide_l2 F x4 x19 x18 n) x37 x38 x39
def m_wide_divide (F : Nat)  (x2 : List Int) (x4 : List Int) : Option ((List Int) × (List Int)) :=
  (m_wide_compare F x2 x4).bind fun x5 => if x5 < (0 : Int) then ((m_slices_Clone_uint32_uint32 F x2).bind fun x7 => some (([] : List Int), x7)) else (if (x4.length : Int) = (1 : Int) then ((idx x4 0).bind fun x10 => (m_wide_short F x2 x10).bind fun x11 => (m_wide_trim_3 F ([x11.2])).bind fun x15 => some (x11.1, x15)) else ((idx x4 (IntKind.i64.wrap ((x4.length : Int) - 1))).bind fun x17 => (m_math_bits_LeadingZeros32 F x17).bind fun x18 => (m_wide_left_2 F x4 x18).bind fun x19 => if sbd 0 (x4.length : Int) (x19.length : Int) then (m_wide_left_2 F x2 x18).bind fun x22 => if 0 ≤ (IntKind.i64.wrap ((x22.length : Int) - (x4.length : Int))) ∧ (IntKind.i64.wrap ((x22.length : Int) - (x4.length : Int))) ≤ 4294967296 then (some (IntKind.i64.wrap (((List.replicate (Int.toNat (IntKind.i64.wrap ((x22.length : Int) - (x4.length : Int)))) (0 : Int)).length : Int) - 1))).bind fun x36 => m_wide_divide_l2 F x4 x19 x18 F (List.replicate (Int.toNat (IntKind.i64.wrap ((x22.length : Int) - (x4.length : Int)))) (0 : Int)) x22 x36 else none else none))
set_option maxHeartbeats 1000000 in
set_option maxRecDepth 8000 in
theorem m_wide_divide_ok (F : Nat)    (s1 : Value) (x2 : List Int) (s3 : Value) (x4 : List Int) (w0 : World) (h_s1 : rdEOK (hp w0) 1 E98 s1 x2) (h_s3 : rdEOK (hp w0) 1 E98 s3 x4) (r : (List Int) × (List Int)) (hm : m_wide_divide F x2 x4 = some r) :
    Ret Try.prog 56 #[s1, s3] w0 (G := Value × Value) (fun (g1, g2) => .tuple #[g1, g2]) (fun (g1, g2) w => St w0 w noX [] [slE 98 1 E98 g1 r.1, slE 98 1 E98 g2 r.2]) := by
 unfold m_wide_divide at hm
 refine ret_of_W (lv := [s1, s3]) Try.func56 rfl rfl rfl (fun a hf => ?_)
 replace hf : Fr a 84 [] [(0, s1), (1, s3)] := hf
 have hS : St w0 w0 noX [rdE 1 E98 s1 x2, rdE 1 E98 s3 x4] [] := St.borrow (lendAll_cons (lendRd h_s1) (lendAll_cons (lendRd h_s3) lendAll_nil))
 refine W.seq ?_
 refine W.regionL (l := [0, 1]) rfl ?_
 refine O.val hf rfl rfl rfl (RunV.assign rfl) ?_; clear hf a; intro a hf
 refine O.val hf rfl rfl rfl (RunV.assign rfl) ?_; clear hf a; intro a hf
 refine O.nil ?_
 refine k_seq ?_
 refine W.seq ?_
 refine W.seq ?_
 refine W.regionL (l := [0, 1, 2, 3]) rfl ?_
 refine O.val hf rfl rfl rfl (RunV.move rfl) ?_; clear hf a; intro a hf
 refine O.val hf rfl rfl rfl (RunV.move rfl) ?_; clear hf a; intro a hf
 obtain ⟨x5, hx5, hm⟩ := hm_b hm
 refine O.callR hf rfl rfl rfl (RunE.call (av := #[s1, s3]) C_ok_59 rfl rfl rfl) (m_wide_compare_ok F s1 x2 s3 x4 _ (hS.rdB (j := 0) rfl) (hS.rdB (j := 1) rfl) x5 hx5) ?_
 clear hf a; rintro _ w hS1 a hf
 replace hf : Fr a _ _ ((15, Iv x5) :: _) := hf
 replace hS := (hS.call hS1).eqM (N := []) rfl
 clear hS1
 refine O.val (v := Bv (decide (x5 < (0 : Int)))) hf rfl rfl rfl (RunV.lss rfl rfl) ?_; clear hf a; intro a hf
 refine O.nil ?_
 refine k_seq ?_
 replace hf : Fr a 84 [] [(0, s1), (1, s3), (4, .slice none 0 0), (5, .slice none 0 0), (16, Bv (decide (x5 < (0 : Int))))] := hf.to ⟨rfl, rfl, rfl, rfl, rfl, trivial⟩
 refine W.ifdI hf rfl (fun hc6 => ?_) (fun hc6 => ?_)
 ·replace hm := hm_p hm hc6
  refine W.seq ?_
  refine W.regionL (l := [0, 1, 2, 3]) rfl ?_
  refine O.val hf rfl rfl rfl (RunV.move rfl) ?_; clear hf a; intro a hf
  obtain ⟨x7, hx7, hm⟩ := hm_b hm
  refine O.callR hf rfl rfl rfl (RunE.call (av := #[s1]) C_ok_78 rfl rfl rfl) (m_slices_Clone_uint32_uint32_ok F s1 x2 _ (hS.rdB (j := 0) rfl) x7 hx7) ?_
  clear hf a; rintro s8 w hS1 a hf
  replace hf : Fr a _ _ ((18, s8) :: _) := hf
  replace hS := (hS.call hS1).eqM (N := [slE 98 1 E98 s8 x7]) rfl
  clear hS1
  refine O.val hf rfl rfl rfl (RunV.assign rfl) ?_; clear hf a; intro a hf
  refine O.val hf rfl rfl rfl (RunV.assign rfl) ?_; clear hf a; intro a hf
  refine O.nil ?_
  refine k_seq ?_
  replace hf : Fr a 84 [] [(0, s1), (1, s3), (4, .slice none 0 0), (5, s8)] := hf.to ⟨rfl, rfl, rfl, rfl, trivial⟩
  refine W.ret ?_
  refine k_then_ret ?_
  replace hS := hS.nilE 98 1 E98
  obtain rfl := Option.some.inj hm
  refine post2 hf rfl (ResOK.tmp rfl) (ResOK.tmp rfl) ?_
  replace hS := hS.nilE 98 1 E98
  replace hS := hS.sub (N := [slE 98 1 E98 (.slice none 0 0) ([] : List Int), slE 98 1 E98 s8 x7]) (.cons_cons _ (.cons _ (.cons_cons _ .slnil)))
  exact ⟨((.slice none 0 0), s8), rfl, hS.noB⟩
 ·replace hm := hm_n hm hc6
  refine W.skip ?_
  refine k_seq ?_
  replace hf : Fr a 84 [] [(0, s1), (1, s3), (4, .slice none 0 0), (5, .slice none 0 0)] := hf.to ⟨rfl, rfl, rfl, rfl, trivial⟩
  refine W.seq ?_
  refine W.regionL (l := [0, 1, 2]) rfl ?_
  refine O.val hf rfl rfl rfl (RunV.move rfl) ?_; clear hf a; intro a hf
  refine O.val (v := Iv (x4.length : Int)) hf rfl rfl rfl (RunV.lenE (e := 98) (by simpa using T_elem_37) rfl (hS.rdB (j := 1) rfl)) ?_; clear hf a; intro a hf
  refine O.val hf rfl rfl rfl (RunV.assign rfl) ?_; clear hf a; intro a hf
  refine O.nil ?_
  refine k_seq ?_
  replace hf : Fr a 84 [] [(0, s1), (1, s3), (4, .slice none 0 0), (5, .slice none 0 0), (6, Iv (x4.length : Int))] := hf.to ⟨rfl, rfl, rfl, rfl, rfl, trivial⟩
  refine W.seq ?_
  refine W.seq ?_
  refine W.regionL (l := [0, 1]) rfl ?_
  refine O.val hf rfl rfl rfl (RunV.move rfl) ?_; clear hf a; intro a hf
  refine O.val (v := Bv (decide ((x4.length : Int) = (1 : Int)))) hf rfl rfl rfl (RunV.eql rfl rfl) ?_; clear hf a; intro a hf
  refine O.nil ?_
  refine k_seq ?_
  replace hf : Fr a 84 [] [(0, s1), (1, s3), (4, .slice none 0 0), (5, .slice none 0 0), (6, Iv (x4.length : Int)), (22, Bv (decide ((x4.length : Int) = (1 : Int))))] := hf.to ⟨rfl, rfl, rfl, rfl, rfl, rfl, trivial⟩
  refine W.ifdI hf rfl (fun hc9 => ?_) (fun hc9 => ?_)
  ·replace hm := hm_p hm hc9
   refine W.seq ?_
   refine W.regionL (l := [0, 1, 2, 3, 4, 5, 6, 7, 8, 9]) rfl ?_
   refine O.val hf rfl rfl rfl (RunV.move rfl) ?_; clear hf a; intro a hf
   refine O.val hf rfl rfl rfl (RunV.move rfl) ?_; clear hf a; intro a hf
   obtain ⟨x10, hx10, hm⟩ := hm_b hm
   refine O.val hf rfl rfl rfl (RunV.ixE T_elem_37 T_size_98 rfl rfl (hS.rdB (j := 1) rfl) hx10) ?_; clear hf a; intro a hf
   refine O.val hf rfl rfl rfl (RunV.ldE1 (o := 0) T_agg_98 E98_len rfl (hS.rdB (j := 1) rfl) hx10 rfl rfl) ?_; clear hf a; intro a hf
   obtain ⟨x11, hx11, hm⟩ := hm_b hm
   refine O.callR hf rfl rfl rfl (RunE.call (av := #[s1, .int .u32 x10]) C_ok_79 rfl rfl rfl) (m_wide_short_ok F s1 x2 x10 _ (hS.rdB (j := 0) rfl) x11 hx11) ?_
   clear hf a; rintro s12 w hS1 a hf
   replace hf : Fr a _ _ ((28, .tuple #[s12, .int .u32 x11.2]) :: _) := hf
   replace hS := (hS.call hS1).eqM (N := [slE 98 1 E98 s12 x11.1]) rfl
   clear hS1
   refine O.val hf rfl rfl rfl (RunV.move rfl) ?_; clear hf a; intro a hf
   refine O.val hf rfl rfl rfl (RunV.extract rfl rfl) ?_; clear hf a; intro a hf
   refine O.val hf rfl rfl rfl (RunV.extract rfl rfl) ?_; clear hf a; intro a hf
   refine O.val hf rfl rfl rfl (RunV.assign rfl) ?_; clear hf a; intro a hf
   refine O.val hf rfl rfl rfl (RunV.assign rfl) ?_; clear hf a; intro a hf
   refine O.nil ?_
   refine k_seq ?_
   replace hf : Fr a 84 [] [(0, s1), (1, s3), (4, .slice none 0 0), (5, .slice none 0 0), (6, Iv (x4.length : Int)), (7, s12), (8, .int .u32 x11.2)] := hf.to ⟨rfl, rfl, rfl, rfl, rfl, rfl, rfl, trivial⟩
   refine W.seq ?_
   refine W.regionL (l := [0, 1, 2, 3, 4, 5]) rfl ?_
   refine O.val hf rfl rfl rfl (RunV.move rfl) ?_; clear hf a; intro a hf
   refine O.val hf rfl rfl rfl (RunV.move rfl) ?_; clear hf a; intro a hf
   refine O.buildSlice (cs' := #[.int .u32 x11.2]) (zs := #[.int .u32 0]) hf hS rfl rfl T_elem_37 T_size_98 T_zero_98 rfl rfl rfl rfl rfl ?_
   clear hf hS a; intro b13 w a hb13 hS hf
   replace hS := hS.ptE (j := 0) (enc := E98) (xs := [x11.2]) (N := 1) (M' := [slE 98 1 E98 (.slice (some ⟨b13, 0, none⟩) 1 1) ([x11.2]), slE 98 1 E98 s12 x11.1]) rfl rfl rfl rfl rfl rfl
   obtain ⟨s14, hs14⟩ : ∃ v, v = (.slice (some ⟨b13, 0, none⟩) 1 1 : Value) := ⟨_, rfl⟩
   rw [← hs14] at hf hS
   replace hS : St w0 _ noX [rdE 1 E98 s1 x2, rdE 1 E98 s3 x4] [slE 98 1 E98 s14 ([x11.2]), slE 98 1 E98 s12 x11.1] := hS
   replace hf : Fr a 84 [] [(0, s1), (1, s3), (4, .slice none 0 0), (5, .slice none 0 0), (6, Iv (x4.length : Int)), (7, s12), (8, .int .u32 x11.2), (31, s12), (32, .int .u32 x11.2), (33, s14)] := hf.to ⟨rfl, rfl, rfl, rfl, rfl, rfl, rfl, rfl, rfl, rfl, trivial⟩
   obtain ⟨x15, hx15, hm⟩ := hm_b hm
   refine O.callR hf rfl rfl rfl (RunE.call (av := #[s14]) C_ok_54 rfl rfl rfl) (m_wide_trim_3_ok F s14 ([x11.2]) _ (hS.slS (j := 0) rfl) x15 hx15) ?_
   clear hf a; rintro s16 w hS1 a hf
   replace hf : Fr a _ _ ((34, s16) :: _) := hf
   replace hS := (hS.callX1 hS1 (i := 0) rfl (fun _ h => h)).eqM (N := [slE 98 1 E98 s16 x15, slE 98 1 E98 s12 x11.1]) rfl
   clear hS1
   refine O.val hf rfl rfl rfl (RunV.assign rfl) ?_; clear hf a; intro a hf
   refine O.val hf rfl rfl rfl (RunV.assign rfl) ?_; clear hf a; intro a hf
   refine O.nil ?_
   refine k_seq ?_
   replace hf : Fr a 84 [] [(0, s1), (1, s3), (4, s12), (5, s16), (6, Iv (x4.length : Int))] := hf.to ⟨rfl, rfl, rfl, rfl, rfl, trivial⟩
   refine W.ret ?_
   refine k_then_ret ?_
   obtain rfl := Option.some.inj hm
   refine post2 hf rfl (ResOK.tmp rfl) (ResOK.tmp rfl) ?_
   replace hS := hS.front (i := 1) (M' := [slE 98 1 E98 s12 x11.1, slE 98 1 E98 s16 x15]) rfl rfl
   exact ⟨(s12, s16), rfl, hS.noB⟩
  ·replace hm := hm_n hm hc9
   refine W.skip ?_
   refine k_seq ?_
   replace hf : Fr a 84 [] [(0, s1), (1, s3), (4, .slice none 0 0), (5, .slice none 0 0), (6, Iv (x4.length : Int))] := hf.to ⟨rfl, rfl, rfl, rfl, rfl, trivial⟩
   refine W.seq ?_
   refine W.regionL (l := [0, 1, 2, 3, 4, 5, 6]) rfl ?_
   refine O.val hf rfl rfl rfl (RunV.move rfl) ?_; clear hf a; intro a hf
   refine O.val hf rfl rfl rfl (RunV.move rfl) ?_; clear hf a; intro a hf
   refine O.val (v := Iv (IntKind.i64.wrap ((x4.length : Int) - 1))) hf rfl rfl rfl (RunV.sub rfl rfl) ?_; clear hf a; intro a hf
   obtain ⟨x17, hx17, hm⟩ := hm_b hm
   refine O.val hf rfl rfl rfl (RunV.ixE T_elem_37 T_size_98 rfl rfl (hS.rdB (j := 1) rfl) hx17) ?_; clear hf a; intro a hf
   refine O.val hf rfl rfl rfl (RunV.ldE1 (o := 0) T_agg_98 E98_len rfl (hS.rdB (j := 1) rfl) hx17 rfl rfl) ?_; clear hf a; intro a hf
   obtain ⟨x18, hx18, hm⟩ := hm_b hm
   refine O.callR hf rfl rfl rfl (RunE.call (av := #[.int .u32 x17]) C_ok_80 rfl rfl rfl) (m_math_bits_LeadingZeros32_ok F x17 _ x18 hx18) ?_
   clear hf a; rintro _ w hS1 a hf
   replace hf : Fr a _ _ ((40, Iv x18) :: _) := hf
   replace hS := (hS.call hS1).eqM (N := []) rfl
   clear hS1
   refine O.val hf rfl rfl rfl (RunV.assign rfl) ?_; clear hf a; intro a hf
   refine O.nil ?_
   refine k_seq ?_
   replace hf : Fr a 84 [] [(0, s1), (1, s3), (4, .slice none 0 0), (5, .slice none 0 0), (6, Iv (x4.length : Int)), (9, Iv x18)] := hf.to ⟨rfl, rfl, rfl, rfl, rfl, rfl, trivial⟩
   refine W.seq ?_
   have hf1 : Fr a 84 [] [] := hf.to trivial
   replace hf : Fr a 84 [] [(0, s1), (1, s3), (4, .slice none 0 0), (5, .slice none 0 0), (6, Iv (x4.length : Int)), (9, Iv x18)] := hf.to ⟨rfl, rfl, rfl, rfl, rfl, rfl, trivial⟩
   obtain ⟨x19, hx19, hm⟩ := hm_b hm
   obtain ⟨hg21, hm⟩ := hm_g hm
   obtain ⟨x22, hx22, hm⟩ := hm_b hm
   refine W.drawC (γ := Value × Value) (L0 := [(0, s1), (1, s3), (4, .slice none 0 0), (5, .slice none 0 0), (6, Iv (x4.length : Int)), (9, Iv x18)]) (L1 := []) (undef, undef) [2, 7] [] [0, 1, 3, 4, 5, 6, 8, 9] (fun i => match i with | 2 => [0, 1] | 4 => [2, 3] | 7 => [2, 5, 6] | 8 => [0, 1, 2, 3, 4, 7] | 9 => [0, 1, 2, 3, 4, 5, 6, 7, 8] | _ => []) (fun i => match i with | 4 => [2] | 7 => [2] | 8 => [2, 7] | 9 => [2, 7] | _ => []) (fun i => match i with | 0 => [2, 7] | 1 => [2, 7] | 2 => [7] | 5 => [7] | 6 => [7] | _ => []) (fun _ => []) (fun i => match i with | 2 => [4, 7, 8, 9] | 7 => [8, 9] | _ => []) (fun _ => []) (fun i => match i with | 4 => 1 | 7 => 1 | 8 => 2 | 9 => 2 | _ => 0) (fun i => match i with | 2 => 1 | 3 => 2 | 4 => 2 | 5 => 1 | 6 => 1 | 7 => 2 | 8 => 2 | 9 => 2 | _ => 0) (fun (g : Value × Value) j => match j with | 0 => s3 | 1 => Iv x18 | 2 => g.1 | 3 => Iv (x4.length : Int) | 4 => vsub 1 g.1 0 (x4.length : Int) | 5 => s1 | 6 => Iv x18 | 7 => g.2 | 8 => vsub 1 g.1 0 (x4.length : Int) | 9 => g.2 | _ => undef) (fun k s (g : Value × Value) w => match k with | 0 => St w0 w noX [rdE 1 E98 s1 x2, rdE 1 E98 s3 x4] [] | 1 => St w0 w noX [rdE 1 E98 s1 x2, rdE 1 E98 s3 x4] [slE 98 1 E98 g.1 x19] | _ => St w0 w noX [rdE 1 E98 s1 x2, rdE 1 E98 s3 x4] [slE 98 1 E98 g.2 x22, slE 98 1 E98 g.1 x19]) P_mixed (by kernel_rfl) (by kernel_rfl) (by kernel_rfl) hf hf1 hS.drew ?_ ?_ ?_ ?_
   ·clear hf hf1 hS
    refine ⟨fun k s g w _ _ _ hD a hf => Q.val (v := s3) rfl rfl rfl hD hf (RunV.move rfl), fun k s g w _ _ _ hD a hf => Q.val (v := Iv x18) rfl rfl rfl hD hf (RunV.move rfl), fun k s g w _ _ _ hD a hf => Q.val (v := Iv (x4.length : Int)) rfl rfl rfl hD hf (RunV.move rfl), ?_, fun k s g w _ _ _ hD a hf => Q.val (v := s1) rfl rfl rfl hD hf (RunV.move rfl), fun k s g w _ _ _ hD a hf => Q.val (v := Iv x18) rfl rfl rfl hD hf (RunV.move rfl), fun k s g w _ _ _ hD a hf => Q.val (v := vsub 1 g.1 0 (x4.length : Int)) rfl rfl rfl hD hf (RunV.assign rfl), fun k s g w _ _ _ hD a hf => Q.val (v := g.2) rfl rfl rfl hD hf (RunV.assign rfl), trivial⟩
    ·intro k s g w h1_ h2_ hsp hD a hf
     obtain ⟨s20, s23⟩ := g
     rcases k with _ | _ | _ | k
     ·exact absurd h1_ (by decide)
     ·have hS : St w0 w noX [rdE 1 E98 s1 x2, rdE 1 E98 s3 x4] [slE 98 1 E98 s20 x19] := hD; clear hD
      replace hf : Fr a 84 [] [(43, s20), (44, Iv (x4.length : Int)), (0, s1), (1, s3), (4, .slice none 0 0), (5, .slice none 0 0), (6, Iv (x4.length : Int)), (9, Iv x18)] := hf
      exact Q.val (v := vsub 1 s20 0 (x4.length : Int)) rfl rfl rfl hS hf (RunV.sliceH T_elem_37 T_size_98 rfl rfl (hS.rdS (j := 0) rfl) hg21)
     ·have hS : St w0 w noX [rdE 1 E98 s1 x2, rdE 1 E98 s3 x4] [slE 98 1 E98 s23 x22, slE 98 1 E98 s20 x19] := hD; clear hD
      replace hf : Fr a 84 [] [(43, s20), (44, Iv (x4.length : Int)), (0, s1), (1, s3), (4, .slice none 0 0), (5, .slice none 0 0), (6, Iv (x4.length : Int)), (9, Iv x18)] := hf
      exact Q.val (v := vsub 1 s20 0 (x4.length : Int)) rfl rfl rfl hS hf (RunV.sliceH T_elem_37 T_size_98 rfl rfl (hS.rdS (j := 1) rfl) hg21)
     ·exact absurd h2_ (by simp)
   ·clear hf hf1 hS
    refine ⟨?_, ?_, trivial⟩
    ·intro s g w hsp hD a hf
     obtain ⟨s20, s23⟩ := g
     have hS : St w0 w noX [rdE 1 E98 s1 x2, rdE 1 E98 s3 x4] [] := hD; clear hD
     replace hf : Fr a 84 [] [(41, s3), (42, Iv x18), (0, s1), (1, s3), (4, .slice none 0 0), (5, .slice none 0 0), (6, Iv (x4.length : Int)), (9, Iv x18)] := hf
     refine O.callR hf rfl rfl rfl (RunE.call (av := #[s3, Iv x18]) C_ok_55 rfl rfl rfl) (m_wide_left_2_ok F s3 x4 x18 _ (hS.rdB (j := 1) rfl) x19 hx19) ?_
     clear hf a; rintro s20 w hS1 a hf
     replace hf : Fr a _ _ ((43, s20) :: _) := hf
     replace hS := (hS.call hS1).eqM (N := [slE 98 1 E98 s20 x19]) rfl
     clear hS1
     exact O.nil ⟨rfl, (s20, s23), hf.to trivial, (fun d hd => by cases (show some 43 = some d from hd); exact hf.get _ _ rfl), (fun j hj hk => match j, hj, hk with | 0, hj, hk => rfl | 1, hj, hk => rfl | 2, hj, hk => absurd rfl hj | 3, hj, hk => rfl | 4, hj, hk => absurd hk (by decide) | 5, hj, hk => rfl | 6, hj, hk => rfl | 7, hj, hk => absurd hk (by decide) | 8, hj, hk => absurd hk (by decide) | 9, hj, hk => absurd hk (by decide) | _ + 10, _, _ => rfl), hS⟩
    ·intro s g w hsp hD a hf
     obtain ⟨s20, s23⟩ := g
     have hS : St w0 w noX [rdE 1 E98 s1 x2, rdE 1 E98 s3 x4] [slE 98 1 E98 s20 x19] := hD; clear hD
     replace hf : Fr a 84 [] [(43, s20), (46, s1), (47, Iv x18), (0, s1), (1, s3), (4, .slice none 0 0), (5, .slice none 0 0), (6, Iv (x4.length : Int)), (9, Iv x18)] := hf
     refine O.callR hf rfl rfl rfl (RunE.call (av := #[s1, Iv x18]) C_ok_55 rfl rfl rfl) (m_wide_left_2_ok F s1 x2 x18 _ (hS.rdB (j := 0) rfl) x22 hx22) ?_
     clear hf a; rintro s23 w hS1 a hf
     replace hf : Fr a _ _ ((48, s23) :: _) := hf
     replace hS := (hS.call hS1).eqM (N := [slE 98 1 E98 s23 x22, slE 98 1 E98 s20 x19]) rfl
     clear hS1
     exact O.nil ⟨rfl, (s20, s23), hf.to trivial, (fun d hd => by cases (show some 48 = some d from hd); exact hf.get _ _ rfl), (fun j hj hk => match j, hj, hk with | 0, hj, hk => rfl | 1, hj, hk => rfl | 2, hj, hk => rfl | 3, hj, hk => rfl | 4, hj, hk => rfl | 5, hj, hk => rfl | 6, hj, hk => rfl | 7, hj, hk => absurd rfl hj | 8, hj, hk => absurd hk (by decide) | 9, hj, hk => absurd hk (by decide) | _ + 10, _, _ => rfl), hS⟩
   ·clear hf hf1 hS
    exact trivial
   clear hf hf1 hS; intro s g a w hs hf hD
   obtain ⟨s20, s23⟩ := g
   have hS : St w0 w noX [rdE 1 E98 s1 x2, rdE 1 E98 s3 x4] [slE 98 1 E98 s23 x22, slE 98 1 E98 s20 x19] := hD; clear hD
   replace hf : Fr a 84 [] [(41, s3), (42, Iv x18), (43, s20), (44, Iv (x4.length : Int)), (45, vsub 1 s20 0 (x4.length : Int)), (46, s1), (47, Iv x18), (48, s23), (10, vsub 1 s20 0 (x4.length : Int)), (11, s23), (0, s1), (1, s3), (4, .slice none 0 0), (5, .slice none 0 0), (6, Iv (x4.length : Int)), (9, Iv x18)] := hf
   refine k_seq ?_
   replace hf : Fr a 84 [] [(4, .slice none 0 0), (5, .slice none 0 0), (6, Iv (x4.length : Int)), (9, Iv x18), (10, vsub 1 s20 0 (x4.length : Int)), (11, s23)] := hf.to ⟨rfl, rfl, rfl, rfl, rfl, rfl, trivial⟩
   refine W.seq ?_
   refine W.regionL (l := [0, 1, 2, 3, 4, 5]) rfl ?_
   refine O.val hf rfl rfl rfl (RunV.move rfl) ?_; clear hf a; intro a hf
   refine O.val (v := Iv (x22.length : Int)) hf rfl rfl rfl (RunV.lenE (e := 98) (by simpa using T_elem_37) rfl (hS.rdS (j := 0) rfl)) ?_; clear hf a; intro a hf
   refine O.val hf rfl rfl rfl (RunV.move rfl) ?_; clear hf a; intro a hf
   refine O.val (v := Iv (IntKind.i64.wrap ((x22.length : Int) - (x4.length : Int)))) hf rfl rfl rfl (RunV.sub rfl rfl) ?_; clear hf a; intro a hf
   obtain ⟨hg24, hm⟩ := hm_g hm
   refine O.makeE (enc := E98) (x0 := (0 : Int)) hf hS rfl rfl T_elem_37 T_size_98 T_bytes_98 T_zero_98 rfl rfl rfl hg24 rfl E98_len rfl ?_
   clear hf hS a; intro s25 w a hS hf
   refine O.val hf rfl rfl rfl (RunV.assign rfl) ?_; clear hf a; intro a hf
   refine O.nil ?_
   refine k_seq ?_
   replace hf : Fr a 84 [] [(4, s25), (5, .slice none 0 0), (6, Iv (x4.length : Int)), (9, Iv x18), (10, vsub 1 s20 0 (x4.length : Int)), (11, s23)] := hf.to ⟨rfl, rfl, rfl, rfl, rfl, rfl, trivial⟩
   refine W.seqR (fun a w => ∃ (x26 : List Int) (x27 : List Int), Fr a 84 [] [(4, s25), (5, .slice none 0 0), (9, Iv x18), (11, s23)] ∧ St w0 w noX [rdE 1 E98 s1 x2, rdE 1 E98 s3 x4] [slE 98 1 E98 s25 x26, slE 98 1 E98 s23 x27] ∧ m_wide_divide_j1 F x18 x26 x27 = some r) ?_ ?_
   ·refine W.seq ?_
    refine W.regionL (l := [0, 1, 2, 3]) rfl ?_
    refine O.val hf rfl rfl rfl (RunV.move rfl) ?_; clear hf a; intro a hf
    refine O.val (v := Iv ((List.replicate (Int.toNat (IntKind.i64.wrap ((x22.length : Int) - (x4.length : Int)))) (0 : Int)).length : Int)) hf rfl rfl rfl (RunV.lenE (e := 98) (by simpa using T_elem_37) rfl (hS.rdS (j := 0) rfl)) ?_; clear hf a; intro a hf
    refine O.val (v := Iv (IntKind.i64.wrap (((List.replicate (Int.toNat (IntKind.i64.wrap ((x22.length : Int) - (x4.length : Int)))) (0 : Int)).length : Int) - 1))) hf rfl rfl rfl (RunV.sub rfl rfl) ?_; clear hf a; intro a hf
    refine O.val hf rfl rfl rfl (RunV.assign rfl) ?_; clear hf a; intro a hf
    refine O.nil ?_
    refine k_seq ?_
    replace hf : Fr a 84 [] [(4, s25), (5, .slice none 0 0), (6, Iv (x4.length : Int)), (9, Iv x18), (10, vsub 1 s20 0 (x4.length : Int)), (11, s23), (12, Iv (IntKind.i64.wrap (((List.replicate (Int.toNat (IntKind.i64.wrap ((x22.length : Int) - (x4.length : Int)))) (0 : Int)).length : Int) - 1)))] := hf.to ⟨rfl, rfl, rfl, rfl, rfl, rfl, rfl, trivial⟩
    obtain ⟨x36, hx36, hm⟩ := hm_b hm
    rw [Option.some.inj hx36] at hf
    refine W.block ?_
    replace hS := hS.front (i := 1) (M' := [slE 98 1 E98 s23 x22, slE 98 1 E98 s25 (List.replicate (Int.toNat (IntKind.i64.wrap ((x22.length : Int) - (x4.length : Int)))) (0 : Int)), slE 98 1 E98 s20 x19]) rfl rfl
    replace hS := hS.front (i := 2) (M' := [slE 98 1 E98 s20 x19, slE 98 1 E98 s23 x22, slE 98 1 E98 s25 (List.replicate (Int.toNat (IntKind.i64.wrap ((x22.length : Int) - (x4.length : Int)))) (0 : Int))]) rfl rfl
    replace hS := hS.front (i := 2) (M' := [slE 98 1 E98 s25 (List.replicate (Int.toNat (IntKind.i64.wrap ((x22.length : Int) - (x4.length : Int)))) (0 : Int)), slE 98 1 E98 s20 x19, slE 98 1 E98 s23 x22]) rfl rfl
    refine W.loop (G := Nat × (List Int) × (List Int) × Int) (fun g a w => match g with | (k40, x37, x38, x39) => Fr a 84 [] [(4, s25), (5, .slice none 0 0), (6, Iv (x4.length : Int)), (9, Iv x18), (10, vsub 1 s20 0 (x4.length : Int)), (11, s23), (12, Iv x39)] ∧ St w0 w noX [rdE 1 E98 s1 x2, rdE 1 E98 s3 x4] [slE 98 1 E98 s25 x37, slE 98 1 E98 s20 x19, slE 98 1 E98 s23 x38] ∧ m_wide_divide_l2 F x4 x19 x18 k40 x37 x38 x39 = some r) (fun g => match g with | (k40, x37, x38, x39) => k40) (F, List.replicate (Int.toNat (IntKind.i64.wrap ((x22.length : Int) - (x4.length : Int)))) (0 : Int), x22, x36) ⟨hf.to ⟨rfl, rfl, rfl, rfl, rfl, rfl, rfl, trivial⟩, hS, hm⟩ ?_
    clear hf hS hm a; try clear w
    rintro ⟨k40, x37, x38, x39⟩ a w ⟨hf, hS, hm⟩
    rcases k40 with _ | k40
    · exact absurd (show none = some r from hm) (by simp)
    replace hm : m_wide_divide_b2 F x4 x19 x18 (m_wide_divide_l2 F x4 x19 x18 k40) x37 x38 x39 = some r := hm
    obtain ⟨rec40, hrec40⟩ : ∃ f, f = m_wide_divide_l2 F x4 x19 x18 k40 := ⟨_, rfl⟩
    rw [← hrec40] at hm; unfold m_wide_divide_b2 at hm
    refine W.seq ?_
    refine W.seq ?_
    refine W.regionL (l := [0, 1]) rfl ?_
    refine O.val hf rfl rfl rfl (RunV.move rfl) ?_; clear hf a; intro a hf
    refine O.val (v := Bv (decide (x39 ≥ (0 : Int)))) hf rfl rfl rfl (RunV.geq rfl rfl) ?_; clear hf a; intro a hf
    refine O.nil ?_
    refine k_seq ?_
    refine W.ifdI hf rfl (fun hc41 => ?_) (fun hc41 => ?_)
    ·replace hm := hm_p hm hc41
     refine W.skip ?_
     refine k_seq ?_
     refine W.seq ?_
     refine W.block ?_
     refine W.regionL (l := [0, 1, 2, 3, 4, 5, 6, 7, 8, 9, 10, 11, 12]) rfl ?_
     refine O.val hf rfl rfl rfl (RunV.move rfl) ?_; clear hf a; intro a hf
     refine O.val hf rfl rfl rfl (RunV.move rfl) ?_; clear hf a; intro a hf
     refine O.val hf rfl rfl rfl (RunV.move rfl) ?_; clear hf a; intro a hf
     refine O.val hf rfl rfl rfl (RunV.move rfl) ?_; clear hf a; intro a hf
     refine O.val hf rfl rfl rfl (RunV.move rfl) ?_; clear hf a; intro a hf
     refine O.val hf rfl rfl rfl (RunV.move rfl) ?_; clear hf a; intro a hf
     refine O.val (v := Iv (IntKind.i64.wrap (x39 + (x4.length : Int)))) hf rfl rfl rfl (RunV.add rfl rfl) ?_; clear hf a; intro a hf
     refine O.val (v := Iv (IntKind.i64.wrap ((IntKind.i64.wrap (x39 + (x4.length : Int))) + 1))) hf rfl rfl rfl (RunV.add rfl rfl) ?_; clear hf a; intro a hf
     obtain ⟨hg42, hm⟩ := hm_g hm
     refine O.val (v := vsub 1 s23 x39 (IntKind.i64.wrap ((IntKind.i64.wrap (x39 + (x4.length : Int))) + 1))) hf rfl rfl rfl (RunV.sliceLH T_elem_37 T_size_98 rfl rfl rfl (hS.rdS (j := 2) rfl) hg42) ?_; clear hf a; intro a hf
     refine O.val hf rfl rfl rfl (RunV.move rfl) ?_; clear hf a; intro a hf
     obtain ⟨x43, hx43, hm⟩ := hm_b hm
     refine O.callR hf rfl rfl rfl (RunE.call (av := #[vsub 1 s23 x39 (IntKind.i64.wrap ((IntKind.i64.wrap (x39 + (x4.length : Int))) + 1)), vsub 1 s20 0 (x4.length : Int)]) C_ok_81 rfl rfl rfl) (m_wide_step_2_ok F s23 x38 x39 (IntKind.i64.wrap ((IntKind.i64.wrap (x39 + (x4.length : Int))) + 1)) (vsub 1 s20 0 (x4.length : Int)) (lsub x19 0 (x4.length : Int)) _ (hS.slS (j := 2) rfl) (rdEOK.sub (hS.rdS (j := 1) rfl) E98_len hg21) (apWin (hS.rdS (j := 1) rfl) hg21 (apRd (hS.apMM (i := 2) (j := 1) rfl rfl (by decide)))) x43 hx43) ?_
     clear hf a; rintro _ w hS1 a hf
     replace hf : Fr a _ _ ((71, .int .u32 x43.1) :: _) := hf
     replace hS := (hS.callX1 hS1 (i := 2) rfl (fun _ h => h)).eqM (N := [slE 98 1 E98 s23 x43.2, slE 98 1 E98 s25 x37, slE 98 1 E98 s20 x19]) rfl
     clear hS1
     obtain ⟨x44, hx44, hm⟩ := hm_b hm
     refine O.val hf rfl rfl rfl (RunV.ixE T_elem_37 T_size_98 rfl rfl (hS.rdS (j := 1) rfl) hx44) ?_; clear hf a; intro a hf
     refine O.storeE (j := 1) (o := 0) (y0 := x43.1) (l' := x37.set (Int.toNat x39) x43.1) (M' := [slE 98 1 E98 s23 x43.2, slE 98 1 E98 s25 (x37.set (Int.toNat x39) x43.1), slE 98 1 E98 s20 x19]) hf hS rfl rfl rfl T_size_98 rfl rfl rfl E98_len hx44 rfl rfl rfl rfl ?_
     clear hS; intro w hS
     refine O.nil ?_
     refine k_blk_normal ?_
     refine k_seq ?_
     obtain ⟨x45, hx45, hm⟩ := hm_b hm
     rw [Option.some.inj hx45] at hf
     obtain ⟨x46, hx46, hm⟩ := hm_b hm
     rw [Option.some.inj hx46] at hf
     refine W.regionL (l := [0, 1, 2]) rfl ?_
     refine O.val hf rfl rfl rfl (RunV.move rfl) ?_; clear hf a; intro a hf
     refine O.val (v := Iv (IntKind.i64.wrap (x39 - 1))) hf rfl rfl rfl (RunV.sub rfl rfl) ?_; clear hf a; intro a hf
     refine O.val hf rfl rfl rfl (RunV.assign rfl) ?_; clear hf a; intro a hf
     refine O.nil ?_
     replace hS := hS.front (i := 2) (M' := [slE 98 1 E98 s20 x19, slE 98 1 E98 s23 x43.2, slE 98 1 E98 s25 (x37.set (Int.toNat x39) x43.1)]) rfl rfl
     replace hS := hS.front (i := 2) (M' := [slE 98 1 E98 s25 (x37.set (Int.toNat x39) x43.1), slE 98 1 E98 s20 x19, slE 98 1 E98 s23 x43.2]) rfl rfl
     refine k_then ⟨(k40, x37.set (Int.toNat x39) x43.1, x43.2, IntKind.i64.wrap (x39 - 1)), ⟨hf.to ⟨rfl, rfl, rfl, rfl, rfl, rfl, rfl, trivial⟩, hS, ?_⟩, Nat.lt_succ_self _⟩
     rw [hrec40] at hm; exact hm
    ·replace hm := hm_n hm hc41
     refine W.exit ?_
     refine k_then_exit ?_
     refine k_then_exit ?_
     refine k_blk ?_
     replace hS := hS.sub (N := [slE 98 1 E98 s25 x37, slE 98 1 E98 s23 x38]) (.cons_cons _ (.cons _ (.cons_cons _ .slnil)))
     exact k_then ⟨x37, x38, hf.to ⟨rfl, rfl, rfl, rfl, trivial⟩, hS, hm⟩
   ·clear hf hS hm a; try clear w
    rintro a w ⟨x26, x27, hf, hS, hm⟩
    unfold m_wide_divide_j1 at hm
    refine W.seq ?_
    refine W.regionL (l := [0, 1, 2, 3, 4, 5, 6, 7]) rfl ?_
    refine O.val hf rfl rfl rfl (RunV.move rfl) ?_; clear hf a; intro a hf
    obtain ⟨x28, hx28, hm⟩ := hm_b hm
    refine O.callR hf rfl rfl rfl (RunE.call (av := #[s23]) C_ok_54 rfl rfl rfl) (m_wide_trim_3_ok F s23 x27 _ (hS.slS (j := 1) rfl) x28 hx28) ?_
    clear hf a; rintro s29 w hS1 a hf
    replace hf : Fr a _ _ ((75, s29) :: _) := hf
    replace hS := (hS.callX1 hS1 (i := 1) rfl (fun _ h => h)).eqM (N := [slE 98 1 E98 s29 x28, slE 98 1 E98 s25 x26]) rfl
    clear hS1
    refine O.val hf rfl rfl rfl (RunV.move rfl) ?_; clear hf a; intro a hf
    obtain ⟨x30, hx30, hm⟩ := hm_b hm
    refine O.callR hf rfl rfl rfl (RunE.call (av := #[s29, Iv x18]) C_ok_57 rfl rfl rfl) (m_wide_right_ok F s29 x28 x18 _ (hS.rdS (j := 0) rfl) x30 hx30) ?_
    clear hf a; rintro s31 w hS1 a hf
    replace hf : Fr a _ _ ((77, .tuple #[s31, Bv x30.2]) :: _) := hf
    replace hS := (hS.call hS1).eqM (N := [slE 98 1 E98 s31 x30.1, slE 98 1 E98 s29 x28, slE 98 1 E98 s25 x26]) rfl
    clear hS1
    refine O.val hf rfl rfl rfl (RunV.move rfl) ?_; clear hf a; intro a hf
    refine O.val hf rfl rfl rfl (RunV.extract rfl rfl) ?_; clear hf a; intro a hf
    refine O.val hf rfl rfl rfl (RunV.extract rfl rfl) ?_; clear hf a; intro a hf
    refine O.val hf rfl rfl rfl (RunV.assign rfl) ?_; clear hf a; intro a hf
    refine O.nil ?_
    refine k_seq ?_
    replace hf : Fr a 84 [] [(4, s25), (5, s31)] := hf.to ⟨rfl, rfl, trivial⟩
    refine W.seq ?_
    refine W.regionL (l := [0, 1, 2, 3, 4, 5]) rfl ?_
    refine O.val hf rfl rfl rfl (RunV.move rfl) ?_; clear hf a; intro a hf
    obtain ⟨x32, hx32, hm⟩ := hm_b hm
    refine O.callR hf rfl rfl rfl (RunE.call (av := #[s25]) C_ok_54 rfl rfl rfl) (m_wide_trim_3_ok F s25 x26 _ (hS.slS (j := 2) rfl) x32 hx32) ?_
    clear hf a; rintro s33 w hS1 a hf
    replace hf : Fr a _ _ ((81, s33) :: _) := hf
    replace hS := (hS.callX1 hS1 (i := 2) rfl (fun _ h => h)).eqM (N := [slE 98 1 E98 s33 x32, slE 98 1 E98 s31 x30.1, slE 98 1 E98 s29 x28]) rfl
    clear hS1
    refine O.val hf rfl rfl rfl (RunV.move rfl) ?_; clear hf a; intro a hf
    obtain ⟨x34, hx34, hm⟩ := hm_b hm
    refine O.callR hf rfl rfl rfl (RunE.call (av := #[s31]) C_ok_54 rfl rfl rfl) (m_wide_trim_3_ok F s31 x30.1 _ (hS.slS (j := 1) rfl) x34 hx34) ?_
    clear hf a; rintro s35 w hS1 a hf
    replace hf : Fr a _ _ ((83, s35) :: _) := hf
    replace hS := (hS.callX1 hS1 (i := 1) rfl (fun _ h => h)).eqM (N := [slE 98 1 E98 s35 x34, slE 98 1 E98 s33 x32, slE 98 1 E98 s29 x28]) rfl
    clear hS1
    refine O.val hf rfl rfl rfl (RunV.assign rfl) ?_; clear hf a; intro a hf
    refine O.val hf rfl rfl rfl (RunV.assign rfl) ?_; clear hf a; intro a hf
    refine O.nil ?_
    refine k_seq ?_
    replace hf : Fr a 84 [] [(4, s33), (5, s35)] := hf.to ⟨rfl, rfl, trivial⟩
    refine W.ret ?_
    obtain rfl := Option.some.inj hm
    refine post2 hf rfl (ResOK.tmp rfl) (ResOK.tmp rfl) ?_
    replace hS := hS.front (i := 1) (M' := [slE 98 1 E98 s33 x32, slE 98 1 E98 s35 x34, slE 98 1 E98 s29 x28]) rfl rfl
    replace hS := hS.sub (N := [slE 98 1 E98 s33 x32, slE 98 1 E98 s35 x34]) (.cons_cons _ (.cons_cons _ (.cons _ .slnil)))
    exact ⟨(s33, s35), rfl, hS.noB⟩

def m_wide_Sqrt_j1 (F : Nat)  : Option (Bool × (List Int) × Int) :=
  some (false, ([] : List Int), 0)
def m_wide_Sqrt_b2 (F : Nat) (x10 : Int × Int) (x3 : List Int) (rec18 : (List Int) → Option (Bool × (List Int) × Int)) (x17 : List Int) : Option (Bool × (List Int) × Int) :=
  if x10.1 > (0 : Int) then ((m_wide_divide F x3 x17).bind fun x20 => (m_wide_plus F x20.1 x17).bind fun x23 => (m_wide_right F x23 1).bind fun x25 => (m_wide_trim_3 F x25.1).bind fun x27 => (m_wide_compare F x27 x17).bind fun x29 => if x29 ≥ (0 : Int) then ((m_wide_made_3 F false x17).bind fun x31 => some x31) else (rec18 x27)) else (m_wide_Sqrt_j1 F)
def m_wide_Sqrt_l2 (F : Nat) (x10 : Int × Int) (x3 : List Int) : Nat → (List Int) → Option (Bool × (List Int) × Int)
  | 0, _ => none
  | n + 1, x17 => m_wide_Sqrt_b2 F x10 x3 (m_wide_Sqrt_l2 F x10 x3 n) x17
def m_wide_Sqrt (F : Nat)  (x1 : Bool) (x3 : List Int) : Option (Bool × (List Int) × Int) :=
  (m_wide_check_2 F x1 x3).bind fun x7 => if x7 ≠ (0 : Int) then (some (false, ([] : List Int), x7)) else (if (x1) = true then (some (false, ([] : List Int), 2)) else ((m_wide_Bits F x1 x3).bind fun x10 => (m_wide_left F 1 (IntKind.i64.wrap (Int.tdiv (IntKind.i64.wrap (x10.1 + 1)) 2))).bind fun x12 => (m_wide_trim_3 F x12).bind fun x14 => m_wide_Sqrt_l2 F x10 x3 F x14))
set_option maxHeartbeats 1000000 in
set_option maxRecDepth 8000 in
theorem m_wide_Sqrt_ok (F : Nat)    (x1 : Bool) (s2 : Value) (x3 : List Int) (w0 : World) (h_s2 : rdEOK (hp w0) 1 E98 s2 x3) (r : Bool × (List Int) × Int) (hm : m_wide_Sqrt F x1 x3 = some r) :
    Ret Try.prog 27 #[.agg #[Bv x1, s2]] w0 (G := Value) (fun g1 => .tuple #[.agg #[Bv r.1, g1], Iv r.2.2]) (fun g1 w => St w0 w noX [] [slE 98 1 E98 g1 r.2.1]) := by
 unfold m_wide_Sqrt at hm
 refine ret_of_W (lv := [.agg #[Bv x1, s2]]) Try.func27 rfl rfl rfl (fun a hf => ?_)
 replace hf : Fr a 61 [] [(0, .agg #[Bv x1, s2])] := hf
 have hS : St w0 w0 noX [rdE 1 E98 s2 x3] [] := St.borrow (lendAll_cons (lendRd h_s2) lendAll_nil)
 refine W.seq ?_
 refine W.regionL (l := [0, 1, 2]) rfl ?_
 refine O.box (cs := #[Bv x1, s2]) hf hS rfl rfl rfl rfl ?_
 clear hf hS a; intro b4 w a hb4 hS hf
 refine O.alloc (cs := #[Bv false, .slice none 0 0]) hf hS rfl rfl T_zero_39 rfl ?_
 clear hf hS a; intro b5 w a hb5 hS hf
 refine O.val hf rfl rfl rfl (RunV.assign rfl) ?_; clear hf a; intro a hf
 refine O.nil ?_
 refine k_seq ?_
 replace hf : Fr a 61 [] [(1, Pv b4 0), (2, Pv b5 0), (3, Iv 0)] := hf.to ⟨rfl, rfl, rfl, trivial⟩
 refine W.seq ?_
 refine W.seq ?_
 refine W.regionL (l := [0, 1, 2, 3]) rfl ?_
 refine O.val hf rfl rfl rfl (RunV.loadN (cs' := #[Bv x1, s2]) T_agg_39 T_size_39 rfl (hS.ptAt (i := 1) rfl) (Nat.le_of_ble_eq_true rfl) rfl) ?_; clear hf a; intro a hf
 refine O.buildSlice (cs' := #[Bv x1, s2]) (zs := #[Bv false, .slice none 0 0]) hf hS rfl rfl T_elem_124 T_size_39 T_zero_39 rfl rfl rfl rfl rfl ?_
 clear hf hS a; intro b6 w a hb6 hS hf
 obtain ⟨x7, hx7, hm⟩ := hm_b hm
 refine O.callR hf rfl rfl rfl (RunE.call (av := #[.slice (some ⟨b6, 0, none⟩) 1 1]) C_ok_51 rfl rfl rfl) (m_wide_check_2_ok F b6 x1 s2 x3 _ (hS.rdB (j := 0) rfl) (hS.ptAt (i := 0) rfl) x7 hx7) ?_
 clear hf a; rintro _ w hS1 a hf
 replace hf : Fr a _ _ ((14, Iv x7) :: _) := hf
 replace hS := (hS.call hS1).eqM (N := [pt b6 (Cs #[Bv x1, s2] 39), pt b5 (Cs #[Bv false, .slice none 0 0] 39), pt b4 (Cs #[Bv x1, s2] 39)]) rfl
 clear hS1
 refine O.val hf rfl rfl rfl (RunV.assign rfl) ?_; clear hf a; intro a hf
 refine O.nil ?_
 refine k_seq ?_
 replace hf : Fr a 61 [] [(1, Pv b4 0), (2, Pv b5 0), (3, Iv 0), (4, Iv x7)] := hf.to ⟨rfl, rfl, rfl, rfl, trivial⟩
 refine W.seq ?_
 refine W.regionL (l := [0, 1]) rfl ?_
 refine O.val hf rfl rfl rfl (RunV.move rfl) ?_; clear hf a; intro a hf
 refine O.val (v := Bv (decide (x7 ≠ (0 : Int)))) hf rfl rfl rfl (RunV.neq rfl rfl) ?_; clear hf a; intro a hf
 refine O.nil ?_
 refine k_seq ?_
 replace hf : Fr a 61 [] [(1, Pv b4 0), (2, Pv b5 0), (3, Iv 0), (4, Iv x7), (16, Bv (decide (x7 ≠ (0 : Int))))] := hf.to ⟨rfl, rfl, rfl, rfl, rfl, trivial⟩
 refine W.ifdI hf rfl (fun hc8 => ?_) (fun hc8 => ?_)
 ·replace hm := hm_p hm hc8
  refine W.seq ?_
  refine W.regionL (l := [0, 1, 2, 3]) rfl ?_
  refine O.val (v := .agg #[Bv false, .slice none 0 0]) hf rfl rfl rfl (RunV.buildS (cs' := #[Bv false, .slice none 0 0]) T_places_39 T_zero_39 rfl (by kernel_rfl)) ?_; clear hf a; intro a hf
  refine O.val hf rfl rfl rfl (RunV.move rfl) ?_; clear hf a; intro a hf
  refine O.store (j := 1) (cs' := #[Bv false, .slice none 0 0]) (M' := [pt b6 (Cs #[Bv x1, s2] 39), pt b5 (Cs #[Bv false, .slice none 0 0] 39), pt b4 (Cs #[Bv x1, s2] 39)]) hf hS rfl rfl rfl T_size_39 rfl rfl rfl (Nat.le_of_ble_eq_true rfl) rfl rfl ?_
  clear hS; intro w hS
  refine O.val hf rfl rfl rfl (RunV.assign rfl) ?_; clear hf a; intro a hf
  refine O.nil ?_
  refine k_seq ?_
  replace hf : Fr a 61 [] [(1, Pv b4 0), (2, Pv b5 0), (3, Iv x7)] := hf.to ⟨rfl, rfl, rfl, trivial⟩
  refine W.ret ?_
  refine k_then_ret ?_
  replace hS := hS.nilE 98 1 E98
  obtain rfl := Option.some.inj hm
  refine post2 hf rfl (ResOK.cellN (cs' := #[Bv false, .slice none 0 0]) rfl T_agg_39 T_size_39 (hS.ptAt (i := 2) rfl) (Nat.le_of_ble_eq_true rfl) rfl) (ResOK.tmp rfl) ?_
  replace hS := hS.nilE 98 1 E98
  replace hS := hS.sub (N := [slE 98 1 E98 (.slice none 0 0) ([] : List Int)]) (.cons_cons _ (.cons _ (.cons _ (.cons _ (.cons _ .slnil)))))
  exact ⟨(.slice none 0 0), rfl, hS.noB⟩
 ·replace hm := hm_n hm hc8
  refine W.skip ?_
  refine k_seq ?_
  replace hf : Fr a 61 [] [(1, Pv b4 0), (2, Pv b5 0), (3, Iv 0)] := hf.to ⟨rfl, rfl, rfl, trivial⟩
  refine W.seq ?_
  refine W.seq ?_
  refine W.regionL (l := [0, 1]) rfl ?_
  refine O.val hf rfl rfl rfl (RunV.field T_field_39_0 rfl rfl) ?_; clear hf a; intro a hf
  refine O.val hf rfl rfl rfl (RunV.load1 T_agg_4 rfl (hS.ptAt (i := 2) rfl) rfl) ?_; clear hf a; intro a hf
  refine O.nil ?_
  refine k_seq ?_
  replace hf : Fr a 61 [] [(1, Pv b4 0), (2, Pv b5 0), (3, Iv 0), (20, Bv x1)] := hf.to ⟨rfl, rfl, rfl, rfl, trivial⟩
  refine W.if_ hf rfl (fun hc9 => ?_) (fun hc9 => ?_)
  ·replace hm := hm_t hm hc9
   refine W.seq ?_
   refine W.regionL (l := [0, 1, 2]) rfl ?_
   refine O.val (v := .agg #[Bv false, .slice none 0 0]) hf rfl rfl rfl (RunV.buildS (cs' := #[Bv false, .slice none 0 0]) T_places_39 T_zero_39 rfl (by kernel_rfl)) ?_; clear hf a; intro a hf
   refine O.store (j := 1) (cs' := #[Bv false, .slice none 0 0]) (M' := [pt b6 (Cs #[Bv x1, s2] 39), pt b5 (Cs #[Bv false, .slice none 0 0] 39), pt b4 (Cs #[Bv x1, s2] 39)]) hf hS rfl rfl rfl T_size_39 rfl rfl rfl (Nat.le_of_ble_eq_true rfl) rfl rfl ?_
   clear hS; intro w hS
   refine O.val hf rfl rfl rfl (RunV.assign rfl) ?_; clear hf a; intro a hf
   refine O.nil ?_
   refine k_seq ?_
   replace hf : Fr a 61 [] [(1, Pv b4 0), (2, Pv b5 0), (3, Iv 2)] := hf.to ⟨rfl, rfl, rfl, trivial⟩
   refine W.ret ?_
   refine k_then_ret ?_
   replace hS := hS.nilE 98 1 E98
   obtain rfl := Option.some.inj hm
   refine post2 hf rfl (ResOK.cellN (cs' := #[Bv false, .slice none 0 0]) rfl T_agg_39 T_size_39 (hS.ptAt (i := 2) rfl) (Nat.le_of_ble_eq_true rfl) rfl) (ResOK.tmp rfl) ?_
   replace hS := hS.nilE 98 1 E98
   replace hS := hS.sub (N := [slE 98 1 E98 (.slice none 0 0) ([] : List Int)]) (.cons_cons _ (.cons _ (.cons _ (.cons _ (.cons _ .slnil)))))
   exact ⟨(.slice none 0 0), rfl, hS.noB⟩
  ·replace hm := hm_f hm hc9
   refine W.skip ?_
   refine k_seq ?_
   replace hf : Fr a 61 [] [(1, Pv b4 0), (2, Pv b5 0), (3, Iv 0)] := hf.to ⟨rfl, rfl, rfl, trivial⟩
   refine W.seq ?_
   refine W.regionL (l := [0, 1, 2, 3, 4, 5, 6]) rfl ?_
   refine O.val hf rfl rfl rfl (RunV.loadN (cs' := #[Bv x1, s2]) T_agg_39 T_size_39 rfl (hS.ptAt (i := 2) rfl) (Nat.le_of_ble_eq_true rfl) rfl) ?_; clear hf a; intro a hf
   obtain ⟨x10, hx10, hm⟩ := hm_b hm
   refine O.callR hf rfl rfl rfl (RunE.call (av := #[.agg #[Bv x1, s2]]) C_ok_53 rfl rfl rfl) (m_wide_Bits_ok F x1 s2 x3 _ (hS.rdB (j := 0) rfl) x10 hx10) ?_
   clear hf a; rintro _ w hS1 a hf
   replace hf : Fr a _ _ ((24, .tuple #[Iv x10.1, Iv x10.2]) :: _) := hf
   replace hS := (hS.call hS1).eqM (N := [pt b6 (Cs #[Bv x1, s2] 39), pt b5 (Cs #[Bv false, .slice none 0 0] 39), pt b4 (Cs #[Bv x1, s2] 39)]) rfl
   clear hS1
   refine O.val hf rfl rfl rfl (RunV.move rfl) ?_; clear hf a; intro a hf
   refine O.val hf rfl rfl rfl (RunV.extract rfl rfl) ?_; clear hf a; intro a hf
   refine O.val hf rfl rfl rfl (RunV.extract rfl rfl) ?_; clear hf a; intro a hf
   refine O.val hf rfl rfl rfl (RunV.assign rfl) ?_; clear hf a; intro a hf
   refine O.val hf rfl rfl rfl (RunV.assign rfl) ?_; clear hf a; intro a hf
   refine O.nil ?_
   refine k_seq ?_
   replace hf : Fr a 61 [] [(1, Pv b4 0), (2, Pv b5 0), (3, Iv 0), (5, Iv x10.1)] := hf.to ⟨rfl, rfl, rfl, rfl, trivial⟩
   refine W.seq ?_
   refine W.regionL (l := [0, 1, 2, 3, 4, 5, 6]) rfl ?_
   refine O.buildSlice (cs' := #[.int .u32 1]) (zs := #[.int .u32 0]) hf hS rfl rfl T_elem_37 T_size_98 T_zero_98 rfl rfl rfl rfl rfl ?_
   clear hf hS a; intro b11 w a hb11 hS hf
   refine O.val hf rfl rfl rfl (RunV.move rfl) ?_; clear hf a; intro a hf
   refine O.val (v := Iv (IntKind.i64.wrap (x10.1 + 1))) hf rfl rfl rfl (RunV.add rfl rfl) ?_; clear hf a; intro a hf
   refine O.val (v := Iv (IntKind.i64.wrap (Int.tdiv (IntKind.i64.wrap (x10.1 + 1)) 2))) hf rfl rfl rfl (RunV.quo (q := 2) rfl rfl (by decide)) ?_; clear hf a; intro a hf
   obtain ⟨x12, hx12, hm⟩ := hm_b hm
   refine O.callR hf rfl rfl rfl (RunE.call (av := #[.slice (some ⟨b11, 0, none⟩) 1 1, Iv (IntKind.i64.wrap (Int.tdiv (IntKind.i64.wrap (x10.1 + 1)) 2))]) C_ok_55 rfl rfl rfl) (m_wide_left_ok F b11 1 (IntKind.i64.wrap (Int.tdiv (IntKind.i64.wrap (x10.1 + 1)) 2)) _ (hS.ptAt (i := 0) rfl) x12 hx12) ?_
   clear hf a; rintro s13 w hS1 a hf
   replace hf : Fr a _ _ ((31, s13) :: _) := hf
   replace hS := (hS.call hS1).eqM (N := [slE 98 1 E98 s13 x12, pt b11 (Cs #[.int .u32 1] 98), pt b6 (Cs #[Bv x1, s2] 39), pt b5 (Cs #[Bv false, .slice none 0 0] 39), pt b4 (Cs #[Bv x1, s2] 39)]) rfl
   clear hS1
   obtain ⟨x14, hx14, hm⟩ := hm_b hm
   refine O.callR hf rfl rfl rfl (RunE.call (av := #[s13]) C_ok_54 rfl rfl rfl) (m_wide_trim_3_ok F s13 x12 _ (hS.slS (j := 0) rfl) x14 hx14) ?_
   clear hf a; rintro s15 w hS1 a hf
   replace hf : Fr a _ _ ((32, s15) :: _) := hf
   replace hS := (hS.callX1 hS1 (i := 0) rfl (fun _ h => h)).eqM (N := [slE 98 1 E98 s15 x14, pt b11 (Cs #[.int .u32 1] 98), pt b6 (Cs #[Bv x1, s2] 39), pt b5 (Cs #[Bv false, .slice none 0 0] 39), pt b4 (Cs #[Bv x1, s2] 39)]) rfl
   clear hS1
   refine O.val hf rfl rfl rfl (RunV.assign rfl) ?_; clear hf a; intro a hf
   refine O.nil ?_
   refine k_seq ?_
   replace hf : Fr a 61 [] [(1, Pv b4 0), (2, Pv b5 0), (3, Iv 0), (5, Iv x10.1), (7, s15)] := hf.to ⟨rfl, rfl, rfl, rfl, rfl, trivial⟩
   refine W.seqR (fun a w => Fr a 61 [] [(2, Pv b5 0), (3, Iv 0)] ∧ St w0 w noX [rdE 1 E98 s2 x3] [pt b5 (Cs #[Bv false, .slice none 0 0] 39)] ∧ m_wide_Sqrt_j1 F = some r) ?_ ?_
   ·refine W.block ?_
    replace hS := hS.front (i := 3) (M' := [pt b5 (Cs #[Bv false, .slice none 0 0] 39), slE 98 1 E98 s15 x14, pt b11 (Cs #[.int .u32 1] 98), pt b6 (Cs #[Bv x1, s2] 39), pt b4 (Cs #[Bv x1, s2] 39)]) rfl rfl
    replace hS := hS.front (i := 4) (M' := [pt b4 (Cs #[Bv x1, s2] 39), pt b5 (Cs #[Bv false, .slice none 0 0] 39), slE 98 1 E98 s15 x14, pt b11 (Cs #[.int .u32 1] 98), pt b6 (Cs #[Bv x1, s2] 39)]) rfl rfl
    replace hS := hS.sub (N := [pt b4 (Cs #[Bv x1, s2] 39), pt b5 (Cs #[Bv false, .slice none 0 0] 39), slE 98 1 E98 s15 x14]) (.cons_cons _ (.cons_cons _ (.cons_cons _ (.cons _ (.cons _ .slnil)))))
    refine W.loop (G := Nat × Value × (List Int)) (fun g a w => match g with | (k18, s16, x17) => Fr a 61 [] [(1, Pv b4 0), (2, Pv b5 0), (3, Iv 0), (5, Iv x10.1), (7, s16)] ∧ St w0 w noX [rdE 1 E98 s2 x3] [pt b4 (Cs #[Bv x1, s2] 39), pt b5 (Cs #[Bv false, .slice none 0 0] 39), slE 98 1 E98 s16 x17] ∧ m_wide_Sqrt_l2 F x10 x3 k18 x17 = some r) (fun g => match g with | (k18, s16, x17) => k18) (F, s15, x14) ⟨hf.to ⟨rfl, rfl, rfl, rfl, rfl, trivial⟩, hS, hm⟩ ?_
    clear hf hS hm a; try clear w
    rintro ⟨k18, s16, x17⟩ a w ⟨hf, hS, hm⟩
    rcases k18 with _ | k18
    · exact absurd (show none = some r from hm) (by simp)
    replace hm : m_wide_Sqrt_b2 F x10 x3 (m_wide_Sqrt_l2 F x10 x3 k18) x17 = some r := hm
    obtain ⟨rec18, hrec18⟩ : ∃ f, f = m_wide_Sqrt_l2 F x10 x3 k18 := ⟨_, rfl⟩
    rw [← hrec18] at hm; unfold m_wide_Sqrt_b2 at hm
    refine W.seq ?_
    refine W.seq ?_
    refine W.regionL (l := [0, 1]) rfl ?_
    refine O.val hf rfl rfl rfl (RunV.move rfl) ?_; clear hf a; intro a hf
    refine O.val (v := Bv (decide (x10.1 > (0 : Int)))) hf rfl rfl rfl (RunV.gtr rfl rfl) ?_; clear hf a; intro a hf
    refine O.nil ?_
    refine k_seq ?_
    refine W.ifdI hf rfl (fun hc19 => ?_) (fun hc19 => ?_)
    ·replace hm := hm_p hm hc19
     refine W.skip ?_
     refine k_seq ?_
     refine W.block ?_
     refine W.seq ?_
     refine W.regionL (l := [0, 1, 2, 3, 4, 5, 6, 7, 8]) rfl ?_
     refine O.val hf rfl rfl rfl (RunV.field T_field_39_1 rfl rfl) ?_; clear hf a; intro a hf
     refine O.val hf rfl rfl rfl (RunV.load1 T_agg_37 rfl (hS.ptAt (i := 0) rfl) rfl) ?_; clear hf a; intro a hf
     refine O.val hf rfl rfl rfl (RunV.move rfl) ?_; clear hf a; intro a hf
     obtain ⟨x20, hx20, hm⟩ := hm_b hm
     refine O.callR hf rfl rfl rfl (RunE.call (av := #[s2, s16]) C_ok_56 rfl rfl rfl) (m_wide_divide_ok F s2 x3 s16 x17 _ (hS.rdB (j := 0) rfl) (hS.rdS (j := 2) rfl) x20 hx20) ?_
     clear hf a; rintro ⟨s21, s22⟩ w hS1 a hf
     replace hf : Fr a _ _ ((39, .tuple #[s21, s22]) :: _) := hf
     replace hS := (hS.call hS1).eqM (N := [slE 98 1 E98 s21 x20.1, slE 98 1 E98 s22 x20.2, pt b4 (Cs #[Bv x1, s2] 39), pt b5 (Cs #[Bv false, .slice none 0 0] 39), slE 98 1 E98 s16 x17]) rfl
     clear hS1
     refine O.val hf rfl rfl rfl (RunV.move rfl) ?_; clear hf a; intro a hf
     refine O.val hf rfl rfl rfl (RunV.extract rfl rfl) ?_; clear hf a; intro a hf
     refine O.val hf rfl rfl rfl (RunV.extract rfl rfl) ?_; clear hf a; intro a hf
     refine O.val hf rfl rfl rfl (RunV.assign rfl) ?_; clear hf a; intro a hf
     refine O.val hf rfl rfl rfl (RunV.assign rfl) ?_; clear hf a; intro a hf
     refine O.nil ?_
     refine k_seq ?_
     replace hf : Fr a 61 [] [(1, Pv b4 0), (2, Pv b5 0), (3, Iv 0), (5, Iv x10.1), (7, s16), (8, s21), (33, Iv x10.1), (34, Bv (decide (x10.1 > (0 : Int)))), (35, .tuple #[s21, s22]), (36, Pv b4 1), (37, s2), (38, s16), (39, .tuple #[s21, s22]), (40, s21), (41, s22)] := hf.to ⟨rfl, rfl, rfl, rfl, rfl, rfl, rfl, rfl, rfl, rfl, rfl, rfl, rfl, rfl, rfl, trivial⟩
     refine W.seq ?_
     refine W.regionL (l := [0, 1, 2, 3, 4, 5, 6, 7, 8]) rfl ?_
     refine O.val hf rfl rfl rfl (RunV.move rfl) ?_; clear hf a; intro a hf
     refine O.val hf rfl rfl rfl (RunV.move rfl) ?_; clear hf a; intro a hf
     obtain ⟨x23, hx23, hm⟩ := hm_b hm
     refine O.callR hf rfl rfl rfl (RunE.call (av := #[s21, s16]) C_ok_58 rfl rfl rfl) (m_wide_plus_ok F s21 x20.1 s16 x17 _ (hS.rdS (j := 0) rfl) (hS.rdS (j := 4) rfl) x23 hx23) ?_
     clear hf a; rintro s24 w hS1 a hf
     replace hf : Fr a _ _ ((45, s24) :: _) := hf
     replace hS := (hS.call hS1).eqM (N := [slE 98 1 E98 s24 x23, slE 98 1 E98 s21 x20.1, slE 98 1 E98 s22 x20.2, pt b4 (Cs #[Bv x1, s2] 39), pt b5 (Cs #[Bv false, .slice none 0 0] 39), slE 98 1 E98 s16 x17]) rfl
     clear hS1
     obtain ⟨x25, hx25, hm⟩ := hm_b hm
     refine O.callR hf rfl rfl rfl (RunE.call (av := #[s24, Iv 1]) C_ok_57 rfl rfl rfl) (m_wide_right_ok F s24 x23 1 _ (hS.rdS (j := 0) rfl) x25 hx25) ?_
     clear hf a; rintro s26 w hS1 a hf
     replace hf : Fr a _ _ ((46, .tuple #[s26, Bv x25.2]) :: _) := hf
     replace hS := (hS.call hS1).eqM (N := [slE 98 1 E98 s26 x25.1, slE 98 1 E98 s24 x23, slE 98 1 E98 s21 x20.1, slE 98 1 E98 s22 x20.2, pt b4 (Cs #[Bv x1, s2] 39), pt b5 (Cs #[Bv false, .slice none 0 0] 39), slE 98 1 E98 s16 x17]) rfl
     clear hS1
     refine O.val hf rfl rfl rfl (RunV.move rfl) ?_; clear hf a; intro a hf
     refine O.val hf rfl rfl rfl (RunV.extract rfl rfl) ?_; clear hf a; intro a hf
     refine O.val hf rfl rfl rfl (RunV.extract rfl rfl) ?_; clear hf a; intro a hf
     refine O.val hf rfl rfl rfl (RunV.assign rfl) ?_; clear hf a; intro a hf
     refine O.val hf rfl rfl rfl (RunV.assign rfl) ?_; clear hf a; intro a hf
     refine O.nil ?_
     refine k_seq ?_
     replace hf : Fr a 61 [] [(1, Pv b4 0), (2, Pv b5 0), (3, Iv 0), (5, Iv x10.1), (7, s16), (8, s21), (10, s26), (33, Iv x10.1), (34, Bv (decide (x10.1 > (0 : Int)))), (35, .tuple #[s21, s22]), (36, Pv b4 1), (37, s2), (38, s16), (39, .tuple #[s21, s22]), (40, s21), (41, s22), (42, .tuple #[s26, Bv x25.2]), (43, s21), (44, s16), (45, s24), (46, .tuple #[s26, Bv x25.2]), (47, s26), (48, Bv x25.2)] := hf.to ⟨rfl, rfl, rfl, rfl, rfl, rfl, rfl, rfl, rfl, rfl, rfl, rfl, rfl, rfl, rfl, rfl, rfl, rfl, rfl, rfl, rfl, rfl, rfl, trivial⟩
     refine W.seq ?_
     refine W.seq ?_
     refine W.regionL (l := [0, 1, 2]) rfl ?_
     refine O.val hf rfl rfl rfl (RunV.move rfl) ?_; clear hf a; intro a hf
     obtain ⟨x27, hx27, hm⟩ := hm_b hm
     refine O.callR hf rfl rfl rfl (RunE.call (av := #[s26]) C_ok_54 rfl rfl rfl) (m_wide_trim_3_ok F s26 x25.1 _ (hS.slS (j := 0) rfl) x27 hx27) ?_
     clear hf a; rintro s28 w hS1 a hf
     replace hf : Fr a _ _ ((50, s28) :: _) := hf
     replace hS := (hS.callX1 hS1 (i := 0) rfl (fun _ h => h)).eqM (N := [slE 98 1 E98 s28 x27, slE 98 1 E98 s24 x23, slE 98 1 E98 s21 x20.1, slE 98 1 E98 s22 x20.2, pt b4 (Cs #[Bv x1, s2] 39), pt b5 (Cs #[Bv false, .slice none 0 0] 39), slE 98 1 E98 s16 x17]) rfl
     clear hS1
     refine O.val hf rfl rfl rfl (RunV.assign rfl) ?_; clear hf a; intro a hf
     refine O.nil ?_
     refine k_seq ?_
     refine W.seq ?_
     refine W.regionL (l := [0, 1, 2, 3]) rfl ?_
     refine O.val hf rfl rfl rfl (RunV.move rfl) ?_; clear hf a; intro a hf
     refine O.val hf rfl rfl rfl (RunV.move rfl) ?_; clear hf a; intro a hf
     obtain ⟨x29, hx29, hm⟩ := hm_b hm
     refine O.callR hf rfl rfl rfl (RunE.call (av := #[s28, s16]) C_ok_59 rfl rfl rfl) (m_wide_compare_ok F s28 x27 s16 x17 _ (hS.rdS (j := 0) rfl) (hS.rdS (j := 6) rfl) x29 hx29) ?_
     clear hf a; rintro _ w hS1 a hf
     replace hf : Fr a _ _ ((53, Iv x29) :: _) := hf
     replace hS := (hS.call hS1).eqM (N := [slE 98 1 E98 s28 x27, slE 98 1 E98 s24 x23, slE 98 1 E98 s21 x20.1, slE 98 1 E98 s22 x20.2, pt b4 (Cs #[Bv x1, s2] 39), pt b5 (Cs #[Bv false, .slice none 0 0] 39), slE 98 1 E98 s16 x17]) rfl
     clear hS1
     refine O.val (v := Bv (decide (x29 ≥ (0 : Int)))) hf rfl rfl rfl (RunV.geq rfl rfl) ?_; clear hf a; intro a hf
     refine O.nil ?_
     refine k_seq ?_
     refine W.ifdI hf rfl (fun hc30 => ?_) (fun hc30 => ?_)
     ·replace hm := hm_p hm hc30
      refine W.seq ?_
      refine W.regionL (l := [0, 1, 2, 3, 4, 5]) rfl ?_
      refine O.val hf rfl rfl rfl (RunV.move rfl) ?_; clear hf a; intro a hf
      obtain ⟨x31, hx31, hm⟩ := hm_b hm
      refine O.callR hf rfl rfl rfl (RunE.call (av := #[Bv false, s16]) C_ok_60 rfl rfl rfl) (m_wide_made_3_ok F false s16 x17 _ (hS.slS (j := 6) rfl) x31 hx31) ?_
      clear hf a; rintro s32 w hS1 a hf
      replace hf : Fr a _ _ ((56, .tuple #[.agg #[Bv x31.1, s32], Iv x31.2.2]) :: _) := hf
      replace hS := (hS.callX1 hS1 (i := 6) rfl (fun _ h => h)).eqM (N := [slE 98 1 E98 s32 x31.2.1, slE 98 1 E98 s28 x27, slE 98 1 E98 s24 x23, slE 98 1 E98 s21 x20.1, slE 98 1 E98 s22 x20.2, pt b4 (Cs #[Bv x1, s2] 39), pt b5 (Cs #[Bv false, .slice none 0 0] 39)]) rfl
      clear hS1
      refine O.val hf rfl rfl rfl (RunV.extract rfl rfl) ?_; clear hf a; intro a hf
      refine O.val hf rfl rfl rfl (RunV.extract rfl rfl) ?_; clear hf a; intro a hf
      refine O.store (j := 6) (cs' := #[Bv x31.1, s32]) (M' := [slE 98 1 E98 s32 x31.2.1, slE 98 1 E98 s28 x27, slE 98 1 E98 s24 x23, slE 98 1 E98 s21 x20.1, slE 98 1 E98 s22 x20.2, pt b4 (Cs #[Bv x1, s2] 39), pt b5 (Cs #[Bv x31.1, s32] 39)]) hf hS rfl rfl rfl T_size_39 rfl (oneCells_cc rfl (oneCells_cc (rdEOK_one (hS.rdS (j := 0) rfl)) rfl)) rfl (Nat.le_of_ble_eq_true rfl) rfl rfl ?_
      clear hS; intro w hS
      refine O.val hf rfl rfl rfl (RunV.assign rfl) ?_; clear hf a; intro a hf
      refine O.nil ?_
      refine k_seq ?_
      refine W.ret ?_
      refine k_then_ret ?_
      refine k_blk_ret ?_
      refine k_then_ret ?_
      refine k_blk_ret ?_
      refine k_then_ret ?_
      obtain rfl := Option.some.inj hm
      refine post2 hf rfl (ResOK.cellN (cs' := #[Bv x31.1, s32]) rfl T_agg_39 T_size_39 (hS.ptAt (i := 6) rfl) (Nat.le_of_ble_eq_true rfl) rfl) (ResOK.tmp rfl) ?_
      replace hS := hS.sub (N := [slE 98 1 E98 s32 x31.2.1]) (.cons_cons _ (.cons _ (.cons _ (.cons _ (.cons _ (.cons _ (.cons _ .slnil)))))))
      exact ⟨s32, rfl, hS.noB⟩
     ·replace hm := hm_n hm hc30
      refine W.skip ?_
      refine k_seq ?_
      refine W.regionL (l := [0, 1]) rfl ?_
      refine O.val hf rfl rfl rfl (RunV.move rfl) ?_; clear hf a; intro a hf
      refine O.val hf rfl rfl rfl (RunV.assign rfl) ?_; clear hf a; intro a hf
      refine O.nil ?_
      refine k_blk_normal ?_
      replace hS := hS.front (i := 5) (M' := [pt b5 (Cs #[Bv false, .slice none 0 0] 39), slE 98 1 E98 s28 x27, slE 98 1 E98 s24 x23, slE 98 1 E98 s21 x20.1, slE 98 1 E98 s22 x20.2, pt b4 (Cs #[Bv x1, s2] 39), slE 98 1 E98 s16 x17]) rfl rfl
      replace hS := hS.front (i := 5) (M' := [pt b4 (Cs #[Bv x1, s2] 39), pt b5 (Cs #[Bv false, .slice none 0 0] 39), slE 98 1 E98 s28 x27, slE 98 1 E98 s24 x23, slE 98 1 E98 s21 x20.1, slE 98 1 E98 s22 x20.2, slE 98 1 E98 s16 x17]) rfl rfl
      replace hS := hS.sub (N := [pt b4 (Cs #[Bv x1, s2] 39), pt b5 (Cs #[Bv false, .slice none 0 0] 39), slE 98 1 E98 s28 x27]) (.cons_cons _ (.cons_cons _ (.cons_cons _ (.cons _ (.cons _ (.cons _ (.cons _ .slnil)))))))
      refine k_then ⟨(k18, s28, x27), ⟨hf.to ⟨rfl, rfl, rfl, rfl, rfl, trivial⟩, hS, ?_⟩, Nat.lt_succ_self _⟩
      rw [hrec18] at hm; exact hm
    ·replace hm := hm_n hm hc19
     refine W.exit ?_
     refine k_then_exit ?_
     refine k_then_exit ?_
     refine k_blk ?_
     replace hS := hS.sub (N := [pt b5 (Cs #[Bv false, .slice none 0 0] 39)]) (.cons _ (.cons_cons _ (.cons _ .slnil)))
     exact k_then ⟨hf.to ⟨rfl, rfl, trivial⟩, hS, hm⟩
   ·clear hf hS hm a; try clear w
    rintro a w ⟨hf, hS, hm⟩
    unfold m_wide_Sqrt_j1 at hm
    refine W.seq ?_
    refine W.regionL (l := [0, 1, 2]) rfl ?_
    refine O.val (v := .agg #[Bv false, .slice none 0 0]) hf rfl rfl rfl (RunV.buildS (cs' := #[Bv false, .slice none 0 0]) T_places_39 T_zero_39 rfl (by kernel_rfl)) ?_; clear hf a; intro a hf
    refine O.store (j := 0) (cs' := #[Bv false, .slice none 0 0]) (M' := [pt b5 (Cs #[Bv false, .slice none 0 0] 39)]) hf hS rfl rfl rfl T_size_39 rfl rfl rfl (Nat.le_of_ble_eq_true rfl) rfl rfl ?_
    clear hS; intro w hS
    refine O.val hf rfl rfl rfl (RunV.assign rfl) ?_; clear hf a; intro a hf
    refine O.nil ?_
    refine k_seq ?_
    replace hf : Fr a 61 [] [(2, Pv b5 0), (3, Iv 0)] := hf.to ⟨rfl, rfl, trivial⟩
    refine W.ret ?_
    replace hS := hS.nilE 98 1 E98
    obtain rfl := Option.some.inj hm
    refine post2 hf rfl (ResOK.cellN (cs' := #[Bv false, .slice none 0 0]) rfl T_agg_39 T_size_39 (hS.ptAt (i := 1) rfl) (Nat.le_of_ble_eq_true rfl) rfl) (ResOK.tmp rfl) ?_
    replace hS := hS.nilE 98 1 E98
    replace hS := hS.sub (N := [slE 98 1 E98 (.slice none 0 0) ([] : List Int)]) (.cons_cons _ (.cons _ (.cons _ .slnil)))
    exact ⟨(.slice none 0 0), rfl, hS.noB⟩

def m_wide_signed_to (F : Nat)  (x1 : Bool) (x3 : List Int) (x4 : Bool) (x6 : List Int) : Option Int :=
  if (x1 && (!x4)) = true then (some (-1)) else (if ((!x1) && x4) = true then (some 1) else (if (x1) = true then ((m_wide_compare F x6 x3).bind fun x14 => some x14) else ((m_wide_compare F x3 x6).bind fun x15 => some x15)))
set_option maxHeartbeats 1000000 in
set_option maxRecDepth 8000 in
theorem m_wide_signed_to_ok (F : Nat)    (x1 : Bool) (s2 : Value) (x3 : List Int) (x4 : Bool) (s5 : Value) (x6 : List Int) (w0 : World) (h_s2 : rdEOK (hp w0) 1 E98 s2 x3) (h_s5 : rdEOK (hp w0) 1 E98 s5 x6) (r : Int) (hm : m_wide_signed_to F x1 x3 x4 x6 = some r) :
    Ret Try.prog 61 #[.agg #[Bv x1, s2], .agg #[Bv x4, s5]] w0 (G := Unit) (fun _ => Iv r) (fun _ w => St w0 w noX [] []) := by
 unfold m_wide_signed_to at hm
 refine ret_of_W (lv := [.agg #[Bv x1, s2], .agg #[Bv x4, s5]]) Try.func61 rfl rfl rfl (fun a hf => ?_)
 replace hf : Fr a 34 [] [(0, .agg #[Bv x1, s2]), (1, .agg #[Bv x4, s5])] := hf
 have hS : St w0 w0 noX [rdE 1 E98 s2 x3, rdE 1 E98 s5 x6] [] := St.borrow (lendAll_cons (lendRd h_s2) (lendAll_cons (lendRd h_s5) lendAll_nil))
 refine W.seq ?_
 refine W.regionL (l := [0, 1, 2]) rfl ?_
 refine O.box (cs := #[Bv x1, s2]) hf hS rfl rfl rfl rfl ?_
 clear hf hS a; intro b7 w a hb7 hS hf
 refine O.box (cs := #[Bv x4, s5]) hf hS rfl rfl rfl rfl ?_
 clear hf hS a; intro b8 w a hb8 hS hf
 refine O.val hf rfl rfl rfl (RunV.assign rfl) ?_; clear hf a; intro a hf
 refine O.nil ?_
 refine k_seq ?_
 replace hf : Fr a 34 [] [(2, Pv b7 0), (3, Pv b8 0), (4, Iv 0)] := hf.to ⟨rfl, rfl, rfl, trivial⟩
 refine W.seq ?_
 refine W.block ?_
 refine W.seq ?_
 refine W.regionL (l := [0, 1, 2, 3, 4, 5, 6, 7]) rfl ?_
 refine O.val hf rfl rfl rfl (RunV.field T_field_107_0 rfl rfl) ?_; clear hf a; intro a hf
 refine O.val hf rfl rfl rfl (RunV.load1 T_agg_4 rfl (hS.ptAt (i := 1) rfl) rfl) ?_; clear hf a; intro a hf
 refine O.val hf rfl rfl rfl (RunV.move rfl) ?_; clear hf a; intro a hf
 refine O.cutN (l₁ := [3, 4, 5, 6]) (l₂ := _) (fun a w => Fr a 34 [] [(2, Pv b7 0), (3, Pv b8 0), (4, Iv 0), (12, Bv (x1 && (!x4)))] ∧ St w0 w noX [rdE 1 E98 s2 x3, rdE 1 E98 s5 x6] [pt b8 (Cs #[Bv x4, s5] 39), pt b7 (Cs #[Bv x1, s2] 107)]) rfl ?_ ?_
 ·rcases Bool.eq_false_or_eq_true (x1) with hb9 | hb9
  ·refine O.gvalB hf rfl rfl rfl hb9 rfl rfl (RunV.field T_field_39_0 rfl rfl) ?_; clear hf a; intro a hf
   refine O.gvalB hf rfl rfl rfl hb9 rfl rfl (RunV.load1 T_agg_4 rfl (hS.ptAt (i := 0) rfl) rfl) ?_; clear hf a; intro a hf
   refine O.gvalB (v := Bv (!x4)) hf rfl rfl rfl hb9 rfl rfl (RunV.not rfl) ?_; clear hf a; intro a hf
   refine O.val (v := Bv (x1 && (!x4))) hf rfl rfl rfl (RunV.pick rfl rfl rfl (by rw [hb9]; rfl)) ?_; clear hf a; intro a hf
   exact O.nil ⟨rfl, hf.to ⟨rfl, rfl, rfl, rfl, trivial⟩, hS⟩
  ·refine O.skipB hf rfl rfl rfl hb9 rfl ?_; clear hf a; intro a hf
   refine O.skipB hf rfl rfl rfl hb9 rfl ?_; clear hf a; intro a hf
   refine O.skipB hf rfl rfl rfl hb9 rfl ?_; clear hf a; intro a hf
   refine O.val (v := Bv (x1 && (!x4))) hf rfl rfl rfl (RunV.pick rfl rfl rfl (by rw [hb9]; rfl)) ?_; clear hf a; intro a hf
   exact O.nil ⟨rfl, hf.to ⟨rfl, rfl, rfl, rfl, trivial⟩, hS⟩
 clear hf hS a; try clear w
 rintro a w ⟨hf, hS⟩
 refine O.val hf rfl rfl rfl (RunV.assign rfl) ?_; clear hf a; intro a hf
 refine O.nil ?_
 refine k_seq ?_
 replace hf : Fr a 34 [] [(2, Pv b7 0), (3, Pv b8 0), (4, Iv 0), (5, Bv (x1 && (!x4)))] := hf.to ⟨rfl, rfl, rfl, rfl, trivial⟩
 refine W.if_ hf rfl (fun hc10 => ?_) (fun hc10 => ?_)
 ·replace hm := hm_t hm hc10
  refine W.seq ?_
  refine W.regionL (l := [0]) rfl ?_
  refine O.val hf rfl rfl rfl (RunV.assign rfl) ?_; clear hf a; intro a hf
  refine O.nil ?_
  refine k_seq ?_
  replace hf : Fr a 34 [] [(2, Pv b7 0), (3, Pv b8 0), (4, Iv (-1))] := hf.to ⟨rfl, rfl, rfl, trivial⟩
  refine W.ret ?_
  refine k_blk_ret ?_
  refine k_then_ret ?_
  obtain rfl := Option.some.inj hm
  refine post1 hf rfl (ResOK.tmp rfl) ?_
  replace hS := hS.sub (N := []) (.cons _ (.cons _ .slnil))
  exact ⟨(), rfl, hS.noB⟩
 ·replace hm := hm_f hm hc10
  refine W.seq ?_
  refine W.regionL (l := [0, 1, 2, 3, 4, 5, 6, 7]) rfl ?_
  refine O.val hf rfl rfl rfl (RunV.field T_field_107_0 rfl rfl) ?_; clear hf a; intro a hf
  refine O.val hf rfl rfl rfl (RunV.load1 T_agg_4 rfl (hS.ptAt (i := 1) rfl) rfl) ?_; clear hf a; intro a hf
  refine O.val (v := Bv (!x1)) hf rfl rfl rfl (RunV.not rfl) ?_; clear hf a; intro a hf
  refine O.val hf rfl rfl rfl (RunV.move rfl) ?_; clear hf a; intro a hf
  refine O.cutN (l₁ := [4, 5, 6]) (l₂ := _) (fun a w => Fr a 34 [] [(2, Pv b7 0), (3, Pv b8 0), (4, Iv 0), (20, Bv ((!x1) && x4))] ∧ St w0 w noX [rdE 1 E98 s2 x3, rdE 1 E98 s5 x6] [pt b8 (Cs #[Bv x4, s5] 39), pt b7 (Cs #[Bv x1, s2] 107)]) rfl ?_ ?_
  ·rcases Bool.eq_false_or_eq_true (!x1) with hb11 | hb11
   ·refine O.gvalB hf rfl rfl rfl hb11 rfl rfl (RunV.field T_field_39_0 rfl rfl) ?_; clear hf a; intro a hf
    refine O.gvalB hf rfl rfl rfl hb11 rfl rfl (RunV.load1 T_agg_4 rfl (hS.ptAt (i := 0) rfl) rfl) ?_; clear hf a; intro a hf
    refine O.val (v := Bv ((!x1) && x4)) hf rfl rfl rfl (RunV.pick rfl rfl rfl (by rw [hb11]; rfl)) ?_; clear hf a; intro a hf
    exact O.nil ⟨rfl, hf.to ⟨rfl, rfl, rfl, rfl, trivial⟩, hS⟩
   ·refine O.skipB hf rfl rfl rfl hb11 rfl ?_; clear hf a; intro a hf
    refine O.skipB hf rfl rfl rfl hb11 rfl ?_; clear hf a; intro a hf
    refine O.val (v := Bv ((!x1) && x4)) hf rfl rfl rfl (RunV.pick rfl rfl rfl (by rw [hb11]; rfl)) ?_; clear hf a; intro a hf
    exact O.nil ⟨rfl, hf.to ⟨rfl, rfl, rfl, rfl, trivial⟩, hS⟩
  clear hf hS a; try clear w
  rintro a w ⟨hf, hS⟩
  refine O.val hf rfl rfl rfl (RunV.assign rfl) ?_; clear hf a; intro a hf
  refine O.nil ?_
  refine k_seq ?_
  replace hf : Fr a 34 [] [(2, Pv b7 0), (3, Pv b8 0), (4, Iv 0), (13, Bv ((!x1) && x4))] := hf.to ⟨rfl, rfl, rfl, rfl, trivial⟩
  refine W.if_ hf rfl (fun hc12 => ?_) (fun hc12 => ?_)
  ·replace hm := hm_t hm hc12
   refine W.seq ?_
   refine W.regionL (l := [0]) rfl ?_
   refine O.val hf rfl rfl rfl (RunV.assign rfl) ?_; clear hf a; intro a hf
   refine O.nil ?_
   refine k_seq ?_
   replace hf : Fr a 34 [] [(2, Pv b7 0), (3, Pv b8 0), (4, Iv 1)] := hf.to ⟨rfl, rfl, rfl, trivial⟩
   refine W.ret ?_
   refine k_blk_ret ?_
   refine k_then_ret ?_
   obtain rfl := Option.some.inj hm
   refine post1 hf rfl (ResOK.tmp rfl) ?_
   replace hS := hS.sub (N := []) (.cons _ (.cons _ .slnil))
   exact ⟨(), rfl, hS.noB⟩
  ·replace hm := hm_f hm hc12
   refine W.seq ?_
   refine W.regionL (l := [0, 1, 2]) rfl ?_
   refine O.val hf rfl rfl rfl (RunV.field T_field_107_0 rfl rfl) ?_; clear hf a; intro a hf
   refine O.val hf rfl rfl rfl (RunV.load1 T_agg_4 rfl (hS.ptAt (i := 1) rfl) rfl) ?_; clear hf a; intro a hf
   refine O.val hf rfl rfl rfl (RunV.assign rfl) ?_; clear hf a; intro a hf
   refine O.nil ?_
   refine k_seq ?_
   replace hf : Fr a 34 [] [(2, Pv b7 0), (3, Pv b8 0), (4, Iv 0), (21, Bv x1)] := hf.to ⟨rfl, rfl, rfl, rfl, trivial⟩
   refine W.if_ hf rfl (fun hc13 => ?_) (fun hc13 => ?_)
   ·replace hm := hm_t hm hc13
    refine W.seq ?_
    refine W.regionL (l := [0, 1, 2, 3, 4, 5]) rfl ?_
    refine O.val hf rfl rfl rfl (RunV.field T_field_39_1 rfl rfl) ?_; clear hf a; intro a hf
    refine O.val hf rfl rfl rfl (RunV.load1 T_agg_37 rfl (hS.ptAt (i := 0) rfl) rfl) ?_; clear hf a; intro a hf
    refine O.val hf rfl rfl rfl (RunV.field T_field_107_1 rfl rfl) ?_; clear hf a; intro a hf
    refine O.val hf rfl rfl rfl (RunV.load1 T_agg_37 rfl (hS.ptAt (i := 1) rfl) rfl) ?_; clear hf a; intro a hf
    obtain ⟨x14, hx14, hm⟩ := hm_b hm
    refine O.callR hf rfl rfl rfl (RunE.call (av := #[s5, s2]) C_ok_59 rfl rfl rfl) (m_wide_compare_ok F s5 x6 s2 x3 _ (hS.rdB (j := 1) rfl) (hS.rdB (j := 0) rfl) x14 hx14) ?_
    clear hf a; rintro _ w hS1 a hf
    replace hf : Fr a _ _ ((28, Iv x14) :: _) := hf
    replace hS := (hS.call hS1).eqM (N := [pt b8 (Cs #[Bv x4, s5] 39), pt b7 (Cs #[Bv x1, s2] 107)]) rfl
    clear hS1
    refine O.val hf rfl rfl rfl (RunV.assign rfl) ?_; clear hf a; intro a hf
    refine O.nil ?_
    refine k_seq ?_
    replace hf : Fr a 34 [] [(2, Pv b7 0), (3, Pv b8 0), (4, Iv x14)] := hf.to ⟨rfl, rfl, rfl, trivial⟩
    refine W.ret ?_
    refine k_blk_ret ?_
    refine k_then_ret ?_
    obtain rfl := Option.some.inj hm
    refine post1 hf rfl (ResOK.tmp rfl) ?_
    replace hS := hS.sub (N := []) (.cons _ (.cons _ .slnil))
    exact ⟨(), rfl, hS.noB⟩
   ·replace hm := hm_f hm hc13
    refine W.skip ?_
    refine k_blk_normal ?_
    refine k_seq ?_
    replace hf : Fr a 34 [] [(2, Pv b7 0), (3, Pv b8 0), (4, Iv 0)] := hf.to ⟨rfl, rfl, rfl, trivial⟩
    refine W.seq ?_
    refine W.regionL (l := [0, 1, 2, 3, 4, 5]) rfl ?_
    refine O.val hf rfl rfl rfl (RunV.field T_field_107_1 rfl rfl) ?_; clear hf a; intro a hf
    refine O.val hf rfl rfl rfl (RunV.load1 T_agg_37 rfl (hS.ptAt (i := 1) rfl) rfl) ?_; clear hf a; intro a hf
    refine O.val hf rfl rfl rfl (RunV.field T_field_39_1 rfl rfl) ?_; clear hf a; intro a hf
    refine O.val hf rfl rfl rfl (RunV.load1 T_agg_37 rfl (hS.ptAt (i := 0) rfl) rfl) ?_; clear hf a; intro a hf
    obtain ⟨x15, hx15, hm⟩ := hm_b hm
    refine O.callR hf rfl rfl rfl (RunE.call (av := #[s2, s5]) C_ok_59 rfl rfl rfl) (m_wide_compare_ok F s2 x3 s5 x6 _ (hS.rdB (j := 0) rfl) (hS.rdB (j := 1) rfl) x15 hx15) ?_
    clear hf a; rintro _ w hS1 a hf
    replace hf : Fr a _ _ ((33, Iv x15) :: _) := hf
    replace hS := (hS.call hS1).eqM (N := [pt b8 (Cs #[Bv x4, s5] 39), pt b7 (Cs #[Bv x1, s2] 107)]) rfl
    clear hS1
    refine O.val hf rfl rfl rfl (RunV.assign rfl) ?_; clear hf a; intro a hf
    refine O.nil ?_
    refine k_seq ?_
    replace hf : Fr a 34 [] [(4, Iv x15)] := hf.to ⟨rfl, trivial⟩
    refine W.ret ?_
    obtain rfl := Option.some.inj hm
    refine post1 hf rfl (ResOK.tmp rfl) ?_
    replace hS := hS.sub (N := []) (.cons _ (.cons _ .slnil))
    exact ⟨(), rfl, hS.noB⟩

def m_wide_Cmp (F : Nat)  (x1 : Bool) (x3 : List Int) (x4 : Bool) (x6 : List Int) : Option (Int × Int) :=
  (m_wide_check F x1 x3 x4 x6).bind fun x10 => if x10 ≠ (0 : Int) then (some (0, x10)) else ((m_wide_signed_to F x1 x3 x4 x6).bind fun x12 => some (x12, 0))
set_option maxHeartbeats 1000000 in
set_option maxRecDepth 8000 in
theorem m_wide_Cmp_ok (F : Nat)    (x1 : Bool) (s2 : Value) (x3 : List Int) (x4 : Bool) (s5 : Value) (x6 : List Int) (w0 : World) (h_s2 : rdEOK (hp w0) 1 E98 s2 x3) (h_s5 : rdEOK (hp w0) 1 E98 s5 x6) (r : Int × Int) (hm : m_wide_Cmp F x1 x3 x4 x6 = some r) :
    Ret Try.prog 28 #[.agg #[Bv x1, s2], .agg #[Bv x4, s5]] w0 (G := Unit) (fun _ => .tuple #[Iv r.1, Iv r.2]) (fun _ w => St w0 w noX [] []) := by
 unfold m_wide_Cmp at hm
 refine ret_of_W (lv := [.agg #[Bv x1, s2], .agg #[Bv x4, s5]]) Try.func28 rfl rfl rfl (fun a hf => ?_)
 replace hf : Fr a 20 [] [(0, .agg #[Bv x1, s2]), (1, .agg #[Bv x4, s5])] := hf
 have hS : St w0 w0 noX [rdE 1 E98 s2 x3, rdE 1 E98 s5 x6] [] := St.borrow (lendAll_cons (lendRd h_s2) (lendAll_cons (lendRd h_s5) lendAll_nil))
 refine W.seq ?_
 refine W.regionL (l := [0, 1, 2, 3]) rfl ?_
 refine O.box (cs := #[Bv x1, s2]) hf hS rfl rfl rfl rfl ?_
 clear hf hS a; intro b7 w a hb7 hS hf
 refine O.box (cs := #[Bv x4, s5]) hf hS rfl rfl rfl rfl ?_
 clear hf hS a; intro b8 w a hb8 hS hf
 refine O.val hf rfl rfl rfl (RunV.assign rfl) ?_; clear hf a; intro a hf
 refine O.val hf rfl rfl rfl (RunV.assign rfl) ?_; clear hf a; intro a hf
 refine O.nil ?_
 refine k_seq ?_
 replace hf : Fr a 20 [] [(2, Pv b7 0), (3, Pv b8 0), (4, Iv 0), (5, Iv 0)] := hf.to ⟨rfl, rfl, rfl, rfl, trivial⟩
 refine W.seq ?_
 refine W.seq ?_
 refine W.regionL (l := [0, 1, 2, 3, 4]) rfl ?_
 refine O.val hf rfl rfl rfl (RunV.loadN (cs' := #[Bv x1, s2]) T_agg_39 T_size_39 rfl (hS.ptAt (i := 1) rfl) (Nat.le_of_ble_eq_true rfl) rfl) ?_; clear hf a; intro a hf
 refine O.val hf rfl rfl rfl (RunV.loadN (cs' := #[Bv x4, s5]) T_agg_39 T_size_39 rfl (hS.ptAt (i := 0) rfl) (Nat.le_of_ble_eq_true rfl) rfl) ?_; clear hf a; intro a hf
 refine O.buildSlice (cs' := #[Bv x1, s2, Bv x4, s5]) (zs := #[Bv false, .slice none 0 0, Bv false, .slice none 0 0]) hf hS rfl rfl T_elem_124 T_size_39 T_zero_39 rfl rfl rfl rfl rfl ?_
 clear hf hS a; intro b9 w a hb9 hS hf
 obtain ⟨x10, hx10, hm⟩ := hm_b hm
 refine O.callR hf rfl rfl rfl (RunE.call (av := #[.slice (some ⟨b9, 0, none⟩) 2 2]) C_ok_51 rfl rfl rfl) (m_wide_check_ok F b9 x1 s2 x3 x4 s5 x6 _ (hS.rdB (j := 0) rfl) (hS.rdB (j := 1) rfl) (hS.ptAt (i := 0) rfl) x10 hx10) ?_
 clear hf a; rintro _ w hS1 a hf
 replace hf : Fr a _ _ ((11, Iv x10) :: _) := hf
 replace hS := (hS.call hS1).eqM (N := [pt b9 (Cs #[Bv x1, s2, Bv x4, s5] 39), pt b8 (Cs #[Bv x4, s5] 39), pt b7 (Cs #[Bv x1, s2] 39)]) rfl
 clear hS1
 refine O.val hf rfl rfl rfl (RunV.assign rfl) ?_; clear hf a; intro a hf
 refine O.nil ?_
 refine k_seq ?_
 replace hf : Fr a 20 [] [(2, Pv b7 0), (3, Pv b8 0), (4, Iv 0), (5, Iv 0), (6, Iv x10)] := hf.to ⟨rfl, rfl, rfl, rfl, rfl, trivial⟩
 refine W.seq ?_
 refine W.regionL (l := [0, 1]) rfl ?_
 refine O.val hf rfl rfl rfl (RunV.move rfl) ?_; clear hf a; intro a hf
 refine O.val (v := Bv (decide (x10 ≠ (0 : Int)))) hf rfl rfl rfl (RunV.neq rfl rfl) ?_; clear hf a; intro a hf
 refine O.nil ?_
 refine k_seq ?_
 replace hf : Fr a 20 [] [(2, Pv b7 0), (3, Pv b8 0), (4, Iv 0), (5, Iv 0), (6, Iv x10), (13, Bv (decide (x10 ≠ (0 : Int))))] := hf.to ⟨rfl, rfl, rfl, rfl, rfl, rfl, trivial⟩
 refine W.ifdI hf rfl (fun hc11 => ?_) (fun hc11 => ?_)
 ·replace hm := hm_p hm hc11
  refine W.seq ?_
  refine W.regionL (l := [0, 1, 2]) rfl ?_
  refine O.val hf rfl rfl rfl (RunV.move rfl) ?_; clear hf a; intro a hf
  refine O.val hf rfl rfl rfl (RunV.assign rfl) ?_; clear hf a; intro a hf
  refine O.val hf rfl rfl rfl (RunV.assign rfl) ?_; clear hf a; intro a hf
  refine O.nil ?_
  refine k_seq ?_
  replace hf : Fr a 20 [] [(2, Pv b7 0), (3, Pv b8 0), (4, Iv 0), (5, Iv x10)] := hf.to ⟨rfl, rfl, rfl, rfl, trivial⟩
  refine W.ret ?_
  refine k_then_ret ?_
  obtain rfl := Option.some.inj hm
  refine post2 hf rfl (ResOK.tmp rfl) (ResOK.tmp rfl) ?_
  replace hS := hS.sub (N := []) (.cons _ (.cons _ (.cons _ .slnil)))
  exact ⟨(), rfl, hS.noB⟩
 ·replace hm := hm_n hm hc11
  refine W.skip ?_
  refine k_seq ?_
  replace hf : Fr a 20 [] [(2, Pv b7 0), (3, Pv b8 0), (4, Iv 0), (5, Iv 0)] := hf.to ⟨rfl, rfl, rfl, rfl, trivial⟩
  refine W.seq ?_
  refine W.regionL (l := [0, 1, 2]) rfl ?_
  refine O.val hf rfl rfl rfl (RunV.loadN (cs' := #[Bv x1, s2]) T_agg_39 T_size_39 rfl (hS.ptAt (i := 2) rfl) (Nat.le_of_ble_eq_true rfl) rfl) ?_; clear hf a; intro a hf
  refine O.val (v := .func (.func 61) #[.agg #[Bv x1, s2]] #[]) hf rfl rfl rfl (RunV.makeFunc rfl rfl rfl rfl) ?_; clear hf a; intro a hf
  refine O.val hf rfl rfl rfl (RunV.assign rfl) ?_; clear hf a; intro a hf
  refine O.nil ?_
  refine k_seq ?_
  replace hf : Fr a 20 [] [(3, Pv b8 0), (4, Iv 0), (5, Iv 0), (7, .func (.func 61) #[.agg #[Bv x1, s2]] #[])] := hf.to ⟨rfl, rfl, rfl, rfl, trivial⟩
  refine W.seq ?_
  refine W.regionL (l := [0, 1, 2, 3, 4]) rfl ?_
  refine O.val hf rfl rfl rfl (RunV.move rfl) ?_; clear hf a; intro a hf
  refine O.val hf rfl rfl rfl (RunV.loadN (cs' := #[Bv x4, s5]) T_agg_39 T_size_39 rfl (hS.ptAt (i := 1) rfl) (Nat.le_of_ble_eq_true rfl) rfl) ?_; clear hf a; intro a hf
  obtain ⟨x12, hx12, hm⟩ := hm_b hm
  refine O.callR hf rfl rfl rfl (RunE.call (av := #[.agg #[Bv x1, s2], .agg #[Bv x4, s5]]) C_ok_61 rfl rfl rfl) (m_wide_signed_to_ok F x1 s2 x3 x4 s5 x6 _ (hS.rdB (j := 0) rfl) (hS.rdB (j := 1) rfl) x12 hx12) ?_
  clear hf a; rintro _ w hS1 a hf
  replace hf : Fr a _ _ ((19, Iv x12) :: _) := hf
  replace hS := (hS.call hS1).eqM (N := [pt b9 (Cs #[Bv x1, s2, Bv x4, s5] 39), pt b8 (Cs #[Bv x4, s5] 39), pt b7 (Cs #[Bv x1, s2] 39)]) rfl
  clear hS1
  refine O.val hf rfl rfl rfl (RunV.assign rfl) ?_; clear hf a; intro a hf
  refine O.val hf rfl rfl rfl (RunV.assign rfl) ?_; clear hf a; intro a hf
  refine O.nil ?_
  refine k_seq ?_
  replace hf : Fr a 20 [] [(4, Iv x12), (5, Iv 0)] := hf.to ⟨rfl, rfl, trivial⟩
  refine W.ret ?_
  obtain rfl := Option.some.inj hm
  refine post2 hf rfl (ResOK.tmp rfl) (ResOK.tmp rfl) ?_
  replace hS := hS.sub (N := []) (.cons _ (.cons _ (.cons _ .slnil)))
  exact ⟨(), rfl, hS.noB⟩

def m_wide_DivMod_j1 (F : Nat) (x1 : Bool) (x4 : Bool) (x19 : List Int) (x21 : List Int) : Option (Bool × (List Int) × Bool × (List Int) × Int) :=
  (m_wide_made_3 F (!(x1 == x4)) x19).bind fun x22 => if x22.2.2 ≠ (0 : Int) then (some (false, ([] : List Int), false, ([] : List Int), x22.2.2)) else ((m_wide_made_3 F x4 x21).bind fun x25 => some (x22.1, x22.2.1, x25.1, x25.2.1, x25.2.2))
def m_wide_DivMod (F : Nat)  (x1 : Bool) (x3 : List Int) (x4 : Bool) (x6 : List Int) : Option (Bool × (List Int) × Bool × (List Int) × Int) :=
  (m_wide_check F x1 x3 x4 x6).bind fun x12 => if x12 ≠ (0 : Int) then (some (false, ([] : List Int), false, ([] : List Int), x12)) else (if (x6.length : Int) = (0 : Int) then (some (false, ([] : List Int), false, ([] : List Int), 18)) else ((m_wide_divide F x3 x6).bind fun x15 => if ((decide ((x15.2.length : Int) > (0 : Int))) && (!(x1 == x4))) = true then ((m_wide_plus F x15.1 ([1])).bind fun x31 => (m_wide_minus F x6 x15.2).bind fun x33 => m_wide_DivMod_j1 F x1 x4 x31 x33) else (m_wide_DivMod_j1 F x1 x4 x15.1 x15.2)))
set_option maxHeartbeats 1000000 in
set_option maxRecDepth 8000 in
theorem m_wide_DivMod_ok (F : Nat)    (x1 : Bool) (s2 : Value) (x3 : List Int) (x4 : Bool) (s5 : Value) (x6 : List Int) (w0 : World) (h_s2 : rdEOK (hp w0) 1 E98 s2 x3) (h_s5 : rdEOK (hp w0) 1 E98 s5 x6) (r : Bool × (List Int) × Bool × (List Int) × Int) (hm : m_wide_DivMod F x1 x3 x4 x6 = some r) :
    Ret Try.prog 31 #[.agg #[Bv x1, s2], .agg #[Bv x4, s5]] w0 (G := Value × Value) (fun (g1, g2) => .tuple #[.agg #[Bv r.1, g1], .agg #[Bv r.2.2.1, g2], Iv r.2.2.2.2]) (fun (g1, g2) w => St w0 w noX [] [slE 98 1 E98 g1 r.2.1, slE 98 1 E98 g2 r.2.2.2.1]) := by
 unfold m_wide_DivMod at hm
 refine ret_of_W (lv := [.agg #[Bv x1, s2], .agg #[Bv x4, s5]]) Try.func31 rfl rfl rfl (fun a hf => ?_)
 replace hf : Fr a 75 [] [(0, .agg #[Bv x1, s2]), (1, .agg #[Bv x4, s5])] := hf
 have hS : St w0 w0 noX [rdE 1 E98 s2 x3, rdE 1 E98 s5 x6] [] := St.borrow (lendAll_cons (lendRd h_s2) (lendAll_cons (lendRd h_s5) lendAll_nil))
 refine W.seq ?_
 refine W.regionL (l := [0, 1, 2, 3, 4]) rfl ?_
 refine O.box (cs := #[Bv x1, s2]) hf hS rfl rfl rfl rfl ?_
 clear hf hS a; intro b7 w a hb7 hS hf
 refine O.box (cs := #[Bv x4, s5]) hf hS rfl rfl rfl rfl ?_
 clear hf hS a; intro b8 w a hb8 hS hf
 refine O.alloc (cs := #[Bv false, .slice none 0 0]) hf hS rfl rfl T_zero_39 rfl ?_
 clear hf hS a; intro b9 w a hb9 hS hf
 refine O.alloc (cs := #[Bv false, .slice none 0 0]) hf hS rfl rfl T_zero_39 rfl ?_
 clear hf hS a; intro b10 w a hb10 hS hf
 refine O.val hf rfl rfl rfl (RunV.assign rfl) ?_; clear hf a; intro a hf
 refine O.nil ?_
 refine k_seq ?_
 replace hf : Fr a 75 [] [(2, Pv b7 0), (3, Pv b8 0), (4, Pv b9 0), (5, Pv b10 0), (6, Iv 0)] := hf.to ⟨rfl, rfl, rfl, rfl, rfl, trivial⟩
 refine W.seq ?_
 refine W.seq ?_
 refine W.regionL (l := [0, 1, 2, 3, 4]) rfl ?_
 refine O.val hf rfl rfl rfl (RunV.loadN (cs' := #[Bv x1, s2]) T_agg_39 T_size_39 rfl (hS.ptAt (i := 3) rfl) (Nat.le_of_ble_eq_true rfl) rfl) ?_; clear hf a; intro a hf
 refine O.val hf rfl rfl rfl (RunV.loadN (cs' := #[Bv x4, s5]) T_agg_39 T_size_39 rfl (hS.ptAt (i := 2) rfl) (Nat.le_of_ble_eq_true rfl) rfl) ?_; clear hf a; intro a hf
 refine O.buildSlice (cs' := #[Bv x1, s2, Bv x4, s5]) (zs := #[Bv false, .slice none 0 0, Bv false, .slice none 0 0]) hf hS rfl rfl T_elem_124 T_size_39 T_zero_39 rfl rfl rfl rfl rfl ?_
 clear hf hS a; intro b11 w a hb11 hS hf
 obtain ⟨x12, hx12, hm⟩ := hm_b hm
 refine O.callR hf rfl rfl rfl (RunE.call (av := #[.slice (some ⟨b11, 0, none⟩) 2 2]) C_ok_51 rfl rfl rfl) (m_wide_check_ok F b11 x1 s2 x3 x4 s5 x6 _ (hS.rdB (j := 0) rfl) (hS.rdB (j := 1) rfl) (hS.ptAt (i := 0) rfl) x12 hx12) ?_
 clear hf a; rintro _ w hS1 a hf
 replace hf : Fr a _ _ ((13, Iv x12) :: _) := hf
 replace hS := (hS.call hS1).eqM (N := [pt b11 (Cs #[Bv x1, s2, Bv x4, s5] 39), pt b10 (Cs #[Bv false, .slice none 0 0] 39), pt b9 (Cs #[Bv false, .slice none 0 0] 39), pt b8 (Cs #[Bv x4, s5] 39), pt b7 (Cs #[Bv x1, s2] 39)]) rfl
 clear hS1
 refine O.val hf rfl rfl rfl (RunV.assign rfl) ?_; clear hf a; intro a hf
 refine O.nil ?_
 refine k_seq ?_
 replace hf : Fr a 75 [] [(2, Pv b7 0), (3, Pv b8 0), (4, Pv b9 0), (5, Pv b10 0), (6, Iv 0), (7, Iv x12)] := hf.to ⟨rfl, rfl, rfl, rfl, rfl, rfl, trivial⟩
 refine W.seq ?_
 refine W.regionL (l := [0, 1]) rfl ?_
 refine O.val hf rfl rfl rfl (RunV.move rfl) ?_; clear hf a; intro a hf
 refine O.val (v := Bv (decide (x12 ≠ (0 : Int)))) hf rfl rfl rfl (RunV.neq rfl rfl) ?_; clear hf a; intro a hf
 refine O.nil ?_
 refine k_seq ?_
 replace hf : Fr a 75 [] [(2, Pv b7 0), (3, Pv b8 0), (4, Pv b9 0), (5, Pv b10 0), (6, Iv 0), (7, Iv x12), (15, Bv (decide (x12 ≠ (0 : Int))))] := hf.to ⟨rfl, rfl, rfl, rfl, rfl, rfl, rfl, trivial⟩
 refine W.ifdI hf rfl (fun hc13 => ?_) (fun hc13 => ?_)
 ·replace hm := hm_p hm hc13
  refine W.seq ?_
  refine W.regionL (l := [0, 1, 2, 3, 4, 5]) rfl ?_
  refine O.val (v := .agg #[Bv false, .slice none 0 0]) hf rfl rfl rfl (RunV.buildS (cs' := #[Bv false, .slice none 0 0]) T_places_39 T_zero_39 rfl (by kernel_rfl)) ?_; clear hf a; intro a hf
  refine O.val (v := .agg #[Bv false, .slice none 0 0]) hf rfl rfl rfl (RunV.buildS (cs' := #[Bv false, .slice none 0 0]) T_places_39 T_zero_39 rfl (by kernel_rfl)) ?_; clear hf a; intro a hf
  refine O.val hf rfl rfl rfl (RunV.move rfl) ?_; clear hf a; intro a hf
  refine O.store (j := 2) (cs' := #[Bv false, .slice none 0 0]) (M' := [pt b11 (Cs #[Bv x1, s2, Bv x4, s5] 39), pt b10 (Cs #[Bv false, .slice none 0 0] 39), pt b9 (Cs #[Bv false, .slice none 0 0] 39), pt b8 (Cs #[Bv x4, s5] 39), pt b7 (Cs #[Bv x1, s2] 39)]) hf hS rfl rfl rfl T_size_39 rfl rfl rfl (Nat.le_of_ble_eq_true rfl) rfl rfl ?_
  clear hS; intro w hS
  refine O.store (j := 1) (cs' := #[Bv false, .slice none 0 0]) (M' := [pt b11 (Cs #[Bv x1, s2, Bv x4, s5] 39), pt b10 (Cs #[Bv false, .slice none 0 0] 39), pt b9 (Cs #[Bv false, .slice none 0 0] 39), pt b8 (Cs #[Bv x4, s5] 39), pt b7 (Cs #[Bv x1, s2] 39)]) hf hS rfl rfl rfl T_size_39 rfl rfl rfl (Nat.le_of_ble_eq_true rfl) rfl rfl ?_
  clear hS; intro w hS
  refine O.val hf rfl rfl rfl (RunV.assign rfl) ?_; clear hf a; intro a hf
  refine O.nil ?_
  refine k_seq ?_
  replace hf : Fr a 75 [] [(2, Pv b7 0), (3, Pv b8 0), (4, Pv b9 0), (5, Pv b10 0), (6, Iv x12)] := hf.to ⟨rfl, rfl, rfl, rfl, rfl, trivial⟩
  refine W.ret ?_
  refine k_then_ret ?_
  replace hS := hS.nilE 98 1 E98
  replace hS := hS.nilE 98 1 E98
  obtain rfl := Option.some.inj hm
  refine post3 hf rfl (ResOK.cellN (cs' := #[Bv false, .slice none 0 0]) rfl T_agg_39 T_size_39 (hS.ptAt (i := 4) rfl) (Nat.le_of_ble_eq_true rfl) rfl) (ResOK.cellN (cs' := #[Bv false, .slice none 0 0]) rfl T_agg_39 T_size_39 (hS.ptAt (i := 3) rfl) (Nat.le_of_ble_eq_true rfl) rfl) (ResOK.tmp rfl) ?_
  replace hS := hS.nilE 98 1 E98
  replace hS := hS.nilE 98 1 E98
  replace hS := hS.sub (N := [slE 98 1 E98 (.slice none 0 0) ([] : List Int), slE 98 1 E98 (.slice none 0 0) ([] : List Int)]) (.cons_cons _ (.cons_cons _ (.cons _ (.cons _ (.cons _ (.cons _ (.cons _ (.cons _ (.cons _ .slnil)))))))))
  exact ⟨((.slice none 0 0), (.slice none 0 0)), rfl, hS.noB⟩
 ·replace hm := hm_n hm hc13
  refine W.skip ?_
  refine k_seq ?_
  replace hf : Fr a 75 [] [(2, Pv b7 0), (3, Pv b8 0), (4, Pv b9 0), (5, Pv b10 0), (6, Iv 0)] := hf.to ⟨rfl, rfl, rfl, rfl, rfl, trivial⟩
  refine W.seq ?_
  refine W.seq ?_
  refine W.regionL (l := [0, 1, 2, 3]) rfl ?_
  refine O.val hf rfl rfl rfl (RunV.field T_field_39_1 rfl rfl) ?_; clear hf a; intro a hf
  refine O.val hf rfl rfl rfl (RunV.load1 T_agg_37 rfl (hS.ptAt (i := 3) rfl) rfl) ?_; clear hf a; intro a hf
  refine O.val (v := Iv (x6.length : Int)) hf rfl rfl rfl (RunV.lenE (e := 98) (by simpa using T_elem_37) rfl (hS.rdB (j := 1) rfl)) ?_; clear hf a; intro a hf
  refine O.val (v := Bv (decide ((x6.length : Int) = (0 : Int)))) hf rfl rfl rfl (RunV.eql rfl rfl) ?_; clear hf a; intro a hf
  refine O.nil ?_
  refine k_seq ?_
  replace hf : Fr a 75 [] [(2, Pv b7 0), (3, Pv b8 0), (4, Pv b9 0), (5, Pv b10 0), (6, Iv 0), (22, Bv (decide ((x6.length : Int) = (0 : Int))))] := hf.to ⟨rfl, rfl, rfl, rfl, rfl, rfl, trivial⟩
  refine W.ifdI hf rfl (fun hc14 => ?_) (fun hc14 => ?_)
  ·replace hm := hm_p hm hc14
   refine W.seq ?_
   refine W.regionL (l := [0, 1, 2, 3, 4]) rfl ?_
   refine O.val (v := .agg #[Bv false, .slice none 0 0]) hf rfl rfl rfl (RunV.buildS (cs' := #[Bv false, .slice none 0 0]) T_places_39 T_zero_39 rfl (by kernel_rfl)) ?_; clear hf a; intro a hf
   refine O.val (v := .agg #[Bv false, .slice none 0 0]) hf rfl rfl rfl (RunV.buildS (cs' := #[Bv false, .slice none 0 0]) T_places_39 T_zero_39 rfl (by kernel_rfl)) ?_; clear hf a; intro a hf
   refine O.store (j := 2) (cs' := #[Bv false, .slice none 0 0]) (M' := [pt b11 (Cs #[Bv x1, s2, Bv x4, s5] 39), pt b10 (Cs #[Bv false, .slice none 0 0] 39), pt b9 (Cs #[Bv false, .slice none 0 0] 39), pt b8 (Cs #[Bv x4, s5] 39), pt b7 (Cs #[Bv x1, s2] 39)]) hf hS rfl rfl rfl T_size_39 rfl rfl rfl (Nat.le_of_ble_eq_true rfl) rfl rfl ?_
   clear hS; intro w hS
   refine O.store (j := 1) (cs' := #[Bv false, .slice none 0 0]) (M' := [pt b11 (Cs #[Bv x1, s2, Bv x4, s5] 39), pt b10 (Cs #[Bv false, .slice none 0 0] 39), pt b9 (Cs #[Bv false, .slice none 0 0] 39), pt b8 (Cs #[Bv x4, s5] 39), pt b7 (Cs #[Bv x1, s2] 39)]) hf hS rfl rfl rfl T_size_39 rfl rfl rfl (Nat.le_of_ble_eq_true rfl) rfl rfl ?_
   clear hS; intro w hS
   refine O.val hf rfl rfl rfl (RunV.assign rfl) ?_; clear hf a; intro a hf
   refine O.nil ?_
   refine k_seq ?_
   replace hf : Fr a 75 [] [(2, Pv b7 0), (3, Pv b8 0), (4, Pv b9 0), (5, Pv b10 0), (6, Iv 18)] := hf.to ⟨rfl, rfl, rfl, rfl, rfl, trivial⟩
   refine W.ret ?_
   refine k_then_ret ?_
   replace hS := hS.nilE 98 1 E98
   replace hS := hS.nilE 98 1 E98
   obtain rfl := Option.some.inj hm
   refine post3 hf rfl (ResOK.cellN (cs' := #[Bv false, .slice none 0 0]) rfl T_agg_39 T_size_39 (hS.ptAt (i := 4) rfl) (Nat.le_of_ble_eq_true rfl) rfl) (ResOK.cellN (cs' := #[Bv false, .slice none 0 0]) rfl T_agg_39 T_size_39 (hS.ptAt (i := 3) rfl) (Nat.le_of_ble_eq_true rfl) rfl) (ResOK.tmp rfl) ?_
   replace hS := hS.nilE 98 1 E98
   replace hS := hS.nilE 98 1 E98
   replace hS := hS.sub (N := [slE 98 1 E98 (.slice none 0 0) ([] : List Int), slE 98 1 E98 (.slice none 0 0) ([] : List Int)]) (.cons_cons _ (.cons_cons _ (.cons _ (.cons _ (.cons _ (.cons _ (.cons _ (.cons _ (.cons _ .slnil)))))))))
   exact ⟨((.slice none 0 0), (.slice none 0 0)), rfl, hS.noB⟩
  ·replace hm := hm_n hm hc14
   refine W.skip ?_
   refine k_seq ?_
   replace hf : Fr a 75 [] [(2, Pv b7 0), (3, Pv b8 0), (4, Pv b9 0), (5, Pv b10 0), (6, Iv 0)] := hf.to ⟨rfl, rfl, rfl, rfl, rfl, trivial⟩
   refine W.seq ?_
   refine W.regionL (l := [0, 1, 2, 3, 4, 5, 6, 7, 8, 9]) rfl ?_
   refine O.val hf rfl rfl rfl (RunV.field T_field_39_1 rfl rfl) ?_; clear hf a; intro a hf
   refine O.val hf rfl rfl rfl (RunV.load1 T_agg_37 rfl (hS.ptAt (i := 4) rfl) rfl) ?_; clear hf a; intro a hf
   refine O.val hf rfl rfl rfl (RunV.field T_field_39_1 rfl rfl) ?_; clear hf a; intro a hf
   refine O.val hf rfl rfl rfl (RunV.load1 T_agg_37 rfl (hS.ptAt (i := 3) rfl) rfl) ?_; clear hf a; intro a hf
   obtain ⟨x15, hx15, hm⟩ := hm_b hm
   refine O.callR hf rfl rfl rfl (RunE.call (av := #[s2, s5]) C_ok_56 rfl rfl rfl) (m_wide_divide_ok F s2 x3 s5 x6 _ (hS.rdB (j := 0) rfl) (hS.rdB (j := 1) rfl) x15 hx15) ?_
   clear hf a; rintro ⟨s16, s17⟩ w hS1 a hf
   replace hf : Fr a _ _ ((30, .tuple #[s16, s17]) :: _) := hf
   replace hS := (hS.call hS1).eqM (N := [slE 98 1 E98 s16 x15.1, slE 98 1 E98 s17 x15.2, pt b11 (Cs #[Bv x1, s2, Bv x4, s5] 39), pt b10 (Cs #[Bv false, .slice none 0 0] 39), pt b9 (Cs #[Bv false, .slice none 0 0] 39), pt b8 (Cs #[Bv x4, s5] 39), pt b7 (Cs #[Bv x1, s2] 39)]) rfl
   clear hS1
   refine O.val hf rfl rfl rfl (RunV.move rfl) ?_; clear hf a; intro a hf
   refine O.val hf rfl rfl rfl (RunV.extract rfl rfl) ?_; clear hf a; intro a hf
   refine O.val hf rfl rfl rfl (RunV.extract rfl rfl) ?_; clear hf a; intro a hf
   refine O.val hf rfl rfl rfl (RunV.assign rfl) ?_; clear hf a; intro a hf
   refine O.val hf rfl rfl rfl (RunV.assign rfl) ?_; clear hf a; intro a hf
   refine O.nil ?_
   refine k_seq ?_
   replace hf : Fr a 75 [] [(2, Pv b7 0), (3, Pv b8 0), (4, Pv b9 0), (5, Pv b10 0), (6, Iv 0), (8, s16), (9, s17)] := hf.to ⟨rfl, rfl, rfl, rfl, rfl, rfl, rfl, trivial⟩
   refine W.seqR (fun a w => ∃ (s18 : Value) (x19 : List Int) (s20 : Value) (x21 : List Int), Fr a 75 [] [(2, Pv b7 0), (3, Pv b8 0), (4, Pv b9 0), (5, Pv b10 0), (6, Iv 0), (8, s18), (9, s20)] ∧ St w0 w noX [rdE 1 E98 s2 x3, rdE 1 E98 s5 x6] [pt b7 (Cs #[Bv x1, s2] 39), pt b8 (Cs #[Bv x4, s5] 39), pt b9 (Cs #[Bv false, .slice none 0 0] 39), pt b10 (Cs #[Bv false, .slice none 0 0] 39), slE 98 1 E98 s18 x19, slE 98 1 E98 s20 x21] ∧ m_wide_DivMod_j1 F x1 x4 x19 x21 = some r) ?_ ?_
   ·refine W.seq ?_
    refine W.regionL (l := [0, 1, 2, 3, 4, 5, 6, 7, 8, 9]) rfl ?_
    refine O.val hf rfl rfl rfl (RunV.move rfl) ?_; clear hf a; intro a hf
    refine O.val (v := Iv (x15.2.length : Int)) hf rfl rfl rfl (RunV.lenE (e := 98) (by simpa using T_elem_37) rfl (hS.rdS (j := 1) rfl)) ?_; clear hf a; intro a hf
    refine O.val (v := Bv (decide ((x15.2.length : Int) > (0 : Int)))) hf rfl rfl rfl (RunV.gtr rfl rfl) ?_; clear hf a; intro a hf
    refine O.val hf rfl rfl rfl (RunV.move rfl) ?_; clear hf a; intro a hf
    refine O.cutN (l₁ := [4, 5, 6, 7, 8, 9]) (l₂ := _) (fun a w => Fr a 75 [] [(2, Pv b7 0), (3, Pv b8 0), (4, Pv b9 0), (5, Pv b10 0), (6, Iv 0), (8, s16), (9, s17), (42, Bv ((decide ((x15.2.length : Int) > (0 : Int))) && (!(x1 == x4))))] ∧ St w0 w noX [rdE 1 E98 s2 x3, rdE 1 E98 s5 x6] [slE 98 1 E98 s16 x15.1, slE 98 1 E98 s17 x15.2, pt b11 (Cs #[Bv x1, s2, Bv x4, s5] 39), pt b10 (Cs #[Bv false, .slice none 0 0] 39), pt b9 (Cs #[Bv false, .slice none 0 0] 39), pt b8 (Cs #[Bv x4, s5] 39), pt b7 (Cs #[Bv x1, s2] 39)]) rfl ?_ ?_
    ·rcases Bool.eq_false_or_eq_true (decide ((x15.2.length : Int) > (0 : Int))) with hb27 | hb27
     ·refine O.gvalB hf rfl rfl rfl hb27 rfl rfl (RunV.field T_field_39_0 rfl rfl) ?_; clear hf a; intro a hf
      refine O.gvalB hf rfl rfl rfl hb27 rfl rfl (RunV.load1 T_agg_4 rfl (hS.ptAt (i := 6) rfl) rfl) ?_; clear hf a; intro a hf
      refine O.gvalB hf rfl rfl rfl hb27 rfl rfl (RunV.field T_field_39_0 rfl rfl) ?_; clear hf a; intro a hf
      refine O.gvalB hf rfl rfl rfl hb27 rfl rfl (RunV.load1 T_agg_4 rfl (hS.ptAt (i := 5) rfl) rfl) ?_; clear hf a; intro a hf
      refine O.gvalB (v := Bv (!(x1 == x4))) hf rfl rfl rfl hb27 rfl rfl (RunV.neBool T_bool_4 rfl rfl) ?_; clear hf a; intro a hf
      refine O.val (v := Bv ((decide ((x15.2.length : Int) > (0 : Int))) && (!(x1 == x4)))) hf rfl rfl rfl (RunV.pick rfl rfl rfl (by rw [hb27]; rfl)) ?_; clear hf a; intro a hf
      exact O.nil ⟨rfl, hf.to ⟨rfl, rfl, rfl, rfl, rfl, rfl, rfl, rfl, trivial⟩, hS⟩
     ·refine O.skipB hf rfl rfl rfl hb27 rfl ?_; clear hf a; intro a hf
      refine O.skipB hf rfl rfl rfl hb27 rfl ?_; clear hf a; intro a hf
      refine O.skipB hf rfl rfl rfl hb27 rfl ?_; clear hf a; intro a hf
      refine O.skipB hf rfl rfl rfl hb27 rfl ?_; clear hf a; intro a hf
      refine O.skipB hf rfl rfl rfl hb27 rfl ?_; clear hf a; intro a hf
      refine O.val (v := Bv ((decide ((x15.2.length : Int) > (0 : Int))) && (!(x1 == x4)))) hf rfl rfl rfl (RunV.pick rfl rfl rfl (by rw [hb27]; rfl)) ?_; clear hf a; intro a hf
      exact O.nil ⟨rfl, hf.to ⟨rfl, rfl, rfl, rfl, rfl, rfl, rfl, rfl, trivial⟩, hS⟩
    clear hf hS a; try clear w
    rintro a w ⟨hf, hS⟩
    refine O.nil ?_
    refine k_seq ?_
    refine W.if_ hf rfl (fun hc28 => ?_) (fun hc28 => ?_)
    ·replace hm := hm_t hm hc28
     refine W.seq ?_
     refine W.regionL (l := [0, 1, 2, 3]) rfl ?_
     refine O.val hf rfl rfl rfl (RunV.move rfl) ?_; clear hf a; intro a hf
     refine O.buildSlice (cs' := #[.int .u32 1]) (zs := #[.int .u32 0]) hf hS rfl rfl T_elem_37 T_size_98 T_zero_98 rfl rfl rfl rfl rfl ?_
     clear hf hS a; intro b29 w a hb29 hS hf
     replace hS := hS.ptE (j := 0) (enc := E98) (xs := [1]) (N := 1) (M' := [slE 98 1 E98 (.slice (some ⟨b29, 0, none⟩) 1 1) ([1]), slE 98 1 E98 s16 x15.1, slE 98 1 E98 s17 x15.2, pt b11 (Cs #[Bv x1, s2, Bv x4, s5] 39), pt b10 (Cs #[Bv false, .slice none 0 0] 39), pt b9 (Cs #[Bv false, .slice none 0 0] 39), pt b8 (Cs #[Bv x4, s5] 39), pt b7 (Cs #[Bv x1, s2] 39)]) rfl rfl rfl rfl rfl rfl
     obtain ⟨s30, hs30⟩ : ∃ v, v = (.slice (some ⟨b29, 0, none⟩) 1 1 : Value) := ⟨_, rfl⟩
     rw [← hs30] at hf hS
     replace hS : St w0 _ noX [rdE 1 E98 s2 x3, rdE 1 E98 s5 x6] [slE 98 1 E98 s30 ([1]), slE 98 1 E98 s16 x15.1, slE 98 1 E98 s17 x15.2, pt b11 (Cs #[Bv x1, s2, Bv x4, s5] 39), pt b10 (Cs #[Bv false, .slice none 0 0] 39), pt b9 (Cs #[Bv false, .slice none 0 0] 39), pt b8 (Cs #[Bv x4, s5] 39), pt b7 (Cs #[Bv x1, s2] 39)] := hS
     replace hf : Fr a 75 [] [(2, Pv b7 0), (3, Pv b8 0), (4, Pv b9 0), (5, Pv b10 0), (6, Iv 0), (8, s16), (9, s17), (42, Bv ((decide ((x15.2.length : Int) > (0 : Int))) && (!(x1 == x4)))), (43, s16), (44, s30)] := hf.to ⟨rfl, rfl, rfl, rfl, rfl, rfl, rfl, rfl, rfl, rfl, trivial⟩
     obtain ⟨x31, hx31, hm⟩ := hm_b hm
     refine O.callR hf rfl rfl rfl (RunE.call (av := #[s16, s30]) C_ok_58 rfl rfl rfl) (m_wide_plus_ok F s16 x15.1 s30 ([1]) _ (hS.rdS (j := 1) rfl) (hS.rdS (j := 0) rfl) x31 hx31) ?_
     clear hf a; rintro s32 w hS1 a hf
     replace hf : Fr a _ _ ((45, s32) :: _) := hf
     replace hS := (hS.call hS1).eqM (N := [slE 98 1 E98 s32 x31, slE 98 1 E98 s30 ([1]), slE 98 1 E98 s16 x15.1, slE 98 1 E98 s17 x15.2, pt b11 (Cs #[Bv x1, s2, Bv x4, s5] 39), pt b10 (Cs #[Bv false, .slice none 0 0] 39), pt b9 (Cs #[Bv false, .slice none 0 0] 39), pt b8 (Cs #[Bv x4, s5] 39), pt b7 (Cs #[Bv x1, s2] 39)]) rfl
     clear hS1
     refine O.val hf rfl rfl rfl (RunV.assign rfl) ?_; clear hf a; intro a hf
     refine O.nil ?_
     refine k_seq ?_
     replace hf : Fr a 75 [] [(2, Pv b7 0), (3, Pv b8 0), (4, Pv b9 0), (5, Pv b10 0), (6, Iv 0), (8, s32), (9, s17)] := hf.to ⟨rfl, rfl, rfl, rfl, rfl, rfl, rfl, trivial⟩
     refine W.regionL (l := [0, 1, 2, 3, 4]) rfl ?_
     refine O.val hf rfl rfl rfl (RunV.field T_field_39_1 rfl rfl) ?_; clear hf a; intro a hf
     refine O.val hf rfl rfl rfl (RunV.load1 T_agg_37 rfl (hS.ptAt (i := 7) rfl) rfl) ?_; clear hf a; intro a hf
     refine O.val hf rfl rfl rfl (RunV.move rfl) ?_; clear hf a; intro a hf
     obtain ⟨x33, hx33, hm⟩ := hm_b hm
     refine O.callR hf rfl rfl rfl (RunE.call (av := #[s5, s17]) C_ok_63 rfl rfl rfl) (m_wide_minus_ok F s5 x6 s17 x15.2 _ (hS.rdB (j := 1) rfl) (hS.rdS (j := 3) rfl) x33 hx33) ?_
     clear hf a; rintro s34 w hS1 a hf
     replace hf : Fr a _ _ ((49, s34) :: _) := hf
     replace hS := (hS.call hS1).eqM (N := [slE 98 1 E98 s34 x33, slE 98 1 E98 s32 x31, slE 98 1 E98 s30 ([1]), slE 98 1 E98 s16 x15.1, slE 98 1 E98 s17 x15.2, pt b11 (Cs #[Bv x1, s2, Bv x4, s5] 39), pt b10 (Cs #[Bv false, .slice none 0 0] 39), pt b9 (Cs #[Bv false, .slice none 0 0] 39), pt b8 (Cs #[Bv x4, s5] 39), pt b7 (Cs #[Bv x1, s2] 39)]) rfl
     clear hS1
     refine O.val hf rfl rfl rfl (RunV.assign rfl) ?_; clear hf a; intro a hf
     refine O.nil ?_
     replace hS := hS.front (i := 1) (M' := [slE 98 1 E98 s32 x31, slE 98 1 E98 s34 x33, slE 98 1 E98 s30 ([1]), slE 98 1 E98 s16 x15.1, slE 98 1 E98 s17 x15.2, pt b11 (Cs #[Bv x1, s2, Bv x4, s5] 39), pt b10 (Cs #[Bv false, .slice none 0 0] 39), pt b9 (Cs #[Bv false, .slice none 0 0] 39), pt b8 (Cs #[Bv x4, s5] 39), pt b7 (Cs #[Bv x1, s2] 39)]) rfl rfl
     replace hS := hS.front (i := 6) (M' := [pt b10 (Cs #[Bv false, .slice none 0 0] 39), slE 98 1 E98 s32 x31, slE 98 1 E98 s34 x33, slE 98 1 E98 s30 ([1]), slE 98 1 E98 s16 x15.1, slE 98 1 E98 s17 x15.2, pt b11 (Cs #[Bv x1, s2, Bv x4, s5] 39), pt b9 (Cs #[Bv false, .slice none 0 0] 39), pt b8 (Cs #[Bv x4, s5] 39), pt b7 (Cs #[Bv x1, s2] 39)]) rfl rfl
     replace hS := hS.front (i := 7) (M' := [pt b9 (Cs #[Bv false, .slice none 0 0] 39), pt b10 (Cs #[Bv false, .slice none 0 0] 39), slE 98 1 E98 s32 x31, slE 98 1 E98 s34 x33, slE 98 1 E98 s30 ([1]), slE 98 1 E98 s16 x15.1, slE 98 1 E98 s17 x15.2, pt b11 (Cs #[Bv x1, s2, Bv x4, s5] 39), pt b8 (Cs #[Bv x4, s5] 39), pt b7 (Cs #[Bv x1, s2] 39)]) rfl rfl
     replace hS := hS.front (i := 8) (M' := [pt b8 (Cs #[Bv x4, s5] 39), pt b9 (Cs #[Bv false, .slice none 0 0] 39), pt b10 (Cs #[Bv false, .slice none 0 0] 39), slE 98 1 E98 s32 x31, slE 98 1 E98 s34 x33, slE 98 1 E98 s30 ([1]), slE 98 1 E98 s16 x15.1, slE 98 1 E98 s17 x15.2, pt b11 (Cs #[Bv x1, s2, Bv x4, s5] 39), pt b7 (Cs #[Bv x1, s2] 39)]) rfl rfl
     replace hS := hS.front (i := 9) (M' := [pt b7 (Cs #[Bv x1, s2] 39), pt b8 (Cs #[Bv x4, s5] 39), pt b9 (Cs #[Bv false, .slice none 0 0] 39), pt b10 (Cs #[Bv false, .slice none 0 0] 39), slE 98 1 E98 s32 x31, slE 98 1 E98 s34 x33, slE 98 1 E98 s30 ([1]), slE 98 1 E98 s16 x15.1, slE 98 1 E98 s17 x15.2, pt b11 (Cs #[Bv x1, s2, Bv x4, s5] 39)]) rfl rfl
     replace hS := hS.sub (N := [pt b7 (Cs #[Bv x1, s2] 39), pt b8 (Cs #[Bv x4, s5] 39), pt b9 (Cs #[Bv false, .slice none 0 0] 39), pt b10 (Cs #[Bv false, .slice none 0 0] 39), slE 98 1 E98 s32 x31, slE 98 1 E98 s34 x33]) (.cons_cons _ (.cons_cons _ (.cons_cons _ (.cons_cons _ (.cons_cons _ (.cons_cons _ (.cons _ (.cons _ (.cons _ (.cons _ .slnil))))))))))
     exact k_then ⟨s32, x31, s34, x33, hf.to ⟨rfl, rfl, rfl, rfl, rfl, rfl, rfl, trivial⟩, hS, hm⟩
    ·replace hm := hm_f hm hc28
     refine W.skip ?_
     replace hS := hS.front (i := 1) (M' := [slE 98 1 E98 s17 x15.2, slE 98 1 E98 s16 x15.1, pt b11 (Cs #[Bv x1, s2, Bv x4, s5] 39), pt b10 (Cs #[Bv false, .slice none 0 0] 39), pt b9 (Cs #[Bv false, .slice none 0 0] 39), pt b8 (Cs #[Bv x4, s5] 39), pt b7 (Cs #[Bv x1, s2] 39)]) rfl rfl
     replace hS := hS.front (i := 1) (M' := [slE 98 1 E98 s16 x15.1, slE 98 1 E98 s17 x15.2, pt b11 (Cs #[Bv x1, s2, Bv x4, s5] 39), pt b10 (Cs #[Bv false, .slice none 0 0] 39), pt b9 (Cs #[Bv false, .slice none 0 0] 39), pt b8 (Cs #[Bv x4, s5] 39), pt b7 (Cs #[Bv x1, s2] 39)]) rfl rfl
     replace hS := hS.front (i := 3) (M' := [pt b10 (Cs #[Bv false, .slice none 0 0] 39), slE 98 1 E98 s16 x15.1, slE 98 1 E98 s17 x15.2, pt b11 (Cs #[Bv x1, s2, Bv x4, s5] 39), pt b9 (Cs #[Bv false, .slice none 0 0] 39), pt b8 (Cs #[Bv x4, s5] 39), pt b7 (Cs #[Bv x1, s2] 39)]) rfl rfl
     replace hS := hS.front (i := 4) (M' := [pt b9 (Cs #[Bv false, .slice none 0 0] 39), pt b10 (Cs #[Bv false, .slice none 0 0] 39), slE 98 1 E98 s16 x15.1, slE 98 1 E98 s17 x15.2, pt b11 (Cs #[Bv x1, s2, Bv x4, s5] 39), pt b8 (Cs #[Bv x4, s5] 39), pt b7 (Cs #[Bv x1, s2] 39)]) rfl rfl
     replace hS := hS.front (i := 5) (M' := [pt b8 (Cs #[Bv x4, s5] 39), pt b9 (Cs #[Bv false, .slice none 0 0] 39), pt b10 (Cs #[Bv false, .slice none 0 0] 39), slE 98 1 E98 s16 x15.1, slE 98 1 E98 s17 x15.2, pt b11 (Cs #[Bv x1, s2, Bv x4, s5] 39), pt b7 (Cs #[Bv x1, s2] 39)]) rfl rfl
     replace hS := hS.front (i := 6) (M' := [pt b7 (Cs #[Bv x1, s2] 39), pt b8 (Cs #[Bv x4, s5] 39), pt b9 (Cs #[Bv false, .slice none 0 0] 39), pt b10 (Cs #[Bv false, .slice none 0 0] 39), slE 98 1 E98 s16 x15.1, slE 98 1 E98 s17 x15.2, pt b11 (Cs #[Bv x1, s2, Bv x4, s5] 39)]) rfl rfl
     replace hS := hS.sub (N := [pt b7 (Cs #[Bv x1, s2] 39), pt b8 (Cs #[Bv x4, s5] 39), pt b9 (Cs #[Bv false, .slice none 0 0] 39), pt b10 (Cs #[Bv false, .slice none 0 0] 39), slE 98 1 E98 s16 x15.1, slE 98 1 E98 s17 x15.2]) (.cons_cons _ (.cons_cons _ (.cons_cons _ (.cons_cons _ (.cons_cons _ (.cons_cons _ (.cons _ .slnil)))))))
     exact k_then ⟨s16, x15.1, s17, x15.2, hf.to ⟨rfl, rfl, rfl, rfl, rfl, rfl, rfl, trivial⟩, hS, hm⟩
   ·clear hf hS hm a; try clear w
    rintro a w ⟨s18, x19, s20, x21, hf, hS, hm⟩
    unfold m_wide_DivMod_j1 at hm
    refine W.seq ?_
    refine W.seq ?_
    refine W.regionL (l := [0, 1, 2, 3, 4, 5, 6, 7, 8, 9, 10, 11]) rfl ?_
    refine O.val hf rfl rfl rfl (RunV.field T_field_39_0 rfl rfl) ?_; clear hf a; intro a hf
    refine O.val hf rfl rfl rfl (RunV.load1 T_agg_4 rfl (hS.ptAt (i := 0) rfl) rfl) ?_; clear hf a; intro a hf
    refine O.val hf rfl rfl rfl (RunV.field T_field_39_0 rfl rfl) ?_; clear hf a; intro a hf
    refine O.val hf rfl rfl rfl (RunV.load1 T_agg_4 rfl (hS.ptAt (i := 1) rfl) rfl) ?_; clear hf a; intro a hf
    refine O.val (v := Bv (!(x1 == x4))) hf rfl rfl rfl (RunV.neBool T_bool_4 rfl rfl) ?_; clear hf a; intro a hf
    refine O.val hf rfl rfl rfl (RunV.move rfl) ?_; clear hf a; intro a hf
    obtain ⟨x22, hx22, hm⟩ := hm_b hm
    refine O.callR hf rfl rfl rfl (RunE.call (av := #[Bv (!(x1 == x4)), s18]) C_ok_60 rfl rfl rfl) (m_wide_made_3_ok F (!(x1 == x4)) s18 x19 _ (hS.slS (j := 4) rfl) x22 hx22) ?_
    clear hf a; rintro s23 w hS1 a hf
    replace hf : Fr a _ _ ((57, .tuple #[.agg #[Bv x22.1, s23], Iv x22.2.2]) :: _) := hf
    replace hS := (hS.callX1 hS1 (i := 4) rfl (fun _ h => h)).eqM (N := [slE 98 1 E98 s23 x22.2.1, pt b7 (Cs #[Bv x1, s2] 39), pt b8 (Cs #[Bv x4, s5] 39), pt b9 (Cs #[Bv false, .slice none 0 0] 39), pt b10 (Cs #[Bv false, .slice none 0 0] 39), slE 98 1 E98 s20 x21]) rfl
    clear hS1
    refine O.val hf rfl rfl rfl (RunV.move rfl) ?_; clear hf a; intro a hf
    refine O.val hf rfl rfl rfl (RunV.extract rfl rfl) ?_; clear hf a; intro a hf
    refine O.val hf rfl rfl rfl (RunV.extract rfl rfl) ?_; clear hf a; intro a hf
    refine O.store (j := 3) (cs' := #[Bv x22.1, s23]) (M' := [slE 98 1 E98 s23 x22.2.1, pt b7 (Cs #[Bv x1, s2] 39), pt b8 (Cs #[Bv x4, s5] 39), pt b9 (Cs #[Bv x22.1, s23] 39), pt b10 (Cs #[Bv false, .slice none 0 0] 39), slE 98 1 E98 s20 x21]) hf hS rfl rfl rfl T_size_39 rfl (oneCells_cc rfl (oneCells_cc (rdEOK_one (hS.rdS (j := 0) rfl)) rfl)) rfl (Nat.le_of_ble_eq_true rfl) rfl rfl ?_
    clear hS; intro w hS
    refine O.val hf rfl rfl rfl (RunV.assign rfl) ?_; clear hf a; intro a hf
    refine O.nil ?_
    refine k_seq ?_
    replace hf : Fr a 75 [] [(3, Pv b8 0), (4, Pv b9 0), (5, Pv b10 0), (6, Iv x22.2.2), (9, s20)] := hf.to ⟨rfl, rfl, rfl, rfl, rfl, trivial⟩
    refine W.seq ?_
    refine W.regionL (l := [0, 1]) rfl ?_
    refine O.val hf rfl rfl rfl (RunV.move rfl) ?_; clear hf a; intro a hf
    refine O.val (v := Bv (decide (x22.2.2 ≠ (0 : Int)))) hf rfl rfl rfl (RunV.neq rfl rfl) ?_; clear hf a; intro a hf
    refine O.nil ?_
    refine k_seq ?_
    replace hf : Fr a 75 [] [(3, Pv b8 0), (4, Pv b9 0), (5, Pv b10 0), (6, Iv x22.2.2), (9, s20), (61, Bv (decide (x22.2.2 ≠ (0 : Int))))] := hf.to ⟨rfl, rfl, rfl, rfl, rfl, rfl, trivial⟩
    refine W.ifdI hf rfl (fun hc24 => ?_) (fun hc24 => ?_)
    ·replace hm := hm_p hm hc24
     refine W.seq ?_
     refine W.regionL (l := [0, 1, 2, 3, 4, 5]) rfl ?_
     refine O.val (v := .agg #[Bv false, .slice none 0 0]) hf rfl rfl rfl (RunV.buildS (cs' := #[Bv false, .slice none 0 0]) T_places_39 T_zero_39 rfl (by kernel_rfl)) ?_; clear hf a; intro a hf
     refine O.val (v := .agg #[Bv false, .slice none 0 0]) hf rfl rfl rfl (RunV.buildS (cs' := #[Bv false, .slice none 0 0]) T_places_39 T_zero_39 rfl (by kernel_rfl)) ?_; clear hf a; intro a hf
     refine O.val hf rfl rfl rfl (RunV.move rfl) ?_; clear hf a; intro a hf
     refine O.store (j := 3) (cs' := #[Bv false, .slice none 0 0]) (M' := [slE 98 1 E98 s23 x22.2.1, pt b7 (Cs #[Bv x1, s2] 39), pt b8 (Cs #[Bv x4, s5] 39), pt b9 (Cs #[Bv false, .slice none 0 0] 39), pt b10 (Cs #[Bv false, .slice none 0 0] 39), slE 98 1 E98 s20 x21]) hf hS rfl rfl rfl T_size_39 rfl rfl rfl (Nat.le_of_ble_eq_true rfl) rfl rfl ?_
     clear hS; intro w hS
     refine O.store (j := 4) (cs' := #[Bv false, .slice none 0 0]) (M' := [slE 98 1 E98 s23 x22.2.1, pt b7 (Cs #[Bv x1, s2] 39), pt b8 (Cs #[Bv x4, s5] 39), pt b9 (Cs #[Bv false, .slice none 0 0] 39), pt b10 (Cs #[Bv false, .slice none 0 0] 39), slE 98 1 E98 s20 x21]) hf hS rfl rfl rfl T_size_39 rfl rfl rfl (Nat.le_of_ble_eq_true rfl) rfl rfl ?_
     clear hS; intro w hS
     refine O.val hf rfl rfl rfl (RunV.assign rfl) ?_; clear hf a; intro a hf
     refine O.nil ?_
     refine k_seq ?_
     replace hf : Fr a 75 [] [(3, Pv b8 0), (4, Pv b9 0), (5, Pv b10 0), (6, Iv x22.2.2), (9, s20)] := hf.to ⟨rfl, rfl, rfl, rfl, rfl, trivial⟩
     refine W.ret ?_
     refine k_then_ret ?_
     replace hS := hS.nilE 98 1 E98
     replace hS := hS.nilE 98 1 E98
     obtain rfl := Option.some.inj hm
     refine post3 hf rfl (ResOK.cellN (cs' := #[Bv false, .slice none 0 0]) rfl T_agg_39 T_size_39 (hS.ptAt (i := 5) rfl) (Nat.le_of_ble_eq_true rfl) rfl) (ResOK.cellN (cs' := #[Bv false, .slice none 0 0]) rfl T_agg_39 T_size_39 (hS.ptAt (i := 6) rfl) (Nat.le_of_ble_eq_true rfl) rfl) (ResOK.tmp rfl) ?_
     replace hS := hS.nilE 98 1 E98
     replace hS := hS.nilE 98 1 E98
     replace hS := hS.sub (N := [slE 98 1 E98 (.slice none 0 0) ([] : List Int), slE 98 1 E98 (.slice none 0 0) ([] : List Int)]) (.cons_cons _ (.cons_cons _ (.cons _ (.cons _ (.cons _ (.cons _ (.cons _ (.cons _ (.cons _ (.cons _ .slnil))))))))))
     exact ⟨((.slice none 0 0), (.slice none 0 0)), rfl, hS.noB⟩
    ·replace hm := hm_n hm hc24
     refine W.skip ?_
     refine k_seq ?_
     replace hf : Fr a 75 [] [(3, Pv b8 0), (4, Pv b9 0), (5, Pv b10 0), (6, Iv x22.2.2), (9, s20)] := hf.to ⟨rfl, rfl, rfl, rfl, rfl, trivial⟩
     refine W.seq ?_
     refine W.regionL (l := [0, 1, 2, 3, 4, 5, 6, 7, 8]) rfl ?_
     refine O.val hf rfl rfl rfl (RunV.field T_field_39_0 rfl rfl) ?_; clear hf a; intro a hf
     refine O.val hf rfl rfl rfl (RunV.load1 T_agg_4 rfl (hS.ptAt (i := 2) rfl) rfl) ?_; clear hf a; intro a hf
     refine O.val hf rfl rfl rfl (RunV.move rfl) ?_; clear hf a; intro a hf
     obtain ⟨x25, hx25, hm⟩ := hm_b hm
     refine O.callR hf rfl rfl rfl (RunE.call (av := #[Bv x4, s20]) C_ok_60 rfl rfl rfl) (m_wide_made_3_ok F x4 s20 x21 _ (hS.slS (j := 5) rfl) x25 hx25) ?_
     clear hf a; rintro s26 w hS1 a hf
     replace hf : Fr a _ _ ((69, .tuple #[.agg #[Bv x25.1, s26], Iv x25.2.2]) :: _) := hf
     replace hS := (hS.callX1 hS1 (i := 5) rfl (fun _ h => h)).eqM (N := [slE 98 1 E98 s26 x25.2.1, slE 98 1 E98 s23 x22.2.1, pt b7 (Cs #[Bv x1, s2] 39), pt b8 (Cs #[Bv x4, s5] 39), pt b9 (Cs #[Bv x22.1, s23] 39), pt b10 (Cs #[Bv false, .slice none 0 0] 39)]) rfl
     clear hS1
     refine O.val hf rfl rfl rfl (RunV.move rfl) ?_; clear hf a; intro a hf
     refine O.val hf rfl rfl rfl (RunV.extract rfl rfl) ?_; clear hf a; intro a hf
     refine O.val hf rfl rfl rfl (RunV.extract rfl rfl) ?_; clear hf a; intro a hf
     refine O.store (j := 5) (cs' := #[Bv x25.1, s26]) (M' := [slE 98 1 E98 s26 x25.2.1, slE 98 1 E98 s23 x22.2.1, pt b7 (Cs #[Bv x1, s2] 39), pt b8 (Cs #[Bv x4, s5] 39), pt b9 (Cs #[Bv x22.1, s23] 39), pt b10 (Cs #[Bv x25.1, s26] 39)]) hf hS rfl rfl rfl T_size_39 rfl (oneCells_cc rfl (oneCells_cc (rdEOK_one (hS.rdS (j := 0) rfl)) rfl)) rfl (Nat.le_of_ble_eq_true rfl) rfl rfl ?_
     clear hS; intro w hS
     refine O.val hf rfl rfl rfl (RunV.assign rfl) ?_; clear hf a; intro a hf
     refine O.nil ?_
     refine k_seq ?_
     replace hf : Fr a 75 [] [(4, Pv b9 0), (5, Pv b10 0), (6, Iv x25.2.2)] := hf.to ⟨rfl, rfl, rfl, trivial⟩
     refine W.seq ?_
     have hf1 : Fr a 75 [] [(6, Iv x25.2.2)] := hf.to ⟨rfl, trivial⟩
     replace hf : Fr a 75 [] [(4, Pv b9 0), (5, Pv b10 0)] := hf.to ⟨rfl, rfl, trivial⟩
     refine W.drawC (γ := Unit) (L0 := [(4, Pv b9 0), (5, Pv b10 0)]) (L1 := [(6, Iv x25.2.2)]) () [3, 4] [] [0, 1, 2, 5] (fun i => match i with | 3 => [0] | 4 => [0, 1, 3] | 5 => [0, 1, 2, 3, 4] | _ => []) (fun i => match i with | 4 => [3] | 5 => [3, 4] | _ => []) (fun i => match i with | 0 => [3, 4] | 1 => [4] | 3 => [4] | _ => []) (fun _ => []) (fun i => match i with | 3 => [4, 5] | 4 => [5] | _ => []) (fun i => match i with | 2 => [6] | _ => []) (fun i => match i with | 4 => 1 | 5 => 2 | _ => 0) (fun i => match i with | 1 => 1 | 2 => 2 | 3 => 1 | 4 => 2 | 5 => 2 | _ => 0) (fun (g : Unit) j => match j with | 0 => .agg #[Bv x22.1, s23] | 1 => .agg #[Bv x25.1, s26] | 2 => Iv x25.2.2 | 5 => Iv x25.2.2 | _ => undef) (fun k s (g : Unit) w => match k with | 0 => St w0 w noX [rdE 1 E98 s2 x3, rdE 1 E98 s5 x6] [slE 98 1 E98 s26 x25.2.1, slE 98 1 E98 s23 x22.2.1, pt b7 (Cs #[Bv x1, s2] 39), pt b8 (Cs #[Bv x4, s5] 39), pt b9 (Cs #[Bv x22.1, s23] 39), pt b10 (Cs #[Bv x25.1, s26] 39)] | 1 => St w0 w noX [rdE 1 E98 s2 x3, rdE 1 E98 s5 x6] [slE 98 1 E98 s26 x25.2.1, slE 98 1 E98 s23 x22.2.1, pt b7 (Cs #[Bv x1, s2] 39), pt b8 (Cs #[Bv x4, s5] 39), pt b9 (Cs #[Bv x22.1, s23] 39), pt b10 (Cs #[Bv x25.1, s26] 39)] | _ => St w0 w noX [rdE 1 E98 s2 x3, rdE 1 E98 s5 x6] [slE 98 1 E98 s26 x25.2.1, slE 98 1 E98 s23 x22.2.1, pt b7 (Cs #[Bv x1, s2] 39), pt b8 (Cs #[Bv x4, s5] 39), pt b9 (Cs #[Bv x22.1, s23] 39), pt b10 (Cs #[Bv x25.1, s26] 39)]) P_mixed (by kernel_rfl) (by kernel_rfl) (by kernel_rfl) hf hf1 hS.drew ?_ ?_ ?_ ?_
     ·clear hf hf1 hS
      refine ⟨?_, ?_, fun k s g w _ _ _ hD a hf => Q.val (v := Iv x25.2.2) rfl rfl rfl hD hf (RunV.move rfl), fun k s g w _ _ _ hD a hf => Q.val (v := Iv x25.2.2) rfl rfl rfl hD hf (RunV.assign rfl), trivial⟩
      ·intro k s g w h1_ h2_ hsp hD a hf
       rcases k with _ | k
       ·have hS : St w0 w noX [rdE 1 E98 s2 x3, rdE 1 E98 s5 x6] [slE 98 1 E98 s26 x25.2.1, slE 98 1 E98 s23 x22.2.1, pt b7 (Cs #[Bv x1, s2] 39), pt b8 (Cs #[Bv x4, s5] 39), pt b9 (Cs #[Bv x22.1, s23] 39), pt b10 (Cs #[Bv x25.1, s26] 39)] := hD; clear hD
        replace hf : Fr a 75 [] [(4, Pv b9 0), (5, Pv b10 0)] := hf
        exact Q.val (v := .agg #[Bv x22.1, s23]) rfl rfl rfl hS hf (RunV.loadN (cs' := #[Bv x22.1, s23]) T_agg_39 T_size_39 rfl (hS.ptAt (i := 4) rfl) (Nat.le_of_ble_eq_true rfl) rfl)
       ·exact absurd h2_ (by simp)
      ·intro k s g w h1_ h2_ hsp hD a hf
       rcases k with _ | _ | k
       ·have hS : St w0 w noX [rdE 1 E98 s2 x3, rdE 1 E98 s5 x6] [slE 98 1 E98 s26 x25.2.1, slE 98 1 E98 s23 x22.2.1, pt b7 (Cs #[Bv x1, s2] 39), pt b8 (Cs #[Bv x4, s5] 39), pt b9 (Cs #[Bv x22.1, s23] 39), pt b10 (Cs #[Bv x25.1, s26] 39)] := hD; clear hD
        replace hf : Fr a 75 [] [(4, Pv b9 0), (5, Pv b10 0)] := hf
        exact Q.val (v := .agg #[Bv x25.1, s26]) rfl rfl rfl hS hf (RunV.loadN (cs' := #[Bv x25.1, s26]) T_agg_39 T_size_39 rfl (hS.ptAt (i := 5) rfl) (Nat.le_of_ble_eq_true rfl) rfl)
       ·have hS : St w0 w noX [rdE 1 E98 s2 x3, rdE 1 E98 s5 x6] [slE 98 1 E98 s26 x25.2.1, slE 98 1 E98 s23 x22.2.1, pt b7 (Cs #[Bv x1, s2] 39), pt b8 (Cs #[Bv x4, s5] 39), pt b9 (Cs #[Bv x22.1, s23] 39), pt b10 (Cs #[Bv x25.1, s26] 39)] := hD; clear hD
        replace hf : Fr a 75 [] [(4, Pv b9 0), (5, Pv b10 0)] := hf
        exact Q.val (v := .agg #[Bv x25.1, s26]) rfl rfl rfl hS hf (RunV.loadN (cs' := #[Bv x25.1, s26]) T_agg_39 T_size_39 rfl (hS.ptAt (i := 5) rfl) (Nat.le_of_ble_eq_true rfl) rfl)
       ·exact absurd h2_ (by simp)
     ·clear hf hf1 hS
      refine ⟨?_, ?_, trivial⟩
      ·intro s g w hsp hD a hf
       have hS : St w0 w noX [rdE 1 E98 s2 x3, rdE 1 E98 s5 x6] [slE 98 1 E98 s26 x25.2.1, slE 98 1 E98 s23 x22.2.1, pt b7 (Cs #[Bv x1, s2] 39), pt b8 (Cs #[Bv x4, s5] 39), pt b9 (Cs #[Bv x22.1, s23] 39), pt b10 (Cs #[Bv x25.1, s26] 39)] := hD; clear hD
       replace hf : Fr a 75 [] [(72, .agg #[Bv x22.1, s23]), (4, Pv b9 0), (5, Pv b10 0)] := hf
       refine O.store (j := 4) (cs' := #[Bv x22.1, s23]) (M' := [slE 98 1 E98 s26 x25.2.1, slE 98 1 E98 s23 x22.2.1, pt b7 (Cs #[Bv x1, s2] 39), pt b8 (Cs #[Bv x4, s5] 39), pt b9 (Cs #[Bv x22.1, s23] 39), pt b10 (Cs #[Bv x25.1, s26] 39)]) hf hS rfl rfl rfl T_size_39 rfl (oneCells_cc rfl (oneCells_cc (rdEOK_one (hS.rdS (j := 1) rfl)) rfl)) rfl (Nat.le_of_ble_eq_true rfl) rfl rfl ?_
       clear hS; intro w hS
       exact O.nil ⟨rfl, (), hf.to trivial, (fun d hd => by cases (show none = some d from hd)), (fun _ _ _ => rfl), hS⟩
      ·intro s g w hsp hD a hf
       have hS : St w0 w noX [rdE 1 E98 s2 x3, rdE 1 E98 s5 x6] [slE 98 1 E98 s26 x25.2.1, slE 98 1 E98 s23 x22.2.1, pt b7 (Cs #[Bv x1, s2] 39), pt b8 (Cs #[Bv x4, s5] 39), pt b9 (Cs #[Bv x22.1, s23] 39), pt b10 (Cs #[Bv x25.1, s26] 39)] := hD; clear hD
       replace hf : Fr a 75 [] [(72, .agg #[Bv x22.1, s23]), (73, .agg #[Bv x25.1, s26]), (4, Pv b9 0), (5, Pv b10 0)] := hf
       refine O.store (j := 5) (cs' := #[Bv x25.1, s26]) (M' := [slE 98 1 E98 s26 x25.2.1, slE 98 1 E98 s23 x22.2.1, pt b7 (Cs #[Bv x1, s2] 39), pt b8 (Cs #[Bv x4, s5] 39), pt b9 (Cs #[Bv x22.1, s23] 39), pt b10 (Cs #[Bv x25.1, s26] 39)]) hf hS rfl rfl rfl T_size_39 rfl (oneCells_cc rfl (oneCells_cc (rdEOK_one (hS.rdS (j := 0) rfl)) rfl)) rfl (Nat.le_of_ble_eq_true rfl) rfl rfl ?_
       clear hS; intro w hS
       exact O.nil ⟨rfl, (), hf.to trivial, (fun d hd => by cases (show none = some d from hd)), (fun _ _ _ => rfl), hS⟩
     ·clear hf hf1 hS
      exact trivial
     clear hf hf1 hS; intro s g a w hs hf hD
     have hS : St w0 w noX [rdE 1 E98 s2 x3, rdE 1 E98 s5 x6] [slE 98 1 E98 s26 x25.2.1, slE 98 1 E98 s23 x22.2.1, pt b7 (Cs #[Bv x1, s2] 39), pt b8 (Cs #[Bv x4, s5] 39), pt b9 (Cs #[Bv x22.1, s23] 39), pt b10 (Cs #[Bv x25.1, s26] 39)] := hD; clear hD
     replace hf : Fr a 75 [] [(72, .agg #[Bv x22.1, s23]), (73, .agg #[Bv x25.1, s26]), (74, Iv x25.2.2), (6, Iv x25.2.2), (4, Pv b9 0), (5, Pv b10 0)] := hf
     refine k_seq ?_
     replace hf : Fr a 75 [] [(4, Pv b9 0), (5, Pv b10 0), (6, Iv x25.2.2)] := hf.to ⟨rfl, rfl, rfl, trivial⟩
     refine W.ret ?_
     obtain rfl := Option.some.inj hm
     refine post3 hf rfl (ResOK.cellN (cs' := #[Bv x22.1, s23]) rfl T_agg_39 T_size_39 (hS.ptAt (i := 4) rfl) (Nat.le_of_ble_eq_true rfl) rfl) (ResOK.cellN (cs' := #[Bv x25.1, s26]) rfl T_agg_39 T_size_39 (hS.ptAt (i := 5) rfl) (Nat.le_of_ble_eq_true rfl) rfl) (ResOK.tmp rfl) ?_
     replace hS := hS.front (i := 1) (M' := [slE 98 1 E98 s23 x22.2.1, slE 98 1 E98 s26 x25.2.1, pt b7 (Cs #[Bv x1, s2] 39), pt b8 (Cs #[Bv x4, s5] 39), pt b9 (Cs #[Bv x22.1, s23] 39), pt b10 (Cs #[Bv x25.1, s26] 39)]) rfl rfl
     replace hS := hS.sub (N := [slE 98 1 E98 s23 x22.2.1, slE 98 1 E98 s26 x25.2.1]) (.cons_cons _ (.cons_cons _ (.cons _ (.cons _ (.cons _ (.cons _ .slnil))))))
     exact ⟨(s23, s26), rfl, hS.noB⟩

def m_wide_Sign (F : Nat)  (x1 : Bool) (x3 : List Int) : Option (Int × Int) :=
  (m_wide_Cmp F x1 x3 false ([] : List Int)).bind fun x5 => some x5
set_option maxHeartbeats 1000000 in
set_option maxRecDepth 8000 in
theorem m_wide_Sign_ok (F : Nat)    (x1 : Bool) (s2 : Value) (x3 : List Int) (w0 : World) (h_s2 : rdEOK (hp w0) 1 E98 s2 x3) (r : Int × Int) (hm : m_wide_Sign F x1 x3 = some r) :
    Ret Try.prog 32 #[.agg #[Bv x1, s2]] w0 (G := Unit) (fun _ => .tuple #[Iv r.1, Iv r.2]) (fun _ w => St w0 w noX [] []) := by
 unfold m_wide_Sign at hm
 refine ret_of_W (lv := [.agg #[Bv x1, s2]]) Try.func32 rfl rfl rfl (fun a hf => ?_)
 replace hf : Fr a 9 [] [(0, .agg #[Bv x1, s2])] := hf
 have hS : St w0 w0 noX [rdE 1 E98 s2 x3] [] := St.borrow (lendAll_cons (lendRd h_s2) lendAll_nil)
 refine W.seq ?_
 refine W.regionL (l := [0, 1, 2]) rfl ?_
 refine O.box (cs := #[Bv x1, s2]) hf hS rfl rfl rfl rfl ?_
 clear hf hS a; intro b4 w a hb4 hS hf
 refine O.val hf rfl rfl rfl (RunV.assign rfl) ?_; clear hf a; intro a hf
 refine O.val hf rfl rfl rfl (RunV.assign rfl) ?_; clear hf a; intro a hf
 refine O.nil ?_
 refine k_seq ?_
 replace hf : Fr a 9 [] [(1, Pv b4 0), (2, Iv 0), (3, Iv 0)] := hf.to ⟨rfl, rfl, rfl, trivial⟩
 refine W.seq ?_
 refine W.regionL (l := [0, 1, 2, 3, 4, 5, 6]) rfl ?_
 refine O.val hf rfl rfl rfl (RunV.loadN (cs' := #[Bv x1, s2]) T_agg_39 T_size_39 rfl (hS.ptAt (i := 0) rfl) (Nat.le_of_ble_eq_true rfl) rfl) ?_; clear hf a; intro a hf
 refine O.val (v := .agg #[Bv false, .slice none 0 0]) hf rfl rfl rfl (RunV.buildS (cs' := #[Bv false, .slice none 0 0]) T_places_39 T_zero_39 rfl (by kernel_rfl)) ?_; clear hf a; intro a hf
 obtain ⟨x5, hx5, hm⟩ := hm_b hm
 refine O.callR hf rfl rfl rfl (RunE.call (av := #[.agg #[Bv x1, s2], .agg #[Bv false, .slice none 0 0]]) C_ok_28 rfl rfl rfl) (m_wide_Cmp_ok F x1 s2 x3 false (.slice none 0 0) ([] : List Int) _ (hS.rdB (j := 0) rfl) rdEOK_nil x5 hx5) ?_
 clear hf a; rintro _ w hS1 a hf
 replace hf : Fr a _ _ ((6, .tuple #[Iv x5.1, Iv x5.2]) :: _) := hf
 replace hS := (hS.call hS1).eqM (N := [pt b4 (Cs #[Bv x1, s2] 39)]) rfl
 clear hS1
 refine O.val hf rfl rfl rfl (RunV.extract rfl rfl) ?_; clear hf a; intro a hf
 refine O.val hf rfl rfl rfl (RunV.extract rfl rfl) ?_; clear hf a; intro a hf
 refine O.val hf rfl rfl rfl (RunV.assign rfl) ?_; clear hf a; intro a hf
 refine O.val hf rfl rfl rfl (RunV.assign rfl) ?_; clear hf a; intro a hf
 refine O.nil ?_
 refine k_seq ?_
 replace hf : Fr a 9 [] [(2, Iv x5.1), (3, Iv x5.2)] := hf.to ⟨rfl, rfl, trivial⟩
 refine W.ret ?_
 obtain rfl := Option.some.inj hm
 refine post2 hf rfl (ResOK.tmp rfl) (ResOK.tmp rfl) ?_
 replace hS := hS.sub (N := []) (.cons _ .slnil)
 exact ⟨(), rfl, hS.noB⟩

def m_wide_Int_j1 (F : Nat) (x1 : Bool) (x9 : Int) : Option (Int × Int) :=
  if (x1 && (decide (x9 ≤ (9223372036854775808 : Int)))) = true then ((some (IntKind.i64.wrap (IntKind.u64.wrap (0 - x9)))).bind fun x12 => some (x12, 0)) else (if ((!x1) && (decide (x9 < (9223372036854775808 : Int)))) = true then (some (IntKind.i64.wrap x9, 0)) else (some (0, 16)))
def m_wide_Int_b2 (F : Nat) (x3 : List Int) (x1 : Bool) (rec17 : Int → Int → Option (Int × Int)) (x15 : Int) (x16 : Int) : Option (Int × Int) :=
  if x16 < ((x3.length : Int) : Int) then ((idx x3 x16).bind fun x19 => if 0 ≤ (IntKind.i64.wrap (32 * x16)) then (some (IntKind.i64.wrap (32 * x16))).bind fun x21 => (some (IntKind.u64.wrap ((IntKind.u64.wrap x19) * 2 ^ (min (Int.toNat x21) (IntKind.bits .u64))))).bind fun x22 => (some (bitor .u64 x15 x22)).bind fun x23 => rec17 x23 (IntKind.i64.wrap (x16 + 1)) else none) else (m_wide_Int_j1 F x1 x15)
def m_wide_Int_l2 (F : Nat) (x3 : List Int) (x1 : Bool) : Nat → Int → Int → Option (Int × Int)
  | 0, _, _ => none
  | n + 1, x15, x16 => m_wide_Int_b2 F x3 x1 (m_wide_Int_l2 F x3 x1 n) x15 x16
def m_wide_Int (F : Nat)  (x1 : Bool) (x3 : List Int) : Option (Int × Int) :=
  (m_wide_check_2 F x1 x3).bind fun x6 => if x6 ≠ (0 : Int) then (some (0, x6)) else (if (x3.length : Int) > (2 : Int) then (some (0, 16)) else (m_wide_Int_l2 F x3 x1 F 0 0))
set_option maxHeartbeats 1000000 in
set_option maxRecDepth 8000 in
theorem m_wide_Int_ok (F : Nat)    (x1 : Bool) (s2 : Value) (x3 : List Int) (w0 : World) (h_s2 : rdEOK (hp w0) 1 E98 s2 x3) (r : Int × Int) (hm : m_wide_Int F x1 x3 = some r) :
    Ret Try.prog 33 #[.agg #[Bv x1, s2]] w0 (G := Unit) (fun _ => .tuple #[Iv r.1, Iv r.2]) (fun _ w => St w0 w noX [] []) := by
 unfold m_wide_Int at hm
 refine ret_of_W (lv := [.agg #[Bv x1, s2]]) Try.func33 rfl rfl rfl (fun a hf => ?_)
 replace hf : Fr a 54 [] [(0, .agg #[Bv x1, s2])] := hf
 have hS : St w0 w0 noX [rdE 1 E98 s2 x3] [] := St.borrow (lendAll_cons (lendRd h_s2) lendAll_nil)
 refine W.seq ?_
 refine W.regionL (l := [0, 1, 2]) rfl ?_
 refine O.box (cs := #[Bv x1, s2]) hf hS rfl rfl rfl rfl ?_
 clear hf hS a; intro b4 w a hb4 hS hf
 refine O.val hf rfl rfl rfl (RunV.assign rfl) ?_; clear hf a; intro a hf
 refine O.val hf rfl rfl rfl (RunV.assign rfl) ?_; clear hf a; intro a hf
 refine O.nil ?_
 refine k_seq ?_
 replace hf : Fr a 54 [] [(1, Pv b4 0), (2, Iv 0), (3, Iv 0)] := hf.to ⟨rfl, rfl, rfl, trivial⟩
 refine W.seq ?_
 refine W.seq ?_
 refine W.regionL (l := [0, 1, 2, 3]) rfl ?_
 refine O.val hf rfl rfl rfl (RunV.loadN (cs' := #[Bv x1, s2]) T_agg_39 T_size_39 rfl (hS.ptAt (i := 0) rfl) (Nat.le_of_ble_eq_true rfl) rfl) ?_; clear hf a; intro a hf
 refine O.buildSlice (cs' := #[Bv x1, s2]) (zs := #[Bv false, .slice none 0 0]) hf hS rfl rfl T_elem_124 T_size_39 T_zero_39 rfl rfl rfl rfl rfl ?_
 clear hf hS a; intro b5 w a hb5 hS hf
 obtain ⟨x6, hx6, hm⟩ := hm_b hm
 refine O.callR hf rfl rfl rfl (RunE.call (av := #[.slice (some ⟨b5, 0, none⟩) 1 1]) C_ok_51 rfl rfl rfl) (m_wide_check_2_ok F b5 x1 s2 x3 _ (hS.rdB (j := 0) rfl) (hS.ptAt (i := 0) rfl) x6 hx6) ?_
 clear hf a; rintro _ w hS1 a hf
 replace hf : Fr a _ _ ((10, Iv x6) :: _) := hf
 replace hS := (hS.call hS1).eqM (N := [pt b5 (Cs #[Bv x1, s2] 39), pt b4 (Cs #[Bv x1, s2] 39)]) rfl
 clear hS1
 refine O.val hf rfl rfl rfl (RunV.assign rfl) ?_; clear hf a; intro a hf
 refine O.nil ?_
 refine k_seq ?_
 replace hf : Fr a 54 [] [(1, Pv b4 0), (2, Iv 0), (3, Iv 0), (4, Iv x6)] := hf.to ⟨rfl, rfl, rfl, rfl, trivial⟩
 refine W.seq ?_
 refine W.regionL (l := [0, 1]) rfl ?_
 refine O.val hf rfl rfl rfl (RunV.move rfl) ?_; clear hf a; intro a hf
 refine O.val (v := Bv (decide (x6 ≠ (0 : Int)))) hf rfl rfl rfl (RunV.neq rfl rfl) ?_; clear hf a; intro a hf
 refine O.nil ?_
 refine k_seq ?_
 replace hf : Fr a 54 [] [(1, Pv b4 0), (2, Iv 0), (3, Iv 0), (4, Iv x6), (12, Bv (decide (x6 ≠ (0 : Int))))] := hf.to ⟨rfl, rfl, rfl, rfl, rfl, trivial⟩
 refine W.ifdI hf rfl (fun hc7 => ?_) (fun hc7 => ?_)
 ·replace hm := hm_p hm hc7
  refine W.seq ?_
  refine W.regionL (l := [0, 1, 2]) rfl ?_
  refine O.val hf rfl rfl rfl (RunV.move rfl) ?_; clear hf a; intro a hf
  refine O.val hf rfl rfl rfl (RunV.assign rfl) ?_; clear hf a; intro a hf
  refine O.val hf rfl rfl rfl (RunV.assign rfl) ?_; clear hf a; intro a hf
  refine O.nil ?_
  refine k_seq ?_
  replace hf : Fr a 54 [] [(1, Pv b4 0), (2, Iv 0), (3, Iv x6)] := hf.to ⟨rfl, rfl, rfl, trivial⟩
  refine W.ret ?_
  refine k_then_ret ?_
  obtain rfl := Option.some.inj hm
  refine post2 hf rfl (ResOK.tmp rfl) (ResOK.tmp rfl) ?_
  replace hS := hS.sub (N := []) (.cons _ (.cons _ .slnil))
  exact ⟨(), rfl, hS.noB⟩
 ·replace hm := hm_n hm hc7
  refine W.skip ?_
  refine k_seq ?_
  replace hf : Fr a 54 [] [(1, Pv b4 0), (2, Iv 0), (3, Iv 0)] := hf.to ⟨rfl, rfl, rfl, trivial⟩
  refine W.seq ?_
  refine W.seq ?_
  refine W.regionL (l := [0, 1, 2, 3]) rfl ?_
  refine O.val hf rfl rfl rfl (RunV.field T_field_39_1 rfl rfl) ?_; clear hf a; intro a hf
  refine O.val hf rfl rfl rfl (RunV.load1 T_agg_37 rfl (hS.ptAt (i := 1) rfl) rfl) ?_; clear hf a; intro a hf
  refine O.val (v := Iv (x3.length : Int)) hf rfl rfl rfl (RunV.lenE (e := 98) (by simpa using T_elem_37) rfl (hS.rdB (j := 0) rfl)) ?_; clear hf a; intro a hf
  refine O.val (v := Bv (decide ((x3.length : Int) > (2 : Int)))) hf rfl rfl rfl (RunV.gtr rfl rfl) ?_; clear hf a; intro a hf
  refine O.nil ?_
  refine k_seq ?_
  replace hf : Fr a 54 [] [(1, Pv b4 0), (2, Iv 0), (3, Iv 0), (17, Bv (decide ((x3.length : Int) > (2 : Int))))] := hf.to ⟨rfl, rfl, rfl, rfl, trivial⟩
  refine W.ifdI hf rfl (fun hc8 => ?_) (fun hc8 => ?_)
  ·replace hm := hm_p hm hc8
   refine W.seq ?_
   refine W.regionL (l := [0, 1]) rfl ?_
   refine O.val hf rfl rfl rfl (RunV.assign rfl) ?_; clear hf a; intro a hf
   refine O.val hf rfl rfl rfl (RunV.assign rfl) ?_; clear hf a; intro a hf
   refine O.nil ?_
   refine k_seq ?_
   replace hf : Fr a 54 [] [(1, Pv b4 0), (2, Iv 0), (3, Iv 16)] := hf.to ⟨rfl, rfl, rfl, trivial⟩
   refine W.ret ?_
   refine k_then_ret ?_
   obtain rfl := Option.some.inj hm
   refine post2 hf rfl (ResOK.tmp rfl) (ResOK.tmp rfl) ?_
   replace hS := hS.sub (N := []) (.cons _ (.cons _ .slnil))
   exact ⟨(), rfl, hS.noB⟩
  ·replace hm := hm_n hm hc8
   refine W.skip ?_
   refine k_seq ?_
   replace hf : Fr a 54 [] [(1, Pv b4 0), (2, Iv 0), (3, Iv 0)] := hf.to ⟨rfl, rfl, rfl, trivial⟩
   refine W.seq ?_
   refine W.regionL (l := [0]) rfl ?_
   refine O.val hf rfl rfl rfl (RunV.assign rfl) ?_; clear hf a; intro a hf
   refine O.nil ?_
   refine k_seq ?_
   refine W.seqR (fun a w => ∃ (x9 : Int), Fr a 54 [] [(1, Pv b4 0), (2, Iv 0), (3, Iv 0), (5, Uv x9)] ∧ St w0 w noX [rdE 1 E98 s2 x3] [pt b4 (Cs #[Bv x1, s2] 39)] ∧ m_wide_Int_j1 F x1 x9 = some r) ?_ ?_
   ·refine W.seq ?_
    refine W.regionL (l := [0, 1, 2, 3]) rfl ?_
    refine O.val hf rfl rfl rfl (RunV.field T_field_39_1 rfl rfl) ?_; clear hf a; intro a hf
    refine O.val hf rfl rfl rfl (RunV.load1 T_agg_37 rfl (hS.ptAt (i := 1) rfl) rfl) ?_; clear hf a; intro a hf
    refine O.val (v := Iv (x3.length : Int)) hf rfl rfl rfl (RunV.lenE (e := 98) (by simpa using T_elem_37) rfl (hS.rdB (j := 0) rfl)) ?_; clear hf a; intro a hf
    refine O.val hf rfl rfl rfl (RunV.move rfl) ?_; clear hf a; intro a hf
    refine O.nil ?_
    refine k_seq ?_
    replace hf : Fr a 54 [] [(1, Pv b4 0), (2, Iv 0), (3, Iv 0), (5, Uv 0), (19, s2), (20, Iv (x3.length : Int)), (21, Iv 0)] := hf.to ⟨rfl, rfl, rfl, rfl, rfl, rfl, rfl, trivial⟩
    refine W.block ?_
    replace hS := hS.sub (N := [pt b4 (Cs #[Bv x1, s2] 39)]) (.cons _ (.cons_cons _ .slnil))
    refine W.loop (G := Nat × Int × Int) (fun g a w => match g with | (k17, x15, x16) => Fr a 54 [] [(1, Pv b4 0), (2, Iv 0), (3, Iv 0), (5, Uv x15), (19, s2), (20, Iv (x3.length : Int)), (21, Iv x16)] ∧ St w0 w noX [rdE 1 E98 s2 x3] [pt b4 (Cs #[Bv x1, s2] 39)] ∧ m_wide_Int_l2 F x3 x1 k17 x15 x16 = some r) (fun g => match g with | (k17, x15, x16) => k17) (F, 0, 0) ⟨hf.to ⟨rfl, rfl, rfl, rfl, rfl, rfl, rfl, trivial⟩, hS, hm⟩ ?_
    clear hf hS hm a; try clear w
    rintro ⟨k17, x15, x16⟩ a w ⟨hf, hS, hm⟩
    rcases k17 with _ | k17
    · exact absurd (show none = some r from hm) (by simp)
    replace hm : m_wide_Int_b2 F x3 x1 (m_wide_Int_l2 F x3 x1 k17) x15 x16 = some r := hm
    obtain ⟨rec17, hrec17⟩ : ∃ f, f = m_wide_Int_l2 F x3 x1 k17 := ⟨_, rfl⟩
    rw [← hrec17] at hm; unfold m_wide_Int_b2 at hm
    refine W.seq ?_
    refine W.regionL (l := [0]) rfl ?_
    refine O.val (v := Bv (decide (x16 < ((x3.length : Int) : Int)))) hf rfl rfl rfl (RunV.lss rfl rfl) ?_; clear hf a; intro a hf
    refine O.nil ?_
    refine k_seq ?_
    refine W.seq ?_
    refine W.ifdI hf rfl (fun hc18 => ?_) (fun hc18 => ?_)
    ·replace hm := hm_p hm hc18
     refine W.skip ?_
     refine k_seq ?_
     refine W.seq ?_
     refine W.block ?_
     refine W.seq ?_
     refine W.regionL (l := [0, 1, 2, 3, 4]) rfl ?_
     refine O.val hf rfl rfl rfl (RunV.move rfl) ?_; clear hf a; intro a hf
     obtain ⟨x19, hx19, hm⟩ := hm_b hm
     refine O.val hf rfl rfl rfl (RunV.ixE T_elem_37 T_size_98 rfl rfl (hS.rdB (j := 0) rfl) hx19) ?_; clear hf a; intro a hf
     refine O.val hf rfl rfl rfl (RunV.ldE1 (o := 0) T_agg_98 E98_len rfl (hS.rdB (j := 0) rfl) hx19 rfl rfl) ?_; clear hf a; intro a hf
     refine O.val hf rfl rfl rfl (RunV.assign rfl) ?_; clear hf a; intro a hf
     refine O.val hf rfl rfl rfl (RunV.assign rfl) ?_; clear hf a; intro a hf
     refine O.nil ?_
     refine k_seq ?_
     refine W.regionL (l := [0, 1, 2, 3, 4, 5, 6, 7]) rfl ?_
     refine O.val hf rfl rfl rfl (RunV.move rfl) ?_; clear hf a; intro a hf
     refine O.val hf rfl rfl rfl (RunV.move rfl) ?_; clear hf a; intro a hf
     refine O.val (v := Uv (IntKind.u64.wrap x19)) hf rfl rfl rfl (RunV.conv T_und_98 T_int_108 rfl) ?_; clear hf a; intro a hf
     refine O.val hf rfl rfl rfl (RunV.move rfl) ?_; clear hf a; intro a hf
     refine O.val (v := Iv (IntKind.i64.wrap (32 * x16))) hf rfl rfl rfl (RunV.mul rfl rfl) ?_; clear hf a; intro a hf
     obtain ⟨hg20, hm⟩ := hm_g hm
     refine O.val (v := Uv (IntKind.u64.wrap ((IntKind.u64.wrap x19) * 2 ^ (min (Int.toNat (IntKind.i64.wrap (32 * x16))) (IntKind.bits .u64))))) hf rfl rfl rfl (RunV.shl rfl rfl hg20) ?_; clear hf a; intro a hf
     refine O.val (v := Uv (bitor .u64 x15 (IntKind.u64.wrap ((IntKind.u64.wrap x19) * 2 ^ (min (Int.toNat (IntKind.i64.wrap (32 * x16))) (IntKind.bits .u64)))))) hf rfl rfl rfl (RunV.bitor rfl rfl) ?_; clear hf a; intro a hf
     refine O.val hf rfl rfl rfl (RunV.assign rfl) ?_; clear hf a; intro a hf
     refine O.nil ?_
     refine k_blk_normal ?_
     refine k_seq ?_
     obtain ⟨x21, hx21, hm⟩ := hm_b hm
     rw [Option.some.inj hx21] at hf
     obtain ⟨x22, hx22, hm⟩ := hm_b hm
     rw [Option.some.inj hx22] at hf
     obtain ⟨x23, hx23, hm⟩ := hm_b hm
     rw [Option.some.inj hx23] at hf
     refine W.regionL (l := [0, 1]) rfl ?_
     refine O.val (v := Iv (IntKind.i64.wrap (x16 + 1))) hf rfl rfl rfl (RunV.add rfl rfl) ?_; clear hf a; intro a hf
     refine O.val hf rfl rfl rfl (RunV.move rfl) ?_; clear hf a; intro a hf
     refine O.nil ?_
     refine k_then ⟨(k17, x23, IntKind.i64.wrap (x16 + 1)), ⟨hf.to ⟨rfl, rfl, rfl, rfl, rfl, rfl, rfl, trivial⟩, hS, ?_⟩, Nat.lt_succ_self _⟩
     rw [hrec17] at hm; exact hm
    ·replace hm := hm_n hm hc18
     refine W.exit ?_
     refine k_then_exit ?_
     refine k_then_exit ?_
     refine k_blk ?_
     exact k_then ⟨x15, hf.to ⟨rfl, rfl, rfl, rfl, trivial⟩, hS, hm⟩
   ·clear hf hS hm a; try clear w
    rintro a w ⟨x9, hf, hS, hm⟩
    unfold m_wide_Int_j1 at hm
    refine W.seq ?_
    refine W.block ?_
    refine W.seq ?_
    refine W.regionL (l := [0, 1, 2, 3, 4, 5, 6]) rfl ?_
    refine O.val hf rfl rfl rfl (RunV.field T_field_39_0 rfl rfl) ?_; clear hf a; intro a hf
    refine O.val hf rfl rfl rfl (RunV.load1 T_agg_4 rfl (hS.ptAt (i := 0) rfl) rfl) ?_; clear hf a; intro a hf
    refine O.val hf rfl rfl rfl (RunV.move rfl) ?_; clear hf a; intro a hf
    refine O.cutN (l₁ := [3, 4, 5]) (l₂ := _) (fun a w => Fr a 54 [] [(1, Pv b4 0), (2, Iv 0), (3, Iv 0), (5, Uv x9), (40, Bv (x1 && (decide (x9 ≤ (9223372036854775808 : Int)))))] ∧ St w0 w noX [rdE 1 E98 s2 x3] [pt b4 (Cs #[Bv x1, s2] 39)]) rfl ?_ ?_
    ·rcases Bool.eq_false_or_eq_true (x1) with hb10 | hb10
     ·refine O.gvalB hf rfl rfl rfl hb10 rfl rfl (RunV.move rfl) ?_; clear hf a; intro a hf
      refine O.gvalB (v := Bv (decide (x9 ≤ (9223372036854775808 : Int)))) hf rfl rfl rfl hb10 rfl rfl (RunV.leq rfl rfl) ?_; clear hf a; intro a hf
      refine O.val (v := Bv (x1 && (decide (x9 ≤ (9223372036854775808 : Int))))) hf rfl rfl rfl (RunV.pick rfl rfl rfl (by rw [hb10]; rfl)) ?_; clear hf a; intro a hf
      exact O.nil ⟨rfl, hf.to ⟨rfl, rfl, rfl, rfl, rfl, trivial⟩, hS⟩
     ·refine O.skipB hf rfl rfl rfl hb10 rfl ?_; clear hf a; intro a hf
      refine O.skipB hf rfl rfl rfl hb10 rfl ?_; clear hf a; intro a hf
      refine O.val (v := Bv (x1 && (decide (x9 ≤ (9223372036854775808 : Int))))) hf rfl rfl rfl (RunV.pick rfl rfl rfl (by rw [hb10]; rfl)) ?_; clear hf a; intro a hf
      exact O.nil ⟨rfl, hf.to ⟨rfl, rfl, rfl, rfl, rfl, trivial⟩, hS⟩
    clear hf hS a; try clear w
    rintro a w ⟨hf, hS⟩
    refine O.val hf rfl rfl rfl (RunV.assign rfl) ?_; clear hf a; intro a hf
    refine O.nil ?_
    refine k_seq ?_
    replace hf : Fr a 54 [] [(1, Pv b4 0), (2, Iv 0), (3, Iv 0), (5, Uv x9), (34, Bv (x1 && (decide (x9 ≤ (9223372036854775808 : Int)))))] := hf.to ⟨rfl, rfl, rfl, rfl, rfl, trivial⟩
    refine W.if_ hf rfl (fun hc11 => ?_) (fun hc11 => ?_)
    ·replace hm := hm_t hm hc11
     refine W.seq ?_
     refine W.regionL (l := [0, 1, 2, 3, 4]) rfl ?_
     refine O.val hf rfl rfl rfl (RunV.move rfl) ?_; clear hf a; intro a hf
     refine O.val (v := Uv (IntKind.u64.wrap (0 - x9))) hf rfl rfl rfl (RunV.neg rfl) ?_; clear hf a; intro a hf
     refine O.val (v := Iv (IntKind.i64.wrap (IntKind.u64.wrap (0 - x9)))) hf rfl rfl rfl (RunV.conv T_und_108 T_int_2 rfl) ?_; clear hf a; intro a hf
     refine O.val hf rfl rfl rfl (RunV.assign rfl) ?_; clear hf a; intro a hf
     refine O.val hf rfl rfl rfl (RunV.assign rfl) ?_; clear hf a; intro a hf
     refine O.nil ?_
     refine k_seq ?_
     replace hf : Fr a 54 [] [(2, Iv (IntKind.i64.wrap (IntKind.u64.wrap (0 - x9)))), (3, Iv 0)] := hf.to ⟨rfl, rfl, trivial⟩
     obtain ⟨x12, hx12, hm⟩ := hm_b hm
     rw [Option.some.inj hx12] at hf
     refine W.ret ?_
     refine k_blk_ret ?_
     refine k_then_ret ?_
     obtain rfl := Option.some.inj hm
     refine post2 hf rfl (ResOK.tmp rfl) (ResOK.tmp rfl) ?_
     replace hS := hS.sub (N := []) (.cons _ .slnil)
     exact ⟨(), rfl, hS.noB⟩
    ·replace hm := hm_f hm hc11
     refine W.seq ?_
     refine W.regionL (l := [0, 1, 2, 3, 4, 5, 6, 7]) rfl ?_
     refine O.val hf rfl rfl rfl (RunV.field T_field_39_0 rfl rfl) ?_; clear hf a; intro a hf
     refine O.val hf rfl rfl rfl (RunV.load1 T_agg_4 rfl (hS.ptAt (i := 0) rfl) rfl) ?_; clear hf a; intro a hf
     refine O.val (v := Bv (!x1)) hf rfl rfl rfl (RunV.not rfl) ?_; clear hf a; intro a hf
     refine O.val hf rfl rfl rfl (RunV.move rfl) ?_; clear hf a; intro a hf
     refine O.cutN (l₁ := [4, 5, 6]) (l₂ := _) (fun a w => Fr a 54 [] [(2, Iv 0), (3, Iv 0), (5, Uv x9), (51, Bv ((!x1) && (decide (x9 < (9223372036854775808 : Int)))))] ∧ St w0 w noX [rdE 1 E98 s2 x3] [pt b4 (Cs #[Bv x1, s2] 39)]) rfl ?_ ?_
     ·rcases Bool.eq_false_or_eq_true (!x1) with hb13 | hb13
      ·refine O.gvalB hf rfl rfl rfl hb13 rfl rfl (RunV.move rfl) ?_; clear hf a; intro a hf
       refine O.gvalB (v := Bv (decide (x9 < (9223372036854775808 : Int)))) hf rfl rfl rfl hb13 rfl rfl (RunV.lss rfl rfl) ?_; clear hf a; intro a hf
       refine O.val (v := Bv ((!x1) && (decide (x9 < (9223372036854775808 : Int))))) hf rfl rfl rfl (RunV.pick rfl rfl rfl (by rw [hb13]; rfl)) ?_; clear hf a; intro a hf
       exact O.nil ⟨rfl, hf.to ⟨rfl, rfl, rfl, rfl, trivial⟩, hS⟩
      ·refine O.skipB hf rfl rfl rfl hb13 rfl ?_; clear hf a; intro a hf
       refine O.skipB hf rfl rfl rfl hb13 rfl ?_; clear hf a; intro a hf
       refine O.val (v := Bv ((!x1) && (decide (x9 < (9223372036854775808 : Int))))) hf rfl rfl rfl (RunV.pick rfl rfl rfl (by rw [hb13]; rfl)) ?_; clear hf a; intro a hf
       exact O.nil ⟨rfl, hf.to ⟨rfl, rfl, rfl, rfl, trivial⟩, hS⟩
     clear hf hS a; try clear w
     rintro a w ⟨hf, hS⟩
     refine O.val hf rfl rfl rfl (RunV.assign rfl) ?_; clear hf a; intro a hf
     refine O.nil ?_
     refine k_seq ?_
     replace hf : Fr a 54 [] [(2, Iv 0), (3, Iv 0), (5, Uv x9), (44, Bv ((!x1) && (decide (x9 < (9223372036854775808 : Int)))))] := hf.to ⟨rfl, rfl, rfl, rfl, trivial⟩
     refine W.if_ hf rfl (fun hc14 => ?_) (fun hc14 => ?_)
     ·replace hm := hm_t hm hc14
      refine W.seq ?_
      refine W.regionL (l := [0, 1, 2, 3]) rfl ?_
      refine O.val hf rfl rfl rfl (RunV.move rfl) ?_; clear hf a; intro a hf
      refine O.val (v := Iv (IntKind.i64.wrap x9)) hf rfl rfl rfl (RunV.conv T_und_108 T_int_2 rfl) ?_; clear hf a; intro a hf
      refine O.val hf rfl rfl rfl (RunV.assign rfl) ?_; clear hf a; intro a hf
      refine O.val hf rfl rfl rfl (RunV.assign rfl) ?_; clear hf a; intro a hf
      refine O.nil ?_
      refine k_seq ?_
      replace hf : Fr a 54 [] [(2, Iv (IntKind.i64.wrap x9)), (3, Iv 0)] := hf.to ⟨rfl, rfl, trivial⟩
      refine W.ret ?_
      refine k_blk_ret ?_
      refine k_then_ret ?_
      obtain rfl := Option.some.inj hm
      refine post2 hf rfl (ResOK.tmp rfl) (ResOK.tmp rfl) ?_
      replace hS := hS.sub (N := []) (.cons _ .slnil)
      exact ⟨(), rfl, hS.noB⟩
     ·replace hm := hm_f hm hc14
      refine W.skip ?_
      refine k_blk_normal ?_
      refine k_seq ?_
      replace hf : Fr a 54 [] [(2, Iv 0), (3, Iv 0)] := hf.to ⟨rfl, rfl, trivial⟩
      refine W.seq ?_
      refine W.regionL (l := [0, 1]) rfl ?_
      refine O.val hf rfl rfl rfl (RunV.assign rfl) ?_; clear hf a; intro a hf
      refine O.val hf rfl rfl rfl (RunV.assign rfl) ?_; clear hf a; intro a hf
      refine O.nil ?_
      refine k_seq ?_
      refine W.ret ?_
      obtain rfl := Option.some.inj hm
      refine post2 hf rfl (ResOK.tmp rfl) (ResOK.tmp rfl) ?_
      replace hS := hS.sub (N := []) (.cons _ .slnil)
      exact ⟨(), rfl, hS.noB⟩

def m_plan_Spread_j1 (F : Nat) (x42 : Int) (x43 : Bool) (x45 : List Int) : Option (Int × Int) :=
  if x42 ≠ (0 : Int) then (some (0, x42)) else ((m_wide_Int F x43 x45).bind fun x47 => some x47)
def m_plan_Spread_j2 (F : Nat) (x28 : Int) (x29 : Bool) (x31 : List Int) : Option (Int × Int) :=
  (m_wide_From F 86400000000).bind fun x32 => (m_wide_DivMod F x29 x31 x32.1 x32.2).bind fun x34 => (m_plan_calc_keep F x28 x34.1 x34.2.1 x34.2.2.2.2).bind fun x39 => (m_wide_Sign F x34.2.2.1 x34.2.2.2.1).bind fun x40 => (m_plan_calc_keep F x39 x34.1 x34.2.1 x40.2).bind fun x41 => if x40.1 > (0 : Int) then ((m_wide_From F 1).bind fun x49 => (m_wide_Add F x34.1 x34.2.1 x49.1 x49.2).bind fun x51 => (m_plan_calc_keep F x41 x51.1 x51.2.1 x51.2.2).bind fun x53 => m_plan_Spread_j1 F x53 x51.1 x51.2.1) else (m_plan_Spread_j1 F x41 x34.1 x34.2.1)
def m_plan_Spread (F : Nat)  (x1 : Int) (x2 : Int) (x3 : Int) : Option (Int × Int) :=
  if ((((((decide (x1 < (0 : Int))) || (decide (x1 > (10000000000 : Int)))) || (decide (x2 < (0 : Int)))) || (decide (x2 > (72000000000 : Int)))) || (decide (x3 < (-8640000000000 : Int)))) || (decide (x3 > (8640000000000 : Int)))) = true then (some (0, 2)) else ((m_plan_calc_square F 0 x1 86400000000).bind fun x11 => (m_plan_calc_square F x11.2.2 x2 x3).bind fun x13 => (m_wide_Add F x11.1 x11.2.1 x13.1 x13.2.1).bind fun x15 => (m_plan_calc_keep F x13.2.2 x15.1 x15.2.1 x15.2.2).bind fun x17 => (m_wide_Sqrt F x15.1 x15.2.1).bind fun x19 => (m_plan_calc_keep F x17 x19.1 x19.2.1 x19.2.2).bind fun x21 => (m_wide_Mul F x19.1 x19.2.1 x19.1 x19.2.1).bind fun x23 => (m_plan_calc_keep F x21 x23.1 x23.2.1 x23.2.2).bind fun x25 => (m_wide_Cmp F x23.1 x23.2.1 x15.1 x15.2.1).bind fun x26 => (m_plan_calc_keep F x25 false ([] : List Int) x26.2).bind fun x27 => if x26.1 < (0 : Int) then ((m_wide_From F 1).bind fun x55 => (m_wide_Add F x19.1 x19.2.1 x55.1 x55.2).bind fun x57 => (m_plan_calc_keep F x27 x57.1 x57.2.1 x57.2.2).bind fun x59 => m_plan_Spread_j2 F x59 x57.1 x57.2.1) else (m_plan_Spread_j2 F x27 x19.1 x19.2.1))
end Go.Proofs.Ytipedambeemdaaa
