/- The plain law: what Of and Ahead reckon is what the reference reckons. -/
import Derived.Test.YtplgfmincflodaaWae
import Derived.Test.YtplgfmincflodaaIntLaws
set_option linter.unusedVariables false
set_option linter.unusedSimpArgs false
namespace Go.Proofs.Ytplgfmincflodaa
open Go Go.SL

abbrev W64 : Int := 18446744073709551616
def Wd (x : Int) : Prop := 0 ≤ x ∧ x < 18446744073709551616
def I64 (x : Int) : Prop := -9223372036854775808 ≤ x ∧ x ≤ 9223372036854775807
/-- a number of two words -/
def Tw (z : Int) : Prop := -85070591730234615865843651857942052864 ≤ z ∧ z ≤ 85070591730234615865843651857942052864

theorem mul64_spec {F : Nat} {x y : Int} (hx : Wd x) (hy : Wd y) : m_math_bits_Mul64 F x y = some (x * y / 18446744073709551616, x * y % 18446744073709551616) := by
  unfold m_math_bits_Mul64
  simp only [Option.bind_some]
  rw [mul64 hx hy rfl rfl rfl, u64w]
theorem mul_tw {a b : Int} (ha : I64 a) (hb : I64 b) : Tw (a * b) := by
  obtain ⟨a1, a2⟩ := ha
  obtain ⟨b1, b2⟩ := hb
  have h1 := Int.mul_nonneg (show 0 ≤ 9223372036854775808 - a by omega) (show 0 ≤ 9223372036854775808 - b by omega)
  have h2 := Int.mul_nonneg (show 0 ≤ 9223372036854775808 + a by omega) (show 0 ≤ 9223372036854775808 + b by omega)
  have h3 := Int.mul_nonneg (show 0 ≤ 9223372036854775808 - a by omega) (show 0 ≤ 9223372036854775808 + b by omega)
  have h4 := Int.mul_nonneg (show 0 ≤ 9223372036854775808 + a by omega) (show 0 ≤ 9223372036854775808 - b by omega)
  have e1 : (9223372036854775808 - a) * (9223372036854775808 - b) = 85070591730234615865843651857942052864 - 9223372036854775808 * a - 9223372036854775808 * b + a * b := by grind
  have e2 : (9223372036854775808 + a) * (9223372036854775808 + b) = 85070591730234615865843651857942052864 + 9223372036854775808 * a + 9223372036854775808 * b + a * b := by grind
  have e3 : (9223372036854775808 - a) * (9223372036854775808 + b) = 85070591730234615865843651857942052864 - 9223372036854775808 * a + 9223372036854775808 * b - a * b := by grind
  have e4 : (9223372036854775808 + a) * (9223372036854775808 - b) = 85070591730234615865843651857942052864 + 9223372036854775808 * a - 9223372036854775808 * b - a * b := by grind
  rw [e1] at h1; rw [e2] at h2; rw [e3] at h3; rw [e4] at h4
  constructor <;> omega
theorem u64_neg {a : Int} (ha : I64 a) (h : a < 0) : IntKind.u64.wrap a = a + 18446744073709551616 := by
  obtain ⟨a1, a2⟩ := ha
  rw [u64w]; omega
theorem u64_pos {a : Int} (ha : I64 a) (h : ¬ a < 0) : IntKind.u64.wrap a = a := by
  obtain ⟨a1, a2⟩ := ha
  rw [u64w]; omega
theorem times_spec {F : Nat} {a b : Int} (ha : I64 a) (hb : I64 b) : m_span_times F a b = some (a * b / 18446744073709551616, a * b % 18446744073709551616) := by
  have hz := mul_tw ha hb
  unfold m_span_times m_span_times_j2 m_span_times_j1
  rw [mul64_spec (u64_rng _) (u64_rng _)]
  simp only [Option.bind_some]
  obtain ⟨z1, z2⟩ := hz
  have ha' := ha
  have hb' := hb
  obtain ⟨a1, a2⟩ := ha
  obtain ⟨b1, b2⟩ := hb
  by_cases ha0 : a < 0
  · by_cases hb0 : b < 0
    · have e : (a + 18446744073709551616) * (b + 18446744073709551616) = a * b + 18446744073709551616 * a + 18446744073709551616 * b + 340282366920938463463374607431768211456 := by grind
      rw [u64_neg ha' ha0, u64_neg hb' hb0, if_pos ha0, if_pos hb0, e]
      generalize a * b = z at *
      simp only [i64w, Option.some.injEq, Prod.mk.injEq]
      omega
    · have e : (a + 18446744073709551616) * b = a * b + 18446744073709551616 * b := by grind
      rw [u64_neg ha' ha0, u64_pos hb' hb0, if_pos ha0, if_neg hb0, e]
      generalize a * b = z at *
      simp only [i64w, Option.some.injEq, Prod.mk.injEq]
      omega
  · by_cases hb0 : b < 0
    · have e : a * (b + 18446744073709551616) = a * b + 18446744073709551616 * a := by grind
      rw [u64_pos ha' ha0, u64_neg hb' hb0, if_neg ha0, if_pos hb0, e]
      generalize a * b = z at *
      simp only [i64w, Option.some.injEq, Prod.mk.injEq]
      omega
    · rw [u64_pos ha' ha0, u64_pos hb' hb0, if_neg ha0, if_neg hb0]
      generalize a * b = z at *
      simp only [i64w, Option.some.injEq, Prod.mk.injEq, and_true]
      omega
theorem neg_spec {F : Nat} {z : Int} (hz : Tw z) : m_span_twin_neg F (z / 18446744073709551616) (z % 18446744073709551616) = some (-z / 18446744073709551616, -z % 18446744073709551616) := by
  obtain ⟨z1, z2⟩ := hz
  unfold m_span_twin_neg sub64b sub64d
  simp only [Option.bind_some, i64w, Option.some.injEq, Prod.mk.injEq]
  have h0 : Int.toNat 0 = 0 := rfl
  rw [h0]
  constructor
  · split <;> omega
  · omega
theorem least_spec {F : Nat} {a b : Int} : m_span_least F (a / 18446744073709551616) (a % 18446744073709551616) (b / 18446744073709551616) (b % 18446744073709551616) = some ((if b < a then b else a) / 18446744073709551616, (if b < a then b else a) % 18446744073709551616) := by
  unfold m_span_least m_span_twin_cmp m_span_least_j2 m_span_least_j1
  simp only [Bool.and_true, Bool.and_eq_true, beq_iff_eq, Bool.or_eq_true, decide_eq_true_eq]
  by_cases h : b < a
  · rw [if_neg (by omega), if_pos (by omega), if_pos h]
    rfl
  · by_cases he : b = a
    · rw [if_pos (by omega), if_neg h]
      rfl
    · rw [if_neg (by omega), if_neg (by omega), if_neg h]
      rfl
theorem greatest_spec {F : Nat} {a b : Int} : m_span_greatest F (a / 18446744073709551616) (a % 18446744073709551616) (b / 18446744073709551616) (b % 18446744073709551616) = some ((if a < b then b else a) / 18446744073709551616, (if a < b then b else a) % 18446744073709551616) := by
  unfold m_span_greatest m_span_twin_cmp m_span_greatest_j2 m_span_greatest_j1
  simp only [Bool.and_true, Bool.and_eq_true, beq_iff_eq, Bool.or_eq_true, decide_eq_true_eq]
  by_cases h : b < a
  · rw [if_neg (by omega), if_pos (by omega), if_neg (by omega)]
    rfl
  · by_cases he : b = a
    · rw [if_pos (by omega), if_neg (by omega)]
      rfl
    · rw [if_neg (by omega), if_neg (by omega), if_pos (by omega)]
      rfl

/-! ## Div64 comes to an end -/
theorem tab_ok : (List.range 256).all (fun z => match strIdx strc1 (z : Int) with
    | some n => decide (0 ≤ n ∧ n ≤ 8 ∧ (z : Int) < 2 ^ n.toNat ∧ (z = 0 ∨ (2 : Int) ^ (n.toNat - 1) ≤ (z : Int) ∧ 1 ≤ n))
    | none => false) = true := by kernel_rfl
theorem tab_spec {z : Int} (h : 0 ≤ z ∧ z < 256) : ∃ n, strIdx strc1 z = some n ∧ 0 ≤ n ∧ n ≤ 8 ∧ z < 2 ^ n.toNat ∧ (z = 0 ∨ (2 : Int) ^ (n.toNat - 1) ≤ z ∧ 1 ≤ n) := by
  have h1 := List.all_eq_true.1 tab_ok z.toNat (by simp; omega)
  have e : ((z.toNat : Nat) : Int) = z := by omega
  rw [e] at h1
  cases hs : strIdx strc1 z with
  | none => rw [hs] at h1; cases h1
  | some n =>
    rw [hs] at h1
    simp only [decide_eq_true_eq] at h1
    refine ⟨n, rfl, h1.1, h1.2.1, h1.2.2.1, ?_⟩
    rcases h1.2.2.2 with h2 | h2
    · exact .inl (by omega)
    · exact .inr h2
theorem len_j1 {F : Nat} {z k : Int} (hz : 0 < z ∧ z < 256) (hk : 0 ≤ k ∧ k ≤ 56) : ∃ n, m_math_bits_Len64_j1 F z k = some n ∧ k + 1 ≤ n ∧ n ≤ k + 8 ∧ 2 ^ (n - k - 1).toNat ≤ z ∧ z < 2 ^ (n - k).toNat := by
  unfold m_math_bits_Len64_j1
  have e8 : IntKind.u8.wrap z = z := by rw [IntKind.wrap_u8]; omega
  obtain ⟨n, h1, h2, h3, h4, h5⟩ := tab_spec (z := z) (by omega)
  rw [e8, h1]
  simp only [Option.bind_some]
  refine ⟨k + n, by rw [i64_of (x := n) (by omega), i64_of (by omega)], ?_⟩
  rcases h5 with h5 | ⟨h5, h6⟩
  · omega
  · have e1 : (k + n - k - 1).toNat = n.toNat - 1 := by omega
    have e2 : (k + n - k).toNat = n.toNat := by omega
    rw [e1, e2]
    exact ⟨by omega, by omega, h5, h4⟩
/-- how many digits a word has, up to those beyond k -/
def LenOK (y k : Int) (o : Option Int) : Prop := ∃ n, o = some n ∧ k + 1 ≤ n ∧ n ≤ k + 64 ∧ 2 ^ (n - k - 1).toNat ≤ y ∧ y < 2 ^ (n - k).toNat
theorem pow_split {a b : Int} (ha : 0 ≤ a) (hb : 0 ≤ b) : (2 : Int) ^ (a + b).toNat = 2 ^ a.toNat * 2 ^ b.toNat := by
  rw [show (a + b).toNat = a.toNat + b.toNat by omega, Int.pow_add]
theorem len_up {y k c n : Int} {C : Int} (hc : 0 ≤ c) (hC : (2 : Int) ^ c.toNat = C) (hC0 : 0 < C) (h1 : k + c + 1 ≤ n) (h2 : 2 ^ (n - (k + c) - 1).toNat ≤ y / C) (h3 : y / C < 2 ^ (n - (k + c)).toNat) :
    2 ^ (n - k - 1).toNat ≤ y ∧ y < 2 ^ (n - k).toNat := by
  have e1 : n - k - 1 = (n - (k + c) - 1) + c := by omega
  have e2 : n - k = (n - (k + c)) + c := by omega
  rw [e1, pow_split (by omega) hc, e2, pow_split (by omega) hc, hC]
  generalize (2 : Int) ^ (n - (k + c) - 1).toNat = p at *
  generalize (2 : Int) ^ (n - (k + c)).toNat = q at *
  constructor
  · exact Int.le_trans (Int.mul_le_mul_of_nonneg_right h2 (Int.le_of_lt hC0)) (Int.ediv_mul_le y (by omega))
  · exact (Int.ediv_lt_iff_lt_mul hC0).1 h3
theorem len_j2 {F : Nat} {y k : Int} (hy : 0 < y ∧ y < 65536) (hk : 0 ≤ k ∧ k ≤ 48) : ∃ n, m_math_bits_Len64_j2 F y k = some n ∧ k + 1 ≤ n ∧ n ≤ k + 16 ∧ 2 ^ (n - k - 1).toNat ≤ y ∧ y < 2 ^ (n - k).toNat := by
  unfold m_math_bits_Len64_j2
  by_cases h : y ≥ 256
  · rw [if_pos h, i64_of (by omega), fdiv_pow]
    obtain ⟨n, h1, h2, h3, h4, h5⟩ := len_j1 (F := F) (z := y / 2 ^ 8) (k := k + 8) (by omega) (by omega)
    exact ⟨n, h1, by omega, by omega, len_up (c := 8) (C := 2 ^ 8) (by decide) (by decide) (by decide) (by omega) h4 h5⟩
  · rw [if_neg h]
    obtain ⟨n, h1, h2, h3, h4⟩ := len_j1 (F := F) (z := y) (k := k) (by omega) (by omega)
    exact ⟨n, h1, by omega, by omega, h4⟩
theorem len_j3 {F : Nat} {y k : Int} (hy : 0 < y ∧ y < 4294967296) (hk : 0 ≤ k ∧ k ≤ 32) : ∃ n, m_math_bits_Len64_j3 F y k = some n ∧ k + 1 ≤ n ∧ n ≤ k + 32 ∧ 2 ^ (n - k - 1).toNat ≤ y ∧ y < 2 ^ (n - k).toNat := by
  unfold m_math_bits_Len64_j3
  by_cases h : y ≥ 65536
  · rw [if_pos h, i64_of (by omega), fdiv_pow]
    obtain ⟨n, h1, h2, h3, h4, h5⟩ := len_j2 (F := F) (y := y / 2 ^ 16) (k := k + 16) (by omega) (by omega)
    exact ⟨n, h1, by omega, by omega, len_up (c := 16) (C := 2 ^ 16) (by decide) (by decide) (by decide) (by omega) h4 h5⟩
  · rw [if_neg h]
    obtain ⟨n, h1, h2, h3, h4⟩ := len_j2 (F := F) (y := y) (k := k) (by omega) (by omega)
    exact ⟨n, h1, by omega, by omega, h4⟩
theorem len64_spec {F : Nat} {y : Int} (hy : 0 < y ∧ y < 18446744073709551616) : ∃ n, m_math_bits_Len64 F y = some n ∧ 1 ≤ n ∧ n ≤ 64 ∧ 2 ^ (n - 1).toNat ≤ y ∧ y < 2 ^ n.toNat := by
  unfold m_math_bits_Len64
  by_cases h : y ≥ 4294967296
  · rw [if_pos h, fdiv_pow]
    obtain ⟨n, h1, h2, h3, h4, h5⟩ := len_j3 (F := F) (y := y / 2 ^ 32) (k := 32) (by omega) (by omega)
    have := len_up (y := y) (k := 0) (c := 32) (C := 2 ^ 32) (n := n) (by decide) (by decide) (by decide) (by omega) h4 h5
    rw [show n - 0 - 1 = n - 1 by omega, show n - 0 = n by omega] at this
    exact ⟨n, h1, by omega, by omega, this⟩
  · rw [if_neg h]
    obtain ⟨n, h1, h2, h3, h4⟩ := len_j3 (F := F) (y := y) (k := 0) (by omega) (by omega)
    rw [show n - 0 - 1 = n - 1 by omega, show n - 0 = n by omega] at h4
    exact ⟨n, h1, by omega, by omega, h4⟩
/-- the shift that math/bits takes makes the highest digit a 1 -/
theorem shift_ok {F : Nat} {y : Int} (hy : 0 < y ∧ y < 18446744073709551616) : ∃ s, m_math_bits_LeadingZeros64 F y = some s ∧ 0 ≤ s ∧ s ≤ 63 ∧ 9223372036854775808 ≤ y * 2 ^ s.toNat ∧ y * 2 ^ s.toNat < 18446744073709551616 := by
  unfold m_math_bits_LeadingZeros64
  obtain ⟨n, h1, h2, h3, h4, h5⟩ := len64_spec (F := F) hy
  rw [h1]
  simp only [Option.bind_some]
  refine ⟨64 - n, by rw [i64_of (by omega)], by omega, by omega, ?_⟩
  have e1 : (2 : Int) ^ (n - 1).toNat * 2 ^ (64 - n).toNat = 9223372036854775808 := by
    rw [← pow_split (by omega) (by omega), show n - 1 + (64 - n) = 63 by omega]; rfl
  have e2 : (2 : Int) ^ n.toNat * 2 ^ (64 - n).toNat = 18446744073709551616 := by
    rw [← pow_split (by omega) (by omega), show n + (64 - n) = 64 by omega]; rfl
  have hp : 0 < (2 : Int) ^ (64 - n).toNat := Int.pow_pos (by decide)
  rw [← e1]
  rw [← e2]
  exact ⟨Int.mul_le_mul_of_nonneg_right h4 (Int.le_of_lt hp), Int.mul_lt_mul_of_pos_right h5 hp⟩

def DivOK (o : Option (Int × Int)) : Prop := ∃ q r, o = some (q, r) ∧ 0 ≤ q ∧ q < 18446744073709551616 ∧ 0 ≤ r
theorem div_j1 {F : Nat} {a b c d e f : Int} : DivOK (m_math_bits_Div64_j1 F a b c d e f) := by
  unfold m_math_bits_Div64_j1
  rw [if_pos (u64_rng _).1]
  simp only [Option.bind_some, fdiv_pow]
  exact ⟨_, _, rfl, (u64_rng _).1, (u64_rng _).2, Int.ediv_nonneg (u64_rng _).1 (Int.le_of_lt (Int.pow_pos (by decide)))⟩
/-- the loops: the rest grows -/
theorem div_l2 {F : Nat} {x12 x17 x10 x21 x23 : Int} (hy : 1 ≤ x12 / 4294967296 ∧ x12 / 4294967296 < 4294967296) : ∀ (n : Nat) (r q : Int), 0 ≤ r → 4294967296 - r < (n : Int) → r < 4294967296 → DivOK (m_math_bits_Div64_l2 F x12 x17 x10 x21 x23 n r q)
  | 0, r, q, h1, h2, h3 => by omega
  | n + 1, r, q, h1, h2, h3 => by
    show DivOK (m_math_bits_Div64_b2 F x12 x17 x10 x21 x23 (m_math_bits_Div64_l2 F x12 x17 x10 x21 x23 n) r q)
    unfold m_math_bits_Div64_b2
    have e32 : Int.fdiv x12 (2 ^ 32) = x12 / 4294967296 := fdiv_pow x12 32
    split
    · simp only [Option.bind_some, e32]
      rw [u64_id (x := r + x12 / 4294967296) (by omega)]
      split
      · exact div_j1
      · exact div_l2 hy n _ _ (by omega) (by omega) (by omega)
    · exact div_j1
theorem div_j3 {F : Nat} {x15 x17 x12 x10 q r : Int} (hF : 8589934592 ≤ F) (hy : 1 ≤ x12 / 4294967296 ∧ x12 / 4294967296 < 4294967296) : DivOK (m_math_bits_Div64_j3 F x15 x17 x12 x10 q r) := by
  unfold m_math_bits_Div64_j3
  have e32 : Int.fdiv x12 (2 ^ 32) = x12 / 4294967296 := fdiv_pow x12 32
  simp only [Option.bind_some, e32]
  rw [if_pos (by omega)]
  generalize hw : IntKind.u64.wrap (IntKind.u64.wrap (IntKind.u64.wrap (x15 * 4294967296) + Int.fdiv x17 (2 ^ 32)) - IntKind.u64.wrap (q * x12)) = w
  have hwr : 0 ≤ w ∧ w < 18446744073709551616 := hw ▸ u64_rng _
  obtain ⟨y1, hy1⟩ : ∃ y1, y1 = x12 / 4294967296 := ⟨_, rfl⟩
  rw [← hy1] at hy ⊢
  have et : Int.tdiv w y1 = w / y1 := Int.tdiv_eq_ediv_of_nonneg hwr.1
  have h1 : 0 ≤ w / y1 := Int.ediv_nonneg hwr.1 (by omega)
  have h2 : w / y1 ≤ w := Int.ediv_le_self _ hwr.1
  have h3 : w / y1 * y1 ≤ w := Int.ediv_mul_le w (by omega)
  have h4 : w - w / y1 * y1 = w % y1 := by have := Int.emod_add_mul_ediv w y1; rw [Int.mul_comm] at this; omega
  have h5 := Int.emod_lt_of_pos w (show 0 < y1 by omega)
  have h6 := Int.emod_nonneg w (show y1 ≠ 0 by omega)
  have h7 : 0 ≤ w / y1 * y1 := Int.mul_nonneg h1 (by omega)
  rw [et, u64_id (x := w / y1) (by omega), u64_id (x := w / y1 * y1) (by omega), u64_id (x := w - w / y1 * y1) (by omega), h4]
  exact div_l2 (by rw [← hy1]; exact hy) F _ _ h6 (by omega) (by omega)
theorem div_l4 {F : Nat} {x12 x17 x15 x10 : Int} (hF : 8589934592 ≤ F) (hy : 1 ≤ x12 / 4294967296 ∧ x12 / 4294967296 < 4294967296) : ∀ (n : Nat) (q r : Int), 0 ≤ r → 4294967296 - r < (n : Int) → r < 4294967296 → DivOK (m_math_bits_Div64_l4 F x12 x17 x15 x10 n q r)
  | 0, q, r, h1, h2, h3 => by omega
  | n + 1, q, r, h1, h2, h3 => by
    show DivOK (m_math_bits_Div64_b4 F x12 x17 x15 x10 (m_math_bits_Div64_l4 F x12 x17 x15 x10 n) q r)
    unfold m_math_bits_Div64_b4
    have e32 : Int.fdiv x12 (2 ^ 32) = x12 / 4294967296 := fdiv_pow x12 32
    split
    · simp only [Option.bind_some, e32]
      rw [u64_id (x := r + x12 / 4294967296) (by omega)]
      split
      · exact div_j3 hF hy
      · exact div_l4 hF hy n _ _ (by omega) (by omega) (by omega)
    · exact div_j3 hF hy
theorem bitor_rng (x y : Int) : 0 ≤ bitor .u64 x y ∧ bitor .u64 x y < 18446744073709551616 := u64_rng _
theorem div64_total {F : Nat} {hi lo y : Int} (hF : 8589934592 ≤ F) (hh : 0 ≤ hi ∧ hi < y) (hl : Wd lo) (hy : Wd y) : DivOK (m_math_bits_Div64 F hi lo y) := by
  obtain ⟨hl1, hl2⟩ := hl
  obtain ⟨hy1, hy2⟩ := hy
  unfold m_math_bits_Div64
  rw [if_neg (by omega), if_neg (by omega)]
  by_cases h0 : hi = 0
  · rw [if_pos h0, if_pos (by omega), if_pos (by omega)]
    simp only [Option.bind_some]
    exact ⟨_, _, rfl, (u64_rng _).1, (u64_rng _).2, Int.tmod_nonneg _ hl1⟩
  · rw [if_neg h0]
    obtain ⟨s, h1, h2, h3, h4, h5⟩ := shift_ok (F := F) (y := y) (by omega)
    rw [h1]
    simp only [Option.bind_some]
    have es : IntKind.u64.wrap s = s := u64_id (by omega)
    have eb : IntKind.bits .u64 = 64 := rfl
    have em : min s.toNat 64 = s.toNat := by omega
    rw [es, eb, em, if_pos h2, if_pos (u64_rng _).1, if_pos h2, u64_id (x := y * 2 ^ s.toNat) (by omega)]
    generalize hv : y * 2 ^ s.toNat = v at *
    generalize IntKind.u64.wrap (lo * 2 ^ s.toNat) = x17
    generalize hw : bitor _ _ _ = w
    have hwr : 0 ≤ w ∧ w < 18446744073709551616 := hw ▸ bitor_rng _ _
    have e32 : Int.fdiv v (2 ^ 32) = v / 4294967296 := fdiv_pow v 32
    rw [if_pos h2, e32, if_pos (by omega)]
    obtain ⟨y1, hy1'⟩ : ∃ y1, y1 = v / 4294967296 := ⟨_, rfl⟩
    have hyv : 1 ≤ v / 4294967296 ∧ v / 4294967296 < 4294967296 := by omega
    have hyy := hyv
    rw [← hy1'] at hyv ⊢
    have et : Int.tdiv w y1 = w / y1 := Int.tdiv_eq_ediv_of_nonneg hwr.1
    have g1 : 0 ≤ w / y1 := Int.ediv_nonneg hwr.1 (by omega)
    have g2 : w / y1 ≤ w := Int.ediv_le_self _ hwr.1
    have g3 : w / y1 * y1 ≤ w := Int.ediv_mul_le w (by omega)
    have g4 : w - w / y1 * y1 = w % y1 := by have := Int.emod_add_mul_ediv w y1; rw [Int.mul_comm] at this; omega
    have g5 := Int.emod_lt_of_pos w (show 0 < y1 by omega)
    have g6 := Int.emod_nonneg w (show y1 ≠ 0 by omega)
    have g7 : 0 ≤ w / y1 * y1 := Int.mul_nonneg g1 (by omega)
    rw [et, u64_id (x := w / y1) (by omega), u64_id (x := w / y1 * y1) (by omega), u64_id (x := w - w / y1 * y1) (by omega), g4]
    exact div_l4 hF hyy F _ _ g6 (by omega) (by omega)

/-! ## down, up, over -/
def sg (b : Bool) (x : Int) : Int := if b = true then -x else x
def ov (b : Bool) (r : Int) : Int := if (decide (r > 0) && b) = true then 1 else 0
structure Core (F : Nat) (n d q r : Int) : Prop where
  q0 : 0 ≤ q
  q1 : q ≤ 4611686018427387904
  q2 : q = 4611686018427387904 → r = 0
  over : ∀ neg up : Bool, m_ref03_over F neg (n / 18446744073709551616) (n % 18446744073709551616) d up = some (sg neg (q + ov (!(up == neg)) r))
  up3 : ∀ rc, m_span_twin_up_3 F rc (n / 18446744073709551616) (n % 18446744073709551616) d = some (q + ov true r)
  up4 : m_span_twin_up_4 F (n / 18446744073709551616) (n % 18446744073709551616) d = some (q + ov true r)
  down : ∀ rc, m_span_twin_down_b F rc (n / 18446744073709551616) (n % 18446744073709551616) d = some q
theorem over_j3 {F : Nat} {up neg : Bool} {q r : Int} (hq : 0 ≤ q ∧ q < 18446744073709551616) :
    m_ref03_over_j3 F up neg q r = some (sg neg ((if q ≥ 4611686018427387904 then 4611686018427387904 else q) + ov (!(up == neg)) (if q ≥ 4611686018427387904 then 0 else r))) := by
  unfold m_ref03_over_j3 m_ref03_over_j2 m_ref03_over_j1 ov sg
  by_cases h : q ≥ 4611686018427387904
  · simp only [if_pos h]
    cases neg <;> simp [i64w, u64w]
  · simp only [if_neg h]
    cases hb : (decide (r > 0) && !(up == neg))
    · simp only [Bool.false_eq_true, if_false, Option.bind_some]
      cases neg <;> simp only [Bool.false_eq_true, if_false, if_true] <;> congr 1 <;> simp only [i64w] <;> omega
    · simp only [if_true, Option.bind_some]
      cases neg <;> simp only [Bool.false_eq_true, if_false, if_true] <;> congr 1 <;> simp only [i64w, u64w] <;> omega
theorem core {F : Nat} {n d : Int} (hF : 8589934592 ≤ F) (hn : 0 ≤ n ∧ n ≤ 85070591730234615865843651857942052864) (hd : 0 < d ∧ d < 18446744073709551616) : ∃ q r, Core F n d q r := by
  have hh : 0 ≤ n / 18446744073709551616 ∧ n / 18446744073709551616 ≤ 4611686018427387904 := by omega
  have hl : 0 ≤ n % 18446744073709551616 ∧ n % 18446744073709551616 < 18446744073709551616 := by omega
  generalize hi0 : n / 18446744073709551616 = hi at *
  generalize lo0 : n % 18446744073709551616 = lo at *
  have ehi : IntKind.u64.wrap hi = hi := u64_id (by omega)
  by_cases h : hi < d
  · obtain ⟨q, r, hD, g1, g2, g3⟩ := div64_total (F := F) (hi := hi) (lo := lo) (y := d) hF ⟨hh.1, h⟩ hl ⟨by omega, hd.2⟩
    refine ⟨if q ≥ 4611686018427387904 then 4611686018427387904 else q, if q ≥ 4611686018427387904 then 0 else r, ?_, ?_, ?_, ?_, ?_, ?_, ?_⟩
    · split <;> omega
    · split <;> omega
    · split <;> omega
    · intro neg up
      rw [hi0, lo0]
      unfold m_ref03_over
      rw [if_pos h, hD]
      exact over_j3 ⟨g1, g2⟩
    · intro rc
      rw [hi0, lo0]
      unfold m_span_twin_up_3 m_span_twin_up_3_j1 ov
      rw [if_neg (by omega), ehi, if_neg (by omega), hD]
      simp only [Option.bind_some, Bool.and_true, Bool.and_eq_true, decide_eq_true_eq, i64w, u64w]
      by_cases k1 : q ≥ 4611686018427387904
      · rw [if_neg (by omega), if_pos k1, if_pos k1]
        congr 1
        rw [if_neg (show ¬ (0 : Int) > 0 by omega)]
        split <;> omega
      · by_cases k2 : r > 0
        · rw [if_pos (by omega), if_neg k1, if_neg k1, if_pos k2, if_neg (by omega)]
          congr 1; omega
        · rw [if_neg (by omega), if_neg k1, if_neg k1, if_neg k2, if_neg (by omega)]
          congr 1; omega
    · rw [hi0, lo0]
      unfold m_span_twin_up_4 m_span_twin_up_4_j1 ov
      rw [if_neg (by omega), ehi, if_neg (by omega), hD]
      simp only [Option.bind_some, Bool.and_true, Bool.and_eq_true, decide_eq_true_eq, i64w, u64w]
      by_cases k1 : q ≥ 4611686018427387904
      · rw [if_neg (by omega), if_pos k1, if_pos k1]
        congr 1
        rw [if_neg (show ¬ (0 : Int) > 0 by omega)]
        split <;> omega
      · by_cases k2 : r > 0
        · rw [if_pos (by omega), if_neg k1, if_neg k1, if_pos k2, if_neg (by omega)]
          congr 1; omega
        · rw [if_neg (by omega), if_neg k1, if_neg k1, if_neg k2, if_neg (by omega)]
          congr 1; omega
    · intro rc
      rw [hi0, lo0]
      unfold m_span_twin_down_b
      rw [if_neg (by omega), ehi, if_neg (by omega), hD]
      simp only [Option.bind_some, i64w]
      congr 1
      split <;> split <;> omega
  · refine ⟨4611686018427387904, 0, by omega, by omega, fun _ => rfl, ?_, ?_, ?_, ?_⟩
    · intro neg up
      rw [hi0, lo0]
      unfold m_ref03_over
      rw [if_neg h, over_j3 (by omega)]
      simp
    · intro rc
      rw [hi0, lo0]
      unfold m_span_twin_up_3
      rw [if_neg (by omega), ehi, if_pos (by omega)]
      rfl
    · rw [hi0, lo0]
      unfold m_span_twin_up_4
      rw [if_neg (by omega), ehi, if_pos (by omega)]
      rfl
    · intro rc
      rw [hi0, lo0]
      unfold m_span_twin_down_b
      rw [if_neg (by omega), ehi, if_pos (by omega)]
def ab (z : Int) : Int := if z < 0 then -z else z
theorem down_over {F : Nat} {z d : Int} (hF : 8589934592 ≤ F) (hz : Tw z) (hd : 0 < d ∧ d < 18446744073709551616) :
    ∃ v, m_ref03_over F (decide (z < 0)) (ab z / 18446744073709551616) (ab z % 18446744073709551616) d false = some v ∧ m_span_twin_down F (z / 18446744073709551616) (z % 18446744073709551616) d = some v ∧ -4611686018427387904 ≤ v ∧ v ≤ 4611686018427387904 := by
  have hz' := hz
  obtain ⟨z1, z2⟩ := hz
  obtain ⟨q, r, hc⟩ := core (F := F) (n := ab z) (d := d) hF (by unfold ab; split <;> omega) hd
  obtain ⟨k, rfl⟩ : ∃ k, F = k + 1 := ⟨F - 1, by omega⟩
  have e1 : ov true r = 0 ∨ (ov true r = 1 ∧ r > 0) := by unfold ov; by_cases h : r > 0 <;> simp [h]
  have g0 := hc.q0
  have g1 := hc.q1
  have g2 := hc.q2
  by_cases h : z < 0
  · have ea : ab z = -z := if_pos h
    refine ⟨-(q + ov true r), ?_, ?_, ?_⟩
    · rw [hc.over, show decide (z < 0) = true by simpa using h]; simp [sg]
    · unfold m_span_twin_down
      show m_span_twin_down_b (k + 1) (m_span_twin_down_r (k + 1) k) _ _ _ = _
      unfold m_span_twin_down_b
      have := hc.up3 (m_span_twin_down_r (k + 1) k)
      rw [ea] at this
      rw [if_pos (by omega), neg_spec hz']
      simp only [Option.bind_some]
      rw [this]
      simp only [Option.bind_some, i64w]
      congr 1; omega
    · omega
  · have ea : ab z = z := if_neg h
    have e0 : decide (z < 0) = false := by simpa using h
    refine ⟨q, ?_, ?_, ?_⟩
    · rw [hc.over, e0]; simp [sg, ov]
    · unfold m_span_twin_down
      show m_span_twin_down_b (k + 1) (m_span_twin_down_r (k + 1) k) _ _ _ = _
      have := hc.down (m_span_twin_down_r (k + 1) k)
      rw [ea] at this
      exact this
    · omega
theorem up_over {F : Nat} {z d : Int} (hF : 8589934592 ≤ F) (hz : Tw z) (hd : 0 < d ∧ d < 18446744073709551616) :
    ∃ v, m_ref03_over F (decide (z < 0)) (ab z / 18446744073709551616) (ab z % 18446744073709551616) d true = some v ∧ m_span_twin_up_4 F (z / 18446744073709551616) (z % 18446744073709551616) d = some v ∧ -4611686018427387904 ≤ v ∧ v ≤ 4611686018427387904 := by
  have hz' := hz
  obtain ⟨z1, z2⟩ := hz
  obtain ⟨q, r, hc⟩ := core (F := F) (n := ab z) (d := d) hF (by unfold ab; split <;> omega) hd
  obtain ⟨k, rfl⟩ : ∃ k, F = k + 1 := ⟨F - 1, by omega⟩
  have e1 : ov true r = 0 ∨ (ov true r = 1 ∧ r > 0) := by unfold ov; by_cases h : r > 0 <;> simp [h]
  have g0 := hc.q0
  have g1 := hc.q1
  have g2 := hc.q2
  by_cases h : z < 0
  · have ea : ab z = -z := if_pos h
    refine ⟨-q, ?_, ?_, ?_⟩
    · rw [hc.over, show decide (z < 0) = true by simpa using h]; simp [sg, ov]
    · unfold m_span_twin_up_4
      rw [if_pos (by omega), neg_spec hz']
      simp only [Option.bind_some]
      unfold m_span_twin_down
      have := hc.down (m_span_twin_down_r (k + 1) k)
      rw [ea] at this
      rw [show m_span_twin_down_r (k + 1) (k + 1) (-z / 18446744073709551616) (-z % 18446744073709551616) d = m_span_twin_down_b (k + 1) (m_span_twin_down_r (k + 1) k) (-z / 18446744073709551616) (-z % 18446744073709551616) d from rfl, this]
      simp only [Option.bind_some, i64w]
      congr 1; omega
    · omega
  · have ea : ab z = z := if_neg h
    have e0 : decide (z < 0) = false := by simpa using h
    refine ⟨q + ov true r, ?_, ?_, ?_⟩
    · rw [hc.over, e0]; simp [sg]
    · have := hc.up4
      rw [ea] at this
      exact this
    · omega

/-! ## Scale, Add, and what is made of them -/
theorem size_spec {F : Nat} {x : Int} (hx : I64 x) : m_ref03_size F x = some (ab x) := by
  obtain ⟨h1, h2⟩ := hx
  unfold m_ref03_size ab
  split
  · simp only [Option.bind_some, u64w]; congr 1; omega
  · simp only [u64w]; congr 1; omega
theorem ab_mul (x y : Int) : ab x * ab y = ab (x * y) := by
  unfold ab
  by_cases hx : x < 0 <;> by_cases hy : y < 0
  · have := Int.mul_pos_of_neg_of_neg hx hy
    rw [if_pos hx, if_pos hy, if_neg (by omega)]; grind
  · rw [if_pos hx, if_neg hy]
    rcases Int.lt_or_eq_of_le (show 0 ≤ y by omega) with h | h
    · have := Int.mul_neg_of_neg_of_pos hx h
      rw [if_pos this]; grind
    · subst h; simp
  · rw [if_neg hx, if_pos hy]
    rcases Int.lt_or_eq_of_le (show 0 ≤ x by omega) with h | h
    · have := Int.mul_neg_of_pos_of_neg h hy
      rw [if_pos this]; grind
    · subst h; simp
  · have := Int.mul_nonneg (show 0 ≤ x by omega) (show 0 ≤ y by omega)
    rw [if_neg hx, if_neg hy, if_neg (by omega)]
theorem rtimes_spec {F : Nat} {x y : Int} (hx : I64 x) (hy : I64 y) : m_ref03_Times F x y = some (decide (x * y < 0), ab (x * y) / 18446744073709551616, ab (x * y) % 18446744073709551616) := by
  have hz := mul_tw hx hy
  unfold m_ref03_Times
  rw [size_spec hx, size_spec hy]
  simp only [Option.bind_some]
  obtain ⟨x1, x2⟩ := hx
  obtain ⟨y1, y2⟩ := hy
  obtain ⟨z1, z2⟩ := hz
  rw [mul64_spec (F := F) (x := ab x) (y := ab y) (by unfold Wd ab; split <;> omega) (by unfold Wd ab; split <;> omega), ab_mul]
  simp only [Option.bind_some, Option.some.injEq, Prod.mk.injEq, and_true]
  have key : (!(decide (x < 0) == decide (y < 0)) && (decide (ab (x * y) > 0))) = decide (x * y < 0) := by
    unfold ab
    by_cases hx : x < 0 <;> by_cases hy : y < 0
    · have := Int.mul_pos_of_neg_of_neg hx hy
      simp [hx, hy]; omega
    · rcases Int.lt_or_eq_of_le (show 0 ≤ y by omega) with h | h
      · have := Int.mul_neg_of_neg_of_pos hx h
        simp [hx, hy, this]
      · subst h; simp
    · rcases Int.lt_or_eq_of_le (show 0 ≤ x by omega) with h | h
      · have := Int.mul_neg_of_pos_of_neg h hy
        simp [hx, hy, this]
      · subst h; simp
    · have := Int.mul_nonneg (show 0 ≤ x by omega) (show 0 ≤ y by omega)
      simp [hx, hy]; omega
  rw [← key]
  have habn : 0 ≤ ab (x * y) := by unfold ab; split <;> omega
  congr 1
  rw [Bool.eq_iff_iff]
  simp only [Bool.or_eq_true, decide_eq_true_eq]
  omega
theorem rless_spec {F : Nat} {a b : Int} (ha : Tw a) (hb : Tw b) : m_ref03_less F (decide (a < 0)) (ab a / 18446744073709551616) (ab a % 18446744073709551616) (decide (b < 0)) (ab b / 18446744073709551616) (ab b % 18446744073709551616) = some (decide (a < b)) := by
  obtain ⟨a1, a2⟩ := ha
  obtain ⟨b1, b2⟩ := hb
  unfold m_ref03_less m_ref03_less_j1 ab
  by_cases h1 : a < 0 <;> by_cases h2 : b < 0
  · simp only [h1, h2, decide_true, if_true, beq_self_eq_true, Bool.not_true, Bool.false_eq_true, if_false]
    congr 1; rw [Bool.eq_iff_iff]; simp only [Bool.or_eq_true, Bool.and_eq_true, decide_eq_true_eq]; omega
  · simp [h1, h2]; omega
  · simp [h1, h2]; omega
  · simp only [h1, h2, decide_false, if_true, beq_self_eq_true, Bool.not_true, Bool.false_eq_true, if_false]
    congr 1; rw [Bool.eq_iff_iff]; simp only [Bool.or_eq_true, Bool.and_eq_true, decide_eq_true_eq]; omega
/-- what comes of an operation on intervals: the same on both sides -/
def IvOut (o o' : Option (Int × Int × Int)) : Prop := ∃ a b e, o = some (a, b, e) ∧ o' = some (a, b, e) ∧ I64 a ∧ I64 b
theorem i64_0 : I64 0 := ⟨by omega, by omega⟩
theorem made_same {F : Nat} {a b : Int} (ha : I64 a) (hb : I64 b) : IvOut (m_span_made F a b) (m_ref03_made F a b) := by
  unfold m_span_made m_ref03_made
  split
  · exact ⟨0, 0, 16, rfl, rfl, i64_0, i64_0⟩
  · exact ⟨a, b, 0, rfl, rfl, ha, hb⟩
theorem chk_eq {F : Nat} {a b : Int} : m_span_check F a b = m_ref03_Check F a b := rfl
theorem chk_some {F : Nat} {a b : Int} : ∃ e, m_ref03_Check F a b = some e ∧ (e = 0 → a ≤ b ∧ -2305843009213693952 ≤ a ∧ b ≤ 2305843009213693952) := by
  unfold m_ref03_Check
  split
  · exact ⟨8, rfl, fun h => by omega⟩
  · rename_i h
    simp only [Bool.or_eq_true, decide_eq_true_eq] at h
    exact ⟨0, rfl, fun _ => by omega⟩
theorem scale_same {F : Nat} {x1 x2 x3 x4 : Int} (hF : 8589934592 ≤ F) (h1 : I64 x1) (h2 : I64 x2) (h3 : I64 x3) (h4 : 0 < x4 ∧ x4 < 9223372036854775808) : IvOut (m_span_Scale F x1 x2 x3 x4) (m_ref03_Scale F x1 x2 x3 x4) := by
  unfold m_span_Scale m_ref03_Scale
  rw [chk_eq]
  obtain ⟨e, he, _⟩ := chk_some (F := F) (a := x1) (b := x2)
  rw [he]
  simp only [Option.bind_some]
  split
  · exact ⟨0, 0, e, rfl, rfl, i64_0, i64_0⟩
  · rw [if_neg (by omega), if_neg (by omega), times_spec h1 h3, times_spec h2 h3, rtimes_spec h1 h3, rtimes_spec h2 h3]
    simp only [Option.bind_some]
    rw [rless_spec (mul_tw h2 h3) (mul_tw h1 h3), if_neg (by omega)]
    simp only [Option.bind_some]
    have t1 := mul_tw h1 h3
    have t2 := mul_tw h2 h3
    generalize x1 * x3 = a at *
    generalize x2 * x3 = b at *
    have e4 : IntKind.u64.wrap x4 = x4 := u64_id (by omega)
    have s4 : m_ref03_size F x4 = some x4 := by rw [size_spec ⟨by omega, by omega⟩]; unfold ab; rw [if_neg (by omega)]
    rw [e4]
    have key : ∀ lo hi : Int, Tw lo → Tw hi → (if b < a then b else a) = lo → (if a < b then b else a) = hi →
        IvOut (m_span_Scale_j1 F (a / 18446744073709551616) (a % 18446744073709551616) (b / 18446744073709551616) (b % 18446744073709551616) x4)
          (m_ref03_Scale_j1 F x4 (decide (lo < 0)) (ab lo / 18446744073709551616) (ab lo % 18446744073709551616) (decide (hi < 0)) (ab hi / 18446744073709551616) (ab hi % 18446744073709551616)) := by
      intro lo hi g1 g2 g3 g4
      unfold m_span_Scale_j1 m_ref03_Scale_j1
      rw [least_spec, greatest_spec, g3, g4, s4]
      simp only [Option.bind_some]
      obtain ⟨v, v1, v2, v3, v4⟩ := down_over (F := F) (z := lo) (d := x4) hF g1 (by omega)
      obtain ⟨u, u1, u2, u3, u4⟩ := up_over (F := F) (z := hi) (d := x4) hF g2 (by omega)
      rw [v1, v2, u1, u2]
      simp only [Option.bind_some]
      obtain ⟨p, q, e', w1, w2, w3⟩ := made_same (F := F) (a := v) (b := u) ⟨by omega, by omega⟩ ⟨by omega, by omega⟩
      rw [w1, w2]
      exact ⟨p, q, e', rfl, rfl, w3⟩
    unfold m_ref03_Scale_j2
    by_cases hba : b < a
    · rw [if_pos (by simpa using hba), if_neg (by omega)]
      exact key b a t2 t1 (if_pos hba) (if_neg (by omega))
    · rw [if_neg (by simpa using hba), if_neg (by omega)]
      by_cases hab : a < b
      · exact key a b t1 t2 (if_neg hba) (if_pos hab)
      · have : a = b := by omega
        subst this
        exact key a a t1 t1 (if_neg hba) (if_neg hab)
theorem keep_same {F : Nat} {e a b e' : Int} (ha : I64 a) (hb : I64 b) : IvOut (m_cells_sheet_keep F e a b e') (m_ref17_Calc_Keep F e a b e') := by
  unfold m_cells_sheet_keep m_ref17_Calc_Keep m_cells_sheet_keep_j1 m_ref17_Calc_Keep_j1
  by_cases h : e = 0
  · rw [if_pos h]
    split
    · exact ⟨0, 0, _, rfl, rfl, i64_0, i64_0⟩
    · exact ⟨a, b, _, rfl, rfl, ha, hb⟩
  · rw [if_neg h, if_pos h]
    exact ⟨0, 0, _, rfl, rfl, i64_0, i64_0⟩
theorem add_same {F : Nat} {a b c d : Int} (ha : I64 a) (hb : I64 b) (hc : I64 c) (hd : I64 d) : IvOut (m_span_Add F a b c d) (m_ref03_Add F a b c d) := by
  have e2 : m_span_check_2 F a b c d = m_ref03_both F a b c d := by
    unfold m_span_check_2 m_ref03_both m_ref03_Check m_span_check_2_j1
    split
    · rfl
    · simp only [Option.bind_some]
      split <;> rfl
  unfold m_span_Add m_ref03_Add
  rw [e2]
  obtain ⟨e, he⟩ : ∃ e, m_ref03_both F a b c d = some e := by
    unfold m_ref03_both
    obtain ⟨e1, h1, _⟩ := chk_some (F := F) (a := a) (b := b)
    obtain ⟨e3, h3, _⟩ := chk_some (F := F) (a := c) (b := d)
    rw [h1, h3]
    simp only [Option.bind_some]
    split <;> exact ⟨_, rfl⟩
  rw [he]
  simp only [Option.bind_some]
  split
  · exact ⟨0, 0, e, rfl, rfl, i64_0, i64_0⟩
  · obtain ⟨p, q, e', w1, w2, w3⟩ := made_same (F := F) (a := IntKind.i64.wrap (a + c)) (b := IntKind.i64.wrap (b + d)) (i64_rng _) (i64_rng _)
    rw [w1, w2]
    exact ⟨p, q, e', rfl, rfl, w3⟩
theorem do_same {F : Nat} {e a b c d : Int} (ha : I64 a) (hb : I64 b) (hc : I64 c) (hd : I64 d) : IvOut (m_cells_sheet_do F e a b c d) (m_ref17_Calc_Add F e a b c d) := by
  unfold m_cells_sheet_do m_ref17_Calc_Add
  obtain ⟨p, q, e', w1, w2, w3, w4⟩ := add_same (F := F) ha hb hc hd
  rw [w1, w2]
  simp only [Option.bind_some]
  obtain ⟨p', q', e'', g1, g2, g3⟩ := keep_same (F := F) (e := e) (e' := e') w3 w4
  split
  · rename_i h
    refine ⟨0, 0, e, rfl, ?_, i64_0, i64_0⟩
    unfold m_ref17_Calc_Keep m_ref17_Calc_Keep_j1
    rw [if_neg h, if_pos h]
    rfl
  · rw [g1, g2]
    exact ⟨p', q', e'', rfl, rfl, g3⟩
theorem sphere_same {F : Nat} {x1 x2 x3 x4 x5 x6 : Int} : ∃ e, m_sphere_Check F x1 x2 x3 x4 x5 x6 = some e ∧ m_ref17_Check F x1 x2 x3 x4 x5 x6 = some e := by
  unfold m_sphere_Check m_ref17_Check m_sphere_Check_j1 m_ref17_Check_j1 m_span_Check
  simp only [chk_eq]
  obtain ⟨e1, h1, _⟩ := chk_some (F := F) (a := x1) (b := x2)
  obtain ⟨e2, h2, _⟩ := chk_some (F := F) (a := x3) (b := x4)
  obtain ⟨e3, h3, _⟩ := chk_some (F := F) (a := x5) (b := x6)
  rw [h1, h2, h3]
  simp only [Option.bind_some]
  split
  · exact ⟨_, rfl, rfl⟩
  · split
    · exact ⟨_, rfl, rfl⟩
    · split <;> exact ⟨_, rfl, rfl⟩
theorem ahead_same {F : Nat} {x1 x2 x3 x4 x5 x6 x7 x8 x9 x10 x11 x12 x13 x14 x15 : Int} (hF : 8589934592 ≤ F) (i1 : I64 x1) (i2 : I64 x2) (i3 : I64 x3) (i4 : I64 x4) (i5 : I64 x5) (i6 : I64 x6) (i7 : I64 x7) (i8 : I64 x8) (i9 : I64 x9) (i10 : I64 x10) (i11 : I64 x11) (i12 : I64 x12) (i13 : I64 x13) (i14 : I64 x14) (i15 : I64 x15) :
    ∃ r, m_cells_Ahead F x1 x2 x3 x4 x5 x6 x7 x8 x9 x10 x11 x12 x13 x14 x15 = some r ∧ m_ref30_Ahead F x1 x2 x3 x4 x5 x6 x7 x8 x9 x10 x11 x12 x13 x14 x15 = some r := by
  unfold m_cells_Ahead m_ref30_Ahead m_cells_Ahead_j3 m_cells_Ahead_j2 m_cells_Ahead_j1 m_ref30_Ahead_j2 m_ref30_Ahead_j1 m_span_Check m_cells_begin
  obtain ⟨e1, h1, h1'⟩ := sphere_same (F := F) (x1 := x1) (x2 := x2) (x3 := x3) (x4 := x4) (x5 := x5) (x6 := x6)
  obtain ⟨e2, h2, h2'⟩ := sphere_same (F := F) (x1 := x7) (x2 := x8) (x3 := x9) (x4 := x10) (x5 := x11) (x6 := x12)
  obtain ⟨e3, h3, h3'⟩ := chk_some (F := F) (a := x14) (b := x15)
  rw [h1, h1', h2, h2', chk_eq, h3]
  simp only [Option.bind_some]
  split
  · exact ⟨_, rfl, rfl⟩
  split
  · exact ⟨_, rfl, rfl⟩
  split
  · exact ⟨_, rfl, rfl⟩
  split
  · exact ⟨_, rfl, rfl⟩
  have hday : (0 : Int) < 86400000000 ∧ (86400000000 : Int) < 9223372036854775808 := ⟨by omega, by omega⟩
  have i1' : I64 1 := ⟨by omega, by omega⟩
  obtain ⟨a1, b1, c1, g1, g1', p1, q1⟩ := scale_same (F := F) hF i7 i8 i13 hday
  rw [g1, g1']; simp only [Option.bind_some]
  obtain ⟨a2, b2, c2, g2, g2', p2, q2⟩ := keep_same (F := F) (e := 0) (e' := c1) p1 q1
  rw [g2, g2']; simp only [Option.bind_some]
  obtain ⟨a3, b3, c3, g3, g3', p3, q3⟩ := do_same (F := F) (e := c2) i1 i2 p2 q2
  rw [g3, g3']; simp only [Option.bind_some]
  obtain ⟨a4, b4, c4, g4, g4', p4, q4⟩ := scale_same (F := F) hF i9 i10 i13 hday
  rw [g4, g4']; simp only [Option.bind_some]
  obtain ⟨a5, b5, c5, g5, g5', p5, q5⟩ := keep_same (F := F) (e := c3) (e' := c4) p4 q4
  rw [g5, g5']; simp only [Option.bind_some]
  obtain ⟨a6, b6, c6, g6, g6', p6, q6⟩ := do_same (F := F) (e := c5) i3 i4 p5 q5
  rw [g6, g6']; simp only [Option.bind_some]
  obtain ⟨a7, b7, c7, g7, g7', p7, q7⟩ := scale_same (F := F) hF i11 i12 i13 hday
  rw [g7, g7']; simp only [Option.bind_some]
  obtain ⟨a8, b8, c8, g8, g8', p8, q8⟩ := keep_same (F := F) (e := c6) (e' := c7) p7 q7
  rw [g8, g8']; simp only [Option.bind_some]
  obtain ⟨a9, b9, c9, g9, g9', p9, q9⟩ := do_same (F := F) (e := c8) i5 i6 p8 q8
  rw [g9, g9']; simp only [Option.bind_some]
  obtain ⟨a10, b10, c10, g10, g10', p10, q10⟩ := scale_same (F := F) hF i14 i15 i13 hday
  rw [g10, g10']; simp only [Option.bind_some]
  obtain ⟨a11, b11, c11, g11, g11', p11, q11⟩ := keep_same (F := F) (e := c9) (e' := c10) p10 q10
  rw [g11, g11']; simp only [Option.bind_some]
  obtain ⟨a12, b12, c12, g12, g12', p12, q12⟩ := scale_same (F := F) hF p11 q11 i13 hday
  rw [g12, g12']; simp only [Option.bind_some]
  obtain ⟨a13, b13, c13, g13, g13', p13, q13⟩ := keep_same (F := F) (e := c11) (e' := c12) p12 q12
  rw [g13, g13']; simp only [Option.bind_some]
  obtain ⟨a14, b14, c14, g14, g14', p14, q14⟩ := scale_same (F := F) (x4 := 2) hF p13 q13 i1' ⟨by omega, by omega⟩
  rw [g14, g14']; simp only [Option.bind_some]
  obtain ⟨a15, b15, c15, g15, g15', p15, q15⟩ := keep_same (F := F) (e := c13) (e' := c14) p14 q14
  rw [g15, g15']; simp only [Option.bind_some]
  have iw : I64 (IntKind.i64.wrap (0 - b15)) := i64_rng _
  obtain ⟨a16, b16, c16, g16, g16', p16, q16⟩ := do_same (F := F) (e := c15) p3 q3 iw q15
  rw [g16, g16']; simp only [Option.bind_some]
  obtain ⟨a17, b17, c17, g17, g17', p17, q17⟩ := do_same (F := F) (e := c16) p6 q6 iw q15
  rw [g17, g17']; simp only [Option.bind_some]
  obtain ⟨a18, b18, c18, g18, g18', p18, q18⟩ := do_same (F := F) (e := c17) p9 q9 iw q15
  rw [g18, g18']; simp only [Option.bind_some]
  split <;> exact ⟨_, rfl, rfl⟩
end Go.Proofs.Ytplgfmincflodaa
