/- Part of a proof: laws. -/
import Derived.Test.YtplgfmincflodaaWae
import Derived.Test.YtplgfmincflodaaIntLaws
set_option linter.unusedVariables false
set_option linter.unusedSimpArgs false
namespace Go.Proofs.Ytplgfmincflodaa
open Go Go.SL
abbrev J64 (x : Int) : Prop := -9223372036854775808 ≤ x ∧ x ≤ 9223372036854775807
theorem of_core {F k : Nat} {S A B x2 x3 : Int} (hk : k ≤ 6) (hS : (2 : Int) ^ k = S) (hS1 : 1 ≤ S ∧ S ≤ 64) (hA : (8796093022208 : Int) / S = A) (hB : (137438953472 : Int) / S = B) (hA1 : 137438953472 ≤ A ∧ A ≤ 8796093022208) (hB1 : 2147483648 ≤ B ∧ B ≤ 137438953472) (h2 : 0 ≤ x2 ∧ x2 ≤ 8796093022208) (h3 : -68719476736 ≤ x3 ∧ x3 ≤ 68719476736) :
    ∃ r, m_cells_Of F (k : Int) x2 x3 = some r ∧ m_ref30_Of F (k : Int) x2 x3 = some r := by
  unfold m_cells_Of m_ref30_Of m_cells_outside
  have e64 : IntKind.bits .i64 = 64 := rfl
  have em : min (Int.toNat (k : Int)) 64 = k := by omega
  have d1 : (decide ((k : Int) < 0) || decide ((k : Int) > 6)) = false := by simp; omega
  have d2 : (decide (x2 < 0) || decide (x2 > 8796093022208)) = false := by simp; omega
  have d3 : (decide (x3 < IntKind.i64.wrap (0 - 68719476736)) || decide (x3 > 68719476736)) = false := by
    rw [i64_of (by omega)]; simp; omega
  have d4 : (decide (x2 < 0) || decide (x2 > 8796093022208) || decide (x3 < -68719476736) || decide (x3 > 68719476736)) = false := by simp; omega
  rw [d1, d4, d2]
  simp only [Bool.false_eq_true, if_false, Option.bind_some, d3]
  unfold m_cells_Of_j1 m_cells_CheckBox m_cells_CheckBox_j1
  simp only [Bool.false_eq_true, if_false, e64, em, hS, Int.one_mul]
  have p3 : (0 : Int) ≤ (k : Int) := by omega
  simp only [if_pos p3]
  rw [i64_of (x := S) (by omega)]
  simp only [Option.bind_some]
  rw [i64_of (x := S - 1) (by omega)]
  have f1 : Int.fdiv 8796093022208 S = A := by rw [Int.fdiv_eq_ediv_of_nonneg _ (by omega), hA]
  have f2 : Int.fdiv 137438953472 S = B := by rw [Int.fdiv_eq_ediv_of_nonneg _ (by omega), hB]
  have f3 : Int.tdiv 8796093022208 S = A := by rw [Int.tdiv_eq_ediv_of_nonneg (by omega), hA]
  have f4 : Int.tdiv 137438953472 S = B := by rw [Int.tdiv_eq_ediv_of_nonneg (by omega), hB]
  have f5 : Int.tdiv x2 A = x2 / A := Int.tdiv_eq_ediv_of_nonneg h2.1
  have f6 : IntKind.i64.wrap (x3 + 68719476736) = x3 + 68719476736 := i64_of (by omega)
  have f7 : Int.tdiv (x3 + 68719476736) B = (x3 + 68719476736) / B := Int.tdiv_eq_ediv_of_nonneg (by omega)
  have fA : IntKind.i64.wrap A = A := i64_of (by omega)
  have fB : IntKind.i64.wrap B = B := i64_of (by omega)
  have g1 : 0 ≤ x2 / A := Int.ediv_nonneg h2.1 (by omega)
  have g2 : x2 / A ≤ x2 := Int.ediv_le_self _ h2.1
  have g3 : 0 ≤ (x3 + 68719476736) / B := Int.ediv_nonneg (by omega) (by omega)
  have g4 : (x3 + 68719476736) / B ≤ x3 + 68719476736 := Int.ediv_le_self _ (by omega)
  rw [f1, f2, f3, f4, fA, fB, f5, f6, f7]
  generalize x2 / A = u at *
  generalize (x3 + 68719476736) / B = v at *
  rw [i64_of (x := u) (by omega), i64_of (x := v) (by omega)]
  have p1 : A ≠ 0 := by omega
  have p2 : B ≠ 0 := by omega
  have p4 : S ≠ 0 := by omega
  simp only [if_pos p1, if_pos p2, if_pos p3, if_pos p4, Option.bind_some]
  have q1 : (decide ((k : Int) < 0) || decide ((k : Int) > 6) || decide ((if v < u then v else u) < 0)) = false := by simp; split <;> omega
  rw [q1]
  simp only [Bool.false_eq_true, if_false]
  rw [Int.fdiv_eq_ediv_of_nonneg _ (by omega)]
  have q2 : ((if u < v then v else u) / S > 0) ↔ (u ≥ S ∨ v ≥ S) := by
    have h := Int.le_ediv_iff_mul_le (a := 1) (b := if u < v then v else u) (c := S) (by omega)
    constructor
    · intro h0
      have := h.1 (by omega)
      split at this <;> omega
    · intro h0
      have := h.2 (by split <;> omega)
      omega
  by_cases hm : (if u < v then v else u) / S > 0
  · have := q2.1 hm
    simp only [hm, decide_true, if_true, Option.bind_some]
    exact ⟨_, rfl, rfl⟩
  · have h5 : ¬ (u ≥ S ∨ v ≥ S) := fun h => hm (q2.2 h)
    simp only [hm, decide_false, Bool.false_eq_true, if_false, if_true, Option.bind_some]
    rw [if_neg (by omega), if_neg (by omega)]
    exact ⟨_, rfl, rfl⟩
theorem of_same {F : Nat} {x1 x2 x3 : Int} (h3 : J64 x3) : ∃ r, m_cells_Of F x1 x2 x3 = some r ∧ m_ref30_Of F x1 x2 x3 = some r := by
  obtain ⟨h3a, h3b⟩ := h3
  by_cases hd : (decide (x1 < 0) || decide (x1 > 6)) = true
  · unfold m_cells_Of m_ref30_Of
    rw [if_pos hd, if_pos hd]
    exact ⟨_, rfl, rfl⟩
  · by_cases hr : 0 ≤ x2 ∧ x2 ≤ 8796093022208
    · by_cases hs : -68719476736 ≤ x3 ∧ x3 ≤ 68719476736
      · simp only [Bool.or_eq_true, decide_eq_true_eq] at hd
        have : x1 = 0 ∨ x1 = 1 ∨ x1 = 2 ∨ x1 = 3 ∨ x1 = 4 ∨ x1 = 5 ∨ x1 = 6 := by omega
        rcases this with rfl | rfl | rfl | rfl | rfl | rfl | rfl
        · exact of_core (k := 0) (S := 1) (A := 8796093022208) (B := 137438953472) (by omega) (by decide) (by omega) (by decide) (by decide) (by omega) (by omega) hr hs
        · exact of_core (k := 1) (S := 2) (A := 4398046511104) (B := 68719476736) (by omega) (by decide) (by omega) (by decide) (by decide) (by omega) (by omega) hr hs
        · exact of_core (k := 2) (S := 4) (A := 2199023255552) (B := 34359738368) (by omega) (by decide) (by omega) (by decide) (by decide) (by omega) (by omega) hr hs
        · exact of_core (k := 3) (S := 8) (A := 1099511627776) (B := 17179869184) (by omega) (by decide) (by omega) (by decide) (by decide) (by omega) (by omega) hr hs
        · exact of_core (k := 4) (S := 16) (A := 549755813888) (B := 8589934592) (by omega) (by decide) (by omega) (by decide) (by decide) (by omega) (by omega) hr hs
        · exact of_core (k := 5) (S := 32) (A := 274877906944) (B := 4294967296) (by omega) (by decide) (by omega) (by decide) (by decide) (by omega) (by omega) hr hs
        · exact of_core (k := 6) (S := 64) (A := 137438953472) (B := 2147483648) (by omega) (by decide) (by omega) (by decide) (by decide) (by omega) (by omega) hr hs
      · unfold m_cells_Of m_ref30_Of m_cells_outside m_cells_Of_j1
        have d3 : (decide (x3 < IntKind.i64.wrap (0 - 68719476736)) || decide (x3 > 68719476736)) = true := by
          rw [i64_of (by omega)]; simp; omega
        have d4 : (decide (x2 < 0) || decide (x2 > 8796093022208) || decide (x3 < -68719476736) || decide (x3 > 68719476736)) = true := by simp; omega
        have d2 : (decide (x2 < 0) || decide (x2 > 8796093022208)) = false := by simp; omega
        rw [if_neg hd, if_neg hd, d4, d2]
        simp only [Bool.false_eq_true, if_false, if_true, Option.bind_some, d3]
        exact ⟨_, rfl, rfl⟩
    · unfold m_cells_Of m_ref30_Of m_cells_Of_j1
      have d2 : (decide (x2 < 0) || decide (x2 > 8796093022208)) = true := by simp; omega
      rw [if_neg hd, if_neg hd, if_pos d2, d2]
      simp only [Bool.true_or, if_true]
      exact ⟨_, rfl, rfl⟩
end Go.Proofs.Ytplgfmincflodaa
