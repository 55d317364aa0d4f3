/- Moving all tasks in time by the same moves the slots by it. -/
import Derived.Test.YtipedambeemdaaaModel
set_option linter.unusedVariables false
set_option linter.unusedSimpArgs false
namespace Go.SL
open Go
def shT (by' : Int) (t : BTask) : BTask := (t.1 + by', t.2.1 + by', t.2.2.1, t.2.2.2)
def shS (by' : Int) (s : Int × Int) : Int × Int := (s.1, s.2 + by')
def shR (by' : Int) (b : BRun) : BRun := (b.1.map (shS by'), b.2.1 + by', b.2.2)
def RelR (by' : Int) (b b' : BRun) : Prop := b'.1 = b.1.map (shS by') ∧ b'.2.2 = b.2.2 ∧ (b'.2.1 = b.2.1 + by' ∨ b.2.2 = 0)
theorem addC_sh {by' e e' : Int} {i : Nat} {t : BTask} {a : BRun} (h : stC (shT by' t) e' = stC t e + by') : addC i (shT by' t) e' (shR by' a) = shR by' (addC i t e a) := by
  have h2 : (shT by' t).2.2.2 = t.2.2.2 := rfl
  unfold addC shR
  rw [h, h2]
  simp [shS]
theorem candC_rel {rest rest' : Nat → Int → BRun} {u : Nat} {e e' by' : Int} {i : Nat} {t : BTask} {b b' : BRun} (hr : ∀ v x, rest' v (x + by') = shR by' (rest v x)) (h0 : ∀ v x, 0 ≤ (rest v x).2.2) (ht : stC (shT by' t) e' = stC t e + by') (h1 : 1 ≤ t.2.2.2)
    (hb0 : 0 ≤ b.2.2) (hb : RelR by' b b') : RelR by' (candC rest u e i t b) (candC rest' u e' i (shT by' t) b') ∧ 0 ≤ (candC rest u e i t b).2.2 := by
  unfold candC
  by_cases hbit : u.testBit i = true
  · rw [if_pos hbit, if_pos hbit]; exact ⟨hb, hb0⟩
  rw [if_neg hbit, if_neg hbit, ht]
  have e1 : (shT by' t).2.2.1 = t.2.2.1 := rfl
  have e2 : (shT by' t).2.1 = t.2.1 + by' := rfl
  have e3 : (shT by' t).2.2.2 = t.2.2.2 := rfl
  have e4 : stC t e + by' + t.2.2.1 = stC t e + t.2.2.1 + by' := by omega
  rw [e1, e2, e3, e4]
  by_cases hs : stC t e + t.2.2.1 ≤ t.2.1
  · have hs' : stC t e + t.2.2.1 + by' ≤ t.2.1 + by' := by omega
    rw [if_pos hs, if_pos hs', hr]
    have h2 := h0 (u ||| 2 ^ i) (stC t e + t.2.2.1)
    generalize rest (u ||| 2 ^ i) (stC t e + t.2.2.1) = a at *
    dsimp only
    have e5 : (shR by' a).2.2 = a.2.2 := rfl
    have e6 : (shR by' a).2.1 = a.2.1 + by' := rfl
    rw [e5, e6]
    obtain ⟨g1, g2, g3⟩ := hb
    rw [g2]
    by_cases hc : a.2.2 + t.2.2.2 > b.2.2 ∨ (a.2.2 + t.2.2.2 = b.2.2 ∧ a.2.1 < b.2.1)
    · have hc' : a.2.2 + t.2.2.2 > b.2.2 ∨ (a.2.2 + t.2.2.2 = b.2.2 ∧ a.2.1 + by' < b'.2.1) := by omega
      rw [if_pos hc, if_pos hc', addC_sh ht]
      refine ⟨⟨rfl, rfl, .inl rfl⟩, ?_⟩
      simp only [addC]; omega
    · have hc' : ¬ (a.2.2 + t.2.2.2 > b.2.2 ∨ (a.2.2 + t.2.2.2 = b.2.2 ∧ a.2.1 + by' < b'.2.1)) := by omega
      rw [if_neg hc, if_neg hc']
      exact ⟨⟨g1, g2, g3⟩, hb0⟩
  · have hs' : ¬ (stC t e + t.2.2.1 + by' ≤ t.2.1 + by') := by omega
    rw [if_neg hs, if_neg hs']; exact ⟨hb, hb0⟩
theorem foldC_rel {rest rest' : Nat → Int → BRun} {u : Nat} {e e' by' : Int} (hr : ∀ v x, rest' v (x + by') = shR by' (rest v x)) (h0 : ∀ v x, 0 ≤ (rest v x).2.2) : ∀ (l : List BTask) (i : Nat) (b b' : BRun), (∀ t ∈ l, stC (shT by' t) e' = stC t e + by' ∧ 1 ≤ t.2.2.2) →
    0 ≤ b.2.2 → RelR by' b b' → RelR by' (foldC rest u e l i b) (foldC rest' u e' (l.map (shT by')) i b') ∧ 0 ≤ (foldC rest u e l i b).2.2
  | [], _, _, _, _, h, hb => ⟨hb, h⟩
  | t :: l, i, b, b', ht, h, hb => by
    obtain ⟨h1, h2⟩ := candC_rel (u := u) (i := i) hr h0 (ht t (by simp)).1 (ht t (by simp)).2 h hb
    exact foldC_rel hr h0 l (i + 1) _ _ (fun t' h' => ht t' (by simp [h'])) h2 h1
theorem candC_sh {rest rest' : Nat → Int → BRun} {u : Nat} {e by' : Int} {i : Nat} {t : BTask} {b : BRun} (hr : ∀ v x, rest' v (x + by') = shR by' (rest v x)) : candC rest' u (e + by') i (shT by' t) (shR by' b) = shR by' (candC rest u e i t b) := by
  have ht : stC (shT by' t) (e + by') = stC t e + by' := by unfold stC shT; simp only; split <;> split <;> omega
  unfold candC
  by_cases hbit : u.testBit i = true
  · rw [if_pos hbit, if_pos hbit]
  rw [if_neg hbit, if_neg hbit, ht]
  have e1 : (shT by' t).2.2.1 = t.2.2.1 := rfl
  have e2 : (shT by' t).2.1 = t.2.1 + by' := rfl
  have e3 : (shT by' t).2.2.2 = t.2.2.2 := rfl
  have e4 : stC t e + by' + t.2.2.1 = stC t e + t.2.2.1 + by' := by omega
  rw [e1, e2, e3, e4]
  by_cases hs : stC t e + t.2.2.1 ≤ t.2.1
  · have hs' : stC t e + t.2.2.1 + by' ≤ t.2.1 + by' := by omega
    rw [if_pos hs, if_pos hs', hr]
    generalize rest (u ||| 2 ^ i) (stC t e + t.2.2.1) = a at *
    dsimp only
    have e5 : (shR by' a).2.2 = a.2.2 := rfl
    have e6 : (shR by' a).2.1 = a.2.1 + by' := rfl
    have e7 : (shR by' b).2.2 = b.2.2 := rfl
    have e8 : (shR by' b).2.1 = b.2.1 + by' := rfl
    rw [e5, e6, e7, e8]
    by_cases hc : a.2.2 + t.2.2.2 > b.2.2 ∨ (a.2.2 + t.2.2.2 = b.2.2 ∧ a.2.1 < b.2.1)
    · have hc' : a.2.2 + t.2.2.2 > b.2.2 ∨ (a.2.2 + t.2.2.2 = b.2.2 ∧ a.2.1 + by' < b.2.1 + by') := by omega
      rw [if_pos hc, if_pos hc', addC_sh ht]
    · have hc' : ¬ (a.2.2 + t.2.2.2 > b.2.2 ∨ (a.2.2 + t.2.2.2 = b.2.2 ∧ a.2.1 + by' < b.2.1 + by')) := by omega
      rw [if_neg hc, if_neg hc']
  · have hs' : ¬ (stC t e + t.2.2.1 + by' ≤ t.2.1 + by') := by omega
    rw [if_neg hs, if_neg hs']
theorem foldC_sh {rest rest' : Nat → Int → BRun} {u : Nat} {e by' : Int} (hr : ∀ v x, rest' v (x + by') = shR by' (rest v x)) : ∀ (l : List BTask) (i : Nat) (b : BRun), foldC rest' u (e + by') (l.map (shT by')) i (shR by' b) = shR by' (foldC rest u e l i b)
  | [], _, _ => rfl
  | t :: l, i, b => by
    show foldC rest' u (e + by') (l.map (shT by')) (i + 1) (candC rest' u (e + by') i (shT by' t) (shR by' b)) = _
    rw [candC_sh hr]
    exact foldC_sh hr l (i + 1) _
theorem bestC_sh (l : List BTask) (by' : Int) : ∀ (n u : Nat) (e : Int), bestC (l.map (shT by')) n u (e + by') = shR by' (bestC l n u e)
  | 0, u, e => by simp [bestC, shR]
  | n + 1, u, e => by
    show foldC (bestC (l.map (shT by')) n) u (e + by') (l.map (shT by')) 0 (shR by' ([], e, 0)) = _
    exact foldC_sh (bestC_sh l by' n) l 0 _
theorem bestC_nonneg (l : List BTask) (ok : ∀ t ∈ l, Okt t) : ∀ (n u : Nat) (e : Int), 0 ≤ (bestC l n u e).2.2
  | 0, u, e => Int.le_refl _
  | n + 1, u, e => foldC_ind (P := fun b => 0 ≤ b.2.2) l 0 _ (Int.le_refl _) (fun k t hk _ _ => by
      have := bestC_nonneg l ok n (u ||| 2 ^ (0 + k)) (stC t e + t.2.2.1)
      have := (ok t (List.mem_of_getElem? hk)).2.2.2.2.2.2.1
      simp only [addC]; omega)
theorem best_moved (l : List BTask) (by' : Int) (ok : ∀ t ∈ l, Okt t) (ok' : ∀ t ∈ l.map (shT by'), Okt t) (n : Nat) : RelR by' (bestC l (n + 1) 0 (-5000000000000000)) (bestC (l.map (shT by')) (n + 1) 0 (-5000000000000000)) := by
  refine (foldC_rel (bestC_sh l by' n) (bestC_nonneg l ok n) l 0 _ _ (fun t ht => ⟨?_, (ok t ht).2.2.2.2.2.2.1⟩) (Int.le_refl _) ⟨rfl, rfl, .inr rfl⟩).1
  have h1 := ok t ht
  have h2 := ok' _ (List.mem_map_of_mem ht)
  unfold Okt shT at *
  unfold stC
  simp only at *
  rw [if_neg (by omega), if_neg (by omega)]
end Go.SL
namespace Go.Proofs.Ytipedambeemdaaa
open Go Go.SL
theorem moved_loop (F : Nat) (x14 x16 : (List (Int × Int)) × Int × Int) (by' : Int) (hb : -5000000000000000 ≤ by' ∧ by' ≤ 5000000000000000) (hx : x16.1 = x14.1.map (shS by')) (hl : x14.1.length ≤ 256) :
    ∀ (k N i : Nat), i + k = x14.1.length → k < N → m_law42_PlanMoved_l2 F x14 x16 by' true N (i : Int) = some true
  | _, 0, _, _, h => by omega
  | 0, N + 1, i, hi, _ => by
    show m_law42_PlanMoved_b2 F x14 x16 by' true (m_law42_PlanMoved_l2 F x14 x16 by' true N) (i : Int) = _
    unfold m_law42_PlanMoved_b2 m_law42_PlanMoved_j1
    rw [if_neg (by omega)]
  | k + 1, N + 1, i, hi, hN => by
    have hil : i < x14.1.length := by omega
    obtain ⟨s, hs⟩ : ∃ s, x14.1[i]? = some s := ⟨_, List.getElem?_eq_getElem hil⟩
    have hs' : x16.1[i]? = some (shS by' s) := by rw [hx, List.getElem?_map, hs]; rfl
    have hw : IntKind.i64.wrap ((i : Int) + 1) = ((i + 1 : Nat) : Int) := by rw [i64_of (by omega)]; omega
    show m_law42_PlanMoved_b2 F x14 x16 by' true (m_law42_PlanMoved_l2 F x14 x16 by' true N) (i : Int) = _
    unfold m_law42_PlanMoved_b2
    rw [if_pos (by omega), idx_at hs, Option.bind_some, idx_at hs', Option.bind_some, hw]
    have e1 : (shS by' s).2 - s.2 = by' := by simp only [shS]; omega
    have e2 : (shS by' s).1 = s.1 := rfl
    rw [e1, e2, i64_of (by omega), if_neg (by simp)]
    exact moved_loop F x14 x16 by' hb hx hl k N (i + 1) (by omega) (by omega)
theorem moved_j3 (l : List BTask) (hl : l.length ≤ 8) (ok : ∀ t ∈ l, Okt t) (by' : Int) (hb : -5000000000000000 ≤ by' ∧ by' ≤ 5000000000000000) : m_law42_PlanMoved_j3 8589934592 true l by' (l.map (shT by')) = some true := by
  unfold m_law42_PlanMoved_j3
  obtain ⟨c, h1, h2⟩ := check_ref 8589934592 (by omega) (l.map (shT by')) (by simpa using hl)
  rw [h1, Option.bind_some]
  by_cases hc : c = 0
  · have ok' := h2 hc
    rw [if_neg (by omega), best_model l hl ok, best_model _ (by simpa using hl) ok', Option.bind_some, Option.bind_some]
    have hm := best_moved l by' ok ok' 8589934591
    have hf := (bestC_fits l hl ok (8589934591 + 1) 0 (-5000000000000000) (by omega) (by unfold Oke; omega)).len
    rw [show (8589934591 + 1 : Nat) = 8589934592 from rfl] at hm hf
    obtain ⟨g1, g2, g3⟩ := hm
    generalize bestC l 8589934592 0 (-5000000000000000) = b at *
    generalize bestC (l.map (shT by')) 8589934592 0 (-5000000000000000) = b' at *
    dsimp only
    rw [if_neg (by simp [g1, g2])]
    have hf' : b.1.length ≤ 256 := by omega
    exact moved_loop 8589934592 (b.1, b.2.2, 0) (b'.1, b'.2.2, 0) by' hb g1 hf' b.1.length 8589934592 0 (Nat.zero_add _) (Nat.lt_of_le_of_lt hf' (by decide))
  · rw [if_pos hc]
theorem moved_build (l : List BTask) (hl : l.length ≤ 8) (ok : ∀ t ∈ l, Okt t) (by' : Int) (hb : -5000000000000000 ≤ by' ∧ by' ≤ 5000000000000000) :
    ∀ (k N i : Nat), i + k = l.length → k < N → m_law42_PlanMoved_l4 8589934592 l by' true N ((l.take i).map (shT by')) (i : Int) = some true
  | _, 0, _, _, h => by omega
  | 0, N + 1, i, hi, _ => by
    show m_law42_PlanMoved_b4 8589934592 l by' true (m_law42_PlanMoved_l4 8589934592 l by' true N) ((l.take i).map (shT by')) (i : Int) = _
    unfold m_law42_PlanMoved_b4
    rw [if_neg (by omega), List.take_of_length_le (by omega)]
    exact moved_j3 l hl ok by' hb
  | k + 1, N + 1, i, hi, hN => by
    have hil : i < l.length := by omega
    obtain ⟨t, ht⟩ : ∃ s, l[i]? = some s := ⟨_, List.getElem?_eq_getElem hil⟩
    have hok := ok t (List.mem_of_getElem? ht)
    have hw : IntKind.i64.wrap ((i : Int) + 1) = ((i + 1 : Nat) : Int) := by rw [i64_of (by omega)]; omega
    show m_law42_PlanMoved_b4 8589934592 l by' true (m_law42_PlanMoved_l4 8589934592 l by' true N) ((l.take i).map (shT by')) (i : Int) = _
    unfold m_law42_PlanMoved_b4
    unfold Okt at hok
    rw [if_pos (by omega), idx_at ht, Option.bind_some, i64_of (by omega), Option.bind_some, i64_of (by omega), Option.bind_some, if_pos (by simp; omega), hw]
    have e1 : (l.take i).map (shT by') ++ [(t.1 + by', t.2.1 + by', t.2.2.1, t.2.2.2)] = (l.take (i + 1)).map (shT by') := by
      rw [List.take_add_one, ht]; simp [shT]
    rw [e1]
    exact moved_build l hl ok by' hb k N (i + 1) (by omega) (by omega)
theorem law_true (l : List BTask) (by' : Int) : m_law42_PlanMoved 8589934592 l by' = some true := by
  unfold m_law42_PlanMoved
  rw [alive_true, Option.bind_some]
  by_cases hl : (l.length : Int) > 5
  · rw [if_pos hl]; unfold m_law42_PlanMoved_j5; rw [if_pos (by simp)]
  · rw [if_neg hl]
    obtain ⟨c, h1, h2⟩ := check_ref 8589934592 (by omega) l (by omega)
    rw [h1, Option.bind_some]
    unfold m_law42_PlanMoved_j5
    by_cases hc : (decide (c ≠ (0 : Int)) || decide (by' < (-5000000000000000 : Int)) || decide (by' > (5000000000000000 : Int)) || !true) = true
    · rw [if_pos hc]
    · rw [if_neg hc]
      simp only [Bool.or_eq_true, decide_eq_true_eq, not_or] at hc
      have h3 := h2 (by omega)
      exact moved_build l (by omega) h3 by' (by omega) l.length 8589934592 0 (by omega) (by omega)
end Go.Proofs.Ytipedambeemdaaa
