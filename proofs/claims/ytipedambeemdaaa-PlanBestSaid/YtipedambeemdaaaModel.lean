/- What the models of Check and Best give. -/
import Derived.Test.YtipedambeemdaaaWae
import Derived.Test.YtipedambeemdaaaBestC
set_option linter.unusedVariables false
set_option linter.unusedSimpArgs false
namespace Go.Proofs.Ytipedambeemdaaa
open Go Go.SL
theorem bit_and (u i : Nat) (hu : u < 256) (hi : i < 8) : (bitand .i64 (Int.fdiv (u : Int) (2 ^ (min (Int.toNat (i : Int)) (IntKind.bits .i64)))) 1 ≠ (0 : Int)) ↔ u.testBit i = true := by
  have : ∀ u : Fin 256, ∀ i : Fin 8, decide (bitand .i64 (Int.fdiv (u.val : Int) (2 ^ (min (Int.toNat (i.val : Int)) (IntKind.bits .i64)))) 1 ≠ (0 : Int)) = u.val.testBit i.val := by decide +kernel
  have h := this ⟨u, hu⟩ ⟨i, hi⟩
  simp only at h
  rw [← h]; simp
theorem bit_or64 (u i : Nat) (hu : u < 256) (hi : i < 8) : bitor .i64 (u : Int) (IntKind.i64.wrap (1 * 2 ^ (min (Int.toNat (i : Int)) (IntKind.bits .i64)))) = ((u ||| 2 ^ i : Nat) : Int) := by
  have : ∀ u : Fin 256, ∀ i : Fin 8, bitor .i64 (u.val : Int) (IntKind.i64.wrap (1 * 2 ^ (min (Int.toNat (i.val : Int)) (IntKind.bits .i64)))) = ((u.val ||| 2 ^ i.val : Nat) : Int) := by decide +kernel
  exact this ⟨u, hu⟩ ⟨i, hi⟩
theorem idx_at {T : Type} {l : List T} {i : Nat} {x : T} (h : l[i]? = some x) : idx l (i : Int) = some x := by
  unfold idx; rw [if_pos (by omega)]; simpa using h
theorem then_model (F : Nat) {e : Int} {i : Nat} {t : BTask} (ht : Okt t) (he : Oke e) : m_plan_run_then_2 F ([(0, 0)]) e 0 (i : Int) t.1 t.2.1 t.2.2.1 t.2.2.2 = some ([(0, 0), ((i : Int), stC t e)], stC t e + t.2.2.1, t.2.2.2, decide (stC t e + t.2.2.1 ≤ t.2.1)) := by
  have h1 := stC_ok ht he
  unfold m_plan_run_then_2 m_plan_run_then_2_j1
  unfold Okt Oke at *
  have e1 : (if t.1 < e then e else t.1) = stC t e := rfl
  rw [e1]
  generalize stC t e = s at *
  have w1 : IntKind.i64.wrap (s + t.2.2.1) = s + t.2.2.1 := i64_of (by omega)
  have w2 : IntKind.i64.wrap (0 + t.2.2.2) = t.2.2.2 := by rw [i64_of (by omega)]; omega
  rw [w1, w2]
  simp
theorem loop_model (F : Nat) (l : List BTask) (hl : l.length ≤ 8) (ok : ∀ t ∈ l, Okt t) (u : Nat) (hu : u < 256) (e : Int) (he : Oke e) (n : Nat) (hn : n ≤ 8589934592)
    (rec : Int → Int → (List (Int × Int × Int × Int)) → Option ((List (Int × Int)) × Int × Int)) (hrec : ∀ v en, v < 256 → u < v → Oke en → rec ((v : Nat) : Int) en l = some (bestC l n v en)) :
    ∀ (k N i : Nat) (b : BRun), i + k = l.length → k < N → b.2.2 ≤ 9000000000000000 → m_plan_Best_1_l2 F l (u : Int) e rec N b.1 b.2.1 b.2.2 (i : Int) = some (foldC (bestC l n) u e (l.drop i) i b)
  | 0, 0, _, _, _, h, _ => by omega
  | 0, N + 1, i, b, hi, _, hb => by
    show m_plan_Best_1_b2 F l (u : Int) e rec (m_plan_Best_1_l2 F l (u : Int) e rec N) b.1 b.2.1 b.2.2 (i : Int) = _
    unfold m_plan_Best_1_b2 m_plan_Best_1_j1
    rw [if_neg (by omega), List.drop_of_length_le (by omega)]
    rfl
  | k + 1, 0, _, _, _, h, _ => by omega
  | k + 1, N + 1, i, b, hi, hN, hb => by
    have hil : i < l.length := by omega
    obtain ⟨t, ht⟩ : ∃ t, l[i]? = some t := ⟨_, List.getElem?_eq_getElem hil⟩
    have hok := ok t (List.mem_of_getElem? ht)
    have ih : ∀ b' : BRun, b'.2.2 ≤ 9000000000000000 → m_plan_Best_1_l2 F l (u : Int) e rec N b'.1 b'.2.1 b'.2.2 ((i + 1 : Nat) : Int) = some (foldC (bestC l n) u e (l.drop (i + 1)) (i + 1) b') :=
      fun b' hb' => loop_model F l hl ok u hu e he n hn rec hrec k N (i + 1) b' (by omega) (by omega) hb'
    have hd : l.drop i = t :: l.drop (i + 1) := by
      rw [List.drop_eq_getElem_cons hil]
      congr 1
      rw [List.getElem?_eq_getElem hil] at ht
      exact Option.some.inj ht
    have hw : IntKind.i64.wrap ((i : Int) + 1) = ((i + 1 : Nat) : Int) := by rw [i64_of (by omega)]; omega
    show m_plan_Best_1_b2 F l (u : Int) e rec (m_plan_Best_1_l2 F l (u : Int) e rec N) b.1 b.2.1 b.2.2 (i : Int) = _
    rw [hd]
    unfold m_plan_Best_1_b2
    rw [if_pos (by omega), idx_at ht, Option.bind_some, if_pos (by omega), Option.bind_some, Option.bind_some]
    unfold m_plan_Best_1_j3
    rw [hw]
    show _ = some (foldC (bestC l n) u e (l.drop (i + 1)) (i + 1) (candC (bestC l n) u e i t b))
    unfold candC
    by_cases hbit : u.testBit i = true
    · rw [if_pos ((bit_and u i hu (by omega)).2 hbit), if_pos hbit]
      exact ih b hb
    · have hbit' : u.testBit i = false := by simpa using hbit
      rw [if_neg (fun h => hbit ((bit_and u i hu (by omega)).1 h)), if_neg hbit, then_model F hok he, Option.bind_some]
      simp only [Bool.not_eq_true', decide_eq_false_iff_not]
      by_cases hs : stC t e + t.2.2.1 ≤ t.2.1
      · rw [if_neg (by simpa using hs), if_pos hs, if_pos (by omega), bit_or64 u i hu (by omega)]
        obtain ⟨m1, m2⟩ := bit_more u i hu (by omega) hbit'
        rw [hrec _ _ m2 m1 (stC_en hok he hs), Option.bind_some, Option.bind_some, Option.bind_some]
        have hx : idx [((0 : Int), (0 : Int)), ((i : Int), stC t e)] 1 = some ((i : Int), stC t e) := rfl
        rw [hx, Option.bind_some, if_pos (by simp)]
        have hf := bestC_fits l hl ok n (u ||| 2 ^ i) (stC t e + t.2.2.1) m2 (stC_en hok he hs)
        have f1 := hf.len; have f2 := hf.lo; have f3 := hf.hi
        have g1 := hok.2.2.2.2.2.2.1; have g2 := hok.2.2.2.2.2.2.2
        rw [if_pos (by omega), i64_of (by omega), Option.bind_some]
        by_cases hc : (bestC l n (u ||| 2 ^ i) (stC t e + t.2.2.1)).2.2 + t.2.2.2 > b.2.2 ∨ ((bestC l n (u ||| 2 ^ i) (stC t e + t.2.2.1)).2.2 + t.2.2.2 = b.2.2 ∧ (bestC l n (u ||| 2 ^ i) (stC t e + t.2.2.1)).2.1 < b.2.1)
        · rw [if_pos (by simpa using hc), if_pos hc]
          exact ih (addC i t e (bestC l n (u ||| 2 ^ i) (stC t e + t.2.2.1))) (by simp only [addC]; omega)
        · rw [if_neg (by simpa using hc), if_neg hc]
          exact ih b hb
      · rw [if_pos (by simpa using hs), if_neg hs]
        exact ih b hb
theorem best_r (F : Nat) (hF : 8 < F) (l : List BTask) (hl : l.length ≤ 8) (ok : ∀ t ∈ l, Okt t) : ∀ (n u : Nat) (e : Int), n ≤ 8589934592 → u < 256 → 256 ≤ n + u → Oke e → m_plan_Best_1_r F n (u : Int) e l = some (bestC l n u e)
  | 0, u, e, _, hu, hn, _ => by omega
  | n + 1, u, e, h9, hu, hn, he => by
    show m_plan_Best_1_l2 F l (u : Int) e (m_plan_Best_1_r F n) F ([] : List (Int × Int)) e 0 ((0 : Nat) : Int) = some (foldC (bestC l n) u e l 0 ([], e, 0))
    exact loop_model F l hl ok u hu e he n (by omega) _ (fun v en hv huv hen => best_r F hF l hl ok n v en (by omega) hv (by omega) hen) l.length F 0 ([], e, 0) (by omega) (by omega) (by simp)

/-! Check -/
theorem check_plan_l (F : Nat) (l : List BTask) (hl : l.length ≤ 8) (ok : ∀ t ∈ l, Okt t) : ∀ (k N i : Nat), i + k = l.length → k < N → m_plan_Check_l2 F l N (i : Int) = some 0
  | _, 0, _, _, h => by omega
  | 0, N + 1, i, hi, _ => by
    show m_plan_Check_b2 F l (m_plan_Check_l2 F l N) (i : Int) = _
    unfold m_plan_Check_b2 m_plan_Check_j1
    rw [if_neg (by omega)]
  | k + 1, N + 1, i, hi, hN => by
    have hil : i < l.length := by omega
    obtain ⟨t, ht⟩ : ∃ t, l[i]? = some t := ⟨_, List.getElem?_eq_getElem hil⟩
    have hok := ok t (List.mem_of_getElem? ht)
    show m_plan_Check_b2 F l (m_plan_Check_l2 F l N) (i : Int) = _
    unfold m_plan_Check_b2
    have hw : IntKind.i64.wrap ((i : Int) + 1) = ((i + 1 : Nat) : Int) := by rw [i64_of (by omega)]; omega
    rw [if_pos (by omega), idx_at ht, Option.bind_some, Option.bind_some, hw]
    unfold Okt at hok
    rw [i64_of (by omega), if_neg]
    · exact check_plan_l F l hl ok k N (i + 1) (by omega) (by omega)
    · simp only [Bool.or_eq_true, Bool.not_eq_true', Bool.and_eq_false_iff, decide_eq_true_eq, decide_eq_false_iff_not]
      split <;> split <;> omega
theorem check_plan (F : Nat) (hF : 8 < F) (l : List BTask) (hl : l.length ≤ 8) (ok : ∀ t ∈ l, Okt t) : m_plan_Check F l = some 0 := by
  unfold m_plan_Check
  rw [if_neg (by omega)]
  exact check_plan_l F l hl ok l.length F 0 (by omega) (by omega)
theorem check_ref_l (F : Nat) (l : List BTask) (hl : l.length ≤ 8) : ∀ (k N i : Nat), i + k = l.length → k < N → (∀ j t, j < i → l[j]? = some t → Okt t) → ∃ c, m_ref42_Check_l2 F l N (i : Int) = some c ∧ (c = 0 → ∀ t ∈ l, Okt t)
  | _, 0, _, _, h, _ => by omega
  | 0, N + 1, i, hi, _, hok => by
    refine ⟨0, ?_, fun _ t ht => ?_⟩
    · show m_ref42_Check_b2 F l (m_ref42_Check_l2 F l N) (i : Int) = _
      unfold m_ref42_Check_b2 m_ref42_Check_j1
      rw [if_neg (by omega)]
    · obtain ⟨j, hj⟩ := List.getElem?_of_mem ht
      exact hok j t (by have := (List.getElem?_eq_some_iff.1 hj).1; omega) hj
  | k + 1, N + 1, i, hi, hN, hok => by
    have hil : i < l.length := by omega
    obtain ⟨t, ht⟩ : ∃ t, l[i]? = some t := ⟨_, List.getElem?_eq_getElem hil⟩
    have hw : IntKind.i64.wrap ((i : Int) + 1) = ((i + 1 : Nat) : Int) := by rw [i64_of (by omega)]; omega
    have e1 : m_ref42_Check_l2 F l (N + 1) (i : Int) = m_ref42_Check_b2 F l (m_ref42_Check_l2 F l N) (i : Int) := rfl
    rw [e1]
    unfold m_ref42_Check_b2
    rw [if_pos (by omega), idx_at ht, Option.bind_some, hw]
    split
    · exact ⟨8, rfl, fun h => by omega⟩
    · rename_i hc
      refine check_ref_l F l hl k N (i + 1) (by omega) (by omega) (fun j t' hj hjt => ?_)
      by_cases hji : j = i
      · subst hji
        rw [ht] at hjt
        obtain rfl := Option.some.inj hjt
        simp only [Bool.or_eq_true, decide_eq_true_eq, not_or] at hc
        unfold Okt
        have h3 : IntKind.i64.wrap (t.2.1 - t.1) = t.2.1 - t.1 := i64_of (by omega)
        rw [h3] at hc
        omega
      · exact hok j t' (by omega) hjt
theorem check_ref (F : Nat) (hF : 8 < F) (l : List BTask) (hl : l.length ≤ 8) : ∃ c, m_ref42_Check F l = some c ∧ (c = 0 → ∀ t ∈ l, Okt t) := by
  unfold m_ref42_Check
  rw [if_neg (by omega)]
  exact check_ref_l F l hl l.length F 0 (by omega) (by omega) (fun j t hj => by omega)
theorem best_model (l : List BTask) (hl : l.length ≤ 8) (ok : ∀ t ∈ l, Okt t) : m_plan_Best 8589934592 l = some ((bestC l 8589934592 0 (-5000000000000000)).1, (bestC l 8589934592 0 (-5000000000000000)).2.2, 0) := by
  unfold m_plan_Best
  rw [check_plan _ (by omega) l hl ok, Option.bind_some, if_neg (by decide)]
  unfold m_plan_Best_1
  rw [show (0 : Int) = ((0 : Nat) : Int) from rfl, best_r _ (by omega) l hl ok 8589934592 0 _ (Nat.le_refl _) (by omega) (by omega) (by unfold Oke; omega), Option.bind_some]
set_option maxRecDepth 100000 in
theorem alive_true : m_law42_alive 8589934592 = some true := by kernel_rfl
end Go.Proofs.Ytipedambeemdaaa
