/- A task more never makes the value of the best order less, nor greater by more than its own value. -/
import Derived.Test.YtipedambeemdaaaModel
set_option linter.unusedVariables false
set_option linter.unusedSimpArgs false
namespace Go.SL
open Go
theorem goes_app (l : List BTask) (t : BTask) : ∀ (s : List Nat) (e : Int) (r : BRun), goes l e s = some r → goes (l ++ [t]) e s = some r
  | [], _, _, h => h
  | i :: s, e, r, h => by
    simp only [goes] at h ⊢
    cases hi : l[i]? with
    | none => rw [hi] at h; simp at h
    | some t' =>
      have hlt := (List.getElem?_eq_some_iff.1 hi).1
      rw [hi] at h
      rw [List.getElem?_append_left hlt, hi]
      simp only at h ⊢
      split at h
      · rename_i hs
        rw [if_pos hs]
        obtain ⟨r', hr', rfl⟩ := Option.map_eq_some_iff.1 h
        rw [goes_app l t s _ r' hr']
        rfl
      · cases h
/-- earlier is no worse -/
theorem goes_mono (l : List BTask) : ∀ (s : List Nat) (e e' : Int) (r : BRun), e ≤ e' → goes l e' s = some r → ∃ r', goes l e s = some r' ∧ r'.2.2 = r.2.2 ∧ r'.2.1 ≤ r.2.1
  | [], e, e', r, he, h => by
    simp only [goes, Option.some.injEq] at h
    subst h
    exact ⟨([], e, 0), rfl, rfl, he⟩
  | i :: s, e, e', r, he, h => by
    simp only [goes] at h ⊢
    cases hi : l[i]? with
    | none => rw [hi] at h; simp at h
    | some t =>
      rw [hi] at h
      simp only at h ⊢
      have hst : stC t e ≤ stC t e' := by unfold stC; split <;> split <;> omega
      split at h
      · rename_i hs
        obtain ⟨r1, hr1, rfl⟩ := Option.map_eq_some_iff.1 h
        obtain ⟨r2, h2, h3, h4⟩ := goes_mono l s (stC t e + t.2.2.1) (stC t e' + t.2.2.1) r1 (by omega) hr1
        rw [if_pos (by omega), h2]
        exact ⟨_, rfl, by simp only [addC]; omega, by simp only [addC]; exact h4⟩
      · cases h
/-- without the last task of all -/
theorem goes_drop (l : List BTask) (t : BTask) (ok : ∀ t ∈ l, Okt t) (ht : Okt t) : ∀ (s : List Nat) (e : Int) (r : BRun), goes (l ++ [t]) e s = some r → s.Nodup →
    ∃ s' r', goes l e s' = some r' ∧ s'.Nodup ∧ (∀ i ∈ s', i ∈ s) ∧ (l.length ∉ s → r' = r) ∧ r.2.2 ≤ r'.2.2 + t.2.2.2
  | [], e, r, h, _ => ⟨[], r, h, List.nodup_nil, by simp, fun _ => rfl, by unfold Okt at ht; omega⟩
  | i :: s, e, r, h, hd => by
    rw [List.nodup_cons] at hd
    simp only [goes] at h
    by_cases hi : i < l.length
    · rw [List.getElem?_append_left hi] at h
      obtain ⟨t', ht'⟩ : ∃ t', l[i]? = some t' := ⟨_, List.getElem?_eq_getElem hi⟩
      rw [ht'] at h
      simp only at h
      split at h
      · rename_i hs
        obtain ⟨r1, hr1, rfl⟩ := Option.map_eq_some_iff.1 h
        obtain ⟨s', r', g1, g2, g3, g4, g5⟩ := goes_drop l t ok ht s _ r1 hr1 hd.2
        refine ⟨i :: s', addC i t' e r', ?_, ?_, ?_, ?_, ?_⟩
        · simp only [goes, ht', if_pos hs, g1, Option.map_some]
        · rw [List.nodup_cons]; exact ⟨fun hm => hd.1 (g3 i hm), g2⟩
        · intro j hj
          rcases List.mem_cons.1 hj with rfl | hj
          · simp
          · simp [g3 j hj]
        · intro hn
          rw [g4 (fun hm => hn (by simp [hm]))]
        · simp only [addC]; omega
      · cases h
    · by_cases hil : i = l.length
      · subst hil
        rw [List.getElem?_append_right (Nat.le_refl _), Nat.sub_self, List.getElem?_cons_zero] at h
        simp only at h
        split at h
        · rename_i hs
          obtain ⟨r1, hr1, rfl⟩ := Option.map_eq_some_iff.1 h
          obtain ⟨s', r', g1, g2, g3, g4, g5⟩ := goes_drop l t ok ht s _ r1 hr1 hd.2
          have := g4 hd.1
          subst this
          have hee : e ≤ stC t e + t.2.2.1 := by unfold stC; unfold Okt at ht; split <;> omega
          obtain ⟨r2, h2, h3, h4⟩ := goes_mono l s' e _ r' hee g1
          refine ⟨s', r2, h2, g2, fun j hj => by simp [g3 j hj], fun hn => absurd (by simp) hn, ?_⟩
          simp only [addC]; omega
        · cases h
      · rw [List.getElem?_eq_none (by simp; omega)] at h
        cases h
theorem best_more (l : List BTask) (t : BTask) (hl : l.length ≤ 7) (ok : ∀ t ∈ l, Okt t) (ht : Okt t) (n : Nat) (hn : 256 ≤ n) (e : Int) : (bestC l n 0 e).2.2 ≤ (bestC (l ++ [t]) n 0 e).2.2 ∧ (bestC (l ++ [t]) n 0 e).2.2 ≤ (bestC l n 0 e).2.2 + t.2.2.2 := by
  obtain ⟨s1, h1, h2, h3⟩ := bestC_goes l n 0 e
  obtain ⟨s2, g1, g2, g3⟩ := bestC_goes (l ++ [t]) n 0 e
  have a1 := bestC_ge (l ++ [t]) (by simp; omega) n 0 e (by omega) (by omega) s1 _ (goes_app l t s1 e _ h1) h2 h3
  obtain ⟨s3, r3, k1, k2, k3, k4, k5⟩ := goes_drop l t ok ht s2 e _ g1 g2
  have a2 := bestC_ge l (by omega) n 0 e (by omega) (by omega) s3 r3 k1 k2 (fun i _ => Nat.zero_testBit i)
  unfold geC at a1 a2
  omega
theorem best_one (t : BTask) (ht : Okt t) (n : Nat) (hn : 256 ≤ n) (e : Int) (he : e ≤ t.1) : (bestC [t] n 0 e).2.2 = t.2.2.2 := by
  have h1 := (best_more [] t (by simp) (by simp) ht n hn e).2
  obtain ⟨s0, g1, _, _⟩ := bestC_goes [] n 0 e
  have h0 : (bestC [] n 0 e).2.2 = 0 := by
    cases s0 with
    | nil => simp only [goes, Option.some.injEq] at g1; rw [← g1]
    | cons i s => simp [goes] at g1
  have hst : stC t e = t.1 := by unfold stC; rw [if_neg (by omega)]
  have hg : goes [t] e [0] = some (addC 0 t e ([], stC t e + t.2.2.1, 0)) := by
    simp only [goes, List.getElem?_cons_zero]
    unfold Okt at ht
    rw [if_pos (by omega)]; rfl
  have h2 := bestC_ge [t] (by simp) n 0 e (by omega) (by omega) [0] _ hg (by simp) (fun i _ => Nat.zero_testBit i)
  unfold geC addC at h2
  simp only [List.nil_append] at h1 h2
  omega
end Go.SL
namespace Go.Proofs.Ytipedambeemdaaa
open Go Go.SL
theorem check2 (F : Nat) (x3 x4 x5 x6 : Int) : ∃ c, m_ref42_Check_2 F x3 x4 x5 x6 = some c ∧ (c = 0 → Okt (x3, x4, x5, x6)) := by
  unfold m_ref42_Check_2 m_ref42_Check_2_j1
  split
  · exact ⟨8, rfl, fun h => by omega⟩
  · rename_i hc
    refine ⟨0, rfl, fun _ => ?_⟩
    simp only [Bool.or_eq_true, decide_eq_true_eq, not_or] at hc
    unfold Okt
    have h3 : IntKind.i64.wrap (x4 - x3) = x4 - x3 := i64_of (by omega)
    rw [h3] at hc
    simp only
    omega
theorem law_true (l : List BTask) (x3 x4 x5 x6 : Int) : m_law42_PlanMore 8589934592 l x3 x4 x5 x6 = some true := by
  unfold m_law42_PlanMore
  rw [alive_true, Option.bind_some]
  by_cases hl : (l.length : Int) > 4
  · rw [if_pos hl]; unfold m_law42_PlanMore_j2 m_law42_PlanMore_j1; simp
  · rw [if_neg hl]
    obtain ⟨c, h1, h2⟩ := check_ref 8589934592 (by omega) l (by omega)
    rw [h1, Option.bind_some]
    unfold m_law42_PlanMore_j2
    by_cases hc : c = 0
    · rw [if_neg (by simp [hc])]
      obtain ⟨c2, h3, h4⟩ := check2 8589934592 x3 x4 x5 x6
      rw [h3, Option.bind_some]
      unfold m_law42_PlanMore_j1
      by_cases hc2 : c2 = 0
      · rw [if_neg (by simp [hc2])]
        have ok := h2 hc
        have ht := h4 hc2
        have okt : ∀ t ∈ [(x3, x4, x5, x6)], Okt t := fun t h => by
          simp only [List.mem_singleton] at h; subst h; exact ht
        have ok2 : ∀ t ∈ l ++ [(x3, x4, x5, x6)], Okt t := fun t h => by
          rcases List.mem_append.1 h with h | h
          · exact ok t h
          · exact okt t h
        rw [best_model l (by omega) ok, Option.bind_some, if_pos (by simp), if_pos (by omega), if_pos (by simp; omega), List.nil_append, best_model _ (by simp; omega) ok2, Option.bind_some, best_model _ (by simp) okt, Option.bind_some]
        have hm := best_more l (x3, x4, x5, x6) (by omega) ok ht 8589934592 (by omega) (-5000000000000000)
        have ho := best_one (x3, x4, x5, x6) ht 8589934592 (by omega) (-5000000000000000) ht.1
        have f1 := (bestC_fits l (by omega) ok 8589934592 0 (-5000000000000000) (by omega) (by unfold Oke; omega)).lo
        have f2 := (bestC_fits l (by omega) ok 8589934592 0 (-5000000000000000) (by omega) (by unfold Oke; omega)).hi
        unfold Okt at ht
        simp only at hm ho ht f1 f2
        dsimp only
        rw [i64_of (by omega)]
        simp only [decide_true, Bool.true_and, Bool.and_true, Option.some.injEq, Bool.and_eq_true, decide_eq_true_eq, ge_iff_le]
        exact ⟨⟨hm.1, hm.2⟩, ho⟩
      · rw [if_pos (by simp [hc2])]
    · rw [if_pos (by simp [hc])]
      unfold m_law42_PlanMore_j1
      simp
end Go.Proofs.Ytipedambeemdaaa
