/- What the models of Follow, Compact and Value give. -/
import Derived.Test.YtipedambeemdaaaModel
set_option linter.unusedVariables false
set_option linter.unusedSimpArgs false
namespace Go.SL
open Go
def ofN (s : List Nat) : List Int := s.map (fun (i : Nat) => (i : Int))
theorem goes_tasks (l : List BTask) : ∀ (s : List Nat) (e : Int) (r : BRun), goes l e s = some r → r.1.map (·.1) = ofN s
  | [], e, r, h => by simp only [goes, Option.some.injEq] at h; subst h; rfl
  | i :: s, e, r, h => by
    simp only [goes] at h
    cases hi : l[i]? with
    | none => rw [hi] at h; simp at h
    | some t =>
      rw [hi] at h
      simp only at h
      split at h
      · obtain ⟨r', hr', rfl⟩ := Option.map_eq_some_iff.1 h
        simp only [addC, List.map_cons, ofN, goes_tasks l s _ r' hr']
      · cases h
theorem goes_len {l : List BTask} {s : List Nat} {e : Int} {r : BRun} (h : goes l e s = some r) : r.1.length = s.length := by
  have := congrArg List.length (goes_tasks l s e r h)
  simpa [ofN] using this
theorem goes_last (l : List BTask) : ∀ (s : List Nat) (e : Int) (r : BRun), goes l e s = some r → s ≠ [] → ∃ (x : Int × Int) (k : Nat) (t : BTask), r.1[r.1.length - 1]? = some x ∧ x.1 = (k : Int) ∧ l[k]? = some t ∧ x.2 + t.2.2.1 = r.2.1
  | [], e, r, h, hne => absurd rfl hne
  | i :: s, e, r, h, _ => by
    simp only [goes] at h
    cases hi : l[i]? with
    | none => rw [hi] at h; simp at h
    | some t =>
      rw [hi] at h
      simp only at h
      split at h
      · obtain ⟨r', hr', rfl⟩ := Option.map_eq_some_iff.1 h
        cases s with
        | nil =>
          simp only [goes, Option.some.injEq] at hr'
          subst hr'
          exact ⟨((i : Int), stC t e), i, t, rfl, rfl, hi, rfl⟩
        | cons j s =>
          obtain ⟨x, k, t', h1, h2, h3, h4⟩ := goes_last l (j :: s) _ r' hr' (by simp)
          have hl : r'.1.length = (j :: s).length := goes_len hr'
          refine ⟨x, k, t', ?_, h2, h3, h4⟩
          show (((i : Int), stC t e) :: r'.1)[(((i : Int), stC t e) :: r'.1).length - 1]? = some x
          rw [List.length_cons, Nat.add_sub_cancel]
          rw [show r'.1.length = r'.1.length - 1 + 1 by rw [hl]; simp, List.getElem?_cons_succ]
          exact h1
      · cases h
theorem goes_pos (l : List BTask) (ok : ∀ t ∈ l, Okt t) : ∀ (s : List Nat) (e : Int) (r : BRun), goes l e s = some r → (s.length : Int) ≤ r.2.2 ∧ r.2.2 ≤ 1000000 * (s.length : Int) ∧ ∀ i ∈ s, i < l.length
  | [], e, r, h => by simp only [goes, Option.some.injEq] at h; subst h; simp
  | i :: s, e, r, h => by
    simp only [goes] at h
    cases hi : l[i]? with
    | none => rw [hi] at h; simp at h
    | some t =>
      rw [hi] at h
      simp only at h
      split at h
      · obtain ⟨r', hr', rfl⟩ := Option.map_eq_some_iff.1 h
        obtain ⟨h1, h2, h3⟩ := goes_pos l ok s _ r' hr'
        have ht := (ok t (List.mem_of_getElem? hi)).2.2.2.2.2.2
        refine ⟨by simp only [addC, List.length_cons]; omega, by simp only [addC, List.length_cons]; omega, fun j hj => ?_⟩
        rcases List.mem_cons.1 hj with rfl | hj
        · exact (List.getElem?_eq_some_iff.1 hi).1
        · exact h3 j hj
      · cases h
theorem goes_oke (l : List BTask) (ok : ∀ t ∈ l, Okt t) : ∀ (s : List Nat) (e : Int) (r : BRun), Oke e → goes l e s = some r → Oke r.2.1
  | [], e, r, he, h => by simp only [goes, Option.some.injEq] at h; subst h; exact he
  | i :: s, e, r, he, h => by
    simp only [goes] at h
    cases hi : l[i]? with
    | none => rw [hi] at h; simp at h
    | some t =>
      rw [hi] at h
      simp only at h
      split at h
      · rename_i hs
        obtain ⟨r', hr', rfl⟩ := Option.map_eq_some_iff.1 h
        exact goes_oke l ok s _ r' (stC_en (ok t (List.mem_of_getElem? hi)) he hs) hr'
      · cases h
end Go.SL
namespace Go.Proofs.Ytipedambeemdaaa
open Go Go.SL
theorem wrap_succ {i n : Nat} (h : i ≤ n) (hn : n ≤ 1000) : IntKind.i64.wrap ((i : Int) + 1) = ((i + 1 : Nat) : Int) := by rw [i64_of (by omega)]; omega
/-! IndexFunc -/
theorem index_loop (F : Nat) (o : List Int) (l : List BTask) (ho : o.length ≤ 1000) : ∀ (k N i : Nat), i + k = o.length → k < N → (∀ j x, j < i → o[j]? = some x → 0 ≤ x ∧ x < (l.length : Int)) →
    ∃ c, m_slices_IndexFunc_int_int_l2 F o l N (i : Int) = some c ∧ ((c ≥ 0 ∧ ∃ x ∈ o, ¬ (0 ≤ x ∧ x < (l.length : Int))) ∨ (c = -1 ∧ ∀ x ∈ o, 0 ≤ x ∧ x < (l.length : Int)))
  | _, 0, _, _, h, _ => by omega
  | 0, N + 1, i, hi, _, hok => by
    refine ⟨-1, ?_, .inr ⟨rfl, fun x hx => ?_⟩⟩
    · show m_slices_IndexFunc_int_int_b2 F o l (m_slices_IndexFunc_int_int_l2 F o l N) (i : Int) = _
      unfold m_slices_IndexFunc_int_int_b2 m_slices_IndexFunc_int_int_j1
      rw [if_neg (by omega)]
    · obtain ⟨j, hj⟩ := List.getElem?_of_mem hx
      exact hok j x (by have := (List.getElem?_eq_some_iff.1 hj).1; omega) hj
  | k + 1, N + 1, i, hi, hN, hok => by
    have hil : i < o.length := by omega
    obtain ⟨x, hx⟩ : ∃ x, o[i]? = some x := ⟨_, List.getElem?_eq_getElem hil⟩
    have e1 : m_slices_IndexFunc_int_int_l2 F o l (N + 1) (i : Int) = m_slices_IndexFunc_int_int_b2 F o l (m_slices_IndexFunc_int_int_l2 F o l N) (i : Int) := rfl
    rw [e1]
    unfold m_slices_IndexFunc_int_int_b2 m_plan_Follow_1
    rw [if_pos (by omega), idx_at hx, Option.bind_some, Option.bind_some, wrap_succ (by omega) ho]
    split
    · rename_i hc
      simp only [Bool.or_eq_true, decide_eq_true_eq] at hc
      exact ⟨i, rfl, .inl ⟨by omega, x, List.mem_of_getElem? hx, by omega⟩⟩
    · rename_i hc
      refine index_loop F o l ho k N (i + 1) (by omega) (by omega) (fun j y hj hjy => ?_)
      by_cases hji : j = i
      · subst hji
        rw [hx] at hjy
        obtain rfl := Option.some.inj hjy
        simp only [Bool.or_eq_true, decide_eq_true_eq, not_or] at hc
        omega
      · exact hok j y (by omega) hjy
/-! Compact -/
theorem compact_in (F : Nat) (x4 : Nat) (x2 : List Int) (hx : x2.length ≤ 1000) (h4 : x4 < x2.length) : ∀ (k N : Nat) (y : List Int) (a b : Nat), y.length = x2.length → b + k = x2.length - x4 → k < N → 1 ≤ b → a + k + 1 ≤ x2.length →
    ∃ c, m_slices_Compact_int_int_2_l5 F (x4 : Int) x2 N y (a : Int) (b : Int) = some c ∧ c.length < x2.length
  | _, 0, _, _, _, _, _, h, _, _ => by omega
  | 0, N + 1, y, a, b, hy, hb, _, h1, ha => by
    have e1 : m_slices_Compact_int_int_2_l5 F (x4 : Int) x2 (N + 1) y (a : Int) (b : Int) = m_slices_Compact_int_int_2_b5 F (x4 : Int) x2 (m_slices_Compact_int_int_2_l5 F (x4 : Int) x2 N) y (a : Int) (b : Int) := rfl
    rw [e1]
    unfold m_slices_Compact_int_int_2_b5
    have hs : sbd (x4 : Int) (x2.length : Int) (y.length : Int) := ⟨by omega, by omega, by omega⟩
    rw [if_pos hs, Option.bind_some, lsub_len hs, if_neg (by omega)]
    unfold m_slices_Compact_int_int_2_j4
    have hll : (lcopy y (List.replicate (Int.toNat (y.length : Int) - Int.toNat (a : Int)) (0 : Int)) (a : Int) (Int.toNat (y.length : Int) - Int.toNat (a : Int))).length = y.length := by unfold lcopy; simp; omega
    have hs2 : sbd 0 (a : Int) ((lcopy y (List.replicate (Int.toNat (y.length : Int) - Int.toNat (a : Int)) (0 : Int)) (a : Int) (Int.toNat (y.length : Int) - Int.toNat (a : Int))).length : Int) := ⟨by omega, by omega, by rw [hll]; omega⟩
    rw [if_pos ⟨by omega, by omega, by omega⟩, if_pos hs2]
    exact ⟨_, rfl, by rw [lsub_len hs2]; omega⟩
  | k + 1, N + 1, y, a, b, hy, hb, hN, h1, ha => by
    have e1 : m_slices_Compact_int_int_2_l5 F (x4 : Int) x2 (N + 1) y (a : Int) (b : Int) = m_slices_Compact_int_int_2_b5 F (x4 : Int) x2 (m_slices_Compact_int_int_2_l5 F (x4 : Int) x2 N) y (a : Int) (b : Int) := rfl
    rw [e1]
    unfold m_slices_Compact_int_int_2_b5
    have hs : sbd (x4 : Int) (x2.length : Int) (y.length : Int) := ⟨by omega, by omega, by omega⟩
    have hlen := lsub_len hs
    have hp1 : (x2.length : Int).toNat - (x4 : Int).toNat = x2.length - x4 := by omega
    rw [hp1] at hlen
    rw [if_pos hs, Option.bind_some, hlen, if_pos (by omega)]
    have hw1 : IntKind.i64.wrap ((b : Int) - 1) = ((b - 1 : Nat) : Int) := by rw [i64_of (by omega)]; omega
    obtain ⟨u, hu⟩ : ∃ u, (lsub y (x4 : Int) (x2.length : Int))[b]? = some u := ⟨_, List.getElem?_eq_getElem (by omega)⟩
    obtain ⟨v, hv⟩ : ∃ u, (lsub y (x4 : Int) (x2.length : Int))[b - 1]? = some u := ⟨_, List.getElem?_eq_getElem (by omega)⟩
    rw [idx_at hu, Option.bind_some, hw1, idx_at hv, Option.bind_some]
    unfold m_slices_Compact_int_int_2_j6
    have hwb : IntKind.i64.wrap ((b : Int) + 1) = ((b + 1 : Nat) : Int) := wrap_succ (n := 1000) (by omega) (by omega)
    have hwa : IntKind.i64.wrap ((a : Int) + 1) = ((a + 1 : Nat) : Int) := wrap_succ (n := 1000) (by omega) (by omega)
    rw [hwb]
    split
    · obtain ⟨z, hz⟩ : ∃ u, y[a]? = some u := ⟨_, List.getElem?_eq_getElem (by omega)⟩
      rw [idx_at hz, Option.bind_some, hwa]
      exact compact_in F x4 x2 hx h4 k N _ (a + 1) (b + 1) (by simpa using hy) (by omega) (by omega) (by omega) (by omega)
    · exact compact_in F x4 x2 hx h4 k N y a (b + 1) hy (by omega) (by omega) (by omega) (by omega)
theorem compact_out (F : Nat) (hF : 1000 < F) (x2 : List Int) (hx : x2.length ≤ 1000) : ∀ (k N i : Nat), i + k = x2.length → k < N → 1 ≤ i → (∀ j u v, j + 1 < i → x2[j]? = some u → x2[j + 1]? = some v → u ≠ v) →
    ∃ c, m_slices_Compact_int_int_2_l2 F x2 N (i : Int) = some c ∧ ((c = x2 ∧ ∀ j u v, x2[j]? = some u → x2[j + 1]? = some v → u ≠ v) ∨ (c.length < x2.length ∧ ∃ j u, x2[j]? = some u ∧ x2[j + 1]? = some u))
  | _, 0, _, _, h, _, _ => by omega
  | 0, N + 1, i, hi, _, h1, hok => by
    refine ⟨x2, ?_, .inl ⟨rfl, fun j u v hu hv => hok j u v (by have := (List.getElem?_eq_some_iff.1 hv).1; omega) hu hv⟩⟩
    show m_slices_Compact_int_int_2_b2 F x2 (m_slices_Compact_int_int_2_l2 F x2 N) (i : Int) = _
    unfold m_slices_Compact_int_int_2_b2 m_slices_Compact_int_int_2_j1
    rw [if_neg (by omega)]
  | k + 1, N + 1, i, hi, hN, h1, hok => by
    have e1 : m_slices_Compact_int_int_2_l2 F x2 (N + 1) (i : Int) = m_slices_Compact_int_int_2_b2 F x2 (m_slices_Compact_int_int_2_l2 F x2 N) (i : Int) := rfl
    rw [e1]
    unfold m_slices_Compact_int_int_2_b2
    have hw1 : IntKind.i64.wrap ((i : Int) - 1) = ((i - 1 : Nat) : Int) := by rw [i64_of (by omega)]; omega
    obtain ⟨u, hu⟩ : ∃ u, x2[i]? = some u := ⟨_, List.getElem?_eq_getElem (by omega)⟩
    obtain ⟨v, hv⟩ : ∃ u, x2[i - 1]? = some u := ⟨_, List.getElem?_eq_getElem (by omega)⟩
    rw [if_pos (by omega), idx_at hu, Option.bind_some, hw1, idx_at hv, Option.bind_some]
    by_cases huv : u = v
    · rw [if_pos huv, if_pos ⟨by omega, by omega, by omega⟩]
      obtain ⟨c, h2, h3⟩ := compact_in F i x2 hx (by omega) (x2.length - i - 1) F x2 i 1 rfl (by omega) (by omega) (by omega) (by omega)
      refine ⟨c, by simpa using h2, .inr ⟨h3, i - 1, v, hv, ?_⟩⟩
      rw [show i - 1 + 1 = i by omega, hu, huv]
    · rw [if_neg huv]
      unfold m_slices_Compact_int_int_2_j3
      rw [wrap_succ (n := 1000) (by omega) (by omega)]
      refine compact_out F hF x2 hx k N (i + 1) (by omega) (by omega) (by omega) (fun j u' v' hj hu' hv' => ?_)
      by_cases hji : j + 1 = i
      · rw [show j = i - 1 by omega, hv] at hu'
        rw [hji, hu] at hv'
        obtain rfl := Option.some.inj hu'
        obtain rfl := Option.some.inj hv'
        exact fun h => huv h.symm
      · exact hok j u' v' (by omega) hu' hv'
theorem sorted_nodup : ∀ {s : List Int}, s.Pairwise (· ≤ ·) → (∀ j u v, s[j]? = some u → s[j + 1]? = some v → u ≠ v) → s.Nodup
  | [], _, _ => List.nodup_nil
  | [x], _, _ => by simp
  | x :: y :: t, hp, h => by
    rw [List.pairwise_cons] at hp
    have ih := sorted_nodup hp.2 (fun j u v hu hv => h (j + 1) u v (by simpa using hu) (by simpa using hv))
    rw [List.nodup_cons]
    refine ⟨fun hm => ?_, ih⟩
    have hxy := h 0 x y rfl rfl
    have h1 := hp.1 y (by simp)
    rcases List.mem_cons.1 hm with h2 | h2
    · exact hxy h2
    · have := (List.pairwise_cons.1 hp.2).1 x h2; omega
theorem compact_sorted (F : Nat) (hF : 1000 < F) (o : List Int) (ho : o.length ≤ 1000) : ∃ c, m_slices_Compact_int_int_2 F (srtI o) = some c ∧ ((c.length = o.length ∧ o.Nodup) ∨ (c.length ≠ o.length ∧ ¬ o.Nodup)) := by
  have hp : (srtI o).Perm o := List.mergeSort_perm _ _
  have hlen : (srtI o).length = o.length := srtI_len o
  have hs : (srtI o).Pairwise (· ≤ ·) := by
    have := List.pairwise_mergeSort (le := fun x y : Int => decide (x ≤ y)) (fun a b c h1 h2 => by simp only [decide_eq_true_eq] at *; omega) (fun a b => by simp only [Bool.or_eq_true, decide_eq_true_eq]; omega) o
    exact this.imp (fun h => by simpa using h)
  unfold m_slices_Compact_int_int_2
  by_cases h2 : ((srtI o).length : Int) < 2
  · rw [if_pos h2]
    refine ⟨_, rfl, .inl ⟨hlen, hp.nodup_iff.1 ?_⟩⟩
    match hso : srtI o, h2 with
    | [], _ => exact List.nodup_nil
    | [x], _ => simp
    | x :: y :: t, h2 => simp at h2; omega
  · rw [if_neg h2]
    obtain ⟨c, h3, h4⟩ := compact_out F hF (srtI o) (by omega) ((srtI o).length - 1) F 1 (by omega) (by omega) (by omega) (fun j u v hj => by omega)
    refine ⟨c, by simpa using h3, ?_⟩
    rcases h4 with ⟨rfl, h5⟩ | ⟨h5, j, u, h6, h7⟩
    · exact .inl ⟨hlen, hp.nodup_iff.1 (sorted_nodup hs h5)⟩
    · refine .inr ⟨by omega, fun hn => ?_⟩
      have hn' := hp.nodup_iff.2 hn
      have hj := (List.getElem?_eq_some_iff.1 h6).1
      have hj1 := (List.getElem?_eq_some_iff.1 h7).1
      have := (List.getElem_inj hn' (h₀ := hj) (h₁ := hj1)).1 (by rw [(List.getElem?_eq_some_iff.1 h6).2, (List.getElem?_eq_some_iff.1 h7).2])
      omega
end Go.Proofs.Ytipedambeemdaaa
