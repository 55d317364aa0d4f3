/- The best order is possible, has the value that is returned, and no possible order is better. -/
import Derived.Test.YtipedambeemdaaaBestf
set_option linter.unusedVariables false
set_option linter.unusedSimpArgs false
namespace Go.Proofs.Ytipedambeemdaaa
open Go Go.SL
theorem drop_at {T : Type} {s suf : List T} {i : Nat} {x : T} (h : s.drop i = x :: suf) : s[i]? = some x ∧ s.drop (i + 1) = suf ∧ i < s.length := by
  have h1 : i < s.length := by
    rcases Nat.lt_or_ge i s.length with h2 | h2
    · exact h2
    · rw [List.drop_of_length_le h2] at h; cases h
  rw [List.drop_eq_getElem_cons h1] at h
  injection h with h2 h3
  exact ⟨by rw [List.getElem?_eq_getElem h1, h2], h3, h1⟩
theorem nodup_len : ∀ (n : Nat) (s : List Nat), s.Nodup → (∀ i ∈ s, i < n) → s.length ≤ n
  | 0, s, _, h => by
    cases s with
    | nil => simp
    | cons x t => exact absurd (h x (by simp)) (by omega)
  | n + 1, s, hn, h => by
    have ih := nodup_len n (s.erase n) (hn.erase n) (fun i hi => by
      have h1 := (hn.mem_erase_iff).1 hi
      have h2 := h i h1.2
      omega)
    rw [List.length_erase] at ih
    split at ih <;> omega
theorem ofN_at {s : List Nat} {i x : Nat} (h : s[i]? = some x) : idx (ofN s) (i : Int) = some (x : Int) := idx_at (by unfold ofN; rw [List.getElem?_map, h]; rfl)
theorem ofN_len (s : List Nat) : (ofN s).length = s.length := by simp [ofN]
theorem follow_loop (F : Nat) (l : List BTask) (ok : ∀ t ∈ l, Okt t) (s : List Nat) (hs : s.length ≤ 1000) (hr : ∀ i ∈ s, i < l.length) : ∀ (suf : List Nat) (N i : Nat) (acc : List (Int × Int)) (en val e : Int), s.drop i = suf → suf.length < N → acc.length = i → i ≤ s.length →
    ((acc = [] ∧ e = -5000000000000000) ∨ (acc ≠ [] ∧ en = e)) → Oke e → m_plan_Follow_l2 F (ofN s) l N acc en val (i : Int) = some (match goes l e suf with | some r => (acc ++ r.1, 0) | none => ([], 16))
  | _, 0, _, _, _, _, _, _, h, _, _, _, _ => by omega
  | [], N + 1, i, acc, en, val, e, hd, _, ha, hi, _, _ => by
    show m_plan_Follow_b2 F (ofN s) l (m_plan_Follow_l2 F (ofN s) l N) acc en val (i : Int) = _
    unfold m_plan_Follow_b2 m_plan_Follow_j1
    have : s.length ≤ i := by
      have := congrArg List.length hd; simp at this; omega
    rw [if_neg (by rw [ofN_len]; omega)]
    simp [goes]
  | x :: suf, N + 1, i, acc, en, val, e, hd, hN, ha, hi, hinv, he => by
    obtain ⟨h1, h2, h3⟩ := drop_at hd
    have hx := hr x (List.mem_of_getElem? h1)
    obtain ⟨t, ht⟩ : ∃ t, l[x]? = some t := ⟨_, List.getElem?_eq_getElem hx⟩
    have hok := ok t (List.mem_of_getElem? ht)
    have hst := stC_ok hok he
    show m_plan_Follow_b2 F (ofN s) l (m_plan_Follow_l2 F (ofN s) l N) acc en val (i : Int) = _
    unfold m_plan_Follow_b2
    rw [if_pos (by rw [ofN_len]; omega), ofN_at h1, Option.bind_some, idx_at ht, Option.bind_some, wrap_succ (n := 1000) (by omega) (by omega)]
    have hthen : m_plan_run_then_2 F acc en val (x : Int) t.1 t.2.1 t.2.2.1 t.2.2.2 = some (acc ++ [((x : Int), stC t e)], stC t e + t.2.2.1, IntKind.i64.wrap (val + t.2.2.2), decide (stC t e + t.2.2.1 ≤ t.2.1)) := by
      unfold m_plan_run_then_2
      have hj : m_plan_run_then_2_j1 F t.2.2.1 acc (x : Int) val t.2.2.2 t.2.1 (stC t e) = some (acc ++ [((x : Int), stC t e)], stC t e + t.2.2.1, IntKind.i64.wrap (val + t.2.2.2), decide (stC t e + t.2.2.1 ≤ t.2.1)) := by
        unfold m_plan_run_then_2_j1
        have hw : IntKind.i64.wrap (stC t e + t.2.2.1) = stC t e + t.2.2.1 := by unfold Okt Oke at *; exact i64_of (by omega)
        rw [hw, Option.bind_some, if_pos (by omega)]
      rcases hinv with ⟨h4, h5⟩ | ⟨h4, h5⟩
      · subst h4
        rw [if_neg (by simp)]
        have : stC t e = t.1 := by unfold stC; unfold Okt at hok; rw [if_neg (by omega)]
        rw [this] at hj ⊢
        exact hj
      · have : 0 < acc.length := List.length_pos_iff.2 h4
        rw [if_pos (by omega), h5]
        exact hj
    rw [hthen, Option.bind_some]
    simp only [goes, ht, Bool.not_eq_true', decide_eq_false_iff_not]
    by_cases hs' : stC t e + t.2.2.1 ≤ t.2.1
    · rw [if_neg (by simpa using hs'), if_pos hs', follow_loop F l ok s hs hr suf N (i + 1) _ _ _ (stC t e + t.2.2.1) h2 (by simp at hN; omega) (by simp [ha]) (by omega) (.inr ⟨by simp, rfl⟩) (stC_en hok he hs')]
      cases goes l (stC t e + t.2.2.1) suf with
      | none => rfl
      | some r => simp [addC]
    · rw [if_pos (by simpa using hs'), if_neg hs']
theorem ofN_of {o : List Int} {n : Nat} (h : ∀ x ∈ o, 0 ≤ x ∧ x < (n : Int)) : o = ofN (o.map Int.toNat) ∧ ∀ i ∈ o.map Int.toNat, i < n := by
  refine ⟨?_, fun i hi => ?_⟩
  · unfold ofN
    rw [List.map_map]
    conv => lhs; rw [← List.map_id o]
    refine List.map_congr_left fun x hx => ?_
    have := h x hx
    simp only [id, Function.comp]; omega
  · obtain ⟨x, hx, rfl⟩ := List.mem_map.1 hi
    have := h x hx; omega
theorem follow_all (l : List BTask) (hl : l.length ≤ 8) (ok : ∀ t ∈ l, Okt t) (o : List Int) (ho : o.length ≤ 20) : ∃ r, m_plan_Follow 8589934592 l o = some r ∧
    ((r.2 = 2 ∧ ∃ x ∈ o, ¬ (0 ≤ x ∧ x < (l.length : Int))) ∨ ((∀ x ∈ o, 0 ≤ x ∧ x < (l.length : Int)) ∧ ((r.2 = 14 ∧ ¬ o.Nodup) ∨ (o.Nodup ∧ ((r.2 = 16 ∧ goes l (-5000000000000000) (o.map Int.toNat) = none) ∨ ∃ b, goes l (-5000000000000000) (o.map Int.toNat) = some b ∧ r = (b.1, 0)))))) := by
  unfold m_plan_Follow
  rw [check_plan _ (by omega) l hl ok, Option.bind_some, if_neg (by decide)]
  unfold m_slices_ContainsFunc_int_int m_slices_IndexFunc_int_int
  obtain ⟨c, h1, h2⟩ := index_loop 8589934592 o l (by omega) o.length 8589934592 0 (by omega) (by omega) (fun j x hj => by omega)
  rw [show (0 : Int) = ((0 : Nat) : Int) from rfl, h1, Option.bind_some, Option.bind_some]
  rcases h2 with ⟨h2, h3⟩ | ⟨h2, h3⟩
  · rw [if_pos (by simpa using h2)]
    exact ⟨_, rfl, .inl ⟨rfl, h3⟩⟩
  · rw [if_neg (by rw [h2]; decide)]
    unfold m_slices_Clone_int_int m_slices_Sort_int_int_2
    rw [if_pos (by simp), if_pos (by omega), Option.bind_some, List.nil_append, if_pos (by omega), Option.bind_some]
    obtain ⟨c, h4, h5⟩ := compact_sorted 8589934592 (by omega) o (by omega)
    rw [h4, Option.bind_some]
    rcases h5 with ⟨h5, h6⟩ | ⟨h5, h6⟩
    · rw [if_neg (by omega)]
      obtain ⟨g1, g2⟩ := ofN_of h3
      generalize o.map Int.toNat = s at g1 g2 ⊢
      subst g1
      rw [ofN_len] at ho
      have := follow_loop 8589934592 l ok s (by omega) g2 s 8589934592 0 [] 0 0 (-5000000000000000) rfl (by omega) rfl (by omega) (.inl ⟨rfl, rfl⟩) (by unfold Oke; omega)
      refine ⟨_, this, .inr ⟨h3, .inr ⟨h6, ?_⟩⟩⟩
      cases goes l (-5000000000000000) s with
      | none => exact .inl ⟨rfl, rfl⟩
      | some b => exact .inr ⟨b, rfl, by simp⟩
    · rw [if_pos (by omega)]
      exact ⟨_, rfl, .inr ⟨h3, .inl ⟨rfl, h6⟩⟩⟩
theorem ofN_toNat (s : List Nat) : (ofN s).map Int.toNat = s := by
  unfold ofN; rw [List.map_map]
  conv => rhs; rw [← List.map_id s]
  exact List.map_congr_left fun x _ => by simp
theorem ofN_nodup {s : List Nat} (h : s.Nodup) : (ofN s).Nodup := by
  unfold ofN
  exact h.map (f := fun (i : Nat) => (i : Int)) (fun a b hne hab => hne (by omega))
theorem follow_goes (l : List BTask) (hl : l.length ≤ 8) (ok : ∀ t ∈ l, Okt t) (s : List Nat) (hs : s.length ≤ 20) (hn : s.Nodup) (b : BRun) (hb : goes l (-5000000000000000) s = some b) : m_plan_Follow 8589934592 l (ofN s) = some (b.1, 0) := by
  obtain ⟨r, h1, h2⟩ := follow_all l hl ok (ofN s) (by rw [ofN_len]; exact hs)
  rw [ofN_toNat, hb] at h2
  have hrg := (goes_pos l ok s _ b hb).2.2
  rcases h2 with ⟨_, x, hx, hx'⟩ | ⟨_, ⟨_, h3⟩ | ⟨_, ⟨_, h4⟩ | ⟨b', h4, rfl⟩⟩⟩
  · exfalso
    unfold ofN at hx
    obtain ⟨i, hi, rfl⟩ := List.mem_map.1 hx
    have := hrg i hi
    omega
  · exact absurd (ofN_nodup hn) h3
  · cases h4
  · obtain rfl := Option.some.inj h4
    exact h1
theorem value_loop (F : Nat) (l : List BTask) (ok : ∀ t ∈ l, Okt t) (s : List Nat) (hs : s.length ≤ 1000) : ∀ (suf : List Nat) (N i : Nat) (acc e : Int) (r : BRun), s.drop i = suf → suf.length < N → i ≤ s.length → 0 ≤ acc → acc ≤ 1000000 * (i : Int) → goes l e suf = some r →
    m_ref42_Value_l2 F (ofN s) l N acc (i : Int) = some (acc + r.2.2)
  | _, 0, _, _, _, _, _, h, _, _, _, _ => by omega
  | [], N + 1, i, acc, e, r, hd, _, hi, _, _, hg => by
    show m_ref42_Value_b2 F (ofN s) l (m_ref42_Value_l2 F (ofN s) l N) acc (i : Int) = _
    unfold m_ref42_Value_b2 m_ref42_Value_j1
    have : s.length ≤ i := by
      have := congrArg List.length hd; simp at this; omega
    simp only [goes, Option.some.injEq] at hg
    subst hg
    rw [if_neg (by rw [ofN_len]; omega)]
    simp
  | x :: suf, N + 1, i, acc, e, r, hd, hN, hi, h0, h1', hg => by
    obtain ⟨h1, h2, h3⟩ := drop_at hd
    simp only [goes] at hg
    cases ht : l[x]? with
    | none => rw [ht] at hg; simp at hg
    | some t =>
      rw [ht] at hg
      simp only at hg
      split at hg
      · obtain ⟨r', hr', rfl⟩ := Option.map_eq_some_iff.1 hg
        have hok := (ok t (List.mem_of_getElem? ht)).2.2.2.2.2.2
        show m_ref42_Value_b2 F (ofN s) l (m_ref42_Value_l2 F (ofN s) l N) acc (i : Int) = _
        unfold m_ref42_Value_b2
        rw [if_pos (by rw [ofN_len]; omega), ofN_at h1, Option.bind_some, idx_at ht, Option.bind_some, i64_of (by omega), Option.bind_some, wrap_succ (n := 1000) (by omega) (by omega),
          value_loop F l ok s hs suf N (i + 1) (acc + t.2.2.2) _ r' h2 (by simp at hN; omega) (by omega) (by omega) (by omega) hr']
        simp only [addC]
        congr 1; omega
      · cases hg
theorem value_goes (l : List BTask) (ok : ∀ t ∈ l, Okt t) (s : List Nat) (hs : s.length ≤ 1000) (e : Int) (b : BRun) (hb : goes l e s = some b) : m_ref42_Value 8589934592 l (ofN s) = some b.2.2 := by
  unfold m_ref42_Value
  have := value_loop 8589934592 l ok s hs s 8589934592 0 0 e b rfl (by omega) (by omega) (by omega) (by omega) hb
  rw [Int.zero_add] at this
  exact this
theorem same_loop (F : Nat) (a : List (Int × Int)) (ha : a.length ≤ 1000) : ∀ (k N i : Nat), i + k = a.length → k < N → m_ref42_SameSlots_2_l2 F a a N (i : Int) = some true
  | _, 0, _, _, h => by omega
  | 0, N + 1, i, hi, _ => by
    show m_ref42_SameSlots_2_b2 F a a (m_ref42_SameSlots_2_l2 F a a N) (i : Int) = _
    unfold m_ref42_SameSlots_2_b2 m_ref42_SameSlots_2_j1
    rw [if_neg (by omega)]
  | k + 1, N + 1, i, hi, hN => by
    obtain ⟨x, hx⟩ : ∃ x, a[i]? = some x := ⟨_, List.getElem?_eq_getElem (by omega)⟩
    show m_ref42_SameSlots_2_b2 F a a (m_ref42_SameSlots_2_l2 F a a N) (i : Int) = _
    unfold m_ref42_SameSlots_2_b2
    rw [if_pos (by omega), idx_at hx, Option.bind_some, Option.bind_some, if_neg (by simp), wrap_succ (n := 1000) (by omega) (by omega)]
    exact same_loop F a ha k N (i + 1) (by omega) (by omega)
theorem same_self (a : List (Int × Int)) (ha : a.length ≤ 1000) : m_ref42_SameSlots_2 8589934592 a a = some true := by
  unfold m_ref42_SameSlots_2
  rw [if_neg (by simp)]
  exact same_loop _ a ha a.length 8589934592 0 (by omega) (by omega)
section
variable (l : List BTask) (hl : l.length ≤ 8) (ok : ∀ t ∈ l, Okt t) (o : List Int) (ho : o.length ≤ 8) (s : List Nat) (hsl : s.length ≤ 20) (hn : s.Nodup) (B : BRun) (hB : goes l (-5000000000000000) s = some B)
  (hge : ∀ s' b, goes l (-5000000000000000) s' = some b → s'.Nodup → geC B b)
include hl ok ho hsl hn hB hge
theorem best_j2 : m_law42_PlanBest_j2 8589934592 l o true (B.1, B.2.2, 0) (B.1, 0) false = some true := by
  unfold m_law42_PlanBest_j2
  rw [if_neg (by decide)]
  obtain ⟨r, h1, h2⟩ := follow_all l hl ok o (by omega)
  rw [h1, Option.bind_some]
  have hbad : (r.2 = 2 ∨ r.2 = 14 ∨ r.2 = 16) → (if r.2 ≠ (0 : Int) then (some (true && (((decide (r.2 = (2 : Int))) || (decide (r.2 = (14 : Int)))) || (decide (r.2 = (16 : Int)))))) else none) = some true := fun h => by
    rw [if_pos (by omega)]
    simp only [Bool.true_and, Option.some.injEq, Bool.or_eq_true, decide_eq_true_eq]
    omega
  by_cases hz : r.2 = 0
  · rcases h2 with ⟨h3, _⟩ | ⟨hrg, ⟨h3, _⟩ | ⟨hnd, ⟨h3, _⟩ | ⟨b, hb, rfl⟩⟩⟩
    · omega
    · omega
    · omega
    · rw [if_neg (by simp)]
      obtain ⟨g1, g2⟩ := ofN_of hrg
      generalize hso : o.map Int.toNat = s' at g1 g2 hb
      subst g1
      rw [ofN_len] at ho
      rw [value_goes l ok s' (by omega) _ b hb, Option.bind_some]
      have hs'n : s'.Nodup := by
        unfold ofN at hnd
        exact List.Pairwise.of_map (f := fun (i : Nat) => (i : Int)) (fun a b hne hab => hne (by rw [hab])) hnd
      have hg := hge s' b hb hs'n
      dsimp only
      split
      · simp only [Bool.true_and, Option.some.injEq, decide_eq_true_eq]
        unfold geC at hg; omega
      · rename_i hc
        simp only [Bool.or_eq_true, decide_eq_true_eq, not_or, ne_eq, Decidable.not_not] at hc
        have hbl := goes_len hb
        have hBl := goes_len hB
        have hs'0 : s' ≠ [] := fun h => by subst h; exact hc.2 (by rw [hbl]; rfl)
        have hpos := (goes_pos l ok s' _ b hb).1
        have hs0 : s ≠ [] := fun h => by
          subst h
          simp only [goes, Option.some.injEq] at hB
          subst hB
          have : 0 < s'.length := List.length_pos_iff.2 hs'0
          simp only at hc
          omega
        obtain ⟨x, k, t, a1, a2, a3, a4⟩ := goes_last l s _ B hB hs0
        obtain ⟨x', k', t', b1, b2, b3, b4⟩ := goes_last l s' _ b hb hs'0
        have hs1 : 0 < s.length := List.length_pos_iff.2 hs0
        have hs2 : 0 < s'.length := List.length_pos_iff.2 hs'0
        have w1 : IntKind.i64.wrap ((B.1.length : Int) - 1) = ((B.1.length - 1 : Nat) : Int) := by rw [i64_of (by omega)]; omega
        have w2 : IntKind.i64.wrap ((b.1.length : Int) - 1) = ((b.1.length - 1 : Nat) : Int) := by rw [i64_of (by omega)]; omega
        rw [w1, w2, idx_at a1, Option.bind_some, idx_at b1, Option.bind_some, a2, b2, idx_at a3, Option.bind_some, idx_at b3, Option.bind_some, if_pos rfl, Option.bind_some, Option.bind_some]
        unfold m_law42_PlanBest_j1
        have o1 := goes_oke l ok s _ B (by unfold Oke; omega) hB
        have o2 := goes_oke l ok s' _ b (by unfold Oke; omega) hb
        unfold Oke at o1 o2
        rw [a4, b4, i64_of (by omega), i64_of (by omega)]
        simp only [Option.some.injEq, decide_eq_true_eq]
        unfold geC at hg; omega
  · rw [if_pos hz]
    have : r.2 = 2 ∨ r.2 = 14 ∨ r.2 = 16 := by
      rcases h2 with ⟨h3, _⟩ | ⟨_, ⟨h3, _⟩ | ⟨_, ⟨h3, _⟩ | ⟨b, hb, rfl⟩⟩⟩
      · exact .inl h3
      · exact .inr (.inl h3)
      · exact .inr (.inr h3)
      · exact absurd rfl hz
    have h4 := hbad this
    rw [if_pos hz] at h4
    exact h4
theorem best_j4 : m_law42_PlanBest_j4 8589934592 l o true (B.1, B.2.2, 0) (ofN s) = some true := by
  unfold m_law42_PlanBest_j4
  rw [follow_goes l hl ok s hsl hn B hB, Option.bind_some, if_neg (by simp), same_self B.1 (by rw [goes_len hB]; omega), Option.bind_some]
  unfold m_law42_PlanBest_j3
  rw [if_neg (by decide), value_goes l ok s (by omega) _ B hB, Option.bind_some]
  have h := best_j2 l hl ok o ho s hsl hn B hB hge
  have e : decide (B.2.2 ≠ (B.1, B.2.2, (0 : Int)).2.1) = false := by simp
  rw [e]
  exact h
theorem best_l5 : ∀ (suf : List Nat) (N i : Nat), s.drop i = suf → suf.length < N → i ≤ s.length → m_law42_PlanBest_l5 8589934592 (B.1, B.2.2, 0) l o true N (ofN (s.take i)) (i : Int) = some true
  | _, 0, _, _, h, _ => by omega
  | [], N + 1, i, hd, _, hi => by
    show m_law42_PlanBest_b5 8589934592 (B.1, B.2.2, 0) l o true (m_law42_PlanBest_l5 8589934592 (B.1, B.2.2, 0) l o true N) (ofN (s.take i)) (i : Int) = _
    unfold m_law42_PlanBest_b5
    have h5 : s.length ≤ i := by
      have := congrArg List.length hd; simp at this; omega
    have hBl := goes_len hB
    rw [if_neg (by simp only; omega), List.take_of_length_le h5]
    exact best_j4 l hl ok o ho s hsl hn B hB hge
  | x :: suf, N + 1, i, hd, hN, hi => by
    obtain ⟨h1, h2, h3⟩ := drop_at hd
    show m_law42_PlanBest_b5 8589934592 (B.1, B.2.2, 0) l o true (m_law42_PlanBest_l5 8589934592 (B.1, B.2.2, 0) l o true N) (ofN (s.take i)) (i : Int) = _
    unfold m_law42_PlanBest_b5
    have hBl := goes_len hB
    have htk := goes_tasks l s _ B hB
    obtain ⟨y, hy⟩ : ∃ y, B.1[i]? = some y := ⟨_, List.getElem?_eq_getElem (by omega)⟩
    have hyx : y.1 = (x : Int) := by
      have h6 : (B.1.map (·.1))[i]? = some y.1 := by rw [List.getElem?_map, hy]; rfl
      rw [htk] at h6
      unfold ofN at h6
      rw [List.getElem?_map, h1] at h6
      exact (Option.some.inj h6).symm
    have hxl := (goes_pos l ok s _ B hB).2.2 x (List.mem_of_getElem? h1)
    rw [if_pos (by simp only; omega), idx_at hy, Option.bind_some, hyx, if_neg (by simp; omega), if_pos (by rw [ofN_len, List.length_take]; omega), wrap_succ (n := 1000) (by omega) (by omega)]
    have e1 : ofN (s.take i) ++ [(x : Int)] = ofN (s.take (i + 1)) := by
      unfold ofN; rw [List.take_add_one, h1]; simp
    rw [e1]
    exact best_l5 suf N (i + 1) h2 (by simp at hN; omega) (by omega)
end
theorem law_true (l : List BTask) (o : List Int) : m_law42_PlanBest 8589934592 l o = some true := by
  unfold m_law42_PlanBest m_law42_great
  rw [alive_true, Option.bind_some, Option.bind_some]
  have hj6 : m_law42_PlanBest_j6 8589934592 o true l true = some true := by unfold m_law42_PlanBest_j6; rw [if_pos (by simp)]
  split
  · exact hj6
  · rename_i hc
    simp only [Bool.or_eq_true, Bool.and_eq_true, decide_eq_true_eq, not_or] at hc
    obtain ⟨c, h1, h2⟩ := check_ref 8589934592 (by omega) l (by omega)
    rw [h1, Option.bind_some]
    by_cases hc0 : c = 0
    · have ok := h2 hc0
      unfold m_law42_PlanBest_j6
      split
      · rfl
      · rename_i hc2
        simp only [Bool.or_eq_true, decide_eq_true_eq, not_or] at hc2
        rw [best_model l (by omega) ok, Option.bind_some]
        obtain ⟨s, g1, g2, g3⟩ := bestC_goes l 8589934592 0 (-5000000000000000)
        have hge : ∀ s' b, goes l (-5000000000000000) s' = some b → s'.Nodup → geC (bestC l 8589934592 0 (-5000000000000000)) b := fun s' b hb hn => bestC_ge l (by omega) 8589934592 0 _ (by omega) (by omega) s' b hb hn (fun i _ => Nat.zero_testBit i)
        have hrg := (goes_pos l ok s _ _ g1).2.2
        have hsl : s.length ≤ 8 := by
          have := nodup_len l.length s g2 hrg
          omega
        generalize bestC l 8589934592 0 (-5000000000000000) = B at *
        rw [if_neg (by simp)]
        exact best_l5 l (by omega) ok o (by omega) s (by omega) g2 B g1 hge s 8589934592 0 rfl (by omega) (by omega)
    · rw [show decide (c ≠ (0 : Int)) = true by simpa using hc0]; exact hj6
end Go.Proofs.Ytipedambeemdaaa
