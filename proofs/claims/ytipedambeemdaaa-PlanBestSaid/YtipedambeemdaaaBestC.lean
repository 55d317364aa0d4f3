/- The best run, in plain Lean: it can be gone, and nothing that can be gone is better. -/
import Derived.Test.YtipedambeemdaaaBestN
set_option linter.unusedVariables false
set_option linter.unusedSimpArgs false
namespace Go.SL
open Go
def Okt (t : BTask) : Prop := -5000000000000000 ≤ t.1 ∧ t.1 ≤ 5000000000000000 ∧ -5000000000000000 ≤ t.2.1 ∧ t.2.1 ≤ 5000000000000000 ∧ 1 ≤ t.2.2.1 ∧ t.2.2.1 ≤ t.2.1 - t.1 ∧ 1 ≤ t.2.2.2 ∧ t.2.2.2 ≤ 1000000
def Oke (e : Int) : Prop := -5000000000000000 ≤ e ∧ e ≤ 5000000000000000
def stC (t : BTask) (e : Int) : Int := if t.1 < e then e else t.1
def addC (i : Nat) (t : BTask) (e : Int) (a : BRun) : BRun := (((i : Int), stC t e) :: a.1, a.2.1, a.2.2 + t.2.2.2)
def candC (rest : Nat → Int → BRun) (u : Nat) (e : Int) (i : Nat) (t : BTask) (b : BRun) : BRun :=
  if u.testBit i = true then b else
  if stC t e + t.2.2.1 ≤ t.2.1 then
    let a := rest (u ||| 2 ^ i) (stC t e + t.2.2.1)
    if a.2.2 + t.2.2.2 > b.2.2 ∨ (a.2.2 + t.2.2.2 = b.2.2 ∧ a.2.1 < b.2.1) then addC i t e a else b
  else b
def foldC (rest : Nat → Int → BRun) (u : Nat) (e : Int) : List BTask → Nat → BRun → BRun
  | [], _, b => b
  | t :: l, i, b => foldC rest u e l (i + 1) (candC rest u e i t b)
def bestC (l : List BTask) : Nat → Nat → Int → BRun
  | 0, _, e => ([], e, 0)
  | n + 1, u, e => foldC (bestC l n) u e l 0 ([], e, 0)

theorem stC_ok {t : BTask} {e : Int} (ht : Okt t) (he : Oke e) : Oke (stC t e) := by
  unfold Okt Oke stC at *; split <;> omega
theorem stC_en {t : BTask} {e : Int} (ht : Okt t) (he : Oke e) (h : stC t e + t.2.2.1 ≤ t.2.1) : Oke (stC t e + t.2.2.1) := by
  have := stC_ok ht he
  unfold Okt Oke at *; omega

/-- what holds of the first run and of all candidates holds of the best one -/
theorem foldC_ind {P : BRun → Prop} {rest : Nat → Int → BRun} {u : Nat} {e : Int} : ∀ (l : List BTask) (i : Nat) (b : BRun), P b →
    (∀ k t, l[k]? = some t → u.testBit (i + k) = false → stC t e + t.2.2.1 ≤ t.2.1 → P (addC (i + k) t e (rest (u ||| 2 ^ (i + k)) (stC t e + t.2.2.1)))) → P (foldC rest u e l i b)
  | [], _, _, h, _ => h
  | t :: l, i, b, h, hc => by
    refine foldC_ind l (i + 1) _ ?_ (fun k t' hk hb hs => ?_)
    · unfold candC
      split
      · exact h
      · rename_i hb
        split
        · rename_i hs
          dsimp only
          split
          · exact hc 0 t rfl (by simpa using hb) hs
          · exact h
        · exact h
    · have := hc (k + 1) t' (by simpa using hk) (by rw [show i + (k + 1) = i + 1 + k by omega]; exact hb) hs
      rw [show i + (k + 1) = i + 1 + k by omega] at this
      exact this

/-- at least as good -/
def geC (b r : BRun) : Prop := r.2.2 < b.2.2 ∨ (r.2.2 = b.2.2 ∧ b.2.1 ≤ r.2.1)
theorem geC.refl (b : BRun) : geC b b := .inr ⟨rfl, Int.le_refl _⟩
theorem geC.trans {a b c : BRun} (h1 : geC a b) (h2 : geC b c) : geC a c := by unfold geC at *; omega
theorem candC_ge {rest : Nat → Int → BRun} {u : Nat} {e : Int} {i : Nat} {t : BTask} {b : BRun} : geC (candC rest u e i t b) b := by
  unfold candC
  split
  · exact geC.refl b
  · split
    · dsimp only
      split
      · rename_i h; unfold geC addC; simp only; omega
      · exact geC.refl b
    · exact geC.refl b
theorem candC_ge2 {rest : Nat → Int → BRun} {u : Nat} {e : Int} {i : Nat} {t : BTask} {b : BRun} (hb : u.testBit i = false) (hs : stC t e + t.2.2.1 ≤ t.2.1) : geC (candC rest u e i t b) (addC i t e (rest (u ||| 2 ^ i) (stC t e + t.2.2.1))) := by
  unfold candC
  rw [if_neg (by simp [hb]), if_pos hs]
  dsimp only
  split
  · exact geC.refl _
  · rename_i h; unfold geC addC; simp only; omega
theorem foldC_ge {rest : Nat → Int → BRun} {u : Nat} {e : Int} : ∀ (l : List BTask) (i : Nat) (b : BRun), geC (foldC rest u e l i b) b ∧
    ∀ k t, l[k]? = some t → u.testBit (i + k) = false → stC t e + t.2.2.1 ≤ t.2.1 → geC (foldC rest u e l i b) (addC (i + k) t e (rest (u ||| 2 ^ (i + k)) (stC t e + t.2.2.1)))
  | [], _, b => ⟨geC.refl b, fun k t h => by simp at h⟩
  | t :: l, i, b => by
    obtain ⟨h1, h2⟩ := foldC_ge (rest := rest) (u := u) (e := e) l (i + 1) (candC rest u e i t b)
    refine ⟨h1.trans candC_ge, fun k t' hk hb hs => ?_⟩
    cases k with
    | zero =>
      simp only [List.getElem?_cons_zero, Option.some.injEq] at hk
      subst hk
      exact h1.trans (candC_ge2 hb hs)
    | succ k =>
      have := h2 k t' (by simpa using hk) (by rw [show i + 1 + k = i + (k + 1) by omega]; exact hb) hs
      rw [show i + 1 + k = i + (k + 1) by omega] at this
      exact this

/-! ## orders that can be gone -/
def goes (l : List BTask) : Int → List Nat → Option BRun
  | e, [] => some ([], e, 0)
  | e, i :: s => match l[i]? with
    | none => none
    | some t => if stC t e + t.2.2.1 ≤ t.2.1 then (goes l (stC t e + t.2.2.1) s).map (addC i t e) else none
theorem bit_more (u i : Nat) (hu : u < 256) (hi : i < 8) (hb : u.testBit i = false) : u < u ||| 2 ^ i ∧ u ||| 2 ^ i < 256 := by
  have : ∀ u : Fin 256, ∀ i : Fin 8, u.val.testBit i.val = false → u.val < u.val ||| 2 ^ i.val ∧ u.val ||| 2 ^ i.val < 256 := by decide +kernel
  exact this ⟨u, hu⟩ ⟨i, hi⟩ hb
theorem bit_or {u i j : Nat} : (u ||| 2 ^ i).testBit j = (u.testBit j || decide (i = j)) := by
  rw [Nat.testBit_or, Nat.testBit_two_pow]

theorem bestC_goes (l : List BTask) : ∀ (n u : Nat) (e : Int), ∃ s, goes l e s = some (bestC l n u e) ∧ s.Nodup ∧ ∀ i ∈ s, u.testBit i = false
  | 0, u, e => ⟨[], rfl, by simp, by simp⟩
  | n + 1, u, e => by
    show ∃ s, goes l e s = some (foldC (bestC l n) u e l 0 ([], e, 0)) ∧ s.Nodup ∧ ∀ i ∈ s, u.testBit i = false
    refine foldC_ind (P := fun b => ∃ s, goes l e s = some b ∧ s.Nodup ∧ ∀ i ∈ s, u.testBit i = false) l 0 _ ⟨[], rfl, by simp, by simp⟩ (fun k t hk hb hs => ?_)
    rw [Nat.zero_add] at hb ⊢
    obtain ⟨s, h1, h2, h3⟩ := bestC_goes l n (u ||| 2 ^ k) (stC t e + t.2.2.1)
    refine ⟨k :: s, ?_, ?_, ?_⟩
    · simp only [goes, hk, if_pos hs, h1, Option.map_some]
    · rw [List.nodup_cons]
      refine ⟨fun hm => ?_, h2⟩
      have := h3 k hm
      rw [bit_or] at this
      simp at this
    · intro i hi
      rcases List.mem_cons.1 hi with rfl | hi
      · exact hb
      · have := h3 i hi
        rw [bit_or] at this
        simp only [Bool.or_eq_false_iff] at this
        exact this.1
theorem bestC_ge (l : List BTask) (hl : l.length ≤ 8) : ∀ (n u : Nat) (e : Int), u < 256 → 256 ≤ n + u → ∀ s r, goes l e s = some r → s.Nodup → (∀ i ∈ s, u.testBit i = false) → geC (bestC l n u e) r
  | 0, u, e, hu, hn, _, _, _, _, _ => by omega
  | n + 1, u, e, hu, hn, s, r, hg, hd, hs => by
    obtain ⟨g1, g2⟩ := foldC_ge (rest := bestC l n) (u := u) (e := e) l 0 ([], e, 0)
    cases s with
    | nil => simp only [goes, Option.some.injEq] at hg; subst hg; exact g1
    | cons i s =>
      simp only [goes] at hg
      cases hi : l[i]? with
      | none => rw [hi] at hg; simp at hg
      | some t =>
        rw [hi] at hg
        simp only at hg
        split at hg
        · rename_i hst
          obtain ⟨r', hr', rfl⟩ := Option.map_eq_some_iff.1 hg
          have hb := hs i (by simp)
          have hlt : i < 8 := Nat.lt_of_lt_of_le (List.getElem?_eq_some_iff.1 hi).1 hl
          obtain ⟨m1, m2⟩ := bit_more u i hu hlt hb
          rw [List.nodup_cons] at hd
          have ih := bestC_ge l hl n (u ||| 2 ^ i) (stC t e + t.2.2.1) m2 (by omega) s r' hr' hd.2 (fun j hj => by
            rw [bit_or, hs j (by simp [hj])]
            simp only [Bool.false_or, decide_eq_false_iff_not]
            exact fun h => hd.1 (h ▸ hj))
          have g3 := g2 i t hi (by rw [Nat.zero_add]; exact hb) hst
          rw [Nat.zero_add] at g3
          refine geC.trans g3 ?_
          unfold geC addC at *
          simp only at *
          omega
        · cases hg
/-- sizes -/
structure Fits (n u : Nat) (b : BRun) : Prop where
  len : b.1.length + u ≤ 256
  en : Oke b.2.1
  lo : 0 ≤ b.2.2
  hi : b.2.2 ≤ 1000000 * (n : Int)
theorem bestC_fits (l : List BTask) (hl : l.length ≤ 8) (ok : ∀ t ∈ l, Okt t) : ∀ (n u : Nat) (e : Int), u < 256 → Oke e → Fits n u (bestC l n u e)
  | 0, u, e, hu, he => ⟨by simp [bestC]; omega, he, Int.le_refl _, by simp [bestC]⟩
  | n + 1, u, e, hu, he => by
    show Fits (n + 1) u (foldC (bestC l n) u e l 0 ([], e, 0))
    refine foldC_ind l 0 _ ⟨by simp; omega, he, Int.le_refl _, by simp; omega⟩ (fun k t hk hb hs => ?_)
    rw [Nat.zero_add] at hb ⊢
    have hlt : k < 8 := Nat.lt_of_lt_of_le (List.getElem?_eq_some_iff.1 hk).1 hl
    obtain ⟨m1, m2⟩ := bit_more u k hu hlt hb
    have ht := ok t (List.mem_of_getElem? hk)
    have ih := bestC_fits l hl ok n (u ||| 2 ^ k) (stC t e + t.2.2.1) m2 (stC_en ht he hs)
    have h1 := ih.len; have h2 := ih.lo; have h3 := ih.hi
    unfold Okt at ht
    refine ⟨?_, ih.en, ?_, ?_⟩
    · simp only [addC, List.length_cons]; omega
    · simp only [addC]; omega
    · simp only [addC]; push_cast; omega
end Go.SL
