/- clear of a part of a slice of one's own. -/
import Derived.Test.YtipedambeemdaaaSL23
set_option linter.unusedVariables false
set_option linter.unusedSimpArgs false
namespace Go.SL
open Go
section
variable {T : Type} {enc : T → List Value} {sz : Nat} {l m l' : List T}
variable {r : Option Nat} {P : Program} {Q : Exit → Act → World → Prop} {ops : Array Oper} {i : Nat} {rest : List Nat} {a : Act} {w w0 : World} {n : Nat} {ds : List Deferred} {L : List (Nat × Value)}
  {d : Nat} {ty t e : TypeId} {pos : String} {af : Array Edge} {v u z : Value} {X : Nat → Prop} {B M M' : List Asr} {x y : Operand} {j k : Nat} {p1 p2 : Int} {x0 : T}
theorem zero_encs (h0 : 0 < sz) (he : ∀ x, (enc x).length = sz) (hz : z.cells.toList = enc x0) (n : Nat) : (Builtin.zeroCells z.cells n).toList = encs enc (List.replicate n x0) := by
  have hs : z.cells.size = sz := by rw [← Array.length_toList, hz, he]
  rw [← made_encs h0 he hz]
  unfold Builtin.zeroCells madeCells
  rw [hs]
theorem run_clearW (he : tElem P t = some e) (hs : tSize P e = some sz) (hz : tZero P e = some z) (hz0 : z.cells.toList = enc x0) (h0 : 0 < sz) (hS : St w0 w X B M) (hM : M[j]? = some (slE e sz enc v l)) (henc : ∀ x, (enc x).length = sz) (hone : ∀ x, oneCells (enc x) = true)
    (hb : sbd p1 p2 (l.length : Int)) (hk : p2.toNat - p1.toNat = k) :
    ∃ w', (Builtin.clear_ #[t] ty #[vsub sz v p1 p2]).run P w = .ok (.tuple #[]) w' ∧ St w0 w' X B (M.set j (slE e sz enc v (lcopy l (List.replicate k x0) p1 k))) := by
  have hsl := hS.slS hM
  have hu := und_elem he
  obtain ⟨b1, b2, b3⟩ := hb
  obtain ⟨D, dc, hv⟩ : ∃ D dc, vsub sz v p1 p2 = .slice D (p2.toNat - p1.toNat) dc := by
    rcases hsl.2 with ⟨rfl, h0⟩ | ⟨g, cap, cur, rfl, _⟩ <;> exact ⟨_, _, rfl⟩
  rcases Nat.eq_zero_or_pos k with rfl | hk0
  · refine ⟨w, ?_, ?_⟩
    · rw [hv, hk]
      cases D <;> simp [Builtin.clear_, run_underlying hu]
    · have e1 : lcopy l (List.replicate 0 x0) p1 0 = l := by simp [lcopy]
      rw [e1]
      have e2 : M.set j (slE e sz enc v l) = M := by
        apply List.ext_getElem?
        intro q
        by_cases hq : q = j
        · subst hq
          rw [List.getElem?_set_self (List.getElem?_eq_some_iff.1 hM).1, hM]
        · rw [List.getElem?_set_ne (fun h => hq h.symm)]
      rw [e2]; exact hS
  · obtain ⟨g, cap, rfl⟩ := hsl.form (by omega)
    obtain ⟨cur, _, hg, hcs, htk, hcap, hmx⟩ := hsl.block
    have hv2 : vsub sz (.slice (some ⟨g, 0, none⟩) l.length cap) p1 p2 = .slice (some ⟨g, p1.toNat * sz, none⟩) (p2.toNat - p1.toNat) (cap - p1.toNat) := by
      unfold vsub
      simp only
      rw [if_neg (by omega)]
      simp [add_none]
    have htake : (List.replicate k x0).take k = List.replicate k x0 := by simp
    have hlen : (encs enc (List.replicate k x0)).length = k * sz := by rw [encs_len henc, List.length_replicate]
    have hfit : p1.toNat * sz + 0 + (encs enc (List.replicate k x0)).length ≤ cur.size := by
      rw [hlen, hcs, Nat.add_zero, ← Nat.add_mul]
      exact Nat.mul_le_mul_right _ (by omega)
    have hst := run_storeCells (P := P) (b := g) (o := p1.toNat * sz) (e := e) (encs enc (List.replicate k x0)) 0 w cur hg hfit (oneCells_encs hone _)
    simp only [Nat.add_zero] at hst
    refine ⟨setB w g (.cells (wr cur (p1.toNat * sz) (encs enc (List.replicate k x0))) e (0, 0)), ?_, ?_⟩
    · rw [hv2, hk]
      obtain ⟨k', rfl⟩ : ∃ k', k = k' + 1 := ⟨k - 1, by omega⟩
      simp [Builtin.clear_, run_underlying hu, run_zero hz, zero_encs h0 henc hz0, hst]
    · refine hS.write hM rfl rfl rfl (by rw [setB_size]; exact Nat.le_refl _) (fun b _ hb => setB_ne (fun e => hb (by subst e; rfl))) ?_ (fun b hb => ⟨.inl hb, ?_⟩)
      · have hll : (lcopy l (List.replicate k x0) p1 k).length = l.length := by unfold lcopy; simp; omega
        refine ⟨by rw [encs_len henc], .inr ⟨g, cap, _, by rw [hll], setB_at hg, by rw [hll]; exact hcap, hmx, by rw [size_wr]; exact hcs, ?_⟩⟩
        rw [hll]
        unfold lcopy
        rw [encs_copy henc (by omega) (by simp), htake]
        have h6 : (p1.toNat * sz) + (encs enc (List.replicate k x0)).length ≤ l.length * sz := by rw [hlen, ← Nat.add_mul]; exact Nat.mul_le_mul_right _ (by omega)
        apply List.ext_getElem?
        intro s
        rw [spl_get (by rw [encs_len henc l]; exact h6), ← htk, List.getElem?_take, Array.getElem?_toList, wr_toList, List.getElem?_take, Array.getElem?_toList]
        have h7 : l.length * sz ≤ cap * sz := Nat.mul_le_mul_right _ hcap
        by_cases h8 : s < l.length * sz
        · simp only [h8, if_true]
          by_cases h9 : p1.toNat * sz ≤ s ∧ s < p1.toNat * sz + (encs enc (List.replicate k x0)).length
          · rw [if_pos h9, if_pos ⟨by omega, h9⟩]
          · rw [if_neg h9, if_neg (fun h => h9 h.2), Array.getElem?_toList]
        · simp only [h8, if_false]
          rw [if_neg (by omega)]
      · have hb' : some g = some b := hb
        injection hb' with hb'
        subst hb'
        rw [setB_size]
        exact (Array.getElem?_eq_some_iff.1 hg).1
theorem O.clearW (hf : Fr a n ds L) (hS : St w0 w X B M) (ho : ops[i]? = some ⟨none, .call ⟨.builtin .clear, #[x], #[t]⟩, ty, pos, af, none⟩)
    (he : tElem P t = some e) (hs : tSize P e = some sz) (hz : tZero P e = some z) (hz0 : z.cells.toList = enc x0) (h0 : 0 < sz) (hx : ev L x = some (vsub sz v p1 p2)) (hM : M[j]? = some (slE e sz enc v l)) (henc : ∀ x, (enc x).length = sz) (hone : ∀ x, oneCells (enc x) = true)
    (hb : sbd p1 p2 (l.length : Int)) (hk : p2.toNat - p1.toNat = k) (hM' : M.set j (slE e sz enc v (lcopy l (List.replicate k x0) p1 k)) = M')
    (K : ∀ w', St w0 w' X B M' → O r P ops Q rest a w') : O r P ops Q (i :: rest) a w := by
  subst hM'
  obtain ⟨w', h1, h2⟩ := run_clearW (P := P) (ty := ty) he hs hz hz0 h0 hS hM henc hone hb hk
  refine O.val0 (w' := w') (v := .tuple #[]) hf ho rfl ?_ (K w' h2)
  intro a d pos af g hf
  refine run_builtin (vs := [vsub sz v p1 p2]) hf (by simp [evA, hx]) ?_
  simp only [builtin]
  exact run_v h1
end
end Go.SL
