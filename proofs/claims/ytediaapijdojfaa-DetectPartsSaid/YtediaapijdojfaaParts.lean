/- Parts returns what the reference returns, and leaves the field as it is: for every field, marks, threshold and number. No conditions. -/
import Derived.Test.YtediaapijdojfaaRows
import Derived.Test.YtediaapijdojfaaSL13
import Derived.Test.YtediaapijdojfaaWb
import Derived.ProofKit
import Derived.Lib.SmallJoins
import Derived.Deep.Grids
namespace Go.Proofs.Ytediaapijdojfaa
open Go Go.SL Go.ChangeShapes Go.WideShapes Go.ChangeAt Go.RowKit
theorem rdOK_cells {W : World} {a : Addr} {len cap : Nat} {xs : List Value} (hl : xs.length = len) (hm : len ≤ maxLen) (h : ∀ i u, xs[i]? = some u → W.cell? (a.add i) = some u) : rdOK (hp W) 1 (.slice (some a) len cap) len xs := by
  refine ⟨by omega, hm, some a, cap, rfl, fun hn => ?_⟩
  have h0 := h 0 (xs[0]'(by omega)) (by simp [hl, hn])
  unfold World.cell? at h0
  cases hb : W.heap[a.block]? with
  | none => simp [Addr.add, hb] at h0
  | some o =>
    cases o with
    | cells cur e z =>
      have hs : a.spot = none := by
        cases hs : a.spot with
        | none => rfl
        | some s => simp [Addr.add, hb, hs] at h0
      refine ⟨a, cur, e, z, rfl, hs, hb, fun j u hj => ?_⟩
      have := h j u hj
      have ea : a.add j = ⟨a.block, a.off + j, none⟩ := by
        obtain ⟨b, o, sp⟩ := a
        simp only at hs
        subst hs
        simp [Addr.add]
      rw [ea] at this
      unfold World.cell? at this
      simpa [hb] using this
    | _ => simp [Addr.add, hb] at h0

theorem Try.own : ownKnob Try.prog.godebug = none := by kernel_rfl
theorem Try.laidOut : laidOutB Try.prog = true := by kernel_rfl

set_option maxRecDepth 100000 in
theorem detectParts_lifted (os : Os) (started : os.Started) (H : Type) (enc : TypeId × Value → H) :
    ReturnsInHanded {} Try.checked os 3 .any (Rows.detectPartsSpec.pre6 enc Try.prog Try.f3 Rows.detectPartsRow.domain false) (Rows.detectPartsSpec.post enc Try.prog Try.f3 false true false false) := by
  refine returnsInHanded_of_change (C := Try.checked) Try.own started (by kernel_rfl) Try.func3
    (ChangeSpec.witness6 (enc := enc) (C := Try.checked) false ⟨#[], #[.agg #[.int .i64 0, .int .i64 0, .slice none 0 0], .slice none 0 0, .int .i64 0, .int .i64 0], []⟩ 8 (by kernel_rfl) (by kernel_rfl) (by kernel_rfl) (by kernel_rfl)) ?_
  intro W base args ds gs before hval0 hW hcnd _
  have hval : ∀ (j : Nat) t v, Try.f3.params[j]? = some t → args[j]? = some v → Value.okWide Try.prog W .any base t v := hval0
  have hW' := hW
  obtain ⟨p, q, hA0, hV, rfl, hfz, hnd⟩ := hW
  have hA : DataW.TrodAll enc Try.prog W 0 (fun _ => true) true Try.f3.params.toList args.toList ds p := hA0
  rw [Try.params3] at hA hval
  obtain ⟨v0, v1, v2, v3, d0, d1, d2, d3, p0, p1, p2, p3, rfl, rfl, rfl, h0, h1, h2, h3⟩ := trodAll_four hA
  obtain ⟨rfl, rfl⟩ := trodVars_none hV
  have h0k := h0
  have h1k := h1
  have h2k := h2
  have h3k := h3
  obtain ⟨fw, fh, vP, y0, y1, y2, m, rfl, rfl, rfl, hy0, hy1, hy2⟩ := Joins.open_agg3 Try.underlying24 (by kernel_rfl) (by kernel_rfl) (hval 0 24 v0 rfl rfl) h0
  obtain ⟨a, e0, _, _⟩ := DataW.trod_int Try.underlying3 hy0
  obtain ⟨b, e1, _, _⟩ := DataW.trod_int Try.underlying3 hy1
  obtain rfl : fw = .int .i64 a := by simpa using e0
  obtain rfl : fh = .int .i64 b := by simpa using e1
  have hP : ∃ zs : List Int, rdOK (hp W) 1 vP zs.length (ints zs) := by
    rcases open_ints Try.underlying22 Try.underlying2 (by kernel_rfl) hy2 with ⟨hc, _⟩ | ⟨ad, len, cap, zs, hc, _, hl, hm, hz, _, hcell, _⟩
    · obtain rfl : vP = .slice none 0 0 := by simpa using hc
      exact ⟨[], ⟨rfl, Nat.zero_le _, none, 0, rfl, fun h => absurd h (Nat.lt_irrefl _)⟩⟩
    · obtain rfl : vP = .slice (some ad) len cap := by simpa using hc
      have hz' : zs.length = cap := by simpa using hz
      have ht : (zs.take len).length = len := by rw [List.length_take]; omega
      refine ⟨zs.take len, ?_⟩
      rw [ht]
      refine rdOK_cells (by rw [Go.SL.ints_len]; exact ht) (by omega) fun i u hu => ?_
      obtain ⟨hi, rfl⟩ := Go.SL.ints_at hu
      rw [hcell i (by omega)]
      congr 2
      simp only [List.getD_eq_getElem?_getD, List.getElem?_take_of_lt (show i < len by omega)]
  have hB : ∃ bs : List Bool, rdOK (hp W) 1 v1 bs.length (bools bs) := by
    obtain ⟨a0, len0, cap0, rfl⟩ := okWide_slice Try.underlying25 (hval 1 25 v1 rfl rfl)
    obtain ⟨fuel, hf⟩ := h1
    rcases Deep.open_bools Try.underlying25 Try.underlying4 (by kernel_rfl) hf with ⟨hc, _⟩ | ⟨ad, len, cap, Bf, hc, _, hl, hm, _, hcell⟩
    · have hc : (Value.slice a0 len0 cap0) = .slice none 0 0 := by simpa [Value.cells] using hc
      rw [hc]
      exact ⟨[], ⟨rfl, Nat.zero_le _, none, 0, rfl, fun h => absurd h (Nat.lt_irrefl _)⟩⟩
    · have hc : (Value.slice a0 len0 cap0) = .slice (some ad) len cap := by simpa [Value.cells] using hc
      rw [hc]
      refine ⟨(List.range len).map Bf, ?_⟩
      have ht : ((List.range len).map Bf).length = len := by simp
      rw [ht]
      refine rdOK_cells (by simp [bools]) (by omega) fun i u hu => ?_
      simp only [bools, List.map_map, List.getElem?_map, Option.map_eq_some_iff] at hu
      obtain ⟨j, hj, rfl⟩ := hu
      have hj' := List.getElem?_eq_some_iff.1 hj
      obtain ⟨hi, he⟩ := hj'
      simp only [List.length_range] at hi
      simp only [List.getElem_range] at he
      subst he
      exact hcell i (by omega)
  obtain ⟨c, rfl, rfl, rfl, _⟩ := open_int Try.underlying2 (hval 2 2 v2 rfl rfl) h2
  obtain ⟨d, rfl, rfl, rfl, _⟩ := open_int Try.underlying3 (hval 3 3 v3 rfl rfl) h3
  obtain ⟨zs, hP⟩ := hP
  obtain ⟨bs, hB⟩ := hB
  haveI : Decidable (Det.fieldOK a b zs) := Classical.propDecidable _
  refine Calls.mono (law_spec a b c d vP v1 zs bs W hP hB) fun e W' ⟨_, he, hS⟩ => ?_
  subst he
  have hb : RowKit.Below W.heap.size W W' := ⟨hS.os, hS.tape, hS.output, hS.size, fun k hk => hS.old k hk (fun h => h)⟩
  refine ⟨_, rfl, _, _, _, [], (y0.2 ++ (y1.2 ++ y2.2)) ++ (p1 ++ ([] ++ [])), [], hW', trodAll_mk1 (shut_bool Try.underlying4 true), ?_, ?_, hb.frame _, fun h => by cases h⟩
  · have hl := hW'.lt
    simp only [List.append_nil] at hl
    exact trodAll_mk4 (Below.trod Try.laidOut (by kernel_rfl) (of_decide_eq_true (by kernel_rfl)) h0k hb (fun x hx => hl x (List.mem_append_left _ hx))) (Below.trod Try.laidOut (by kernel_rfl) (of_decide_eq_true (by kernel_rfl)) h1k hb (fun x hx => hl x (List.mem_append_right _ hx)))
      (Below.trod Try.laidOut (by kernel_rfl) (of_decide_eq_true (by kernel_rfl)) h2k hb (fun x hx => absurd hx List.not_mem_nil)) (Below.trod Try.laidOut (by kernel_rfl) (of_decide_eq_true (by kernel_rfl)) h3k hb (fun x hx => absurd hx List.not_mem_nil))
  · rfl
theorem detectParts_holds : Rows.DetectPartsSaid :=
  OpenClaim.holds_of_wide 3 Try.f3 rfl rfl rfl rfl rfl rfl rfl ⟨rfl, rfl, rfl, rfl, rfl⟩ rfl rfl rfl rfl rfl (by kernel_rfl) Try.func3 (by kernel_rfl)
    (of_decide_eq_true (by kernel_rfl)) (by unfold Func.isWrapper; first | (rw [if_pos (by decide +kernel)]; kernel_rfl) | (rw [if_neg (by decide +kernel)]; exact ⟨rfl, rfl⟩))
    (fun os started H enc _ => detectParts_lifted os started H enc)
end Go.Proofs.Ytediaapijdojfaa
