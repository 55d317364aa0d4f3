/- Of and Ahead return what the reference returns: for every input. No conditions. -/
import Derived.Test.YtplgfmincflodaaRows
import Derived.Test.YtplgfmincflodaaMath
import Derived.Test.YtplgfmincflodaaOf
import Derived.Test.YtplgfmincflodaaRowOpen
set_option linter.unusedVariables false
set_option linter.unusedSimpArgs false
namespace Go.Proofs.Ytplgfmincflodaa
open Go Go.SL Go.ChangeShapes Go.WideShapes Go.ChangeAt Go.RowKit
theorem law_true {x1 x2 x3 x4 x5 x6 x7 x8 x9 x10 x11 x12 x13 x14 x15 x16 x17 x18 : Int} (i3 : I64 x3) (i4 : I64 x4) (i5 : I64 x5) (i6 : I64 x6) (i7 : I64 x7) (i8 : I64 x8) (i9 : I64 x9) (i10 : I64 x10) (i11 : I64 x11) (i12 : I64 x12) (i13 : I64 x13) (i14 : I64 x14) (i15 : I64 x15) (i16 : I64 x16) (i17 : I64 x17) (i18 : I64 x18) :
    m_law30_CellsAsks 8589934592 x1 x2 x3 x4 x5 x6 x7 x8 x9 x10 x11 x12 x13 x14 x15 x16 x17 x18 = some true := by
  unfold m_law30_CellsAsks
  obtain ⟨r, h1, h2⟩ := of_same (F := 8589934592) (x1 := x1) (x2 := x2) (x3 := x3) i3
  obtain ⟨q, h3, h4⟩ := ahead_same (F := 8589934592) (by decide) i4 i5 i6 i7 i8 i9 i10 i11 i12 i13 i14 i15 i16 i17 i18
  rw [h1, h2, h3, h4]
  simp
theorem Try.own : ownKnob Try.prog.godebug = none := by kernel_rfl
theorem Try.laidOut : laidOutB Try.prog = true := by kernel_rfl
theorem leaf25 : leafK Try.prog 4 25 = some [.int .i64, .int .i64, .int .i64, .int .i64, .int .i64, .int .i64] := by kernel_rfl
theorem leaf23 : leafK Try.prog 4 23 = some [.int .i64, .int .i64] := by kernel_rfl
theorem agg25 : tAgg Try.prog 25 = some true := by kernel_rfl
theorem agg23 : tAgg Try.prog 23 = some true := by kernel_rfl
set_option maxRecDepth 100000 in
theorem cellsAsks_lifted (os : Os) (started : os.Started) (H : Type) (enc : TypeId × Value → H) :
    ReturnsInHanded {} Try.checked os 3 .any (Rows.cellsAsksSpec.pre6 enc Try.prog Try.f3 Rows.cellsAsksRow.domain false) (Rows.cellsAsksSpec.post enc Try.prog Try.f3 false true false false) := by
  refine returnsInHanded_of_change (C := Try.checked) Try.own started (by kernel_rfl) Try.func3
    (ChangeSpec.witness6 (enc := enc) (C := Try.checked) false ⟨#[], #[Iv 0, Iv 0, Iv 0, .agg #[Iv 0, Iv 0, Iv 0, Iv 0, Iv 0, Iv 0], .agg #[Iv 0, Iv 0, Iv 0, Iv 0, Iv 0, Iv 0], Iv 0, .agg #[Iv 0, Iv 0]], []⟩ 8 (by kernel_rfl) (by kernel_rfl) (by kernel_rfl) (by kernel_rfl)) ?_
  intro W base args ds gs before hval0 hW hcnd _
  have hval : ∀ (j : Nat) t v, Try.f3.params[j]? = some t → args[j]? = some v → Value.okWide Try.prog W .any base t v := hval0
  have hW' := hW
  obtain ⟨p, q, hA0, hV, rfl, hfz, hnd⟩ := hW
  have hA : DataW.TrodAll enc Try.prog W 0 (fun _ => true) true [3, 2, 2, 25, 25, 2, 23] args.toList ds p := hA0
  obtain ⟨rfl, rfl⟩ := trodVars_none hV
  have hA' := hA
  obtain ⟨v1, a1, d1, ds1, p1, q1, e1, rfl, t1, hA1, rfl⟩ := trodAll_uncons hA
  obtain ⟨v2, a2, d2, ds2, p2, q2, rfl, rfl, t2, hA2, rfl⟩ := trodAll_uncons hA1
  obtain ⟨v3, a3, d3, ds3, p3, q3, rfl, rfl, t3, hA3, rfl⟩ := trodAll_uncons hA2
  obtain ⟨v4, a4, d4, ds4, p4, q4, rfl, rfl, t4, hA4, rfl⟩ := trodAll_uncons hA3
  obtain ⟨v5, a5, d5, ds5, p5, q5, rfl, rfl, t5, hA5, rfl⟩ := trodAll_uncons hA4
  obtain ⟨v6, a6, d6, ds6, p6, q6, rfl, rfl, t6, hA6, rfl⟩ := trodAll_uncons hA5
  obtain ⟨v7, a7, d7, ds7, p7, q7, rfl, rfl, t7, hA7, rfl⟩ := trodAll_uncons hA6
  obtain ⟨rfl, rfl⟩ := trodAll_unnil hA7
  obtain rfl : args = #[v1, v2, v3, v4, v5, v6, v7] := by
    apply Array.ext'
    simpa using e1
  obtain ⟨x1, rfl, rfl, rfl, w1⟩ := open_int Try.underlying3 (hval 0 3 v1 rfl rfl) t1
  obtain ⟨x2, rfl, rfl, rfl, w2⟩ := open_int Try.underlying2 (hval 1 2 v2 rfl rfl) t2
  obtain ⟨x3, rfl, rfl, rfl, w3⟩ := open_int Try.underlying2 (hval 2 2 v3 rfl rfl) t3
  obtain ⟨cs4, rfl, k4⟩ := openAgg leaf25 agg25 (hval 3 25 v4 rfl rfl) t4
  obtain ⟨cs5, rfl, k5⟩ := openAgg leaf25 agg25 (hval 4 25 v5 rfl rfl) t5
  obtain ⟨x16, rfl, rfl, rfl, w16⟩ := open_int Try.underlying2 (hval 5 2 v6 rfl rfl) t6
  obtain ⟨cs7, rfl, k7⟩ := openAgg leaf23 agg23 (hval 6 23 v7 rfl rfl) t7
  obtain ⟨_, _, rfl, ⟨x4, rfl, w4⟩, _, _, rfl, ⟨x5, rfl, w5⟩, _, _, rfl, ⟨x6, rfl, w6⟩, _, _, rfl, ⟨x7, rfl, w7⟩, _, _, rfl, ⟨x8, rfl, w8⟩, _, _, rfl, ⟨x9, rfl, w9⟩, rfl⟩ := k4
  obtain ⟨_, _, rfl, ⟨x10, rfl, w10⟩, _, _, rfl, ⟨x11, rfl, w11⟩, _, _, rfl, ⟨x12, rfl, w12⟩, _, _, rfl, ⟨x13, rfl, w13⟩, _, _, rfl, ⟨x14, rfl, w14⟩, _, _, rfl, ⟨x15, rfl, w15⟩, rfl⟩ := k5
  obtain ⟨_, _, rfl, ⟨x17, rfl, w17⟩, _, _, rfl, ⟨x18, rfl, w18⟩, rfl⟩ := k7
  refine Calls.mono (m_law30_CellsAsks_ok 8589934592 x1 x2 x3 x4 x5 x6 x7 x8 x9 x10 x11 x12 x13 x14 x15 x16 x17 x18 W true
    (law_true (wf64 w3) (wf64 w4) (wf64 w5) (wf64 w6) (wf64 w7) (wf64 w8) (wf64 w9) (wf64 w10) (wf64 w11) (wf64 w12) (wf64 w13) (wf64 w14) (wf64 w15) (wf64 w16) (wf64 w17) (wf64 w18))) fun e W' ⟨_, he, hS⟩ => ?_
  subst he
  have hb : RowKit.Below W.heap.size W W' := ⟨hS.os, hS.tape, hS.output, hS.size, fun k hk => hS.old k hk (fun h => h)⟩
  refine ⟨_, rfl, _, _, _, [], [] ++ ([] ++ ([] ++ (p4 ++ (p5 ++ ([] ++ (p7 ++ q7)))))), [], hW', trodAll_mk1 (shut_bool Try.underlying4 true), ?_, ?_, hb.frame _, fun h => by cases h⟩
  · have hl := hW'.lt
    simp only [List.append_nil] at hl
    exact Below.trodAll Try.laidOut hb _ _ _ _ (by kernel_rfl) hA' (fun x hx => hl x (by simpa using hx))
  · rfl
theorem cellsAsks_holds : Rows.CellsAsksSaid :=
  OpenClaim.holds_of_wide 3 Try.f3 rfl rfl rfl rfl rfl rfl rfl ⟨rfl, rfl, rfl, rfl, rfl⟩ rfl rfl rfl rfl rfl (by kernel_rfl) Try.func3 (by kernel_rfl)
    (of_decide_eq_true (by kernel_rfl)) (by unfold Func.isWrapper; first | (rw [if_pos (by decide +kernel)]; kernel_rfl) | (rw [if_neg (by decide +kernel)]; exact ⟨rfl, rfl⟩))
    (fun os started H enc _ => cellsAsks_lifted os started H enc)
#print axioms cellsAsks_holds
end Go.Proofs.Ytplgfmincflodaa
