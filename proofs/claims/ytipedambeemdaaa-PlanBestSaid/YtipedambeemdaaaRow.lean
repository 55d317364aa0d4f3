/- The best order is possible, has the value that is returned, and no possible order has a greater value, or the same value and an earlier end: for every input. No conditions. -/
import Derived.Test.YtipedambeemdaaaRows
import Derived.Test.YtipedambeemdaaaBest
import Derived.Test.YtipedambeemdaaaRowSlice
set_option linter.unusedVariables false
set_option linter.unusedSimpArgs false
namespace Go.Proofs.Ytipedambeemdaaa
open Go Go.SL Go.ChangeShapes Go.WideShapes Go.ChangeAt Go.RowKit
theorem Try.own : ownKnob Try.prog.godebug = none := by kernel_rfl
theorem Try.laidOut : laidOutB Try.prog = true := by kernel_rfl
theorem leaf24 : leafK Try.prog 4 24 = some [.int .i64, .int .i64, .int .i64, .int .i64] := by kernel_rfl
theorem size24 : Try.prog.cellsOf 24 = 4 := by kernel_rfl
theorem slice22 : Try.prog.underlying 22 = some (.slice 24) := by kernel_rfl
theorem task_open (cs : List Value) (h : AllK [.int .i64, .int .i64, .int .i64, .int .i64] cs) : ∃ x : Int × Int × Int × Int, cs = E24 x ∧ True := by
  obtain ⟨_, _, rfl, ⟨x4, rfl, w4⟩, _, _, rfl, ⟨x5, rfl, w5⟩, _, _, rfl, ⟨x6, rfl, w6⟩, _, _, rfl, ⟨x7, rfl, w7⟩, rfl⟩ := h
  exact ⟨(x4, x5, x6, x7), rfl, trivial⟩
theorem leaf3 : leafK Try.prog 4 3 = some [.int .i64] := by kernel_rfl
theorem size3 : Try.prog.cellsOf 3 = 1 := by kernel_rfl
theorem slice49 : Try.prog.underlying 49 = some (.slice 3) := by kernel_rfl
theorem int_open (cs : List Value) (h : AllK [.int .i64] cs) : ∃ x : Int, cs = E3 x ∧ True := by
  obtain ⟨_, _, rfl, ⟨x4, rfl, w4⟩, rfl⟩ := h
  exact ⟨x4, rfl, trivial⟩
set_option maxRecDepth 100000 in
theorem planBest_lifted (os : Os) (started : os.Started) (H : Type) (enc : TypeId × Value → H) :
    ReturnsInHanded {} Try.checked os 6 .any (Rows.planBestSpec.pre6 enc Try.prog Try.f6 Rows.planBestRow.domain false) (Rows.planBestSpec.post enc Try.prog Try.f6 false true false false) := by
  refine returnsInHanded_of_change (C := Try.checked) Try.own started (by kernel_rfl) Try.func6
    (ChangeSpec.witness6 (enc := enc) (C := Try.checked) false ⟨#[], #[.slice none 0 0, .slice none 0 0], []⟩ 8 (by kernel_rfl) (by kernel_rfl) (by kernel_rfl) (by kernel_rfl)) ?_
  intro W base args ds gs before hval0 hW hcnd _
  have hval : ∀ (j : Nat) t v, Try.f6.params[j]? = some t → args[j]? = some v → Value.okWide Try.prog W .any base t v := hval0
  have hW' := hW
  obtain ⟨p, q, hA0, hV, rfl, hfz, hnd⟩ := hW
  have hA : DataW.TrodAll enc Try.prog W 0 (fun _ => true) true [22, 49] args.toList ds p := hA0
  obtain ⟨rfl, rfl⟩ := trodVars_none hV
  have hA' := hA
  obtain ⟨v1, a1, d1, ds1, p1, q1, e1, rfl, t1, hB1, rfl⟩ := trodAll_uncons hA
  obtain ⟨v2, a2, d2, ds2, p2, q2, rfl, rfl, t2, hB2, rfl⟩ := trodAll_uncons hB1
  obtain ⟨rfl, rfl⟩ := trodAll_unnil hB2
  obtain rfl : args = #[v1, v2] := by
    apply Array.ext'
    simpa using e1
  obtain ⟨l, hl, _⟩ := openSlE (E := E24) (ok := fun _ => True) slice22 leaf24 size24 (by decide) task_open E24_len (hval 0 22 v1 rfl rfl) t1
  obtain ⟨o, ho, _⟩ := openSlE (E := E3) (ok := fun _ => True) slice49 leaf3 size3 (by decide) int_open E3_len (hval 1 49 v2 rfl rfl) t2
  refine Calls.mono (m_law42_PlanBest_ok 8589934592 v1 l v2 o W hl ho true (law_true l o)) fun e W' ⟨_, he, hS⟩ => ?_
  subst he
  have hb : RowKit.Below W.heap.size W W' := ⟨hS.os, hS.tape, hS.output, hS.size, fun k hk => hS.old k hk (fun h => h)⟩
  refine ⟨_, rfl, _, _, _, [], p1 ++ (p2 ++ q2), [], hW', trodAll_mk1 (shut_bool Try.underlying4 true), ?_, ?_, hb.frame _, fun h => by cases h⟩
  · have hl := hW'.lt
    simp only [List.append_nil] at hl
    exact Below.trodAll Try.laidOut hb _ _ _ _ (by kernel_rfl) hA' (fun x hx => hl x (by simpa using hx))
  · rfl
theorem planBest_holds : Rows.PlanBestSaid :=
  OpenClaim.holds_of_wide 6 Try.f6 rfl rfl rfl rfl rfl rfl rfl ⟨rfl, rfl, rfl, rfl, rfl⟩ rfl rfl rfl rfl rfl (by kernel_rfl) Try.func6 (by kernel_rfl)
    (of_decide_eq_true (by kernel_rfl)) (by unfold Func.isWrapper; first | (rw [if_pos (by decide +kernel)]; kernel_rfl) | (rw [if_neg (by decide +kernel)]; exact ⟨rfl, rfl⟩))
    (fun os started H enc _ => planBest_lifted os started H enc)
#print axioms planBest_holds
end Go.Proofs.Ytipedambeemdaaa
