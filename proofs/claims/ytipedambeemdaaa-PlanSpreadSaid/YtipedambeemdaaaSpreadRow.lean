/- The law of the spread: for every input. No conditions. -/
import Derived.Test.YtipedambeemdaaaRows
import Derived.Test.YtipedambeemdaaaSpread
import Derived.Test.YtipedambeemdaaaRowOpen
set_option linter.unusedVariables false
set_option linter.unusedSimpArgs false
namespace Go.Proofs.Ytipedambeemdaaa
open Go Go.SL Go.ChangeShapes Go.WideShapes Go.ChangeAt Go.RowKit
theorem Try.own:ownKnob Try.prog.godebug=none:=by kernel_rfl
theorem Try.laidOut:laidOutB Try.prog=true:=by kernel_rfl
theorem alive_true:m_law42_alive 8589934592=some true:=by kernel_rfl
set_option maxRecDepth 100000 in
theorem planSpread_lifted (os:Os) (started:os.Started) (H:Type) (enc:TypeId × Value→H) :
    ReturnsInHanded {} Try.checked os 5 .any (Rows.planSpreadSpec.pre6 enc Try.prog Try.f5 Rows.planSpreadRow.domain false) (Rows.planSpreadSpec.post enc Try.prog Try.f5 false true false false):=by
  refine returnsInHanded_of_change (C:=Try.checked) Try.own started (by kernel_rfl) Try.func5
    (ChangeSpec.witness6 (enc:=enc) (C:=Try.checked) false ⟨#[],#[Iv 0,Iv 0,Iv 0,Iv 0],[]⟩ 8 (by kernel_rfl) (by kernel_rfl) (by kernel_rfl) (by kernel_rfl)) ?_
  intro W base args ds gs before hval0 hW hcnd _
  have hval:∀ (j:Nat) t v,Try.f5.params[j]? = some t→args[j]? = some v→Value.okWide Try.prog W .any base t v:=hval0
  have hW':=hW
  obtain ⟨p,q,hA0,hV,rfl,hfz,hnd⟩:=hW
  have hA:DataW.TrodAll enc Try.prog W 0 (fun _=>true) true [2,2,2,2] args.toList ds p:=hA0
  obtain ⟨rfl,rfl⟩:=trodVars_none hV
  have hA':=hA
  obtain ⟨v1,a1,d1,ds1,p1,q1,e1,rfl,t1,hB1,rfl⟩:=trodAll_uncons hA
  obtain ⟨v2,a2,d2,ds2,p2,q2,rfl,rfl,t2,hB2,rfl⟩:=trodAll_uncons hB1
  obtain ⟨v3,a3,d3,ds3,p3,q3,rfl,rfl,t3,hB3,rfl⟩:=trodAll_uncons hB2
  obtain ⟨v4,a4,d4,ds4,p4,q4,rfl,rfl,t4,hB4,rfl⟩:=trodAll_uncons hB3
  obtain ⟨rfl,rfl⟩:=trodAll_unnil hB4
  obtain rfl:args=#[v1,v2,v3,v4]:=by
    apply Array.ext'
    simpa using e1
  obtain ⟨x1,rfl,rfl,rfl,w1⟩:=open_int Try.underlying2 (hval 0 2 v1 rfl rfl) t1
  obtain ⟨x2,rfl,rfl,rfl,w2⟩:=open_int Try.underlying2 (hval 1 2 v2 rfl rfl) t2
  obtain ⟨x3,rfl,rfl,rfl,w3⟩:=open_int Try.underlying2 (hval 2 2 v3 rfl rfl) t3
  obtain ⟨x4,rfl,rfl,rfl,w4⟩:=open_int Try.underlying2 (hval 3 2 v4 rfl rfl) t4
  refine Calls.mono (m_law42_PlanSpread_ok 8589934592 x1 x2 x3 x4 W true
    (spread_law (by decide) alive_true (wf64 w1) (wf64 w2) (wf64 w3))) fun e W' ⟨_,he,hS⟩=>?_
  subst he
  have hb:RowKit.Below W.heap.size W W':=⟨hS.os,hS.tape,hS.output,hS.size,fun k hk=>hS.old k hk (fun h=>h)⟩
  refine ⟨_,rfl,_,_,_,[],[]++([]++([]++([]++q4))),[],hW',trodAll_mk1 (shut_bool Try.underlying4 true),?_,?_,hb.frame _,fun h=>by cases h⟩
  · have hl:=hW'.lt
    simp only [List.append_nil] at hl
    exact Below.trodAll Try.laidOut hb _ _ _ _ (by kernel_rfl) hA' (fun x hx=>hl x (by simpa using hx))
  · rfl
theorem planSpread_holds:Rows.PlanSpreadSaid :=
  OpenClaim.holds_of_wide 5 Try.f5 rfl rfl rfl rfl rfl rfl rfl ⟨rfl,rfl,rfl,rfl,rfl⟩ rfl rfl rfl rfl rfl (by kernel_rfl) Try.func5 (by kernel_rfl)
    (of_decide_eq_true (by kernel_rfl)) (by unfold Func.isWrapper; first | (rw [if_pos (by decide +kernel)]; kernel_rfl) | (rw [if_neg (by decide +kernel)]; exact ⟨rfl,rfl⟩))
    (fun os started H enc _=>planSpread_lifted os started H enc)
#print axioms planSpread_holds
end Go.Proofs.Ytipedambeemdaaa
