/- Check and Place of a star return what the reference returns: for every input. No conditions. -/
import Derived.Test.YtdcfjndokifgeaaRows
import Derived.Test.YtdcfjndokifgeaaCM2
import Derived.Test.YtdcfjndokifgeaaRowOpen
set_option linter.unusedVariables false
set_option linter.unusedSimpArgs false
namespace Go.Proofs.Ytdcfjndokifgeaa
open Go Go.SL Go.ChangeShapes Go.WideShapes Go.ChangeAt Go.RowKit
theorem Try.own:ownKnob Try.prog.godebug=none:=by kernel_rfl
theorem Try.laidOut:laidOutB Try.prog=true:=by kernel_rfl
theorem leaf23:leafK Try.prog 4 23=some [.str,.int .i64,.int .i64,.int .i64,.int .i64,.int .i64,.int .i64,.int .i64]:=by kernel_rfl
theorem agg23:tAgg Try.prog 23=some true:=by kernel_rfl
set_option maxRecDepth 100000 in
theorem catalogPlaces_lifted (os:Os) (started:os.Started) (H:Type) (enc:TypeId × Value→H) :
    ReturnsInHanded {} Try.checked os 3 .any (Rows.catalogPlacesSpec.pre6 enc Try.prog Try.f3 Rows.catalogPlacesRow.domain false) (Rows.catalogPlacesSpec.post enc Try.prog Try.f3 false true false false):=by
  refine returnsInHanded_of_change (C:=Try.checked) Try.own started (by kernel_rfl) Try.func3
    (ChangeSpec.witness6 (enc:=enc) (C:=Try.checked) false ⟨#[],#[.agg #[.string ByteArray.empty,Iv 0,Iv 0,Iv 0,Iv 0,Iv 0,Iv 0,Iv 0],Iv 0],[]⟩ 8 (by kernel_rfl) (by kernel_rfl) (by kernel_rfl) (by kernel_rfl)) ?_
  intro W base args ds gs before hval0 hW hcnd _
  have hval:∀ (j:Nat) t v,Try.f3.params[j]? = some t→args[j]? = some v→Value.okWide Try.prog W .any base t v:=hval0
  have hW':=hW
  obtain ⟨p,q,hA0,hV,rfl,hfz,hnd⟩:=hW
  have hA:DataW.TrodAll enc Try.prog W 0 (fun _=>true) true [23,2] args.toList ds p:=hA0
  obtain ⟨rfl,rfl⟩:=trodVars_none hV
  have hA':=hA
  obtain ⟨v1,a1,d1,ds1,p1,q1,e1,rfl,t1,hB1,rfl⟩:=trodAll_uncons hA
  obtain ⟨v2,a2,d2,ds2,p2,q2,rfl,rfl,t2,hB2,rfl⟩:=trodAll_uncons hB1
  obtain ⟨rfl,rfl⟩:=trodAll_unnil hB2
  obtain rfl:args=#[v1,v2]:=by
    apply Array.ext'
    simpa using e1
  obtain ⟨cs1,rfl,k1⟩:=openAgg leaf23 agg23 (hval 0 23 v1 rfl rfl) t1
  obtain ⟨x9,rfl,rfl,rfl,w9⟩:=open_int Try.underlying2 (hval 1 2 v2 rfl rfl) t2
  obtain ⟨_,_,rfl,⟨x1,rfl,w1⟩,_,_,rfl,⟨x2,rfl,w2⟩,_,_,rfl,⟨x3,rfl,w3⟩,_,_,rfl,⟨x4,rfl,w4⟩,_,_,rfl,⟨x5,rfl,w5⟩,_,_,rfl,⟨x6,rfl,w6⟩,_,_,rfl,⟨x7,rfl,w7⟩,_,_,rfl,⟨x8,rfl,w8⟩,rfl⟩:=k1
  refine Calls.mono (m_law19_CatalogPlaces_ok 8589934592 x1 x2 x3 x4 x5 x6 x7 x8 x9 W true
    (places_law (by decide) x1 x2 x3 x4 x5 x6 x7 x8 x9)) fun e W' ⟨_,he,hS⟩=>?_
  subst he
  have hb:RowKit.Below W.heap.size W W':=⟨hS.os,hS.tape,hS.output,hS.size,fun k hk=>hS.old k hk (fun h=>h)⟩
  refine ⟨_,rfl,_,_,_,[],p1++([]++q2),[],hW',trodAll_mk1 (shut_bool Try.underlying4 true),?_,?_,hb.frame _,fun h=>by cases h⟩
  · have hl:=hW'.lt
    simp only [List.append_nil] at hl
    exact Below.trodAll Try.laidOut hb _ _ _ _ (by kernel_rfl) hA' (fun x hx=>hl x (by simpa using hx))
  · rfl
theorem catalogPlaces_holds:Rows.CatalogPlacesSaid :=
  OpenClaim.holds_of_wide 3 Try.f3 rfl rfl rfl rfl rfl rfl rfl ⟨rfl,rfl,rfl,rfl,rfl⟩ rfl rfl rfl rfl rfl (by kernel_rfl) Try.func3 (by kernel_rfl)
    (of_decide_eq_true (by kernel_rfl)) (by unfold Func.isWrapper; first | (rw [if_pos (by decide +kernel)]; kernel_rfl) | (rw [if_neg (by decide +kernel)]; exact ⟨rfl,rfl⟩))
    (fun os started H enc _=>catalogPlaces_lifted os started H enc)
#print axioms catalogPlaces_holds
end Go.Proofs.Ytdcfjndokifgeaa
