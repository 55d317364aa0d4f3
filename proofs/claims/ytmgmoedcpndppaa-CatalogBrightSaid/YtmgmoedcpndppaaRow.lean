/- Bright returns some of the given stars, ordered, and no other one of them is brighter than the last one: for every input. No conditions. -/
import Derived.Test.YtmgmoedcpndppaaRows
import Derived.Test.YtmgmoedcpndppaaMb
import Derived.Test.YtmgmoedcpndppaaRowSlice
set_option linter.unusedVariables false
set_option linter.unusedSimpArgs false
namespace Go.Proofs.Ytmgmoedcpndppaa
open Go Go.SL Go.ChangeShapes Go.WideShapes Go.ChangeAt Go.RowKit
theorem Try.own:ownKnob Try.prog.godebug=none:=by kernel_rfl
theorem Try.laidOut:laidOutB Try.prog=true:=by kernel_rfl
theorem alive_true:m_law19_alive 10000=some true:=by kernel_rfl
theorem leaf31:leafK Try.prog 4 31=some [.str,.int .i64,.int .i64,.int .i64,.int .i64,.int .i64,.int .i64,.int .i64]:=by kernel_rfl
theorem leaf3:leafK Try.prog 4 3=some [.int .i64]:=by kernel_rfl
theorem size31:Try.prog.cellsOf 31=8:=by kernel_rfl
theorem size3:Try.prog.cellsOf 3=1:=by kernel_rfl
theorem slice22:Try.prog.underlying 22=some (.slice 31):=by kernel_rfl
theorem slice23:Try.prog.underlying 23=some (.slice 3):=by kernel_rfl
theorem star_open (cs:List Value) (h:AllK [.str,.int .i64,.int .i64,.int .i64,.int .i64,.int .i64,.int .i64,.int .i64] cs):∃ x:Star,cs=E31 x∧True:=by
  obtain ⟨_,_,rfl,⟨x1,rfl,w1⟩,_,_,rfl,⟨x2,rfl,w2⟩,_,_,rfl,⟨x3,rfl,w3⟩,_,_,rfl,⟨x4,rfl,w4⟩,_,_,rfl,⟨x5,rfl,w5⟩,_,_,rfl,⟨x6,rfl,w6⟩,_,_,rfl,⟨x7,rfl,w7⟩,_,_,rfl,⟨x8,rfl,w8⟩,rfl⟩:=h
  exact ⟨(x1,x2,x3,x4,x5,x6,x7,x8),rfl,trivial⟩
theorem int_open (cs:List Value) (h:AllK [.int .i64] cs):∃ x:Int,cs=E3 x∧True:=by
  obtain ⟨_,_,rfl,⟨x1,rfl,w1⟩,rfl⟩:=h
  exact ⟨x1,rfl,trivial⟩
set_option maxRecDepth 100000 in
theorem catalogBright_lifted (os:Os) (started:os.Started) (H:Type) (enc:TypeId × Value→H) :
    ReturnsInHanded {} Try.checked os 3 .any (Rows.catalogBrightSpec.pre6 enc Try.prog Try.f3 Rows.catalogBrightRow.domain false) (Rows.catalogBrightSpec.post enc Try.prog Try.f3 false true false false):=by
  refine returnsInHanded_of_change (C:=Try.checked) Try.own started (by kernel_rfl) Try.func3
    (ChangeSpec.witness6 (enc:=enc) (C:=Try.checked) false ⟨#[],#[.slice none 0 0,.slice none 0 0,Iv 0],[]⟩ 8 (by kernel_rfl) (by kernel_rfl) (by kernel_rfl) (by kernel_rfl)) ?_
  intro W base args ds gs before hval0 hW hcnd _
  have hval:∀ (j:Nat) t v,Try.f3.params[j]? = some t→args[j]? = some v→Value.okWide Try.prog W .any base t v:=hval0
  have hW':=hW
  obtain ⟨p,q,hA0,hV,rfl,hfz,hnd⟩:=hW
  have hA:DataW.TrodAll enc Try.prog W 0 (fun _=>true) true [22,23,3] args.toList ds p:=hA0
  obtain ⟨rfl,rfl⟩:=trodVars_none hV
  have hA':=hA
  obtain ⟨v1,a1,d1,ds1,p1,q1,e1,rfl,t1,hB1,rfl⟩:=trodAll_uncons hA
  obtain ⟨v2,a2,d2,ds2,p2,q2,rfl,rfl,t2,hB2,rfl⟩:=trodAll_uncons hB1
  obtain ⟨v3,a3,d3,ds3,p3,q3,rfl,rfl,t3,hB3,rfl⟩:=trodAll_uncons hB2
  obtain ⟨rfl,rfl⟩:=trodAll_unnil hB3
  obtain rfl:args=#[v1,v2,v3]:=by
    apply Array.ext'
    simpa using e1
  obtain ⟨l1,hl1,_⟩:=openSlE (E:=E31) (ok:=fun _=>True) slice22 leaf31 size31 (by decide) star_open E31_len (hval 0 22 v1 rfl rfl) t1
  obtain ⟨l2,hl2,_⟩:=openSlE (E:=E3) (ok:=fun _=>True) slice23 leaf3 size3 (by decide) int_open E3_len (hval 1 23 v2 rfl rfl) t2
  obtain ⟨x3,rfl,rfl,rfl,w3⟩:=open_int Try.underlying3 (hval 2 3 v3 rfl rfl) t3
  refine Calls.mono (m_law19_CatalogBright_ok 10000 v1 l1 v2 l2 x3 W hl1 hl2 true (bright_law (by decide) alive_true l1 l2 x3)) fun e W' ⟨_,he,hS⟩=>?_
  subst he
  have hb:RowKit.Below W.heap.size W W':=⟨hS.os,hS.tape,hS.output,hS.size,fun k hk=>hS.old k hk (fun h=>h)⟩
  refine ⟨_,rfl,_,_,_,[],p1++(p2++([]++q3)),[],hW',trodAll_mk1 (shut_bool Try.underlying4 true),?_,?_,hb.frame _,fun h=>by cases h⟩
  · have hl:=hW'.lt
    simp only [List.append_nil] at hl
    exact Below.trodAll Try.laidOut hb _ _ _ _ (by kernel_rfl) hA' (fun x hx=>hl x (by simpa using hx))
  · rfl
theorem catalogBright_holds:Rows.CatalogBrightSaid :=
  OpenClaim.holds_of_wide 3 Try.f3 rfl rfl rfl rfl rfl rfl rfl ⟨rfl,rfl,rfl,rfl,rfl⟩ rfl rfl rfl rfl rfl (by kernel_rfl) Try.func3 (by kernel_rfl)
    (of_decide_eq_true (by kernel_rfl)) (by unfold Func.isWrapper; first | (rw [if_pos (by decide +kernel)]; kernel_rfl) | (rw [if_neg (by decide +kernel)]; exact ⟨rfl,rfl⟩))
    (fun os started H enc _=>catalogBright_lifted os started H enc)
#print axioms catalogBright_holds
end Go.Proofs.Ytmgmoedcpndppaa
