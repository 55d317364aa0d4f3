/- Ahead has the place of a motion with a constant acceleration of at most pull: for every input. No conditions. -/
import Derived.Test.YtjaiebdcmjjnbaaGreatRows
import Derived.Test.YtjaiebdcmjjnbaaGreatSP5
import Derived.Test.YtjaiebdcmjjnbaaGreatRowOpen
set_option linter.unusedVariables false
set_option linter.unusedSimpArgs false
namespace Go.Proofs.YtjaiebdcmjjnbaaGreat
open Go Go.SL Go.ChangeShapes Go.WideShapes Go.ChangeAt Go.RowKit
theorem Tryz.own:ownKnob Tryz.prog.godebug=none:=by kernel_rfl
theorem Tryz.laidOut:laidOutB Tryz.prog=true:=by kernel_rfl
theorem alive_true:zeL 8589934592=some true:=by kernel_rfl
theorem leaf25:leafK Tryz.prog 4 25=some [.int .i64,.int .i64,.int .i64,.int .i64,.int .i64,.int .i64]:=by kernel_rfl
theorem leaf27:leafK Tryz.prog 4 27=some [.int .i32,.int .i32,.int .i32]:=by kernel_rfl
theorem agg25:tAgg Tryz.prog 25=some true:=by kernel_rfl
theorem agg27:tAgg Tryz.prog 27=some true:=by kernel_rfl
theorem wfu32 {n:Int} (h:(Lit.int .u32 n).wf=true):0≤n∧n<4294967296:=by
  simp [Lit.wf,IntKind.min,IntKind.max,IntKind.signed,IntKind.bits] at h
  omega
theorem wf32 {n:Int} (h:(Lit.int .i32 n).wf=true):-2147483648≤n∧n<2147483648:=by
  simp [Lit.wf,IntKind.min,IntKind.max,IntKind.signed,IntKind.bits] at h
  omega
set_option maxRecDepth 100000 in
theorem cellsAhead_lifted (os:Os) (started:os.Started) (H:Type) (enc:TypeId × Value→H) :
    ReturnsInHanded {} Tryz.checked os 3 .any (Rows.cellsAheadSpec.pre6 enc Tryz.prog Tryz.f3 Rows.cellsAheadRow.domain false) (Rows.cellsAheadSpec.post enc Tryz.prog Tryz.f3 false true false false):=by
  refine returnsInHanded_of_change (C:=Tryz.checked) Tryz.own started (by kernel_rfl) Tryz.func3
    (ChangeSpec.witness6 (enc:=enc) (C:=Tryz.checked) false ⟨#[],#[.agg #[Iv 0,Iv 0,Iv 0,Iv 0,Iv 0,Iv 0],.agg #[Iv 0,Iv 0,Iv 0,Iv 0,Iv 0,Iv 0],Iv 0,.int .u32 0,.agg #[.int .i32 0,.int .i32 0,.int .i32 0]],[]⟩ 8 (by kernel_rfl) (by kernel_rfl) (by kernel_rfl) (by kernel_rfl)) ?_
  intro W base args ds gs before hval0 hW hcnd _
  have hval:∀ (j:Nat) t v,Tryz.f3.params[j]? = some t→args[j]? = some v→Value.okWide Tryz.prog W .any base t v:=hval0
  have hW':=hW
  obtain ⟨p,q,hA0,hV,rfl,hfz,hnd⟩:=hW
  have hA:DataW.TrodAll enc Tryz.prog W 0 (fun _=>true) true [25,25,2,26,27] args.toList ds p:=hA0
  obtain ⟨rfl,rfl⟩:=trodVars_none hV
  have hA':=hA
  obtain ⟨v1,a1,d1,ds1,p1,q1,e1,rfl,t1,hB1,rfl⟩:=trodAll_uncons hA
  obtain ⟨v2,a2,d2,ds2,p2,q2,rfl,rfl,t2,hB2,rfl⟩:=trodAll_uncons hB1
  obtain ⟨v3,a3,d3,ds3,p3,q3,rfl,rfl,t3,hB3,rfl⟩:=trodAll_uncons hB2
  obtain ⟨v4,a4,d4,ds4,p4,q4,rfl,rfl,t4,hB4,rfl⟩:=trodAll_uncons hB3
  obtain ⟨v5,a5,d5,ds5,p5,q5,rfl,rfl,t5,hB5,rfl⟩:=trodAll_uncons hB4
  obtain ⟨rfl,rfl⟩:=trodAll_unnil hB5
  obtain rfl:args=#[v1,v2,v3,v4,v5]:=by
    apply Array.ext'
    simpa using e1
  obtain ⟨cs1,rfl,k1⟩:=openAgg leaf25 agg25 (hval 0 25 v1 rfl rfl) t1
  obtain ⟨cs2,rfl,k2⟩:=openAgg leaf25 agg25 (hval 1 25 v2 rfl rfl) t2
  obtain ⟨x13,rfl,rfl,rfl,w13⟩:=open_int Tryz.underlying2 (hval 2 2 v3 rfl rfl) t3
  obtain ⟨x14,rfl,rfl,rfl,w14⟩:=open_int Tryz.underlying26 (hval 3 26 v4 rfl rfl) t4
  obtain ⟨cs5,rfl,k5⟩:=openAgg leaf27 agg27 (hval 4 27 v5 rfl rfl) t5
  obtain ⟨_,_,rfl,⟨x1,rfl,w1⟩,_,_,rfl,⟨x2,rfl,w2⟩,_,_,rfl,⟨x3,rfl,w3⟩,_,_,rfl,⟨x4,rfl,w4⟩,_,_,rfl,⟨x5,rfl,w5⟩,_,_,rfl,⟨x6,rfl,w6⟩,rfl⟩:=k1
  obtain ⟨_,_,rfl,⟨x7,rfl,w7⟩,_,_,rfl,⟨x8,rfl,w8⟩,_,_,rfl,⟨x9,rfl,w9⟩,_,_,rfl,⟨x10,rfl,w10⟩,_,_,rfl,⟨x11,rfl,w11⟩,_,_,rfl,⟨x12,rfl,w12⟩,rfl⟩:=k2
  obtain ⟨_,_,rfl,⟨x15,rfl,w15⟩,_,_,rfl,⟨x16,rfl,w16⟩,_,_,rfl,⟨x17,rfl,w17⟩,rfl⟩:=k5
  refine Calls.mono (zho 8589934592 x1 x2 x3 x4 x5 x6 x7 x8 x9 x10 x11 x12 x13 x14 x15 x16 x17 W true
    (ahead_law (by decide) alive_true (wfu32 w14) (wf32 w15) (wf32 w16) (wf32 w17))) fun e W' ⟨_,he,hS⟩=>?_
  subst he
  have hb:RowKit.Below W.heap.size W W':=⟨hS.os,hS.tape,hS.output,hS.size,fun k hk=>hS.old k hk (fun h=>h)⟩
  refine ⟨_,rfl,_,_,_,[],p1++(p2++([]++([]++(p5++q5)))),[],hW',trodAll_mk1 (shut_bool Tryz.underlying4 true),?_,?_,hb.frame _,fun h=>by cases h⟩
  · have hl:=hW'.lt
    simp only [List.append_nil] at hl
    exact Below.trodAll Tryz.laidOut hb _ _ _ _ (by kernel_rfl) hA' (fun x hx=>hl x (by simpa using hx))
  · rfl
theorem cellsAhead_holds:Rows.CellsAheadSaid :=
  OpenClaim.holds_of_wide 3 Tryz.f3 rfl rfl rfl rfl rfl rfl rfl ⟨rfl,rfl,rfl,rfl,rfl⟩ rfl rfl rfl rfl rfl (by kernel_rfl) Tryz.func3 (by kernel_rfl)
    (of_decide_eq_true (by kernel_rfl)) (by unfold Func.isWrapper; first | (rw [if_pos (by decide +kernel)]; kernel_rfl) | (rw [if_neg (by decide +kernel)]; exact ⟨rfl,rfl⟩))
    (fun os started H enc _=>cellsAhead_lifted os started H enc)
#print axioms cellsAhead_holds
end Go.Proofs.YtjaiebdcmjjnbaaGreat
