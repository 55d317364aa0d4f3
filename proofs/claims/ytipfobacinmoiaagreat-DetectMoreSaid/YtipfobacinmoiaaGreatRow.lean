/- With a greater threshold each part is in one of those of the smaller one: for every input. No conditions. -/
import Derived.Test.YtipfobacinmoiaaGreatRows
import Derived.Test.YtipfobacinmoiaaGreatWzb
import Derived.Test.YtipfobacinmoiaaGreatRowOpen
import Derived.ProofKit
import Derived.Lib.SmallJoins
import Derived.Deep.Grids
set_option linter.unusedVariables false
set_option linter.unusedSimpArgs false
namespace Go.Proofs.YtipfobacinmoiaaGreat
open Go Go.SL Go.ChangeShapes Go.WideShapes Go.ChangeAt Go.RowKit
theorem rdOK_cells {W:World} {a:Addr} {len cap:Nat} {xs:List Value} (hl:xs.length=len) (hm:len≤maxLen) (h:∀ i u,xs[i]? = some u→W.cell? (a.add i)=some u):rdOK (hp W) 1 (.slice (some a) len cap) len xs:=by
  refine ⟨by omega,hm,some a,cap,rfl,fun hn=>?_⟩
  have h0:=h 0 (xs[0]'(by omega)) (by simp [hl,hn])
  unfold World.cell? at h0
  cases hb:W.heap[a.block]? with
  | none=>simp [Addr.add,hb] at h0
  | some o =>
    cases o with
    | cells cur e z =>
      have hs:a.spot=none:=by
        cases hs:a.spot with
        | none=>rfl
        | some s=>simp [Addr.add,hb,hs] at h0
      refine ⟨a,cur,e,z,rfl,hs,hb,fun j u hj=>?_⟩
      have:=h j u hj
      have ea:a.add j=⟨a.block,a.off+j,none⟩:=by
        obtain ⟨b,o,sp⟩:=a
        simp only at hs
        subst hs
        simp [Addr.add]
      rw [ea] at this
      unfold World.cell? at this
      simpa [hb] using this
    | _=>simp [Addr.add,hb] at h0
theorem Tryz.own:ownKnob Tryz.prog.godebug=none:=by kernel_rfl
theorem Tryz.laidOut:laidOutB Tryz.prog=true:=by kernel_rfl
set_option maxRecDepth 100000 in
theorem detectMore_lifted (os:Os) (started:os.Started) (H:Type) (enc:TypeId × Value→H) :
    ReturnsInHanded {} Tryz.checked os 6 .any (Rows.detectMoreSpec.pre6 enc Tryz.prog Tryz.f6 Rows.detectMoreRow.domain false) (Rows.detectMoreSpec.post enc Tryz.prog Tryz.f6 false true false false):=by
  refine returnsInHanded_of_change (C:=Tryz.checked) Tryz.own started (by kernel_rfl) Tryz.func6
    (ChangeSpec.witness6 (enc:=enc) (C:=Tryz.checked) false ⟨#[],#[.agg #[.int .i64 0,.int .i64 0,.slice none 0 0],.slice none 0 0,.int .i64 0,.int .i64 0,.int .i64 0],[]⟩ 8 (by kernel_rfl) (by kernel_rfl) (by kernel_rfl) (by kernel_rfl)) ?_
  intro W base args ds gs before hval0 hW hcnd _
  have hval:∀ (j:Nat) t v,Tryz.f6.params[j]? = some t→args[j]? = some v→Value.okWide Tryz.prog W .any base t v:=hval0
  have hW':=hW
  obtain ⟨p,q,hA0,hV,rfl,hfz,hnd⟩:=hW
  have hA:DataW.TrodAll enc Tryz.prog W 0 (fun _=>true) true [24,25,2,2,3] args.toList ds p:=hA0
  obtain ⟨rfl,rfl⟩:=trodVars_none hV
  have hA':=hA
  obtain ⟨v0,a0,d0,ds0,p0,q0,e1,rfl,t0,hB0,rfl⟩:=trodAll_uncons hA
  obtain ⟨v1,a1,d1,ds1,p1,q1,rfl,rfl,t1,hB1,rfl⟩:=trodAll_uncons hB0
  obtain ⟨v2,a2,d2,ds2,p2,q2,rfl,rfl,t2,hB2,rfl⟩:=trodAll_uncons hB1
  obtain ⟨v3,a3,d3,ds3,p3,q3,rfl,rfl,t3,hB3,rfl⟩:=trodAll_uncons hB2
  obtain ⟨v4,a4,d4,ds4,p4,q4,rfl,rfl,t4,hB4,rfl⟩:=trodAll_uncons hB3
  obtain ⟨rfl,rfl⟩:=trodAll_unnil hB4
  obtain rfl:args=#[v0,v1,v2,v3,v4]:=by
    apply Array.ext'
    simpa using e1
  obtain ⟨fw,fh,vP,y0,y1,y2,m,rfl,rfl,rfl,hy0,hy1,hy2⟩:=Joins.open_agg3 Tryz.underlying24 (by kernel_rfl) (by kernel_rfl) (hval 0 24 v0 rfl rfl) t0
  obtain ⟨a,e0,_,_⟩:=DataW.trod_int Tryz.underlying3 hy0
  obtain ⟨b,e1',_,_⟩:=DataW.trod_int Tryz.underlying3 hy1
  obtain rfl:fw=.int .i64 a:=by simpa using e0
  obtain rfl:fh=.int .i64 b:=by simpa using e1'
  have hP:∃ zs:List Int,rdOK (hp W) 1 vP zs.length (ints zs):=by
    rcases open_ints Tryz.underlying22 Tryz.underlying2 (by kernel_rfl) hy2 with ⟨hc,_⟩ | ⟨ad,len,cap,zs,hc,_,hl,hm,hz,_,hcell,_⟩
    · obtain rfl:vP=.slice none 0 0:=by simpa using hc
      exact ⟨[],⟨rfl,Nat.zero_le _,none,0,rfl,fun h=>absurd h (Nat.lt_irrefl _)⟩⟩
    · obtain rfl:vP=.slice (some ad) len cap:=by simpa using hc
      have hz':zs.length=cap:=by simpa using hz
      have ht:(zs.take len).length=len:=by rw [List.length_take]; omega
      refine ⟨zs.take len,?_⟩
      rw [ht]
      refine rdOK_cells (by rw [Go.SL.ints_len]; exact ht) (by omega) fun i u hu=>?_
      obtain ⟨hi,rfl⟩:=Go.SL.ints_at hu
      rw [hcell i (by omega)]
      congr 2
      simp only [List.getD_eq_getElem?_getD,List.getElem?_take_of_lt (show i<len by omega)]
  obtain ⟨zs,hP⟩:=hP
  have hB_:∃ bs:List Bool,rdOK (hp W) 1 v1 bs.length (bools bs):=by
    obtain ⟨a0,len0,cap0,rfl⟩:=okWide_slice Tryz.underlying25 (hval 1 25 v1 rfl rfl)
    obtain ⟨fuel,hf⟩:=t1
    rcases Deep.open_bools Tryz.underlying25 Tryz.underlying4 (by kernel_rfl) hf with ⟨hc,_⟩ | ⟨ad,len,cap,Bf,hc,_,hl,hm,_,hcell⟩
    · have hc:(Value.slice a0 len0 cap0)=.slice none 0 0:=by simpa [Value.cells] using hc
      rw [hc]
      exact ⟨[],⟨rfl,Nat.zero_le _,none,0,rfl,fun h=>absurd h (Nat.lt_irrefl _)⟩⟩
    · have hc:(Value.slice a0 len0 cap0)=.slice (some ad) len cap:=by simpa [Value.cells] using hc
      rw [hc]
      refine ⟨(List.range len).map Bf,?_⟩
      have ht:((List.range len).map Bf).length=len:=by simp
      rw [ht]
      refine rdOK_cells (by simp [bools]) (by omega) fun i u hu=>?_
      simp only [bools,List.map_map,List.getElem?_map,Option.map_eq_some_iff] at hu
      obtain ⟨j,hj,rfl⟩:=hu
      have hj':=List.getElem?_eq_some_iff.1 hj
      obtain ⟨hi,he⟩:=hj'
      simp only [List.length_range] at hi
      simp only [List.getElem_range] at he
      subst he
      exact hcell i (by omega)
  obtain ⟨bs,hB_⟩:=hB_
  obtain ⟨x2,rfl,rfl,rfl,w2⟩:=open_int Tryz.underlying2 (hval 2 2 v2 rfl rfl) t2
  obtain ⟨x3,rfl,rfl,rfl,w3⟩:=open_int Tryz.underlying2 (hval 3 2 v3 rfl rfl) t3
  obtain ⟨x4,rfl,rfl,rfl,w4⟩:=open_int Tryz.underlying3 (hval 4 3 v4 rfl rfl) t4
  refine Calls.mono (more_law a b x2 x3 x4 vP v1 zs bs W hP hB_) fun e W' ⟨_,he,hS⟩=>?_
  subst he
  have hb:RowKit.Below W.heap.size W W':=⟨hS.os,hS.tape,hS.output,hS.size,fun k hk=>hS.old k hk (fun h=>h)⟩
  refine ⟨_,rfl,_,_,_,[],(y0.2++(y1.2++y2.2))++(p1++([]++([]++([]++q4)))),[],hW',trodAll_mk1 (shut_bool Tryz.underlying4 true),?_,?_,hb.frame _,fun h=>by cases h⟩
  · have hl:=hW'.lt
    simp only [List.append_nil] at hl
    exact Below.trodAll Tryz.laidOut hb _ _ _ _ (by kernel_rfl) hA' (fun x hx=>hl x (by simpa using hx))
  · rfl
theorem detectMore_holds:Rows.DetectMoreSaid :=
  OpenClaim.holds_of_wide 6 Tryz.f6 rfl rfl rfl rfl rfl rfl rfl ⟨rfl,rfl,rfl,rfl,rfl⟩ rfl rfl rfl rfl rfl (by kernel_rfl) Tryz.func6 (by kernel_rfl)
    (of_decide_eq_true (by kernel_rfl)) (by unfold Func.isWrapper; first | (rw [if_pos (by decide +kernel)]; kernel_rfl) | (rw [if_neg (by decide +kernel)]; exact ⟨rfl,rfl⟩))
    (fun os started H enc _=>detectMore_lifted os started H enc)
#print axioms detectMore_holds
end Go.Proofs.YtipfobacinmoiaaGreat
