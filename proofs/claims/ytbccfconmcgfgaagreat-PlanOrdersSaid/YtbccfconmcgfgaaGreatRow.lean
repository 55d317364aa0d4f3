/- PlanOrders: for every input. No conditions. -/
import Derived.Test.YtbccfconmcgfgaaGreatTac
import Derived.Test.YtbccfconmcgfgaaGreatTam
import Derived.Test.YtbccfconmcgfgaaGreatRows
set_option linter.unusedVariables false
set_option linter.unusedSimpArgs false
namespace Go.SL
open Go Go.ChangeShapes Go.WideShapes Go.ChangeAt Go.RowKit
theorem zD {α β:Type} {p:α→β→Prop}:∀ (l:List α),(∀ x ∈ l,∃ y,p x y)→∃ m:List β,m.length=l.length∧∀ (i:Nat) (x:α),l[i]? = some x→∃ y,m[i]? = some y∧p x y
  | [],_=>⟨[],rfl,fun i x h=>by simp at h⟩
  | a::t,h=>by
    obtain ⟨y,hy⟩:=h a (by simp)
    obtain ⟨m,h1,h2⟩:=zD t (fun x hx=>h x (by simp [hx]))
    refine ⟨y::m,by simp [h1],fun i x hx=>?_⟩
    cases i with
    | zero=>simp only [List.getElem?_cons_zero,Option.some.injEq] at hx; subst hx; exact ⟨y,rfl,hy⟩
    | succ i=>simpa using h2 i x (by simpa using hx)
section
variable {H:Type} {henc:TypeId × Value→H} {P:Program} {w:World} {spare:Nat→Bool} {held:Bool} {T:Type} {E:T→List Value} {ok:T→Prop} {sz:Nat}
theorem aCo {t e:TypeId} {d:Nat} {ks:List LK} {v:Value} {dd:DataW H} {ps:List MemPlace} {r:Reach} {b0:Nat} (ht:P.underlying t=some (.slice e)) (hk:zI P d e=some ks) (hc:P.cellsOf e=sz) (h0:0<sz) (hE:∀ cs,yO ks cs→∃ x,cs=E x∧ok x) (hlen:∀ x,(E x).length=sz)
    (hval:Value.okWide P w r b0 t v) (h:DataW.Trod henc P w 0 spare held t v dd ps):∃ l:List T,aV (hp w) sz E v l∧∀ x ∈ l,ok x:=by
  obtain ⟨fuel,hf⟩:=h
  obtain ⟨a0,len0,cap0,rfl⟩:=okWide_slice ht hval
  have hcs:(Value.slice a0 len0 cap0).cells.toList=[.slice a0 len0 cap0]:=rfl
  rw [hcs] at hf
  rcases DataW.trod_slice ht hf with ⟨h1,_⟩ | ⟨a,len,cap,elems,rest,n,rfl,h1,_,_,hl,hm,hel,hx,_⟩
  · have h1:(Value.slice a0 len0 cap0)=.slice none 0 0:=by simpa using h1
    rw [h1]
    exact ⟨[],yw,by simp⟩
  · have h1:(Value.slice a0 len0 cap0)=.slice (some a) len cap:=by simpa using h1
    rw [h1]
    rw [hc] at hx
    obtain ⟨l,hl1,hl2⟩:=zD (p:=fun i (x:T)=>ok x∧w.cells? 0 (a.add (i*sz)) sz=some (E x)) (List.range len) (fun i hi=>by
      have hi:=List.mem_range.1 hi
      have h2:=hx i hi
      obtain ⟨x,hx'⟩:∃ x,elems[i]? = some x:=⟨_,List.getElem?_eq_getElem (by omega)⟩
      rw [hx'] at h2
      obtain ⟨cs,h3,h4⟩:=Option.bind_eq_some_iff.1 h2
      obtain ⟨y,rfl,hy⟩:=hE cs (aBy d e ks hk cs ⟨_,_,h4⟩)
      exact ⟨y,hy,h3⟩)
    rw [List.length_range] at hl1
    have hcell:∀ (i:Nat) (x:T),l[i]? = some x→ok x∧∀ (k:Nat) (u:Value),(E x)[k]? = some u→w.cell? (a.add (i*sz+k))=some u:=fun i x hxi=>by
      have hi:i<len:=by rw [← hl1]; exact (List.getElem?_eq_some_iff.1 hxi).1
      obtain ⟨y,hy,h5,h6⟩:=hl2 i i (by rw [List.getElem?_range hi])
      rw [hxi] at hy
      simp only [Option.some.injEq] at hy
      subst hy
      refine ⟨h5,fun k u hu=>?_⟩
      have h7:=World.cells?_some h6
      have hk':k<sz:=by rw [← hlen x]; exact (List.getElem?_eq_some_iff.1 hu).1
      have h8:=h7.2.2 k hk'
      rw [hu] at h8
      have ea:(a.add (i*sz)).add k=a.add (i*sz+k):=by
        generalize i*sz=q
        by_cases g1:q=0 <;> by_cases g2:k=0 <;> simp [Addr.add,g1,g2,Nat.add_assoc]
      rw [ea] at h8
      exact h8
    refine ⟨l,⟨⟨by rw [ig hlen],by omega,some a,cap,by rw [hl1],fun hn=>?_⟩,by show len≤cap; omega⟩,fun x hxm=>?_⟩
    · have hn':0<l.length:=hn
      obtain ⟨x0,hx0⟩:∃ x,l[0]? = some x:=⟨_,List.getElem?_eq_getElem hn'⟩
      obtain ⟨u0,hu0⟩:∃ u,(E x0)[0]? = some u:=⟨_,List.getElem?_eq_getElem (by rw [hlen]; exact h0)⟩
      have hc0:=(hcell 0 x0 hx0).2 0 u0 hu0
      unfold World.cell? at hc0
      cases hb:w.heap[a.block]? with
      | none=>simp [Addr.add,hb] at hc0
      | some o =>
        cases o with
        | cells cur e' z =>
          have hs:a.spot=none:=by
            cases hs:a.spot with
            | none=>rfl
            | some s=>simp [Addr.add,hb,hs] at hc0
          refine ⟨a,cur,e',z,rfl,hs,hb,fun j u hj=>?_⟩
          have hjl:j<l.length*sz:=by rw [← ig hlen]; exact (List.getElem?_eq_some_iff.1 hj).1
          have hjd:j=(j/sz)*sz+j % sz:=by rw [Nat.mul_comm]; exact (Nat.div_add_mod j sz).symm
          have hjr:=Nat.mod_lt j h0
          have hjq:j/sz<l.length:=Nat.div_lt_of_lt_mul (by rw [Nat.mul_comm]; exact hjl)
          obtain ⟨x,hxj⟩:∃ x,l[j/sz]? = some x:=⟨_,List.getElem?_eq_getElem hjq⟩
          rw [hjd,sG hlen hxj hjr] at hj
          have h9:=(hcell _ x hxj).2 _ u hj
          rw [← hjd] at h9
          have ea:a.add j=⟨a.block,a.off+j,none⟩:=by
            obtain ⟨b,o,sp⟩:=a
            simp only at hs
            subst hs
            simp [Addr.add]
          rw [ea] at h9
          unfold World.cell? at h9
          simpa [hb] using h9
        | _=>simp [Addr.add,hb] at hc0
    · obtain ⟨i,hi⟩:=List.getElem?_of_mem hxm
      exact (hcell i x hi).1
end
end Go.SL

namespace Go.Proofs.YtbccfconmcgfgaaGreat
open Go Go.SL Go.ChangeShapes Go.WideShapes Go.ChangeAt Go.RowKit
theorem Tryz.own:ownKnob Tryz.prog.godebug=none:=by kernel_rfl
theorem Tryz.laidOut:laidOutB Tryz.prog=true:=by kernel_rfl
theorem aGS:zI Tryz.prog 4 40=some [.int .i64,.int .i64,.int .i64,.int .i64]:=by kernel_rfl
theorem aGF:Tryz.prog.cellsOf 40=4:=by kernel_rfl
theorem aFT:Tryz.prog.underlying 22=some (.slice 40):=by kernel_rfl
theorem aGw:zI Tryz.prog 4 3=some [.int .i64]:=by kernel_rfl
theorem aGk:Tryz.prog.cellsOf 3=1:=by kernel_rfl
theorem aE5:Tryz.prog.underlying 23=some (.slice 3):=by kernel_rfl
theorem aDF (cs:List Value) (h:yO [.int .i64,.int .i64,.int .i64,.int .i64] cs):∃ x:Int × Int × Int × Int,cs=E40 x∧True:=by
  obtain ⟨_,_,rfl,⟨x4,rfl,w4⟩,_,_,rfl,⟨x5,rfl,w5⟩,_,_,rfl,⟨x6,rfl,w6⟩,_,_,rfl,⟨x7,rfl,w7⟩,rfl⟩:=h
  exact ⟨(x4,x5,x6,x7),rfl,trivial⟩
theorem aDp (cs:List Value) (h:yO [.int .i64] cs):∃ x:Int,cs=E3 x∧True:=by
  obtain ⟨_,_,rfl,⟨x4,rfl,w4⟩,rfl⟩:=h
  exact ⟨x4,rfl,trivial⟩
set_option maxRecDepth 100000 in
theorem planOrders_lifted (os:Os) (started:os.Started) (H:Type) (enc:TypeId × Value→H) :
    ReturnsInHanded {} Tryz.checked os 3 .any (Rows.planOrdersSpec.pre6 enc Tryz.prog Tryz.f3 Rows.planOrdersRow.domain false) (Rows.planOrdersSpec.post enc Tryz.prog Tryz.f3 false true false false):=by
  refine returnsInHanded_of_change (C:=Tryz.checked) Tryz.own started (by kernel_rfl) Tryz.func3
    (ChangeSpec.witness6 (enc:=enc) (C:=Tryz.checked) false ⟨#[],#[.slice none 0 0,.slice none 0 0,Iv 0,Iv 0,Iv 0],[]⟩ 8 (by kernel_rfl) (by kernel_rfl) (by kernel_rfl) (by kernel_rfl)) ?_
  intro W base args ds gs before hval0 hW hcnd _
  have hval:∀ (j:Nat) t v,Tryz.f3.params[j]? = some t→args[j]? = some v→Value.okWide Tryz.prog W .any base t v:=hval0
  have hW':=hW
  obtain ⟨p,q,hA0,hV,rfl,hfz,hnd⟩:=hW
  have hA:DataW.TrodAll enc Tryz.prog W 0 (fun _=>true) true [22,23,2,2,2] args.toList ds p:=hA0
  obtain ⟨rfl,rfl⟩:=trodVars_none hV
  have hA':=hA
  obtain ⟨v1,a1,d1,ds1,p1,q1,e1,rfl,t1,hB1,rfl⟩:=qD hA
  obtain ⟨v2,a2,d2,ds2,p2,q2,rfl,rfl,t2,hB2,rfl⟩:=qD hB1
  obtain ⟨v3,a3,d3,ds3,p3,q3,rfl,rfl,t3,hB3,rfl⟩:=qD hB2
  obtain ⟨v4,a4,d4,ds4,p4,q4,rfl,rfl,t4,hB4,rfl⟩:=qD hB3
  obtain ⟨v5,a5,d5,ds5,p5,q5,rfl,rfl,t5,hB5,rfl⟩:=qD hB4
  obtain ⟨rfl,rfl⟩:=aAg hB5
  obtain rfl:args=#[v1,v2,v3,v4,v5]:=by
    apply Array.ext'
    simpa using e1
  obtain ⟨l,hl,_⟩:=aCo (E:=E40) (ok:=fun _=>True) aFT aGS aGF (by decide) aDF tu (hval 0 22 v1 rfl rfl) t1
  obtain ⟨o,ho,_⟩:=aCo (E:=E3) (ok:=fun _=>True) aE5 aGw aGk (by decide) aDp l9 (hval 1 23 v2 rfl rfl) t2
  obtain ⟨x3,rfl,rfl,rfl,w3⟩:=open_int Tryz.underlying2 (hval 2 2 v3 rfl rfl) t3
  obtain ⟨x4,rfl,rfl,rfl,w4⟩:=open_int Tryz.underlying2 (hval 3 2 v4 rfl rfl) t4
  obtain ⟨x5,rfl,rfl,rfl,w5⟩:=open_int Tryz.underlying2 (hval 4 2 v5 rfl rfl) t5
  refine Calls.mono (vZ 8589934592 v1 l v2 o x3 x4 x5 W hl ho true (aD7 l o x3 x4 x5)) fun e W' ⟨_,he,hS⟩=>?_
  subst he
  have hb:RowKit.Below W.heap.size W W':=⟨hS.os,hS.tape,hS.output,hS.size,fun k hk=>hS.old k hk (fun h=>h)⟩
  refine ⟨_,rfl,_,_,_,[],p1++(p2++([]++([]++([]++q5)))),[],hW',trodAll_mk1 (shut_bool Tryz.underlying4 true),?_,?_,hb.frame _,fun h=>by cases h⟩
  · have hl:=hW'.lt
    simp only [List.append_nil] at hl
    exact Below.trodAll Tryz.laidOut hb _ _ _ _ (by kernel_rfl) hA' (fun x hx=>hl x (by simpa using hx))
  · rfl
theorem planOrders_holds:Rows.PlanOrdersSaid :=
  OpenClaim.holds_of_wide 3 Tryz.f3 rfl rfl rfl rfl rfl rfl rfl ⟨rfl,rfl,rfl,rfl,rfl⟩ rfl rfl rfl rfl rfl (by kernel_rfl) Tryz.func3 (by kernel_rfl)
    (of_decide_eq_true (by kernel_rfl)) (by unfold Func.isWrapper; first | (rw [if_pos (by decide +kernel)]; kernel_rfl) | (rw [if_neg (by decide +kernel)]; exact ⟨rfl,rfl⟩))
    (fun os started H enc _=>planOrders_lifted os started H enc)
#print axioms planOrders_holds
end Go.Proofs.YtbccfconmcgfgaaGreat
