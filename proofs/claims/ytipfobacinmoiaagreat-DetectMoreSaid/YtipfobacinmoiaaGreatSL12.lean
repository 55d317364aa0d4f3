/- A range over a function whose body does not leave early: the statement, the iterator's contract, the marks among the deferred calls. -/
import Derived.Test.YtipfobacinmoiaaGreatSL11
import Derived.RangeFuncOwn
import Derived.RangeFuncLeaves
set_option linter.unusedVariables false
set_option linter.unusedSimpArgs false
namespace Go.SL
open Go
def mkDs (Ds:List Nat):List Deferred:=Ds.map fun D=>{ target:=.collected D,args:=#[] }
def mkA (Ds:List Nat):Asr:=⟨fun b=>b ∈ Ds,fun h=>Ds.Nodup∧∀ D ∈ Ds,h D=some (.deferred (some [])),fun h h' hk hh=>⟨hh.1,fun D hD=>by rw [hk D hD]; exact hh.2 D hD⟩⟩
section
variable {P:Program} {a:Act} {w w0 w':World} {n:Nat} {ds:List Deferred} {L:List (Nat × Value)} {X:Nat→Prop} {B M:List Asr} {j b l D:Nat} {o o':Obj} {Ds:List Nat}
theorem St.mk0 (h:St w0 w X B M):St w0 w X B (mkA []::M):=h.pushE ⟨by simp,by simp⟩ (fun b hb=>by simp [mkA] at hb)
theorem St.putO (h:St w0 w X B M) (hi:M[j]? = some (pt b o)) (o':Obj):St w0 (w.putObj b o') X B (M.set j (pt b o')):=by
  have hb:w.heap[b]? = some o:=h.at_ hi
  have hl:=(Array.getElem?_eq_some_iff.1 hb).1
  refine h.write (w':=w.putObj b o') hi rfl rfl rfl (by simp) (fun k _ hk=>World.putObj_heap_other hk) (World.putObj_heap_same hl) (fun k hk=>⟨.inl hk,by
    have hk:k=b:=hk
    subst hk
    simpa using hl⟩)
theorem St.mkCons (h:St w0 w X B (pt D (.deferred (some []))::mkA Ds::M)):St w0 w X B (mkA (D::Ds)::M):=by
  have h1:=h.sep
  refine ⟨h.os,h.tape,h.output,h.size,h.old,⟨⟨⟨?_,fun E hE=>?_⟩,fun b hb=>?_,fun q hq b hb hqb=>?_⟩,h1.2.2⟩,h.bor⟩
  · exact List.nodup_cons.2 ⟨fun hD=>h1.1.2.2 (mkA Ds) (by simp) D rfl hD,h1.2.1.1.1⟩
  · rcases List.mem_cons.1 hE with rfl | hE
    · exact h1.1.1
    · exact h1.2.1.1.2 E hE
  · rcases List.mem_cons.1 hb with rfl | hb
    · exact h1.1.2.1 b rfl
    · exact h1.2.1.2.1 b hb
  · rcases List.mem_cons.1 hb with rfl | hb
    · exact h1.1.2.2 q (by simp [hq]) b rfl hqb
    · exact h1.2.1.2.2 q hq b hb hqb
theorem St.mkUncons (h:St w0 w X B (mkA (D::Ds)::M)):St w0 w X B (pt D (.deferred (some []))::mkA Ds::M):=by
  have h1:=h.sep
  have hnd:=List.nodup_cons.1 h1.1.1.1
  refine ⟨h.os,h.tape,h.output,h.size,h.old,⟨⟨h1.1.1.2 D (by simp),fun b hb=>?_,fun q hq b hb hqb=>?_⟩,⟨⟨hnd.2,fun E hE=>h1.1.1.2 E (by simp [hE])⟩,fun b hb=>h1.1.2.1 b (List.mem_cons_of_mem _ hb),fun q hq b hb hqb=>h1.1.2.2 q hq b (List.mem_cons_of_mem _ hb) hqb⟩,h1.2⟩,h.bor⟩
  · have hb:b=D:=hb
    subst hb
    exact h1.1.2.1 b (List.mem_cons_self ..)
  · have hb:b=D:=hb
    subst hb
    rcases List.mem_cons.1 hq with rfl | hq
    · exact hnd.1 hqb
    · exact h1.1.2.2 q hq b (List.mem_cons_self ..) hqb
theorem postM {fn:Func} {R:Ending→World→Prop} (hS:St w0 w X B (mkA Ds::M)) (hf:Fr a n (mkDs Ds) L) (h:∀ w' a',Fr a' n [] L→St w0 w' X B M→bodyPost P fn R .ret a' w') :
    bodyPostM (FW none) 0 P fn R .ret a w:=by
  show LeavesInM (FW none) 0 P fn a.tmps R a.defers .returning w
  rw [hf.defers]
  have key:∀ (Ds:List Nat) (w:World),St w0 w X B (mkA Ds::M)→LeavesInM (FW none) 0 P fn a.tmps R (mkDs Ds) .returning w:=by
    intro Ds
    induction Ds with
    | nil =>
      intro w hS
      obtain ⟨_,v,h1,h2⟩:=h w { a with defers:=[] } ⟨hf.size,rfl,hf.get⟩ (hS.sub (List.sublist_cons_self _ _))
      exact ⟨v,h1,h2⟩
    | cons D Ds ih =>
      intro w hS
      have h1:=hS.mkUncons
      refine ⟨by simp,.inl ⟨D,w.putObj D (.deferred none),rfl,run_takeDeferred (h1.at_ (i:=0) rfl),ih _ ?_⟩⟩
      exact (h1.putO (j:=0) rfl _).sub (List.sublist_cons_self _ _)
  exact key Ds w hS
theorem ret_of_WM {G:Type} {v:G→Value} {R:G→World→Prop} {f:FuncId} {fn:Func} {c:Code} {lv:List Value} (hf:P.funcs[f]? = some fn) (hb:fn.body=some c) (hn:fn.ntmps=n) (hl:Nat.ble lv.length n=true)
    (h:∀ a,Fr a n [] (argsL 0 lv)→W none P c (bodyPostM (FW none) 0 P fn (fun e w'=>∃ g,e=.returned (v g)∧R g w')) a w):Ret P f lv.toArray w v R:=by
  refine (callsIn_FW (r:=none) (n:=0)).1 (callsIn_of_wp_marks hf hb trivial ?_ rfl)
  exact h _ (Fr.start rfl (by simpa using hl) (by rw [hn]))
end
def IterR (P:Program) (gf:FuncId) (lb:Array Value) (xs:List Value) (Bs:List (Nat × Obj)):Prop :=
  ∀ (l:Nat) (R:Nat→World→Prop),(∀ k w,R k w→R k w.drew)→(∀ k w,R k w→∀ p ∈ Bs,w.heap[p.1]? = some p.2) →
    (∀ k x,xs[k]? = some x→∀ w,R k w→YieldAt (FW none) 0 P l #[x] w (fun e w'=>e=.returned (.bool true)∧R (k+1) w')) →
    ∀ w,R 0 w→Calls P gf (#[.func (.yield l) #[] #[]]++lb) w (fun e w'=>(∃ v,e=.returned v)∧R xs.length w')
section
variable {P:Program} {Q:Exit→Act→World→Prop} {a:Act} {w w0 w':World} {n:Nat} {ds:List Deferred} {L:List (Nat × Value)} {X:Nat→Prop} {B M:List Asr}
theorem callOK_enter {f:FuncId} (h:callOK P f=true) (args:Array Value) (w:World):(callFunc f args).run P w=.ok (.enter f args) w:=by
  unfold callOK at h
  split at h
  · rename_i fn hfn
    simp only [Bool.and_eq_true,bne_iff_ne,ne_eq] at h
    obtain ⟨h1,h2⟩:=h
    have h3:fn.body.isNone=false:=by cases hb:fn.body <;> simp_all
    have hp:(program).run P w=.ok P w:=rfl
    simp only [callFunc,Sem.run_bind,hp,Result.andThen,hfn]
    simp [h1,h3]
  · cases h
theorem W.rangeFn {G:Type} {g:Operand} {p:Nat} {assign body:Code} {xs:List Value} {lb:Array Value} {gf:FuncId} (L':Value→List (Nat × Value)) (MM:G→List Asr) (Fc:Nat→G→Prop) (g0:G) (Bs:List (Nat × Obj))
    (hf:Fr a n ds L) (hp:Nat.blt p n=true) (hg:ev L g=some (.func (.func gf) #[] lb)) (eg:callOK P gf=true) (hS:St w0 w X B (MM g0)) (hF:Fc 0 g0)
    (hit:IterR P gf lb xs Bs) (hB:∀ g w,St w0 w X B (MM g)→∀ p ∈ Bs,w.heap[p.1]? = some p.2)
    (hassign:∀ l x w a',Fr a' n [] ((p,x)::L)→W (some l) P assign (fun e a'' w''=>e=.normal∧Fr a'' n [] (L' x)∧w''=w) a' w)
    (hbody:∀ l o D k x g w,xs[k]? = some x→Fc k g→St w0 w X B (pt l o::pt D (.deferred (some []))::MM g)→∀ a',Fr a' n [] (L' x) →
      W (some l) P body (fun e a'' w''=>e=.normal∧∃ g',Fc (k+1) g'∧St w0 w'' X B (pt l o::pt D (.deferred (some []))::MM g')) a' w)
    (hdone:∀ D g a' w,Fc xs.length g→St w0 w X B (pt D (.deferred (some []))::MM g)→Fr a' n ({ target:=.collected D,args:=#[] }::ds) L→Q .normal a' w) :
    W none P (.rangeFunc g #[p] assign body) Q a w:=by
  refine wpIn_rangeFunc ?_
  intro fn hfn
  obtain ⟨rec,hrec⟩:∃ rec:LoopState→Option Code→Loop,rec=fun st pe=>{ state:=st,pending:=pe,fn,tmps:=a.tmps,params:=#[p],assign,body,defers:=w.heap.size }:=⟨_,rfl⟩
  obtain ⟨W1,hW1⟩:∃ W1,(w.alloc (.deferred (some []))).alloc (.loop (rec .ready none))=W1:=⟨_,rfl⟩
  have hS1:St w0 W1 X B (pt (w.heap.size+1) (.loop (rec .ready none))::pt w.heap.size (.deferred (some []))::MM g0):=by
    have:=(hS.alloc (.deferred (some []))).alloc (.loop (rec .ready none))
    rw [hW1,World.size_alloc] at this
    exact this
  refine ⟨w.heap.size+1,[{ target:=.collected w.heap.size,args:=#[] }],W1,{ target:=.fn (.func gf) lb,args:=#[.func (.yield (w.heap.size+1)) #[] #[]] },W1,gf,
    #[.func (.yield (w.heap.size+1)) #[] #[]]++lb,W1,?_,?_,?_,?_,fun h=>by simp [FW] at h,?_⟩
  · rw [← hW1,hrec]; exact run_enterLoop_outer _ _ _ _ _
  · simp only [resolve,hf.eval hg]
    simp [go_sem]
  · intro f' hf'; trivial
  · simp [invoke,go_sem,callOK_enter eg]
  · generalize hl:w.heap.size+1=l at hS1 ⊢
    generalize hD:w.heap.size=D at hS1 hl ⊢ hrec
    have hrec':∀ st pe,rec st pe={ state:=st,pending:=pe,fn,tmps:=a.tmps,params:=#[p],assign,body,defers:=D }:=fun st pe=>by rw [hrec]
    clear hrec hW1
    refine callsIn_FW.2 ((hit l (fun k w=>∃ g,Fc k g∧St w0 w X B (pt l (.loop (rec .ready none))::pt D (.deferred (some []))::MM g)) ?_ ?_ ?_ W1 ⟨g0,hF,hS1⟩).mono ?_)
    · rintro k w ⟨g,h1,h2⟩; exact ⟨g,h1,h2.drew⟩
    · rintro k w ⟨g,h1,h2⟩; exact hB g w (h2.sub ((List.sublist_cons_self _ _).trans (List.sublist_cons_self _ _)))
    · rintro k x hx w ⟨g,h1,h2⟩
      have hlr:=h2.at_ (i:=0) rfl
      have hlr:w.heap[l]? = some (.loop (rec .ready none)):=hlr
      have hy:=run_yield (P:=P) (args:=#[x]) hlr (by rw [hrec']; simp)
      refine ⟨fn,_,assign,body,by rw [hrec'] at hy; exact hy,?_⟩
      refine roundIn_of_wpIn (F:=FW none) hfn ?_
      have hfr:Fr { tmps:=(#[p].zip #[x]).foldl (fun t (p,v)=>t.setIfInBounds p v) a.tmps,defers:=[] } n [] ((p,x)::L):=by
        have:=Fr.put (a:={ a with defers:=[] }) (ds:=[]) ⟨hf.size,rfl,hf.get⟩ hp x
        have e:(#[p].zip #[x]).foldl (fun t (p,v)=>t.setIfInBounds p v) a.tmps=a.tmps.setIfInBounds p x:=by simp
        rw [e]
        exact this
      have hW:=hassign l x w _ hfr
      refine wpIn_mono (F:=FW (some l)) hW ?_
      rintro e a1 w1 ⟨rfl,hfr1,rfl⟩
      refine ⟨_,run_beginRound hlr (by rw [hrec']),?_⟩
      have h3:=h2.putO (j:=0) rfl (.loop { rec .ready none with state:=.busy })
      refine wpIn_mono (F:=FW (some l)) (hbody l _ D k x g _ hx h1 h3 a1 hfr1) ?_
      rintro e a2 w2 ⟨rfl,g',h4,h5⟩
      have hl2:w2.heap[l]? = some (.loop { rec .ready none with state:=.busy }):=h5.at_ (i:=0) rfl
      refine ⟨_,_,run_endRound none hl2,rfl,g',h4,?_⟩
      have h6:=h5.putO (j:=0) rfl (.loop (rec .ready none))
      simpa [hrec'] using h6
    · rintro e w2 ⟨⟨v,rfl⟩,g,h1,h2⟩
      have hl2:w2.heap[l]? = some (.loop (rec .ready none)):=h2.at_ (i:=0) rfl
      refine ⟨none,_,by have:=run_endLoop (P:=P) hl2 (by rw [hrec']; simp); rw [hrec'] at this; exact this,?_⟩
      have h3:=h2.putO (j:=0) rfl (.loop { rec .ready none with state:=.exhausted })
      refine hdone D g _ _ h1 (by have:=h3.sub (List.sublist_cons_self _ _); simpa [hrec'] using this) ⟨hf.size,by show _::a.defers=_; rw [hf.defers],hf.get⟩
end
end Go.SL
namespace Go.SL
open Go
section
variable {r:Option Nat} {P:Program} {Q:Exit→Act→World→Prop} {ops:Array Oper} {i:Nat} {rest:List Nat} {a:Act} {w w0 w':World} {n:Nat} {ds:List Deferred} {L:List (Nat × Value)}
  {d:Nat} {op:Op} {ty:TypeId} {pos:String} {af:Array Edge} {v x:Value} {X:Nat→Prop} {B M:List Asr} {f y:Operand} {l:Nat} {R:World→Prop} {at_:Array TypeId}
theorem run_callYield {g:Option (Nat × Bool)} {dst:Option Tmp} (hf:Fr a n ds L) (hx:ev L f=some (.func (.yield l) #[] #[])) (hy:ev L y=some x) {res:Result Next} (h:(Instr.yield l #[x]).run P w=res) :
    (execOp a.eval ⟨dst,.call ⟨.value f,#[y],at_⟩,ty,pos,af,g⟩).run P w=res:=by
  simp only [execOp,resolve,Sem.run_bind,Sem.run_pure,Result.andThen,hf.eval hx,Deferred.ofValue,invoke]
  have e:(#[]++#[y].map a.eval++#[]:Array Value)=#[x]:=by simp [hf.eval hy]
  simp [hf.eval hy]
  exact h
theorem O.yield (hf:Fr a n ds L) (ho:ops[i]? = some ⟨some d,.call ⟨.value f,#[y],at_⟩,ty,pos,af,none⟩) (hd:Nat.blt d n=true) (hx:ev L f=some (.func (.yield l) #[] #[])) (hy:ev L y=some x)
    (hY:YieldAt (FW none) 0 P l #[x] w (fun e w'=>e=.returned (.bool true)∧R w'))
    (k:∀ w' a',R w'→Fr a' n ds ((d,.bool true)::L)→O none P ops Q rest a' w'):O none P ops Q (i::rest) a w:=by
  obtain ⟨fn,tmps,assign,body,h1,h2⟩:=hY
  unfold O wpOpsIn
  simp only [ho]
  rw [if_pos (by simp [Region.wanted])]
  refine ⟨fun _ _=>trivial,?_⟩
  rw [semAt_FW (o:=⟨some d,.call ⟨.value f,#[y],at_⟩,ty,pos,af,none⟩) rfl,run_callYield hf hx hy h1]
  refine ⟨fun h=>by simp [FW] at h,h2.mono ?_⟩
  rintro e w' ⟨rfl,hR⟩
  exact k w' _ hR (hf.put hd _)
theorem O.gyield {jj dj:Nat} {want c:Bool} (hf:Fr a n ds L) (ho:ops[i]? = some ⟨some d,.call ⟨.value f,#[y],at_⟩,ty,pos,af,some (jj,want)⟩) (hj:(ops[jj]?).bind (·.dst)=some dj) (hv:lk L dj=some (.bool c)) (hc:c=want) (hd:Nat.blt d n=true) (hx:ev L f=some (.func (.yield l) #[] #[])) (hy:ev L y=some x)
    (hY:YieldAt (FW none) 0 P l #[x] w (fun e w'=>e=.returned (.bool true)∧R w'))
    (k:∀ w' a',R w'→Fr a' n ds ((d,.bool true)::L)→O none P ops Q rest a' w'):O none P ops Q (i::rest) a w:=by
  obtain ⟨fn,tmps,assign,body,h1,h2⟩:=hY
  unfold O wpOpsIn
  simp only [ho]
  rw [if_pos (by rw [wanted_of hf hj hv,hc]; simp)]
  refine ⟨fun _ _=>trivial,?_⟩
  rw [semAt_FW (o:=⟨some d,.call ⟨.value f,#[y],at_⟩,ty,pos,af,some (jj,want)⟩) rfl,run_callYield hf hx hy h1]
  refine ⟨fun h=>by simp [FW] at h,h2.mono ?_⟩
  rintro e w' ⟨rfl,hR⟩
  exact k w' _ hR (hf.put hd _)
theorem St.selfDrew (h:St w w noX B []):St w.drew w.drew noX B []:=⟨rfl,rfl,rfl,Nat.le_refl _,fun _ _ _=>rfl,trivial,h.bor⟩
theorem St.selfPts {Bs:List (Nat × Obj)} (h:∀ p ∈ Bs,w.heap[p.1]? = some p.2):St w w noX (Bs.map fun p=>pt p.1 p.2) []:=St.borrow fun p hp=>by
  obtain ⟨q,hq,rfl⟩:=List.mem_map.1 hp
  refine ⟨h q hq,fun b hb=>?_⟩
  have hb:b=q.1:=hb
  subst hb
  exact (Array.getElem?_eq_some_iff.1 (h q hq)).1
end
end Go.SL
namespace Go.SL
theorem ints_at {l:List Int} {j:Nat} {x:Value} (h:(ints l)[j]? = some x):j<l.length∧x=.int .i64 (l.getD j 0):=by
  simp only [ints,List.getElem?_map,Option.map_eq_some_iff] at h
  obtain ⟨t,ht,rfl⟩:=h
  have:=(List.getElem?_eq_some_iff.1 ht)
  obtain ⟨hj,he⟩:=this
  exact ⟨hj,by rw [List.getD_eq_getElem?_getD,ht]; rfl⟩
end Go.SL
namespace Go.SL
theorem St.ownMs {w:World} {b:Nat} {ins:List Bool} (h:setOK (hp w) b ins):St w w (fun k=>k=b) [] [ms b ins]:=by
  have hb:b<w.heap.size:=by
    obtain ⟨es,c,ks,h1,_⟩:=h
    exact (Array.getElem?_eq_some_iff.1 (show w.heap[b]? = _ from h1)).1
  exact ⟨rfl,rfl,rfl,Nat.le_refl _,fun _ _ _=>rfl,⟨⟨h,fun k hk=>⟨by have hk:k=b:=hk; omega,.inl hk⟩,by simp⟩,trivial⟩,by simp⟩
end Go.SL
