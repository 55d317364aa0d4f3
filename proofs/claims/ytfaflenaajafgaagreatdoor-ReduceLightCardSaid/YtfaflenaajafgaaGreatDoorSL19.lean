/- A range over a function of two values whose body may return early; the iterator that goes down a slice. -/
import Derived.Test.YtfaflenaajafgaaGreatDoorSL18
import Derived.Test.YtfaflenaajafgaaGreatDoorSL12
set_option linter.unusedVariables false
set_option linter.unusedSimpArgs false
namespace Go.SL
open Go
def IterX (P:Program) (gf:FuncId) (lb:Array Value) (xs:List (Value × Value)) (Rd:World→Prop):Prop :=
  ∀ (l:Nat) (R:Nat→World→Prop) (S:World→Prop),(∀ k w,R k w→R k w.drew)→(∀ k w,R k w→Rd w) →
    (∀ k x,xs[k]? = some x→∀ w,R k w→YieldAt (FW none) 0 P l #[x.1,x.2] w (fun e w'=>(e=.returned (.bool true)∧R (k+1) w')∨(e=.returned (.bool false)∧S w'))) →
    ∀ w,R 0 w→Calls P gf (#[.func (.yield l) #[] #[]]++lb) w (fun e w'=>(∃ v,e=.returned v)∧(R xs.length w'∨S w'))
section
variable {P:Program} {Q:Exit→Act→World→Prop} {a:Act} {w w0 w':World} {n:Nat} {ds:List Deferred} {L:List (Nat × Value)} {X:Nat→Prop} {B M:List Asr}
theorem W.rangeFn2 {G G2:Type} {g:Operand} {p1 p2:Nat} {assign body:Code} {xs:List (Value × Value)} {lb:Array Value} {gf:FuncId} (L':Value→Value→List (Nat × Value)) (MM:G→List Asr) (Fc:Nat→G→Prop) (g0:G) (Rd:World→Prop) (MS:G2→List Asr) (Fs:G2→Prop)
    (hf:Fr a n ds L) (hp1:Nat.blt p1 n=true) (hp2:Nat.blt p2 n=true) (hg:ev L g=some (.func (.func gf) #[] lb)) (eg:cOK P gf=true) (hS:St w0 w X B (MM g0)) (hF:Fc 0 g0)
    (hit:IterX P gf lb xs Rd) (hB:∀ g w,St w0 w X B (MM g)→Rd w)
    (hassign:∀ l x y w a',Fr a' n [] ((p2,y)::(p1,x)::L)→W (some l) P assign (fun e a'' w''=>e=.normal∧Fr a'' n [] (L' x y)∧w''=w) a' w)
    (hbody:∀ l o D k x y g w,xs[k]? = some (x,y)→Fc k g→St w0 w X B (pt l o::pt D (.deferred (some []))::MM g)→∀ a',Fr a' n [] (L' x y) →
      W (some l) P body (fun e a'' w''=>(e=.normal∧∃ g',Fc (k+1) g'∧St w0 w'' X B (pt l o::pt D (.deferred (some []))::MM g'))∨(e=.ret∧∃ g2,Fs g2∧St w0 w'' X B (pt l o::pt D (.deferred (some []))::MS g2))) a' w)
    (hdone:∀ D g a' w,Fc xs.length g→St w0 w X B (pt D (.deferred (some []))::MM g)→Fr a' n ({ target:=.collected D,args:=#[] }::ds) L→Q .normal a' w)
    (hstop:∀ D g2 a' w,Fs g2→St w0 w X B (pt D (.deferred (some []))::MS g2)→Fr a' n ({ target:=.collected D,args:=#[] }::ds) L→Q .ret a' w) :
    W none P (.rangeFunc g #[p1,p2] assign body) Q a w:=by
  refine wpIn_rangeFunc ?_
  intro fn hfn
  obtain ⟨rec,hrec⟩:∃ rec:LoopState→Option Code→Loop,rec=fun st pe=>{ state:=st,pending:=pe,fn,tmps:=a.tmps,params:=#[p1,p2],assign,body,defers:=w.heap.size }:=⟨_,rfl⟩
  obtain ⟨W1,hW1⟩:∃ W1,(w.alloc (.deferred (some []))).alloc (.loop (rec .ready none))=W1:=⟨_,rfl⟩
  have hS1:St w0 W1 X B (pt (w.heap.size+1) (.loop (rec .ready none))::pt w.heap.size (.deferred (some []))::MM g0):=by
    have:=(hS.alloc (.deferred (some []))).alloc (.loop (rec .ready none))
    rw [hW1,World.size_alloc] at this
    exact this
  refine ⟨w.heap.size+1,[{ target:=.collected w.heap.size,args:=#[] }],W1,{ target:=.fn (.func gf) lb,args:=#[.func (.yield (w.heap.size+1)) #[] #[]] },W1,gf,
    #[.func (.yield (w.heap.size+1)) #[] #[]]++lb,W1,?_,?_,?_,?_,fun h=>by simp [FW] at h,?_⟩
  · rw [← hW1,hrec]; exact run_enterLoop_outer _ _ _ _ _
  · simp only [resolve,hf.eval hg]
    simp [go_sem]
  · intro f' hf'; trivial
  · simp [invoke,go_sem,callOK_enter eg]
  · generalize hl:w.heap.size+1=l at hS1 ⊢
    generalize hD:w.heap.size=D at hS1 hl ⊢ hrec
    have hrec':∀ st pe,rec st pe={ state:=st,pending:=pe,fn,tmps:=a.tmps,params:=#[p1,p2],assign,body,defers:=D }:=fun st pe=>by rw [hrec]
    clear hrec hW1
    refine callsIn_FW.2 ((hit l (fun k w=>∃ g,Fc k g∧St w0 w X B (pt l (.loop (rec .ready none))::pt D (.deferred (some []))::MM g))
      (fun w=>∃ g2,Fs g2∧St w0 w X B (pt l (.loop (rec .done (some .ret)))::pt D (.deferred (some []))::MS g2)) ?_ ?_ ?_ W1 ⟨g0,hF,hS1⟩).mono ?_)
    · rintro k w ⟨g,h1,h2⟩; exact ⟨g,h1,h2.drew⟩
    · rintro k w ⟨g,h1,h2⟩; exact hB g w (h2.sub ((List.sublist_cons_self _ _).trans (List.sublist_cons_self _ _)))
    · rintro k ⟨x,y⟩ hx w ⟨g,h1,h2⟩
      have hlr:w.heap[l]? = some (.loop (rec .ready none)):=h2.at_ (i:=0) rfl
      have hy:=run_yield (P:=P) (args:=#[x,y]) hlr (by rw [hrec']; simp)
      refine ⟨fn,_,assign,body,by rw [hrec'] at hy; exact hy,?_⟩
      refine roundIn_of_wpIn (F:=FW none) hfn ?_
      have hfr:Fr { tmps:=(#[p1,p2].zip #[x,y]).foldl (fun t (p,v)=>t.setIfInBounds p v) a.tmps,defers:=[] } n [] ((p2,y)::(p1,x)::L):=by
        have h0:=Fr.put (a:={ a with defers:=[] }) (ds:=[]) ⟨hf.size,rfl,hf.get⟩ hp1 x
        have:=h0.put hp2 y
        have e:(#[p1,p2].zip #[x,y]).foldl (fun t (p,v)=>t.setIfInBounds p v) a.tmps=(a.tmps.setIfInBounds p1 x).setIfInBounds p2 y:=by simp
        rw [e]
        exact this
      have hW:=hassign l x y w _ hfr
      refine wpIn_mono (F:=FW (some l)) hW ?_
      rintro e a1 w1 ⟨rfl,hfr1,rfl⟩
      refine ⟨_,run_beginRound hlr (by rw [hrec']),?_⟩
      have h3:=h2.putO (j:=0) rfl (.loop { rec .ready none with state:=.busy })
      refine wpIn_mono (F:=FW (some l)) (hbody l _ D k x y g _ hx h1 h3 a1 hfr1) ?_
      rintro e a2 w2 (⟨rfl,g',h4,h5⟩ | ⟨rfl,g2,h4,h5⟩)
      · have hl2:w2.heap[l]? = some (.loop { rec .ready none with state:=.busy }):=h5.at_ (i:=0) rfl
        refine ⟨_,_,run_endRound none hl2,.inl ⟨rfl,g',h4,?_⟩⟩
        have h6:=h5.putO (j:=0) rfl (.loop (rec .ready none))
        simpa [hrec'] using h6
      · have hl2:w2.heap[l]? = some (.loop { rec .ready none with state:=.busy }):=h5.at_ (i:=0) rfl
        refine ⟨_,_,run_endRound (some .ret) hl2,.inr ⟨rfl,g2,h4,?_⟩⟩
        have h6:=h5.putO (j:=0) rfl (.loop (rec .done (some .ret)))
        simpa [hrec'] using h6
    · rintro e w2 ⟨⟨v,rfl⟩,(⟨g,h1,h2⟩ | ⟨g2,h1,h2⟩)⟩
      · have hl2:w2.heap[l]? = some (.loop (rec .ready none)):=h2.at_ (i:=0) rfl
        refine ⟨none,_,by have:=run_endLoop (P:=P) hl2 (by rw [hrec']; simp); rw [hrec'] at this; exact this,?_⟩
        have h3:=h2.putO (j:=0) rfl (.loop { rec .ready none with state:=.exhausted })
        refine hdone D g _ _ h1 (by have:=h3.sub (List.sublist_cons_self _ _); simpa [hrec'] using this) ⟨hf.size,by show _::a.defers=_; rw [hf.defers],hf.get⟩
      · have hl2:w2.heap[l]? = some (.loop (rec .done (some .ret))):=h2.at_ (i:=0) rfl
        refine ⟨some .ret,_,by have:=run_endLoop (P:=P) hl2 (by rw [hrec']; simp); rw [hrec'] at this; exact this,?_⟩
        have h3:=h2.putO (j:=0) rfl (.loop { rec .done (some .ret) with state:=.exhausted })
        refine W.ret (r:=none) (Q:=Q) ?_
        refine hstop D g2 _ _ h1 (by have:=h3.sub (List.sublist_cons_self _ _); simpa [hrec'] using this) ⟨hf.size,by show _::a.defers=_; rw [hf.defers],hf.get⟩
end
end Go.SL
namespace Go.SL
open Go
section
variable {P:Program} {Q:Exit→Act→World→Prop} {ops:Array Oper} {i:Nat} {rest:List Nat} {a:Act} {w w0 w':World} {n:Nat} {ds:List Deferred} {L:List (Nat × Value)}
  {d:Nat} {ty:TypeId} {pos:String} {af:Array Edge} {x1 x2:Value} {f y1 y2:Operand} {l:Nat} {R S:World→Prop} {at_:Array TypeId}
theorem O.yield2 (hf:Fr a n ds L) (ho:ops[i]? = some ⟨some d,.call ⟨.value f,#[y1,y2],at_⟩,ty,pos,af,none⟩) (hd:Nat.blt d n=true) (hx:ev L f=some (.func (.yield l) #[] #[])) (hy1:ev L y1=some x1) (hy2:ev L y2=some x2)
    (hY:YieldAt (FW none) 0 P l #[x1,x2] w (fun e w'=>(e=.returned (.bool true)∧R w')∨(e=.returned (.bool false)∧S w')))
    (k:∀ c w' a',(c=true∧R w'∨c=false∧S w')→Fr a' n ds ((d,.bool c)::L)→O none P ops Q rest a' w'):O none P ops Q (i::rest) a w:=by
  obtain ⟨fn,tmps,assign,body,h1,h2⟩:=hY
  have h3:(execOp a.eval ⟨some d,.call ⟨.value f,#[y1,y2],at_⟩,ty,pos,af,none⟩).run P w=.ok (.round l fn tmps assign body) w:=by
    simp only [execOp,resolve,Sem.run_bind,Sem.run_pure,Result.andThen,hf.eval hx,Deferred.ofValue,invoke]
    simp [hf.eval hy1,hf.eval hy2]
    exact h1
  unfold O wpOpsIn
  simp only [ho]
  rw [if_pos (by simp [Region.wanted])]
  refine ⟨fun _ _=>trivial,?_⟩
  rw [semAt_FW (o:=⟨some d,.call ⟨.value f,#[y1,y2],at_⟩,ty,pos,af,none⟩) rfl,h3]
  refine ⟨fun h=>by simp [FW] at h,h2.mono ?_⟩
  rintro e w' (⟨rfl,hR⟩ | ⟨rfl,hR⟩)
  · exact k true w' _ (.inl ⟨rfl,hR⟩) (hf.put hd _)
  · exact k false w' _ (.inr ⟨rfl,hR⟩) (hf.put hd _)
end
def downL {T:Type} (l:List T):List (Int × T):=(l.zipIdx.map fun p=>((p.2:Int),p.1)).reverse
theorem downL_len {T:Type} (l:List T):(downL l).length=l.length:=by simp [downL]
theorem downL_get {T:Type} {l:List T} {k:Nat} (h:k<l.length):(downL l)[k]? = some (((l.length-1-k:Nat):Int),l[l.length-1-k]):=by
  unfold downL
  rw [List.getElem?_reverse (by simpa using h)]
  simp [List.getElem?_zipIdx,List.getElem?_eq_getElem (show l.length-1-k<l.length by omega)]
def RdAt {T:Type} (t:TypeId) (sz:Nat) (enc:T→List Value) (b:Nat) (s:Value) (l:List T) (w:World):Prop:=w.heap[b]? = some (.cells #[s] t (0,0))∧rdEOK (hp w) sz enc s l
end Go.SL
namespace Go.SL
theorem drop_cons {T:Type} {L:List T} {k:Nat} {p:T} (h:L[k]? = some p):L.drop k=p::L.drop (k+1):=by
  obtain ⟨h1,rfl⟩:=List.getElem?_eq_some_iff.1 h
  exact List.drop_eq_getElem_cons h1
theorem down_x {T U:Type} {l:List T} {f:Int × T→U} {k:Nat} {z:U} (h:((downL l).map f)[k]? = some z):∃ p,(downL l)[k]? = some p∧f p=z:=by
  rw [List.getElem?_map] at h
  exact Option.map_eq_some_iff.1 h
end Go.SL
namespace Go.SL
open Go
theorem OQ.cutK {P:Program} {ops:Array Oper} {C:World→Prop} {K K':Act→Prop}:∀ (k:Nat) {lo:List Oper} {a:Act},OQ P ops C K' (lo.take k) a→(∀ a',K' a'→OQ P ops C K (lo.drop k) a')→OQ P ops C K lo a
  | 0,lo,a,h,h2=>h2 a h
  | k+1,[],a,h,h2=>h2 a h
  | k+1,o::t,a,h,h2=>by
    unfold OQ at *
    simp only [List.take_succ_cons,List.drop_succ_cons] at h h2
    unfold wpQuiet at h ⊢
    split at h
    · rename_i hw
      rw [if_pos hw]
      obtain ⟨u,h3,h4⟩:=h
      exact ⟨u,h3,OQ.cutK k h4 h2⟩
    · rename_i hw
      rw [if_neg hw]
      exact OQ.cutK k h h2
end Go.SL
namespace Go.SL
open Go
section
variable {P:Program} {ops:Array Oper} {a:Act} {w0:World} {n:Nat} {ds:List Deferred} {L:List (Nat × Value)}
  {d:Nat} {op:Op} {ty:TypeId} {pos:String} {af:Array Edge} {v:Value} {X:Nat→Prop} {B M:List Asr} {f:FuncId} {args:Array Value}
end
end Go.SL
