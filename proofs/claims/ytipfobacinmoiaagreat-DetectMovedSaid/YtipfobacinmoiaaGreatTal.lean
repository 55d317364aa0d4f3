/- Part of a proof: laws and walks. -/
import Derived.Test.YtipfobacinmoiaaGreatTac
import Derived.Test.YtipfobacinmoiaaGreatTag
import Derived.Test.YtipfobacinmoiaaGreatTab
import Derived.Test.YtipfobacinmoiaaGreatTah
import Derived.Test.YtipfobacinmoiaaGreatTak
set_option linter.unusedVariables false
set_option linter.unusedSimpArgs false
namespace Go.SL
open Go
def fps (M:List Asr):Nat→Prop:=fun b=>∃ p ∈ M,p.fp b
def Lt (w:World) (X:Nat→Prop) (p:Asr):Prop:=p.holds (hp w)∧∀ b,p.fp b→b<w.heap.size∧¬ X b
section
variable {h:Hp} {m:Nat} {old:Nat→Prop} {w w0 w1 w2 w':World} {X X':Nat→Prop} {B M N K:List Asr} {p q:Asr} {i j e:Nat} {v:Value} {x:List Int} {vs:List Value} {xss:List (List Int)}
theorem Sep.aE0 {M0:List Asr}:∀ {M:List Asr},(∀ p ∈ M,p ∈ M0)→Sep h m old M→Sep h m (fun b=>fps M0 b∨m≤b) M
  | [],_,_=>trivial
  | p::t,hs,hm=>⟨⟨hm.1.1,fun b hb=>⟨(hm.1.2.1 b hb).1,.inl ⟨p,hs p List.mem_cons_self,hb⟩⟩,hm.1.2.2⟩,Sep.aE0 (fun q hq=>hs q (List.mem_cons_of_mem _ hq)) hm.2⟩
theorem Sep.aDd:∀ {M:List Asr},Sep h m old (M++K)→∀ q ∈ M,∀ p ∈ K,∀ b,q.fp b→¬ p.fp b
  | [],_,q,hq,_,_,_,_=>by cases hq
  | r::t,hm,q,hq,p,hp,b,hb=>by
    rcases List.mem_cons.1 hq with rfl | hq
    · exact hm.1.2.2 p (List.mem_append_right _ hp) b hb
    · exact Sep.aDd hm.2 q hq p hp b hb
theorem St.lt (hS:St w0 w X B M) (hp:p ∈ B):Lt w X p:=by
  have h:=hS.bor p hp
  refine ⟨p.loc _ _ (fun b hb=>hS.old b (h.2 b hb).1 (h.2 b hb).2) h.1,fun b hb=>⟨Nat.lt_of_lt_of_le (h.2 b hb).1 hS.size,(h.2 b hb).2⟩⟩
theorem St.focus (hS:St w0 w X B (M++K)):St w w (fps M) (K++B) M:=by
  refine ⟨rfl,rfl,rfl,Nat.le_refl _,fun _ _ _=>rfl,Sep.aE0 (fun p hp=>hp) (hS.sep.sub (List.sublist_append_left _ _)),fun p hp=>?_⟩
  rcases List.mem_append.1 hp with hp | hp
  · obtain ⟨k,hk⟩:=List.getElem?_of_mem (List.mem_append_right M hp)
    have h1:=hS.sep.get hk
    exact ⟨h1.1,fun b hb=>⟨(h1.2 b hb).1,fun ⟨q,hq,hqb⟩=>Sep.aDd hS.sep q hq p hp b hqb hb⟩⟩
  · have h1:=hS.lt hp
    refine ⟨h1.1,fun b hb=>⟨(h1.2 b hb).1,fun ⟨q,hq,hqb⟩=>?_⟩⟩
    obtain ⟨k,hk⟩:=List.getElem?_of_mem (List.mem_append_left K hq)
    rcases ((hS.sep.get hk).2 b hqb).2 with h2 | h2
    · exact (hS.bor p hp).2 b hb |>.2 h2
    · have:=((hS.bor p hp).2 b hb).1; omega
theorem St.back {B':List Asr} (hS:St w0 w X B (M++K)) (hc:St w w' (fps M) B' N):St w0 w' X B (N++K):=by
  refine hS.aDP (X':=fps M) hc.noB (fun b ⟨p,hp,hb⟩=>⟨p,List.mem_append_left _ hp,hb⟩) (List.sublist_append_right _ _) (fun q hq b hb ⟨p,hp,hpb⟩=>Sep.aDd hS.sep p hp q hq b hpb hb)
theorem St.aE3 (hS:St w w X B M) (h:∀ p ∈ N,Lt w X p):St w w X N M:=⟨hS.os,hS.tape,hS.output,hS.size,hS.old,hS.sep,h⟩
theorem Lt.at (hS:St w w X B M) (hi:B[i]? = some p):Lt w X p:=hS.lt (List.mem_of_getElem? hi)
theorem Lt.inn (hS:St w w X B M) (hi:B[i]? = some (SL.inn vs xss)) (hj:j<vs.length):Lt w X (rdv 1 (vs.getD j undef) (xss.getD j []).length (ints (xss.getD j []))):=by
  have h:=Lt.at hS hi
  exact ⟨h.1.2 j hj,fun b hb=>h.2 b ⟨j,hj,hb.1,hb.2⟩⟩
theorem Lt.sl {n:Nat} {xs:List Value} {sz:Nat} (hS:St w w X B M) (hi:B[i]? = some (SL.sl e sz v n xs)):Lt w X (rdv sz v n xs):=by
  have h:=Lt.at hS hi
  exact ⟨dZ.rd h.1,fun b hb=>h.2 b hb.2⟩
end
def IterM (P:Program) (gf:FuncId) (lb:Array Value) (e:TypeId) (xss:List (List Int)) (BL:List Asr):Prop :=
  ∀ (l:Nat) (γ:Type) (U:γ→Asr) (Fc:Nat→γ→Prop) (g:γ) (w1:World),Fc 0 g→St w1 w1 (fps [U g]) BL [U g] →
    (∀ k x,xss[k]? = some x→∀ g' v w,Fc k g'→St w1 w (fps [U g]) [] [sl e 1 v x.length (ints x),U g'] →
      YieldAt (FW none) 0 P l #[v] w (fun e' w'=>e'=.returned (.bool true)∧∃ g'',Fc (k+1) g''∧St w w' (fps [sl e 1 v x.length (ints x),U g']) [] [U g''])) →
    Calls P gf (#[.func (.yield l) #[] #[]]++lb) w1 (fun e' w'=>(∃ v,e'=.returned v)∧∃ g',Fc xss.length g'∧St w1 w' (fps [U g]) [] [U g'])
section
variable {P:Program} {Q:Exit→Act→World→Prop} {a:Act} {w w0 w':World} {n:Nat} {ds:List Deferred} {L:List (Nat × Value)} {X:Nat→Prop} {B M:List Asr}
theorem W.qJ {G:Type} {g:Operand} {p:Nat} {assign body:Code} {xss:List (List Int)} {e:TypeId} {lb:Array Value} {gf:FuncId} (L':Value→List (Nat × Value)) (UU:G→List Asr) (K BL:List Asr) (Fc:Nat→G→Prop) (g0:G)
    (hf:Fr a n ds L) (hp:Nat.blt p n=true) (hg:ev L g=some (.func (.func gf) #[] lb)) (eg:aX P gf=true) (hS:St w0 w X B (UU g0++K)) (hF:Fc 0 g0)
    (hit:IterM P gf lb e xss BL) (hBL:∀ w1 X1 M1,St w1 w1 X1 (K++B) M1→∀ p ∈ BL,Lt w1 X1 p)
    (hassign:∀ l x w a',Fr a' n [] ((p,x)::L)→W (some l) P assign (fun e a'' w''=>e=.normal∧Fr a'' n [] (L' x)∧w''=w) a' w)
    (hbody:∀ l o D k x v g wr,xss[k]? = some x→Fc k g→St w0 wr X B ((sl e 1 v x.length (ints x)::pt l o::pt D (.deferred (some []))::UU g)++K) →
      St wr wr (fps (sl e 1 v x.length (ints x)::pt l o::pt D (.deferred (some []))::UU g)) (K++B) (sl e 1 v x.length (ints x)::pt l o::pt D (.deferred (some []))::UU g)→∀ a',Fr a' n [] (L' v) →
      W (some l) P body (fun e' a'' w''=>e'=.normal∧∃ g',Fc (k+1) g'∧St wr w'' (fps (sl e 1 v x.length (ints x)::pt l o::pt D (.deferred (some []))::UU g)) [] (pt l o::pt D (.deferred (some []))::UU g')) a' wr)
    (hdone:∀ D g a' w,Fc xss.length g→St w0 w X B (pt D (.deferred (some []))::(UU g++K))→Fr a' n ({ target:=.collected D,args:=#[] }::ds) L→Q .normal a' w) :
    W none P (.rangeFunc g #[p] assign body) Q a w:=by
  refine wpIn_rangeFunc ?_
  intro fn hfn
  obtain ⟨rec,hrec⟩:∃ rec:LoopState→Option Code→Loop,rec=fun st pe=>{ state:=st,pending:=pe,fn,tmps:=a.tmps,params:=#[p],assign,body,defers:=w.heap.size }:=⟨_,rfl⟩
  obtain ⟨W1,hW1⟩:∃ W1,(w.alloc (.deferred (some []))).alloc (.loop (rec .ready none))=W1:=⟨_,rfl⟩
  have hS1:St w0 W1 X B (pt (w.heap.size+1) (.loop (rec .ready none))::pt w.heap.size (.deferred (some []))::(UU g0++K)):=by
    have:=(hS.alloc (.deferred (some []))).alloc (.loop (rec .ready none))
    rw [hW1,World.size_alloc] at this
    exact this
  refine ⟨w.heap.size+1,[{ target:=.collected w.heap.size,args:=#[] }],W1,{ target:=.fn (.func gf) lb,args:=#[.func (.yield (w.heap.size+1)) #[] #[]] },W1,gf,
    #[.func (.yield (w.heap.size+1)) #[] #[]]++lb,W1,?_,?_,?_,?_,fun h=>by simp [FW] at h,?_⟩
  · rw [← hW1,hrec]; exact run_enterLoop_outer _ _ _ _ _
  · simp only [resolve,hf.eval hg]
    simp [go_sem]
  · intro f' hf'; trivial
  · simp [invoke,go_sem,iO eg]
  · generalize hl:w.heap.size+1=l at hS1 ⊢
    generalize hD:w.heap.size=D at hS1 hl ⊢ hrec
    have hrec':∀ st pe,rec st pe={ state:=st,pending:=pe,fn,tmps:=a.tmps,params:=#[p],assign,body,defers:=D }:=fun st pe=>by rw [hrec]
    clear hrec hW1
    obtain ⟨V,hV⟩:∃ V:G→List Asr,V=fun g=>pt l (.loop (rec .ready none))::pt D (.deferred (some []))::UU g:=⟨_,rfl⟩
    have hS2:St w0 W1 X B ([dH (V g0)]++K):=St.kG (N:=[]) (by rw [hV]; exact hS1)
    have hst:=(St.focus hS2).aE3 (hBL _ _ _ (St.focus hS2))
    refine fq.2 ((hit l G (fun g=>dH (V g)) Fc g0 W1 hF hst ?_).mono ?_)
    · rintro k x hx g' v wr hFk hR
      have hO:St w0 wr X B ((sl e 1 v x.length (ints x)::V g')++K):=St.mM (N:=[sl e 1 v x.length (ints x)]) (hS2.back hR)
      have hlr:wr.heap[l]? = some (.loop (rec .ready none)):=by rw [hV] at hO; exact hO.at_ (i:=1) rfl
      have hy:=run_yield (P:=P) (args:=#[v]) hlr (by rw [hrec']; simp)
      refine ⟨fn,_,assign,body,by rw [hrec'] at hy; exact hy,?_⟩
      refine roundIn_of_wpIn (F:=FW none) hfn ?_
      have hfr:Fr { tmps:=(#[p].zip #[v]).foldl (fun t (p,v)=>t.setIfInBounds p v) a.tmps,defers:=[] } n [] ((p,v)::L):=by
        have:=Fr.put (a:={ a with defers:=[] }) (ds:=[]) ⟨hf.size,rfl,hf.get⟩ hp v
        have e:(#[p].zip #[v]).foldl (fun t (p,v)=>t.setIfInBounds p v) a.tmps=a.tmps.setIfInBounds p v:=by simp
        rw [e]
        exact this
      have hW:=hassign l v wr _ hfr
      refine wpIn_mono (F:=FW (some l)) hW ?_
      rintro e1 a1 w1 ⟨rfl,hfr1,rfl⟩
      refine ⟨_,run_beginRound hlr (by rw [hrec']),?_⟩
      have hO2:St w0 (w1.putObj l (.loop { rec .ready none with state:=.busy })) X B ((sl e 1 v x.length (ints x)::pt l (.loop { rec .ready none with state:=.busy })::pt D (.deferred (some []))::UU g')++K):=by
        rw [hV] at hO; exact hO.vO (j:=1) rfl (.loop { rec .ready none with state:=.busy })
      refine wpIn_mono (F:=FW (some l)) (hbody l _ D k x v g' _ hx hFk hO2 hO2.focus a1 hfr1) ?_
      rintro e2 a2 w2 ⟨rfl,g'',h4,h5⟩
      have hl2:w2.heap[l]? = some (.loop { rec .ready none with state:=.busy }):=h5.at_ (i:=0) rfl
      refine ⟨_,_,run_endRound none hl2,rfl,g'',h4,?_⟩
      have h6:=h5.vO (j:=0) rfl (.loop (rec .ready none))
      have h7:St w1 w1 (fps [sl e 1 v x.length (ints x),dH (V g')]) [] ((sl e 1 v x.length (ints x)::V g')):=by
        have h8:St w0 w1 X B ([sl e 1 v x.length (ints x),dH (V g')]++K):=hS2.back hR
        have h9:=(St.mM (N:=[sl e 1 v x.length (ints x)]) (M:=[]) h8.focus).noB
        simpa using h9
      have h8:St w1 (w1.putObj l (.loop { rec .ready none with state:=.busy })) (fps [sl e 1 v x.length (ints x),dH (V g')]) [] ((sl e 1 v x.length (ints x)::pt l (.loop { rec .ready none with state:=.busy })::pt D (.deferred (some []))::UU g')++[]):=by
        rw [List.append_nil]; rw [hV] at h7 ⊢; exact h7.vO (j:=1) rfl (.loop { rec .ready none with state:=.busy })
      have h9:=h8.back h6
      rw [List.append_nil] at h9
      have hV2:V g''=pt l (.loop (rec .ready none))::pt D (.deferred (some []))::UU g'':=by rw [hV]
      have h10:St w1 (w2.putObj l (.loop (rec .ready none))) (fps [sl e 1 v x.length (ints x),dH (V g')]) [] [dH (V g'')]:=St.kG (N:=[]) (M:=[]) (by rw [hV2]; simpa using h9)
      simpa [hrec'] using h10
    · rintro e1 w2 ⟨⟨v,rfl⟩,g1,h1,h2⟩
      have h3:St w0 w2 X B (V g1++K):=St.mM (N:=[]) (hS2.back h2)
      rw [hV] at h3
      have hl2:w2.heap[l]? = some (.loop (rec .ready none)):=h3.at_ (i:=0) rfl
      refine ⟨none,_,by have:=run_endLoop (P:=P) hl2 (by rw [hrec']; simp); rw [hrec'] at this; exact this,?_⟩
      have h4:=h3.vO (j:=0) rfl (.loop { rec .ready none with state:=.exhausted })
      refine hdone D g1 _ _ h1 (by have:=h4.sub (List.sublist_cons_self _ _); simpa [hrec'] using this) ⟨hf.size,by show _::a.defers=_; rw [hf.defers],hf.get⟩
end
end Go.SL

namespace Go.SL
open Go
section
variable {w0 w:World} {X:Nat→Prop} {B M N l:List Asr} {p:Asr} {s e:Nat} {vs:List Value} {xss:List (List Int)} {v:Value} {x:List Int}
theorem sI {α:Type}:∀ {l:List α} {s:Nat} (h:s<l.length),l.Perm (l[s]::l.eraseIdx s)
  | a::t,0,h=>List.Perm.refl _
  | a::t,s+1,h=>by
    have ih:=sI (l:=t) (s:=s) (by simpa using h)
    exact (ih.cons a).trans (List.Perm.swap _ _ _)
theorem vF {α:Type} {p:α}:∀ {l:List α} {s:Nat} (h:s<l.length),(p::l.eraseIdx s).Perm (l.set s p)
  | a::t,0,h=>List.Perm.refl _
  | a::t,s+1,h=>by
    have ih:=vF (p:=p) (l:=t) (s:=s) (by simpa using h)
    exact (List.Perm.swap _ _ _).trans (ih.cons a)
theorem St.aCf (hS:St w0 w X B (N++dH l::M)) (hs:s<l.length):St w0 w X B (N++l[s]::dH (l.eraseIdx s)::M):=by
  have h1:=hS.uI (i:=N.length) (l:=l) (by simp) (sI hs)
  refine St.aCs ?_
  simpa using h1
theorem St.aDq (hS:St w0 w X B (N++p::dH (l.eraseIdx s)::M)) (hs:s<l.length):St w0 w X B (N++dH (l.set s p)::M):=by
  have h1:=hS.nA.uI (i:=N.length) (l:=p::l.eraseIdx s) (by simp) (vF hs)
  simpa using h1
def dR (e:TypeId) (vs:List Value) (xss:List (List Int)):List Asr:=(List.range vs.length).map fun (i:Nat)=>sl e 1 (vs.getD i undef) (xss.getD i []).length (ints (xss.getD i []))
theorem qP:(dR e vs xss).length=vs.length:=by unfold dR; simp
theorem aB4 (h:s<vs.length):(dR e vs xss)[s]'(by rw [qP]; exact h)=sl e 1 (vs.getD s undef) (xss.getD s []).length (ints (xss.getD s [])):=by
  unfold dR; simp
theorem aBX (h:s<vs.length) (hx:vs.length=xss.length):(dR e vs xss).set s (sl e 1 v x.length (ints x))=dR e (vs.set s v) (xss.set s x):=by
  unfold dR
  apply List.ext_getElem
  · simp
  intro i h1 h2
  simp only [List.length_set,List.length_map,List.length_range] at h1 h2
  simp only [List.getElem_set,List.getElem_map,List.getElem_range,List.getD_eq_getElem?_getD,List.getElem?_set]
  by_cases hi:s=i
  · subst hi
    simp [h,show s<xss.length by omega]
  · simp [hi]
theorem St.aCq (hS:St w0 w X B (N++dH (dR e vs xss)::M)) (hs:s<vs.length):St w0 w X B (N++SL.sl e 1 (vs.getD s undef) (xss.getD s []).length (ints (xss.getD s []))::dH ((dR e vs xss).eraseIdx s)::M):=by
  have h:=hS.aCf (s:=s) (by rw [qP]; exact hs)
  rw [aB4 hs] at h
  exact h
theorem St.aDk (hS:St w0 w X B (N++SL.sl e 1 v x.length (ints x)::dH ((dR e vs xss).eraseIdx s)::M)) (hs:s<vs.length) (hx:vs.length=xss.length):St w0 w X B (N++dH (dR e (vs.set s v) (xss.set s x))::M):=by
  have h:=hS.aDq (by rw [qP]; exact hs)
  rw [aBX hs hx] at h
  exact h
theorem uh (n:Nat):dR e (List.replicate n (.slice none 0 0)) (List.replicate n [])=List.replicate n (sl e 1 (.slice none 0 0) 0 []):=by
  apply List.ext_getElem
  · simp [dR]
  intro i h1 h2
  simp only [List.length_replicate] at h2
  unfold dR
  simp [List.getD_eq_getElem?_getD,h2,ints]
theorem St.wC (hS:St w0 w X B M) (e:TypeId):∀ n,St w0 w X B (dH (dR e (List.replicate n (.slice none 0 0)) (List.replicate n []))::M)
  | 0=>by rw [uh]; exact St.kG (N:=[]) hS
  | n+1=>by
    have h:=St.wC hS e n
    rw [uh] at h ⊢
    exact St.nA (N:=[]) (h.jN e 1)
theorem St.aBJ {j:Nat} (hS:St w0 w X B M) (hi:M[j]? = some (dH (dR e vs xss))) (hx:vs.length=xss.length):St w0 w X B (M.set j (inn vs xss)):=by
  refine hS.conv hi (fun hh=>⟨hx,fun i hi=>?_⟩) (fun b ⟨i,hi,h0,hb⟩=>⟨_,List.mem_map.2 ⟨i,List.mem_range.2 hi,rfl⟩,hb⟩)
  exact dZ.rd (hh.1 _ (List.mem_map.2 ⟨i,List.mem_range.2 hi,rfl⟩))
end
end Go.SL

namespace Go.SL
open Go
section
variable {w0 w:World} {X:Nat→Prop} {B M:List Asr} {us vs:List Value} {xss yss:List (List Int)} {h:Hp}
theorem bS.one (hh:bS h vs xss):bW vs=true:=by
  have:∀ (l:List Value),(∀ u ∈ l,bW [u]=true)→bW l=true:=by
    intro l
    induction l with
    | nil=>intro _; rfl
    | cons u t ih=>exact fun hu=>bM (hu u List.mem_cons_self) (ih fun v hv=>hu v (List.mem_cons_of_mem _ hv))
  refine this vs fun u hu=>?_
  obtain ⟨i,hi,rfl⟩:=List.getElem_of_mem hu
  have h1:=hh.2 i hi
  rw [List.getD_eq_getElem?_getD,List.getElem?_eq_getElem hi] at h1
  exact (aQ.cells h1).2
theorem bS.app (h1:bS h us xss) (h2:bS h vs yss):bS h (us++vs) (xss++yss):=by
  have l1:=h1.1
  have l2:=h2.1
  refine ⟨by simp [l1,l2],fun i hi=>?_⟩
  by_cases hlt:i<us.length
  · have:=h1.2 i hlt
    simpa [List.getD_eq_getElem?_getD,List.getElem?_append_left hlt,List.getElem?_append_left (show i<xss.length by omega)] using this
  · have hi2:i-us.length<vs.length:=by simp at hi; omega
    have:=h2.2 (i-us.length) hi2
    simpa [List.getD_eq_getElem?_getD,List.getElem?_append_right (show us.length≤i by omega),List.getElem?_append_right (show xss.length≤i by omega),l1] using this
end
def fO (v:Value) (l:List Int) (k:Nat):Value:=vsub 1 v (k:Int) (l.length:Int)
section
variable {h:Hp} {v:Value} {l:List Int} {k:Nat} {P:Program} {w:World} {n:Nat} {ds:List Deferred} {L:List (Nat × Value)} {ty t e:TypeId} {x lo:Operand} {kd:IntKind}
theorem r9 (l:List Int):encs (fun x:Int=>[Value.int .i64 x]) l=ints l:=by
  unfold encs ints
  induction l with
  | nil=>rfl
  | cons a t ih=>simp only [List.flatMap_cons,List.map_cons,ih]; rfl
theorem xK (hr:aQ h 1 v l.length (ints l)) (hf:vfit v):iy h 1 (fun x:Int=>[Value.int .i64 x]) v l:=⟨by rw [r9]; exact hr,hf⟩
theorem rY:lsub l (k:Int) (l.length:Int)=l.drop k:=by unfold lsub; simp
theorem aQ.fO (hr:aQ h 1 v l.length (ints l)) (hf:vfit v) (hk:k≤l.length):aQ h 1 (SL.fO v l k) (l.drop k).length (ints (l.drop k))∧vfit (SL.fO v l k):=by
  have h1:=(xK hr hf).sub (a:=(k:Int)) (b:=(l.length:Int)) (fun _=>rfl) ⟨by omega,by omega,by omega⟩
  rw [rY] at h1
  refine ⟨?_,h1.2⟩
  have:=h1.1
  rwa [r9] at this
theorem aA.aE1 (he:eU P t=some e) (hs:cO P e=some 1) (hx:ev L x=some v) (hh:ev L lo=some (.int kd (k:Int))) (hr:aQ (hp w) 1 v l.length (ints l)) (hf:vfit v) (hk:k≤l.length) :
    aA P n ds L (.slice t x (some lo) none none) ty w (SL.fO v l k) w :=
  aA.aDw (enc:=fun x:Int=>[Value.int .i64 x]) he hs hx hh (xK hr hf) ⟨by omega,by omega,by omega⟩
end
section
variable {P:Program} {w:World} {n k:Nat} {ds:List Deferred} {L:List (Nat × Value)} {ty t t':TypeId} {x y:Operand}
theorem aA.aEn (hx:ev L x=some (.int .i64 (k:Int))) (hy:ev L y=some (.int .i64 1)) (h:k<9223372036854775807):aA P n ds L (.binOp .add t x y t') ty w (.int .i64 ((k+1:Nat):Int)) w:=by
  have h1:=aA.ak (P:=P) (w:=w) (n:=n) (ds:=ds) (t:=t) (t':=t') (ty:=ty) hx hy (by omega)
  rwa [show (k:Int)+1=((k+1:Nat):Int) from rfl] at h1
end
end Go.SL

namespace Det
theorem jT {l:List Int} {n m:Nat} (hl:l.Pairwise (·<·)) (hr:∀ x ∈ l,0≤x∧x<(n:Int)) (h:n≤m):l.length≤m:=by
  have h2:=jZ (m:=(List.range n).map fun i:Nat=>(i:Int)) (iR hl) fun x hx=>List.mem_map.2 ⟨x.toNat,List.mem_range.2 (by have:=hr x hx; omega),by have:=hr x hx; omega⟩
  simp at h2
  omega
section
variable {P:List Int} {W H:Nat} {least lv:Int} {px:List Int}
theorem lF:(∀ x ∈ bN P W H least px lv,∀ t ∈ x,0≤t∧t<((W*H:Nat):Int))∧(bN P W H least px lv).Pairwise (fun a b=>∀ t ∈ a,t ∉ b):=by
  have hpo:=gq (W:=W) (H:=H) (least:=least) (bs:=inM P (W*H) px lv) iB (W*H)
  refine ⟨fun x hx t ht=>?_,hpo.apart⟩
  obtain ⟨f,_,h3,h4,h5⟩:=(hpo.mem x).1 hx
  exact fe (h4▸ht)
theorem aAz:∀ x ∈ bN P W H least px lv,x≠[]:=fun x hx=>by
  have hpo:=gq (W:=W) (H:=H) (least:=least) (bs:=inM P (W*H) px lv) iB (W*H)
  obtain ⟨f,_,h3,h4,h5⟩:=(hpo.mem x).1 hx
  rw [h4]
  exact (lX iB h3.1).ne
theorem vQ:(bN P W H least px lv).length≤W*H:=lH ⟨aAz,lF.2⟩ lF.1
theorem aCC (h:SetOK W H px) (hleast:1≤least) (h2:¬ (bN P W H least px lv).length<2):∀ i ∈ px,0≤ow (kT P W H px (bN P W H least px lv)) i∧ow (kT P W H px (bN P W H least px lv)) i<((bN P W H least px lv).length:Int):=fun i hi=>by
  obtain ⟨x,hx,hix⟩:=(sP h hleast h2).2.2 i hi
  unfold dM at hx
  obtain ⟨s,hs,rfl⟩:=List.mem_map.1 hx
  have h3:=(List.mem_filter.1 hix).2
  rw [decide_eq_true_eq] at h3
  rw [List.mem_range] at hs
  omega
theorem aBn {seeds:List (List Int)}:(dM P W H px seeds).length=seeds.length:=by unfold dM; simp
theorem vN {t:List Int} (h:(bN P W H least px lv).length<2):bA P W H least (lv::t) px=bA P W H least t px:=by
  conv=>lhs; unfold bA
  rw [if_pos h]
theorem rA {t:List Int} (h:¬ (bN P W H least px lv).length<2):bA P W H least (lv::t) px=(dM P W H px (bN P W H least px lv)).flatMap fun s=>bA P W H least t s:=by
  conv=>lhs; unfold bA
  rw [if_neg h]
theorem xU {l:List Int} {k:Nat} (h:k<l.length):l.drop k=l.getD k 0::l.drop (k+1):=by
  rw [List.getD_eq_getElem?_getD,List.getElem?_eq_getElem h]; exact List.drop_eq_getElem_cons h
theorem ru {α:Type} {l:List (List Int)} {f:List Int→List α} {k:Nat} (h:k<l.length):(l.take (k+1)).flatMap f=(l.take k).flatMap f++f (l.getD k []):=by
  rw [List.getD_eq_getElem?_getD,List.getElem?_eq_getElem h,List.take_succ_eq_append_getElem h,List.flatMap_append]; simp
theorem aBY {l:List Int} {k:Nat} (hl:l.Pairwise (·<·)) (hk:k<l.length):l.getD k 0 ∉ l.take k:=fun hm=>by
  obtain ⟨i,hi,he⟩:=List.getElem_of_mem hm
  simp only [List.length_take] at hi
  rw [List.getElem_take] at he
  have:=List.pairwise_iff_getElem.1 hl i k (by omega) hk (by omega)
  rw [List.getD_eq_getElem?_getD,List.getElem?_eq_getElem hk,Option.getD_some] at he
  omega
theorem o5 {levels:List Int} (hleast:1≤least) (h:SetOK W H px):(bA P W H least levels px).length≤W*H :=
  lH (mI hleast levels h) fun s hs x hx=>((bn hleast levels px h).1 s hs).1.rng x hx
theorem aAm {levels:List Int} {l:List (List Int)} {k:Nat} (hleast:1≤least) (hl:∀ s ∈ l,SetOK W H s) (ha:l.Pairwise (fun a b=>∀ t ∈ a,t ∉ b)) :
    ((l.take k).flatMap (bA P W H least levels)).length≤W*H:=by
  refine lH ⟨fun x hx=>?_,?_⟩ fun s hs x hx=>?_
  · obtain ⟨s,hs,hx⟩:=List.mem_flatMap.1 hx
    exact ((bn hleast levels s (hl s (List.mem_of_mem_take hs))).1 x hx).1.ne
  · rw [List.pairwise_flatMap]
    refine ⟨fun s hs=>(bn hleast levels s (hl s (List.mem_of_mem_take hs))).2.1,?_⟩
    refine List.Pairwise.imp_of_mem ?_ (ha.sublist (List.take_sublist _ _))
    intro a b ha hb hab x hx y hy q hq hq2
    exact hab q (((bn hleast levels a (hl a (List.mem_of_mem_take ha))).1 x hx).2.2 q hq) (((bn hleast levels b (hl b (List.mem_of_mem_take hb))).1 y hy).2.2 q hq2)
  · obtain ⟨t,ht,hs⟩:=List.mem_flatMap.1 hs
    exact ((bn hleast levels t (hl t (List.mem_of_mem_take ht))).1 s hs).1.rng x hx
end
section
variable {P l:List Int} {q:Int→Bool} {k:Nat} {best:Int}
theorem jc (hk:k<l.length) (h:iM P l q k best) (hq:q (l.getD k 0)=true) (h0:0≤l.getD k 0) (hb:best<0∨brt P (l.getD k 0) best):iM P l q (k+1) (l.getD k 0):=by
  refine .inr ⟨h0,?_⟩
  rw [jg hk]
  refine ⟨List.mem_append_right _ List.mem_cons_self,hq,fun j hj hqj=>?_⟩
  rcases List.mem_append.1 hj with hj | hj
  · right
    rcases h with ⟨h1,h2⟩ | ⟨h1,h2⟩
    · obtain ⟨m,hm,rfl⟩:=(aBF (by omega)).1 hj
      rw [h2 m hm] at hqj; cases hqj
    · rcases hb with hb | hb
      · omega
      · rcases h2.2.2 j hj hqj with e | h4
        · rw [e]; exact hb
        · exact nL hb h4
  · exact .inl (List.mem_singleton.1 hj)
theorem mr (ho:l.Pairwise (·<·)) (hk:k<l.length) (h:iM P l q k best) (hn:¬ (q (l.getD k 0)=true∧(best<0∨brt P (l.getD k 0) best))):iM P l q (k+1) best:=by
  cases hq:q (l.getD k 0) with
  | false=>exact aAV hk h hq
  | true =>
    refine zR ho hk h fun hb=>hn ⟨hq,?_⟩
    rcases hb with hb | hb
    · exact .inl hb
    · exact .inr (.inl hb)
theorem qw (h:iM P l q l.length best) (hb:best<0):∀ j ∈ l,q j=false:=by
  rcases pR h with ⟨_,h2⟩ | ⟨h1,_⟩
  · exact h2
  · omega
theorem aBD (h:iM P l q l.length best) (hb:0≤best):best ∈ l∧q best=true:=by
  rcases pR h with ⟨h1,_⟩ | ⟨_,h2⟩
  · omega
  · exact ⟨h2.1,h2.2.1⟩
end
section
variable {P l ord o:List Int} {W H:Nat} {j:Nat} {best:Int}
theorem zY (h:ord=l.mergeSort fun x y=>!ltP P y x) (hl:l.Pairwise (·<·)):ord.Perm l∧ord.Pairwise (brt P):=by
  subst h
  have hp:=List.mergeSort_perm l fun x y=>!ltP P y x
  refine ⟨hp,?_⟩
  have h1:=List.pairwise_mergeSort (le:=fun x y=>!ltP P y x) (fun a b c h1 h2=>by
      simp only [Bool.not_eq_true'] at *
      exact (uJ P).ntrans _ _ _ h2 h1) (fun a b=>by
      cases ha:ltP P b a with
      | false=>rfl
      | true =>
        cases hb:ltP P a b with
        | false=>rfl
        | true=>have:=(uJ P).trans _ _ _ ha hb; rw [(uJ P).irrefl] at this; cases this) l
  have h2:(l.mergeSort fun x y=>!ltP P y x).Nodup:=(hp.nodup_iff).2 (iR hl)
  rw [List.nodup_iff_pairwise_ne] at h2
  refine (h1.and h2).imp fun {a b} h=>?_
  have h3:=h.1
  rw [Bool.not_eq_true',sQ] at h3
  have h4:=h.2
  rcases rC (P:=P) h4 with h5 | h5
  · exact h5
  · exact absurd h5 h3
theorem wB (hp:ord.Perm l) (ho:ord.Pairwise (brt P)) (hj:j<ord.length) (hq:iE W H o (ord.getD j 0)=true) (hn:∀ q,q<j→iE W H o (ord.getD q 0)=false):bq P W H l o=ord.getD j 0:=by
  have h1:=wu ho hj hq hn
  unfold bq
  refine eO ⟨hp.mem_iff.1 h1.1,h1.2.1,fun i hi hqi=>h1.2.2 i (hp.mem_iff.2 hi) hqi⟩
theorem zH (hp:ord.Perm l) (hn:∀ q,q<ord.length→iE W H o (ord.getD q 0)=false):bq P W H l o=-1:=by
  unfold bq
  refine gG fun i hi=>?_
  obtain ⟨q,hq,rfl⟩:=List.getElem_of_mem (hp.mem_iff.2 hi)
  have:=hn q hq
  rwa [List.getD_eq_getElem?_getD,List.getElem?_eq_getElem hq] at this
theorem zh {i:Nat} (h:ow o (i:Int)<0) (hb:best ∈ nb W H i) (hq:oG o best=true):iE W H o (i:Int)=true:=by
  unfold iE
  rw [Int.toNat_natCast,decide_eq_true h,Bool.true_and,List.any_eq_true]
  exact ⟨best,hb,hq⟩
theorem q9 {i:Int} (h:0≤ow o i):iE W H o i=false:=by
  unfold iE; rw [decide_eq_false (by omega),Bool.false_and]
theorem rO {i:Nat} (h:∀ j ∈ nb W H i,oG o j=false):iE W H o (i:Int)=false:=by
  unfold iE
  rw [Int.toNat_natCast,Bool.and_eq_false_iff]
  right
  rw [List.any_eq_false]
  exact fun x hx=>by rw [h x hx]; decide
end
end Det

set_option maxHeartbeats 1000000
set_option maxRecDepth 8000
namespace Go.Proofs.YtipfobacinmoiaaGreat
open Go Go.SL Go.Shelf Go.RowKit Go.Maps
def DivC (fW fH:Nat) (least:Int) (vP:Value) (zs lv:List Int):Prop:=∀ (vL vv:Value) (l:List Int) (w0:World),Det.SetOK fW fH l→aQ (hp w0) 1 vP zs.length (ints zs)→aQ (hp w0) 1 vL l.length (ints l)→aQ (hp w0) 1 vv lv.length (ints lv)→vfit vv →
    Ret Tryz.prog 35 #[(fG fW fH vP),vL,vv,iV least] w0 (G:=Value × List Value) (fun g=>g.1) (fun g w=>St w0 w noX [] [sl 26 1 g.1 g.2.length g.2,inn g.2 (Det.bA zs fW fH least lv l)])
end Go.Proofs.YtipfobacinmoiaaGreat

namespace Go.SL
open Go
def jA (vs:List Value) (is:List Nat):List Value:=is.map fun i=>vs.getD i undef
def jS (xss:List (List Int)) (is:List Nat):List (List Int):=is.map fun i=>xss.getD i []
section
variable {vs:List Value} {xss:List (List Int)} {is:List Nat} {i k n:Nat} {w0 w:World} {X:Nat→Prop} {B M:List Asr} {h:Hp}
theorem lG:(jA vs is).length=is.length:=by unfold jA; simp
theorem zT:(jS xss is).length=is.length:=by unfold jS; simp
theorem ku {α:Type} (l:List α) (d:α):(List.range l.length).map (fun i=>l.getD i d)=l:=by
  apply List.ext_getElem
  · simp
  intro i h1 h2
  simp only [List.getElem_map,List.getElem_range,List.getD_eq_getElem?_getD,List.getElem?_eq_getElem h2,Option.getD_some]
theorem wo (hp:is.Perm (List.range xss.length)):(jS xss is).Perm xss:=by
  have h1:(jS xss is).Perm ((List.range xss.length).map fun i=>xss.getD i []):=hp.map _
  rwa [ku] at h1
theorem bS.pick (hh:bS h vs xss) (hp:∀ i ∈ is,i<vs.length):bS h (jA vs is) (jS xss is):=by
  refine ⟨by rw [lG,zT],fun k hk=>?_⟩
  rw [lG] at hk
  have h1:=hh.2 _ (hp _ (List.getElem_mem hk))
  unfold jA jS
  simpa [List.getD_eq_getElem?_getD,List.getElem?_eq_getElem hk] using h1
theorem St.xZ {j:Nat} (hS:St w0 w X B M) (hi:M[j]? = some (inn vs xss)) (hp:∀ i ∈ is,i<vs.length):St w0 w X B (M.set j (inn (jA vs is) (jS xss is))):=by
  refine hS.conv hi (fun hh=>bS.pick hh hp) (fun b ⟨k,hk,h0,hb⟩=>?_)
  rw [lG] at hk
  refine ⟨is.getD k 0,?_,?_,?_⟩
  · rw [List.getD_eq_getElem?_getD,List.getElem?_eq_getElem hk]; exact hp _ (List.getElem_mem hk)
  · unfold jS at h0; simpa [List.getD_eq_getElem?_getD,List.getElem?_eq_getElem hk] using h0
  · unfold jA at hb; simpa [List.getD_eq_getElem?_getD,List.getElem?_eq_getElem hk] using hb
end
def aDu {T:Type} (s:List T) (k:Nat) (x:T):List T:=s.take k++x::s.drop k
def swT {T:Type} [Inhabited T] (l:List T) (i j:Nat):List T:=(l.set i (l.getD j default)).set j (l.getD i default)
section
variable {T:Type} {s:List T} {k:Nat} {x:T} {r:T→T→Prop}
theorem aAC (hs:s.Pairwise r) (h1:∀ y ∈ s.take k,r y x) (h2:∀ y ∈ s.drop k,r x y):(aDu s k x).Pairwise r:=by
  unfold aDu
  have h3:=hs
  rw [← List.take_append_drop k s,List.pairwise_append] at h3
  rw [List.pairwise_append,List.pairwise_cons]
  refine ⟨h3.1,⟨h2,h3.2.1⟩,fun a ha b hb=>?_⟩
  rcases List.mem_cons.1 hb with rfl | hb
  · exact h1 a ha
  · exact h3.2.2 a ha b hb
structure InsK (r:T→T→Prop) (s:List T) (x:T) (k:Nat):Prop where
  hk:k≤s.length
  srt:s.Pairwise r
  big:∀ y ∈ s.drop k,r x y
theorem InsK.start (hs:s.Pairwise r):InsK r s x s.length:=⟨Nat.le_refl _,hs,fun y hy=>by simp at hy⟩
end
section
variable {T:Type} [Inhabited T] {s:List T} {k:Nat} {x:T} {r:T→T→Prop}
theorem InsK.step (h:InsK r s x k) (h0:0<k) (hr:r x (s.getD (k-1) default)):InsK r s x (k-1):=by
  have hk:=h.hk
  refine ⟨by omega,h.srt,fun y hy=>?_⟩
  rw [List.drop_eq_getElem_cons (show k-1<s.length by omega),show k-1+1=k by omega] at hy
  rcases List.mem_cons.1 hy with rfl | hy
  · rwa [List.getD_eq_getElem?_getD,List.getElem?_eq_getElem (show k-1<s.length by omega),Option.getD_some] at hr
  · exact h.big y hy
theorem InsK.done (h:InsK r s x k) (ht:∀ {a b c},r a b→r b c→r a c) (h0:k=0∨r (s.getD (k-1) default) x):(aDu s k x).Pairwise r:=by
  have hk:=h.hk
  refine aAC h.srt (fun y hy=>?_) h.big
  obtain ⟨j,hj,rfl⟩:=List.getElem_of_mem hy
  simp only [List.length_take] at hj
  rcases h0 with h0 | h0
  · omega
  · rw [List.getElem_take]
    rw [List.getD_eq_getElem?_getD,List.getElem?_eq_getElem (show k-1<s.length by omega),Option.getD_some] at h0
    by_cases e:j=k-1
    · subst e; exact h0
    · exact ht (List.pairwise_iff_getElem.1 h.srt j (k-1) (by omega) (by omega) (by omega)) h0
end
end Go.SL

namespace Det
theorem oU {n:Nat} {l:List Int} (h:okL n l):l.Pairwise (·<·)∧∀ t ∈ l,0≤t∧t<(n:Int):=by
  refine ⟨?_,fun t ht=>?_⟩
  · rw [List.pairwise_iff_getElem]
    have key:∀ d i,i+d+1<l.length→l.getD i 0<l.getD (i+d+1) 0:=by
      intro d
      induction d with
      | zero=>intro i hi; have:=(h (i+0+1) hi).2 (by omega); simpa using this
      | succ d ih =>
        intro i hi
        have h1:=ih i (by omega)
        have h2:=(h (i+(d+1)+1) hi).2 (by omega)
        rw [show i+(d+1)+1-1=i+d+1 by omega] at h2
        omega
    intro i j hi hj hij
    have:=key (j-i-1) i (by omega)
    rw [show i+(j-i-1)+1=j by omega] at this
    simpa [List.getD_eq_getElem?_getD,List.getElem?_eq_getElem hi,List.getElem?_eq_getElem hj] using this
  · obtain ⟨i,hi,rfl⟩:=List.getElem_of_mem ht
    have:=(h i hi).1
    simpa [List.getD_eq_getElem?_getD,List.getElem?_eq_getElem hi] using this
theorem qy {n:Nat} {l:List Int} (h:okL n l):marks n l l.length=mkS n l:=by
  have hr:=(oU h).2
  apply List.ext_getElem
  · rw [gK,mU]
  intro i h1 h2
  have e1:=zW hr i
  have e2:=iP (n:=n) (px:=l) (i:=i)
  rw [gK] at h1
  rw [List.getD_eq_getElem?_getD,List.getElem?_eq_getElem (by rw [gK]; exact h1),Option.getD_some] at e1
  rw [List.getD_eq_getElem?_getD,List.getElem?_eq_getElem h2,Option.getD_some] at e2
  rw [Bool.eq_iff_iff,e1,e2]
  exact ⟨fun h=>⟨h1,h⟩,fun h=>h.2⟩
theorem xD {a b:List Int} (ha:a.Nodup) (hab:∀ t ∈ a,t ∈ b) (hl:b.length≤a.length):∀ t ∈ b,t ∈ a:=fun t ht=>by
  refine Decidable.byContradiction fun hn=>?_
  have h1:=jZ (l:=t::a) (m:=b) (List.nodup_cons.2 ⟨hn,ha⟩) fun x hx=>by
    rcases List.mem_cons.1 hx with rfl | hx
    · exact ht
    · exact hab x hx
  simp at h1
  omega
section
variable {W H:Nat} {l:List Int}
theorem kW (h:0<l.length):l.getD 0 0 ∈ l:=by
  rw [List.getD_eq_getElem?_getD,List.getElem?_eq_getElem h]; exact List.getElem_mem _
theorem rW (h:okL (W*H) l) (h0:0<l.length):(mkS (W*H) l).getD (l.getD 0 0).toNat false=true:=by
  have:=(oU h).2 _ (kW h0)
  exact iP.2 ⟨by omega,by rw [Int.toNat_of_nonneg this.1]; exact kW h0⟩
theorem wM (h:conn W H l):SetOK W H l:=by
  obtain ⟨h1,h2,h3⟩:=h
  rw [qy h1] at h3
  have hf:=rW h1 h2
  have hp:=fun i=>dO (W:=W) (H:=H) (first:=(l.getD 0 0).toNat) mU hf i
  have hsub:∀ t ∈ (part W H (mkS (W*H) l) (l.getD 0 0).toNat).2,t ∈ l:=fun t ht=>by
    have hr:=fe ht
    obtain ⟨c,rfl⟩:∃ c:Nat,t=(c:Int):=⟨t.toNat,by omega⟩
    exact (iP.1 ((hp c).1 ht).right).2
  have hall:=xD (iR jX) hsub (by omega)
  refine ⟨(oU h1).1,(oU h1).2,fun a b ha hb=>?_,fun e=>by rw [e] at h2; simp at h2⟩
  exact (((hp a).1 (hall _ ha)).symm mU).trans ((hp b).1 (hall _ hb))
theorem qC (h:SetOK W H l):conn W H l:=by
  have h1:=aD1 h.asc h.rng
  have h2:0<l.length:=List.length_pos_iff.2 h.ne
  have hf:=rW h1 h2
  have hp:=fun i=>dO (W:=W) (H:=H) (first:=(l.getD 0 0).toNat) mU hf i
  refine ⟨h1,h2,?_⟩
  rw [qy h1]
  have hsub:∀ t ∈ (part W H (mkS (W*H) l) (l.getD 0 0).toNat).2,t ∈ l:=fun t ht=>by
    have hr:=fe ht
    obtain ⟨c,rfl⟩:∃ c:Nat,t=(c:Int):=⟨t.toNat,by omega⟩
    exact (iP.1 ((hp c).1 ht).right).2
  have hfr:=h.rng _ (kW h2)
  have hsub2:∀ t ∈ l,t ∈ (part W H (mkS (W*H) l) (l.getD 0 0).toNat).2:=fun t ht=>by
    have hr:=h.rng t ht
    obtain ⟨c,rfl⟩:∃ c:Nat,t=(c:Int):=⟨t.toNat,by omega⟩
    exact (hp c).2 (h.conn _ c (by rw [Int.toNat_of_nonneg hfr.1]; exact kW h2) ht)
  have e1:=jZ (iR jX) hsub
  have e2:=jZ (iR h.asc) hsub2
  omega
end
noncomputable def iK (fW fH least:Int) (zs px lv:List Int):Int:=open Classical in
  if aM fW fH zs then (if 20<lv.length then 4 else if conn fW.toNat fH.toNat px∧rising lv∧1≤least then 0 else 2) else 8
noncomputable def kR (fW fH least:Int) (zs px lv:List Int):List (List Int) :=
  if iK fW fH least zs px lv=0 then kJ (bA zs fW.toNat fH.toNat least lv px) else []
section
variable {fW fH least:Int} {zs px lv:List Int}
theorem aC3 (h:aM fW fH zs) (h2:20<lv.length):iK fW fH least zs px lv=4∧kR fW fH least zs px lv=[]:=by
  have e:iK fW fH least zs px lv=4:=by unfold iK; rw [if_pos h,if_pos h2]
  exact ⟨e,by unfold kR; rw [e,if_neg (by decide)]⟩
theorem aCO (h:aM fW fH zs) (h2:¬ 20<lv.length) (h3:¬ (conn fW.toNat fH.toNat px∧rising lv∧1≤least)):iK fW fH least zs px lv=2∧kR fW fH least zs px lv=[]:=by
  have e:iK fW fH least zs px lv=2:=by unfold iK; rw [if_pos h,if_neg h2,if_neg h3]
  exact ⟨e,by unfold kR; rw [e,if_neg (by decide)]⟩
theorem yN (h:aM fW fH zs) (h2:¬ 20<lv.length) (h3:conn fW.toNat fH.toNat px∧rising lv∧1≤least):iK fW fH least zs px lv=0∧kR fW fH least zs px lv=kJ (bA zs fW.toNat fH.toNat least lv px):=by
  have e:iK fW fH least zs px lv=0:=by unfold iK; rw [if_pos h,if_neg h2,if_pos h3]
  exact ⟨e,by unfold kR; rw [e,if_pos rfl]⟩
end
theorem aD0 {l:List (List Int)} (h:∀ x ∈ l,x≠[]) {q:Nat} (hq:q<l.length):0<(l.getD q []).length:=by
  rw [List.getD_eq_getElem?_getD,List.getElem?_eq_getElem hq]
  exact List.length_pos_iff.2 (h _ (List.getElem_mem hq))
theorem za {l:List (List Int)} (h:Apart l):∀ p q,p<l.length→q<l.length→fU (l.getD p [])=fU (l.getD q [])→p=q:=by
  have h1:=List.pairwise_iff_getElem.1 h.fst
  intro p q hp hq e
  have e:fU l[p]=fU l[q]:=by simpa [List.getD_eq_getElem?_getD,List.getElem?_eq_getElem hp,List.getElem?_eq_getElem hq] using e
  rcases Nat.lt_trichotomy p q with h2 | h2 | h2
  · exact absurd e (h1 p q hp hq h2)
  · exact h2
  · exact absurd e.symm (h1 q p hq hp h2)
theorem xC {P px levels:List Int} {W H:Nat} {least:Int} (hleast:1≤least) (h:SetOK W H px):0<(bA P W H least levels px).length:=by
  obtain ⟨t,ht⟩:=List.exists_mem_of_ne_nil _ h.ne
  obtain ⟨x,hx,_⟩:=(bn (P:=P) hleast levels px h).2.2 t ht
  exact List.length_pos_of_mem hx
theorem aBS {x y:Int}:eY x y<0↔x<y:=by
  unfold eY; split
  · omega
  · split <;> omega
end Det

set_option maxHeartbeats 1000000
set_option maxRecDepth 8000
namespace Go.Proofs.YtipfobacinmoiaaGreat
open Go Go.SL Go.Shelf Go.RowKit Go.Maps
theorem aA.toB {P:Program} {n:Nat} {ds:List Deferred} {L:List (Nat × Value)} {op:Op} {ty:TypeId} {w w2:World} {b c:Bool} (h:aA P n ds L op ty w (.bool b) w2) (e:b=c):aA P n ds L op ty w (.bool c) w2:=e▸h
theorem yx:aX Tryz.prog 15=true:=by kernel_rfl
theorem x9:aX Tryz.prog 16=true:=by kernel_rfl
theorem yF:aX Tryz.prog 17=true:=by kernel_rfl
theorem aCS:aX Tryz.prog 18=true:=by kernel_rfl
theorem yM:aX Tryz.prog 20=true:=by kernel_rfl
theorem aA6:aX Tryz.prog 8=true:=by kernel_rfl
set_option maxHeartbeats 1000000 in
set_option maxRecDepth 4000 in
theorem mH (fW fH:Int) (vP vB:Value) (zs:List Int) (bs:List Bool) (w0:World) [Decidable (Det.aM fW fH zs)] (hP:aQ (hp w0) 1 vP zs.length (ints zs)) (hB:aQ (hp w0) 1 vB bs.length (bools bs)) :
    Ret Tryz.prog 16 #[(fG fW fH vP),vB] w0 (G:=Unit) (fun _=>iV (if Det.aM fW fH zs then (if bs.length=zs.length then 0 else 2) else 8)) (fun _ w=>St w0 w noX [] []):=by
  refine aR (lv:=[(fG fW fH vP),vB]) Tryz.func16 rfl rfl rfl (fun a hf=>?_); replace hf:Fr a 17 [] [(0,(fG fW fH vP)),(1,vB)]:=hf; have hS:St w0 w0 noX [rI vP zs,rdv 1 vB bs.length (bools bs)] []:=((St.refl w0).bO hB).bO hP; refine W.seq ?_
  refine R2 rfl<|O.box (cs:=#[iV fW,iV fH,vP]) hf hS rfl rfl rfl rfl<|?_; intro b_f1 w a hbb_f1 hS hf; refine mv hf rfl fun a hf=>?_; refine nk<|W.seq<|W.seq<|?_
  refine R3 rfl<|ov hf rfl (aA.bf (cs':=#[iV fW,iV fH,vP]) bK aj rfl (hS.p 0 rfl) (bl rfl) rfl)<|fun a hf=>?_; refine oc hf rfl tY (jf fW fH vP zs _ (hS.aL (j:=0) rfl)) ?_; clear hf a; rintro _ w2 hS1 a hf; replace hS:=hS.cl hS1; refine mv hf rfl fun a hf=>?_; refine nk<|W.seq<|?_
  refine R2 rfl<|mv hf rfl<|fun a hf=>ov (v:=.bool (decide ((if Det.aM fW fH zs then 0 else 8)≠(0:Int)))) hf rfl (aA.neq rfl rfl) fun a hf=>?_; refine nk ?_; refine W.bJ hf rfl (fun hce=>?_) (fun hce=>?_)
  · refine W.seq ?_
    refine R2 rfl<|mv hf rfl<|fun a hf=>mv hf rfl fun a hf=>?_; refine nk<|W.ret<|aK<|bH hf rfl (aO.tmp rfl)<|?_; refine ⟨(),by rw [if_neg (fun h=>hce (if_pos h)),if_neg (fun h=>hce (if_pos h))],hS.sub (List.nil_sublist _) |>.noB⟩
  · have hfo:Det.aM fW fH zs:=Classical.byContradiction fun h=>hce (by rw [if_neg h]; decide)
    refine W.skip<|aF<|W.seq<|W.seq<|?_
    refine R6 rfl<|mv hf rfl<|fun a hf=>ov hf rfl (aA.bP (e:=4) (by simpa using bZ) rfl (hS.aL (j:=1) rfl)) fun a hf=>ov hf rfl (aA.field aP rfl rfl) fun a hf=>ov hf rfl (aA.aT bB rfl (hS.p 0 rfl) rfl) fun a hf=>ov hf rfl (aA.bP (e:=2) (by simpa using aN) rfl (hS.aL (j:=0) rfl)) fun a hf=>ov (v:=.bool (decide ((bs.length:Int)≠((zs.length:Int):Int)))) hf rfl (aA.neq rfl rfl) fun a hf=>?_; refine nk ?_; refine W.bJ hf rfl (fun hbl=>?_) (fun hbl=>?_)
    · refine W.seq ?_
      refine R1 rfl<|mv hf rfl<|fun a hf=>?_; refine nk<|W.ret<|aK<|bH hf rfl (aO.tmp rfl)<|?_; refine ⟨(),by rw [if_pos hfo,if_neg (by omega)],hS.sub (List.nil_sublist _) |>.noB⟩
    · refine W.skip ?_
      refine aF<|W.seq<|?_
      refine R1 rfl<|mv hf rfl<|fun a hf=>?_; refine nk<|W.ret<|bH hf rfl (aO.tmp rfl)<|?_; refine ⟨(),by rw [if_pos hfo,if_pos (by omega)],hS.sub (List.nil_sublist _) |>.noB⟩
set_option maxHeartbeats 1000000 in
set_option maxRecDepth 4000 in
theorem vz (fW fH:Nat) (vP vL:Value) (zs l:List Int) (w0:World) [Decidable (Det.conn fW fH l)] (hW:1≤fW∧fW≤100) (hH:1≤fH∧fH≤100) (hn:zs.length=fW*fH) (hP:aQ (hp w0) 1 vP zs.length (ints zs)) (hL:aQ (hp w0) 1 vL l.length (ints l)) (hpos:0<l.length) :
    Ret Tryz.prog 20 #[(fG fW fH vP),vL] w0 (G:=Unit) (fun _=>.bool (decide (Det.conn fW fH l))) (fun _ w=>St w0 w noX [] []):=by
  refine aR (lv:=[(fG fW fH vP),vL]) Tryz.func20 rfl rfl rfl (fun a hf=>?_); replace hf:Fr a 62 [] [(0,(fG fW fH vP)),(1,vL)]:=hf; have hS:St w0 w0 noX [rI vP zs,rI vL l] []:=((St.refl w0).bO hL).bO hP; have hN:fW*fH≤10000:=Nat.mul_le_mul hW.2 hH.2; have hlen:=hL.2.1; unfold maxLen at hlen; have hz:=fun (h:0<l.length) (h2:Det.okL (fW*fH) l)=>h2 0 h; refine W.seq ?_
  refine R2 rfl<|O.box (cs:=#[iV fW,iV fH,vP]) hf hS rfl rfl rfl rfl<|?_; intro b_f1 w a hbb_f1 hS hf; refine mv hf rfl ?_; clear hf a; intro a hf; refine nk<|W.seq<|W.seq<|?_
  refine R1 rfl<|mv hf rfl<|?_; clear hf a; intro a hf; refine nk<|W.block<|?_
  refine W.loop (G:=(Nat)) (fun g a w=>match g with | k=>Fr a 62 [] [(1,vL),(2,(pp b_f1)),(5,iV k)]∧St w0 w noX [rI vP zs,rI vL l] [pt b_f1 (.cells #[iV fW,iV fH,vP] 24 (0,0))]∧(k≤l.length)∧(∀ j,j<k→(0≤l.getD j 0∧l.getD j 0<((fW*fH:Nat):Int))∧(0<j→l.getD (j-1) 0<l.getD j 0))) (fun g=>match g with | k=>l.length-k) 0 ?_ ?_
  · refine ⟨hf.to ⟨rfl,rfl,(by first | rfl | exact vI (by omega)),trivial⟩,hS,?_,?_⟩
    · omega
    · exact fun j hj=>by omega
  clear hf hS a; rintro k a w ⟨hf,hS,h1,h2⟩; refine W.seq<|W.seq<|?_
  refine R4 rfl<|mv hf rfl<|?_; clear hf a; intro a hf; refine mv hf rfl ?_; clear hf a; intro a hf; refine ov hf rfl (aA.bP (e:=3) (by simpa using aB) rfl (hS.aL (j:=1) rfl)) ?_; clear hf a; intro a hf; refine ov (v:=.bool (decide ((k:Int)<((l.length:Int):Int)))) hf rfl (aA.lss rfl rfl) ?_; clear hf a; intro a hf; refine nk ?_; replace hf:Fr a 62 [] [(1,_),(2,_),(5,_),(9,_)]:=hf.q rfl; refine W.bJ hf rfl (fun hk=>?_) (fun hk=>?_)
  · refine W.skip ?_
    refine aF<|W.seq<|W.block<|W.seq<|?_
    refine W.dY (fun w=>St w0 w noX [rI vP zs,rI vL l] [pt b_f1 (.cells #[iV fW,iV fH,vP] 24 (0,0))]) aV rfl (by kernel_rfl) rfl hS.drew ?_; clear hS; refine q0 hf rfl rfl fun a hf=>q0 hf rfl rfl fun a hf=>OQ.val (v:=ix vL k) hf rfl (fun w hS=>aA.ixV (j:=k) (m:=k) aB aD rfl rfl (hS.aL (j:=1) rfl) rfl (by omega) (Nat.mul_one _)) fun a hf=>OQ.val (v:=iV (l.getD k 0)) hf rfl (fun w hS=>aA.ld1 aH rfl (hS.aL (j:=1) rfl) (aI (by omega))) fun a hf=>OQ.val (v:=.bool (decide ((l.getD k 0)<(0:Int)))) hf rfl (fun w hS=>aA.lss rfl rfl) fun a hf=>q0 hf rfl rfl fun a hf=>?_
    refine OQ.ji (K':=fun a=>Fr a 62 [] [(1,vL),(2,(pp b_f1)),(5,iV k),(26,.bool ((decide ((l.getD k 0)<(0:Int)))||(decide ((l.getD k 0)≥((zs.length:Int):Int)))))]) 9 ?_ ?_
    · rcases Bool.eq_false_or_eq_true (decide ((l.getD k 0)<(0:Int))) with hb3 | hb3
      · have hb3p:=of_decide_eq_true hb3
        refine OQ.aJ hf rfl rfl hb3 rfl fun a hf=>OQ.aJ hf rfl rfl hb3 rfl fun a hf=>OQ.aJ hf rfl rfl hb3 rfl fun a hf=>OQ.aJ hf rfl rfl hb3 rfl fun a hf=>OQ.aJ hf rfl rfl hb3 rfl fun a hf=>OQ.aJ hf rfl rfl hb3 rfl fun a hf=>OQ.aJ hf rfl rfl hb3 rfl fun a hf=>OQ.aJ hf rfl rfl hb3 rfl fun a hf=>?_; refine OQ.val (v:=.bool ((decide ((l.getD k 0)<(0:Int)))||(decide ((l.getD k 0)≥((zs.length:Int):Int))))) hf rfl (fun w hS=>aA.pick rfl rfl rfl (by rw [hb3]; rfl)) ?_; clear hf a; intro a hf; exact OQ.nil (hf.q rfl)
      · have hb3p:=of_decide_eq_false hb3
        refine gm hf rfl rfl hb3 rfl rfl fun a hf=>gm hf rfl rfl hb3 rfl rfl fun a hf=>OQ.gval (v:=ix vL k) hf rfl rfl hb3 rfl (fun w hS=>aA.ixV (j:=k) (m:=k) aB aD rfl rfl (hS.aL (j:=1) rfl) rfl (by omega) (Nat.mul_one _)) fun a hf=>OQ.gval (v:=iV (l.getD k 0)) hf rfl rfl hb3 rfl (fun w hS=>aA.ld1 aH rfl (hS.aL (j:=1) rfl) (aI (by omega))) fun a hf=>OQ.gval (v:=.pointer (some ⟨b_f1,2,none⟩)) hf rfl rfl hb3 rfl (fun w hS=>aA.field aP rfl rfl) fun a hf=>OQ.gval (v:=vP) hf rfl rfl hb3 rfl (fun w hS=>aA.aT bB rfl (hS.p 0 rfl) rfl) fun a hf=>OQ.gval (v:=iV (zs.length:Int)) hf rfl rfl hb3 rfl (fun w hS=>aA.bP (e:=2) (by simpa using aN) rfl (hS.aL (j:=0) rfl)) fun a hf=>OQ.gval (v:=.bool (decide ((l.getD k 0)≥((zs.length:Int):Int)))) hf rfl rfl hb3 rfl (fun w hS=>aA.geq rfl rfl) fun a hf=>?_; refine OQ.val (v:=.bool ((decide ((l.getD k 0)<(0:Int)))||(decide ((l.getD k 0)≥((zs.length:Int):Int))))) hf rfl (fun w hS=>aA.pick rfl rfl rfl (by rw [hb3]; rfl)) ?_; clear hf a; intro a hf; exact OQ.nil (hf.q rfl)
    clear hf a; intro a hf; refine q0 hf rfl rfl fun a hf=>?_
    refine OQ.ji (K':=fun a=>Fr a 62 [] [(1,vL),(2,(pp b_f1)),(5,iV k),(42,.bool (((decide ((l.getD k 0)<(0:Int)))||(decide ((l.getD k 0)≥((zs.length:Int):Int))))||((decide ((k:Int)>(0:Int)))&&(decide ((l.getD k 0)≤(l.getD (k-1) 0:Int))))))]) 15 ?_ ?_
    · rcases Bool.eq_false_or_eq_true ((decide ((l.getD k 0)<(0:Int)))||(decide ((l.getD k 0)≥((zs.length:Int):Int)))) with hb4 | hb4
      · have hb4p:=hb4
        try simp only [bsm] at hb4p
        refine OQ.aJ hf rfl rfl hb4 rfl fun a hf=>OQ.aJ hf rfl rfl hb4 rfl fun a hf=>OQ.aJ hf rfl rfl hb4 rfl fun a hf=>OQ.bC hf rfl rfl rfl fun a hf=>OQ.bC hf rfl rfl rfl fun a hf=>OQ.bC hf rfl rfl rfl fun a hf=>OQ.bC hf rfl rfl rfl fun a hf=>OQ.bC hf rfl rfl rfl fun a hf=>OQ.bC hf rfl rfl rfl fun a hf=>OQ.bC hf rfl rfl rfl fun a hf=>?_; refine OQ.bC hf rfl rfl rfl fun a hf=>OQ.bC hf rfl rfl rfl fun a hf=>OQ.bC hf rfl rfl rfl fun a hf=>OQ.aJ hf rfl rfl hb4 rfl fun a hf=>?_; refine OQ.val (v:=.bool (((decide ((l.getD k 0)<(0:Int)))||(decide ((l.getD k 0)≥((zs.length:Int):Int))))||((decide ((k:Int)>(0:Int)))&&(decide ((l.getD k 0)≤(l.getD (k-1) 0:Int)))))) hf rfl (fun w hS=>aA.pick rfl rfl rfl (by rw [hb4]; rfl)) ?_; clear hf a; intro a hf; exact OQ.nil (hf.q rfl)
      · have hb4p:=hb4
        try simp only [bsm] at hb4p
        refine gm hf rfl rfl hb4 rfl rfl fun a hf=>OQ.gval (v:=.bool (decide ((k:Int)>(0:Int)))) hf rfl rfl hb4 rfl (fun w hS=>aA.gtr rfl rfl) fun a hf=>gm hf rfl rfl hb4 rfl rfl fun a hf=>?_
        refine OQ.ji (K':=fun a=>Fr a 62 [] [(1,vL),(2,(pp b_f1)),(5,iV k),(27,.bool ((decide ((l.getD k 0)<(0:Int)))||(decide ((l.getD k 0)≥((zs.length:Int):Int))))),(41,.bool ((decide ((k:Int)>(0:Int)))&&(decide ((l.getD k 0)≤(l.getD (k-1) 0:Int)))))]) 11 ?_ ?_
        · rcases Bool.eq_false_or_eq_true (decide ((k:Int)>(0:Int))) with hb5 | hb5
          · have hb5p:=of_decide_eq_true hb5
            refine gm hf rfl rfl hb5 rfl rfl fun a hf=>gm hf rfl rfl hb5 rfl rfl fun a hf=>OQ.gval (v:=ix vL k) hf rfl rfl hb5 rfl (fun w hS=>aA.ixV (j:=k) (m:=k) aB aD rfl rfl (hS.aL (j:=1) rfl) rfl (by omega) (Nat.mul_one _)) fun a hf=>OQ.gval (v:=iV (l.getD k 0)) hf rfl rfl hb5 rfl (fun w hS=>aA.ld1 aH rfl (hS.aL (j:=1) rfl) (aI (by omega))) fun a hf=>gm hf rfl rfl hb5 rfl rfl fun a hf=>gm hf rfl rfl hb5 rfl rfl fun a hf=>OQ.gval (v:=iV ((k:Int)-1)) hf rfl rfl hb5 rfl (fun w hS=>aA.cZ rfl rfl (by omega)) fun a hf=>?_; refine OQ.gval (v:=ix vL (k-1)) hf rfl rfl hb5 rfl (fun w hS=>aA.ixV (j:=(k-1)) (m:=(k-1)) aB aD rfl rfl (hS.aL (j:=1) rfl) (by congr 1; omega) (by omega) (Nat.mul_one _)) ?_; clear hf a; intro a hf; refine OQ.gval (v:=iV (l.getD (k-1) 0)) hf rfl rfl hb5 rfl (fun w hS=>aA.ld1 aH rfl (hS.aL (j:=1) rfl) (aI (by omega))) fun a hf=>OQ.gval (v:=.bool (decide ((l.getD k 0)≤(l.getD (k-1) 0:Int)))) hf rfl rfl hb5 rfl (fun w hS=>aA.leq rfl rfl) fun a hf=>?_; refine OQ.gval (v:=.bool ((decide ((k:Int)>(0:Int)))&&(decide ((l.getD k 0)≤(l.getD (k-1) 0:Int))))) hf rfl rfl hb4 rfl (fun w hS=>aA.pick rfl rfl rfl (by rw [hb5]; rfl)) ?_; clear hf a; intro a hf; exact OQ.nil (hf.q rfl)
          · have hb5p:=of_decide_eq_false hb5
            refine OQ.aJ hf rfl rfl hb5 rfl fun a hf=>OQ.aJ hf rfl rfl hb5 rfl fun a hf=>OQ.aJ hf rfl rfl hb5 rfl fun a hf=>OQ.aJ hf rfl rfl hb5 rfl fun a hf=>OQ.aJ hf rfl rfl hb5 rfl fun a hf=>OQ.aJ hf rfl rfl hb5 rfl fun a hf=>OQ.aJ hf rfl rfl hb5 rfl fun a hf=>OQ.aJ hf rfl rfl hb5 rfl fun a hf=>OQ.aJ hf rfl rfl hb5 rfl fun a hf=>OQ.aJ hf rfl rfl hb5 rfl fun a hf=>?_; refine OQ.gval (v:=.bool ((decide ((k:Int)>(0:Int)))&&(decide ((l.getD k 0)≤(l.getD (k-1) 0:Int))))) hf rfl rfl hb4 rfl (fun w hS=>aA.pick rfl rfl rfl (by rw [hb5]; rfl)) ?_; clear hf a; intro a hf; exact OQ.nil (hf.q rfl)
        clear hf a; intro a hf; refine OQ.val (v:=.bool (((decide ((l.getD k 0)<(0:Int)))||(decide ((l.getD k 0)≥((zs.length:Int):Int))))||((decide ((k:Int)>(0:Int)))&&(decide ((l.getD k 0)≤(l.getD (k-1) 0:Int)))))) hf rfl (fun w hS=>aA.pick rfl rfl rfl (by rw [hb4]; rfl)) ?_; clear hf a; intro a hf; exact OQ.nil (hf.q rfl)
    clear hf a; intro a hf; refine OQ.nil ?_; intro w hS; refine aF ?_; refine W.if_ hf rfl (fun hbad=>?_) (fun hbad=>?_)
    · have hbadb:=hbad
      try simp only [bsm] at hbad
      refine W.seq ?_
      refine R1 rfl<|mv hf rfl<|?_; clear hf a; intro a hf; refine nk<|W.ret<|aW<|aK<|aK<|aW<|aK<|bH hf rfl (aO.tmp rfl)<|?_; refine ⟨(),by rw [show decide (Det.conn fW fH l)=false from decide_eq_false (fun h=>by first | exact absurd h.2.1 (by omega) | have:=h.1 k (by omega); simp only [Bool.or_eq_true,Bool.and_eq_true,decide_eq_true_eq] at hbadb; rw [hn] at hbadb; omega)],hS.sub (List.nil_sublist _) |>.noB⟩
    · have hbadb:=hbad
      try simp only [bsm] at hbad
      refine W.skip<|aG<|aF<|?_
      refine R3 rfl<|mv hf rfl<|?_; clear hf a; intro a hf; refine ov hf rfl (aA.ak rfl rfl (by omega)) ?_; clear hf a; intro a hf; refine mv hf rfl ?_; clear hf a; intro a hf; refine O.nil ?_; refine aS ⟨(k+1),⟨hf.to ⟨rfl,rfl,(by first | rfl | exact vI (by omega)),trivial⟩,?_,?_,?_⟩,?_⟩
      · exact hS.eqM rfl
      · omega
      · simp only [Bool.or_eq_false_iff,Bool.and_eq_false_iff,decide_eq_false_iff_not] at hbadb
        rw [hn] at hbadb; exact Det.fV h2 (by omega)
      · dsimp only; omega
  · refine W.exit ?_
    refine aC<|aC<|bD<|aF<|?_; replace hf:Fr a 62 [] [(1,_),(2,_)]:=hf.q rfl; refine W.seq ?_
    obtain rfl:k=l.length:=by omega
    have hz0:=hz hpos h2; refine W.aDM (γ:=(Value) × (Value)) (L0:=[(1,vL),(2,(pp b_f1))]) (default,default) [9,13,14] [0,1,2,3,4,5,6,7,8,10,11,12,15,16,17,18,19] (fun i=>match i with | 0=>[] | 1=>[0] | 2=>[1] | 3=>[2] | 4=>[3] | 5=>[3] | 6=>[3,5] | 7=>[3,6] | 8=>[3] | 9=>[3,7,8] | 10=>[3] | 11=>[3,10] | 12=>[3,11] | 13=>[3,4,9,12] | 14=>[3,13] | 15=>[3] | 16=>[3,15] | 17=>[3,14,16] | 18=>[3,17] | 19=>[0,1,2,3,4,5,6,7,8,9,10,11,12,13,14,15,16,17,18] | _=>[]) (fun (g:(Value) × (Value)) j=>match g,j with | ⟨vm,vp⟩,0=>vL | ⟨vm,vp⟩,1=>iV (l.length:Int) | ⟨vm,vp⟩,2=>.bool true | ⟨vm,vp⟩,3=>.bool true | ⟨vm,vp⟩,4=>(fG fW fH vP) | ⟨vm,vp⟩,5=>.pointer (some ⟨b_f1,2,none⟩) | ⟨vm,vp⟩,6=>vP | ⟨vm,vp⟩,7=>iV (zs.length:Int) | ⟨vm,vp⟩,8=>vL | ⟨vm,vp⟩,9=>vm | ⟨vm,vp⟩,10=>vL | ⟨vm,vp⟩,11=>ix vL 0 | ⟨vm,vp⟩,12=>iV (l.getD 0 0) | ⟨vm,vp⟩,13=>vp | ⟨vm,vp⟩,14=>iV ((Det.part fW fH (Det.marks (fW*fH) l l.length) (l.getD 0 0).toNat).2.length:Int) | ⟨vm,vp⟩,15=>vL | ⟨vm,vp⟩,16=>iV (l.length:Int) | ⟨vm,vp⟩,17=>.bool (decide (((Det.part fW fH (Det.marks (fW*fH) l l.length) (l.getD 0 0).toNat).2.length:Int)=((l.length:Int):Int))) | ⟨vm,vp⟩,18=>.bool (decide (((Det.part fW fH (Det.marks (fW*fH) l l.length) (l.getD 0 0).toNat).2.length:Int)=((l.length:Int):Int))) | ⟨vm,vp⟩,19=>.bool (decide (((Det.part fW fH (Det.marks (fW*fH) l l.length) (l.getD 0 0).toNat).2.length:Int)=((l.length:Int):Int))) | _,_=>undef) (fun k (g:(Value) × (Value)) w=>match k,g with | 0,⟨vm,vp⟩=>St w0 w noX [rI vP zs,rI vL l] [pt b_f1 (.cells #[iV fW,iV fH,vP] 24 (0,0))] | 1,⟨vm,vp⟩=>St w0 w noX [rI vP zs,rI vL l] [sl 4 1 vm ((Det.marks (fW*fH) l l.length).length) (bools (Det.marks (fW*fH) l l.length)),pt b_f1 (.cells #[iV fW,iV fH,vP] 24 (0,0))] | 2,⟨vm,vp⟩=>St w0 w noX [rI vP zs,rI vL l] [sl 3 1 vp ((Det.part fW fH (Det.marks (fW*fH) l l.length) (l.getD 0 0).toNat).2.length) (ints (Det.part fW fH (Det.marks (fW*fH) l l.length) (l.getD 0 0).toNat).2),sl 4 1 vm (((Det.part fW fH (Det.marks (fW*fH) l l.length) (l.getD 0 0).toNat).1).length) (bools ((Det.part fW fH (Det.marks (fW*fH) l l.length) (l.getD 0 0).toNat).1)),pt b_f1 (.cells #[iV fW,iV fH,vP] 24 (0,0))] | _,⟨vm,vp⟩=>St w0 w noX [rI vP zs,rI vL l] [sl 3 1 vp ((Det.part fW fH (Det.marks (fW*fH) l l.length) (l.getD 0 0).toNat).2.length) (ints (Det.part fW fH (Det.marks (fW*fH) l l.length) (l.getD 0 0).toNat).2),sl 4 1 vm (((Det.part fW fH (Det.marks (fW*fH) l l.length) (l.getD 0 0).toNat).1).length) (bools ((Det.part fW fH (Det.marks (fW*fH) l l.length) (l.getD 0 0).toNat).1)),pt b_f1 (.cells #[iV fW,iV fH,vP] 24 (0,0))]) aV (by kernel_rfl) hf hS.drew ?_ ?_ ?_
    · clear hf hS
      refine ⟨?_,?_,?_,?_,?_,?_,?_,?_,?_,?_,?_,?_,?_,?_,?_,?_,?_,trivial⟩
      · intro k g w hD a hf
        obtain ⟨vm,vp⟩:=g
        rcases k with _ | _ | _ | k
        · have hS:=hD; clear hD
          replace hf:Fr a 62 [] [(1,_),(2,_)]:=hf.q rfl; refine mv hf rfl ?_; clear hf a; intro a hf; exact O.nil ⟨rfl,hf.to trivial,(gt (d:=43) hf rfl rfl),hS⟩
        · have hS:=hD; clear hD
          replace hf:Fr a 62 [] [(1,_),(2,_)]:=hf.q rfl; refine mv hf rfl ?_; clear hf a; intro a hf; exact O.nil ⟨rfl,hf.to trivial,(gt (d:=43) hf rfl rfl),hS⟩
        · have hS:=hD; clear hD
          replace hf:Fr a 62 [] [(1,_),(2,_)]:=hf.q rfl; refine mv hf rfl ?_; clear hf a; intro a hf; exact O.nil ⟨rfl,hf.to trivial,(gt (d:=43) hf rfl rfl),hS⟩
        · have hS:=hD; clear hD
          replace hf:Fr a 62 [] [(1,_),(2,_)]:=hf.q rfl; refine mv hf rfl ?_; clear hf a; intro a hf; exact O.nil ⟨rfl,hf.to trivial,(gt (d:=43) hf rfl rfl),hS⟩
      · intro k g w hD a hf
        obtain ⟨vm,vp⟩:=g
        rcases k with _ | _ | _ | k
        · have hS:=hD; clear hD
          replace hf:Fr a 62 [] [(43,_),(1,_),(2,_)]:=hf.q rfl; refine ov hf rfl (aA.bP (e:=3) (by simpa using aB) rfl (hS.aL (j:=1) rfl)) ?_; clear hf a; intro a hf; exact O.nil ⟨rfl,hf.to trivial,(gt (d:=44) hf rfl rfl),hS⟩
        · have hS:=hD; clear hD
          replace hf:Fr a 62 [] [(43,_),(1,_),(2,_)]:=hf.q rfl; refine ov hf rfl (aA.bP (e:=3) (by simpa using aB) rfl (hS.aL (j:=1) rfl)) ?_; clear hf a; intro a hf; exact O.nil ⟨rfl,hf.to trivial,(gt (d:=44) hf rfl rfl),hS⟩
        · have hS:=hD; clear hD
          replace hf:Fr a 62 [] [(43,_),(1,_),(2,_)]:=hf.q rfl; refine ov hf rfl (aA.bP (e:=3) (by simpa using aB) rfl (hS.aL (j:=1) rfl)) ?_; clear hf a; intro a hf; exact O.nil ⟨rfl,hf.to trivial,(gt (d:=44) hf rfl rfl),hS⟩
        · have hS:=hD; clear hD
          replace hf:Fr a 62 [] [(43,_),(1,_),(2,_)]:=hf.q rfl; refine ov hf rfl (aA.bP (e:=3) (by simpa using aB) rfl (hS.aL (j:=1) rfl)) ?_; clear hf a; intro a hf; exact O.nil ⟨rfl,hf.to trivial,(gt (d:=44) hf rfl rfl),hS⟩
      · intro k g w hD a hf
        obtain ⟨vm,vp⟩:=g
        rcases k with _ | _ | _ | k
        · have hS:=hD; clear hD
          replace hf:Fr a 62 [] [(44,_),(1,_),(2,_)]:=hf.q rfl; refine ov hf rfl (aA.toB (aA.gtr rfl rfl) (decide_eq_true (by omega))) ?_; clear hf a; intro a hf; exact O.nil ⟨rfl,hf.to trivial,(gt (d:=45) hf rfl rfl),hS⟩
        · have hS:=hD; clear hD
          replace hf:Fr a 62 [] [(44,_),(1,_),(2,_)]:=hf.q rfl; refine ov hf rfl (aA.toB (aA.gtr rfl rfl) (decide_eq_true (by omega))) ?_; clear hf a; intro a hf; exact O.nil ⟨rfl,hf.to trivial,(gt (d:=45) hf rfl rfl),hS⟩
        · have hS:=hD; clear hD
          replace hf:Fr a 62 [] [(44,_),(1,_),(2,_)]:=hf.q rfl; refine ov hf rfl (aA.toB (aA.gtr rfl rfl) (decide_eq_true (by omega))) ?_; clear hf a; intro a hf; exact O.nil ⟨rfl,hf.to trivial,(gt (d:=45) hf rfl rfl),hS⟩
        · have hS:=hD; clear hD
          replace hf:Fr a 62 [] [(44,_),(1,_),(2,_)]:=hf.q rfl; refine ov hf rfl (aA.toB (aA.gtr rfl rfl) (decide_eq_true (by omega))) ?_; clear hf a; intro a hf; exact O.nil ⟨rfl,hf.to trivial,(gt (d:=45) hf rfl rfl),hS⟩
      · intro k g w hD a hf
        obtain ⟨vm,vp⟩:=g
        rcases k with _ | _ | _ | k
        · have hS:=hD; clear hD
          replace hf:Fr a 62 [] [(45,_),(1,_),(2,_)]:=hf.q rfl; refine mv hf rfl ?_; clear hf a; intro a hf; exact O.nil ⟨rfl,hf.to trivial,(gt (d:=46) hf rfl rfl),hS⟩
        · have hS:=hD; clear hD
          replace hf:Fr a 62 [] [(45,_),(1,_),(2,_)]:=hf.q rfl; refine mv hf rfl ?_; clear hf a; intro a hf; exact O.nil ⟨rfl,hf.to trivial,(gt (d:=46) hf rfl rfl),hS⟩
        · have hS:=hD; clear hD
          replace hf:Fr a 62 [] [(45,_),(1,_),(2,_)]:=hf.q rfl; refine mv hf rfl ?_; clear hf a; intro a hf; exact O.nil ⟨rfl,hf.to trivial,(gt (d:=46) hf rfl rfl),hS⟩
        · have hS:=hD; clear hD
          replace hf:Fr a 62 [] [(45,_),(1,_),(2,_)]:=hf.q rfl; refine mv hf rfl ?_; clear hf a; intro a hf; exact O.nil ⟨rfl,hf.to trivial,(gt (d:=46) hf rfl rfl),hS⟩
      · intro k g w hD a hf
        obtain ⟨vm,vp⟩:=g
        rcases k with _ | _ | _ | k
        · have hS:=hD; clear hD
          replace hf:Fr a 62 [] [(46,_),(1,_),(2,_)]:=hf.q rfl; refine og (v:=(fG fW fH vP)) hf rfl rfl (aA.bf (cs':=#[iV fW,iV fH,vP]) bK aj rfl (hS.p 0 rfl) (bl rfl) rfl) ?_; clear hf a; intro a hf; exact O.nil ⟨rfl,hf.to trivial,(gt (d:=47) hf rfl rfl),hS⟩
        · have hS:=hD; clear hD
          replace hf:Fr a 62 [] [(46,_),(1,_),(2,_)]:=hf.q rfl; refine og (v:=(fG fW fH vP)) hf rfl rfl (aA.bf (cs':=#[iV fW,iV fH,vP]) bK aj rfl (hS.p 1 rfl) (bl rfl) rfl) ?_; clear hf a; intro a hf; exact O.nil ⟨rfl,hf.to trivial,(gt (d:=47) hf rfl rfl),hS⟩
        · have hS:=hD; clear hD
          replace hf:Fr a 62 [] [(46,_),(1,_),(2,_)]:=hf.q rfl; refine og (v:=(fG fW fH vP)) hf rfl rfl (aA.bf (cs':=#[iV fW,iV fH,vP]) bK aj rfl (hS.p 2 rfl) (bl rfl) rfl) ?_; clear hf a; intro a hf; exact O.nil ⟨rfl,hf.to trivial,(gt (d:=47) hf rfl rfl),hS⟩
        · have hS:=hD; clear hD
          replace hf:Fr a 62 [] [(46,_),(1,_),(2,_)]:=hf.q rfl; refine og (v:=(fG fW fH vP)) hf rfl rfl (aA.bf (cs':=#[iV fW,iV fH,vP]) bK aj rfl (hS.p 2 rfl) (bl rfl) rfl) ?_; clear hf a; intro a hf; exact O.nil ⟨rfl,hf.to trivial,(gt (d:=47) hf rfl rfl),hS⟩
      · intro k g w hD a hf
        obtain ⟨vm,vp⟩:=g
        rcases k with _ | _ | _ | k
        · have hS:=hD; clear hD
          replace hf:Fr a 62 [] [(46,_),(1,_),(2,_)]:=hf.q rfl; refine og (v:=.pointer (some ⟨b_f1,2,none⟩)) hf rfl rfl (aA.field aP rfl rfl) ?_; clear hf a; intro a hf; exact O.nil ⟨rfl,hf.to trivial,(gt (d:=48) hf rfl rfl),hS⟩
        · have hS:=hD; clear hD
          replace hf:Fr a 62 [] [(46,_),(1,_),(2,_)]:=hf.q rfl; refine og (v:=.pointer (some ⟨b_f1,2,none⟩)) hf rfl rfl (aA.field aP rfl rfl) ?_; clear hf a; intro a hf; exact O.nil ⟨rfl,hf.to trivial,(gt (d:=48) hf rfl rfl),hS⟩
        · have hS:=hD; clear hD
          replace hf:Fr a 62 [] [(46,_),(1,_),(2,_)]:=hf.q rfl; refine og (v:=.pointer (some ⟨b_f1,2,none⟩)) hf rfl rfl (aA.field aP rfl rfl) ?_; clear hf a; intro a hf; exact O.nil ⟨rfl,hf.to trivial,(gt (d:=48) hf rfl rfl),hS⟩
        · have hS:=hD; clear hD
          replace hf:Fr a 62 [] [(46,_),(1,_),(2,_)]:=hf.q rfl; refine og (v:=.pointer (some ⟨b_f1,2,none⟩)) hf rfl rfl (aA.field aP rfl rfl) ?_; clear hf a; intro a hf; exact O.nil ⟨rfl,hf.to trivial,(gt (d:=48) hf rfl rfl),hS⟩
      · intro k g w hD a hf
        obtain ⟨vm,vp⟩:=g
        rcases k with _ | _ | _ | k
        · have hS:=hD; clear hD
          replace hf:Fr a 62 [] [(46,_),(48,_),(1,_),(2,_)]:=hf.q rfl; refine og (v:=vP) hf rfl rfl (aA.aT bB rfl (hS.p 0 rfl) rfl) ?_; clear hf a; intro a hf; exact O.nil ⟨rfl,hf.to trivial,(gt (d:=49) hf rfl rfl),hS⟩
        · have hS:=hD; clear hD
          replace hf:Fr a 62 [] [(46,_),(48,_),(1,_),(2,_)]:=hf.q rfl; refine og (v:=vP) hf rfl rfl (aA.aT bB rfl (hS.p 1 rfl) rfl) ?_; clear hf a; intro a hf; exact O.nil ⟨rfl,hf.to trivial,(gt (d:=49) hf rfl rfl),hS⟩
        · have hS:=hD; clear hD
          replace hf:Fr a 62 [] [(46,_),(48,_),(1,_),(2,_)]:=hf.q rfl; refine og (v:=vP) hf rfl rfl (aA.aT bB rfl (hS.p 2 rfl) rfl) ?_; clear hf a; intro a hf; exact O.nil ⟨rfl,hf.to trivial,(gt (d:=49) hf rfl rfl),hS⟩
        · have hS:=hD; clear hD
          replace hf:Fr a 62 [] [(46,_),(48,_),(1,_),(2,_)]:=hf.q rfl; refine og (v:=vP) hf rfl rfl (aA.aT bB rfl (hS.p 2 rfl) rfl) ?_; clear hf a; intro a hf; exact O.nil ⟨rfl,hf.to trivial,(gt (d:=49) hf rfl rfl),hS⟩
      · intro k g w hD a hf
        obtain ⟨vm,vp⟩:=g
        rcases k with _ | _ | _ | k
        · have hS:=hD; clear hD
          replace hf:Fr a 62 [] [(46,_),(49,_),(1,_),(2,_)]:=hf.q rfl; refine og (v:=iV (zs.length:Int)) hf rfl rfl (aA.bP (e:=2) (by simpa using aN) rfl (hS.aL (j:=0) rfl)) ?_; clear hf a; intro a hf; exact O.nil ⟨rfl,hf.to trivial,(gt (d:=50) hf rfl rfl),hS⟩
        · have hS:=hD; clear hD
          replace hf:Fr a 62 [] [(46,_),(49,_),(1,_),(2,_)]:=hf.q rfl; refine og (v:=iV (zs.length:Int)) hf rfl rfl (aA.bP (e:=2) (by simpa using aN) rfl (hS.aL (j:=0) rfl)) ?_; clear hf a; intro a hf; exact O.nil ⟨rfl,hf.to trivial,(gt (d:=50) hf rfl rfl),hS⟩
        · have hS:=hD; clear hD
          replace hf:Fr a 62 [] [(46,_),(49,_),(1,_),(2,_)]:=hf.q rfl; refine og (v:=iV (zs.length:Int)) hf rfl rfl (aA.bP (e:=2) (by simpa using aN) rfl (hS.aL (j:=0) rfl)) ?_; clear hf a; intro a hf; exact O.nil ⟨rfl,hf.to trivial,(gt (d:=50) hf rfl rfl),hS⟩
        · have hS:=hD; clear hD
          replace hf:Fr a 62 [] [(46,_),(49,_),(1,_),(2,_)]:=hf.q rfl; refine og (v:=iV (zs.length:Int)) hf rfl rfl (aA.bP (e:=2) (by simpa using aN) rfl (hS.aL (j:=0) rfl)) ?_; clear hf a; intro a hf; exact O.nil ⟨rfl,hf.to trivial,(gt (d:=50) hf rfl rfl),hS⟩
      · intro k g w hD a hf
        obtain ⟨vm,vp⟩:=g
        rcases k with _ | _ | _ | k
        · have hS:=hD; clear hD
          replace hf:Fr a 62 [] [(46,_),(1,_),(2,_)]:=hf.q rfl; refine og (v:=vL) hf rfl rfl (aA.move rfl) ?_; clear hf a; intro a hf; exact O.nil ⟨rfl,hf.to trivial,(gt (d:=51) hf rfl rfl),hS⟩
        · have hS:=hD; clear hD
          replace hf:Fr a 62 [] [(46,_),(1,_),(2,_)]:=hf.q rfl; refine og (v:=vL) hf rfl rfl (aA.move rfl) ?_; clear hf a; intro a hf; exact O.nil ⟨rfl,hf.to trivial,(gt (d:=51) hf rfl rfl),hS⟩
        · have hS:=hD; clear hD
          replace hf:Fr a 62 [] [(46,_),(1,_),(2,_)]:=hf.q rfl; refine og (v:=vL) hf rfl rfl (aA.move rfl) ?_; clear hf a; intro a hf; exact O.nil ⟨rfl,hf.to trivial,(gt (d:=51) hf rfl rfl),hS⟩
        · have hS:=hD; clear hD
          replace hf:Fr a 62 [] [(46,_),(1,_),(2,_)]:=hf.q rfl; refine og (v:=vL) hf rfl rfl (aA.move rfl) ?_; clear hf a; intro a hf; exact O.nil ⟨rfl,hf.to trivial,(gt (d:=51) hf rfl rfl),hS⟩
      · intro k g w hD a hf
        obtain ⟨vm,vp⟩:=g
        rcases k with _ | _ | _ | k
        · have hS:=hD; clear hD
          replace hf:Fr a 62 [] [(46,_),(1,_),(2,_)]:=hf.q rfl; refine og (v:=vL) hf rfl rfl (aA.move rfl) ?_; clear hf a; intro a hf; exact O.nil ⟨rfl,hf.to trivial,(gt (d:=53) hf rfl rfl),hS⟩
        · have hS:=hD; clear hD
          replace hf:Fr a 62 [] [(46,_),(1,_),(2,_)]:=hf.q rfl; refine og (v:=vL) hf rfl rfl (aA.move rfl) ?_; clear hf a; intro a hf; exact O.nil ⟨rfl,hf.to trivial,(gt (d:=53) hf rfl rfl),hS⟩
        · have hS:=hD; clear hD
          replace hf:Fr a 62 [] [(46,_),(1,_),(2,_)]:=hf.q rfl; refine og (v:=vL) hf rfl rfl (aA.move rfl) ?_; clear hf a; intro a hf; exact O.nil ⟨rfl,hf.to trivial,(gt (d:=53) hf rfl rfl),hS⟩
        · have hS:=hD; clear hD
          replace hf:Fr a 62 [] [(46,_),(1,_),(2,_)]:=hf.q rfl; refine og (v:=vL) hf rfl rfl (aA.move rfl) ?_; clear hf a; intro a hf; exact O.nil ⟨rfl,hf.to trivial,(gt (d:=53) hf rfl rfl),hS⟩
      · intro k g w hD a hf
        obtain ⟨vm,vp⟩:=g
        rcases k with _ | _ | _ | k
        · have hS:=hD; clear hD
          replace hf:Fr a 62 [] [(46,_),(53,_),(1,_),(2,_)]:=hf.q rfl; refine og (v:=ix vL 0) hf rfl rfl (aA.ixV (j:=0) (m:=0) aB aD rfl rfl (hS.aL (j:=1) rfl) rfl (by omega) (Nat.mul_one _)) ?_; clear hf a; intro a hf; exact O.nil ⟨rfl,hf.to trivial,(gt (d:=54) hf rfl rfl),hS⟩
        · have hS:=hD; clear hD
          replace hf:Fr a 62 [] [(46,_),(53,_),(1,_),(2,_)]:=hf.q rfl; refine og (v:=ix vL 0) hf rfl rfl (aA.ixV (j:=0) (m:=0) aB aD rfl rfl (hS.aL (j:=1) rfl) rfl (by omega) (Nat.mul_one _)) ?_; clear hf a; intro a hf; exact O.nil ⟨rfl,hf.to trivial,(gt (d:=54) hf rfl rfl),hS⟩
        · have hS:=hD; clear hD
          replace hf:Fr a 62 [] [(46,_),(53,_),(1,_),(2,_)]:=hf.q rfl; refine og (v:=ix vL 0) hf rfl rfl (aA.ixV (j:=0) (m:=0) aB aD rfl rfl (hS.aL (j:=1) rfl) rfl (by omega) (Nat.mul_one _)) ?_; clear hf a; intro a hf; exact O.nil ⟨rfl,hf.to trivial,(gt (d:=54) hf rfl rfl),hS⟩
        · have hS:=hD; clear hD
          replace hf:Fr a 62 [] [(46,_),(53,_),(1,_),(2,_)]:=hf.q rfl; refine og (v:=ix vL 0) hf rfl rfl (aA.ixV (j:=0) (m:=0) aB aD rfl rfl (hS.aL (j:=1) rfl) rfl (by omega) (Nat.mul_one _)) ?_; clear hf a; intro a hf; exact O.nil ⟨rfl,hf.to trivial,(gt (d:=54) hf rfl rfl),hS⟩
      · intro k g w hD a hf
        obtain ⟨vm,vp⟩:=g
        rcases k with _ | _ | _ | k
        · have hS:=hD; clear hD
          replace hf:Fr a 62 [] [(46,_),(54,_),(1,_),(2,_)]:=hf.q rfl; refine og (v:=iV (l.getD 0 0)) hf rfl rfl (aA.ld1 aH rfl (hS.aL (j:=1) rfl) (aI (by omega))) ?_; clear hf a; intro a hf; exact O.nil ⟨rfl,hf.to trivial,(gt (d:=55) hf rfl rfl),hS⟩
        · have hS:=hD; clear hD
          replace hf:Fr a 62 [] [(46,_),(54,_),(1,_),(2,_)]:=hf.q rfl; refine og (v:=iV (l.getD 0 0)) hf rfl rfl (aA.ld1 aH rfl (hS.aL (j:=1) rfl) (aI (by omega))) ?_; clear hf a; intro a hf; exact O.nil ⟨rfl,hf.to trivial,(gt (d:=55) hf rfl rfl),hS⟩
        · have hS:=hD; clear hD
          replace hf:Fr a 62 [] [(46,_),(54,_),(1,_),(2,_)]:=hf.q rfl; refine og (v:=iV (l.getD 0 0)) hf rfl rfl (aA.ld1 aH rfl (hS.aL (j:=1) rfl) (aI (by omega))) ?_; clear hf a; intro a hf; exact O.nil ⟨rfl,hf.to trivial,(gt (d:=55) hf rfl rfl),hS⟩
        · have hS:=hD; clear hD
          replace hf:Fr a 62 [] [(46,_),(54,_),(1,_),(2,_)]:=hf.q rfl; refine og (v:=iV (l.getD 0 0)) hf rfl rfl (aA.ld1 aH rfl (hS.aL (j:=1) rfl) (aI (by omega))) ?_; clear hf a; intro a hf; exact O.nil ⟨rfl,hf.to trivial,(gt (d:=55) hf rfl rfl),hS⟩
      · intro k g w hD a hf
        obtain ⟨vm,vp⟩:=g
        rcases k with _ | _ | _ | k
        · have hS:=hD; clear hD
          replace hf:Fr a 62 [] [(46,_),(1,_),(2,_)]:=hf.q rfl; refine og (v:=vL) hf rfl rfl (aA.move rfl) ?_; clear hf a; intro a hf; exact O.nil ⟨rfl,hf.to trivial,(gt (d:=58) hf rfl rfl),hS⟩
        · have hS:=hD; clear hD
          replace hf:Fr a 62 [] [(46,_),(1,_),(2,_)]:=hf.q rfl; refine og (v:=vL) hf rfl rfl (aA.move rfl) ?_; clear hf a; intro a hf; exact O.nil ⟨rfl,hf.to trivial,(gt (d:=58) hf rfl rfl),hS⟩
        · have hS:=hD; clear hD
          replace hf:Fr a 62 [] [(46,_),(1,_),(2,_)]:=hf.q rfl; refine og (v:=vL) hf rfl rfl (aA.move rfl) ?_; clear hf a; intro a hf; exact O.nil ⟨rfl,hf.to trivial,(gt (d:=58) hf rfl rfl),hS⟩
        · have hS:=hD; clear hD
          replace hf:Fr a 62 [] [(46,_),(1,_),(2,_)]:=hf.q rfl; refine og (v:=vL) hf rfl rfl (aA.move rfl) ?_; clear hf a; intro a hf; exact O.nil ⟨rfl,hf.to trivial,(gt (d:=58) hf rfl rfl),hS⟩
      · intro k g w hD a hf
        obtain ⟨vm,vp⟩:=g
        rcases k with _ | _ | _ | k
        · have hS:=hD; clear hD
          replace hf:Fr a 62 [] [(46,_),(58,_),(1,_),(2,_)]:=hf.q rfl; refine og (v:=iV (l.length:Int)) hf rfl rfl (aA.bP (e:=3) (by simpa using aB) rfl (hS.aL (j:=1) rfl)) ?_; clear hf a; intro a hf; exact O.nil ⟨rfl,hf.to trivial,(gt (d:=59) hf rfl rfl),hS⟩
        · have hS:=hD; clear hD
          replace hf:Fr a 62 [] [(46,_),(58,_),(1,_),(2,_)]:=hf.q rfl; refine og (v:=iV (l.length:Int)) hf rfl rfl (aA.bP (e:=3) (by simpa using aB) rfl (hS.aL (j:=1) rfl)) ?_; clear hf a; intro a hf; exact O.nil ⟨rfl,hf.to trivial,(gt (d:=59) hf rfl rfl),hS⟩
        · have hS:=hD; clear hD
          replace hf:Fr a 62 [] [(46,_),(58,_),(1,_),(2,_)]:=hf.q rfl; refine og (v:=iV (l.length:Int)) hf rfl rfl (aA.bP (e:=3) (by simpa using aB) rfl (hS.aL (j:=1) rfl)) ?_; clear hf a; intro a hf; exact O.nil ⟨rfl,hf.to trivial,(gt (d:=59) hf rfl rfl),hS⟩
        · have hS:=hD; clear hD
          replace hf:Fr a 62 [] [(46,_),(58,_),(1,_),(2,_)]:=hf.q rfl; refine og (v:=iV (l.length:Int)) hf rfl rfl (aA.bP (e:=3) (by simpa using aB) rfl (hS.aL (j:=1) rfl)) ?_; clear hf a; intro a hf; exact O.nil ⟨rfl,hf.to trivial,(gt (d:=59) hf rfl rfl),hS⟩
      · intro k g w hD a hf
        obtain ⟨vm,vp⟩:=g
        rcases k with _ | _ | _ | k
        · have hS:=hD; clear hD
          replace hf:Fr a 62 [] [(46,_),(57,_),(59,_),(1,_),(2,_)]:=hf.q rfl; refine og (v:=.bool (decide (((Det.part fW fH (Det.marks (fW*fH) l l.length) (l.getD 0 0).toNat).2.length:Int)=((l.length:Int):Int)))) hf rfl rfl (aA.eql rfl rfl) ?_; clear hf a; intro a hf; exact O.nil ⟨rfl,hf.to trivial,(gt (d:=60) hf rfl rfl),hS⟩
        · have hS:=hD; clear hD
          replace hf:Fr a 62 [] [(46,_),(57,_),(59,_),(1,_),(2,_)]:=hf.q rfl; refine og (v:=.bool (decide (((Det.part fW fH (Det.marks (fW*fH) l l.length) (l.getD 0 0).toNat).2.length:Int)=((l.length:Int):Int)))) hf rfl rfl (aA.eql rfl rfl) ?_; clear hf a; intro a hf; exact O.nil ⟨rfl,hf.to trivial,(gt (d:=60) hf rfl rfl),hS⟩
        · have hS:=hD; clear hD
          replace hf:Fr a 62 [] [(46,_),(57,_),(59,_),(1,_),(2,_)]:=hf.q rfl; refine og (v:=.bool (decide (((Det.part fW fH (Det.marks (fW*fH) l l.length) (l.getD 0 0).toNat).2.length:Int)=((l.length:Int):Int)))) hf rfl rfl (aA.eql rfl rfl) ?_; clear hf a; intro a hf; exact O.nil ⟨rfl,hf.to trivial,(gt (d:=60) hf rfl rfl),hS⟩
        · have hS:=hD; clear hD
          replace hf:Fr a 62 [] [(46,_),(57,_),(59,_),(1,_),(2,_)]:=hf.q rfl; refine og (v:=.bool (decide (((Det.part fW fH (Det.marks (fW*fH) l l.length) (l.getD 0 0).toNat).2.length:Int)=((l.length:Int):Int)))) hf rfl rfl (aA.eql rfl rfl) ?_; clear hf a; intro a hf; exact O.nil ⟨rfl,hf.to trivial,(gt (d:=60) hf rfl rfl),hS⟩
      · intro k g w hD a hf
        obtain ⟨vm,vp⟩:=g
        rcases k with _ | _ | _ | k
        · have hS:=hD; clear hD
          replace hf:Fr a 62 [] [(46,_),(60,_),(1,_),(2,_)]:=hf.q rfl; refine ov (v:=.bool (decide (((Det.part fW fH (Det.marks (fW*fH) l l.length) (l.getD 0 0).toNat).2.length:Int)=((l.length:Int):Int)))) hf rfl (aA.pick rfl rfl rfl rfl) ?_; clear hf a; intro a hf; exact O.nil ⟨rfl,hf.to trivial,(gt (d:=61) hf rfl rfl),hS⟩
        · have hS:=hD; clear hD
          replace hf:Fr a 62 [] [(46,_),(60,_),(1,_),(2,_)]:=hf.q rfl; refine ov (v:=.bool (decide (((Det.part fW fH (Det.marks (fW*fH) l l.length) (l.getD 0 0).toNat).2.length:Int)=((l.length:Int):Int)))) hf rfl (aA.pick rfl rfl rfl rfl) ?_; clear hf a; intro a hf; exact O.nil ⟨rfl,hf.to trivial,(gt (d:=61) hf rfl rfl),hS⟩
        · have hS:=hD; clear hD
          replace hf:Fr a 62 [] [(46,_),(60,_),(1,_),(2,_)]:=hf.q rfl; refine ov (v:=.bool (decide (((Det.part fW fH (Det.marks (fW*fH) l l.length) (l.getD 0 0).toNat).2.length:Int)=((l.length:Int):Int)))) hf rfl (aA.pick rfl rfl rfl rfl) ?_; clear hf a; intro a hf; exact O.nil ⟨rfl,hf.to trivial,(gt (d:=61) hf rfl rfl),hS⟩
        · have hS:=hD; clear hD
          replace hf:Fr a 62 [] [(46,_),(60,_),(1,_),(2,_)]:=hf.q rfl; refine ov (v:=.bool (decide (((Det.part fW fH (Det.marks (fW*fH) l l.length) (l.getD 0 0).toNat).2.length:Int)=((l.length:Int):Int)))) hf rfl (aA.pick rfl rfl rfl rfl) ?_; clear hf a; intro a hf; exact O.nil ⟨rfl,hf.to trivial,(gt (d:=61) hf rfl rfl),hS⟩
      · intro k g w hD a hf
        obtain ⟨vm,vp⟩:=g
        rcases k with _ | _ | _ | k
        · have hS:=hD; clear hD
          replace hf:Fr a 62 [] [(43,_),(44,_),(45,_),(46,_),(47,_),(48,_),(49,_),(50,_),(51,_),(52,_),(53,_),(54,_),(55,_),(56,_),(57,_),(58,_),(59,_),(60,_),(61,_),(1,_),(2,_)]:=hf.q rfl; refine mv hf rfl ?_; clear hf a; intro a hf; exact O.nil ⟨rfl,hf.to trivial,(gt (d:=4) hf rfl rfl),hS⟩
        · have hS:=hD; clear hD
          replace hf:Fr a 62 [] [(43,_),(44,_),(45,_),(46,_),(47,_),(48,_),(49,_),(50,_),(51,_),(52,_),(53,_),(54,_),(55,_),(56,_),(57,_),(58,_),(59,_),(60,_),(61,_),(1,_),(2,_)]:=hf.q rfl; refine mv hf rfl ?_; clear hf a; intro a hf; exact O.nil ⟨rfl,hf.to trivial,(gt (d:=4) hf rfl rfl),hS⟩
        · have hS:=hD; clear hD
          replace hf:Fr a 62 [] [(43,_),(44,_),(45,_),(46,_),(47,_),(48,_),(49,_),(50,_),(51,_),(52,_),(53,_),(54,_),(55,_),(56,_),(57,_),(58,_),(59,_),(60,_),(61,_),(1,_),(2,_)]:=hf.q rfl; refine mv hf rfl ?_; clear hf a; intro a hf; exact O.nil ⟨rfl,hf.to trivial,(gt (d:=4) hf rfl rfl),hS⟩
        · have hS:=hD; clear hD
          replace hf:Fr a 62 [] [(43,_),(44,_),(45,_),(46,_),(47,_),(48,_),(49,_),(50,_),(51,_),(52,_),(53,_),(54,_),(55,_),(56,_),(57,_),(58,_),(59,_),(60,_),(61,_),(1,_),(2,_)]:=hf.q rfl; refine mv hf rfl ?_; clear hf a; intro a hf; exact O.nil ⟨rfl,hf.to trivial,(gt (d:=4) hf rfl rfl),hS⟩
    · clear hf hS
      refine ⟨?_,?_,?_,trivial⟩
      · intro g w hD a hf
        obtain ⟨vm,vp⟩:=g; have hS:=hD; clear hD; replace hf:Fr a 62 [] [(46,_),(50,_),(51,_),(1,_),(2,_)]:=hf.q rfl; rw [show ((zs.length:Nat):Int)=((fW*fH:Nat):Int) from by rw [hn]] at hf; refine O.gM hf rfl rfl rfl rfl rfl rfl (dS.call (av:=#[iV ((fW*fH:Nat):Int),vL]) y8 rfl rfl rfl) (pX (fW*fH) vL l _ (hS.aL (j:=1) rfl) (by omega) (fun i hi=>(h2 i (by omega)).1)) ?_; clear hf a; rintro vm w9 hS1 a hf; replace hS:=hS.cl hS1; exact O.nil ⟨rfl,(vm,vp),hf.to trivial,(gt (d:=52) hf rfl rfl),(fun j hj=>match j,hj with | 0,hj=>rfl | 1,hj=>rfl | 2,hj=>rfl | 3,hj=>rfl | 4,hj=>rfl | 5,hj=>rfl | 6,hj=>rfl | 7,hj=>rfl | 8,hj=>rfl | 9,hj=>absurd hj (by decide) | 10,hj=>rfl | 11,hj=>rfl | 12,hj=>rfl | 13,hj=>absurd hj (by decide) | 14,hj=>absurd hj (by decide) | 15,hj=>rfl | 16,hj=>rfl | 17,hj=>rfl | 18,hj=>rfl | 19,hj=>rfl | _+20,_=>rfl),hS⟩
      · intro g w hD a hf
        obtain ⟨vm,vp⟩:=g; have hS:=hD; clear hD; replace hf:Fr a 62 [] [(46,_),(47,_),(52,_),(55,_),(1,_),(2,_)]:=hf.q rfl; rw [show l.getD 0 0=(((l.getD 0 0).toNat:Nat):Int) from by omega] at hf; refine O.gM hf rfl rfl rfl rfl rfl rfl (dS.call (av:=#[(fG fW fH vP),vm,iV ((l.getD 0 0).toNat:Int)]) yT rfl rfl rfl) (nZ fW fH (l.getD 0 0).toNat vP vm zs (Det.marks (fW*fH) l l.length) _ hW hH hn (Det.gK _ _ _) (by omega) (hS.aL (j:=0) rfl) (hS.iJ (j:=0) rfl) (fun b g1 g2=>hS.apart (i:=0) (j:=0) rfl rfl b ⟨g1,g2⟩)) ?_; clear hf a; rintro vp w10 hS1 a hf; replace hS:=(hS.dA hS1 (i:=0) rfl (fun _ h=>h)).eqM (N:=[sl 3 1 vp ((Det.part fW fH (Det.marks (fW*fH) l l.length) (l.getD 0 0).toNat).2.length) (ints (Det.part fW fH (Det.marks (fW*fH) l l.length) (l.getD 0 0).toNat).2),sl 4 1 vm (((Det.part fW fH (Det.marks (fW*fH) l l.length) (l.getD 0 0).toNat).1).length) (bools ((Det.part fW fH (Det.marks (fW*fH) l l.length) (l.getD 0 0).toNat).1)),pt b_f1 (.cells #[iV fW,iV fH,vP] 24 (0,0))]) rfl; exact O.nil ⟨rfl,(vm,vp),hf.to trivial,(gt (d:=56) hf rfl rfl),(fun j hj=>match j,hj with | 0,hj=>rfl | 1,hj=>rfl | 2,hj=>rfl | 3,hj=>rfl | 4,hj=>rfl | 5,hj=>rfl | 6,hj=>rfl | 7,hj=>rfl | 8,hj=>rfl | 9,hj=>rfl | 10,hj=>rfl | 11,hj=>rfl | 12,hj=>rfl | 13,hj=>absurd hj (by decide) | 14,hj=>absurd hj (by decide) | 15,hj=>rfl | 16,hj=>rfl | 17,hj=>rfl | 18,hj=>rfl | 19,hj=>rfl | _+20,_=>rfl),hS⟩
      · intro g w hD a hf
        obtain ⟨vm,vp⟩:=g; have hS:=hD; clear hD; replace hf:Fr a 62 [] [(46,_),(56,_),(1,_),(2,_)]:=hf.q rfl; refine og (v:=iV ((Det.part fW fH (Det.marks (fW*fH) l l.length) (l.getD 0 0).toNat).2.length:Int)) hf rfl rfl (aA.bP (e:=3) (by simpa using aB) rfl (hS.slr (j:=0) rfl)) ?_; clear hf a; intro a hf; exact O.nil ⟨rfl,(vm,vp),hf.to trivial,(gt (d:=57) hf rfl rfl),(fun j hj=>match j,hj with | 0,hj=>rfl | 1,hj=>rfl | 2,hj=>rfl | 3,hj=>rfl | 4,hj=>rfl | 5,hj=>rfl | 6,hj=>rfl | 7,hj=>rfl | 8,hj=>rfl | 9,hj=>rfl | 10,hj=>rfl | 11,hj=>rfl | 12,hj=>rfl | 13,hj=>rfl | 14,hj=>absurd hj (by decide) | 15,hj=>rfl | 16,hj=>rfl | 17,hj=>rfl | 18,hj=>rfl | 19,hj=>rfl | _+20,_=>rfl),hS⟩
    clear hf hS; intro g a w hf hD; obtain ⟨vm,vp⟩:=g; have hS:=hD; clear hD; replace hf:Fr a 62 [] [(43,_),(44,_),(45,_),(46,_),(47,_),(48,_),(49,_),(50,_),(51,_),(52,_),(53,_),(54,_),(55,_),(56,_),(57,_),(58,_),(59,_),(60,_),(61,_),(4,_),(1,_),(2,_)]:=hf.q rfl; refine aF<|W.ret<|bH hf rfl (aO.tmp rfl)<|?_; refine ⟨(),?_,hS.sub (List.nil_sublist _) |>.noB⟩
    apply congrArg Ending.returned; apply congrArg Value.bool; apply decide_eq_decide.2; constructor
    · intro h; exact ⟨h2,hpos,by omega⟩
    · intro h; have:=h.2.2; omega
theorem oC (fW fH:Nat) (vP vL:Value) (zs l:List Int) (w0:World) (hc:Det.conn fW fH l) (hW:1≤fW∧fW≤100) (hH:1≤fH∧fH≤100) (hn:zs.length=fW*fH) (hP:aQ (hp w0) 1 vP zs.length (ints zs)) (hL:aQ (hp w0) 1 vL l.length (ints l)) :
    Ret Tryz.prog 20 #[(fG fW fH vP),vL] w0 (G:=Unit) (fun _=>.bool true) (fun _ w=>St w0 w noX [] []):=by
  haveI:Decidable (Det.conn fW fH l):=.isTrue hc; have h:=vz fW fH vP vL zs l w0 hW hH hn hP hL hc.2.1; rw [show decide (Det.conn fW fH l)=true from decide_eq_true hc] at h; exact h
set_option maxHeartbeats 1000000 in
set_option maxRecDepth 4000 in
theorem uN (fW fH:Nat) (least:Int) (vP va:Value) (zs:List Int) (vs:List Value) (xss:List (List Int)) (w0:World) (hW:1≤fW∧fW≤100) (hH:1≤fH∧fH≤100) (hn:zs.length=fW*fH) (hP:aQ (hp w0) 1 vP zs.length (ints zs)) (ha:aQ (hp w0) 1 va vs.length vs) (hia:bS (hp w0) vs xss) (hgood:∀ x ∈ xss,Det.conn fW fH x∧least≤(x.length:Int)) (hrng:∀ x ∈ xss,∀ t ∈ x,0≤t∧t<((fW*fH:Nat):Int)) (hap:xss.Pairwise (fun a b=>∀ t ∈ a,t ∉ b)) :
    Ret Tryz.prog 18 #[(fG fW fH vP),va,iV least] w0 (G:=Value) (fun v=>.tuple #[v,.bool true]) (fun v w=>St w0 w noX [] [sl 3 1 v (Det.own (fW*fH) xss xss.length).length (ints (Det.own (fW*fH) xss xss.length))]):=by
  refine aR (lv:=[(fG fW fH vP),va,iV least]) Tryz.func18 rfl rfl rfl (fun a hf=>?_); replace hf:Fr a 78 [] [(0,(fG fW fH vP)),(1,va),(2,iV least)]:=hf; have hS:St w0 w0 noX [rI vP zs,rdv 1 va vs.length vs,inn vs xss] []:=(((St.refl w0).mg hia).bO ha).bO hP; have hN:fW*fH≤10000:=Nat.mul_le_mul hW.2 hH.2; have hlen:=ha.2.1; unfold maxLen at hlen; have hxl:=hia.1; refine W.seq ?_
  refine R3 rfl<|O.box (cs:=#[iV fW,iV fH,vP]) hf hS rfl rfl rfl rfl<|?_; intro b_f1 w a hbb_f1 hS hf; refine mv hf rfl fun a hf=>mv hf rfl fun a hf=>?_; refine nk<|W.seq<|?_
  refine R5 rfl<|ov hf rfl (aA.field aP rfl rfl)<|fun a hf=>ov hf rfl (aA.aT bB rfl (hS.p 0 rfl) rfl) fun a hf=>ov hf rfl (aA.bP (e:=2) (by simpa using aN) rfl (hS.aL (j:=0) rfl)) fun a hf=>?_; refine O.make (N:=zs.length) hf hS rfl rfl aB aD gF bY rfl rfl (by unfold maxLen; omega) (by omega) ?_; intro b_m2 w a hbb_m2 hS hf; have hS:=hS.eqM (N:=[sl 3 1 (.slice (some ⟨b_m2,0,none⟩) zs.length zs.length) zs.length (ints (List.replicate zs.length (0:Int))),pt b_f1 (.cells #[iV fW,iV fH,vP] 24 (0,0))]) (by rw [zq]); refine mv hf rfl fun a hf=>?_; refine O.nil ?_; obtain ⟨vm,hvm⟩:∃ vm,(.slice (some ⟨b_m2,0,none⟩) zs.length zs.length:Value)=vm:=⟨_,rfl⟩; rw [hvm] at hf hS; clear hvm; replace hS:=hS.eqM (N:=[sl 3 1 vm ((List.replicate zs.length (0:Int)).length) (ints (List.replicate zs.length (0:Int))),pt b_f1 (.cells #[iV fW,iV fH,vP] 24 (0,0))]) (by simp); refine aF<|W.seq<|W.seq<|?_
  refine R1 rfl<|mv hf rfl<|fun a hf=>?_; refine nk<|W.block<|?_
  refine W.loop (G:=(Nat) × (List Int)) (fun g a w=>match g with | (k,of)=>Fr a 78 [] [(1,va),(2,iV least),(3,(pp b_f1)),(6,.slice none 0 0),(7,.bool false),(8,vm),(9,iV k)]∧St w0 w noX [rI vP zs,rdv 1 va vs.length vs,inn vs xss] [sl 3 1 vm of.length (ints of),pt b_f1 (.cells #[iV fW,iV fH,vP] 24 (0,0))]∧(k≤zs.length)∧(of=(List.replicate k (-1)++List.replicate (zs.length-k) 0))∧(of.length=zs.length)) (fun g=>match g with | (k,of)=>zs.length-k) (0,(List.replicate zs.length (0:Int))) ?_ ?_
  · refine ⟨hf.to ⟨rfl,rfl,rfl,rfl,rfl,rfl,(by first | rfl | exact vI (by omega)),trivial⟩,hS,?_,?_,?_⟩
    · omega
    · simp
    · simp
  clear hf hS a; rintro ⟨k,of⟩ a w ⟨hf,hS,h1,h2,h3⟩; refine W.seq<|W.seq<|?_
  refine R4 rfl<|mv hf rfl<|fun a hf=>mv hf rfl fun a hf=>ov hf rfl (aA.bP (e:=3) (by simpa using aB) rfl (hS.slr (j:=0) rfl)) fun a hf=>ov (v:=.bool (decide ((k:Int)<((of.length:Int):Int)))) hf rfl (aA.lss rfl rfl) fun a hf=>?_; refine nk ?_; refine W.bJ hf rfl (fun hk1=>?_) (fun hk1=>?_)
  · refine W.skip ?_
    refine aF<|W.seq<|W.block<|?_
    refine R4 rfl<|mv hf rfl<|fun a hf=>mv hf rfl fun a hf=>ov hf rfl (aA.ixV (j:=k) (m:=k) aB aD rfl rfl (hS.slr (j:=0) rfl) rfl (by omega) (Nat.mul_one _)) fun a hf=>?_; refine O.bF (j:=0) (m:=k) (xs':=ints (of.set k (-1))) (M':=[sl 3 1 vm of.length (ints (of.set k (-1))),pt b_f1 (.cells #[iV fW,iV fH,vP] 24 (0,0))]) hf hS rfl rfl rfl aD rfl rfl rfl (by simp only [ai,List.length_set]; omega) ints_set rfl rfl ?_; intro w hS; refine O.nil<|aG<|aF<|?_
    refine R3 rfl<|mv hf rfl<|fun a hf=>ov hf rfl (aA.ak rfl rfl (by omega)) fun a hf=>mv hf rfl fun a hf=>?_; refine O.nil ?_; refine aS ⟨(k+1,(of.set k (-1))),⟨hf.to ⟨rfl,rfl,rfl,rfl,rfl,rfl,(by first | rfl | exact vI (by omega)),trivial⟩,?_,?_,?_,?_⟩,?_⟩
    · exact hS.eqM (by rw [List.length_set])
    · omega
    · rw [h2]; exact Det.zy (by omega)
    · simp only [List.length_set]; exact h3
    · dsimp only; omega
  · refine W.exit ?_
    refine aC<|aC<|bD<|aF<|W.seq<|W.seq<|?_
    refine R1 rfl<|mv hf rfl<|fun a hf=>?_; refine nk<|W.block<|?_
    refine W.loop (G:=(Nat) × (List Int)) (fun g a w=>match g with | (s,of1)=>Fr a 78 [] [(1,va),(2,iV least),(3,(pp b_f1)),(8,vm),(10,iV s)]∧St w0 w noX [rI vP zs,rdv 1 va vs.length vs,inn vs xss] [sl 3 1 vm of1.length (ints of1),pt b_f1 (.cells #[iV fW,iV fH,vP] 24 (0,0))]∧(s≤vs.length)∧(of1=(Det.own (fW*fH) xss s))∧(of1.length=fW*fH)) (fun g=>match g with | (s,of1)=>vs.length-s) (0,of) ?_ ?_
    · refine ⟨hf.to ⟨rfl,rfl,rfl,rfl,(by first | rfl | exact vI (by omega)),trivial⟩,hS,?_,?_,?_⟩
      · omega
      · rw [h2,show k=fW*fH from by omega,show zs.length-fW*fH=0 from by omega]; simp [Det.own]
      · omega
    clear hf hS a; rintro ⟨s,of1⟩ a w ⟨hf,hS,g1,hof1,g3⟩; refine W.seq<|W.seq<|?_
    refine R4 rfl<|mv hf rfl<|fun a hf=>mv hf rfl fun a hf=>ov hf rfl (aA.bP (e:=26) (by simpa using ah) rfl (hS.aL (j:=1) rfl)) fun a hf=>ov (v:=.bool (decide ((s:Int)<((vs.length:Int):Int)))) hf rfl (aA.lss rfl rfl) fun a hf=>?_; refine nk ?_; replace hf:Fr a 78 [] [(1,_),(2,_),(3,_),(8,_),(10,_),(28,_)]:=hf.q rfl; refine W.bJ hf rfl (fun hs1=>?_) (fun hs1=>?_)
    · refine W.skip ?_
      refine aF<|W.seq<|W.block<|W.seq<|W.seq<|?_
      refine W.dY (fun w=>St w0 w noX [rI vP zs,rdv 1 va vs.length vs,inn vs xss] [sl 3 1 vm of1.length (ints of1),pt b_f1 (.cells #[iV fW,iV fH,vP] 24 (0,0))]) aV rfl (by kernel_rfl) rfl hS.drew ?_; clear hS; refine OQ.val (v:=(fG fW fH vP)) hf rfl (fun w hS=>aA.bf (cs':=#[iV fW,iV fH,vP]) bK aj rfl (hS.p 1 rfl) (bl rfl) rfl) fun a hf=>q0 hf rfl rfl fun a hf=>q0 hf rfl rfl fun a hf=>OQ.val (v:=ix va s) hf rfl (fun w hS=>aA.ixV (j:=s) (m:=s) ah ay rfl rfl (hS.aL (j:=1) rfl) rfl (by omega) (Nat.mul_one _)) fun a hf=>OQ.val (v:=(vs.getD s undef)) hf rfl (fun w hS=>aA.ld1 bG rfl (hS.aL (j:=1) rfl) (gP (by omega))) fun a hf=>OQ.gT (v:=.bool true) hf rfl (fun w hS=>dS.call (av:=#[(fG fW fH vP),(vs.getD s undef)]) yM rfl rfl rfl) (fun w hS=>oC fW fH vP (vs.getD s undef) zs (xss.getD s []) _ (hgood _ (Det.at_mem (by omega))).1 hW hH hn (hS.aL (j:=0) rfl) ((hS.iI (j:=2) rfl).get (i:=s) (by omega))) fun a hf=>OQ.val (v:=.bool false) hf rfl (fun w hS=>aA.not (b:=true) rfl) fun a hf=>q0 hf rfl rfl fun a hf=>gm hf rfl rfl rfl rfl rfl fun a hf=>gm hf rfl rfl rfl rfl rfl fun a hf=>OQ.gval (v:=ix va s) hf rfl rfl rfl rfl (fun w hS=>aA.ixV (j:=s) (m:=s) ah ay rfl rfl (hS.aL (j:=1) rfl) rfl (by omega) (Nat.mul_one _)) fun a hf=>OQ.gval (v:=(vs.getD s undef)) hf rfl rfl rfl rfl (fun w hS=>aA.ld1 bG rfl (hS.aL (j:=1) rfl) (gP (by omega))) fun a hf=>OQ.gval (v:=iV ((xss.getD s []).length:Int)) hf rfl rfl rfl rfl (fun w hS=>aA.bP (e:=3) (by simpa using aB) rfl (bS.get (hS.iI (j:=2) rfl) (i:=s) (by omega))) fun a hf=>gm hf rfl rfl rfl rfl rfl fun a hf=>OQ.gval (v:=.bool (decide (((xss.getD s []).length:Int)<(least:Int)))) hf rfl rfl rfl rfl (fun w hS=>aA.lss rfl rfl) fun a hf=>OQ.val (v:=.bool (decide (((xss.getD s []).length:Int)<(least:Int)))) hf rfl (fun w hS=>aA.pick rfl rfl rfl rfl) fun a hf=>?_; refine OQ.nil ?_; intro w hS; refine aF ?_; refine W.bJ hf rfl (fun hsm=>?_) (fun hsm=>?_)
      · exfalso; have:=(hgood _ (Det.at_mem (q:=s) (by omega))).2; omega
      · refine W.skip ?_
        refine aF<|W.seq<|?_
        refine R1 rfl<|mv hf rfl<|fun a hf=>?_; refine nk<|W.block<|?_
        refine W.loop (G:=(Nat) × (List Int)) (fun g a w=>match g with | (k,of2)=>Fr a 78 [] [(1,va),(2,iV least),(3,(pp b_f1)),(8,vm),(10,iV s),(11,iV k)]∧St w0 w noX [rI vP zs,rdv 1 va vs.length vs,inn vs xss] [sl 3 1 vm of2.length (ints of2),pt b_f1 (.cells #[iV fW,iV fH,vP] 24 (0,0))]∧(k≤(xss.getD s []).length)∧(of2=Det.ig (Det.own (fW*fH) xss s) (xss.getD s []) (s:Int) k)∧(of2.length=fW*fH)) (fun g=>match g with | (k,of2)=>(xss.getD s []).length-k) (0,of1) ?_ ?_
        · refine ⟨hf.to ⟨rfl,rfl,rfl,rfl,rfl,(by first | rfl | exact vI (by omega)),trivial⟩,hS,?_,?_,?_⟩
          · omega
          · rw [hof1]; rfl
          · exact g3
        clear hf hS a; rintro ⟨k,of2⟩ a w ⟨hf,hS,g5,hof2,g4⟩; refine W.seq<|W.seq<|?_
        refine R7 rfl ?_; have hl4:=(hS.iI (j:=2) rfl).get (i:=s) (by omega) |>.2.1; unfold maxLen at hl4; refine mv hf rfl fun a hf=>mv hf rfl fun a hf=>mv hf rfl fun a hf=>ov hf rfl (aA.ixV (j:=s) (m:=s) ah ay rfl rfl (hS.aL (j:=1) rfl) rfl (by omega) (Nat.mul_one _)) fun a hf=>ov hf rfl (aA.ld1 bG rfl (hS.aL (j:=1) rfl) (gP (by omega))) fun a hf=>ov hf rfl (aA.bP (e:=3) (by simpa using aB) rfl (bS.get (hS.iI (j:=2) rfl) (i:=s) (by omega))) fun a hf=>ov (v:=.bool (decide ((k:Int)<(((xss.getD s []).length:Int):Int)))) hf rfl (aA.lss rfl rfl) fun a hf=>?_; refine nk ?_; refine W.bJ hf rfl (fun hk2=>?_) (fun hk2=>?_)
        · refine W.skip ?_
          refine aF<|W.seq<|W.block<|W.seq<|W.seq<|?_
          refine W.aY (l:=[0,1,2,3,4,5,6,7,8,9,10]) rfl ?_; have hel:=hrng _ (Det.at_mem (ss:=xss) (q:=s) (by omega)) _ (Det.bL (l:=(xss.getD s [])) (j:=k) (by omega)); refine mv hf rfl fun a hf=>mv hf rfl fun a hf=>mv hf rfl fun a hf=>ov hf rfl (aA.ixV (j:=s) (m:=s) ah ay rfl rfl (hS.aL (j:=1) rfl) rfl (by omega) (Nat.mul_one _)) fun a hf=>ov hf rfl (aA.ld1 bG rfl (hS.aL (j:=1) rfl) (gP (by omega))) fun a hf=>mv hf rfl fun a hf=>ov hf rfl (aA.ixV (j:=k) (m:=k) aB aD rfl rfl (bS.get (hS.iI (j:=2) rfl) (i:=s) (by omega)) rfl (by omega) (Nat.mul_one _)) fun a hf=>ov hf rfl (aA.ld1 aH rfl (bS.get (hS.iI (j:=2) rfl) (i:=s) (by omega)) (aI (by omega))) fun a hf=>ov hf rfl (aA.ixV (j:=(Int.toNat ((xss.getD s []).getD k 0))) (m:=(Int.toNat ((xss.getD s []).getD k 0))) aB aD rfl rfl (hS.slr (j:=0) rfl) (by rw [Int.toNat_of_nonneg (by omega)]) (by omega) (Nat.mul_one _)) fun a hf=>ov hf rfl (aA.ld1 aH rfl (hS.slr (j:=0) rfl) (aI (by omega))) fun a hf=>ov (v:=.bool (decide ((of2.getD (Int.toNat ((xss.getD s []).getD k 0)) 0)≥(0:Int)))) hf rfl (aA.geq rfl rfl) fun a hf=>?_; refine nk ?_; refine W.bJ hf rfl (fun hfree=>?_) (fun hfree=>?_)
          · exfalso; have:=Det.aBA hrng hap (s:=s) (k:=k) (by omega) (by omega) (hgood _ (Det.at_mem (by omega))).1.1; rw [← hof2] at this; omega
          · refine W.skip ?_
            refine aF ?_
            refine W.aY (l:=[0,1,2,3,4,5,6,7,8,9,10]) rfl<|mv hf rfl<|fun a hf=>?_; refine mv hf rfl fun a hf=>mv hf rfl fun a hf=>ov hf rfl (aA.ixV (j:=s) (m:=s) ah ay rfl rfl (hS.aL (j:=1) rfl) rfl (by omega) (Nat.mul_one _)) fun a hf=>ov hf rfl (aA.ld1 bG rfl (hS.aL (j:=1) rfl) (gP (by omega))) fun a hf=>mv hf rfl fun a hf=>ov hf rfl (aA.ixV (j:=k) (m:=k) aB aD rfl rfl (bS.get (hS.iI (j:=2) rfl) (i:=s) (by omega)) rfl (by omega) (Nat.mul_one _)) fun a hf=>ov hf rfl (aA.ld1 aH rfl (bS.get (hS.iI (j:=2) rfl) (i:=s) (by omega)) (aI (by omega))) fun a hf=>mv hf rfl fun a hf=>ov hf rfl (aA.ixV (j:=(Int.toNat ((xss.getD s []).getD k 0))) (m:=(Int.toNat ((xss.getD s []).getD k 0))) aB aD rfl rfl (hS.slr (j:=0) rfl) (by rw [Int.toNat_of_nonneg (by omega)]) (by omega) (Nat.mul_one _)) fun a hf=>?_; refine O.bF (j:=0) (m:=(Int.toNat ((xss.getD s []).getD k 0))) (xs':=ints (of2.set (Int.toNat ((xss.getD s []).getD k 0)) (s:Int))) (M':=[sl 3 1 vm of2.length (ints (of2.set (Int.toNat ((xss.getD s []).getD k 0)) (s:Int))),pt b_f1 (.cells #[iV fW,iV fH,vP] 24 (0,0))]) hf hS rfl rfl rfl aD rfl rfl rfl (by simp only [ai,List.length_set]; omega) ints_set rfl rfl ?_; intro w hS; refine O.nil<|aG<|aF<|?_
            refine R3 rfl<|mv hf rfl<|fun a hf=>ov hf rfl (aA.ak rfl rfl (by omega)) fun a hf=>mv hf rfl fun a hf=>?_; refine O.nil ?_; refine aS ⟨(k+1,(of2.set (Int.toNat ((xss.getD s []).getD k 0)) (s:Int))),⟨hf.to ⟨rfl,rfl,rfl,rfl,rfl,(by first | rfl | exact vI (by omega)),trivial⟩,?_,?_,?_,?_⟩,?_⟩
            · exact hS.eqM (by rw [List.length_set])
            · omega
            · rw [hof2]; rfl
            · simp only [List.length_set]; exact g4
            · dsimp only; omega
        · refine W.exit ?_
          refine aC<|aC<|bD<|aG<|aF<|?_
          refine R3 rfl<|mv hf rfl<|fun a hf=>ov hf rfl (aA.ak rfl rfl (by omega)) fun a hf=>mv hf rfl fun a hf=>?_; refine O.nil ?_; refine aS ⟨(s+1,of2),⟨hf.to ⟨rfl,rfl,rfl,rfl,(by first | rfl | exact vI (by omega)),trivial⟩,?_,?_,?_,?_⟩,?_⟩
          · exact hS.eqM rfl
          · omega
          · obtain rfl:k=(xss.getD s []).length:=by omega
            rw [hof2]; rfl
          · exact g4
          · dsimp only; omega
    · refine W.exit ?_
      refine aC<|aC<|bD<|aF<|W.seq<|?_
      refine R3 rfl<|mv hf rfl<|fun a hf=>mv hf rfl fun a hf=>mv hf rfl fun a hf=>?_; refine nk<|W.ret<|eG hf rfl (aO.tmp rfl) (aO.tmp rfl)<|?_; obtain rfl:s=vs.length:=by omega
      subst hof1
      rw [hxl] at hS; exact ⟨vm,rfl,(hS.sub (.cons_cons _ (.cons _ .slnil))).noB⟩
theorem zI (fW fH:Nat) (thr least:Int) (vP vB:Value) (zs:List Int) (bs:List Bool) (w0:World) (hfo:Det.aM fW fH zs) (hn:zs.length=fW*fH) (hbl:bs.length=zs.length) (ht:-4294967296≤thr∧thr≤4294967296) (hle:1≤least) (hP:aQ (hp w0) 1 vP zs.length (ints zs)) (hB:aQ (hp w0) 1 vB bs.length (bools bs)) :
    Ret Tryz.prog 17 #[(fG fW fH vP),vB,iV thr,iV least] w0 (G:=Value × List Value) (fun g=>.tuple #[g.1,iV 0]) (fun g w=>St w0 w noX [] [sl 26 1 g.1 g.2.length g.2,inn g.2 (Det.sets fW fH zs bs thr least)]):=by
  haveI:Decidable (Det.aM fW fH zs):=.isTrue hfo; have h:=nY fW fH thr least vP vB zs bs w0 hP hB; have he:Det.bg fW fH zs bs thr least=0:=by unfold Det.bg; rw [if_pos hfo,if_pos ⟨hbl,ht.1,ht.2,hle⟩]
  rw [he,Det.xX he hn] at h; exact h
end Go.Proofs.YtipfobacinmoiaaGreat
