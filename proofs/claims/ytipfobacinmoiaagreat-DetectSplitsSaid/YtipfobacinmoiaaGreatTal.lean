/- Part of a proof: laws and walks. -/
import Derived.Test.YtipfobacinmoiaaGreatTac
import Derived.Test.YtipfobacinmoiaaGreatTag
import Derived.Test.YtipfobacinmoiaaGreatTab
import Derived.Test.YtipfobacinmoiaaGreatTah
import Derived.Test.YtipfobacinmoiaaGreatTak
set_option linter.unusedVariables false
set_option linter.unusedSimpArgs false
namespace Go.SL
open Go
def fps (M:List Asr):Nat→Prop:=fun b=>∃ p ∈ M,p.fp b
def Lt (w:World) (X:Nat→Prop) (p:Asr):Prop:=p.holds (hp w)∧∀ b,p.fp b→b<w.heap.size∧¬ X b
section
variable {h:Hp} {m:Nat} {old:Nat→Prop} {w w0 w1 w2 w':World} {X X':Nat→Prop} {B M N K:List Asr} {p q:Asr} {i j e:Nat} {v:Value} {x:List Int} {vs:List Value} {xss:List (List Int)}
theorem Sep.own1 {M0:List Asr}:∀ {M:List Asr},(∀ p ∈ M,p ∈ M0)→Sep h m old M→Sep h m (fun b=>fps M0 b∨m≤b) M
  | [],_,_=>trivial
  | p::t,hs,hm=>⟨⟨hm.1.1,fun b hb=>⟨(hm.1.2.1 b hb).1,.inl ⟨p,hs p List.mem_cons_self,hb⟩⟩,hm.1.2.2⟩,Sep.own1 (fun q hq=>hs q (List.mem_cons_of_mem _ hq)) hm.2⟩
theorem Sep.appD:∀ {M:List Asr},Sep h m old (M++K)→∀ q ∈ M,∀ p ∈ K,∀ b,q.fp b→¬ p.fp b
  | [],_,q,hq,_,_,_,_=>by cases hq
  | r::t,hm,q,hq,p,hp,b,hb=>by
    rcases List.mem_cons.1 hq with rfl | hq
    · exact hm.1.2.2 p (List.mem_append_right _ hp) b hb
    · exact Sep.appD hm.2 q hq p hp b hb
theorem St.lt (hS:St w0 w X B M) (hp:p ∈ B):Lt w X p:=by
  have h:=hS.bor p hp
  refine ⟨p.loc _ _ (fun b hb=>hS.old b (h.2 b hb).1 (h.2 b hb).2) h.1,fun b hb=>⟨Nat.lt_of_lt_of_le (h.2 b hb).1 hS.size,(h.2 b hb).2⟩⟩
theorem St.focus (hS:St w0 w X B (M++K)):St w w (fps M) (K++B) M:=by
  refine ⟨rfl,rfl,rfl,Nat.le_refl _,fun _ _ _=>rfl,Sep.own1 (fun p hp=>hp) (hS.sep.sub (List.sublist_append_left _ _)),fun p hp=>?_⟩
  rcases List.mem_append.1 hp with hp | hp
  · obtain ⟨k,hk⟩:=List.getElem?_of_mem (List.mem_append_right M hp)
    have h1:=hS.sep.get hk
    exact ⟨h1.1,fun b hb=>⟨(h1.2 b hb).1,fun ⟨q,hq,hqb⟩=>Sep.appD hS.sep q hq p hp b hqb hb⟩⟩
  · have h1:=hS.lt hp
    refine ⟨h1.1,fun b hb=>⟨(h1.2 b hb).1,fun ⟨q,hq,hqb⟩=>?_⟩⟩
    obtain ⟨k,hk⟩:=List.getElem?_of_mem (List.mem_append_left K hq)
    rcases ((hS.sep.get hk).2 b hqb).2 with h2 | h2
    · exact (hS.bor p hp).2 b hb |>.2 h2
    · have:=((hS.bor p hp).2 b hb).1; omega
theorem St.back {B':List Asr} (hS:St w0 w X B (M++K)) (hc:St w w' (fps M) B' N):St w0 w' X B (N++K):=by
  refine hS.callX (X':=fps M) hc.noB (fun b ⟨p,hp,hb⟩=>⟨p,List.mem_append_left _ hp,hb⟩) (List.sublist_append_right _ _) (fun q hq b hb ⟨p,hp,hpb⟩=>Sep.appD hS.sep p hp q hq b hpb hb)
theorem St.keepX (hS:St w w X B M) (h:∀ p ∈ N,Lt w X p):St w w X N M:=⟨hS.os,hS.tape,hS.output,hS.size,hS.old,hS.sep,h⟩
theorem Lt.at (hS:St w w X B M) (hi:B[i]? = some p):Lt w X p:=hS.lt (List.mem_of_getElem? hi)
theorem Lt.inn (hS:St w w X B M) (hi:B[i]? = some (SL.inn vs xss)) (hj:j<vs.length):Lt w X (rdv 1 (vs.getD j undef) (xss.getD j []).length (ints (xss.getD j []))):=by
  have h:=Lt.at hS hi
  exact ⟨h.1.2 j hj,fun b hb=>h.2 b ⟨j,hj,hb.1,hb.2⟩⟩
theorem Lt.sl {n:Nat} {xs:List Value} {sz:Nat} (hS:St w w X B M) (hi:B[i]? = some (SL.sl e sz v n xs)):Lt w X (rdv sz v n xs):=by
  have h:=Lt.at hS hi
  exact ⟨slOK.rd h.1,fun b hb=>h.2 b hb.2⟩
end
def IterM (P:Program) (gf:FuncId) (lb:Array Value) (e:TypeId) (xss:List (List Int)) (BL:List Asr):Prop :=
  ∀ (l:Nat) (γ:Type) (U:γ→Asr) (Fc:Nat→γ→Prop) (g:γ) (w1:World),Fc 0 g→St w1 w1 (fps [U g]) BL [U g] →
    (∀ k x,xss[k]? = some x→∀ g' v w,Fc k g'→St w1 w (fps [U g]) [] [sl e 1 v x.length (ints x),U g'] →
      YieldAt (FW none) 0 P l #[v] w (fun e' w'=>e'=.returned (.bool true)∧∃ g'',Fc (k+1) g''∧St w w' (fps [sl e 1 v x.length (ints x),U g']) [] [U g''])) →
    Calls P gf (#[.func (.yield l) #[] #[]]++lb) w1 (fun e' w'=>(∃ v,e'=.returned v)∧∃ g',Fc xss.length g'∧St w1 w' (fps [U g]) [] [U g'])
section
variable {P:Program} {Q:Exit→Act→World→Prop} {a:Act} {w w0 w':World} {n:Nat} {ds:List Deferred} {L:List (Nat × Value)} {X:Nat→Prop} {B M:List Asr}
theorem W.rangeFnM {G:Type} {g:Operand} {p:Nat} {assign body:Code} {xss:List (List Int)} {e:TypeId} {lb:Array Value} {gf:FuncId} (L':Value→List (Nat × Value)) (UU:G→List Asr) (K BL:List Asr) (Fc:Nat→G→Prop) (g0:G)
    (hf:Fr a n ds L) (hp:Nat.blt p n=true) (hg:ev L g=some (.func (.func gf) #[] lb)) (eg:callOK P gf=true) (hS:St w0 w X B (UU g0++K)) (hF:Fc 0 g0)
    (hit:IterM P gf lb e xss BL) (hBL:∀ w1 X1 M1,St w1 w1 X1 (K++B) M1→∀ p ∈ BL,Lt w1 X1 p)
    (hassign:∀ l x w a',Fr a' n [] ((p,x)::L)→W (some l) P assign (fun e a'' w''=>e=.normal∧Fr a'' n [] (L' x)∧w''=w) a' w)
    (hbody:∀ l o D k x v g wr,xss[k]? = some x→Fc k g→St w0 wr X B ((sl e 1 v x.length (ints x)::pt l o::pt D (.deferred (some []))::UU g)++K) →
      St wr wr (fps (sl e 1 v x.length (ints x)::pt l o::pt D (.deferred (some []))::UU g)) (K++B) (sl e 1 v x.length (ints x)::pt l o::pt D (.deferred (some []))::UU g)→∀ a',Fr a' n [] (L' v) →
      W (some l) P body (fun e' a'' w''=>e'=.normal∧∃ g',Fc (k+1) g'∧St wr w'' (fps (sl e 1 v x.length (ints x)::pt l o::pt D (.deferred (some []))::UU g)) [] (pt l o::pt D (.deferred (some []))::UU g')) a' wr)
    (hdone:∀ D g a' w,Fc xss.length g→St w0 w X B (pt D (.deferred (some []))::(UU g++K))→Fr a' n ({ target:=.collected D,args:=#[] }::ds) L→Q .normal a' w) :
    W none P (.rangeFunc g #[p] assign body) Q a w:=by
  refine wpIn_rangeFunc ?_
  intro fn hfn
  obtain ⟨rec,hrec⟩:∃ rec:LoopState→Option Code→Loop,rec=fun st pe=>{ state:=st,pending:=pe,fn,tmps:=a.tmps,params:=#[p],assign,body,defers:=w.heap.size }:=⟨_,rfl⟩
  obtain ⟨W1,hW1⟩:∃ W1,(w.alloc (.deferred (some []))).alloc (.loop (rec .ready none))=W1:=⟨_,rfl⟩
  have hS1:St w0 W1 X B (pt (w.heap.size+1) (.loop (rec .ready none))::pt w.heap.size (.deferred (some []))::(UU g0++K)):=by
    have:=(hS.alloc (.deferred (some []))).alloc (.loop (rec .ready none))
    rw [hW1,World.size_alloc] at this
    exact this
  refine ⟨w.heap.size+1,[{ target:=.collected w.heap.size,args:=#[] }],W1,{ target:=.fn (.func gf) lb,args:=#[.func (.yield (w.heap.size+1)) #[] #[]] },W1,gf,
    #[.func (.yield (w.heap.size+1)) #[] #[]]++lb,W1,?_,?_,?_,?_,fun h=>by simp [FW] at h,?_⟩
  · rw [← hW1,hrec]; exact run_enterLoop_outer _ _ _ _ _
  · simp only [resolve,hf.eval hg]
    simp [go_sem]
  · intro f' hf'; trivial
  · simp [invoke,go_sem,callOK_enter eg]
  · generalize hl:w.heap.size+1=l at hS1 ⊢
    generalize hD:w.heap.size=D at hS1 hl ⊢ hrec
    have hrec':∀ st pe,rec st pe={ state:=st,pending:=pe,fn,tmps:=a.tmps,params:=#[p],assign,body,defers:=D }:=fun st pe=>by rw [hrec]
    clear hrec hW1
    obtain ⟨V,hV⟩:∃ V:G→List Asr,V=fun g=>pt l (.loop (rec .ready none))::pt D (.deferred (some []))::UU g:=⟨_,rfl⟩
    have hS2:St w0 W1 X B ([bigA (V g0)]++K):=St.bigClose (N:=[]) (by rw [hV]; exact hS1)
    have hst:=(St.focus hS2).keepX (hBL _ _ _ (St.focus hS2))
    refine callsIn_FW.2 ((hit l G (fun g=>bigA (V g)) Fc g0 W1 hF hst ?_).mono ?_)
    · rintro k x hx g' v wr hFk hR
      have hO:St w0 wr X B ((sl e 1 v x.length (ints x)::V g')++K):=St.bigOpen (N:=[sl e 1 v x.length (ints x)]) (hS2.back hR)
      have hlr:wr.heap[l]? = some (.loop (rec .ready none)):=by rw [hV] at hO; exact hO.at_ (i:=1) rfl
      have hy:=run_yield (P:=P) (args:=#[v]) hlr (by rw [hrec']; simp)
      refine ⟨fn,_,assign,body,by rw [hrec'] at hy; exact hy,?_⟩
      refine roundIn_of_wpIn (F:=FW none) hfn ?_
      have hfr:Fr { tmps:=(#[p].zip #[v]).foldl (fun t (p,v)=>t.setIfInBounds p v) a.tmps,defers:=[] } n [] ((p,v)::L):=by
        have:=Fr.put (a:={ a with defers:=[] }) (ds:=[]) ⟨hf.size,rfl,hf.get⟩ hp v
        have e:(#[p].zip #[v]).foldl (fun t (p,v)=>t.setIfInBounds p v) a.tmps=a.tmps.setIfInBounds p v:=by simp
        rw [e]
        exact this
      have hW:=hassign l v wr _ hfr
      refine wpIn_mono (F:=FW (some l)) hW ?_
      rintro e1 a1 w1 ⟨rfl,hfr1,rfl⟩
      refine ⟨_,run_beginRound hlr (by rw [hrec']),?_⟩
      have hO2:St w0 (w1.putObj l (.loop { rec .ready none with state:=.busy })) X B ((sl e 1 v x.length (ints x)::pt l (.loop { rec .ready none with state:=.busy })::pt D (.deferred (some []))::UU g')++K):=by
        rw [hV] at hO; exact hO.putO (j:=1) rfl (.loop { rec .ready none with state:=.busy })
      refine wpIn_mono (F:=FW (some l)) (hbody l _ D k x v g' _ hx hFk hO2 hO2.focus a1 hfr1) ?_
      rintro e2 a2 w2 ⟨rfl,g'',h4,h5⟩
      have hl2:w2.heap[l]? = some (.loop { rec .ready none with state:=.busy }):=h5.at_ (i:=0) rfl
      refine ⟨_,_,run_endRound none hl2,rfl,g'',h4,?_⟩
      have h6:=h5.putO (j:=0) rfl (.loop (rec .ready none))
      have h7:St w1 w1 (fps [sl e 1 v x.length (ints x),bigA (V g')]) [] ((sl e 1 v x.length (ints x)::V g')):=by
        have h8:St w0 w1 X B ([sl e 1 v x.length (ints x),bigA (V g')]++K):=hS2.back hR
        have h9:=(St.bigOpen (N:=[sl e 1 v x.length (ints x)]) (M:=[]) h8.focus).noB
        simpa using h9
      have h8:St w1 (w1.putObj l (.loop { rec .ready none with state:=.busy })) (fps [sl e 1 v x.length (ints x),bigA (V g')]) [] ((sl e 1 v x.length (ints x)::pt l (.loop { rec .ready none with state:=.busy })::pt D (.deferred (some []))::UU g')++[]):=by
        rw [List.append_nil]; rw [hV] at h7 ⊢; exact h7.putO (j:=1) rfl (.loop { rec .ready none with state:=.busy })
      have h9:=h8.back h6
      rw [List.append_nil] at h9
      have hV2:V g''=pt l (.loop (rec .ready none))::pt D (.deferred (some []))::UU g'':=by rw [hV]
      have h10:St w1 (w2.putObj l (.loop (rec .ready none))) (fps [sl e 1 v x.length (ints x),bigA (V g')]) [] [bigA (V g'')]:=St.bigClose (N:=[]) (M:=[]) (by rw [hV2]; simpa using h9)
      simpa [hrec'] using h10
    · rintro e1 w2 ⟨⟨v,rfl⟩,g1,h1,h2⟩
      have h3:St w0 w2 X B (V g1++K):=St.bigOpen (N:=[]) (hS2.back h2)
      rw [hV] at h3
      have hl2:w2.heap[l]? = some (.loop (rec .ready none)):=h3.at_ (i:=0) rfl
      refine ⟨none,_,by have:=run_endLoop (P:=P) hl2 (by rw [hrec']; simp); rw [hrec'] at this; exact this,?_⟩
      have h4:=h3.putO (j:=0) rfl (.loop { rec .ready none with state:=.exhausted })
      refine hdone D g1 _ _ h1 (by have:=h4.sub (List.sublist_cons_self _ _); simpa [hrec'] using this) ⟨hf.size,by show _::a.defers=_; rw [hf.defers],hf.get⟩
end
end Go.SL

namespace Go.SL
open Go
section
variable {w0 w:World} {X:Nat→Prop} {B M N l:List Asr} {p:Asr} {s e:Nat} {vs:List Value} {xss:List (List Int)} {v:Value} {x:List Int}
theorem perm_take {α:Type}:∀ {l:List α} {s:Nat} (h:s<l.length),l.Perm (l[s]::l.eraseIdx s)
  | a::t,0,h=>List.Perm.refl _
  | a::t,s+1,h=>by
    have ih:=perm_take (l:=t) (s:=s) (by simpa using h)
    exact (ih.cons a).trans (List.Perm.swap _ _ _)
theorem perm_put {α:Type} {p:α}:∀ {l:List α} {s:Nat} (h:s<l.length),(p::l.eraseIdx s).Perm (l.set s p)
  | a::t,0,h=>List.Perm.refl _
  | a::t,s+1,h=>by
    have ih:=perm_put (p:=p) (l:=t) (s:=s) (by simpa using h)
    exact (List.Perm.swap _ _ _).trans (ih.cons a)
theorem St.bigTake (hS:St w0 w X B (N++bigA l::M)) (hs:s<l.length):St w0 w X B (N++l[s]::bigA (l.eraseIdx s)::M):=by
  have h1:=hS.bigPerm (i:=N.length) (l:=l) (by simp) (perm_take hs)
  refine St.bigCons ?_
  simpa using h1
theorem St.bigPut (hS:St w0 w X B (N++p::bigA (l.eraseIdx s)::M)) (hs:s<l.length):St w0 w X B (N++bigA (l.set s p)::M):=by
  have h1:=hS.bigUncons.bigPerm (i:=N.length) (l:=p::l.eraseIdx s) (by simp) (perm_put hs)
  simpa using h1
def slsA (e:TypeId) (vs:List Value) (xss:List (List Int)):List Asr:=(List.range vs.length).map fun (i:Nat)=>sl e 1 (vs.getD i undef) (xss.getD i []).length (ints (xss.getD i []))
theorem slsA_len:(slsA e vs xss).length=vs.length:=by unfold slsA; simp
theorem slsA_at (h:s<vs.length):(slsA e vs xss)[s]'(by rw [slsA_len]; exact h)=sl e 1 (vs.getD s undef) (xss.getD s []).length (ints (xss.getD s [])):=by
  unfold slsA; simp
theorem slsA_set (h:s<vs.length) (hx:vs.length=xss.length):(slsA e vs xss).set s (sl e 1 v x.length (ints x))=slsA e (vs.set s v) (xss.set s x):=by
  unfold slsA
  apply List.ext_getElem
  · simp
  intro i h1 h2
  simp only [List.length_set,List.length_map,List.length_range] at h1 h2
  simp only [List.getElem_set,List.getElem_map,List.getElem_range,List.getD_eq_getElem?_getD,List.getElem?_set]
  by_cases hi:s=i
  · subst hi
    simp [h,show s<xss.length by omega]
  · simp [hi]
theorem St.slsTake (hS:St w0 w X B (N++bigA (slsA e vs xss)::M)) (hs:s<vs.length):St w0 w X B (N++SL.sl e 1 (vs.getD s undef) (xss.getD s []).length (ints (xss.getD s []))::bigA ((slsA e vs xss).eraseIdx s)::M):=by
  have h:=hS.bigTake (s:=s) (by rw [slsA_len]; exact hs)
  rw [slsA_at hs] at h
  exact h
theorem St.slsPut (hS:St w0 w X B (N++SL.sl e 1 v x.length (ints x)::bigA ((slsA e vs xss).eraseIdx s)::M)) (hs:s<vs.length) (hx:vs.length=xss.length):St w0 w X B (N++bigA (slsA e (vs.set s v) (xss.set s x))::M):=by
  have h:=hS.bigPut (by rw [slsA_len]; exact hs)
  rw [slsA_set hs hx] at h
  exact h
theorem slsA_nil (n:Nat):slsA e (List.replicate n (.slice none 0 0)) (List.replicate n [])=List.replicate n (sl e 1 (.slice none 0 0) 0 []):=by
  apply List.ext_getElem
  · simp [slsA]
  intro i h1 h2
  simp only [List.length_replicate] at h2
  unfold slsA
  simp [List.getD_eq_getElem?_getD,h2,ints]
theorem St.slsNil (hS:St w0 w X B M) (e:TypeId):∀ n,St w0 w X B (bigA (slsA e (List.replicate n (.slice none 0 0)) (List.replicate n []))::M)
  | 0=>by rw [slsA_nil]; exact St.bigClose (N:=[]) hS
  | n+1=>by
    have h:=St.slsNil hS e n
    rw [slsA_nil] at h ⊢
    exact St.bigUncons (N:=[]) (h.nilSl e 1)
theorem St.slsInn {j:Nat} (hS:St w0 w X B M) (hi:M[j]? = some (bigA (slsA e vs xss))) (hx:vs.length=xss.length):St w0 w X B (M.set j (inn vs xss)):=by
  refine hS.conv hi (fun hh=>⟨hx,fun i hi=>?_⟩) (fun b ⟨i,hi,h0,hb⟩=>⟨_,List.mem_map.2 ⟨i,List.mem_range.2 hi,rfl⟩,hb⟩)
  exact slOK.rd (hh.1 _ (List.mem_map.2 ⟨i,List.mem_range.2 hi,rfl⟩))
end
end Go.SL

namespace Go.SL
open Go
section
variable {w0 w:World} {X:Nat→Prop} {B M:List Asr} {us vs:List Value} {xss yss:List (List Int)} {h:Hp}
theorem innOK.one (hh:innOK h vs xss):oneCells vs=true:=by
  have:∀ (l:List Value),(∀ u ∈ l,oneCells [u]=true)→oneCells l=true:=by
    intro l
    induction l with
    | nil=>intro _; rfl
    | cons u t ih=>exact fun hu=>oneCells_cc (hu u List.mem_cons_self) (ih fun v hv=>hu v (List.mem_cons_of_mem _ hv))
  refine this vs fun u hu=>?_
  obtain ⟨i,hi,rfl⟩:=List.getElem_of_mem hu
  have h1:=hh.2 i hi
  rw [List.getD_eq_getElem?_getD,List.getElem?_eq_getElem hi] at h1
  exact (rdOK.cells h1).2
theorem innOK.app (h1:innOK h us xss) (h2:innOK h vs yss):innOK h (us++vs) (xss++yss):=by
  have l1:=h1.1
  have l2:=h2.1
  refine ⟨by simp [l1,l2],fun i hi=>?_⟩
  by_cases hlt:i<us.length
  · have:=h1.2 i hlt
    simpa [List.getD_eq_getElem?_getD,List.getElem?_append_left hlt,List.getElem?_append_left (show i<xss.length by omega)] using this
  · have hi2:i-us.length<vs.length:=by simp at hi; omega
    have:=h2.2 (i-us.length) hi2
    simpa [List.getD_eq_getElem?_getD,List.getElem?_append_right (show us.length≤i by omega),List.getElem?_append_right (show xss.length≤i by omega),l1] using this
theorem inn_app_fp (hl:us.length=xss.length) {b:Nat} (hb:(inn (us++vs) (xss++yss)).fp b):(inn us xss).fp b∨(inn vs yss).fp b:=by
  obtain ⟨i,hi,h0,hb⟩:=hb
  by_cases hlt:i<us.length
  · left
    simp only [List.getD_eq_getElem?_getD,List.getElem?_append_left hlt,List.getElem?_append_left (show i<xss.length by omega)] at h0 hb
    exact ⟨i,hlt,by simpa [List.getD_eq_getElem?_getD] using h0,by simpa [List.getD_eq_getElem?_getD] using hb⟩
  · right
    simp only [List.getD_eq_getElem?_getD,List.getElem?_append_right (show us.length≤i by omega),List.getElem?_append_right (show xss.length≤i by omega)] at h0 hb
    exact ⟨i-us.length,by simp at hi; omega,by rw [hl]; simpa [List.getD_eq_getElem?_getD] using h0,by simpa [List.getD_eq_getElem?_getD] using hb⟩
theorem St.innJoin (hS:St w0 w X B (inn us xss::inn vs yss::M)):St w0 w X B (inn (us++vs) (xss++yss)::M):=by
  obtain ⟨⟨h1,h2,h3⟩,⟨h4,h5,h6⟩,h7⟩:=hS.sep
  refine ⟨hS.os,hS.tape,hS.output,hS.size,hS.old,⟨⟨innOK.app h1 h4,fun b hb=>?_,fun q hq b hb=>?_⟩,h7⟩,hS.bor⟩
  · rcases inn_app_fp h1.1 hb with h8 | h8
    · exact h2 b h8
    · exact h5 b h8
  · rcases inn_app_fp h1.1 hb with h8 | h8
    · exact h3 q (List.mem_cons_of_mem _ hq) b h8
    · exact h6 q hq b h8
end
def dropV (v:Value) (l:List Int) (k:Nat):Value:=vsub 1 v (k:Int) (l.length:Int)
section
variable {h:Hp} {v:Value} {l:List Int} {k:Nat} {P:Program} {w:World} {n:Nat} {ds:List Deferred} {L:List (Nat × Value)} {ty t e:TypeId} {x lo:Operand} {kd:IntKind}
theorem encs_ints (l:List Int):encs (fun x:Int=>[Value.int .i64 x]) l=ints l:=by
  unfold encs ints
  induction l with
  | nil=>rfl
  | cons a t ih=>simp only [List.flatMap_cons,List.map_cons,ih]; rfl
theorem rdE_of (hr:rdOK h 1 v l.length (ints l)) (hf:vfit v):rdEOK h 1 (fun x:Int=>[Value.int .i64 x]) v l:=⟨by rw [encs_ints]; exact hr,hf⟩
theorem lsub_drop:lsub l (k:Int) (l.length:Int)=l.drop k:=by unfold lsub; simp
theorem rdOK.dropV (hr:rdOK h 1 v l.length (ints l)) (hf:vfit v) (hk:k≤l.length):rdOK h 1 (SL.dropV v l k) (l.drop k).length (ints (l.drop k))∧vfit (SL.dropV v l k):=by
  have h1:=(rdE_of hr hf).sub (a:=(k:Int)) (b:=(l.length:Int)) (fun _=>rfl) ⟨by omega,by omega,by omega⟩
  rw [lsub_drop] at h1
  refine ⟨?_,h1.2⟩
  have:=h1.1
  rwa [encs_ints] at this
theorem RunV.dropI (he:tElem P t=some e) (hs:tSize P e=some 1) (hx:ev L x=some v) (hh:ev L lo=some (.int kd (k:Int))) (hr:rdOK (hp w) 1 v l.length (ints l)) (hf:vfit v) (hk:k≤l.length) :
    RunV P n ds L (.slice t x (some lo) none none) ty w (SL.dropV v l k) w :=
  RunV.sliceL (enc:=fun x:Int=>[Value.int .i64 x]) he hs hx hh (rdE_of hr hf) ⟨by omega,by omega,by omega⟩
end
section
variable {P:Program} {w:World} {n k:Nat} {ds:List Deferred} {L:List (Nat × Value)} {ty t t':TypeId} {x y:Operand}
theorem RunV.add1N (hx:ev L x=some (.int .i64 (k:Int))) (hy:ev L y=some (.int .i64 1)) (h:k<9223372036854775807):RunV P n ds L (.binOp .add t x y t') ty w (.int .i64 ((k+1:Nat):Int)) w:=by
  have h1:=RunV.addI (P:=P) (w:=w) (n:=n) (ds:=ds) (t:=t) (t':=t') (ty:=ty) hx hy (by omega)
  rwa [show (k:Int)+1=((k+1:Nat):Int) from rfl] at h1
end
end Go.SL

namespace Det
theorem asc_lele {l:List Int} {n m:Nat} (hl:l.Pairwise (·<·)) (hr:∀ x ∈ l,0≤x∧x<(n:Int)) (h:n≤m):l.length≤m:=by
  have h2:=len_sub (m:=(List.range n).map fun i:Nat=>(i:Int)) (asc_nodup hl) fun x hx=>List.mem_map.2 ⟨x.toNat,List.mem_range.2 (by have:=hr x hx; omega),by have:=hr x hx; omega⟩
  simp at h2
  omega
section
variable {P:List Int} {W H:Nat} {least lv:Int} {px:List Int}
theorem seeds_rng:(∀ x ∈ seedsM P W H least px lv,∀ t ∈ x,0≤t∧t<((W*H:Nat):Int))∧(seedsM P W H least px lv).Pairwise (fun a b=>∀ t ∈ a,t ∉ b):=by
  have hpo:=partsF_ok (W:=W) (H:=H) (least:=least) (bs:=inM P (W*H) px lv) inM_len (W*H)
  refine ⟨fun x hx t ht=>?_,hpo.apart⟩
  obtain ⟨f,_,h3,h4,h5⟩:=(hpo.mem x).1 hx
  exact part_rng (h4▸ht)
theorem seeds_ne:∀ x ∈ seedsM P W H least px lv,x≠[]:=fun x hx=>by
  have hpo:=partsF_ok (W:=W) (H:=H) (least:=least) (bs:=inM P (W*H) px lv) inM_len (W*H)
  obtain ⟨f,_,h3,h4,h5⟩:=(hpo.mem x).1 hx
  rw [h4]
  exact (part_setOK inM_len h3.1).ne
theorem seeds_le:(seedsM P W H least px lv).length≤W*H:=apart_len ⟨seeds_ne,seeds_rng.2⟩ seeds_rng.1
theorem end_own (h:SetOK W H px) (hleast:1≤least) (h2:¬ (seedsM P W H least px lv).length<2):∀ i ∈ px,0≤ow (endG P W H px (seedsM P W H least px lv)) i∧ow (endG P W H px (seedsM P W H least px lv)) i<((seedsM P W H least px lv).length:Int):=fun i hi=>by
  obtain ⟨x,hx,hix⟩:=(sets_ok h hleast h2).2.2 i hi
  unfold setsM at hx
  obtain ⟨s,hs,rfl⟩:=List.mem_map.1 hx
  have h3:=(List.mem_filter.1 hix).2
  rw [decide_eq_true_eq] at h3
  rw [List.mem_range] at hs
  omega
theorem sets_len {seeds:List (List Int)}:(setsM P W H px seeds).length=seeds.length:=by unfold setsM; simp
theorem divide_skip {t:List Int} (h:(seedsM P W H least px lv).length<2):divideM P W H least (lv::t) px=divideM P W H least t px:=by
  conv=>lhs; unfold divideM
  rw [if_pos h]
theorem divide_go {t:List Int} (h:¬ (seedsM P W H least px lv).length<2):divideM P W H least (lv::t) px=(setsM P W H px (seedsM P W H least px lv)).flatMap fun s=>divideM P W H least t s:=by
  conv=>lhs; unfold divideM
  rw [if_neg h]
theorem drop_s {l:List Int} {k:Nat} (h:k<l.length):l.drop k=l.getD k 0::l.drop (k+1):=by
  rw [List.getD_eq_getElem?_getD,List.getElem?_eq_getElem h]; exact List.drop_eq_getElem_cons h
theorem flat_take {α:Type} {l:List (List Int)} {f:List Int→List α} {k:Nat} (h:k<l.length):(l.take (k+1)).flatMap f=(l.take k).flatMap f++f (l.getD k []):=by
  rw [List.getD_eq_getElem?_getD,List.getElem?_eq_getElem h,List.take_succ_eq_append_getElem h,List.flatMap_append]; simp
theorem not_take {l:List Int} {k:Nat} (hl:l.Pairwise (·<·)) (hk:k<l.length):l.getD k 0 ∉ l.take k:=fun hm=>by
  obtain ⟨i,hi,he⟩:=List.getElem_of_mem hm
  simp only [List.length_take] at hi
  rw [List.getElem_take] at he
  have:=List.pairwise_iff_getElem.1 hl i k (by omega) hk (by omega)
  rw [List.getD_eq_getElem?_getD,List.getElem?_eq_getElem hk,Option.getD_some] at he
  omega
theorem divide_len {levels:List Int} (hleast:1≤least) (h:SetOK W H px):(divideM P W H least levels px).length≤W*H :=
  apart_len (divide_apart hleast levels h) fun s hs x hx=>((divide_ok hleast levels px h).1 s hs).1.rng x hx
theorem flat_len {levels:List Int} {l:List (List Int)} {k:Nat} (hleast:1≤least) (hl:∀ s ∈ l,SetOK W H s) (ha:l.Pairwise (fun a b=>∀ t ∈ a,t ∉ b)) :
    ((l.take k).flatMap (divideM P W H least levels)).length≤W*H:=by
  refine apart_len ⟨fun x hx=>?_,?_⟩ fun s hs x hx=>?_
  · obtain ⟨s,hs,hx⟩:=List.mem_flatMap.1 hx
    exact ((divide_ok hleast levels s (hl s (List.mem_of_mem_take hs))).1 x hx).1.ne
  · rw [List.pairwise_flatMap]
    refine ⟨fun s hs=>(divide_ok hleast levels s (hl s (List.mem_of_mem_take hs))).2.1,?_⟩
    refine List.Pairwise.imp_of_mem ?_ (ha.sublist (List.take_sublist _ _))
    intro a b ha hb hab x hx y hy q hq hq2
    exact hab q (((divide_ok hleast levels a (hl a (List.mem_of_mem_take ha))).1 x hx).2.2 q hq) (((divide_ok hleast levels b (hl b (List.mem_of_mem_take hb))).1 y hy).2.2 q hq2)
  · obtain ⟨t,ht,hs⟩:=List.mem_flatMap.1 hs
    exact ((divide_ok hleast levels t (hl t (List.mem_of_mem_take ht))).1 s hs).1.rng x hx
end
section
variable {P l:List Int} {q:Int→Bool} {k:Nat} {best:Int}
theorem scan_takeB (hk:k<l.length) (h:ScanI P l q k best) (hq:q (l.getD k 0)=true) (h0:0≤l.getD k 0) (hb:best<0∨brt P (l.getD k 0) best):ScanI P l q (k+1) (l.getD k 0):=by
  refine .inr ⟨h0,?_⟩
  rw [take_s hk]
  refine ⟨List.mem_append_right _ List.mem_cons_self,hq,fun j hj hqj=>?_⟩
  rcases List.mem_append.1 hj with hj | hj
  · right
    rcases h with ⟨h1,h2⟩ | ⟨h1,h2⟩
    · obtain ⟨m,hm,rfl⟩:=(mem_tk (by omega)).1 hj
      rw [h2 m hm] at hqj; cases hqj
    · rcases hb with hb | hb
      · omega
      · rcases h2.2.2 j hj hqj with e | h4
        · rw [e]; exact hb
        · exact brt_trans hb h4
  · exact .inl (List.mem_singleton.1 hj)
theorem scan_notB (ho:l.Pairwise (·<·)) (hk:k<l.length) (h:ScanI P l q k best) (hn:¬ (q (l.getD k 0)=true∧(best<0∨brt P (l.getD k 0) best))):ScanI P l q (k+1) best:=by
  cases hq:q (l.getD k 0) with
  | false=>exact scan_skip hk h hq
  | true =>
    refine scan_keep ho hk h fun hb=>hn ⟨hq,?_⟩
    rcases hb with hb | hb
    · exact .inl hb
    · exact .inr (.inl hb)
theorem scan_none (h:ScanI P l q l.length best) (hb:best<0):∀ j ∈ l,q j=false:=by
  rcases scan_end h with ⟨_,h2⟩ | ⟨h1,_⟩
  · exact h2
  · omega
theorem scan_one (h:ScanI P l q l.length best) (hb:0≤best):best ∈ l∧q best=true:=by
  rcases scan_end h with ⟨h1,_⟩ | ⟨_,h2⟩
  · omega
  · exact ⟨h2.1,h2.2.1⟩
end
section
variable {P l ord o:List Int} {W H:Nat} {j:Nat} {best:Int}
theorem ord_facts (h:ord=l.mergeSort fun x y=>!ltP P y x) (hl:l.Pairwise (·<·)):ord.Perm l∧ord.Pairwise (brt P):=by
  subst h
  have hp:=List.mergeSort_perm l fun x y=>!ltP P y x
  refine ⟨hp,?_⟩
  have h1:=List.pairwise_mergeSort (le:=fun x y=>!ltP P y x) (fun a b c h1 h2=>by
      simp only [Bool.not_eq_true'] at *
      exact (swoP P).ntrans _ _ _ h2 h1) (fun a b=>by
      cases ha:ltP P b a with
      | false=>rfl
      | true =>
        cases hb:ltP P a b with
        | false=>rfl
        | true=>have:=(swoP P).trans _ _ _ ha hb; rw [(swoP P).irrefl] at this; cases this) l
  have h2:(l.mergeSort fun x y=>!ltP P y x).Nodup:=(hp.nodup_iff).2 (asc_nodup hl)
  rw [List.nodup_iff_pairwise_ne] at h2
  refine (h1.and h2).imp fun {a b} h=>?_
  have h3:=h.1
  rw [Bool.not_eq_true',ltP_no] at h3
  have h4:=h.2
  rcases brt_total (P:=P) h4 with h5 | h5
  · exact h5
  · exact absurd h5 h3
theorem next_first (hp:ord.Perm l) (ho:ord.Pairwise (brt P)) (hj:j<ord.length) (hq:qNext W H o (ord.getD j 0)=true) (hn:∀ q,q<j→qNext W H o (ord.getD q 0)=false):nextM P W H l o=ord.getD j 0:=by
  have h1:=best_first ho hj hq hn
  unfold nextM
  refine bestOf_some ⟨hp.mem_iff.1 h1.1,h1.2.1,fun i hi hqi=>h1.2.2 i (hp.mem_iff.2 hi) hqi⟩
theorem next_none (hp:ord.Perm l) (hn:∀ q,q<ord.length→qNext W H o (ord.getD q 0)=false):nextM P W H l o=-1:=by
  unfold nextM
  refine bestOf_none fun i hi=>?_
  obtain ⟨q,hq,rfl⟩:=List.getElem_of_mem (hp.mem_iff.2 hi)
  have:=hn q hq
  rwa [List.getD_eq_getElem?_getD,List.getElem?_eq_getElem hq] at this
theorem qNext_yes {i:Nat} (h:ow o (i:Int)<0) (hb:best ∈ nb W H i) (hq:qOwn o best=true):qNext W H o (i:Int)=true:=by
  unfold qNext
  rw [Int.toNat_natCast,decide_eq_true h,Bool.true_and,List.any_eq_true]
  exact ⟨best,hb,hq⟩
theorem qNext_no1 {i:Int} (h:0≤ow o i):qNext W H o i=false:=by
  unfold qNext; rw [decide_eq_false (by omega),Bool.false_and]
theorem qNext_no2 {i:Nat} (h:∀ j ∈ nb W H i,qOwn o j=false):qNext W H o (i:Int)=false:=by
  unfold qNext
  rw [Int.toNat_natCast,Bool.and_eq_false_iff]
  right
  rw [List.any_eq_false]
  exact fun x hx=>by rw [h x hx]; decide
end
end Det

set_option maxHeartbeats 1000000
set_option maxRecDepth 8000
namespace Go.Proofs.YtipfobacinmoiaaGreat
open Go Go.SL Go.Shelf Go.RowKit Go.Maps
theorem C_ok_35:callOK Tryz.prog 35=true:=by kernel_rfl
theorem C_ok_58:callOK Tryz.prog 58=true:=by kernel_rfl
theorem C_ok_79:callOK Tryz.prog 79=true:=by kernel_rfl
set_option maxHeartbeats 1000000 in
set_option maxRecDepth 4000 in
theorem grown58_spec (fW fH:Nat) (vP vL va:Value) (zs l:List Int) (vs:List Value) (seeds:List (List Int)) (w0:World) (hW:1≤fW∧fW≤100) (hH:1≤fH∧fH≤100) (hn:zs.length=fW*fH) (hl:l.Pairwise (·<·)) (hr:∀ x ∈ l,0≤x∧x<((fW*fH:Nat):Int)) (hP:rdOK (hp w0) 1 vP zs.length (ints zs)) (hL:rdOK (hp w0) 1 vL l.length (ints l)) (ha:rdOK (hp w0) 1 va vs.length vs) (hia:innOK (hp w0) vs seeds) (hsr:∀ x ∈ seeds,∀ t ∈ x,0≤t∧t<((fW*fH:Nat):Int)) (hap:seeds.Pairwise (fun a b=>∀ t ∈ a,t ∉ b)) (hsn:vs.length≤10000) (hfu:∀ i ∈ l,0≤Det.ow (Det.endG zs fW fH l seeds) i∧Det.ow (Det.endG zs fW fH l seeds) i<(seeds.length:Int)) :
    Ret Tryz.prog 58 #[(fG fW fH vP),vL,va] w0 (G:=Value × List Value) (fun g=>g.1) (fun g w=>St w0 w noX [] [sl 26 1 g.1 g.2.length g.2,inn g.2 (Det.setsM zs fW fH l seeds)]):=by
  refine ret_of_W (lv:=[(fG fW fH vP),vL,va]) Tryz.func58 rfl rfl rfl (fun a hf=>?_); replace hf:Fr a 100 [] [(0,(fG fW fH vP)),(1,vL),(2,va)]:=hf; have hS:St w0 w0 noX [rI vP zs,rI vL l,rdv 1 va vs.length vs,inn vs seeds] []:=((((St.refl w0).lendI0 hia).lend0 ha).lend0 hL).lend0 hP; have hN:fW*fH≤10000:=Nat.mul_le_mul hW.2 hH.2; have hlen:=hL.2.1; unfold maxLen at hlen; have hlen2:=ha.2.1; unfold maxLen at hlen2; have hxl:=hia.1; refine W.seq ?_
  refine R2 rfl<|O.box (cs:=#[iV fW,iV fH,vP]) hf hS rfl rfl rfl rfl<|?_; intro b_f1 w a hbb_f1 hS hf; refine mv hf rfl fun a hf=>?_; refine nk<|W.seq<|?_
  refine R5 rfl<|ov hf rfl (RunV.field T_field_24_2 rfl rfl)<|fun a hf=>ov hf rfl (RunV.load1 T_agg_22 rfl (hS.p 0 rfl) rfl) fun a hf=>ov hf rfl (RunV.lenV (e:=2) (by simpa using T_elem_22) rfl (hS.rdAt (j:=0) rfl)) fun a hf=>?_; refine O.make (N:=zs.length) hf hS rfl rfl T_elem_26 T_size_3 T_bytes_3 T_zero_3 rfl rfl (by unfold maxLen; omega) (by omega) ?_; intro b_m2 w a hbb_m2 hS hf; have hS:=hS.eqM (N:=[sl 3 1 (.slice (some ⟨b_m2,0,none⟩) zs.length zs.length) zs.length (ints (List.replicate zs.length (0:Int))),pt b_f1 (.cells #[iV fW,iV fH,vP] 24 (0,0))]) (by rw [made_ints]); refine mv hf rfl fun a hf=>?_; refine O.nil ?_; obtain ⟨vm,hvm⟩:∃ vm,(.slice (some ⟨b_m2,0,none⟩) zs.length zs.length:Value)=vm:=⟨_,rfl⟩; rw [hvm] at hf hS; clear hvm; replace hS:=hS.eqM (N:=[sl 3 1 vm ((List.replicate zs.length (0:Int)).length) (ints (List.replicate zs.length (0:Int))),pt b_f1 (.cells #[iV fW,iV fH,vP] 24 (0,0))]) (by simp); refine k_seq<|W.seq<|W.seq<|?_
  refine R1 rfl<|mv hf rfl<|fun a hf=>?_; refine nk<|W.block<|?_
  refine W.loop (G:=(Nat) × (List Int)) (fun g a w=>match g with | (k,of)=>Fr a 100 [] [(1,vL),(2,va),(3,(pp b_f1)),(6,.slice none 0 0),(7,vm),(8,iV k)]∧St w0 w noX [rI vP zs,rI vL l,rdv 1 va vs.length vs,inn vs seeds] [sl 3 1 vm of.length (ints of),pt b_f1 (.cells #[iV fW,iV fH,vP] 24 (0,0))]∧(k≤zs.length)∧(of=(List.replicate k (-1)++List.replicate (zs.length-k) 0))∧(of.length=zs.length)) (fun g=>match g with | (k,of)=>zs.length-k) (0,(List.replicate zs.length (0:Int))) ?_ ?_
  · refine ⟨hf.to ⟨rfl,rfl,rfl,rfl,rfl,(by first | rfl | exact vI (by omega)),trivial⟩,hS,?_,?_,?_⟩
    · omega
    · simp
    · simp
  clear hf hS a; rintro ⟨k,of⟩ a w ⟨hf,hS,h1,h2,h3⟩; refine W.seq<|W.seq<|?_
  refine R4 rfl<|mv hf rfl<|fun a hf=>mv hf rfl fun a hf=>ov hf rfl (RunV.lenV (e:=3) (by simpa using T_elem_26) rfl (hS.slr (j:=0) rfl)) fun a hf=>ov (v:=.bool (decide ((k:Int)<((of.length:Int):Int)))) hf rfl (RunV.lss rfl rfl) fun a hf=>?_; refine nk ?_; refine W.ifdI hf rfl (fun hk1=>?_) (fun hk1=>?_)
  · refine W.skip ?_
    refine k_seq<|W.seq<|W.block<|?_
    refine R4 rfl<|mv hf rfl<|fun a hf=>mv hf rfl fun a hf=>ov hf rfl (RunV.ixV (j:=k) (m:=k) T_elem_26 T_size_3 rfl rfl (hS.slr (j:=0) rfl) rfl (by omega) (Nat.mul_one _)) fun a hf=>?_; refine O.storeSl (j:=0) (m:=k) (xs':=ints (of.set k (-1))) (M':=[sl 3 1 vm of.length (ints (of.set k (-1))),pt b_f1 (.cells #[iV fW,iV fH,vP] 24 (0,0))]) hf hS rfl rfl rfl T_size_3 rfl rfl rfl (by simp only [ints_len,List.length_set]; omega) ints_set rfl rfl ?_; intro w hS; refine O.nil<|k_blk_normal<|k_seq<|?_
    refine R3 rfl<|mv hf rfl<|fun a hf=>ov hf rfl (RunV.addI rfl rfl (by omega)) fun a hf=>mv hf rfl fun a hf=>?_; refine O.nil ?_; refine k_then ⟨(k+1,(of.set k (-1))),⟨hf.to ⟨rfl,rfl,rfl,rfl,rfl,(by first | rfl | exact vI (by omega)),trivial⟩,?_,?_,?_,?_⟩,?_⟩
    · exact hS.eqM (by rw [List.length_set])
    · omega
    · rw [h2]; exact Det.fill_step (by omega)
    · simp only [List.length_set]; exact h3
    · dsimp only; omega
  · refine W.exit ?_
    refine k_then_exit<|k_then_exit<|k_blk<|k_seq<|W.seq<|W.seq<|?_
    refine R1 rfl<|mv hf rfl<|fun a hf=>?_; refine nk<|W.block<|?_
    refine W.loop (G:=(Nat) × (List Int)) (fun g a w=>match g with | (s,of1)=>Fr a 100 [] [(1,vL),(2,va),(3,(pp b_f1)),(6,.slice none 0 0),(7,vm),(9,iV s)]∧St w0 w noX [rI vP zs,rI vL l,rdv 1 va vs.length vs,inn vs seeds] [sl 3 1 vm of1.length (ints of1),pt b_f1 (.cells #[iV fW,iV fH,vP] 24 (0,0))]∧(s≤vs.length)∧(of1=(Det.own (fW*fH) seeds s))∧(of1.length=fW*fH)) (fun g=>match g with | (s,of1)=>vs.length-s) (0,of) ?_ ?_
    · refine ⟨hf.to ⟨rfl,rfl,rfl,rfl,rfl,(by first | rfl | exact vI (by omega)),trivial⟩,hS,?_,?_,?_⟩
      · omega
      · rw [h2,show k=fW*fH from by omega,show zs.length-fW*fH=0 from by omega]; simp [Det.own]
      · omega
    clear hf hS a; rintro ⟨s,of1⟩ a w ⟨hf,hS,g1,hof1,g3⟩; refine W.seq<|W.seq<|?_
    refine R4 rfl<|mv hf rfl<|fun a hf=>mv hf rfl fun a hf=>ov hf rfl (RunV.lenV (e:=26) (by simpa using T_elem_28) rfl (hS.rdAt (j:=2) rfl)) fun a hf=>ov (v:=.bool (decide ((s:Int)<((vs.length:Int):Int)))) hf rfl (RunV.lss rfl rfl) fun a hf=>?_; refine nk ?_; refine W.ifdI hf rfl (fun hs1=>?_) (fun hs1=>?_)
    · refine W.skip ?_
      refine k_seq<|W.seq<|W.block<|W.seq<|?_
      refine R1 rfl<|mv hf rfl<|fun a hf=>?_; refine nk<|W.block<|?_
      refine W.loop (G:=(Nat) × (List Int)) (fun g a w=>match g with | (k,of2)=>Fr a 100 [] [(1,vL),(2,va),(3,(pp b_f1)),(6,.slice none 0 0),(7,vm),(9,iV s),(10,iV k)]∧St w0 w noX [rI vP zs,rI vL l,rdv 1 va vs.length vs,inn vs seeds] [sl 3 1 vm of2.length (ints of2),pt b_f1 (.cells #[iV fW,iV fH,vP] 24 (0,0))]∧(k≤(seeds.getD s []).length)∧(of2=Det.fillS (Det.own (fW*fH) seeds s) (seeds.getD s []) (s:Int) k)∧(of2.length=fW*fH)) (fun g=>match g with | (k,of2)=>(seeds.getD s []).length-k) (0,of1) ?_ ?_
      · refine ⟨hf.to ⟨rfl,rfl,rfl,rfl,rfl,rfl,(by first | rfl | exact vI (by omega)),trivial⟩,hS,?_,?_,?_⟩
        · omega
        · rw [hof1]; rfl
        · exact g3
      clear hf hS a; rintro ⟨k,of2⟩ a w ⟨hf,hS,g5,hof2,g4⟩; refine W.seq<|W.seq<|?_
      refine R7 rfl ?_; have hl4:=(hS.innB (j:=3) rfl).get (i:=s) (by omega) |>.2.1; unfold maxLen at hl4; refine mv hf rfl fun a hf=>mv hf rfl fun a hf=>mv hf rfl fun a hf=>ov hf rfl (RunV.ixV (j:=s) (m:=s) T_elem_28 T_size_26 rfl rfl (hS.rdAt (j:=2) rfl) rfl (by omega) (Nat.mul_one _)) fun a hf=>ov hf rfl (RunV.ld1 T_agg_26 rfl (hS.rdAt (j:=2) rfl) (vs_get (by omega))) fun a hf=>ov hf rfl (RunV.lenV (e:=3) (by simpa using T_elem_26) rfl (innOK.get (hS.innB (j:=3) rfl) (i:=s) (by omega))) fun a hf=>ov (v:=.bool (decide ((k:Int)<(((seeds.getD s []).length:Int):Int)))) hf rfl (RunV.lss rfl rfl) fun a hf=>?_; refine nk ?_; refine W.ifdI hf rfl (fun hk2=>?_) (fun hk2=>?_)
      · refine W.skip ?_
        refine k_seq<|W.seq<|W.block<|?_
        refine W.regionL (l:=[0,1,2,3,4,5,6,7,8,9,10]) rfl ?_; have hel:=hsr _ (Det.at_mem (ss:=seeds) (q:=s) (by omega)) _ (Det.getD_mem (l:=(seeds.getD s [])) (j:=k) (by omega)); refine mv hf rfl fun a hf=>mv hf rfl fun a hf=>mv hf rfl fun a hf=>ov hf rfl (RunV.ixV (j:=s) (m:=s) T_elem_28 T_size_26 rfl rfl (hS.rdAt (j:=2) rfl) rfl (by omega) (Nat.mul_one _)) fun a hf=>ov hf rfl (RunV.ld1 T_agg_26 rfl (hS.rdAt (j:=2) rfl) (vs_get (by omega))) fun a hf=>mv hf rfl fun a hf=>ov hf rfl (RunV.ixV (j:=k) (m:=k) T_elem_26 T_size_3 rfl rfl (innOK.get (hS.innB (j:=3) rfl) (i:=s) (by omega)) rfl (by omega) (Nat.mul_one _)) fun a hf=>ov hf rfl (RunV.ld1 T_agg_3 rfl (innOK.get (hS.innB (j:=3) rfl) (i:=s) (by omega)) (ints_get (by omega))) fun a hf=>mv hf rfl fun a hf=>ov hf rfl (RunV.ixV (j:=(Int.toNat ((seeds.getD s []).getD k 0))) (m:=(Int.toNat ((seeds.getD s []).getD k 0))) T_elem_26 T_size_3 rfl rfl (hS.slr (j:=0) rfl) (by rw [Int.toNat_of_nonneg (by omega)]) (by omega) (Nat.mul_one _)) fun a hf=>?_; refine O.storeSl (j:=0) (m:=(Int.toNat ((seeds.getD s []).getD k 0))) (xs':=ints (of2.set (Int.toNat ((seeds.getD s []).getD k 0)) (s:Int))) (M':=[sl 3 1 vm of2.length (ints (of2.set (Int.toNat ((seeds.getD s []).getD k 0)) (s:Int))),pt b_f1 (.cells #[iV fW,iV fH,vP] 24 (0,0))]) hf hS rfl rfl rfl T_size_3 rfl rfl rfl (by simp only [ints_len,List.length_set]; omega) ints_set rfl rfl ?_; intro w hS; refine O.nil<|k_blk_normal<|k_seq<|?_
        refine R3 rfl<|mv hf rfl<|fun a hf=>ov hf rfl (RunV.addI rfl rfl (by omega)) fun a hf=>mv hf rfl fun a hf=>?_; refine O.nil ?_; refine k_then ⟨(k+1,(of2.set (Int.toNat ((seeds.getD s []).getD k 0)) (s:Int))),⟨hf.to ⟨rfl,rfl,rfl,rfl,rfl,rfl,(by first | rfl | exact vI (by omega)),trivial⟩,?_,?_,?_,?_⟩,?_⟩
        · exact hS.eqM (by rw [List.length_set])
        · omega
        · rw [hof2]; rfl
        · simp only [List.length_set]; exact g4
        · dsimp only; omega
      · refine W.exit ?_
        refine k_then_exit<|k_then_exit<|k_blk<|k_blk_normal<|k_seq<|?_
        refine R3 rfl<|mv hf rfl<|fun a hf=>ov hf rfl (RunV.addI rfl rfl (by omega)) fun a hf=>mv hf rfl fun a hf=>?_; refine O.nil ?_; refine k_then ⟨(s+1,of2),⟨hf.to ⟨rfl,rfl,rfl,rfl,rfl,(by first | rfl | exact vI (by omega)),trivial⟩,?_,?_,?_,?_⟩,?_⟩
        · exact hS.eqM rfl
        · omega
        · obtain rfl:k=(seeds.getD s []).length:=by omega
          rw [hof2]; rfl
        · exact g4
        · dsimp only; omega
    · refine W.exit ?_
      refine k_then_exit<|k_then_exit<|k_blk<|k_seq<|W.seq<|W.seq<|?_
      refine R5 rfl<|ov hf rfl (RunV.loadN (cs':=#[iV fW,iV fH,vP]) T_agg_24 T_size_24 rfl (hS.p 1 rfl) (bl rfl) rfl)<|fun a hf=>mv hf rfl fun a hf=>mv hf rfl fun a hf=>?_; refine oc hf rfl C_ok_79 (next79_spec fW fH vP vL vm zs l of1 _ hW hH hn hl hr (hS.rdAt (j:=0) rfl) (hS.rdAt (j:=1) rfl) (hS.slr (j:=0) rfl) (by omega)) ?_; clear hf a; rintro _ w6 hS1 a hf; replace hS:=hS.cl hS1; refine mv hf rfl fun a hf=>?_; refine nk ?_; replace hf:Fr a 100 [] [(1,_),(2,_),(3,_),(6,_),(7,_),(11,_)]:=hf.q rfl; refine W.block ?_
      refine W.loop (G:=(List Int)) (fun g a w=>match g with | o3=>Fr a 100 [] [(1,vL),(2,va),(3,(pp b_f1)),(6,.slice none 0 0),(7,vm),(11,iV (Det.nextM zs fW fH l o3))]∧St w0 w noX [rI vP zs,rI vL l,rdv 1 va vs.length vs,inn vs seeds] [sl 3 1 vm o3.length (ints o3),pt b_f1 (.cells #[iV fW,iV fH,vP] 24 (0,0))]∧(Det.Grows zs fW fH l (Det.seedO (fW*fH) seeds) o3)∧(o3.length=fW*fH)) (fun g=>match g with | o3=>Det.freeN l o3) of1 ?_ ?_
      · refine ⟨hf.to ⟨rfl,rfl,rfl,rfl,rfl,(by first | rfl | exact vI (by omega)),trivial⟩,hS,?_,?_⟩
        · obtain rfl:s=seeds.length:=by omega
          rw [hof1,Det.own_seedO hsr hap]; exact Det.Grows.refl
        · exact g3
      clear hf hS a; rintro o3 a w ⟨hf,hS,hgr,g6⟩; refine W.seq<|W.seq<|?_
      refine R2 rfl<|mv hf rfl<|fun a hf=>ov (v:=.bool (decide ((Det.nextM zs fW fH l o3)≥(0:Int)))) hf rfl (RunV.geq rfl rfl) fun a hf=>?_; refine nk ?_; refine W.ifdI hf rfl (fun hge=>?_) (fun hge=>?_)
      · refine W.skip ?_
        refine k_seq<|W.seq<|W.block<|?_
        refine W.regionL (l:=[0,1,2,3,4,5,6,7]) rfl ?_; have hin:=hr _ (Det.next_has (P:=zs) (W:=fW) (H:=fH) (o:=o3) (fun i hi=>(hr i hi).1) (by omega)).1; refine mv hf rfl fun a hf=>mv hf rfl fun a hf=>ov hf rfl (RunV.loadN (cs':=#[iV fW,iV fH,vP]) T_agg_24 T_size_24 rfl (hS.p 1 rfl) (bl rfl) rfl) fun a hf=>mv hf rfl fun a hf=>mv hf rfl fun a hf=>?_; refine oc hf rfl C_ok_80 (owner80i fW fH (Det.nextM zs fW fH l o3) vP vm zs o3 _ hW hH hn hin (hS.rdAt (j:=0) rfl) (hS.slr (j:=0) rfl) (by omega)) ?_; clear hf a; rintro _ w8 hS1 a hf; replace hf:Fr a _ _ ((68,iV (Det.ownerM zs fW fH o3 (Det.nextM zs fW fH l o3)))::_):=hf; replace hS:=hS.cl hS1; refine ov hf rfl (RunV.ixV (j:=(Int.toNat (Det.nextM zs fW fH l o3))) (m:=(Int.toNat (Det.nextM zs fW fH l o3))) T_elem_26 T_size_3 rfl rfl (hS.slr (j:=0) rfl) (by rw [Int.toNat_of_nonneg (by omega)]) (by omega) (Nat.mul_one _)) fun a hf=>?_; refine O.storeSl (j:=0) (m:=(Int.toNat (Det.nextM zs fW fH l o3))) (xs':=ints (o3.set (Int.toNat (Det.nextM zs fW fH l o3)) (Det.ownerM zs fW fH o3 (Det.nextM zs fW fH l o3)))) (M':=[sl 3 1 vm o3.length (ints (o3.set (Int.toNat (Det.nextM zs fW fH l o3)) (Det.ownerM zs fW fH o3 (Det.nextM zs fW fH l o3)))),pt b_f1 (.cells #[iV fW,iV fH,vP] 24 (0,0))]) hf hS rfl rfl rfl T_size_3 rfl rfl rfl (by simp only [ints_len,List.length_set]; omega) ints_set rfl rfl ?_; intro w hS; refine O.nil ?_; obtain ⟨o4,ho4⟩:∃ o4,(o3.set (Int.toNat (Det.nextM zs fW fH l o3)) (Det.ownerM zs fW fH o3 (Det.nextM zs fW fH l o3)))=o4:=⟨_,rfl⟩; have h4l:o4.length=o3.length:=by rw [← ho4,List.length_set]
        have hgr4:=Det.grows_next (fun i hi=>(hr i hi).1) hgr (show 0≤_ by omega); rw [ho4] at hgr4; have hfr4:=Det.free_next hr g6 (show 0≤Det.nextM zs fW fH l o3 by omega); rw [ho4] at hfr4; rw [ho4,← h4l] at hS; refine k_blk_normal<|k_seq<|?_
        refine R5 rfl<|ov hf rfl (RunV.loadN (cs':=#[iV fW,iV fH,vP]) T_agg_24 T_size_24 rfl (hS.p 1 rfl) (bl rfl) rfl)<|fun a hf=>mv hf rfl fun a hf=>mv hf rfl fun a hf=>?_; refine oc hf rfl C_ok_79 (next79_spec fW fH vP vL vm zs l o4 _ hW hH hn hl hr (hS.rdAt (j:=0) rfl) (hS.rdAt (j:=1) rfl) (hS.slr (j:=0) rfl) (by omega)) ?_; clear hf a; rintro _ w9 hS1 a hf; replace hS:=hS.cl hS1; refine mv hf rfl fun a hf=>?_; refine O.nil ?_; refine k_then ⟨o4,⟨hf.to ⟨rfl,rfl,rfl,rfl,rfl,(by first | rfl | exact vI (by omega)),trivial⟩,?_,?_,?_⟩,?_⟩
        · exact hS.eqM rfl
        · exact hgr4
        · omega
        · dsimp only; exact hfr4
      · refine W.exit ?_
        refine k_then_exit<|k_then_exit<|k_blk<|k_seq<|W.seq<|?_
        refine R4 rfl<|mv hf rfl<|fun a hf=>ov hf rfl (RunV.lenV (e:=26) (by simpa using T_elem_28) rfl (hS.rdAt (j:=2) rfl)) fun a hf=>?_; refine O.make (N:=vs.length) hf hS rfl rfl T_elem_28 T_size_26 T_bytes_26 T_zero_26 rfl rfl (by unfold maxLen; omega) (by omega) ?_; intro b_m10 w a hbb_m10 hS hf; have hS:=hS.eqM (N:=[sl 26 1 (.slice (some ⟨b_m10,0,none⟩) vs.length vs.length) vs.length (List.replicate vs.length (Value.slice none 0 0)),sl 3 1 vm o3.length (ints o3),pt b_f1 (.cells #[iV fW,iV fH,vP] 24 (0,0))]) (by rw [made_nils]); refine mv hf rfl fun a hf=>?_; refine O.nil ?_; obtain ⟨vt,hvt⟩:∃ vt,(.slice (some ⟨b_m10,0,none⟩) vs.length vs.length:Value)=vt:=⟨_,rfl⟩; rw [hvt] at hf hS; clear hvt; replace hS:=hS.eqM (N:=[sl 26 1 vt ((List.replicate vs.length (Value.slice none 0 0)).length) (List.replicate vs.length (Value.slice none 0 0)),sl 3 1 vm o3.length (ints o3),pt b_f1 (.cells #[iV fW,iV fH,vP] 24 (0,0))]) (by simp); refine k_seq<|W.seq<|W.seq<|?_
        refine R1 rfl<|mv hf rfl<|fun a hf=>?_; refine nk<|W.block<|?_; have hoe:=Det.grows_end hr hgr (by omega); have hfu3:∀ i ∈ l,0≤Det.ow o3 i∧Det.ow o3 i<(seeds.length:Int):=by rw [hoe]; exact hfu
        have hll:l.length≤10000:=Det.asc_lele hl hr hN; replace hS:St w0 _ noX [rI vP zs,rI vL l,rdv 1 va vs.length vs,inn vs seeds] [bigA (slsA 3 (List.replicate vs.length (Value.slice none 0 0)) (List.replicate vs.length [])),sl 26 1 vt ((List.replicate vs.length (Value.slice none 0 0)).length) (List.replicate vs.length (Value.slice none 0 0)),sl 3 1 vm o3.length (ints o3),pt b_f1 (.cells #[iV fW,iV fH,vP] 24 (0,0))]:=hS.slsNil 3 vs.length
        refine W.loop (G:=(Nat) × (List Value) × (List (List Int))) (fun g a w=>match g with | (k,us,outs)=>Fr a 100 [] [(1,vL),(6,.slice none 0 0),(7,vm),(12,vt),(13,iV k)]∧St w0 w noX [rI vP zs,rI vL l,rdv 1 va vs.length vs,inn vs seeds] [bigA (slsA 3 us outs),sl 26 1 vt us.length us,sl 3 1 vm o3.length (ints o3),pt b_f1 (.cells #[iV fW,iV fH,vP] 24 (0,0))]∧(k≤l.length)∧(outs=Det.filtM o3 l seeds.length k)∧(us.length=vs.length)∧(outs.length=vs.length)) (fun g=>match g with | (k,us,outs)=>l.length-k) (0,(List.replicate vs.length (Value.slice none 0 0)),(List.replicate vs.length [])) ?_ ?_
        · refine ⟨hf.to ⟨rfl,rfl,rfl,rfl,(by first | rfl | exact vI (by omega)),trivial⟩,hS,?_,?_,?_,?_⟩
          · omega
          · rw [Det.filt_0,← hxl]
          · simp
          · simp
        clear hf hS a; rintro ⟨k,us,outs⟩ a w ⟨hf,hS,h6,h7,h8,h9⟩; refine W.seq<|W.seq<|?_
        refine R4 rfl<|mv hf rfl<|fun a hf=>mv hf rfl fun a hf=>ov hf rfl (RunV.lenV (e:=3) (by simpa using T_elem_26) rfl (hS.rdAt (j:=1) rfl)) fun a hf=>ov (v:=.bool (decide ((k:Int)<((l.length:Int):Int)))) hf rfl (RunV.lss rfl rfl) fun a hf=>?_; refine nk ?_; refine W.ifdI hf rfl (fun hk3=>?_) (fun hk3=>?_)
        · refine W.skip ?_
          refine k_seq<|W.seq<|W.block<|W.seq<|?_
          refine W.regionL (l:=[0,1,2,3,4,5,6,7]) rfl ?_; have hnr:=hr _ (Det.getD_mem (l:=l) (j:=k) (by omega)); have hnow:o3.getD (Int.toNat (l.getD k 0)) 0=Det.ow o3 (l.getD k 0):=Det.ow_rd (by omega); have hwr:0≤Det.ow o3 (l.getD k 0)∧Det.ow o3 (l.getD k 0)<(seeds.length:Int):=hfu3 _ (Det.getD_mem (l:=l) (j:=k) (by omega)); have hin_:((outs.getD (Det.ow o3 (l.getD k 0)).toNat []).length:Int)≤10000:=by
            rw [h7,Det.filt_at (by omega)]; have e1:=List.length_filter_le (fun i=>decide (Det.ow o3 i=(((Det.ow o3 (l.getD k 0)).toNat:Nat):Int))) (l.take k); rw [List.length_take] at e1
            omega
          refine mv hf rfl fun a hf=>mv hf rfl fun a hf=>mv hf rfl fun a hf=>ov hf rfl (RunV.ixV (j:=k) (m:=k) T_elem_26 T_size_3 rfl rfl (hS.rdAt (j:=1) rfl) rfl (by omega) (Nat.mul_one _)) fun a hf=>ov hf rfl (RunV.ld1 T_agg_3 rfl (hS.rdAt (j:=1) rfl) (ints_get (by omega))) fun a hf=>ov hf rfl (RunV.ixV (j:=(Int.toNat (l.getD k 0))) (m:=(Int.toNat (l.getD k 0))) T_elem_26 T_size_3 rfl rfl (hS.slr (j:=2) rfl) (by rw [Int.toNat_of_nonneg (by omega)]) (by omega) (Nat.mul_one _)) fun a hf=>ov hf rfl (RunV.ld1 T_agg_3 rfl (hS.slr (j:=2) rfl) (ints_get (by omega))) fun a hf=>mv hf rfl fun a hf=>?_; refine O.nil ?_; have hsw:(Det.ow o3 (l.getD k 0)).toNat<us.length:=by omega
          replace hS:=St.slsTake (N:=[]) (s:=((Det.ow o3 (l.getD k 0)).toNat)) hS hsw; replace hS:St w0 _ noX [rI vP zs,rI vL l,rdv 1 va vs.length vs,inn vs seeds] [sl 3 1 (us.getD ((Det.ow o3 (l.getD k 0)).toNat) undef) ((outs.getD ((Det.ow o3 (l.getD k 0)).toNat) []).length) (ints (outs.getD ((Det.ow o3 (l.getD k 0)).toNat) [])),bigA ((slsA 3 us outs).eraseIdx ((Det.ow o3 (l.getD k 0)).toNat)),sl 26 1 vt us.length us,sl 3 1 vm o3.length (ints o3),pt b_f1 (.cells #[iV fW,iV fH,vP] 24 (0,0))]:=hS; refine k_seq ?_
          have hf1:Fr a 100 [] []:=hf.to trivial; replace hf:Fr a 100 [] [(1,_),(6,_),(7,_),(12,_),(13,_),(14,_)]:=hf.q rfl
          let LZ487:List (Nat × Value):=[(1,vL),(6,.slice none 0 0),(7,vm),(12,vt),(13,iV k),(14,iV (o3.getD (Int.toNat (l.getD k 0)) 0))]
          let MZ487:List Asr:=[sl 3 1 (us.getD ((Det.ow o3 (l.getD k 0)).toNat) undef) ((outs.getD ((Det.ow o3 (l.getD k 0)).toNat) []).length) (ints (outs.getD ((Det.ow o3 (l.getD k 0)).toNat) [])),bigA ((slsA 3 us outs).eraseIdx ((Det.ow o3 (l.getD k 0)).toNat)),sl 26 1 vt us.length us,sl 3 1 vm o3.length (ints o3),pt b_f1 (.cells #[iV fW,iV fH,vP] 24 (0,0))]
          let BZ487:List Asr:=[rI vP zs,rI vL l,rdv 1 va vs.length vs,inn vs seeds]
          refine W.drawD (γ:=(Nat) × (Value)) (L0:=LZ487) (L1:=[]) (0,default) [10,11,13] [] [0,1,2,3,4,5,6,7,8,9,12] (fun i_=>match i_ with | 4=>[2,3] | 5=>[4] | 8=>[6,7] | 9=>[8] | 10=>[9] | 11=>[5,10] | 12=>[0,1] | 13=>[11,12] | _=>[]) (fun _=>[]) (fun i_=>match i_ with | 10=>[11,12,13] | 11=>[12,13] | _=>[]) (fun _=>[]) (fun i_=>match i_ with | 11=>1 | 12=>2 | 13=>2 | _=>0) (fun i_=>match i_ with | 0=>2 | 1=>2 | 2=>1 | 3=>1 | 4=>1 | 5=>1 | 10=>1 | 11=>2 | 12=>2 | 13=>3 | _=>0) (fun (g:(Nat) × (Value)) j_=>match g,j_ with | ⟨b_s12,v13⟩,0=>vt | ⟨b_s12,v13⟩,1=>iV (o3.getD (Int.toNat (l.getD k 0)) 0) | ⟨b_s12,v13⟩,2=>vt | ⟨b_s12,v13⟩,3=>iV (o3.getD (Int.toNat (l.getD k 0)) 0) | ⟨b_s12,v13⟩,4=>ix vt ((Det.ow o3 (l.getD k 0)).toNat) | ⟨b_s12,v13⟩,5=>(us.getD ((Det.ow o3 (l.getD k 0)).toNat) undef) | ⟨b_s12,v13⟩,6=>vL | ⟨b_s12,v13⟩,7=>iV k | ⟨b_s12,v13⟩,8=>ix vL k | ⟨b_s12,v13⟩,9=>iV (l.getD k 0) | ⟨b_s12,v13⟩,10=>.slice (some ⟨b_s12,0,none⟩) 1 1 | ⟨b_s12,v13⟩,11=>v13 | ⟨b_s12,v13⟩,12=>ix vt ((Det.ow o3 (l.getD k 0)).toNat) | _,_=>undef) (fun k_ (_:Nat→Bool) (g:(Nat) × (Value)) w=>match k_,g with | 0,⟨b_s12,v13⟩=>St w0 w noX BZ487 MZ487 | 1,⟨b_s12,v13⟩=>St w0 w noX BZ487 (pt b_s12 (.cells #[iV (l.getD k 0)] 3 (0,0))::MZ487) | 2,⟨b_s12,v13⟩=>St w0 w noX BZ487 [pt b_s12 (.cells #[iV (l.getD k 0)] 3 (0,0)),sl 3 1 v13 (((outs.getD ((Det.ow o3 (l.getD k 0)).toNat) [])++[l.getD k 0]).length) (ints ((outs.getD ((Det.ow o3 (l.getD k 0)).toNat) [])++[l.getD k 0])),bigA ((slsA 3 us outs).eraseIdx ((Det.ow o3 (l.getD k 0)).toNat)),sl 26 1 vt us.length us,sl 3 1 vm o3.length (ints o3),pt b_f1 (.cells #[iV fW,iV fH,vP] 24 (0,0))] | _,⟨b_s12,v13⟩=>St w0 w noX BZ487 [pt b_s12 (.cells #[iV (l.getD k 0)] 3 (0,0)),sl 3 1 v13 (((outs.getD ((Det.ow o3 (l.getD k 0)).toNat) [])++[l.getD k 0]).length) (ints ((outs.getD ((Det.ow o3 (l.getD k 0)).toNat) [])++[l.getD k 0])),bigA ((slsA 3 us outs).eraseIdx ((Det.ow o3 (l.getD k 0)).toNat)),sl 26 1 vt us.length (us.set ((Det.ow o3 (l.getD k 0)).toNat) v13),sl 3 1 vm o3.length (ints o3),pt b_f1 (.cells #[iV fW,iV fH,vP] 24 (0,0))]) P_mixed (by kernel_rfl) (by kernel_rfl) (by kernel_rfl) hf hf1 hS.drew ?_ ?_ trivial ?_
          · clear hf hf1 hS
            refine ⟨?_,?_,?_,?_,?_,?_,?_,?_,?_,?_,?_,trivial⟩
            · exact fun _ _ ⟨b_s12,v13⟩ _ _ _ _ hD _ hf=>qm hf rfl hD
            · exact fun _ _ ⟨b_s12,v13⟩ _ _ _ _ hD _ hf=>qm hf rfl hD
            · exact fun _ _ ⟨b_s12,v13⟩ _ _ _ _ hD _ hf=>qm hf rfl hD
            · exact fun _ _ ⟨b_s12,v13⟩ _ _ _ _ hD _ hf=>qm hf rfl hD
            · intro k_ s_ g w hlo hhi _ hD a hf; obtain ⟨b_s12,v13⟩:=g; rcases k_ with _ | _ | _ | k_
              · exact qv hf rfl (RunV.ixV (j:=(Det.ow o3 (l.getD k 0)).toNat) (m:=(Det.ow o3 (l.getD k 0)).toNat) T_elem_28 T_size_26 rfl rfl (hD.slr (j:=2) rfl) (by rw [hnow,Int.toNat_of_nonneg hwr.1]) (by omega) (Nat.mul_one _)) hD
              · exact qv hf rfl (RunV.ixV (j:=(Det.ow o3 (l.getD k 0)).toNat) (m:=(Det.ow o3 (l.getD k 0)).toNat) T_elem_28 T_size_26 rfl rfl (hD.slr (j:=3) rfl) (by rw [hnow,Int.toNat_of_nonneg hwr.1]) (by omega) (Nat.mul_one _)) hD
              · exact absurd hhi (by decide)
              · have hhi:k_+3≤1:=hhi; omega
            · intro k_ s_ g w hlo hhi _ hD a hf; obtain ⟨b_s12,v13⟩:=g; rcases k_ with _ | _ | _ | k_
              · exact qv hf rfl (RunV.ld1 T_agg_26 rfl (hD.slr (j:=2) rfl) (vs_get (by omega))) hD
              · exact qv hf rfl (RunV.ld1 T_agg_26 rfl (hD.slr (j:=3) rfl) (vs_get (by omega))) hD
              · exact absurd hhi (by decide)
              · have hhi:k_+3≤1:=hhi; omega
            · exact fun _ _ ⟨b_s12,v13⟩ _ _ _ _ hD _ hf=>qm hf rfl hD
            · exact fun _ _ ⟨b_s12,v13⟩ _ _ _ _ hD _ hf=>qm hf rfl hD
            · exact s1 (fun _ ⟨b_s12,v13⟩ _ _ hD _ hf=>qv hf rfl (RunV.ixV (j:=k) (m:=k) T_elem_26 T_size_3 rfl rfl (hD.rdAt (j:=1) rfl) rfl (by omega) (Nat.mul_one _)) hD) rfl
            · exact s1 (fun _ ⟨b_s12,v13⟩ _ _ hD _ hf=>qv hf rfl (RunV.ld1 T_agg_3 rfl (hD.rdAt (j:=1) rfl) (ints_get (by omega))) hD) rfl
            · exact s1 (fun _ ⟨b_s12,v13⟩ _ _ hD _ hf=>qv hf rfl (RunV.ixV (j:=(Det.ow o3 (l.getD k 0)).toNat) (m:=(Det.ow o3 (l.getD k 0)).toNat) T_elem_28 T_size_26 rfl rfl (hD.slr (j:=3) rfl) (by rw [hnow,Int.toNat_of_nonneg hwr.1]) (by omega) (Nat.mul_one _)) hD) rfl
          · clear hf hf1 hS
            refine ⟨?_,?_,?_,trivial⟩
            · intro s_ g w _ hD a hf
              obtain ⟨b_s12,v13⟩:=g; have hS:=hD; clear hD; refine O.buildSlice (cs':=#[iV (l.getD k 0)]) (zs:=#[iV 0]) hf hS rfl rfl T_elem_26 T_size_3 T_zero_3 rfl rfl rfl rfl rfl ?_; intro b_s15 w a hbb_s15 hS hf; exact O.nil ⟨rfl,(b_s15,v13),hf.to trivial,(gt (d:=96) hf rfl rfl),(fun j_ hj_ ha_=>match j_,hj_,ha_ with | 0,hj_,ha_=>rfl | 1,hj_,ha_=>rfl | 2,hj_,ha_=>rfl | 3,hj_,ha_=>rfl | 4,hj_,ha_=>rfl | 5,hj_,ha_=>rfl | 6,hj_,ha_=>rfl | 7,hj_,ha_=>rfl | 8,hj_,ha_=>rfl | 9,hj_,ha_=>rfl | 10,hj_,ha_=>absurd rfl hj_ | 11,hj_,ha_=>absurd ha_ (by decide) | 12,hj_,ha_=>absurd ha_ (by decide) | 13,hj_,ha_=>absurd ha_ (by decide) | _+14,_,_=>rfl),hS⟩
            · intro s_ g w _ hD a hf
              obtain ⟨b_s12,v13⟩:=g; have hS:=hD; clear hD; replace hf:Fr a 100 [] ((91,(us.getD ((Det.ow o3 (l.getD k 0)).toNat) undef))::(96,.slice (some ⟨b_s12,0,none⟩) 1 1)::LZ487):=hf; refine O.append1 (j:=1) (jj:=0) hf hS rfl rfl T_elem_26 T_size_3 T_bytes_3 T_zero_3 rfl rfl rfl rfl rfl rfl rfl rfl (by unfold maxLen; omega) (by omega) ?_; intro v16 w a hS hf; replace hS:=hS.eqM (N:=[pt b_s12 (.cells #[iV (l.getD k 0)] 3 (0,0)),sl 3 1 v16 ((outs.getD ((Det.ow o3 (l.getD k 0)).toNat) []).length+1) (ints (outs.getD ((Det.ow o3 (l.getD k 0)).toNat) [])++[iV (l.getD k 0)]),bigA ((slsA 3 us outs).eraseIdx ((Det.ow o3 (l.getD k 0)).toNat)),sl 26 1 vt us.length us,sl 3 1 vm o3.length (ints o3),pt b_f1 (.cells #[iV fW,iV fH,vP] 24 (0,0))]) rfl; replace hS:=hS.eqM (N:=[pt b_s12 (.cells #[iV (l.getD k 0)] 3 (0,0)),sl 3 1 v16 (((outs.getD ((Det.ow o3 (l.getD k 0)).toNat) [])++[l.getD k 0]).length) (ints ((outs.getD ((Det.ow o3 (l.getD k 0)).toNat) [])++[l.getD k 0])),bigA ((slsA 3 us outs).eraseIdx ((Det.ow o3 (l.getD k 0)).toNat)),sl 26 1 vt us.length us,sl 3 1 vm o3.length (ints o3),pt b_f1 (.cells #[iV fW,iV fH,vP] 24 (0,0))]) (by rw [sl_ints]); exact O.nil ⟨rfl,(b_s12,v16),hf.to trivial,(gt (d:=97) hf rfl rfl),(fun j_ hj_ ha_=>match j_,hj_,ha_ with | 0,hj_,ha_=>rfl | 1,hj_,ha_=>rfl | 2,hj_,ha_=>rfl | 3,hj_,ha_=>rfl | 4,hj_,ha_=>rfl | 5,hj_,ha_=>rfl | 6,hj_,ha_=>rfl | 7,hj_,ha_=>rfl | 8,hj_,ha_=>rfl | 9,hj_,ha_=>rfl | 10,hj_,ha_=>rfl | 11,hj_,ha_=>absurd rfl hj_ | 12,hj_,ha_=>absurd ha_ (by decide) | 13,hj_,ha_=>absurd ha_ (by decide) | _+14,_,_=>rfl),hS⟩
            · intro s_ g w _ hD a hf
              obtain ⟨b_s12,v13⟩:=g; have hS:=hD; clear hD; replace hf:Fr a 100 [] ((97,v13)::(98,ix vt ((Det.ow o3 (l.getD k 0)).toNat))::LZ487):=hf; have hcl17:=rdOK.cells (hS.slr (j:=1) rfl); refine O.storeSl (j:=3) (m:=(Det.ow o3 (l.getD k 0)).toNat) (xs':=us.set ((Det.ow o3 (l.getD k 0)).toNat) v13) (M':=[pt b_s12 (.cells #[iV (l.getD k 0)] 3 (0,0)),sl 3 1 v13 (((outs.getD ((Det.ow o3 (l.getD k 0)).toNat) [])++[l.getD k 0]).length) (ints ((outs.getD ((Det.ow o3 (l.getD k 0)).toNat) [])++[l.getD k 0])),bigA ((slsA 3 us outs).eraseIdx ((Det.ow o3 (l.getD k 0)).toNat)),sl 26 1 vt us.length (us.set ((Det.ow o3 (l.getD k 0)).toNat) v13),sl 3 1 vm o3.length (ints o3),pt b_f1 (.cells #[iV fW,iV fH,vP] 24 (0,0))]) hf hS rfl rfl rfl T_size_26 hcl17.1 hcl17.2 rfl (by first | omega | (simp only [List.length_set]; omega)) rfl rfl rfl ?_; intro w hS; exact O.nil ⟨rfl,(b_s12,v13),hf.to trivial,(fun d hd=>by cases (show none=some d from hd)),(fun j_ hj_ ha_=>match j_,hj_,ha_ with | 0,hj_,ha_=>rfl | 1,hj_,ha_=>rfl | 2,hj_,ha_=>rfl | 3,hj_,ha_=>rfl | 4,hj_,ha_=>rfl | 5,hj_,ha_=>rfl | 6,hj_,ha_=>rfl | 7,hj_,ha_=>rfl | 8,hj_,ha_=>rfl | 9,hj_,ha_=>rfl | 10,hj_,ha_=>rfl | 11,hj_,ha_=>rfl | 12,hj_,ha_=>rfl | 13,hj_,ha_=>absurd rfl hj_ | _+14,_,_=>rfl),hS⟩
          clear hf hf1 hS; intro s_ g a w _ hf hD; obtain ⟨b_s12,v13⟩:=g; have hS:=hD; clear hD; replace hf:Fr a 100 [] ((86,vt)::(87,iV (o3.getD (Int.toNat (l.getD k 0)) 0))::(88,vt)::(89,iV (o3.getD (Int.toNat (l.getD k 0)) 0))::(90,ix vt ((Det.ow o3 (l.getD k 0)).toNat))::(91,(us.getD ((Det.ow o3 (l.getD k 0)).toNat) undef))::(92,vL)::(93,iV k)::(94,ix vL k)::(95,iV (l.getD k 0))::(96,.slice (some ⟨b_s12,0,none⟩) 1 1)::(97,v13)::(98,ix vt ((Det.ow o3 (l.getD k 0)).toNat))::LZ487):=hf; replace hS:St w0 _ noX BZ487 [pt b_s12 (.cells #[iV (l.getD k 0)] 3 (0,0)),bigA (slsA 3 (us.set ((Det.ow o3 (l.getD k 0)).toNat) v13) (outs.set ((Det.ow o3 (l.getD k 0)).toNat) ((outs.getD ((Det.ow o3 (l.getD k 0)).toNat) [])++[l.getD k 0]))),sl 26 1 vt us.length (us.set ((Det.ow o3 (l.getD k 0)).toNat) v13),sl 3 1 vm o3.length (ints o3),pt b_f1 (.cells #[iV fW,iV fH,vP] 24 (0,0))]:=St.slsPut (N:=[pt b_s12 (.cells #[iV (l.getD k 0)] 3 (0,0))]) hS hsw (by omega); refine k_blk_normal<|k_seq<|?_
          refine R3 rfl<|mv hf rfl<|fun a hf=>ov hf rfl (RunV.addI rfl rfl (by omega)) fun a hf=>mv hf rfl fun a hf=>?_; refine O.nil ?_; replace hS:=hS.sl [0,1,1,1,1]; refine k_then ⟨(k+1,(us.set ((Det.ow o3 (l.getD k 0)).toNat) v13),(outs.set ((Det.ow o3 (l.getD k 0)).toNat) ((outs.getD ((Det.ow o3 (l.getD k 0)).toNat) [])++[l.getD k 0]))),⟨hf.to ⟨rfl,rfl,rfl,rfl,(by first | rfl | exact vI (by omega)),trivial⟩,?_,?_,?_,?_,?_⟩,?_⟩
          · exact hS.eqM (by simp only [List.length_set])
          · omega
          · rw [h7,Det.filt_step (by omega) hwr]
          · simp only [List.length_set]; exact h8
          · simp only [List.length_set]; exact h9
          · dsimp only; omega
        · refine W.exit ?_
          refine k_then_exit<|k_then_exit<|k_blk<|k_seq<|W.seq<|?_
          refine R2 rfl<|mv hf rfl<|fun a hf=>mv hf rfl fun a hf=>?_; refine nk<|W.ret<|post1 hf rfl (ResOK.tmp rfl)<|?_; obtain rfl:k=l.length:=by omega
          replace hS:=hS.slsInn (j:=0) rfl (by omega); have h7e:outs=Det.setsM zs fW fH l seeds:=by rw [h7,hoe,Det.filt_end]
          rw [h7e] at hS; replace hS:=hS.front (i:=1) (M':=[sl 26 1 vt us.length us,inn us (Det.setsM zs fW fH l seeds),sl 3 1 vm o3.length (ints o3),pt b_f1 (.cells #[iV fW,iV fH,vP] 24 (0,0))]) rfl rfl; exact ⟨(vt,us),rfl,(hS.sub (.cons_cons _ (.cons_cons _ (.cons _ (.cons _ .slnil))))).noB⟩
theorem seeds13 (fW fH:Nat) (least lw:Int) (vP vB:Value) (zs l:List Int) (ins:List Bool) (w0:World) (hW:1≤fW∧fW≤100) (hH:1≤fH∧fH≤100) (hn:zs.length=fW*fH) (hi:ins.length=fW*fH) (he:ins=Det.inM zs (fW*fH) l lw) (hP:rdOK (hp w0) 1 vP zs.length (ints zs)) (hB:rdOK (hp w0) 1 vB ins.length (bools ins)) :
    Ret Tryz.prog 57 #[(fG fW fH vP),vB,iV least] w0 (G:=Value × List Value) (fun g=>g.1) (fun g w=>St w0 w noX [] [sl 26 1 g.1 g.2.length g.2,inn g.2 (Det.seedsM zs fW fH least l lw)]):=by
  have h:=parts13_spec fW fH least vP vB zs ins w0 hW hH hn hi hP hB; rw [hi] at h; unfold Det.seedsM; rw [← he]; exact h
def DivC (fW fH:Nat) (least:Int) (vP:Value) (zs lv:List Int):Prop:=∀ (vL vv:Value) (l:List Int) (w0:World),Det.SetOK fW fH l→rdOK (hp w0) 1 vP zs.length (ints zs)→rdOK (hp w0) 1 vL l.length (ints l)→rdOK (hp w0) 1 vv lv.length (ints lv)→vfit vv →
    Ret Tryz.prog 35 #[(fG fW fH vP),vL,vv,iV least] w0 (G:=Value × List Value) (fun g=>g.1) (fun g w=>St w0 w noX [] [sl 26 1 g.1 g.2.length g.2,inn g.2 (Det.divideM zs fW fH least lv l)])
set_option maxHeartbeats 1000000 in
set_option maxRecDepth 4000 in
theorem div35 (fW fH:Nat) (least:Int) (vP vL vv:Value) (zs l lv:List Int) (w0:World) (hW:1≤fW∧fW≤100) (hH:1≤fH∧fH≤100) (hn:zs.length=fW*fH) (hP:rdOK (hp w0) 1 vP zs.length (ints zs)) (hL:rdOK (hp w0) 1 vL l.length (ints l)) (hv:rdOK (hp w0) 1 vv lv.length (ints lv)) (hft:vfit vv) (hls:1≤least) (hok:Det.SetOK fW fH l) (ih:∀ n,n<lv.length→DivC fW fH least vP zs (lv.drop (n+1))) :
    Ret Tryz.prog 35 #[(fG fW fH vP),vL,vv,iV least] w0 (G:=Value × List Value) (fun g=>g.1) (fun g w=>St w0 w noX [] [sl 26 1 g.1 g.2.length g.2,inn g.2 (Det.divideM zs fW fH least lv l)]):=by
  refine ret_of_W (lv:=[(fG fW fH vP),vL,vv,iV least]) Tryz.func35 rfl rfl rfl (fun a hf=>?_); replace hf:Fr a 86 [] [(0,(fG fW fH vP)),(1,vL),(2,vv),(3,iV least)]:=hf; have hS:St w0 w0 noX [rI vP zs,rI vL l,rI vv lv] []:=(((St.refl w0).lend0 hv).lend0 hL).lend0 hP; have hN:fW*fH≤10000:=Nat.mul_le_mul hW.2 hH.2; have hlen:=hL.2.1; unfold maxLen at hlen; have hlev:=hv.2.1; unfold maxLen at hlev; have hl:=hok.asc; have hr:=hok.rng; have hll:l.length≤10000:=Det.asc_lele hl hr hN; refine W.seq ?_
  refine R2 rfl<|O.box (cs:=#[iV fW,iV fH,vP]) hf hS rfl rfl rfl rfl<|?_; intro b_f1 w a hbb_f1 hS hf; refine mv hf rfl fun a hf=>?_; refine nk<|W.seq<|W.seq<|?_
  refine R1 rfl<|mv hf rfl<|fun a hf=>?_; refine nk<|W.block<|?_
  refine W.loop (G:=(Nat)) (fun g a w=>match g with | n=>Fr a 86 [] [(1,vL),(2,vv),(3,iV least),(4,(pp b_f1)),(9,iV n)]∧St w0 w noX [rI vP zs,rI vL l,rI vv lv] [pt b_f1 (.cells #[iV fW,iV fH,vP] 24 (0,0))]∧(n≤lv.length)∧(Det.divideM zs fW fH least (lv.drop n) l=Det.divideM zs fW fH least lv l)) (fun g=>match g with | n=>lv.length-n) 0 ?_ ?_
  · refine ⟨hf.to ⟨rfl,rfl,rfl,rfl,(by first | rfl | exact vI (by omega)),trivial⟩,hS,?_,?_⟩
    · omega
    · rw [List.drop_zero]
  clear hf hS a; rintro n a w ⟨hf,hS,h1,hd⟩; refine W.seq<|W.seq<|?_
  refine R4 rfl<|mv hf rfl<|fun a hf=>mv hf rfl fun a hf=>ov hf rfl (RunV.lenV (e:=2) (by simpa using T_elem_22) rfl (hS.rdAt (j:=2) rfl)) fun a hf=>ov (v:=.bool (decide ((n:Int)<((lv.length:Int):Int)))) hf rfl (RunV.lss rfl rfl) fun a hf=>?_; refine nk ?_; refine W.ifdI hf rfl (fun hn1=>?_) (fun hn1=>?_)
  · refine W.skip ?_
    refine k_seq<|W.seq<|W.block<|W.seq<|?_
    refine R5 rfl<|ov hf rfl (RunV.field T_field_24_2 rfl rfl)<|fun a hf=>ov hf rfl (RunV.load1 T_agg_22 rfl (hS.p 0 rfl) rfl) fun a hf=>ov hf rfl (RunV.lenV (e:=2) (by simpa using T_elem_22) rfl (hS.rdAt (j:=0) rfl)) fun a hf=>?_; refine O.make (N:=zs.length) hf hS rfl rfl T_elem_25 T_size_4 T_bytes_4 T_zero_4 rfl rfl (by unfold maxLen; omega) (by omega) ?_; intro b_m3 w a hbb_m3 hS hf; have hS:=hS.eqM (N:=[sl 4 1 (.slice (some ⟨b_m3,0,none⟩) zs.length zs.length) zs.length (bools (List.replicate zs.length false)),pt b_f1 (.cells #[iV fW,iV fH,vP] 24 (0,0))]) (by rw [made_bools]); refine mv hf rfl fun a hf=>?_; refine O.nil ?_; obtain ⟨vm,hvm⟩:∃ vm,(.slice (some ⟨b_m3,0,none⟩) zs.length zs.length:Value)=vm:=⟨_,rfl⟩; rw [hvm] at hf hS; clear hvm; replace hS:=hS.eqM (N:=[sl 4 1 vm ((List.replicate zs.length false).length) (bools (List.replicate zs.length false)),pt b_f1 (.cells #[iV fW,iV fH,vP] 24 (0,0))]) (by simp); refine k_seq<|W.seq<|W.seq<|?_
    refine R1 rfl<|mv hf rfl<|fun a hf=>?_; refine nk<|W.block<|?_
    refine W.loop (G:=(Nat) × (List Bool)) (fun g a w=>match g with | (k,ins)=>Fr a 86 [] [(1,vL),(2,vv),(3,iV least),(4,(pp b_f1)),(9,iV n),(10,vm),(11,iV k)]∧St w0 w noX [rI vP zs,rI vL l,rI vv lv] [sl 4 1 vm ins.length (bools ins),pt b_f1 (.cells #[iV fW,iV fH,vP] 24 (0,0))]∧(k≤l.length)∧(ins=Det.inM zs (fW*fH) (l.take k) (lv.getD n 0))∧(ins.length=fW*fH)) (fun g=>match g with | (k,ins)=>l.length-k) (0,(List.replicate zs.length false)) ?_ ?_
    · refine ⟨hf.to ⟨rfl,rfl,rfl,rfl,rfl,rfl,(by first | rfl | exact vI (by omega)),trivial⟩,hS,?_,?_,?_⟩
      · omega
      · rw [List.take_zero,Det.inM_0,hn]
      · rw [List.length_replicate]; exact hn
    clear hf hS a; rintro ⟨k,ins⟩ a w ⟨hf,hS,h2,h3,h4⟩; refine W.seq<|W.seq<|?_
    refine R4 rfl<|mv hf rfl<|fun a hf=>mv hf rfl fun a hf=>ov hf rfl (RunV.lenV (e:=3) (by simpa using T_elem_26) rfl (hS.rdAt (j:=1) rfl)) fun a hf=>ov (v:=.bool (decide ((k:Int)<((l.length:Int):Int)))) hf rfl (RunV.lss rfl rfl) fun a hf=>?_; refine nk ?_; replace hf:Fr a 86 [] [(1,_),(2,_),(3,_),(4,_),(9,_),(10,_),(11,_),(29,_)]:=hf.q rfl; refine W.ifdI hf rfl (fun hk1=>?_) (fun hk1=>?_)
    · refine W.skip ?_
      refine k_seq<|W.seq<|W.block<|?_
      have hnr:=hr _ (Det.getD_mem (l:=l) (j:=k) (by omega)); refine W.drawM (l₂:=[19]) (fun w=>St w0 w noX [rI vP zs,rI vL l,rI vv lv] [sl 4 1 vm ins.length (bools ins),pt b_f1 (.cells #[iV fW,iV fH,vP] 24 (0,0))]) 19 P_mixed rfl rfl rfl (by kernel_rfl) hS.drew ?_; clear hS; refine q0 hf rfl rfl fun a hf=>q0 hf rfl rfl fun a hf=>q0 hf rfl rfl fun a hf=>OQ.val (v:=ix vL k) hf rfl (fun w hS=>RunV.ixV (j:=k) (m:=k) T_elem_26 T_size_3 rfl rfl (hS.rdAt (j:=1) rfl) rfl (by omega) (Nat.mul_one _)) fun a hf=>OQ.val (v:=iV (l.getD k 0)) hf rfl (fun w hS=>RunV.ld1 T_agg_3 rfl (hS.rdAt (j:=1) rfl) (ints_get (by omega))) fun a hf=>OQ.val (v:=.pointer (some ⟨b_f1,2,none⟩)) hf rfl (fun w hS=>RunV.field T_field_24_2 rfl rfl) fun a hf=>OQ.val (v:=vP) hf rfl (fun w hS=>RunV.load1 T_agg_22 rfl (hS.p 1 rfl) rfl) fun a hf=>q0 hf rfl rfl fun a hf=>q0 hf rfl rfl fun a hf=>OQ.val (v:=ix vL k) hf rfl (fun w hS=>RunV.ixV (j:=k) (m:=k) T_elem_26 T_size_3 rfl rfl (hS.rdAt (j:=1) rfl) rfl (by omega) (Nat.mul_one _)) fun a hf=>OQ.val (v:=iV (l.getD k 0)) hf rfl (fun w hS=>RunV.ld1 T_agg_3 rfl (hS.rdAt (j:=1) rfl) (ints_get (by omega))) fun a hf=>OQ.val (v:=ix vP (Int.toNat (l.getD k 0))) hf rfl (fun w hS=>RunV.ixV (j:=(Int.toNat (l.getD k 0))) (m:=(Int.toNat (l.getD k 0))) T_elem_22 T_size_2 rfl rfl (hS.rdAt (j:=0) rfl) (by rw [Int.toNat_of_nonneg (by omega)]) (by omega) (Nat.mul_one _)) fun a hf=>OQ.val (v:=iV (zs.getD (Int.toNat (l.getD k 0)) 0)) hf rfl (fun w hS=>RunV.ld1 T_agg_2 rfl (hS.rdAt (j:=0) rfl) (ints_get (by omega))) fun a hf=>q0 hf rfl rfl fun a hf=>q0 hf rfl rfl fun a hf=>OQ.val (v:=ix vv n) hf rfl (fun w hS=>RunV.ixV (j:=n) (m:=n) T_elem_22 T_size_2 rfl rfl (hS.rdAt (j:=2) rfl) rfl (by omega) (Nat.mul_one _)) fun a hf=>OQ.val (v:=iV (lv.getD n 0)) hf rfl (fun w hS=>RunV.ld1 T_agg_2 rfl (hS.rdAt (j:=2) rfl) (ints_get (by omega))) fun a hf=>OQ.val (v:=.bool (decide ((zs.getD (Int.toNat (l.getD k 0)) 0)≥(lv.getD n 0:Int)))) hf rfl (fun w hS=>RunV.geq rfl rfl) fun a hf=>OQ.val (v:=ix vm (Int.toNat (l.getD k 0))) hf rfl (fun w hS=>RunV.ixV (j:=(Int.toNat (l.getD k 0))) (m:=(Int.toNat (l.getD k 0))) T_elem_25 T_size_4 rfl rfl (hS.slr (j:=0) rfl) (by rw [Int.toNat_of_nonneg (by omega)]) (by omega) (Nat.mul_one _)) fun a hf=>?_; refine OQ.nil ?_; intro w hS; refine O.storeSl (j:=0) (m:=(Int.toNat (l.getD k 0))) (xs':=bools (ins.set (Int.toNat (l.getD k 0)) (decide ((zs.getD (Int.toNat (l.getD k 0)) 0)≥(lv.getD n 0:Int))))) (M':=[sl 4 1 vm ins.length (bools (ins.set (Int.toNat (l.getD k 0)) (decide ((zs.getD (Int.toNat (l.getD k 0)) 0)≥(lv.getD n 0:Int))))),pt b_f1 (.cells #[iV fW,iV fH,vP] 24 (0,0))]) hf hS rfl rfl rfl T_size_4 rfl rfl rfl (by simp only [bools_len,List.length_set]; omega) bools_set rfl rfl ?_; intro w hS; refine O.nil<|k_blk_normal<|k_seq<|?_
      refine R3 rfl<|mv hf rfl<|fun a hf=>ov hf rfl (RunV.addI rfl rfl (by omega)) fun a hf=>mv hf rfl fun a hf=>?_; refine O.nil ?_; refine k_then ⟨(k+1,(ins.set (Int.toNat (l.getD k 0)) (decide ((zs.getD (Int.toNat (l.getD k 0)) 0)≥(lv.getD n 0:Int))))),⟨hf.to ⟨rfl,rfl,rfl,rfl,rfl,rfl,(by first | rfl | exact vI (by omega)),trivial⟩,?_,?_,?_,?_⟩,?_⟩
      · exact hS.eqM (by rw [List.length_set])
      · omega
      · rw [h3]; exact (Det.inM_step (by omega) (fun x hx=>(hr x hx).1) (Det.not_take hl (by omega))).symm
      · simp only [List.length_set]; exact h4
      · dsimp only; omega
    · refine W.exit ?_
      refine k_then_exit<|k_then_exit<|k_blk<|k_seq<|W.seq<|?_
      refine R5 rfl ?_; have hins:ins=Det.inM zs (fW*fH) l (lv.getD n 0):=by rw [h3,show k=l.length from by omega,List.take_length]
      refine ov hf rfl (RunV.loadN (cs':=#[iV fW,iV fH,vP]) T_agg_24 T_size_24 rfl (hS.p 1 rfl) (bl rfl) rfl) fun a hf=>mv hf rfl fun a hf=>mv hf rfl fun a hf=>?_; refine oc hf rfl C_ok_57 (seeds13 fW fH least (lv.getD n 0) vP vm zs l ins _ hW hH hn h4 hins (hS.rdAt (j:=0) rfl) (hS.slr (j:=0) rfl)) ?_; clear hf a; rintro ⟨vsd,sd⟩ w5 hS1 a hf; try dsimp only at hS1 hf; replace hS:=hS.cl hS1; refine mv hf rfl fun a hf=>?_; refine O.nil ?_; have hsl:=(hS.innAt (j:=1) rfl).1
      try dsimp only at hsl
      refine k_seq<|W.seq<|W.seq<|?_
      refine R3 rfl<|mv hf rfl<|fun a hf=>ov hf rfl (RunV.lenV (e:=26) (by simpa using T_elem_28) rfl (hS.slr (j:=0) rfl)) fun a hf=>ov (v:=.bool (decide ((sd.length:Int)<(2:Int)))) hf rfl (RunV.lss rfl rfl) fun a hf=>?_; refine nk ?_; refine W.ifdI hf rfl (fun h2c=>?_) (fun h2c=>?_)
      · refine W.exit ?_
        refine k_then_exit<|k_blk<|k_seq<|?_
        refine R3 rfl<|mv hf rfl<|fun a hf=>ov hf rfl (RunV.addI rfl rfl (by omega)) fun a hf=>mv hf rfl fun a hf=>?_; refine O.nil ?_; replace hS:=hS.sl [0,0,0,1]; refine k_then ⟨(n+1),⟨hf.to ⟨rfl,rfl,rfl,rfl,(by first | rfl | exact vI (by omega)),trivial⟩,?_,?_,?_⟩,?_⟩
        · exact hS.eqM rfl
        · omega
        · rw [← hd,Det.drop_s (k:=n) (by omega),Det.divide_skip (by omega)]
        · dsimp only; omega
      · refine W.skip ?_
        refine k_seq<|W.seq<|?_
        refine R5 rfl<|ov hf rfl (RunV.loadN (cs':=#[iV fW,iV fH,vP]) T_agg_24 T_size_24 rfl (hS.p 3 rfl) (bl rfl) rfl)<|fun a hf=>mv hf rfl fun a hf=>mv hf rfl fun a hf=>?_; refine oc hf rfl C_ok_58 (grown58_spec fW fH vP vL vsd zs l sd (Det.seedsM zs fW fH least l (lv.getD n 0)) _ hW hH hn hl hr (hS.rdAt (j:=0) rfl) (hS.rdAt (j:=1) rfl) (hS.slr (j:=0) rfl) (hS.innAt (j:=1) rfl) Det.seeds_rng.1 Det.seeds_rng.2 (by have:=Det.seeds_le (P:=zs) (W:=fW) (H:=fH) (least:=least) (px:=l) (lv:=(lv.getD n 0)); omega) (Det.end_own hok hls (by omega))) ?_; clear hf a; rintro ⟨vst,sts⟩ w7 hS1 a hf; try dsimp only at hS1 hf; replace hS:=hS.cl hS1; refine mv hf rfl fun a hf=>?_; refine O.nil ?_; have hst:=(hS.innAt (j:=1) rfl).1
        try dsimp only at hst
        have hst2:sts.length≤10000:=by
          rw [hst,Det.sets_len]; have:=Det.seeds_le (P:=zs) (W:=fW) (H:=fH) (least:=least) (px:=l) (lv:=(lv.getD n 0))
          omega
        refine k_seq<|W.seq<|?_
        refine R1 rfl<|mv hf rfl<|fun a hf=>?_; refine nk<|W.seq<|W.seq<|?_
        refine R1 rfl<|mv hf rfl<|fun a hf=>?_; refine nk<|W.block<|?_; replace hS:St w0 _ noX [rI vP zs,rI vL l,rI vv lv] [sl 26 1 (.slice none 0 0) (([]:List Value).length) ([]),inn [] [],sl 26 1 vst sts.length sts,inn sts (Det.setsM zs fW fH l (Det.seedsM zs fW fH least l (lv.getD n 0))),sl 26 1 vsd sd.length sd,inn sd (Det.seedsM zs fW fH least l (lv.getD n 0)),sl 4 1 vm ins.length (bools ins),pt b_f1 (.cells #[iV fW,iV fH,vP] 24 (0,0))]:=(hS.innNil).nilSl 26 1
        refine W.loop (G:=(Nat) × (Value) × (List Value) × (List (List Int))) (fun g a w=>match g with | (s,vt,us,outs)=>Fr a 86 [] [(1,vL),(2,vv),(3,iV least),(4,(pp b_f1)),(9,iV n),(10,vm),(11,iV k),(12,vsd),(13,vst),(14,vt),(15,iV s)]∧St w0 w noX [rI vP zs,rI vL l,rI vv lv] [sl 26 1 vt us.length us,inn us outs,sl 26 1 vst sts.length sts,inn sts (Det.setsM zs fW fH l (Det.seedsM zs fW fH least l (lv.getD n 0))),sl 26 1 vsd sd.length sd,inn sd (Det.seedsM zs fW fH least l (lv.getD n 0)),sl 4 1 vm ins.length (bools ins),pt b_f1 (.cells #[iV fW,iV fH,vP] 24 (0,0))]∧(s≤sts.length)∧(outs=((Det.setsM zs fW fH l (Det.seedsM zs fW fH least l (lv.getD n 0))).take s).flatMap (Det.divideM zs fW fH least (lv.drop (n+1))))) (fun g=>match g with | (s,vt,us,outs)=>sts.length-s) (0,(.slice none 0 0),[],[]) ?_ ?_
        · refine ⟨hf.to ⟨rfl,rfl,rfl,rfl,rfl,rfl,rfl,rfl,rfl,(by first | rfl | exact vI (by omega)),(by first | rfl | exact vI (by omega)),trivial⟩,hS,?_,?_⟩
          · omega
          · rfl
        clear hf hS a; rintro ⟨s,vt,us,outs⟩ a w ⟨hf,hS,g1,g2⟩; refine W.seq<|W.seq<|?_
        refine R4 rfl<|mv hf rfl<|fun a hf=>mv hf rfl fun a hf=>ov hf rfl (RunV.lenV (e:=26) (by simpa using T_elem_28) rfl (hS.slr (j:=2) rfl)) fun a hf=>ov (v:=.bool (decide ((s:Int)<((sts.length:Int):Int)))) hf rfl (RunV.lss rfl rfl) fun a hf=>?_; refine nk ?_; refine W.ifdI hf rfl (fun hs1=>?_) (fun hs1=>?_)
        · refine W.skip ?_
          refine k_seq<|W.seq<|W.block<|?_
          have hokS:=((Det.sets_ok (P:=zs) (lv:=(lv.getD n 0)) hok hls (by omega)).1 _ (Det.at_mem (ss:=(Det.setsM zs fW fH l (Det.seedsM zs fW fH least l (lv.getD n 0)))) (q:=s) (by omega))).1; have hub:=(hS.innAt (j:=1) rfl).1; have hub2:outs.length≤fW*fH:=by rw [g2]; exact Det.flat_len hls (fun x hx=>((Det.sets_ok (P:=zs) (lv:=(lv.getD n 0)) hok hls (by omega)).1 x hx).1) (Det.sets_ok (P:=zs) (lv:=(lv.getD n 0)) hok hls (by omega)).2.1
          have hf1:Fr a 86 [] [(14,vt)]:=hf.q rfl; replace hf:Fr a 86 [] [(1,_),(2,_),(3,_),(4,_),(9,_),(10,_),(11,_),(12,_),(13,_),(15,_)]:=hf.q rfl
          let LZ1017:List (Nat × Value):=[(1,vL),(2,vv),(3,iV least),(4,(pp b_f1)),(9,iV n),(10,vm),(11,iV k),(12,vsd),(13,vst),(15,iV s)]
          let MZ1017:List Asr:=[sl 26 1 vt us.length us,inn us outs,sl 26 1 vst sts.length sts,inn sts (Det.setsM zs fW fH l (Det.seedsM zs fW fH least l (lv.getD n 0))),sl 26 1 vsd sd.length sd,inn sd (Det.seedsM zs fW fH least l (lv.getD n 0)),sl 4 1 vm ins.length (bools ins),pt b_f1 (.cells #[iV fW,iV fH,vP] 24 (0,0))]
          let BZ1017:List Asr:=[rI vP zs,rI vL l,rI vv lv]
          refine W.drawD (γ:=(Value × List Value) × (Value)) (L0:=LZ1017) (L1:=[(14,vt)]) ((undef,[]),undef) [11,12] [] [0,1,2,3,4,5,6,7,8,9,10,13] (fun i_=>match i_ with | 4=>[2,3] | 5=>[4] | 8=>[7] | 9=>[6,8] | 11=>[1,5,9,10] | 12=>[0,11] | 13=>[12] | _=>[]) (fun _=>[]) (fun i_=>match i_ with | 11=>[12,13] | 12=>[13] | _=>[]) (fun i_=>match i_ with | 0=>[14] | _=>[]) (fun i_=>match i_ with | 12=>1 | 13=>2 | _=>0) (fun i_=>match i_ with | 0=>1 | 11=>1 | 12=>2 | 13=>2 | _=>0) (fun (g:(Value × List Value) × (Value)) j_=>match g,j_ with | ⟨gq,v10⟩,0=>vt | ⟨gq,v10⟩,1=>(fG fW fH vP) | ⟨gq,v10⟩,2=>vst | ⟨gq,v10⟩,3=>iV s | ⟨gq,v10⟩,4=>ix vst s | ⟨gq,v10⟩,5=>(sts.getD s undef) | ⟨gq,v10⟩,6=>vv | ⟨gq,v10⟩,7=>iV n | ⟨gq,v10⟩,8=>iV ((n+1:Nat):Int) | ⟨gq,v10⟩,9=>(dropV vv lv (n+1)) | ⟨gq,v10⟩,10=>iV least | ⟨gq,v10⟩,11=>gq.1 | ⟨gq,v10⟩,12=>v10 | ⟨gq,v10⟩,13=>v10 | _,_=>undef) (fun k_ (_:Nat→Bool) (g:(Value × List Value) × (Value)) w=>match k_,g with | 0,⟨gq,v10⟩=>St w0 w noX BZ1017 MZ1017 | 1,⟨gq,v10⟩=>St w0 w noX BZ1017 (sl 26 1 gq.1 gq.2.length gq.2::inn gq.2 (Det.divideM zs fW fH least (lv.drop (n+1)) ((Det.setsM zs fW fH l (Det.seedsM zs fW fH least l (lv.getD n 0))).getD s []))::MZ1017) | _,⟨gq,v10⟩=>St w0 w noX BZ1017 [sl 26 1 gq.1 gq.2.length gq.2,inn gq.2 (Det.divideM zs fW fH least (lv.drop (n+1)) ((Det.setsM zs fW fH l (Det.seedsM zs fW fH least l (lv.getD n 0))).getD s [])),sl 26 1 v10 ((us++gq.2).length) (us++gq.2),inn us outs,sl 26 1 vst sts.length sts,inn sts (Det.setsM zs fW fH l (Det.seedsM zs fW fH least l (lv.getD n 0))),sl 26 1 vsd sd.length sd,inn sd (Det.seedsM zs fW fH least l (lv.getD n 0)),sl 4 1 vm ins.length (bools ins),pt b_f1 (.cells #[iV fW,iV fH,vP] 24 (0,0))]) P_mixed (by kernel_rfl) (by kernel_rfl) (by kernel_rfl) hf hf1 hS.drew ?_ ?_ trivial ?_
          · clear hf hf1 hS
            refine ⟨?_,?_,?_,?_,?_,?_,?_,?_,?_,?_,?_,?_,trivial⟩
            · exact fun _ _ ⟨gq,v10⟩ _ _ _ _ hD _ hf=>qm hf rfl hD
            · exact s1 (fun _ ⟨gq,v10⟩ _ _ hD _ hf=>qv hf rfl (RunV.loadN (cs':=#[iV fW,iV fH,vP]) T_agg_24 T_size_24 rfl (hD.p 7 rfl) (bl rfl) rfl) hD) rfl
            · exact fun _ _ ⟨gq,v10⟩ _ _ _ _ hD _ hf=>qm hf rfl hD
            · exact fun _ _ ⟨gq,v10⟩ _ _ _ _ hD _ hf=>qm hf rfl hD
            · exact s1 (fun _ ⟨gq,v10⟩ _ _ hD _ hf=>qv hf rfl (RunV.ixV (j:=s) (m:=s) T_elem_28 T_size_26 rfl rfl (hD.slr (j:=2) rfl) rfl (by omega) (Nat.mul_one _)) hD) rfl
            · exact s1 (fun _ ⟨gq,v10⟩ _ _ hD _ hf=>qv hf rfl (RunV.ld1 T_agg_26 rfl (hD.slr (j:=2) rfl) (vs_get (by omega))) hD) rfl
            · exact fun _ _ ⟨gq,v10⟩ _ _ _ _ hD _ hf=>qm hf rfl hD
            · exact fun _ _ ⟨gq,v10⟩ _ _ _ _ hD _ hf=>qm hf rfl hD
            · exact fun _ _ ⟨gq,v10⟩ _ _ _ _ hD _ hf=>qv hf rfl (RunV.add1N rfl rfl (by omega)) hD
            · exact s1 (fun _ ⟨gq,v10⟩ _ _ hD _ hf=>qv hf rfl (RunV.dropI (k:=n+1) T_elem_22 T_size_2 rfl rfl (hD.rdAt (j:=2) rfl) hft (by omega)) hD) rfl
            · exact fun _ _ ⟨gq,v10⟩ _ _ _ _ hD _ hf=>qm hf rfl hD
            · exact fun _ _ ⟨gq,v10⟩ _ _ _ _ hD _ hf=>qm hf rfl hD
          · clear hf hf1 hS
            refine ⟨?_,?_,trivial⟩
            · intro s_ g w _ hD a hf
              obtain ⟨gq,v10⟩:=g; have hS:=hD; clear hD; replace hf:Fr a 86 [] ((69,(fG fW fH vP))::(73,(sts.getD s undef))::(77,(dropV vv lv (n+1)))::(78,iV least)::LZ1017):=hf; refine oc hf rfl C_ok_35 (ih n (by omega) (sts.getD s undef) (dropV vv lv (n+1)) ((Det.setsM zs fW fH l (Det.seedsM zs fW fH least l (lv.getD n 0))).getD s []) _ hokS (hS.rdAt (j:=0) rfl) ((hS.innAt (j:=3) rfl).get (by omega)) ((hS.rdAt (j:=2) rfl).dropV hft (by omega)).1 ((hS.rdAt (j:=2) rfl).dropV hft (by omega)).2) ?_; clear hf a; rintro gq w11 hS1 a hf; replace hS:=(hS.call hS1).eqM (N:=(sl 26 1 gq.1 gq.2.length gq.2::inn gq.2 (Det.divideM zs fW fH least (lv.drop (n+1)) ((Det.setsM zs fW fH l (Det.seedsM zs fW fH least l (lv.getD n 0))).getD s []))::MZ1017)) rfl; exact O.nil ⟨rfl,(gq,v10),hf.to trivial,(gt (d:=79) hf rfl rfl),(fun j_ hj_ ha_=>match j_,hj_,ha_ with | 0,hj_,ha_=>rfl | 1,hj_,ha_=>rfl | 2,hj_,ha_=>rfl | 3,hj_,ha_=>rfl | 4,hj_,ha_=>rfl | 5,hj_,ha_=>rfl | 6,hj_,ha_=>rfl | 7,hj_,ha_=>rfl | 8,hj_,ha_=>rfl | 9,hj_,ha_=>rfl | 10,hj_,ha_=>rfl | 11,hj_,ha_=>absurd rfl hj_ | 12,hj_,ha_=>absurd ha_ (by decide) | 13,hj_,ha_=>absurd ha_ (by decide) | _+14,_,_=>rfl),hS⟩
            · intro s_ g w _ hD a hf
              obtain ⟨gq,v10⟩:=g; have hS:=hD; clear hD; replace hf:Fr a 86 [] ((68,vt)::(79,gq.1)::LZ1017):=hf; have hq1:=(hS.innAt (j:=1) rfl).1; have hq2:=Det.divide_len (P:=zs) (least:=least) (levels:=(lv.drop (n+1))) hls hokS; refine O.appendV (j:=2) hf hS rfl rfl T_elem_28 T_size_26 T_bytes_26 T_zero_26 rfl rfl rfl rfl rfl (hS.slr (j:=0) rfl) (hS.innAt (j:=1) rfl).one (by unfold maxLen; omega) (by omega) ?_; intro v12 w a hS hf; replace hS:=hS.eqM (N:=[sl 26 1 gq.1 gq.2.length gq.2,inn gq.2 (Det.divideM zs fW fH least (lv.drop (n+1)) ((Det.setsM zs fW fH l (Det.seedsM zs fW fH least l (lv.getD n 0))).getD s [])),sl 26 1 v12 ((us++gq.2).length) (us++gq.2),inn us outs,sl 26 1 vst sts.length sts,inn sts (Det.setsM zs fW fH l (Det.seedsM zs fW fH least l (lv.getD n 0))),sl 26 1 vsd sd.length sd,inn sd (Det.seedsM zs fW fH least l (lv.getD n 0)),sl 4 1 vm ins.length (bools ins),pt b_f1 (.cells #[iV fW,iV fH,vP] 24 (0,0))]) (by rw [List.length_append]; rfl); exact O.nil ⟨rfl,(gq,v12),hf.to trivial,(gt (d:=80) hf rfl rfl),(fun j_ hj_ ha_=>match j_,hj_,ha_ with | 0,hj_,ha_=>rfl | 1,hj_,ha_=>rfl | 2,hj_,ha_=>rfl | 3,hj_,ha_=>rfl | 4,hj_,ha_=>rfl | 5,hj_,ha_=>rfl | 6,hj_,ha_=>rfl | 7,hj_,ha_=>rfl | 8,hj_,ha_=>rfl | 9,hj_,ha_=>rfl | 10,hj_,ha_=>rfl | 11,hj_,ha_=>rfl | 12,hj_,ha_=>absurd rfl hj_ | 13,hj_,ha_=>absurd ha_ (by decide) | _+14,_,_=>rfl),hS⟩
          clear hf hf1 hS; intro s_ g a w _ hf hD; obtain ⟨gq,v10⟩:=g; have hS:=hD; clear hD; replace hf:Fr a 86 [] ((68,vt)::(69,(fG fW fH vP))::(70,vst)::(71,iV s)::(72,ix vst s)::(73,(sts.getD s undef))::(74,vv)::(75,iV n)::(76,iV ((n+1:Nat):Int))::(77,(dropV vv lv (n+1)))::(78,iV least)::(79,gq.1)::(80,v10)::(14,v10)::LZ1017):=hf; replace hS:=hS.fr 1; replace hS:=hS.fr 3; replace hS:St w0 _ noX BZ1017 [inn (us++gq.2) (outs++(Det.divideM zs fW fH least (lv.drop (n+1)) ((Det.setsM zs fW fH l (Det.seedsM zs fW fH least l (lv.getD n 0))).getD s []))),sl 26 1 gq.1 gq.2.length gq.2,sl 26 1 v10 ((us++gq.2).length) (us++gq.2),sl 26 1 vst sts.length sts,inn sts (Det.setsM zs fW fH l (Det.seedsM zs fW fH least l (lv.getD n 0))),sl 26 1 vsd sd.length sd,inn sd (Det.seedsM zs fW fH least l (lv.getD n 0)),sl 4 1 vm ins.length (bools ins),pt b_f1 (.cells #[iV fW,iV fH,vP] 24 (0,0))]:=hS.innJoin; refine k_blk_normal<|k_seq<|?_
          refine R3 rfl<|mv hf rfl<|fun a hf=>ov hf rfl (RunV.addI rfl rfl (by omega)) fun a hf=>mv hf rfl fun a hf=>?_; refine O.nil ?_; replace hS:=hS.fr 8; replace hS:=hS.fr 8; replace hS:=hS.fr 8; replace hS:=hS.fr 8; replace hS:=hS.fr 8; replace hS:=hS.fr 8; replace hS:=hS.fr 6; replace hS:=hS.fr 8; replace hS:=hS.sl [1,1,1,1,1,1,1,1]; refine k_then ⟨(s+1,v10,(us++gq.2),(outs++(Det.divideM zs fW fH least (lv.drop (n+1)) ((Det.setsM zs fW fH l (Det.seedsM zs fW fH least l (lv.getD n 0))).getD s [])))),⟨hf.to ⟨rfl,rfl,rfl,rfl,rfl,rfl,rfl,rfl,rfl,(by first | rfl | exact vI (by omega)),(by first | rfl | exact vI (by omega)),trivial⟩,?_,?_,?_⟩,?_⟩
          · exact hS.eqM rfl
          · omega
          · rw [g2,Det.flat_take (by omega)]
          · dsimp only; omega
        · refine W.exit ?_
          refine k_then_exit<|k_then_exit<|k_blk<|k_seq<|W.seq<|?_
          refine R2 rfl<|mv hf rfl<|fun a hf=>mv hf rfl fun a hf=>?_; refine nk<|W.ret<|k_blk_ret<|k_then_ret<|k_then_ret<|k_blk_ret<|k_then_ret<|post1 hf rfl (ResOK.tmp rfl)<|?_; replace hS:=hS.fr 1; replace hS:=hS.fr 1; obtain rfl:s=sts.length:=by omega
          have hfin:outs=Det.divideM zs fW fH least lv l:=by rw [g2,List.take_of_length_le (by omega),← Det.divide_go (by omega),← Det.drop_s (by omega),hd]
          rw [hfin] at hS; exact ⟨(vt,us),rfl,(hS.sub (.cons_cons _ (.cons_cons _ (.cons _ (.cons _ (.cons _ (.cons _ (.cons _ (.cons _ .slnil))))))))).noB⟩
  · refine W.exit ?_
    refine k_then_exit<|k_then_exit<|k_blk<|k_seq<|W.seq<|?_
    refine R5 rfl<|O.buildSlice0 hf hS rfl rfl T_elem_26 T_size_3 rfl<|?_; intro b_s13 w a hbb_s13 hS hf; replace hS:St w0 w noX [rI vP zs,rI vL l,rI vv lv] [sl 3 1 (.slice (some ⟨b_s13,0,none⟩) 0 0) (([]:List Int).length) (ints []),pt b_f1 (.cells #[iV fW,iV fH,vP] 24 (0,0))]:=hS; refine mv hf rfl fun a hf=>?_; refine O.appendV (j:=0) hf hS rfl rfl T_elem_26 T_size_3 T_bytes_3 T_zero_3 rfl rfl rfl rfl rfl (hS.rdAt (j:=1) rfl) (oneCells_ints _) (by unfold maxLen; simp only [List.length_nil]; omega) (by simp only [List.length_nil]; omega) ?_; intro v14 w a hS hf; replace hS:=hS.eqM (N:=[sl 3 1 v14 (([]:List Int).length+l.length) (ints []++ints l),pt b_f1 (.cells #[iV fW,iV fH,vP] 24 (0,0))]) rfl; replace hS:=hS.eqM (N:=[sl 3 1 v14 l.length (ints l),pt b_f1 (.cells #[iV fW,iV fH,vP] 24 (0,0))]) (by simp only [ints_app,List.length_append,List.length_nil,Nat.zero_add,List.nil_append,ints,List.map_nil]); have hcl16:=rdOK.cells (hS.slr (j:=0) rfl); refine O.buildSlice (cs':=#[v14]) (zs:=#[.slice none 0 0]) hf hS rfl rfl T_elem_28 T_size_26 T_zero_26 rfl rfl rfl rfl (by first | (simp only [Instr.fill,hcl16.1]; rfl) | simp [Instr.fill,hcl16.1]) ?_; intro b_s15 w a hbb_s15 hS hf; refine mv hf rfl fun a hf=>?_; refine O.nil ?_; replace hS:=hS.ptSl (j:=0) (n:=1) (sz:=1) (xs:=[v14]) (M':=[sl 26 1 (.slice (some ⟨b_s15,0,none⟩) 1 1) 1 ([v14]),sl 3 1 v14 l.length (ints l),pt b_f1 (.cells #[iV fW,iV fH,vP] 24 (0,0))]) rfl (by unfold maxLen; omega) rfl rfl rfl; replace hS:=hS.innNil; replace hS:=hS.fr 0; replace hS:=hS.fr 2; replace hS:St w0 _ noX [rI vP zs,rI vL l,rI vv lv] [inn ([]++[v14]) ([]++[l]),sl 26 1 (.slice (some ⟨b_s15,0,none⟩) 1 1) 1 ([v14]),pt b_f1 (.cells #[iV fW,iV fH,vP] 24 (0,0))]:=hS.innAdd; refine k_seq<|W.ret<|post1 hf rfl (ResOK.tmp rfl)<|?_; replace hS:=hS.fr 0; replace hS:=hS.fr 1; have hfin:[l]=Det.divideM zs fW fH least lv l:=by rw [← hd,List.drop_of_length_le (by omega)]; rfl
    exact ⟨(_,[v14]),rfl,((hS.sub (.cons_cons _ (.cons_cons _ (.cons _ .slnil)))).noB).eqM (by rw [← hfin]; rfl)⟩
theorem div_all (fW fH:Nat) (least:Int) (vP:Value) (zs:List Int) (hW:1≤fW∧fW≤100) (hH:1≤fH∧fH≤100) (hn:zs.length=fW*fH) (hls:1≤least):∀ m (lv:List Int),lv.length≤m→DivC fW fH least vP zs lv
  | m,lv,hm,vL,vv,l,w0,h1,h2,h3,h4,h5=>div35 fW fH least vP vL vv zs l lv w0 hW hH hn h2 h3 h4 h5 hls h1 fun n hn'=>by
    cases m with
    | zero=>omega
    | succ m=>exact div_all fW fH least vP zs hW hH hn hls m (lv.drop (n+1)) (by rw [List.length_drop]; omega)
end Go.Proofs.YtipfobacinmoiaaGreat

namespace Go.SL
open Go
def pickV (vs:List Value) (is:List Nat):List Value:=is.map fun i=>vs.getD i undef
def pickX (xss:List (List Int)) (is:List Nat):List (List Int):=is.map fun i=>xss.getD i []
section
variable {vs:List Value} {xss:List (List Int)} {is:List Nat} {i k n:Nat} {w0 w:World} {X:Nat→Prop} {B M:List Asr} {h:Hp}
theorem pickV_len:(pickV vs is).length=is.length:=by unfold pickV; simp
theorem pickX_len:(pickX xss is).length=is.length:=by unfold pickX; simp
theorem pickV_snoc:pickV vs is++[vs.getD i undef]=pickV vs (is++[i]):=by unfold pickV; simp
theorem pickV_get (hk:k<is.length):(pickV vs is)[k]? = some (vs.getD (is.getD k 0) undef):=by
  unfold pickV
  simp [List.getD_eq_getElem?_getD,List.getElem?_eq_getElem hk]
theorem pickV_set:(pickV vs is).set k (vs.getD i undef)=pickV vs (is.set k i):=by unfold pickV; rw [List.map_set]
theorem range_all {α:Type} (l:List α) (d:α):(List.range l.length).map (fun i=>l.getD i d)=l:=by
  apply List.ext_getElem
  · simp
  intro i h1 h2
  simp only [List.getElem_map,List.getElem_range,List.getD_eq_getElem?_getD,List.getElem?_eq_getElem h2,Option.getD_some]
theorem pickX_perm (hp:is.Perm (List.range xss.length)):(pickX xss is).Perm xss:=by
  have h1:(pickX xss is).Perm ((List.range xss.length).map fun i=>xss.getD i []):=hp.map _
  rwa [range_all] at h1
theorem innOK.pick (hh:innOK h vs xss) (hp:∀ i ∈ is,i<vs.length):innOK h (pickV vs is) (pickX xss is):=by
  refine ⟨by rw [pickV_len,pickX_len],fun k hk=>?_⟩
  rw [pickV_len] at hk
  have h1:=hh.2 _ (hp _ (List.getElem_mem hk))
  unfold pickV pickX
  simpa [List.getD_eq_getElem?_getD,List.getElem?_eq_getElem hk] using h1
theorem St.innPick {j:Nat} (hS:St w0 w X B M) (hi:M[j]? = some (inn vs xss)) (hp:∀ i ∈ is,i<vs.length):St w0 w X B (M.set j (inn (pickV vs is) (pickX xss is))):=by
  refine hS.conv hi (fun hh=>innOK.pick hh hp) (fun b ⟨k,hk,h0,hb⟩=>?_)
  rw [pickV_len] at hk
  refine ⟨is.getD k 0,?_,?_,?_⟩
  · rw [List.getD_eq_getElem?_getD,List.getElem?_eq_getElem hk]; exact hp _ (List.getElem_mem hk)
  · unfold pickX at h0; simpa [List.getD_eq_getElem?_getD,List.getElem?_eq_getElem hk] using h0
  · unfold pickV at hb; simpa [List.getD_eq_getElem?_getD,List.getElem?_eq_getElem hk] using hb
end
def putA {T:Type} (s:List T) (k:Nat) (x:T):List T:=s.take k++x::s.drop k
def swT {T:Type} [Inhabited T] (l:List T) (i j:Nat):List T:=(l.set i (l.getD j default)).set j (l.getD i default)
section
variable {T:Type} {s:List T} {k:Nat} {x:T} {r:T→T→Prop}
theorem putA_len:(putA s k x).length=s.length+1:=by unfold putA; simp; omega
theorem putA_perm:(putA s k x).Perm (s++[x]):=by
  unfold putA
  have h1:(s.take k++x::s.drop k).Perm (x::(s.take k++s.drop k)):=List.perm_middle
  rw [List.take_append_drop] at h1
  exact h1.trans (List.perm_append_singleton x s).symm
theorem putA_end:putA s s.length x=s++[x]:=by unfold putA; simp
theorem putA_pair (hs:s.Pairwise r) (h1:∀ y ∈ s.take k,r y x) (h2:∀ y ∈ s.drop k,r x y):(putA s k x).Pairwise r:=by
  unfold putA
  have h3:=hs
  rw [← List.take_append_drop k s,List.pairwise_append] at h3
  rw [List.pairwise_append,List.pairwise_cons]
  refine ⟨h3.1,⟨h2,h3.2.1⟩,fun a ha b hb=>?_⟩
  rcases List.mem_cons.1 hb with rfl | hb
  · exact h1 a ha
  · exact h3.2.2 a ha b hb
structure InsK (r:T→T→Prop) (s:List T) (x:T) (k:Nat):Prop where
  hk:k≤s.length
  srt:s.Pairwise r
  big:∀ y ∈ s.drop k,r x y
theorem InsK.start (hs:s.Pairwise r):InsK r s x s.length:=⟨Nat.le_refl _,hs,fun y hy=>by simp at hy⟩
end
section
variable {T:Type} [Inhabited T] {s:List T} {k:Nat} {x:T} {r:T→T→Prop}
theorem putA_at (hk:k≤s.length):(putA s k x).getD k default=x:=by
  unfold putA
  rw [List.getD_eq_getElem?_getD,List.getElem?_append_right (by simp; omega)]
  simp [Nat.min_eq_left hk]
theorem putA_before (hk:k≤s.length) (h0:0<k):(putA s k x).getD (k-1) default=s.getD (k-1) default:=by
  unfold putA
  rw [List.getD_eq_getElem?_getD,List.getElem?_append_left (by simp; omega),List.getElem?_take,if_pos (by omega),List.getD_eq_getElem?_getD]
theorem putA_swap (hk:k≤s.length) (h0:0<k):swT (putA s k x) (k-1) k=putA s (k-1) x:=by
  obtain ⟨k,rfl⟩:∃ q,k=q+1:=⟨k-1,by omega⟩
  have e1:=putA_at (x:=x) hk
  have e2:=putA_before (x:=x) hk h0
  unfold swT
  rw [e1,e2]
  simp only [Nat.add_sub_cancel]
  have hk':k<s.length:=by omega
  have ht:s.take (k+1)=s.take k++[s[k]]:=by rw [List.take_succ_eq_append_getElem hk']
  have hd:s.drop k=s[k]::s.drop (k+1):=List.drop_eq_getElem_cons hk'
  have hg:s.getD k default=s[k]:=by simp [List.getD_eq_getElem?_getD,List.getElem?_eq_getElem hk']
  rw [hg]
  unfold putA
  rw [ht,hd]
  have hl:(s.take k).length=k:=by simp; omega
  rw [List.append_assoc]
  simp only [List.singleton_append]
  apply List.ext_getElem?
  intro i
  simp only [List.getElem?_set,List.getElem?_append,hl,List.length_set,List.length_append,List.length_cons,List.length_drop]
  rcases Nat.lt_trichotomy i k with h | rfl | h
  · simp [h,show ¬ k+1=i by omega,show ¬ k=i by omega]
  · simp
  · by_cases h2:i=k+1
    · subst h2
      simp [show ¬ k+1<k by omega,show k+1<s.length+1 by omega]
    · simp [show ¬ i<k by omega,show ¬ k+1=i by omega,show ¬ k=i by omega]
      obtain ⟨q,hq⟩:∃ q,i-k=q+2:=⟨i-k-2,by omega⟩
      rw [hq,hd]; rfl
theorem InsK.step (h:InsK r s x k) (h0:0<k) (hr:r x (s.getD (k-1) default)):InsK r s x (k-1):=by
  have hk:=h.hk
  refine ⟨by omega,h.srt,fun y hy=>?_⟩
  rw [List.drop_eq_getElem_cons (show k-1<s.length by omega),show k-1+1=k by omega] at hy
  rcases List.mem_cons.1 hy with rfl | hy
  · rwa [List.getD_eq_getElem?_getD,List.getElem?_eq_getElem (show k-1<s.length by omega),Option.getD_some] at hr
  · exact h.big y hy
theorem InsK.done (h:InsK r s x k) (ht:∀ {a b c},r a b→r b c→r a c) (h0:k=0∨r (s.getD (k-1) default) x):(putA s k x).Pairwise r:=by
  have hk:=h.hk
  refine putA_pair h.srt (fun y hy=>?_) h.big
  obtain ⟨j,hj,rfl⟩:=List.getElem_of_mem hy
  simp only [List.length_take] at hj
  rcases h0 with h0 | h0
  · omega
  · rw [List.getElem_take]
    rw [List.getD_eq_getElem?_getD,List.getElem?_eq_getElem (show k-1<s.length by omega),Option.getD_some] at h0
    by_cases e:j=k-1
    · subst e; exact h0
    · exact ht (List.pairwise_iff_getElem.1 h.srt j (k-1) (by omega) (by omega) (by omega)) h0
end
end Go.SL
