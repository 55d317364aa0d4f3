/- Part of a proof: laws and walks. -/
import Derived.Test.YtipfobacinmoiaaGreatTac
import Derived.Test.YtipfobacinmoiaaGreatTag
import Derived.Test.YtipfobacinmoiaaGreatTab
import Derived.Test.YtipfobacinmoiaaGreatTah
import Derived.Test.YtipfobacinmoiaaGreatTad
import Derived.Test.YtipfobacinmoiaaGreatTak
set_option linter.unusedVariables false
set_option linter.unusedSimpArgs false
namespace Go.SL
open Go
def fps (M:List Asr):Nat→Prop:=fun b=>∃ p ∈ M,p.fp b
def Lt (w:World) (X:Nat→Prop) (p:Asr):Prop:=p.holds (hp w)∧∀ b,p.fp b→b<w.heap.size∧¬ X b
section
variable {h:Hp} {m:Nat} {old:Nat→Prop} {w w0 w1 w2 w':World} {X X':Nat→Prop} {B M N K:List Asr} {p q:Asr} {i j e:Nat} {v:Value} {x:List Int} {vs:List Value} {xss:List (List Int)}
theorem Sep.aIi {M0:List Asr}:∀ {M:List Asr},(∀ p ∈ M,p ∈ M0)→Sep h m old M→Sep h m (fun b=>fps M0 b∨m≤b) M
  | [],_,_=>trivial
  | p::t,hs,hm=>⟨⟨hm.1.1,fun b hb=>⟨(hm.1.2.1 b hb).1,.inl ⟨p,hs p List.mem_cons_self,hb⟩⟩,hm.1.2.2⟩,Sep.aIi (fun q hq=>hs q (List.mem_cons_of_mem _ hq)) hm.2⟩
theorem Sep.aHb:∀ {M:List Asr},Sep h m old (M++K)→∀ q ∈ M,∀ p ∈ K,∀ b,q.fp b→¬ p.fp b
  | [],_,q,hq,_,_,_,_=>by cases hq
  | r::t,hm,q,hq,p,hp,b,hb=>by
    rcases List.mem_cons.1 hq with rfl | hq
    · exact hm.1.2.2 p (List.mem_append_right _ hp) b hb
    · exact Sep.aHb hm.2 q hq p hp b hb
theorem St.lt (hS:St w0 w X B M) (hp:p ∈ B):Lt w X p:=by
  have h:=hS.bor p hp
  refine ⟨p.loc _ _ (fun b hb=>hS.old b (h.2 b hb).1 (h.2 b hb).2) h.1,fun b hb=>⟨Nat.lt_of_lt_of_le (h.2 b hb).1 hS.size,(h.2 b hb).2⟩⟩
theorem St.focus (hS:St w0 w X B (M++K)):St w w (fps M) (K++B) M:=by
  refine ⟨rfl,rfl,rfl,Nat.le_refl _,fun _ _ _=>rfl,Sep.aIi (fun p hp=>hp) (hS.sep.sub (List.sublist_append_left _ _)),fun p hp=>?_⟩
  rcases List.mem_append.1 hp with hp | hp
  · obtain ⟨k,hk⟩:=List.getElem?_of_mem (List.mem_append_right M hp)
    have h1:=hS.sep.get hk
    exact ⟨h1.1,fun b hb=>⟨(h1.2 b hb).1,fun ⟨q,hq,hqb⟩=>Sep.aHb hS.sep q hq p hp b hqb hb⟩⟩
  · have h1:=hS.lt hp
    refine ⟨h1.1,fun b hb=>⟨(h1.2 b hb).1,fun ⟨q,hq,hqb⟩=>?_⟩⟩
    obtain ⟨k,hk⟩:=List.getElem?_of_mem (List.mem_append_left K hq)
    rcases ((hS.sep.get hk).2 b hqb).2 with h2 | h2
    · exact (hS.bor p hp).2 b hb |>.2 h2
    · have:=((hS.bor p hp).2 b hb).1; omega
theorem St.back {B':List Asr} (hS:St w0 w X B (M++K)) (hc:St w w' (fps M) B' N):St w0 w' X B (N++K):=by
  refine hS.aD6 (X':=fps M) hc.noB (fun b ⟨p,hp,hb⟩=>⟨p,List.mem_append_left _ hp,hb⟩) (List.sublist_append_right _ _) (fun q hq b hb ⟨p,hp,hpb⟩=>Sep.aHb hS.sep p hp q hq b hpb hb)
theorem St.aID (hS:St w w X B M) (h:∀ p ∈ N,Lt w X p):St w w X N M:=⟨hS.os,hS.tape,hS.output,hS.size,hS.old,hS.sep,h⟩
theorem Lt.at (hS:St w w X B M) (hi:B[i]? = some p):Lt w X p:=hS.lt (List.mem_of_getElem? hi)
theorem Lt.inn (hS:St w w X B M) (hi:B[i]? = some (SL.inn vs xss)) (hj:j<vs.length):Lt w X (rdv 1 (vs.getD j undef) (xss.getD j []).length (ints (xss.getD j []))):=by
  have h:=Lt.at hS hi
  exact ⟨h.1.2 j hj,fun b hb=>h.2 b ⟨j,hj,hb.1,hb.2⟩⟩
theorem Lt.sl {n:Nat} {xs:List Value} {sz:Nat} (hS:St w w X B M) (hi:B[i]? = some (SL.sl e sz v n xs)):Lt w X (rdv sz v n xs):=by
  have h:=Lt.at hS hi
  exact ⟨dS.rd h.1,fun b hb=>h.2 b hb.2⟩
end
def IterM (P:Program) (gf:FuncId) (lb:Array Value) (e:TypeId) (xss:List (List Int)) (BL:List Asr):Prop :=
  ∀ (l:Nat) (γ:Type) (U:γ→Asr) (Fc:Nat→γ→Prop) (g:γ) (w1:World),Fc 0 g→St w1 w1 (fps [U g]) BL [U g] →
    (∀ k x,xss[k]? = some x→∀ g' v w,Fc k g'→St w1 w (fps [U g]) [] [sl e 1 v x.length (ints x),U g'] →
      YieldAt (FW none) 0 P l #[v] w (fun e' w'=>e'=.returned (.bool true)∧∃ g'',Fc (k+1) g''∧St w w' (fps [sl e 1 v x.length (ints x),U g']) [] [U g''])) →
    Calls P gf (#[.func (.yield l) #[] #[]]++lb) w1 (fun e' w'=>(∃ v,e'=.returned v)∧∃ g',Fc xss.length g'∧St w1 w' (fps [U g]) [] [U g'])
section
variable {P:Program} {Q:Exit→Act→World→Prop} {a:Act} {w w0 w':World} {n:Nat} {ds:List Deferred} {L:List (Nat × Value)} {X:Nat→Prop} {B M:List Asr}
theorem W.xh {G:Type} {g:Operand} {p:Nat} {assign body:Code} {xss:List (List Int)} {e:TypeId} {lb:Array Value} {gf:FuncId} (L':Value→List (Nat × Value)) (UU:G→List Asr) (K BL:List Asr) (Fc:Nat→G→Prop) (g0:G)
    (hf:Fr a n ds L) (hp:Nat.blt p n=true) (hg:ev L g=some (.func (.func gf) #[] lb)) (eg:aW P gf=true) (hS:St w0 w X B (UU g0++K)) (hF:Fc 0 g0)
    (hit:IterM P gf lb e xss BL) (hBL:∀ w1 X1 M1,St w1 w1 X1 (K++B) M1→∀ p ∈ BL,Lt w1 X1 p)
    (hassign:∀ l x w a',Fr a' n [] ((p,x)::L)→W (some l) P assign (fun e a'' w''=>e=.normal∧Fr a'' n [] (L' x)∧w''=w) a' w)
    (hbody:∀ l o D k x v g wr,xss[k]? = some x→Fc k g→St w0 wr X B ((sl e 1 v x.length (ints x)::pt l o::pt D (.deferred (some []))::UU g)++K) →
      St wr wr (fps (sl e 1 v x.length (ints x)::pt l o::pt D (.deferred (some []))::UU g)) (K++B) (sl e 1 v x.length (ints x)::pt l o::pt D (.deferred (some []))::UU g)→∀ a',Fr a' n [] (L' v) →
      W (some l) P body (fun e' a'' w''=>e'=.normal∧∃ g',Fc (k+1) g'∧St wr w'' (fps (sl e 1 v x.length (ints x)::pt l o::pt D (.deferred (some []))::UU g)) [] (pt l o::pt D (.deferred (some []))::UU g')) a' wr)
    (hdone:∀ D g a' w,Fc xss.length g→St w0 w X B (pt D (.deferred (some []))::(UU g++K))→Fr a' n ({ target:=.collected D,args:=#[] }::ds) L→Q .normal a' w) :
    W none P (.rangeFunc g #[p] assign body) Q a w:=by
  refine wpIn_rangeFunc ?_
  intro fn hfn
  obtain ⟨rec,hrec⟩:∃ rec:LoopState→Option Code→Loop,rec=fun st pe=>{ state:=st,pending:=pe,fn,tmps:=a.tmps,params:=#[p],assign,body,defers:=w.heap.size }:=⟨_,rfl⟩
  obtain ⟨W1,hW1⟩:∃ W1,(w.alloc (.deferred (some []))).alloc (.loop (rec .ready none))=W1:=⟨_,rfl⟩
  have hS1:St w0 W1 X B (pt (w.heap.size+1) (.loop (rec .ready none))::pt w.heap.size (.deferred (some []))::(UU g0++K)):=by
    have:=(hS.alloc (.deferred (some []))).alloc (.loop (rec .ready none))
    rw [hW1,World.size_alloc] at this
    exact this
  refine ⟨w.heap.size+1,[{ target:=.collected w.heap.size,args:=#[] }],W1,{ target:=.fn (.func gf) lb,args:=#[.func (.yield (w.heap.size+1)) #[] #[]] },W1,gf,
    #[.func (.yield (w.heap.size+1)) #[] #[]]++lb,W1,?_,?_,?_,?_,fun h=>by simp [FW] at h,?_⟩
  · rw [← hW1,hrec]; exact run_enterLoop_outer _ _ _ _ _
  · simp only [resolve,hf.eval hg]
    simp [go_sem]
  · intro f' hf'; trivial
  · simp [invoke,go_sem,gP eg]
  · generalize hl:w.heap.size+1=l at hS1 ⊢
    generalize hD:w.heap.size=D at hS1 hl ⊢ hrec
    have hrec':∀ st pe,rec st pe={ state:=st,pending:=pe,fn,tmps:=a.tmps,params:=#[p],assign,body,defers:=D }:=fun st pe=>by rw [hrec]
    clear hrec hW1
    obtain ⟨V,hV⟩:∃ V:G→List Asr,V=fun g=>pt l (.loop (rec .ready none))::pt D (.deferred (some []))::UU g:=⟨_,rfl⟩
    have hS2:St w0 W1 X B ([cB (V g0)]++K):=St.kN (N:=[]) (by rw [hV]; exact hS1)
    have hst:=(St.focus hS2).aID (hBL _ _ _ (St.focus hS2))
    refine dh.2 ((hit l G (fun g=>cB (V g)) Fc g0 W1 hF hst ?_).mono ?_)
    · rintro k x hx g' v wr hFk hR
      have hO:St w0 wr X B ((sl e 1 v x.length (ints x)::V g')++K):=St.mX (N:=[sl e 1 v x.length (ints x)]) (hS2.back hR)
      have hlr:wr.heap[l]? = some (.loop (rec .ready none)):=by rw [hV] at hO; exact hO.at_ (i:=1) rfl
      have hy:=run_yield (P:=P) (args:=#[v]) hlr (by rw [hrec']; simp)
      refine ⟨fn,_,assign,body,by rw [hrec'] at hy; exact hy,?_⟩
      refine roundIn_of_wpIn (F:=FW none) hfn ?_
      have hfr:Fr { tmps:=(#[p].zip #[v]).foldl (fun t (p,v)=>t.setIfInBounds p v) a.tmps,defers:=[] } n [] ((p,v)::L):=by
        have:=Fr.put (a:={ a with defers:=[] }) (ds:=[]) ⟨hf.size,rfl,hf.get⟩ hp v
        have e:(#[p].zip #[v]).foldl (fun t (p,v)=>t.setIfInBounds p v) a.tmps=a.tmps.setIfInBounds p v:=by simp
        rw [e]
        exact this
      have hW:=hassign l v wr _ hfr
      refine wpIn_mono (F:=FW (some l)) hW ?_
      rintro e1 a1 w1 ⟨rfl,hfr1,rfl⟩
      refine ⟨_,run_beginRound hlr (by rw [hrec']),?_⟩
      have hO2:St w0 (w1.putObj l (.loop { rec .ready none with state:=.busy })) X B ((sl e 1 v x.length (ints x)::pt l (.loop { rec .ready none with state:=.busy })::pt D (.deferred (some []))::UU g')++K):=by
        rw [hV] at hO; exact hO.rF (j:=1) rfl (.loop { rec .ready none with state:=.busy })
      refine wpIn_mono (F:=FW (some l)) (hbody l _ D k x v g' _ hx hFk hO2 hO2.focus a1 hfr1) ?_
      rintro e2 a2 w2 ⟨rfl,g'',h4,h5⟩
      have hl2:w2.heap[l]? = some (.loop { rec .ready none with state:=.busy }):=h5.at_ (i:=0) rfl
      refine ⟨_,_,run_endRound none hl2,rfl,g'',h4,?_⟩
      have h6:=h5.rF (j:=0) rfl (.loop (rec .ready none))
      have h7:St w1 w1 (fps [sl e 1 v x.length (ints x),cB (V g')]) [] ((sl e 1 v x.length (ints x)::V g')):=by
        have h8:St w0 w1 X B ([sl e 1 v x.length (ints x),cB (V g')]++K):=hS2.back hR
        have h9:=(St.mX (N:=[sl e 1 v x.length (ints x)]) (M:=[]) h8.focus).noB
        simpa using h9
      have h8:St w1 (w1.putObj l (.loop { rec .ready none with state:=.busy })) (fps [sl e 1 v x.length (ints x),cB (V g')]) [] ((sl e 1 v x.length (ints x)::pt l (.loop { rec .ready none with state:=.busy })::pt D (.deferred (some []))::UU g')++[]):=by
        rw [List.append_nil]; rw [hV] at h7 ⊢; exact h7.rF (j:=1) rfl (.loop { rec .ready none with state:=.busy })
      have h9:=h8.back h6
      rw [List.append_nil] at h9
      have hV2:V g''=pt l (.loop (rec .ready none))::pt D (.deferred (some []))::UU g'':=by rw [hV]
      have h10:St w1 (w2.putObj l (.loop (rec .ready none))) (fps [sl e 1 v x.length (ints x),cB (V g')]) [] [cB (V g'')]:=St.kN (N:=[]) (M:=[]) (by rw [hV2]; simpa using h9)
      simpa [hrec'] using h10
    · rintro e1 w2 ⟨⟨v,rfl⟩,g1,h1,h2⟩
      have h3:St w0 w2 X B (V g1++K):=St.mX (N:=[]) (hS2.back h2)
      rw [hV] at h3
      have hl2:w2.heap[l]? = some (.loop (rec .ready none)):=h3.at_ (i:=0) rfl
      refine ⟨none,_,by have:=run_endLoop (P:=P) hl2 (by rw [hrec']; simp); rw [hrec'] at this; exact this,?_⟩
      have h4:=h3.rF (j:=0) rfl (.loop { rec .ready none with state:=.exhausted })
      refine hdone D g1 _ _ h1 (by have:=h4.sub (List.sublist_cons_self _ _); simpa [hrec'] using this) ⟨hf.size,by show _::a.defers=_; rw [hf.defers],hf.get⟩
end
end Go.SL

namespace Go.SL
open Go
section
variable {w0 w:World} {X:Nat→Prop} {B M N l:List Asr} {p:Asr} {s e:Nat} {vs:List Value} {xss:List (List Int)} {v:Value} {x:List Int}
theorem uw {α:Type}:∀ {l:List α} {s:Nat} (h:s<l.length),l.Perm (l[s]::l.eraseIdx s)
  | a::t,0,h=>List.Perm.refl _
  | a::t,s+1,h=>by
    have ih:=uw (l:=t) (s:=s) (by simpa using h)
    exact (ih.cons a).trans (List.Perm.swap _ _ _)
theorem xU {α:Type} {p:α}:∀ {l:List α} {s:Nat} (h:s<l.length),(p::l.eraseIdx s).Perm (l.set s p)
  | a::t,0,h=>List.Perm.refl _
  | a::t,s+1,h=>by
    have ih:=xU (p:=p) (l:=t) (s:=s) (by simpa using h)
    exact (List.Perm.swap _ _ _).trans (ih.cons a)
theorem St.aGQ (hS:St w0 w X B (N++cB l::M)) (hs:s<l.length):St w0 w X B (N++l[s]::cB (l.eraseIdx s)::M):=by
  have h1:=hS.wN (i:=N.length) (l:=l) (by simp) (uw hs)
  refine St.aFE ?_
  simpa using h1
theorem St.aHv (hS:St w0 w X B (N++p::cB (l.eraseIdx s)::M)) (hs:s<l.length):St w0 w X B (N++cB (l.set s p)::M):=by
  have h1:=hS.ni.wN (i:=N.length) (l:=p::l.eraseIdx s) (by simp) (xU hs)
  simpa using h1
def dK (e:TypeId) (vs:List Value) (xss:List (List Int)):List Asr:=(List.range vs.length).map fun (i:Nat)=>sl e 1 (vs.getD i undef) (xss.getD i []).length (ints (xss.getD i []))
theorem rE:(dK e vs xss).length=vs.length:=by unfold dK; simp
theorem aFy (h:s<vs.length):(dK e vs xss)[s]'(by rw [rE]; exact h)=sl e 1 (vs.getD s undef) (xss.getD s []).length (ints (xss.getD s [])):=by
  unfold dK; simp
theorem aD4 (h:s<vs.length) (hx:vs.length=xss.length):(dK e vs xss).set s (sl e 1 v x.length (ints x))=dK e (vs.set s v) (xss.set s x):=by
  unfold dK
  apply List.ext_getElem
  · simp
  intro i h1 h2
  simp only [List.length_set,List.length_map,List.length_range] at h1 h2
  simp only [List.getElem_set,List.getElem_map,List.getElem_range,List.getD_eq_getElem?_getD,List.getElem?_set]
  by_cases hi:s=i
  · subst hi
    simp [h,show s<xss.length by omega]
  · simp [hi]
theorem St.aGE (hS:St w0 w X B (N++cB (dK e vs xss)::M)) (hs:s<vs.length):St w0 w X B (N++SL.sl e 1 (vs.getD s undef) (xss.getD s []).length (ints (xss.getD s []))::cB ((dK e vs xss).eraseIdx s)::M):=by
  have h:=hS.aGQ (s:=s) (by rw [rE]; exact hs)
  rw [aFy hs] at h
  exact h
theorem St.aHp (hS:St w0 w X B (N++SL.sl e 1 v x.length (ints x)::cB ((dK e vs xss).eraseIdx s)::M)) (hs:s<vs.length) (hx:vs.length=xss.length):St w0 w X B (N++cB (dK e (vs.set s v) (xss.set s x))::M):=by
  have h:=hS.aHv (by rw [rE]; exact hs)
  rw [aD4 hs hx] at h
  exact h
theorem zA (n:Nat):dK e (List.replicate n (.slice none 0 0)) (List.replicate n [])=List.replicate n (sl e 1 (.slice none 0 0) 0 []):=by
  apply List.ext_getElem
  · simp [dK]
  intro i h1 h2
  simp only [List.length_replicate] at h2
  unfold dK
  simp [List.getD_eq_getElem?_getD,h2,ints]
theorem St.aAd (hS:St w0 w X B M) (e:TypeId):∀ n,St w0 w X B (cB (dK e (List.replicate n (.slice none 0 0)) (List.replicate n []))::M)
  | 0=>by rw [zA]; exact St.kN (N:=[]) hS
  | n+1=>by
    have h:=St.aAd hS e n
    rw [zA] at h ⊢
    exact St.ni (N:=[]) (h.nV e 1)
theorem St.aEx {j:Nat} (hS:St w0 w X B M) (hi:M[j]? = some (cB (dK e vs xss))) (hx:vs.length=xss.length):St w0 w X B (M.set j (inn vs xss)):=by
  refine hS.conv hi (fun hh=>⟨hx,fun i hi=>?_⟩) (fun b ⟨i,hi,h0,hb⟩=>⟨_,List.mem_map.2 ⟨i,List.mem_range.2 hi,rfl⟩,hb⟩)
  exact dS.rd (hh.1 _ (List.mem_map.2 ⟨i,List.mem_range.2 hi,rfl⟩))
end
end Go.SL

namespace Go.SL
open Go
section
variable {w0 w:World} {X:Nat→Prop} {B M:List Asr} {us vs:List Value} {xss yss:List (List Int)} {h:Hp}
theorem bO.one (hh:bO h vs xss):aQ vs=true:=by
  have:∀ (l:List Value),(∀ u ∈ l,aQ [u]=true)→aQ l=true:=by
    intro l
    induction l with
    | nil=>intro _; rfl
    | cons u t ih=>exact fun hu=>fE (hu u List.mem_cons_self) (ih fun v hv=>hu v (List.mem_cons_of_mem _ hv))
  refine this vs fun u hu=>?_
  obtain ⟨i,hi,rfl⟩:=List.getElem_of_mem hu
  have h1:=hh.2 i hi
  rw [List.getD_eq_getElem?_getD,List.getElem?_eq_getElem hi] at h1
  exact (aR.cells h1).2
theorem bO.app (h1:bO h us xss) (h2:bO h vs yss):bO h (us++vs) (xss++yss):=by
  have l1:=h1.1
  have l2:=h2.1
  refine ⟨by simp [l1,l2],fun i hi=>?_⟩
  by_cases hlt:i<us.length
  · have:=h1.2 i hlt
    simpa [List.getD_eq_getElem?_getD,List.getElem?_append_left hlt,List.getElem?_append_left (show i<xss.length by omega)] using this
  · have hi2:i-us.length<vs.length:=by simp at hi; omega
    have:=h2.2 (i-us.length) hi2
    simpa [List.getD_eq_getElem?_getD,List.getElem?_append_right (show us.length≤i by omega),List.getElem?_append_right (show xss.length≤i by omega),l1] using this
end
def fK (v:Value) (l:List Int) (k:Nat):Value:=vsub 1 v (k:Int) (l.length:Int)
section
variable {h:Hp} {v:Value} {l:List Int} {k:Nat} {P:Program} {w:World} {n:Nat} {ds:List Deferred} {L:List (Nat × Value)} {ty t e:TypeId} {x lo:Operand} {kd:IntKind}
theorem uY (l:List Int):encs (fun x:Int=>[Value.int .i64 x]) l=ints l:=by
  unfold encs ints
  induction l with
  | nil=>rfl
  | cons a t ih=>simp only [List.flatMap_cons,List.map_cons,ih]; rfl
theorem aAZ (hr:aR h 1 v l.length (ints l)) (hf:vfit v):dw h 1 (fun x:Int=>[Value.int .i64 x]) v l:=⟨by rw [uY]; exact hr,hf⟩
theorem tq:lsub l (k:Int) (l.length:Int)=l.drop k:=by unfold lsub; simp
theorem aR.fK (hr:aR h 1 v l.length (ints l)) (hf:vfit v) (hk:k≤l.length):aR h 1 (SL.fK v l k) (l.drop k).length (ints (l.drop k))∧vfit (SL.fK v l k):=by
  have h1:=(aAZ hr hf).sub (a:=(k:Int)) (b:=(l.length:Int)) (fun _=>rfl) ⟨by omega,by omega,by omega⟩
  rw [tq] at h1
  refine ⟨?_,h1.2⟩
  have:=h1.1
  rwa [uY] at this
theorem aA.aIN (he:cZ P t=some e) (hs:ay P e=some 1) (hx:ev L x=some v) (hh:ev L lo=some (.int kd (k:Int))) (hr:aR (hp w) 1 v l.length (ints l)) (hf:vfit v) (hk:k≤l.length) :
    aA P n ds L (.slice t x (some lo) none none) ty w (SL.fK v l k) w :=
  aA.aHs (enc:=fun x:Int=>[Value.int .i64 x]) he hs hx hh (aAZ hr hf) ⟨by omega,by omega,by omega⟩
end
section
variable {P:Program} {w:World} {n k:Nat} {ds:List Deferred} {L:List (Nat × Value)} {ty t t':TypeId} {x y:Operand}
theorem aA.aIJ (hx:ev L x=some (.int .i64 (k:Int))) (hy:ev L y=some (.int .i64 1)) (h:k<9223372036854775807):aA P n ds L (.binOp .add t x y t') ty w (.int .i64 ((k+1:Nat):Int)) w:=by
  have h1:=aA.aj (P:=P) (w:=w) (n:=n) (ds:=ds) (t:=t) (t':=t') (ty:=ty) hx hy (by omega)
  rwa [show (k:Int)+1=((k+1:Nat):Int) from rfl] at h1
end
end Go.SL

namespace Det
theorem yg {l:List Int} {n m:Nat} (hl:l.Pairwise (·<·)) (hr:∀ x ∈ l,0≤x∧x<(n:Int)) (h:n≤m):l.length≤m:=by
  have h2:=jd (m:=(List.range n).map fun i:Nat=>(i:Int)) (iP hl) fun x hx=>List.mem_map.2 ⟨x.toNat,List.mem_range.2 (by have:=hr x hx; omega),by have:=hr x hx; omega⟩
  simp at h2
  omega
section
variable {P:List Int} {W H:Nat} {least lv:Int} {px:List Int}
theorem lM:(∀ x ∈ bE P W H least px lv,∀ t ∈ x,0≤t∧t<((W*H:Nat):Int))∧(bE P W H least px lv).Pairwise (fun a b=>∀ t ∈ a,t ∉ b):=by
  have hpo:=lS (W:=W) (H:=H) (least:=least) (bs:=inM P (W*H) px lv) gu (W*H)
  refine ⟨fun x hx t ht=>?_,hpo.apart⟩
  obtain ⟨f,_,h3,h4,h5⟩:=(hpo.mem x).1 hx
  exact gG (h4▸ht)
theorem aED:∀ x ∈ bE P W H least px lv,x≠[]:=fun x hx=>by
  have hpo:=lS (W:=W) (H:=H) (least:=least) (bs:=inM P (W*H) px lv) gu (W*H)
  obtain ⟨f,_,h3,h4,h5⟩:=(hpo.mem x).1 hx
  rw [h4]
  exact (zU gu h3.1).ne
theorem xV:(bE P W H least px lv).length≤W*H:=sU ⟨aED,lM.2⟩ lM.1
theorem aFi (h:SetOK W H px) (hleast:1≤least) (h2:¬ (bE P W H least px lv).length<2):∀ i ∈ px,0≤ow (mU P W H px (bE P W H least px lv)) i∧ow (mU P W H px (bE P W H least px lv)) i<((bE P W H least px lv).length:Int):=fun i hi=>by
  obtain ⟨x,hx,hix⟩:=(wo h hleast h2).2.2 i hi
  unfold dV at hx
  obtain ⟨s,hs,rfl⟩:=List.mem_map.1 hx
  have h3:=(List.mem_filter.1 hix).2
  rw [decide_eq_true_eq] at h3
  rw [List.mem_range] at hs
  omega
theorem aEN {seeds:List (List Int)}:(dV P W H px seeds).length=seeds.length:=by unfold dV; simp
theorem y5 {t:List Int} (h:(bE P W H least px lv).length<2):aM P W H least (lv::t) px=aM P W H least t px:=by
  conv=>lhs; unfold aM
  rw [if_pos h]
theorem tX {t:List Int} (h:¬ (bE P W H least px lv).length<2):aM P W H least (lv::t) px=(dV P W H px (bE P W H least px lv)).flatMap fun s=>aM P W H least t s:=by
  conv=>lhs; unfold aM
  rw [if_neg h]
theorem za {l:List Int} {k:Nat} (h:k<l.length):l.drop k=l.getD k 0::l.drop (k+1):=by
  rw [List.getD_eq_getElem?_getD,List.getElem?_eq_getElem h]; exact List.drop_eq_getElem_cons h
theorem aCQ {α:Type} {l:List (List Int)} {f:List Int→List α} {k:Nat} (h:k<l.length):(l.take (k+1)).flatMap f=(l.take k).flatMap f++f (l.getD k []):=by
  rw [List.getD_eq_getElem?_getD,List.getElem?_eq_getElem h,List.take_succ_eq_append_getElem h,List.flatMap_append]; simp
theorem aDS {l:List Int} {k:Nat} (hl:l.Pairwise (·<·)) (hk:k<l.length):l.getD k 0 ∉ l.take k:=fun hm=>by
  obtain ⟨i,hi,he⟩:=List.getElem_of_mem hm
  simp only [List.length_take] at hi
  rw [List.getElem_take] at he
  have:=List.pairwise_iff_getElem.1 hl i k (by omega) hk (by omega)
  rw [List.getD_eq_getElem?_getD,List.getElem?_eq_getElem hk,Option.getD_some] at he
  omega
theorem aAE {levels:List Int} (hleast:1≤least) (h:SetOK W H px):(aM P W H least levels px).length≤W*H :=
  sU (iN hleast levels h) fun s hs x hx=>((dF hleast levels px h).1 s hs).1.rng x hx
end
section
variable {P l:List Int} {q:Int→Bool} {k:Nat} {best:Int}
theorem zW (hk:k<l.length) (h:jI P l q k best) (hq:q (l.getD k 0)=true) (h0:0≤l.getD k 0) (hb:best<0∨brt P (l.getD k 0) best):jI P l q (k+1) (l.getD k 0):=by
  refine .inr ⟨h0,?_⟩
  rw [oQ hk]
  refine ⟨List.mem_append_right _ List.mem_cons_self,hq,fun j hj hqj=>?_⟩
  rcases List.mem_append.1 hj with hj | hj
  · right
    rcases h with ⟨h1,h2⟩ | ⟨h1,h2⟩
    · obtain ⟨m,hm,rfl⟩:=(aES (by omega)).1 hj
      rw [h2 m hm] at hqj; cases hqj
    · rcases hb with hb | hb
      · omega
      · rcases h2.2.2 j hj hqj with e | h4
        · rw [e]; exact hb
        · exact oO hb h4
  · exact .inl (List.mem_singleton.1 hj)
theorem aCi (ho:l.Pairwise (·<·)) (hk:k<l.length) (h:jI P l q k best) (hn:¬ (q (l.getD k 0)=true∧(best<0∨brt P (l.getD k 0) best))):jI P l q (k+1) best:=by
  cases hq:q (l.getD k 0) with
  | false=>exact aCe hk h hq
  | true =>
    refine aDK ho hk h fun hb=>hn ⟨hq,?_⟩
    rcases hb with hb | hb
    · exact .inl hb
    · exact .inr (.inl hb)
theorem uz (h:jI P l q l.length best) (hb:best<0):∀ j ∈ l,q j=false:=by
  rcases qH h with ⟨_,h2⟩ | ⟨h1,_⟩
  · exact h2
  · omega
theorem aDO (h:jI P l q l.length best) (hb:0≤best):best ∈ l∧q best=true:=by
  rcases qH h with ⟨h1,_⟩ | ⟨_,h2⟩
  · omega
  · exact ⟨h2.1,h2.2.1⟩
end
section
variable {P l ord o:List Int} {W H:Nat} {j:Nat} {best:Int}
theorem aCv (h:ord=l.mergeSort fun x y=>!ltP P y x) (hl:l.Pairwise (·<·)):ord.Perm l∧ord.Pairwise (brt P):=by
  subst h
  have hp:=List.mergeSort_perm l fun x y=>!ltP P y x
  refine ⟨hp,?_⟩
  have h1:=List.pairwise_mergeSort (le:=fun x y=>!ltP P y x) (fun a b c h1 h2=>by
      simp only [Bool.not_eq_true'] at *
      exact (vT P).ntrans _ _ _ h2 h1) (fun a b=>by
      cases ha:ltP P b a with
      | false=>rfl
      | true =>
        cases hb:ltP P a b with
        | false=>rfl
        | true=>have:=(vT P).trans _ _ _ ha hb; rw [(vT P).irrefl] at this; cases this) l
  have h2:(l.mergeSort fun x y=>!ltP P y x).Nodup:=(hp.nodup_iff).2 (iP hl)
  rw [List.nodup_iff_pairwise_ne] at h2
  refine (h1.and h2).imp fun {a b} h=>?_
  have h3:=h.1
  rw [Bool.not_eq_true',wG] at h3
  have h4:=h.2
  rcases tO (P:=P) h4 with h5 | h5
  · exact h5
  · exact absurd h5 h3
theorem aAO (hp:ord.Perm l) (ho:ord.Pairwise (brt P)) (hj:j<ord.length) (hq:iJ W H o (ord.getD j 0)=true) (hn:∀ q,q<j→iJ W H o (ord.getD q 0)=false):dB P W H l o=ord.getD j 0:=by
  have h1:=aAL ho hj hq hn
  unfold dB
  refine iF ⟨hp.mem_iff.1 h1.1,h1.2.1,fun i hi hqi=>h1.2.2 i (hp.mem_iff.2 hi) hqi⟩
theorem aCk (hp:ord.Perm l) (hn:∀ q,q<ord.length→iJ W H o (ord.getD q 0)=false):dB P W H l o=-1:=by
  unfold dB
  refine kQ fun i hi=>?_
  obtain ⟨q,hq,rfl⟩:=List.getElem_of_mem (hp.mem_iff.2 hi)
  have:=hn q hq
  rwa [List.getD_eq_getElem?_getD,List.getElem?_eq_getElem hq] at this
theorem aCc {i:Nat} (h:ow o (i:Int)<0) (hb:best ∈ nb W H i) (hq:qV o best=true):iJ W H o (i:Int)=true:=by
  unfold iJ
  rw [Int.toNat_natCast,decide_eq_true h,Bool.true_and,List.any_eq_true]
  exact ⟨best,hb,hq⟩
theorem tZ {i:Int} (h:0≤ow o i):iJ W H o i=false:=by
  unfold iJ; rw [decide_eq_false (by omega),Bool.false_and]
theorem tH {i:Nat} (h:∀ j ∈ nb W H i,qV o j=false):iJ W H o (i:Int)=false:=by
  unfold iJ
  rw [Int.toNat_natCast,Bool.and_eq_false_iff]
  right
  rw [List.any_eq_false]
  exact fun x hx=>by rw [h x hx]; decide
end
end Det

set_option maxHeartbeats 1000000
set_option maxRecDepth 8000
namespace Go.Proofs.YtipfobacinmoiaaGreat
open Go Go.SL Go.Shelf Go.RowKit Go.Maps
def DivC (fW fH:Nat) (least:Int) (vP:Value) (zs lv:List Int):Prop:=∀ (vL vv:Value) (l:List Int) (w0:World),Det.SetOK fW fH l→aR (hp w0) 1 vP zs.length (ints zs)→aR (hp w0) 1 vL l.length (ints l)→aR (hp w0) 1 vv lv.length (ints lv)→vfit vv →
    Ret Tryz.prog 35 #[(fG fW fH vP),vL,vv,iV least] w0 (G:=Value × List Value) (fun g=>g.1) (fun g w=>St w0 w noX [] [sl 26 1 g.1 g.2.length g.2,inn g.2 (Det.aM zs fW fH least lv l)])
end Go.Proofs.YtipfobacinmoiaaGreat

namespace Go.SL
open Go
def jZ (vs:List Value) (is:List Nat):List Value:=is.map fun i=>vs.getD i undef
def kS (xss:List (List Int)) (is:List Nat):List (List Int):=is.map fun i=>xss.getD i []
section
variable {vs:List Value} {xss:List (List Int)} {is:List Nat} {i k n:Nat} {w0 w:World} {X:Nat→Prop} {B M:List Asr} {h:Hp}
theorem lV:(jZ vs is).length=is.length:=by unfold jZ; simp
theorem aCE:(kS xss is).length=is.length:=by unfold kS; simp
theorem vD {α:Type} (l:List α) (d:α):(List.range l.length).map (fun i=>l.getD i d)=l:=by
  apply List.ext_getElem
  · simp
  intro i h1 h2
  simp only [List.getElem_map,List.getElem_range,List.getD_eq_getElem?_getD,List.getElem?_eq_getElem h2,Option.getD_some]
theorem aAa (hp:is.Perm (List.range xss.length)):(kS xss is).Perm xss:=by
  have h1:(kS xss is).Perm ((List.range xss.length).map fun i=>xss.getD i []):=hp.map _
  rwa [vD] at h1
theorem bO.pick (hh:bO h vs xss) (hp:∀ i ∈ is,i<vs.length):bO h (jZ vs is) (kS xss is):=by
  refine ⟨by rw [lV,aCE],fun k hk=>?_⟩
  rw [lV] at hk
  have h1:=hh.2 _ (hp _ (List.getElem_mem hk))
  unfold jZ kS
  simpa [List.getD_eq_getElem?_getD,List.getElem?_eq_getElem hk] using h1
theorem St.aFQ {j:Nat} (hS:St w0 w X B M) (hi:M[j]? = some (inn vs xss)) (hp:∀ i ∈ is,i<vs.length):St w0 w X B (M.set j (inn (jZ vs is) (kS xss is))):=by
  refine hS.conv hi (fun hh=>bO.pick hh hp) (fun b ⟨k,hk,h0,hb⟩=>?_)
  rw [lV] at hk
  refine ⟨is.getD k 0,?_,?_,?_⟩
  · rw [List.getD_eq_getElem?_getD,List.getElem?_eq_getElem hk]; exact hp _ (List.getElem_mem hk)
  · unfold kS at h0; simpa [List.getD_eq_getElem?_getD,List.getElem?_eq_getElem hk] using h0
  · unfold jZ at hb; simpa [List.getD_eq_getElem?_getD,List.getElem?_eq_getElem hk] using hb
end
def aHF {T:Type} (s:List T) (k:Nat) (x:T):List T:=s.take k++x::s.drop k
def swT {T:Type} [Inhabited T] (l:List T) (i j:Nat):List T:=(l.set i (l.getD j default)).set j (l.getD i default)
section
variable {T:Type} {s:List T} {k:Nat} {x:T} {r:T→T→Prop}
theorem aC2 (hs:s.Pairwise r) (h1:∀ y ∈ s.take k,r y x) (h2:∀ y ∈ s.drop k,r x y):(aHF s k x).Pairwise r:=by
  unfold aHF
  have h3:=hs
  rw [← List.take_append_drop k s,List.pairwise_append] at h3
  rw [List.pairwise_append,List.pairwise_cons]
  refine ⟨h3.1,⟨h2,h3.2.1⟩,fun a ha b hb=>?_⟩
  rcases List.mem_cons.1 hb with rfl | hb
  · exact h1 a ha
  · exact h3.2.2 a ha b hb
structure InsK (r:T→T→Prop) (s:List T) (x:T) (k:Nat):Prop where
  hk:k≤s.length
  srt:s.Pairwise r
  big:∀ y ∈ s.drop k,r x y
theorem InsK.start (hs:s.Pairwise r):InsK r s x s.length:=⟨Nat.le_refl _,hs,fun y hy=>by simp at hy⟩
end
section
variable {T:Type} [Inhabited T] {s:List T} {k:Nat} {x:T} {r:T→T→Prop}
theorem InsK.step (h:InsK r s x k) (h0:0<k) (hr:r x (s.getD (k-1) default)):InsK r s x (k-1):=by
  have hk:=h.hk
  refine ⟨by omega,h.srt,fun y hy=>?_⟩
  rw [List.drop_eq_getElem_cons (show k-1<s.length by omega),show k-1+1=k by omega] at hy
  rcases List.mem_cons.1 hy with rfl | hy
  · rwa [List.getD_eq_getElem?_getD,List.getElem?_eq_getElem (show k-1<s.length by omega),Option.getD_some] at hr
  · exact h.big y hy
theorem InsK.done (h:InsK r s x k) (ht:∀ {a b c},r a b→r b c→r a c) (h0:k=0∨r (s.getD (k-1) default) x):(aHF s k x).Pairwise r:=by
  have hk:=h.hk
  refine aC2 h.srt (fun y hy=>?_) h.big
  obtain ⟨j,hj,rfl⟩:=List.getElem_of_mem hy
  simp only [List.length_take] at hj
  rcases h0 with h0 | h0
  · omega
  · rw [List.getElem_take]
    rw [List.getD_eq_getElem?_getD,List.getElem?_eq_getElem (show k-1<s.length by omega),Option.getD_some] at h0
    by_cases e:j=k-1
    · subst e; exact h0
    · exact ht (List.pairwise_iff_getElem.1 h.srt j (k-1) (by omega) (by omega) (by omega)) h0
end
end Go.SL

namespace Det
theorem pQ {n:Nat} {l:List Int} (h:okL n l):l.Pairwise (·<·)∧∀ t ∈ l,0≤t∧t<(n:Int):=by
  refine ⟨?_,fun t ht=>?_⟩
  · rw [List.pairwise_iff_getElem]
    have key:∀ d i,i+d+1<l.length→l.getD i 0<l.getD (i+d+1) 0:=by
      intro d
      induction d with
      | zero=>intro i hi; have:=(h (i+0+1) hi).2 (by omega); simpa using this
      | succ d ih =>
        intro i hi
        have h1:=ih i (by omega)
        have h2:=(h (i+(d+1)+1) hi).2 (by omega)
        rw [show i+(d+1)+1-1=i+d+1 by omega] at h2
        omega
    intro i j hi hj hij
    have:=key (j-i-1) i (by omega)
    rw [show i+(j-i-1)+1=j by omega] at this
    simpa [List.getD_eq_getElem?_getD,List.getElem?_eq_getElem hi,List.getElem?_eq_getElem hj] using this
  · obtain ⟨i,hi,rfl⟩:=List.getElem_of_mem ht
    have:=(h i hi).1
    simpa [List.getD_eq_getElem?_getD,List.getElem?_eq_getElem hi] using this
theorem uN {n:Nat} {l:List Int} (h:okL n l):marks n l l.length=mkS n l:=by
  have hr:=(pQ h).2
  apply List.ext_getElem
  · rw [fu,nL]
  intro i h1 h2
  have e1:=aDE hr i
  have e2:=iM (n:=n) (px:=l) (i:=i)
  rw [fu] at h1
  rw [List.getD_eq_getElem?_getD,List.getElem?_eq_getElem (by rw [fu]; exact h1),Option.getD_some] at e1
  rw [List.getD_eq_getElem?_getD,List.getElem?_eq_getElem h2,Option.getD_some] at e2
  rw [Bool.eq_iff_iff,e1,e2]
  exact ⟨fun h=>⟨h1,h⟩,fun h=>h.2⟩
theorem aAo {a b:List Int} (ha:a.Nodup) (hab:∀ t ∈ a,t ∈ b) (hl:b.length≤a.length):∀ t ∈ b,t ∈ a:=fun t ht=>by
  refine Decidable.byContradiction fun hn=>?_
  have h1:=jd (l:=t::a) (m:=b) (List.nodup_cons.2 ⟨hn,ha⟩) fun x hx=>by
    rcases List.mem_cons.1 hx with rfl | hx
    · exact ht
    · exact hab x hx
  simp at h1
  omega
section
variable {W H:Nat} {l:List Int}
theorem lQ (h:0<l.length):l.getD 0 0 ∈ l:=by
  rw [List.getD_eq_getElem?_getD,List.getElem?_eq_getElem h]; exact List.getElem_mem _
theorem sN (h:okL (W*H) l) (h0:0<l.length):(mkS (W*H) l).getD (l.getD 0 0).toNat false=true:=by
  have:=(pQ h).2 _ (lQ h0)
  exact iM.2 ⟨by omega,by rw [Int.toNat_of_nonneg this.1]; exact lQ h0⟩
theorem qj (h:conn W H l):SetOK W H l:=by
  obtain ⟨h1,h2,h3⟩:=h
  rw [uN h1] at h3
  have hf:=sN h1 h2
  have hp:=fun i=>dD (W:=W) (H:=H) (first:=(l.getD 0 0).toNat) nL hf i
  have hsub:∀ t ∈ (part W H (mkS (W*H) l) (l.getD 0 0).toNat).2,t ∈ l:=fun t ht=>by
    have hr:=gG ht
    obtain ⟨c,rfl⟩:∃ c:Nat,t=(c:Int):=⟨t.toNat,by omega⟩
    exact (iM.1 ((hp c).1 ht).right).2
  have hall:=aAo (iP jb) hsub (by omega)
  refine ⟨(pQ h1).1,(pQ h1).2,fun a b ha hb=>?_,fun e=>by rw [e] at h2; simp at h2⟩
  exact (((hp a).1 (hall _ ha)).symm nL).trans ((hp b).1 (hall _ hb))
theorem aAB (h:SetOK W H l):conn W H l:=by
  have h1:=aHc h.asc h.rng
  have h2:0<l.length:=List.length_pos_iff.2 h.ne
  have hf:=sN h1 h2
  have hp:=fun i=>dD (W:=W) (H:=H) (first:=(l.getD 0 0).toNat) nL hf i
  refine ⟨h1,h2,?_⟩
  rw [uN h1]
  have hsub:∀ t ∈ (part W H (mkS (W*H) l) (l.getD 0 0).toNat).2,t ∈ l:=fun t ht=>by
    have hr:=gG ht
    obtain ⟨c,rfl⟩:∃ c:Nat,t=(c:Int):=⟨t.toNat,by omega⟩
    exact (iM.1 ((hp c).1 ht).right).2
  have hfr:=h.rng _ (lQ h2)
  have hsub2:∀ t ∈ l,t ∈ (part W H (mkS (W*H) l) (l.getD 0 0).toNat).2:=fun t ht=>by
    have hr:=h.rng t ht
    obtain ⟨c,rfl⟩:∃ c:Nat,t=(c:Int):=⟨t.toNat,by omega⟩
    exact (hp c).2 (h.conn _ c (by rw [Int.toNat_of_nonneg hfr.1]; exact lQ h2) ht)
  have e1:=jd (iP jb) hsub
  have e2:=jd (iP h.asc) hsub2
  omega
end
noncomputable def iW (fW fH least:Int) (zs px lv:List Int):Int:=open Classical in
  if bC fW fH zs then (if 20<lv.length then 4 else if conn fW.toNat fH.toNat px∧rising lv∧1≤least then 0 else 2) else 8
noncomputable def mI (fW fH least:Int) (zs px lv:List Int):List (List Int) :=
  if iW fW fH least zs px lv=0 then bW (aM zs fW.toNat fH.toNat least lv px) else []
section
variable {fW fH least:Int} {zs px lv:List Int}
theorem aFG (h:bC fW fH zs) (h2:20<lv.length):iW fW fH least zs px lv=4∧mI fW fH least zs px lv=[]:=by
  have e:iW fW fH least zs px lv=4:=by unfold iW; rw [if_pos h,if_pos h2]
  exact ⟨e,by unfold mI; rw [e,if_neg (by decide)]⟩
theorem aA1 (h:bC fW fH zs) (h2:¬ 20<lv.length) (h3:¬ (conn fW.toNat fH.toNat px∧rising lv∧1≤least)):iW fW fH least zs px lv=2∧mI fW fH least zs px lv=[]:=by
  have e:iW fW fH least zs px lv=2:=by unfold iW; rw [if_pos h,if_neg h2,if_neg h3]
  exact ⟨e,by unfold mI; rw [e,if_neg (by decide)]⟩
theorem aAu (h:bC fW fH zs) (h2:¬ 20<lv.length) (h3:conn fW.toNat fH.toNat px∧rising lv∧1≤least):iW fW fH least zs px lv=0∧mI fW fH least zs px lv=bW (aM zs fW.toNat fH.toNat least lv px):=by
  have e:iW fW fH least zs px lv=0:=by unfold iW; rw [if_pos h,if_neg h2,if_pos h3]
  exact ⟨e,by unfold mI; rw [e,if_pos rfl]⟩
end
theorem aAQ {l:List (List Int)} (h:∀ x ∈ l,x≠[]) {q:Nat} (hq:q<l.length):0<(l.getD q []).length:=by
  rw [List.getD_eq_getElem?_getD,List.getElem?_eq_getElem hq]
  exact List.length_pos_iff.2 (h _ (List.getElem_mem hq))
theorem aCb {l:List (List Int)} (h:Apart l):∀ p q,p<l.length→q<l.length→dz (l.getD p [])=dz (l.getD q [])→p=q:=by
  have h1:=List.pairwise_iff_getElem.1 h.fst
  intro p q hp hq e
  have e:dz l[p]=dz l[q]:=by simpa [List.getD_eq_getElem?_getD,List.getElem?_eq_getElem hp,List.getElem?_eq_getElem hq] using e
  rcases Nat.lt_trichotomy p q with h2 | h2 | h2
  · exact absurd e (h1 p q hp hq h2)
  · exact h2
  · exact absurd e.symm (h1 q p hq hp h2)
theorem zf {P px levels:List Int} {W H:Nat} {least:Int} (hleast:1≤least) (h:SetOK W H px):0<(aM P W H least levels px).length:=by
  obtain ⟨t,ht⟩:=List.exists_mem_of_ne_nil _ h.ne
  obtain ⟨x,hx,_⟩:=(dF (P:=P) hleast levels px h).2.2 t ht
  exact List.length_pos_of_mem hx
theorem aDs {x y:Int}:iH x y<0↔x<y:=by
  unfold iH; split
  · omega
  · split <;> omega
end Det
