/- Results, append, make, slices, elements of slices. -/
import Derived.Test.YtipfobacinmoiaaGreatSL4
set_option linter.unusedVariables false
set_option linter.unusedSimpArgs false
namespace Go.SL
open Go
def resSem (a:Act):ResultVar→Sem Value
  | .tmp t=>pure (a.tmps.getD t undef)
  | .cell b t=>do loadVar t (← asAddr (a.tmps.getD b undef))
def ResOK (P:Program) (n:Nat) (L:List (Nat × Value)) (w:World) (rv:ResultVar) (v:Value):Prop:=∀ a,Fr a n [] L→(resSem a rv).run P w=.ok v w
section
variable {P:Program} {n:Nat} {L:List (Nat × Value)} {w:World} {t:Nat} {v:Value} {b o:Nat} {cs cs':Array Value} {e ty:TypeId} {z:Nat × Nat} {m:Nat}
theorem Fr.getD {a:Act} {ds:List Deferred} (h:Fr a n ds L) (hv:lk L t=some v):a.tmps.getD t undef=v:=by
  have:=h.get t v hv
  simp only [Array.getD_eq_getD_getElem?,this,Option.getD_some]
theorem ResOK.tmp (hv:lk L t=some v):ResOK P n L w (.tmp t) v:=fun a hf=>by
  simp only [resSem,hf.getD hv,Sem.run_pure]
variable {fn:Func} {R:Ending→World→Prop} {a:Act} {r1 r2 r3 r4:ResultVar} {v1 v2 v3 v4:Value}
theorem run_results (a:Act):results fn a.tmps=(do let vs ← fn.results.mapM (resSem a); pure (if h:vs.size=1 then vs[0] else .tuple vs):Sem Value):=by
  have h:resSem a=(fun | .tmp t=>pure (a.tmps.getD t undef) | .cell b t=>do loadVar t (← asAddr (a.tmps.getD b undef)):ResultVar→Sem Value):=by
    funext rv
    cases rv <;> rfl
  rw [h]
  rfl
theorem post0 (hf:Fr a n [] L) (hr:fn.results=#[]) (hR:R (.returned (.tuple #[])) w):bodyPost P fn R .ret a w :=
  ⟨hf.defers,_,by rw [run_results,hr]; simp,hR⟩
theorem post1 (hf:Fr a n [] L) (hr:fn.results=#[r1]) (h1:ResOK P n L w r1 v1) (hR:R (.returned v1) w):bodyPost P fn R .ret a w :=
  ⟨hf.defers,v1,by rw [run_results,hr]; simp [h1 a hf],hR⟩
theorem post2 (hf:Fr a n [] L) (hr:fn.results=#[r1,r2]) (h1:ResOK P n L w r1 v1) (h2:ResOK P n L w r2 v2) (hR:R (.returned (.tuple #[v1,v2])) w):bodyPost P fn R .ret a w :=
  ⟨hf.defers,_,by rw [run_results,hr]; simp [h1 a hf,h2 a hf],hR⟩
theorem post_normal (h:bodyPost P fn R .ret a w):bodyPost P fn R .normal a w:=h
end
section
variable {h:Hp} {e:TypeId} {sz:Nat} {v:Value} {n:Nat} {xs:List Value}
theorem slOK.form (hs:slOK h e sz v n xs) (hn:0<n):∃ g cap,v=.slice (some ⟨g,0,none⟩) n cap:=by
  rcases hs.2 with ⟨_,h0⟩ | ⟨g,cap,cur,rfl,_⟩
  · omega
  · exact ⟨g,cap,rfl⟩
theorem slOK.len {A:Option Addr} {len cap:Nat} (hs:slOK h e sz (.slice A len cap) n xs):len=n:=by
  rcases hs.2 with ⟨h1,h0⟩ | ⟨g,cap',cur,h1,_⟩
  · injection h1 with _ h2 _; omega
  · injection h1
theorem slOK.isSlice (hs:slOK h e sz v n xs):∃ A cap,v=.slice A n cap∧n≤cap∧(A=none→v=.slice none 0 0):=by
  rcases hs.2 with ⟨rfl,rfl⟩ | ⟨g,cap,cur,rfl,_,hc,_⟩
  · exact ⟨none,0,rfl,Nat.le_refl _,fun _=>rfl⟩
  · exact ⟨_,cap,rfl,hc,fun h=>by cases h⟩
theorem slOK.block {g o len cap:Nat} (hs:slOK h e sz (.slice (some ⟨g,o,none⟩) len cap) n xs):∃ cur,o=0∧h g=some (.cells cur e (0,0))∧cur.size=cap*sz∧cur.toList.take (n*sz)=xs∧n≤cap∧cap≤maxLen:=by
  rcases hs.2 with ⟨h1,_⟩ | ⟨g',cap',cur,h1,hg,h2,h3,h4,h5⟩
  · cases h1
  · injection h1 with h1 h1' h1''
    injection h1 with h1
    injection h1 with h1 h6
    subst h1'' h1
    exact ⟨cur,h6,hg,h4,h5,h2,h3⟩
theorem take_get {cur xs:List Value} {j k:Nat} {u:Value} (ht:cur.take k=xs) (hv:xs[j]? = some u):cur[j]? = some u:=by
  subst ht
  rw [List.getElem?_take] at hv
  split at hv
  · exact hv
  · cases hv
end
section
variable {r:Option Nat} {P:Program} {Q:Exit→Act→World→Prop} {ops:Array Oper} {i:Nat} {rest:List Nat} {a:Act} {w w0 w':World} {n:Nat} {ds:List Deferred} {L:List (Nat × Value)}
  {d:Nat} {op:Op} {ty t e:TypeId} {pos:String} {af:Array Edge} {v z:Value} {X:Nat→Prop} {B M M':List Asr} {x y:Operand} {b o j:Nat} {cs:Array Value}
theorem extract_of_get {cur:Array Value} {o m:Nat} {us:List Value} (hl:us.length=m) (h:∀ j u,us[j]? = some u→cur[o+j]? = some u):cur.extract o (o+m)=us.toArray∧(0<m→o+m≤cur.size):=by
  have key:∀ j,j<m→∃ u,us[j]? = some u∧cur[o+j]? = some u:=fun j hj=>by
    have hj':j<us.length:=by omega
    exact ⟨us[j],List.getElem?_eq_getElem hj',h j _ (List.getElem?_eq_getElem hj')⟩
  have hsz:0<m→o+m≤cur.size:=fun hm=>by
    obtain ⟨u,_,h2⟩:=key (m-1) (by omega)
    have:=(Array.getElem?_eq_some_iff.1 h2).1
    omega
  refine ⟨?_,hsz⟩
  apply Array.ext'
  apply List.ext_getElem?
  intro j
  simp only [Array.toList_extract,List.extract_eq_take_drop]
  by_cases hj:j<m
  · obtain ⟨u,h1,h2⟩:=key j hj
    rw [h1,List.getElem?_take,if_pos (by omega),List.getElem?_drop,Array.getElem?_toList,h2]
  · have ha:us[j]? = none:=List.getElem?_eq_none (by omega)
    have hb:((cur.toList.drop o).take (o+m-o))[j]? = none:=List.getElem?_eq_none (by rw [List.length_take]; omega)
    rw [ha,hb]
theorem oneCell_of {l:List Value} (h:oneCells l=true):∀ u ∈ l,u.oneCell'=true:=by
  intro u hu
  induction l with
  | nil=>cases hu
  | cons v t ih =>
    obtain ⟨h1,h2⟩:=oneCells_cons h
    rcases List.mem_cons.1 hu with rfl | hu
    · cases u <;> first | rfl | (simp [oneCells] at h1)
    · exact ih h2 hu
theorem O.append {sz by_ N m c:Nat} {ad:Addr} {xs news:List Value} (hf:Fr a n ds L) (hS:St w0 w X B M) (ho:ops[i]? = some ⟨some d,.call ⟨.builtin .append,#[x,y],#[t,t]⟩,ty,pos,af,none⟩) (hd:Nat.blt d n=true)
    (he:tElem P t=some e) (hs:tSize P e=some sz) (hby:tBytes P e=some by_) (hz:tZero P e=some z) (hzs:z.cells.size=sz) (h0:0<sz) (hx:ev L x=some v) (hy:ev L y=some (.slice (some ad) m c))
    (hM:M[j]? = some (sl e sz v N xs)) (hl:news.length=m*sz) (hsrc:∀ k u,news[k]? = some u→w.cell? (ad.add k)=some u) (h1:oneCells news=true) (hmax:N+m≤maxLen) (hb:(N+m)*by_≤140737488355328)
    (k:∀ v' w' a',St w0 w' X B (M.set j (sl e sz v' (N+m) (xs++news)))→Fr a' n ds ((d,v')::L)→O r P ops Q rest a' w'):O r P ops Q (i::rest) a w:=by
  unfold tSize at hs
  unfold tBytes at hby
  unfold tZero at hz
  obtain ⟨inf,hi,hsz⟩:=Option.map_eq_some_iff.1 hs
  rw [hi] at hby hz
  simp only [Option.map_some,Option.some.injEq,Option.bind_some] at hby hz
  have hown:=slOK_iff.1 (hS.at_ hM)
  obtain ⟨v',w1,hr,ho',hg,_,hblk⟩:=run_append_own_at (P:=P) w 0 t ty e inf z sz by_ (und_elem he) hi hz hsz hby hzs h0 v N xs hown ad m c news hl hsrc (oneCell_of h1) hmax hb (Nat.zero_le _)
  refine O.val (w':=w1) (v:=v') hf ho rfl hd ?_ (fun a' hf'=>k v' w1 a' ?_ hf')
  · intro a d pos af g hf
    refine run_builtin (vs:=[v,.slice (some ad) m c]) hf (by simp [evA,hx,hy]) ?_
    simp only [builtin]
    exact run_v hr
  · refine hS.write hM hg.os hg.tape hg.output hg.size (fun k hk hne=>hg.block k hk (fun e=>hne e.symm)) (slOK_iff.2 ho') (fun k hk=>?_)
    have hk:v'.ownBlock=some k:=hk
    have hlt:=(ho'.lt k hk).2
    refine ⟨?_,hlt⟩
    rcases hblk with h2 | h2
    · exact .inl (h2.symm.trans hk)
    · rw [h2] at hk; injection hk with hk; exact .inr (by omega)
theorem O.append1 {sz by_ N m c bo jj:Nat} {xs:List Value} {zz:Nat × Nat} (hf:Fr a n ds L) (hS:St w0 w X B M) (ho:ops[i]? = some ⟨some d,.call ⟨.builtin .append,#[x,y],#[t,t]⟩,ty,pos,af,none⟩) (hd:Nat.blt d n=true)
    (he:tElem P t=some e) (hs:tSize P e=some sz) (hby:tBytes P e=some by_) (hz:tZero P e=some z) (hzs:z.cells.size=sz) (h0:Nat.blt 0 sz=true) (hx:ev L x=some v) (hy:ev L y=some (.slice (some ⟨bo,0,none⟩) m c))
    (hM:M[j]? = some (sl e sz v N xs)) (hMs:M[jj]? = some (pt bo (.cells cs e zz))) (hl:cs.size=m*sz) (h1:oneCells cs.toList=true) (hmax:N+m≤maxLen) (hb:(N+m)*by_≤140737488355328)
    (k:∀ v' w' a',St w0 w' X B (M.set j (sl e sz v' (N+m) (xs++cs.toList)))→Fr a' n ds ((d,v')::L)→O r P ops Q rest a' w'):O r P ops Q (i::rest) a w:=by
  refine O.append hf hS ho hd he hs hby hz hzs (by simpa using h0) hx hy hM (news:=cs.toList) (by simpa using hl) (fun k u hu=>?_) h1 hmax hb k
  rw [add_none,cell_at (hS.ptAt hMs),← Array.getElem?_toList,Nat.zero_add]
  exact hu
theorem St.nilSl (h:St w0 w X B M) (e:TypeId) (sz:Nat):St w0 w X B (sl e sz (.slice none 0 0) 0 []::M) :=
  h.pushE ⟨by simp,.inl ⟨rfl,rfl⟩⟩ (fun b hb=>by cases hb)
theorem O.make {sz by_ N:Nat} {k1 k2:IntKind} (hf:Fr a n ds L) (hS:St w0 w X B M) (ho:ops[i]? = some ⟨some d,.makeSlice t x y,ty,pos,af,none⟩) (hd:Nat.blt d n=true)
    (he:tElem P t=some e) (hs:tSize P e=some sz) (hby:tBytes P e=some by_) (hz:tZero P e=some z) (hx:ev L x=some (.int k1 (N:Int))) (hy:ev L y=some (.int k2 (N:Int))) (hmax:N≤maxLen) (hb:by_*N≤140737488355328)
    (k:∀ b w' a',w0.heap.size≤b→St w0 w' X B (sl e sz (.slice (some ⟨b,0,none⟩) N N) N (madeCells z.cells (N*sz)).toList::M)→Fr a' n ds ((d,.slice (some ⟨b,0,none⟩) N N)::L)→O r P ops Q rest a' w'):O r P ops Q (i::rest) a w:=by
  unfold tSize at hs
  unfold tBytes at hby
  unfold tZero at hz
  obtain ⟨inf,hi,hsz⟩:=Option.map_eq_some_iff.1 hs
  rw [hi] at hby hz
  simp only [Option.map_some,Option.some.injEq,Option.bind_some] at hby hz
  subst hsz
  subst hby
  have h63:N≤9223372036854775807:=by simp only [maxLen] at hmax; omega
  have hbb:(inf.bytes:Int)*(N:Int)≤281474976710656:=by
    have h:((inf.bytes*N:Nat):Int)≤281474976710656:=by omega
    rwa [Int.natCast_mul] at h
  have hr:=run_make (P:=P) w t e inf z (und_elem he) hi hz k1 k2 N N (by omega) (by omega) hbb (by omega)
  simp only [Int.toNat_natCast] at hr
  refine O.val (w':=w.alloc (.cells (madeCells z.cells (N*inf.size)) e)) (v:=.slice (some ⟨w.heap.size,0,none⟩) N N) hf ho rfl hd ?_ (fun a' hf'=>k w.heap.size _ a' hS.size ?_ hf')
  · intro a d pos af g hf
    simp only [execOp,hf.eval hx,hf.eval hy]
    exact run_v hr
  · refine hS.push rfl rfl rfl (by simp) (fun b hb=>heap_alloc_old w _ b hb) ?_ (fun b hb=>?_)
    · have hlen:(madeCells z.cells (N*inf.size)).size=N*inf.size:=by simp [madeCells]
      refine ⟨by simp [hlen],.inr ⟨w.heap.size,N,_,rfl,heap_alloc_new w _,Nat.le_refl _,hmax,hlen,?_⟩⟩
      rw [List.take_of_length_le (by simp [hlen])]
    · have hb:some w.heap.size=some b:=hb
      injection hb with hb
      subst hb
      exact ⟨Nat.le_refl _,by simp⟩
end
end Go.SL
