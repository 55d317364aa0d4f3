/- Slices of slices of numbers (the outer one as sl, the inner ones as inn), append of a whole slice, empty literals. -/
import Derived.Test.YtipfobacinmoiaaGreatSL8
set_option linter.unusedVariables false
set_option linter.unusedSimpArgs false
namespace Go.SL
open Go
def innOK (h:Hp) (vs:List Value) (xss:List (List Int)):Prop :=
  vs.length=xss.length∧∀ i,i<vs.length→rdOK h 1 (vs.getD i undef) (xss.getD i []).length (ints (xss.getD i []))
def inn (vs:List Value) (xss:List (List Int)):Asr :=
  ⟨fun k=>∃ i,i<vs.length∧0<(xss.getD i []).length∧(vs.getD i undef).ownBlock=some k,fun h=>innOK h vs xss,fun h h' hk hh =>
    ⟨hh.1,fun i hi=>(rdv 1 (vs.getD i undef) (xss.getD i []).length (ints (xss.getD i []))).loc h h' (fun b hb=>hk b ⟨i,hi,hb.1,hb.2⟩) (hh.2 i hi)⟩⟩
section
variable {w w0:World} {X:Nat→Prop} {B M M':List Asr} {e j i b:Nat} {vs:List Value} {xss:List (List Int)} {u v:Value} {l:List Int}
theorem St.innAt (h:St w0 w X B M) (hi:M[j]? = some (inn vs xss)):innOK (hp w) vs xss:=h.at_ hi
theorem St.innB (h:St w0 w X B M) (hi:B[j]? = some (inn vs xss)):innOK (hp w) vs xss:=h.bat hi
theorem St.innNil (h:St w0 w X B M):St w0 w X B (inn [] []::M):=h.pushE ⟨rfl,fun i hi=>absurd hi (by simp)⟩ (fun b ⟨i,hi,_⟩=>absurd hi (by simp))
theorem innOK.snoc {h:Hp} (hh:innOK h vs xss) (hu:rdOK h 1 u l.length (ints l)):innOK h (vs++[u]) (xss++[l]):=by
  refine ⟨by simp [hh.1],fun i hi=>?_⟩
  have hl:=hh.1
  rcases Nat.lt_or_ge i vs.length with h1 | h1
  · have e1:(vs++[u]).getD i undef=vs.getD i undef:=by simp [List.getD_eq_getElem?_getD,List.getElem?_append_left h1]
    have e2:(xss++[l]).getD i []=xss.getD i []:=by simp [List.getD_eq_getElem?_getD,List.getElem?_append_left (show i<xss.length by omega)]
    rw [e1,e2]; exact hh.2 i h1
  · have hi':i=vs.length:=by simp at hi; omega
    subst hi'
    have e1:(vs++[u]).getD vs.length undef=u:=by simp [List.getD_eq_getElem?_getD]
    have e2:(xss++[l]).getD vs.length []=l:=by rw [hl]; simp [List.getD_eq_getElem?_getD]
    rw [e1,e2]; exact hu
theorem St.innAdd (h:St w0 w X B (sl e 1 u l.length (ints l)::inn vs xss::M)):St w0 w X B (inn (vs++[u]) (xss++[l])::M):=by
  refine ⟨h.os,h.tape,h.output,h.size,h.old,?_,h.bor⟩
  obtain ⟨⟨h1,h2,h3⟩,⟨h4,h5,h6⟩,h7⟩:=h.sep
  have hfp:∀ b,(inn (vs++[u]) (xss++[l])).fp b→(sl e 1 u l.length (ints l)).fp b∨(inn vs xss).fp b:=by
    rintro b ⟨i,hi,h0,hb⟩
    have hl:vs.length=xss.length:=h4.1
    rcases Nat.lt_or_ge i vs.length with h8 | h8
    · right
      have e1:(vs++[u]).getD i undef=vs.getD i undef:=by simp [List.getD_eq_getElem?_getD,List.getElem?_append_left h8]
      have e2:(xss++[l]).getD i []=xss.getD i []:=by simp [List.getD_eq_getElem?_getD,List.getElem?_append_left (show i<xss.length by omega)]
      rw [e1] at hb; rw [e2] at h0
      exact ⟨i,h8,h0,hb⟩
    · left
      have hi':i=vs.length:=by simp at hi; omega
      subst hi'
      have e1:(vs++[u]).getD vs.length undef=u:=by simp [List.getD_eq_getElem?_getD]
      rw [e1] at hb
      exact hb
  refine ⟨⟨innOK.snoc h4 (slOK.rd h1),fun b hb=>?_,fun q hq b hb=>?_⟩,h7⟩
  · rcases hfp b hb with h8 | h8
    · exact h2 b h8
    · exact h5 b h8
  · rcases hfp b hb with h8 | h8
    · exact h3 q (by simp [hq]) b h8
    · exact h6 q hq b h8
theorem innOK.get {h:Hp} (hh:innOK h vs xss) (hi:i<vs.length):rdOK h 1 (vs.getD i undef) (xss.getD i []).length (ints (xss.getD i [])):=hh.2 i hi
theorem vs_get {j:Nat} (h:j<vs.length):vs[j]? = some (vs.getD j undef):=by simp [List.getD_eq_getElem?_getD,List.getElem?_eq_getElem h]
theorem St.lendI (hS:St w w X B M) (h:innOK (hp w) vs xss) (hX:∀ b,(inn vs xss).fp b→¬ X b):St w w X (inn vs xss::B) M :=
  ⟨hS.os,hS.tape,hS.output,hS.size,hS.old,hS.sep,fun p hp=>by
    rcases List.mem_cons.1 hp with rfl | hp
    · refine ⟨h,fun b hb=>⟨?_,hX b hb⟩⟩
      obtain ⟨i,hi,h0,hb⟩:=hb
      exact (h.2 i hi).lt h0 hb
    · exact hS.bor p hp⟩
theorem St.lendI0 (hS:St w w noX B M) (h:innOK (hp w) vs xss):St w w noX (inn vs xss::B) M:=hS.lendI h (fun _ _ h=>h)
end
section
variable {r:Option Nat} {P:Program} {Q:Exit→Act→World→Prop} {ops:Array Oper} {i:Nat} {rest:List Nat} {a:Act} {w w0 w':World} {n:Nat} {ds:List Deferred} {L:List (Nat × Value)}
  {d:Nat} {op:Op} {ty t e:TypeId} {pos:String} {af:Array Edge} {v u z:Value} {X:Nat→Prop} {B M M':List Asr} {x y:Operand} {b o j:Nat} {cs:Array Value}
theorem O.buildSlice0 {m:Nat} {parts:Array (Nat × Operand)} (hf:Fr a n ds L) (hS:St w0 w X B M) (ho:ops[i]? = some ⟨some d,.buildSlice t 0 parts,ty,pos,af,none⟩) (hd:Nat.blt d n=true)
    (he:tElem P t=some e) (hs:tSize P e=some m) (hp0:parts=#[])
    (k:∀ b w' a',w0.heap.size≤b→St w0 w' X B (sl e m (.slice (some ⟨b,0,none⟩) 0 0) 0 []::M)→Fr a' n ds ((d,.slice (some ⟨b,0,none⟩) 0 0)::L)→O r P ops Q rest a' w'):O r P ops Q (i::rest) a w:=by
  subst hp0
  refine O.val (w':=w.alloc (.cells #[] e)) hf ho rfl hd (v:=.slice (some ⟨w.heap.size,0,none⟩) 0 0) ?_ (fun a' hf'=>k _ _ a' hS.size ((hS.alloc _).ptSl (j:=0) (n:=0) (sz:=m) (xs:=[]) rfl (Nat.zero_le _) (by simp) rfl rfl) hf')
  intro a d pos af g hf
  simp only [execOp]
  refine run_v ?_
  simp only [Instr.buildSlice,Sem.run_bind,run_underlying (und_elem he),Result.andThen,run_sizeOf hs,Nat.zero_mul]
  have e0:Array.range 0=(#[]:Array Nat):=rfl
  simp [Instr.fill,newRow,newObj,Sem.run,e0]
theorem run_append_of_nil {sz N c:Nat} {xs:List Value} {inf:TypeInfo} (ht:P.underlying t=some (.slice e)) (hi:P.info? e=some inf)
    (hown:w.ownsRow 0 e sz v N xs):(Builtin.append_ #[t,t] ty #[v,.slice none 0 c]).run P w=.ok v w:=by
  rcases hown.2 with ⟨rfl,rfl⟩ | ⟨g,cap,cur,rfl,_,_,hnc,_⟩
  · simp [Builtin.append_,run_underlying ht,sizeOf,typeInfo,hi,Builtin.lenOf,Builtin.firstCells]
  · simp [Builtin.append_,run_underlying ht,sizeOf,typeInfo,hi,Builtin.lenOf,Builtin.firstCells,hnc,storeCells]
theorem O.appendV {sz by_ N m:Nat} {xs news:List Value} (hf:Fr a n ds L) (hS:St w0 w X B M) (ho:ops[i]? = some ⟨some d,.call ⟨.builtin .append,#[x,y],#[t,t]⟩,ty,pos,af,none⟩) (hd:Nat.blt d n=true)
    (he:tElem P t=some e) (hs:tSize P e=some sz) (hby:tBytes P e=some by_) (hz:tZero P e=some z) (hzs:z.cells.size=sz) (h0:Nat.blt 0 sz=true) (hx:ev L x=some v) (hy:ev L y=some u)
    (hM:M[j]? = some (sl e sz v N xs)) (hr:rdOK (hp w) sz u m news) (h1:oneCells news=true) (hmax:N+m≤maxLen) (hb:(N+m)*by_≤140737488355328)
    (k:∀ v' w' a',St w0 w' X B (M.set j (sl e sz v' (N+m) (xs++news)))→Fr a' n ds ((d,v')::L)→O r P ops Q rest a' w'):O r P ops Q (i::rest) a w:=by
  have h0':0<sz:=by simpa using h0
  obtain ⟨hl,hmx,A,c,rfl,h3⟩:=hr
  rcases Nat.eq_zero_or_pos m with hm | hm
  · subst hm
    have hn:news=[]:=List.eq_nil_of_length_eq_zero (by simpa using hl)
    subst hn
    rcases A with _ | ad
    · unfold tSize at hs
      obtain ⟨inf,hi,hsz⟩:=Option.map_eq_some_iff.1 hs
      refine O.val (w':=w) (v:=v) hf ho rfl hd ?_ (fun a' hf'=>k v w a' ?_ hf')
      · intro a d pos af g hf
        refine run_builtin (vs:=[v,.slice none 0 c]) hf (by simp [evA,hx,hy]) ?_
        simp only [builtin]
        exact run_v (run_append_of_nil (sz:=sz) (und_elem he) hi (slOK_iff.1 (hS.at_ hM)))
      · have:M.set j (sl e sz v (N+0) (xs++[]))=M:=by
          rw [List.append_nil,Nat.add_zero]
          obtain ⟨hlt,he⟩:=List.getElem?_eq_some_iff.1 hM
          rw [← he,List.set_getElem_self]
        rw [this]; exact hS
    · exact O.append hf hS ho hd he hs hby hz hzs h0' hx hy hM (m:=0) (news:=[]) (by simp) (by simp) rfl hmax hb k
  · obtain ⟨ad,cur,e',zz,rfl,hsp,hbk,hc⟩:=h3 hm
    refine O.append hf hS ho hd he hs hby hz hzs h0' hx hy hM (m:=m) hl (fun q uu hq=>?_) h1 hmax hb k
    obtain ⟨bb,off,spot⟩:=ad
    simp only at hsp
    subst hsp
    rw [add_none,cell_at hbk]
    exact hc q uu hq
end
theorem oneCells_bools (l:List Bool):oneCells (bools l)=true:=by induction l with
  | nil=>rfl
  | cons a t ih=>exact ih
theorem sl_vs {e:TypeId} (v:Value) (vs:List Value) (u:Value):sl e 1 v (vs.length+1) (vs++[u])=sl e 1 v (vs++[u]).length (vs++[u]):=by
  rw [List.length_append]; rfl
theorem rdOK.cells {h:Hp} {sz:Nat} {v:Value} {n:Nat} {xs:List Value} (hr:rdOK h sz v n xs):v.cells=#[v]∧oneCells [v]=true:=by
  obtain ⟨_,_,A,c,rfl,_⟩:=hr
  exact ⟨rfl,rfl⟩
theorem St.pushSl {w w0:World} {X:Nat→Prop} {B:List Asr} (hS:St w0 w X B []) (e:TypeId):St w0 w X B [sl e 1 (.slice none 0 0) ([]:List Value).length [],inn [] []]:=(hS.innNil).nilSl e 1
end Go.SL
