/- Part of a proof: laws and walks. -/
import Derived.Test.YtbccfconmcgfgaaGreatTaa
import Derived.ChangeKeysEq
import Derived.Laws.Externs
set_option linter.unusedVariables false
set_option linter.unusedSimpArgs false
namespace Go.SL
open Go
section
variable {r:Option Nat} {P:Program} {ops:Array Oper} {Q:Exit→Act→World→Prop} {C:World→Prop} {K:Act→Prop} {m:Nat} {a:Act} {w:World}
def anyM (P:Program) (ops:Array Oper) (C:World→Prop) (K:Act→Prop) (m:Nat):Nat→Array Bool→Act→Prop
  | 0,listed,a=>(∀ i ∈ Region.ready .any ops listed,m≤i)∧K a
  | fuel+1,listed,a=>((∀ i ∈ Region.ready .any ops listed,m≤i)→K a) ∧
      ∀ i ∈ Region.ready .any ops listed,i<m→qOp P ops C i (anyM P ops C K m fuel (listed.setIfInBounds i true)) a
def mask (n k:Nat):Array Bool:=((List.range n).map fun i=>decide (i<k)).toArray
def Region.aHM (ops:Array Oper):Nat→Nat→Bool
  | 0,k=>(Region.ready .any ops (mask ops.size k)).all (fun i=>Nat.ble k i)
  | n+1,k=>(Region.ready .any ops (mask ops.size k)).contains k&&Region.free .any ops (mask ops.size k) k&&Region.aHM ops n (k+1)
def Region.chain (ops:Array Oper):Nat→Nat→Bool
  | 0,k=>(Region.ready .any ops (mask ops.size k)).isEmpty
  | n+1,k=>(Region.ready .any ops (mask ops.size k) == [k])&&Region.chain ops n (k+1)
def preds (o:Oper):List Nat:=(o.after.toList.filter (fun e=>Region.binds .any e)).map (·.on)
def qy (ops:Array Oper) (i:Nat):List Nat:=match ops[i]? with
  | some o=>preds o
  | none=>[]
def wo (ops:Array Oper):List (List Nat):=ops.toList.foldl (fun acc o=>acc++[((preds o)++(preds o).flatMap fun p=>acc.getD p []).eraseDups]) []
def vBm (ops:Array Oper) (bm:List (List Nat)):Bool:=(List.range ops.size).all fun i =>
  (bm.getD i []).all fun j=>(qy ops i).contains j||(qy ops i).any fun p=>(bm.getD p []).contains j
def cover (n m:Nat) (bm:List (List Nat)):Bool:=(List.range n).all fun i=>Nat.blt i m||(List.range m).all fun j=>(bm.getD i []).contains j
def aEY (ops:Array Oper):Bool:=(List.range ops.size).all fun i=>(qy ops i).all fun p=>Nat.blt p i
theorem aDE {o:Oper} {e:Edge} (he:e ∈ o.after) (hb:Region.binds .any e=true):e.on ∈ preds o :=
  List.mem_map.2 ⟨e,List.mem_filter.2 ⟨by simpa using he,hb⟩,rfl⟩
theorem xq {o:Oper} {j:Nat} (h:j ∈ preds o):∃ e ∈ o.after,Region.binds .any e=true∧e.on=j:=by
  obtain ⟨e,he,rfl⟩:=List.mem_map.1 h
  obtain ⟨h1,h2⟩:=List.mem_filter.1 he
  exact ⟨e,by simpa using h1,h2,rfl⟩
theorem aEB {bm:List (List Nat)} {S:Nat→Prop} (hv:vBm ops bm=true) (hord:aEY ops=true) (hS:∀ i o,S i→ops[i]? = some o→∀ p ∈ preds o,S p) :
    ∀ (i:Nat) (o:Oper),ops[i]? = some o→(∀ p ∈ preds o,S p)→∀ j ∈ bm.getD i [],S j:=by
  intro i
  induction i using Nat.strongRecOn with
  | _ i ih =>
    intro o ho hp j hj
    have hi:i<ops.size:=(Array.getElem?_eq_some_iff.1 ho).1
    have hpa:qy ops i=preds o:=by simp [qy,ho]
    have h1:=List.all_eq_true.1 hv i (by simpa using hi)
    have h2:=List.all_eq_true.1 h1 j hj
    rw [hpa] at h2
    simp only [Bool.or_eq_true,List.contains_iff_mem,List.any_eq_true] at h2
    rcases h2 with h2 | ⟨p,hpm,hpj⟩
    · exact hp j h2
    · have hlt:p<i:=by
        have:=List.all_eq_true.1 hord i (by simpa using hi)
        rw [hpa] at this
        have:=List.all_eq_true.1 this p hpm
        simpa using this
      have hps:p<ops.size:=by omega
      exact ih p hlt _ (Array.getElem?_eq_getElem hps) (hS p _ (hp p hpm) (Array.getElem?_eq_getElem hps)) j hpj
structure Part (ops:Array Oper) (m k:Nat) (listed:Array Bool):Prop where
  closed:∀ i o,listed.getD i false=true→ops[i]? = some o→∀ p ∈ preds o,listed.getD p false=true
  size:listed.size=ops.size
  low:∀ i,m≤i→i<ops.size→listed.getD i true=false
  count:listed.toList.count true=k
theorem uP:∀ (l:List Bool) (i:Nat),l.getD i true=false→(l.set i true).count true=l.count true+1
  | [],i,h=>by simp at h
  | b::t,0,h=>by simp at h; subst h; simp
  | b::t,i+1,h=>by
    have:=uP t i (by simpa using h)
    simp only [List.set_cons_succ,List.count_cons,this]
    omega
theorem Part.set {listed:Array Bool} {i k:Nat} (h:Part ops m k listed) (hi:i<m) (hr:i ∈ Region.ready .any ops listed):Part ops m (k+1) (listed.setIfInBounds i true):=by
  have hun:=(mem_ready.1 hr).1
  refine ⟨fun j o hj ho p hp=>?_,by simpa using h.size,fun j h1 h2=>?_,?_⟩
  · by_cases e:i=j
    · subst e
      obtain ⟨_,o',ho',hall⟩:=mem_ready.1 hr
      rw [ho] at ho'
      injection ho' with ho'
      subst ho'
      obtain ⟨ed,h1,h2,h3⟩:=xq hp
      exact getD_set_true (h3▸hall ed h1 h2)
    · rw [getD_set_ne false e] at hj
      exact getD_set_true (h.closed j o hj ho p hp)
  · rw [getD_set_ne true (by omega)]; exact h.low j h1 h2
  · rw [Array.toList_setIfInBounds,uP _ _ ?_,h.count]
    simpa [Array.getD_eq_getD_getElem?,List.getD_eq_getElem?_getD] using hun
end
end Go.SL

namespace Go.SL
open Go
def yF (h:Hp) (vs:List Value) (xss:List (List Int)):Prop :=
  vs.length=xss.length∧∀ i,i<vs.length→sI h 1 (vs.getD i undef) (xss.getD i []).length (ints (xss.getD i []))
def inn (vs:List Value) (xss:List (List Int)):Asr :=
  ⟨fun k=>∃ i,i<vs.length∧0<(xss.getD i []).length∧(vs.getD i undef).ownBlock=some k,fun h=>yF h vs xss,fun h h' hk hh =>
    ⟨hh.1,fun i hi=>(rdv 1 (vs.getD i undef) (xss.getD i []).length (ints (xss.getD i []))).loc h h' (fun b hb=>hk b ⟨i,hi,hb.1,hb.2⟩) (hh.2 i hi)⟩⟩
section
variable {w w0:World} {X:Nat→Prop} {B M M':List Asr} {e j i b:Nat} {vs:List Value} {xss:List (List Int)} {u v:Value} {l:List Int}
theorem yF.get {h:Hp} (hh:yF h vs xss) (hi:i<vs.length):sI h 1 (vs.getD i undef) (xss.getD i []).length (ints (xss.getD i [])):=hh.2 i hi
end
section
variable {r:Option Nat} {P:Program} {Q:Exit→Act→World→Prop} {ops:Array Oper} {i:Nat} {rest:List Nat} {a:Act} {w w0 w':World} {n:Nat} {ds:List Deferred} {L:List (Nat × Value)}
  {d:Nat} {op:Op} {ty t e:TypeId} {pos:String} {af:Array Edge} {v u z:Value} {X:Nat→Prop} {B M M':List Asr} {x y:Operand} {b o j:Nat} {cs:Array Value}
theorem O.rE {m:Nat} {parts:Array (Nat × Operand)} (hf:Fr a n ds L) (hS:St w0 w X B M) (ho:ops[i]? = some ⟨some d,.buildSlice t 0 parts,ty,pos,af,none⟩) (hd:Nat.blt d n=true)
    (he:jC P t=some e) (hs:dB P e=some m) (hp0:parts=#[])
    (k:∀ b w' a',w0.heap.size≤b→St w0 w' X B (sl e m (.slice (some ⟨b,0,none⟩) 0 0) 0 []::M)→Fr a' n ds ((d,.slice (some ⟨b,0,none⟩) 0 0)::L)→O r P ops Q rest a' w'):O r P ops Q (i::rest) a w:=by
  subst hp0
  refine O.val (w':=w.alloc (.cells #[] e)) hf ho rfl hd (v:=.slice (some ⟨w.heap.size,0,none⟩) 0 0) ?_ (fun a' hf'=>k _ _ a' hS.size ((hS.alloc _).aGr (j:=0) (n:=0) (sz:=m) (xs:=[]) rfl (Nat.zero_le _) (by simp) rfl rfl) hf')
  intro a d pos af g hf
  simp only [execOp]
  refine mU ?_
  simp only [Instr.buildSlice,Sem.run_bind,run_underlying (jh he),Result.andThen,run_sizeOf hs,Nat.zero_mul]
  have e0:Array.range 0=(#[]:Array Nat):=rfl
  simp [Instr.fill,newRow,newObj,Sem.run,e0]
theorem xY {sz N c:Nat} {xs:List Value} {inf:TypeInfo} (ht:P.underlying t=some (.slice e)) (hi:P.info? e=some inf)
    (hown:w.ownsRow 0 e sz v N xs):(Builtin.append_ #[t,t] ty #[v,.slice none 0 c]).run P w=.ok v w:=by
  rcases hown.2 with ⟨rfl,rfl⟩ | ⟨g,cap,cur,rfl,_,_,hnc,_⟩
  · simp [Builtin.append_,run_underlying ht,sizeOf,typeInfo,hi,Builtin.lenOf,Builtin.firstCells]
  · simp [Builtin.append_,run_underlying ht,sizeOf,typeInfo,hi,Builtin.lenOf,Builtin.firstCells,hnc,storeCells]
theorem O.aA9 {sz by_ N m:Nat} {xs news:List Value} (hf:Fr a n ds L) (hS:St w0 w X B M) (ho:ops[i]? = some ⟨some d,.call ⟨.builtin .append,#[x,y],#[t,t]⟩,ty,pos,af,none⟩) (hd:Nat.blt d n=true)
    (he:jC P t=some e) (hs:dB P e=some sz) (hby:pu P e=some by_) (hz:iQ P e=some z) (hzs:z.cells.size=sz) (h0:Nat.blt 0 sz=true) (hx:ev L x=some v) (hy:ev L y=some u)
    (hM:M[j]? = some (sl e sz v N xs)) (hr:sI (hp w) sz u m news) (h1:bV news=true) (hmax:N+m≤maxLen) (hb:(N+m)*by_≤140737488355328)
    (k:∀ v' w' a',St w0 w' X B (M.set j (sl e sz v' (N+m) (xs++news)))→Fr a' n ds ((d,v')::L)→O r P ops Q rest a' w'):O r P ops Q (i::rest) a w:=by
  have h0':0<sz:=by simpa using h0
  obtain ⟨hl,hmx,A,c,rfl,h3⟩:=hr
  rcases Nat.eq_zero_or_pos m with hm | hm
  · subst hm
    have hn:news=[]:=List.eq_nil_of_length_eq_zero (by simpa using hl)
    subst hn
    rcases A with _ | ad
    · unfold dB at hs
      obtain ⟨inf,hi,hsz⟩:=Option.map_eq_some_iff.1 hs
      refine O.val (w':=w) (v:=v) hf ho rfl hd ?_ (fun a' hf'=>k v w a' ?_ hf')
      · intro a d pos af g hf
        refine oH (vs:=[v,.slice none 0 c]) hf (by simp [evA,hx,hy]) ?_
        simp only [builtin]
        exact mU (xY (sz:=sz) (jh he) hi (uU.1 (hS.at_ hM)))
      · have:M.set j (sl e sz v (N+0) (xs++[]))=M:=by
          rw [List.append_nil,Nat.add_zero]
          obtain ⟨hlt,he⟩:=List.getElem?_eq_some_iff.1 hM
          rw [← he,List.set_getElem_self]
        rw [this]; exact hS
    · exact O.append hf hS ho hd he hs hby hz hzs h0' hx hy hM (m:=0) (news:=[]) (by simp) (by simp) rfl hmax hb k
  · obtain ⟨ad,cur,e',zz,rfl,hsp,hbk,hc⟩:=h3 hm
    refine O.append hf hS ho hd he hs hby hz hzs h0' hx hy hM (m:=m) hl (fun q uu hq=>?_) h1 hmax hb k
    obtain ⟨bb,off,spot⟩:=ad
    simp only at hsp
    subst hsp
    rw [gX,vT hbk]
    exact hc q uu hq
end
theorem wW (l:List Int):bV (ints l)=true:=by induction l with
  | nil=>rfl
  | cons a t ih=>exact ih
theorem sI.cells {h:Hp} {sz:Nat} {v:Value} {n:Nat} {xs:List Value} (hr:sI h sz v n xs):v.cells=#[v]∧bV [v]=true:=by
  obtain ⟨_,_,A,c,rfl,_⟩:=hr
  exact ⟨rfl,rfl⟩
end Go.SL

namespace Go.SL
open Go
section
variable {r:Option Nat} {P:Program} {ops:Array Oper} {Q:Exit→Act→World→Prop} {a:Act} {w:World} {n:Nat} {ds:List Deferred} {γ:Type}
theorem aB {u:Value} {t:List Value} (h1:bV [u]=true) (h2:bV t=true):bV (u::t)=true:=by
  cases u <;> simp [bV] at h1 ⊢ <;> exact h2
theorem aBE {listed:Array Bool} (hord:aEY ops=true) (hsz:listed.size=ops.size) (hlt:∃ i,i<ops.size∧listed.getD i true=false):∃ i,i ∈ Region.ready .any ops listed:=by
  have hleast:∃ i,i<ops.size∧listed.getD i true=false∧∀ j,j<i→listed.getD j true=true:=by
    obtain ⟨i,hi,hu⟩:=hlt
    induction i using Nat.strongRecOn with
    | _ i ih =>
      by_cases hj:∃ j,j<i∧listed.getD j true=false
      · obtain ⟨j,hj1,hj2⟩:=hj
        exact ih j hj1 (by omega) hj2
      · refine ⟨i,hi,hu,fun j hj1=>?_⟩
        cases hb:listed.getD j true with
        | true=>rfl
        | false=>exact absurd ⟨j,hj1,hb⟩ hj
  obtain ⟨i,hi,hu,hall⟩:=hleast
  refine ⟨i,mem_ready.2 ⟨hu,ops[i]'hi,Array.getElem?_eq_getElem hi,fun e he hb=>?_⟩⟩
  have hpi:qy ops i=preds (ops[i]'hi):=by simp [qy,Array.getElem?_eq_getElem hi]
  have h2:=List.all_eq_true.1 hord i (by simp; omega)
  rw [hpi] at h2
  have:e.on<i:=by simpa using List.all_eq_true.1 h2 e.on (aDE he hb)
  have h1:=hall e.on this
  have hsz':e.on<listed.size:=by omega
  simpa [Array.getD_eq_getD_getElem?,hsz'] using h1
theorem aAv {a:Act} {d:Option Nat} {v:Value} {k:Nat} (h:d≠some k):(a.put d v).tmps[k]? = a.tmps[k]?:=by
  cases d with
  | none=>rfl
  | some d=>exact Array.getElem?_setIfInBounds_ne (fun e=>h (by rw [e]))
def Kept (o:Oper) (a a':Act):Prop:=∀ k,o.dst≠some k→a'.tmps[k]? = a.tmps[k]?
theorem O.keep {R:Act→World→Prop} {i:Nat} {o:Oper} (ho:ops[i]? = some o) (h:O r P ops (fun e a w=>e=.normal∧R a w) [i] a w) :
    wpOpIn (FW r) 0 P ops Q i (fun a' w'=>R a' w'∧Kept o a a') a w:=by
  unfold O at h
  rw [wpOpsIn_cons] at h
  unfold wpOpIn at h ⊢
  simp only [ho] at h ⊢
  have hk:∀ v,Kept o a (a.put o.dst v):=fun v k hk=>aAv hk
  split
  · rename_i hw
    rw [if_pos hw] at h
    unfold Oper.wpIn at h ⊢
    refine ⟨h.1,?_⟩
    have h:=h.2
    generalize (o.semAt (FW r).round a.eval).run P w=res at h
    cases res with
    | ok x w' =>
      cases x <;> simp only [Oper.uponIn] at h ⊢
      case value=>exact ⟨h.2,hk _⟩
      case skip=>exact ⟨h.2,hk _⟩
      case defer d=>exact ⟨h.2,fun k hk=>aAv (a:={ a with defers:=d::a.defers }) hk⟩
      case enter f args =>
        refine ⟨h.1,h.2.mono fun e w'' he=>?_⟩
        cases e with
        | returned v=>exact ⟨he.2,hk _⟩
        | panicked c=>exact absurd he.1 (by simp)
        | outgrown=>obtain ⟨_,_,he⟩:=he; exact absurd he.1 (by simp)
      case row row args=>exact ⟨h.1,h.2.mono fun u w'' he=>⟨he.2,hk _⟩⟩
      case round l f tmps assign body =>
        refine ⟨h.1,h.2.mono fun e w'' he=>?_⟩
        cases e with
        | returned u=>exact ⟨he.2,hk _⟩
        | panicked c=>exact absurd he.1 (by simp)
        | outgrown=>obtain ⟨_,_,he⟩:=he; exact absurd he.1 (by simp)
    | halt x w' =>
      cases x <;> simp only [Oper.uponIn] at h ⊢
      exact absurd h.1 (by simp)
  · rename_i hw
    rw [if_neg hw] at h
    exact ⟨h.1,h.2.2,hk _⟩
def Obl (F:Nat→Prop):List Nat→Prop
  | []=>True
  | i::t=>F i∧Obl F t
theorem Obl.get {F:Nat→Prop}:∀ {l:List Nat},Obl F l→∀ i ∈ l,F i
  | _::_,h,i,hi=>by
    rcases List.mem_cons.1 hi with rfl | h1
    · exact h.1
    · exact Obl.get h.2 i h1
def Stages (F:Nat→Nat→Prop):Nat→List Nat→Prop
  | _,[]=>True
  | k,i::t=>F k i∧Stages F (k+1) t
theorem Stages.get {F:Nat→Nat→Prop}:∀ {l:List Nat} {k0:Nat},Stages F k0 l→∀ k i,l[k]? = some i→F (k0+k) i
  | [],_,_,k,i,hi=>by simp at hi
  | j::t,k0,h,0,i,hi=>by simp at hi; subst hi; exact h.1
  | j::t,k0,h,k+1,i,hi=>by
    have:=Stages.get h.2 k i (by simpa using hi)
    rwa [show k0+(k+1)=k0+1+k from by omega]
def jM (ops:Array Oper) (j:Nat):Option Nat:=(ops[j]?).bind (·.dst)
def slotsOf (ops:Array Oper) (vals:Nat→Value):List Nat→List (Nat × Value)→List (Nat × Value)
  | [],L=>L
  | j::t,L=>match jM ops j with
    | some d=>(d,vals j)::slotsOf ops vals t L
    | none=>slotsOf ops vals t L
def wJ (ops:Array Oper) (base:List Nat):Bool :=
  (List.range ops.size).all fun i=>match jM ops i with
    | none=>true
    | some d=>(!base.contains d)&&(List.range i).all fun j=>match jM ops j with
      | none=>true
      | some d'=>!Nat.beq d d'
theorem aAO {vals:Nat→Value} {L0:List (Nat × Value)} (hf:Fr a n ds L0):∀ {l:List Nat},(∀ j ∈ l,∀ d,jM ops j=some d→a.tmps[d]? = some (vals j))→Fr a n ds (slotsOf ops vals l L0)
  | [],_=>hf
  | j::t,h=>by
    have ih:=aAO (vals:=vals) hf (l:=t) (fun j' hj'=>h j' (by simp [hj']))
    simp only [slotsOf]
    cases hd:jM ops j with
    | none=>exact ih
    | some d =>
      refine ⟨ih.size,ih.defers,fun k v hk=>?_⟩
      simp only [lk] at hk
      cases hb:Nat.beq d k with
      | true =>
        rw [hb] at hk
        have:=Nat.eq_of_beq_eq_true hb
        subst this
        simp only [Option.some.injEq] at hk
        subst hk
        exact h j (by simp) d hd
      | false=>rw [hb] at hk; exact ih.get k v hk
def uI:List (Nat × Value)→List Nat
  | []=>[]
  | (k,_)::t=>k::uI t
theorem aDo:∀ {L:List (Nat × Value)} {k:Nat} {v:Value},lk L k=some v→k ∈ uI L
  | [],_,_,h=>by simp [lk] at h
  | (k',v')::t,k,v,h=>by
    simp only [lk] at h
    simp only [uI,List.mem_cons]
    cases hb:Nat.beq k' k with
    | true=>exact .inl (Nat.eq_of_beq_eq_true hb).symm
    | false=>rw [hb] at h; exact .inr (aDo h)
structure Dr (ops:Array Oper) (n:Nat) (ds:List Deferred) (L0:List (Nat × Value)) (val:γ→Nat→Value) (mk:List Nat) (D:Nat→γ→World→Prop) (listed:Array Bool) (a:Act) (w:World) (g:γ) (k:Nat):Prop where
  fr:Fr a n ds L0
  slot:∀ j d,listed.getD j false=true→jM ops j=some d→a.tmps[d]? = some (val g j)
  le:k≤mk.length
  done:∀ j q,mk[j]? = some q→(listed.getD q false=true↔j<k)
  D:D k g w
  size:listed.size=ops.size
end
end Go.SL

namespace Go.SL
open Go
section
variable {r:Option Nat} {P:Program} {Q:Exit→Act→World→Prop} {a:Act} {w:World}
def LH (r:Option Nat) (P:Program) (c:Code) (Q:Exit→Act→World→Prop) (a:Act) (w:World):Prop :=
  ∀ (b:Frame) (k:List Item) (cs:List Frame),b.roundOf=(FW r).round→(FW r).fn b.fn→(FW r).room (cs.length+1+0) →
    ∃ e a' w',Q e a' w'∧ArrivesIn (Machine.fenced P (FW r)) P (lone (b.atR a (.code c::.inLoop c::k)) cs w) b k cs e a' w'
theorem LH.step {c:Code} (h:W r P c (Exit.then (LH r P c Q) Q) a w):LH r P c Q a w:=by
  intro b k cs hro hb hr
  obtain ⟨e,a₁,w₁,hq,harr⟩:=h b (.inLoop c::k) cs hro hb hr
  cases e with
  | normal =>
    obtain ⟨e₂,a₂,w₂,hq₂,harr₂⟩:=hq b k cs hro hb hr
    exact ⟨e₂,a₂,w₂,hq₂,.of_steps (StepsIn.trans harr (.one (fenced_calm hb hr rfl) stepR_inLoop)) harr₂⟩
  | exit id=>exact ⟨_,a₁,w₁,hq,.pass (x:=.inLoop c) rfl (fun _ _=>.inl (by simp)) harr⟩
  | goto l=>exact ⟨_,a₁,w₁,hq,.pass (x:=.inLoop c) rfl (fun _ _=>.inl (by simp)) harr⟩
  | ret=>exact ⟨_,a₁,w₁,hq,.pass (x:=.inLoop c) rfl (fun _ _=>.inl (by simp)) harr⟩
  | panic ch=>exact ⟨_,a₁,w₁,hq,.pass (x:=.inLoop c) rfl (fun _ _=>.inl (by simp)) harr⟩
  | outgrown=>exact ⟨_,a₁,w₁,hq,.pass (x:=.inLoop c) rfl (fun _ _=>.inl (by simp)) harr⟩
theorem W.aCz {c:Code} (h:LH r P c Q a w):W r P (.loop c) Q a w:=by
  intro b k cs hro hb hr
  obtain ⟨e₂,a₂,w₂,hq₂,harr₂⟩:=h b k cs hro hb hr
  exact ⟨e₂,a₂,w₂,hq₂,.of_steps (.one (fenced_calm hb hr rfl) stepR_loop) harr₂⟩
end
theorem kS {α:Type} {b:Bool} {x y:Option α} {r:α} (hm:(if b=true then x else y)=some r) (h:b=true):x=some r:=by rwa [if_pos h] at hm
theorem kU {α:Type} {b:Bool} {x y:Option α} {r:α} (hm:(if b=true then x else y)=some r) (h:b=false):y=some r:=by rwa [if_neg (by simp [h])] at hm
theorem bX {α:Type} {p:Prop} [Decidable p] {x y:Option α} {r:α} (hm:(if p then x else y)=some r) (h:p):x=some r:=by rwa [if_pos h] at hm
theorem bW {α:Type} {p:Prop} [Decidable p] {x y:Option α} {r:α} (hm:(if p then x else y)=some r) (h:¬ p):y=some r:=by rwa [if_neg h] at hm
theorem fu {α:Type} {p:Prop} [Decidable p] {x:Option α} {r:α} (hm:(if p then x else none)=some r):p∧x=some r:=by
  by_cases h:p
  · rw [if_pos h] at hm; exact ⟨h,hm⟩
  · rw [if_neg h] at hm; cases hm
theorem aO {α β:Type} {o:Option α} {f:α→Option β} {r:β} (hm:o.bind f=some r):∃ x,o=some x∧f x=some r:=Option.bind_eq_some_iff.1 hm
def idx {T:Type} (l:List T) (i:Int):Option T:=if 0≤i then l[i.toNat]? else none
def encs {T:Type} (enc:T→List Value) (l:List T):List Value:=l.flatMap enc
theorem uL {T:Type} {l:List T} {i:Int} {x:T} (h:idx l i=some x):i=(i.toNat:Int)∧i.toNat<l.length∧l[i.toNat]? = some x:=by
  unfold idx at h
  split at h
  · rename_i h0
    exact ⟨(Int.toNat_of_nonneg h0).symm,(List.getElem?_eq_some_iff.1 h).1,h⟩
  · cases h
section
variable {T:Type} {enc:T→List Value} {sz:Nat} {l m:List T} {j k:Nat} {x y:T} {u:Value}
theorem ig (he:∀ x,(enc x).length=sz):∀ l:List T,(encs enc l).length=l.length*sz
  | []=>by simp [encs]
  | x::t=>by
    have:=ig he t
    simp only [encs] at this
    simp only [encs,List.flatMap_cons,List.length_append,he,this,List.length_cons,Nat.add_mul,Nat.one_mul]
    omega
theorem vz:encs enc (l++m)=encs enc l++encs enc m:=by simp [encs]
theorem sG (he:∀ x,(enc x).length=sz):∀ {l:List T} {j k:Nat},l[j]? = some x→k<sz→(encs enc l)[j*sz+k]? = (enc x)[k]?
  | [],j,k,h,_=>by simp at h
  | y::t,0,k,h,hk=>by
    simp only [List.getElem?_cons_zero,Option.some.injEq] at h
    subst h
    simp only [encs,List.flatMap_cons,Nat.zero_mul,Nat.zero_add]
    rw [List.getElem?_append_left (by rw [he]; exact hk)]
  | y::t,j+1,k,h,hk=>by
    simp only [List.getElem?_cons_succ] at h
    have ih:=sG he h hk
    simp only [encs] at ih
    simp only [encs,List.flatMap_cons]
    rw [List.getElem?_append_right (by rw [he,Nat.add_mul]; omega),he]
    rw [← ih]
    congr 1
    rw [Nat.add_mul]; omega
def spl (a:List Value) (o:Nat) (us:List Value):List Value:=a.take o++us++a.drop (o+us.length)
theorem yK {a us:List Value} {o k:Nat} (h:o+us.length≤a.length):(spl a o us)[k]? = if o≤k∧k<o+us.length then us[k-o]? else a[k]?:=by
  unfold spl
  by_cases h1:k<o
  · rw [if_neg (by omega),List.append_assoc,List.getElem?_append_left (by simp; omega),List.getElem?_take,if_pos h1]
  · by_cases h2:k<o+us.length
    · rw [if_pos ⟨by omega,h2⟩,List.getElem?_append_left (by simp; omega),List.getElem?_append_right (by simp; omega)]
      congr 1; simp; omega
    · rw [if_neg (by omega),List.getElem?_append_right (by simp; omega),List.getElem?_drop]
      congr 1; simp; omega
theorem aD1 (he:∀ x,(enc x).length=sz) {o:Nat} {us:List Value} (hx:l[j]? = some x) (ho:o+us.length≤sz) (hy:enc y=spl (enc x) o us):spl (encs enc l) (j*sz+o) us=encs enc (l.set j y):=by
  have hj:j<l.length:=(List.getElem?_eq_some_iff.1 hx).1
  have hjs:j*sz+sz≤l.length*sz:=by
    have:(j+1)*sz≤l.length*sz:=Nat.mul_le_mul_right _ hj
    rw [Nat.add_mul] at this; omega
  apply List.ext_getElem?
  intro k
  rw [yK (by rw [ig he]; omega)]
  by_cases h0:k<l.length*sz
  · have hsz:0<sz:=by
      rcases Nat.eq_zero_or_pos sz with h | h
      · subst h; simp at h0
      · exact h
    have hk:k=(k/sz)*sz+k % sz:=by rw [Nat.mul_comm]; exact (Nat.div_add_mod k sz).symm
    have hq:k/sz<l.length:=Nat.div_lt_of_lt_mul (by rw [Nat.mul_comm]; exact h0)
    have hr:=Nat.mod_lt k hsz
    generalize k/sz=q at *
    generalize k % sz=e at *
    have e1:l[q]? = some l[q]:=List.getElem?_eq_getElem hq
    by_cases hqj:q=j
    · subst hqj
      have e2:(l.set q y)[q]? = some y:=by rw [List.getElem?_set_self hj]
      rw [hk,sG he e2 hr,hy,yK (by rw [he]; omega),sG he hx hr]
      by_cases h3:o≤e∧e<o+us.length
      · rw [if_pos (by omega),if_pos h3]; congr 1; omega
      · rw [if_neg (by omega),if_neg h3]
    · have e2:(l.set j y)[q]? = some l[q]:=by rw [List.getElem?_set_ne (fun h=>hqj h.symm)]; exact e1
      rw [if_neg,hk,sG he e2 hr,sG he e1 hr]
      rcases Nat.lt_or_ge q j with h4 | h4
      · have:(q+1)*sz≤j*sz:=Nat.mul_le_mul_right _ h4
        rw [Nat.add_mul] at this; omega
      · have:(j+1)*sz≤q*sz:=Nat.mul_le_mul_right _ (by omega)
        rw [Nat.add_mul] at this; omega
  · rw [if_neg (by omega),List.getElem?_eq_none (by rw [ig he]; omega),List.getElem?_eq_none (by rw [ig he,List.length_set]; omega)]
theorem yY {z:Value} {x:T} {n:Nat} (hsz:0<sz) (he:∀ x,(enc x).length=sz) (hz:z.cells.toList=enc x):(madeCells z.cells (n*sz)).toList=encs enc (List.replicate n x):=by
  have hzs:z.cells.size=sz:=by rw [← Array.length_toList,hz,he]
  apply List.ext_getElem?
  intro k
  by_cases h0:k<n*sz
  · have hk:k=(k/sz)*sz+k % sz:=by rw [Nat.mul_comm]; exact (Nat.div_add_mod k sz).symm
    have hq:k/sz<n:=Nat.div_lt_of_lt_mul (by rw [Nat.mul_comm]; exact h0)
    have hr:=Nat.mod_lt k hsz
    have e1:(List.replicate n x)[k/sz]? = some x:=by rw [List.getElem?_replicate,if_pos hq]
    have e2:(madeCells z.cells (n*sz)).toList[k]? = z.cells.toList[k % sz]?:=by
      have h5:k % sz<z.cells.size:=by omega
      simp [madeCells,h0,hzs]
      rw [getElem!_pos z.cells _ h5,Array.getElem?_eq_getElem h5]
    rw [e2,hz]
    conv=>rhs; rw [hk]
    rw [sG he e1 hr]
  · rw [List.getElem?_eq_none (by simp [madeCells]; omega),List.getElem?_eq_none (by rw [ig he]; simp; omega)]
end
def slE {T:Type} (e sz:Nat) (enc:T→List Value) (v:Value) (l:List T):Asr:=sl e sz v l.length (encs enc l)
def vfit:Value→Prop
  | .slice _ n c=>n≤c
  | _=>True
def aV {T:Type} (h:Hp) (sz:Nat) (enc:T→List Value) (v:Value) (l:List T):Prop:=sI h sz v l.length (encs enc l)∧vfit v
def rdE {T:Type} (sz:Nat) (enc:T→List Value) (v:Value) (l:List T):Asr :=
  ⟨(rdv sz v l.length (encs enc l)).fp,fun h=>aV h sz enc v l,fun h h' hk hh=>⟨(rdv sz v l.length (encs enc l)).loc h h' hk hh.1,hh.2⟩⟩
theorem oQ.fit {h:Hp} {e:TypeId} {sz:Nat} {v:Value} {n:Nat} {xs:List Value} (hs:oQ h e sz v n xs):vfit v:=by
  rcases hs.2 with ⟨rfl,_⟩ | ⟨g,cap,cur,rfl,_,h1,_⟩
  · exact Nat.le_refl 0
  · exact h1
section
variable {T:Type} {enc:T→List Value} {sz:Nat} {l m:List T} {x0:T}
variable {r:Option Nat} {P:Program} {Q:Exit→Act→World→Prop} {ops:Array Oper} {i:Nat} {rest:List Nat} {a:Act} {w w0 w':World} {n:Nat} {ds:List Deferred} {L:List (Nat × Value)}
  {d:Nat} {op:Op} {ty t e:TypeId} {pos:String} {af:Array Edge} {v u z:Value} {X:Nat→Prop} {B M M':List Asr} {x y:Operand} {b o j q c:Nat} {cs:Array Value} {k:IntKind} {p:Int}
theorem St.rdB (h:St w0 w X B M) (hi:B[j]? = some (rdE sz enc v l)):aV (hp w) sz enc v l:=h.bat hi
theorem St.rdS (h:St w0 w X B M) (hi:M[j]? = some (slE e sz enc v l)):aV (hp w) sz enc v l:=⟨(h.at_ hi:oQ (hp w) e sz v l.length (encs enc l)).rd,(h.at_ hi:oQ (hp w) e sz v l.length (encs enc l)).fit⟩
theorem St.slS (h:St w0 w X B M) (hi:M[j]? = some (slE e sz enc v l)):oQ (hp w) e sz v l.length (encs enc l):=h.at_ hi
theorem aV.le {h:Hp} (hh:aV h sz enc v l):l.length≤maxLen:=hh.1.2.1
theorem aA.dJ {at_:Array TypeId} (he:(at_[0]?).bind (jC P)=some e) (hv:ev L x=some v) (hr:aV (hp w) sz enc v l):aA P n ds L (.call ⟨.builtin .len,#[x],at_⟩) ty w (.int .i64 (l.length:Int)) w:=aA.aGd he hv hr.1
theorem aA.ixE (he:jC P t=some e) (hs:dB P e=some sz) (hx:ev L x=some v) (hy:ev L y=some (.int k p)) (hr:aV (hp w) sz enc v l) (hi:idx l p=some x0):aA P n ds L (.indexAddr t x y) ty w (ix v (p.toNat*sz)) w:=by
  obtain ⟨h1,h2,h3⟩:=uL hi
  exact aA.ixV he hs hx hy hr.1 h1 h2 rfl
theorem aA.aHJ {f off q:Nat} (hF:l7 P t f=some off) (hx:ev L x=some (ix v c)) (hr:aV (hp w) sz enc v l) (hi:idx l p=some x0) (hq:c+off=q):aA P n ds L (.fieldAddr t x f) ty w (ix v q) w:=by
  obtain ⟨h1,h2,h3⟩:=uL hi
  exact aA.ixF hF hx hr.1 (by omega) hq
theorem aA.fq (ha:mo P t=some false) (henc:∀ x,(enc x).length=sz) (hx:ev L x=some (ix v (p.toNat*sz+o))) (hr:aV (hp w) sz enc v l) (hi:idx l p=some x0) (ho:Nat.blt o sz=true) (hv:(enc x0)[o]? = some u):aA P n ds L (.load t x) ty w u w:=by
  obtain ⟨h1,h2,h3⟩:=uL hi
  exact aA.ld1 ha hx hr.1 (by rw [sG henc h3 (by simpa using ho)]; exact hv)
theorem aA.aAk {us:List Value} (ha:mo P t=some true) (hs:dB P t=some q) (hq:Nat.blt 0 q=true) (henc:∀ x,(enc x).length=sz) (hx:ev L x=some (ix v (p.toNat*sz+o))) (hr:aV (hp w) sz enc v l) (hi:idx l p=some x0) (ho:Nat.ble (o+q) sz=true) (hl:us.length=q) (hv:((enc x0).drop o).take q=us):aA P n ds L (.load t x) ty w (.agg us.toArray) w:=by
  obtain ⟨h1,h2,h3⟩:=uL hi
  have ho:=Nat.le_of_ble_eq_true ho
  refine aA.ldN ha hs hq hx hr.1 hl (fun k u hu=>?_)
  subst hv
  rw [List.getElem?_take] at hu
  split at hu
  · rw [List.getElem?_drop] at hu
    rw [Nat.add_assoc,sG henc h3 (by omega)]; exact hu
  · cases hu
theorem O.qC {y0:T} {l':List T} (hf:Fr a n ds L) (hS:St w0 w X B M) (ho:ops[i]? = some ⟨none,.store t x y,ty,pos,af,none⟩) (hx:ev L x=some (ix v (p.toNat*sz+o))) (hy:ev L y=some u)
    (hs:dB P t=some q) (hq:u.cells.size=q) (h1:bV u.cells.toList=true) (hM:M[j]? = some (slE e sz enc v l)) (henc:∀ x,(enc x).length=sz) (hi:idx l p=some x0) (hle:Nat.ble (o+q) sz=true)
    (hy0:enc y0=spl (enc x0) o u.cells.toList) (hl':l.set p.toNat y0=l') (hM':M.set j (slE e sz enc v l')=M')
    (k:∀ w',St w0 w' X B M'→O r P ops Q rest a w'):O r P ops Q (i::rest) a w:=by
  subst hl' hM'
  obtain ⟨g1,g2,g3⟩:=uL hi
  have hle:=Nat.le_of_ble_eq_true hle
  have hsl:=hS.slS hM
  have hlen:=hsl.1
  have hN:0<l.length:=by omega
  obtain ⟨g,cap,rfl⟩:=hsl.form hN
  obtain ⟨cur,_,hg,hcs,htk,hcap,hmx⟩:=hsl.block
  have hcap':l.length*sz≤cap*sz:=Nat.mul_le_mul_right _ hcap
  have hjs:p.toNat*sz+sz≤l.length*sz:=by
    have:(p.toNat+1)*sz≤l.length*sz:=Nat.mul_le_mul_right _ g2
    rw [Nat.add_mul] at this; omega
  have hx':ev L x=some (.pointer (some ⟨g,p.toNat*sz+o,none⟩)):=by simpa only [ix,Option.map_some,gX,Nat.zero_add] using hx
  refine O.unit (w':=tT w g (.cells (wr cur (p.toNat*sz+o) u.cells.toList) e (0,0))) hf ho rfl ?_ (k _ ?_)
  · intro a d pos af g' hf
    simp only [execOp,hf.eval hx',hf.eval hy]
    refine aEA ?_
    have hrs:=xJ (P:=P) (b:=g) (o:=p.toNat*sz+o) (e:=e) (v:=u) (c:=cur) (w:=w) hs hq hg (by omega) h1
    simp only [Instr.storeAt,Instr.sureAddr,Sem.run_bind,Sem.run_pure,Result.andThen,hrs]
  · refine hS.write hM rfl rfl rfl (by rw [rG]; exact Nat.le_refl _) (fun b _ hb=>zU (fun e=>hb (by subst e; rfl))) ?_ (fun b hb=>⟨.inl hb,?_⟩)
    · refine ⟨by rw [ig henc],.inr ⟨g,cap,_,by rw [List.length_set],xR hg,by rw [List.length_set]; exact hcap,hmx,by rw [zX]; exact hcs,?_⟩⟩
      rw [← aD1 henc g3 (by rw [Array.length_toList,hq]; exact hle) hy0,List.length_set]
      apply List.ext_getElem?
      intro s
      have hul:u.cells.toList.length=q:=by rw [Array.length_toList,hq]
      rw [yK (by rw [ig henc,hul]; omega),← htk,List.getElem?_take,Array.getElem?_toList,wL,List.getElem?_take,Array.getElem?_toList]
      by_cases h5:p.toNat*sz+o≤s∧s<p.toNat*sz+o+u.cells.toList.length
      · rw [if_pos (by omega),if_pos (by omega),if_pos h5]
      · rw [if_neg h5]
        split
        · rw [if_neg (by omega),Array.getElem?_toList]
        · rfl
    · rw [rG]
      have hb:some g=some b:=hb
      injection hb with hb
      subst hb
      exact (Array.getElem?_eq_some_iff.1 hg).1
theorem aBD {a b:List Value} (h1:bV a=true) (h2:bV b=true):bV (a++b)=true:=by
  induction a with
  | nil=>exact h2
  | cons x t ih =>
    obtain ⟨h3,h4⟩:=u7 h1
    exact aB h3 (ih h4)
theorem sW (h:∀ x,bV (enc x)=true):∀ l:List T,bV (encs enc l)=true
  | []=>rfl
  | x::t=>by
    have ih:=sW h t
    simp only [encs] at ih
    simp only [encs,List.flatMap_cons]
    exact aBD (h x) ih
theorem O.pW {by_ N c bo jj:Nat} {l':List T} {zz:Nat × Nat} (hf:Fr a n ds L) (hS:St w0 w X B M) (ho:ops[i]? = some ⟨some d,.call ⟨.builtin .append,#[x,y],#[t,t]⟩,ty,pos,af,none⟩) (hd:Nat.blt d n=true)
    (he:jC P t=some e) (hs:dB P e=some sz) (hby:pu P e=some by_) (hz:iQ P e=some z) (hzs:z.cells.size=sz) (h0:Nat.blt 0 sz=true) (hx:ev L x=some v) (hy:ev L y=some (.slice (some ⟨bo,0,none⟩) N c))
    (hM:M[j]? = some (slE e sz enc v l)) (hMs:M[jj]? = some (pt bo (.cells cs e zz))) (hl:cs.size=N*sz) (h1:bV cs.toList=true) (hcs:encs enc m=cs.toList) (hN:m.length=N) (hmax:(l.length:Int)≤4294967296) (hNb:Nat.ble N 1000=true) (hb:Nat.ble by_ 32000=true) (hl':l++m=l')
    (k:∀ v' w' a',St w0 w' X B (M.set j (slE e sz enc v' l'))→Fr a' n ds ((d,v')::L)→O r P ops Q rest a' w'):O r P ops Q (i::rest) a w:=by
  have hNb:=Nat.le_of_ble_eq_true hNb
  have hb:=Nat.le_of_ble_eq_true hb
  have h9:(l.length+N)*by_≤140737488355328:=by
    refine Nat.le_trans (Nat.mul_le_mul (show l.length+N≤4294968296 by omega) hb) ?_
    decide
  refine O.aCn (j:=j) (jj:=jj) hf hS ho hd he hs hby hz hzs h0 hx hy hM hMs hl h1 (by unfold maxLen; omega) h9 (fun v' w' a' hS' hf'=>k v' w' a' ?_ hf')
  subst hl'
  have e1:slE e sz enc v' (l++m)=sl e sz v' (l.length+N) (encs enc l++cs.toList):=by
    unfold slE; rw [vz,hcs,List.length_append,hN]
  rw [e1]; exact hS'
theorem O.wB {by_:Nat} {l':List T} (hf:Fr a n ds L) (hS:St w0 w X B M) (ho:ops[i]? = some ⟨some d,.call ⟨.builtin .append,#[x,y],#[t,t]⟩,ty,pos,af,none⟩) (hd:Nat.blt d n=true)
    (he:jC P t=some e) (hs:dB P e=some sz) (hby:pu P e=some by_) (hz:iQ P e=some z) (hzs:z.cells.size=sz) (h0:Nat.blt 0 sz=true) (hx:ev L x=some v) (hy:ev L y=some u)
    (hM:M[j]? = some (slE e sz enc v l)) (hr:aV (hp w) sz enc u m) (h1:∀ x,bV (enc x)=true) (hmax:(l.length:Int)≤4294967296) (hmax2:(m.length:Int)≤4294967296) (hb:Nat.ble by_ 16000=true) (hl':l++m=l')
    (k:∀ v' w' a',St w0 w' X B (M.set j (slE e sz enc v' l'))→Fr a' n ds ((d,v')::L)→O r P ops Q rest a' w'):O r P ops Q (i::rest) a w:=by
  have hb:=Nat.le_of_ble_eq_true hb
  have h9:(l.length+m.length)*by_≤140737488355328:=by
    refine Nat.le_trans (Nat.mul_le_mul (show l.length+m.length≤8589934592 by omega) hb) ?_
    decide
  refine O.aA9 (j:=j) hf hS ho hd he hs hby hz hzs h0 hx hy hM hr.1 (sW h1 m) (by unfold maxLen; omega) h9 (fun v' w' a' hS' hf'=>k v' w' a' ?_ hf')
  subst hl'
  have e1:slE e sz enc v' (l++m)=sl e sz v' (l.length+m.length) (encs enc l++encs enc m):=by
    unfold slE; rw [vz,List.length_append]
  rw [e1]; exact hS'
theorem St.dF (h:St w0 w X B M) (e sz:Nat) (enc:T→List Value):St w0 w X B (slE e sz enc (.slice none 0 0) []::M):=h.aDj e sz
theorem St.ptE {xs:List T} {N:Nat} (hS:St w0 w X B M) (hi:M[j]? = some (pt b (.cells cs e (0,0)))) (hn:Nat.ble N 1000=true) (hN:xs.length=N) (hc:cs.size=N*sz) (hx:cs.toList=encs enc xs) (hM:M.set j (slE e sz enc (.slice (some ⟨b,0,none⟩) N N) xs)=M'):St w0 w X B M':=by
  have hn:=Nat.le_of_ble_eq_true hn
  refine hS.aGr (n:=N) (sz:=sz) (xs:=encs enc xs) hi (by unfold maxLen; omega) hc hx ?_
  rw [← hM]; unfold slE; rw [hN]
theorem O.xW {by_:Nat} {k1 k2:IntKind} {p:Int} {x0:T} (hf:Fr a n ds L) (hS:St w0 w X B M) (ho:ops[i]? = some ⟨some d,.makeSlice t x y,ty,pos,af,none⟩) (hd:Nat.blt d n=true)
    (he:jC P t=some e) (hs:dB P e=some sz) (hby:pu P e=some by_) (hz:iQ P e=some z) (h0:Nat.blt 0 sz=true) (hx:ev L x=some (.int k1 p)) (hy:ev L y=some (.int k2 p)) (hp:0≤p∧p≤4294967296) (hb:Nat.ble by_ 32000=true) (henc:∀ x,(enc x).length=sz) (hz0:z.cells.toList=enc x0)
    (k:∀ v w' a',St w0 w' X B (slE e sz enc v (List.replicate p.toNat x0)::M)→Fr a' n ds ((d,v)::L)→O r P ops Q rest a' w'):O r P ops Q (i::rest) a w:=by
  have hb:=Nat.le_of_ble_eq_true hb
  have hpN:p=(p.toNat:Int):=by omega
  have h9:by_*p.toNat≤140737488355328:=by
    refine Nat.le_trans (Nat.mul_le_mul hb (show p.toNat≤4294967296 by omega)) ?_
    decide
  rw [hpN] at hx hy
  refine O.make (N:=p.toNat) hf hS ho hd he hs hby hz hx hy (by unfold maxLen; omega) h9 (fun b w' a' _ hS' hf'=>k (.slice (some ⟨b,0,none⟩) p.toNat p.toNat) w' a' ?_ hf')
  have e1:slE e sz enc (.slice (some ⟨b,0,none⟩) p.toNat p.toNat) (List.replicate p.toNat x0)=sl e sz (.slice (some ⟨b,0,none⟩) p.toNat p.toNat) p.toNat (madeCells z.cells (p.toNat*sz)).toList:=by
    unfold slE; rw [yY (by simpa using h0) henc hz0,List.length_replicate]
  rw [e1]; exact hS'
end
end Go.SL

namespace Go.SL
open Go
section
variable {T:Type} {enc:T→List Value} {sz:Nat} {l:List T} {h:Hp} {v:Value} {w:World} {b:Nat} {o:Obj} {p:Asr} {B M:List Asr}
theorem fw (hr:aV h sz enc v l):v.cells=#[v]:=(sI.cells hr.1).1
theorem aN (hr:aV h sz enc v l):bV [v]=true:=(sI.cells hr.1).2
theorem yw:aV h sz enc (.slice none 0 0) ([]:List T):=⟨⟨by simp [encs],Nat.zero_le _,none,0,rfl,fun h=>absurd h (Nat.lt_irrefl 0)⟩,Nat.le_refl 0⟩
abbrev Lent (w:World) (p:Asr):Prop:=p.holds (hp w)∧∀ b,p.fp b→b<w.heap.size
theorem aY (hr:aV (hp w) sz enc v l):Lent w (rdE sz enc v l):=⟨hr,fun b hb=>sI.lt hr.1 hb.1 hb.2⟩
theorem vM (hb:w.heap[b]? = some o):Lent w (pt b o):=⟨hb,fun k hk=>by
  have hk:k=b:=hk
  subst hk; exact (Array.getElem?_eq_some_iff.1 hb).1⟩
theorem aL:∀ p ∈ ([]:List Asr),Lent w p:=by simp
theorem aD (h1:Lent w p) (h2:∀ p ∈ B,Lent w p):∀ q ∈ p::B,Lent w q:=fun q hq=>by
  rcases List.mem_cons.1 hq with rfl | hq
  · exact h1
  · exact h2 q hq
theorem St.aFv (hb:w.heap[b]? = some o) (hB:∀ p ∈ B,Lent w p) (ha:∀ p ∈ B,∀ k,p.fp k→k≠b):St w w (fun k=>k=b) B [pt b o] :=
  ⟨rfl,rfl,rfl,Nat.le_refl _,fun _ _ _=>rfl,⟨⟨hb,fun k hk=>⟨by
    have hk:k=b:=hk
    subst hk; exact (Array.getElem?_eq_some_iff.1 hb).1,.inl hk⟩,by simp⟩,trivial⟩,fun p hp=>⟨(hB p hp).1,fun k hk=>⟨(hB p hp).2 k hk,ha p hp k hk⟩⟩⟩
variable {w0:World} {X:Nat→Prop} {B' M':List Asr}
theorem St.aHA (hS:St w0 w X B M) (is:List Nat) (h:(is.map (fun i=>B[i]?))=B'.map some):St w0 w X B' M:=by
  refine ⟨hS.os,hS.tape,hS.output,hS.size,hS.old,hS.sep,fun p hp=>?_⟩
  have h1:some p ∈ B'.map some:=List.mem_map.2 ⟨p,hp,rfl⟩
  rw [← h] at h1
  obtain ⟨i,_,hi⟩:=List.mem_map.1 h1
  exact hS.bor p (List.mem_of_getElem? hi)
end
section
variable {T:Type} {enc:T→List Value} {sz:Nat} {l:List T} {x0:T}
variable {P:Program} {w:World} {n:Nat} {ds:List Deferred} {L:List (Nat × Value)} {ty t t' e:TypeId} {x y:Operand} {u v:Value} {b o m q:Nat} {cs cs':Array Value} {k:IntKind} {p p':Int} {b1 b2:Bool}
def tFld (P:Program) (t:TypeId) (f:Nat):Option (TypeId × Nat) :=
  match P.underlying t with
  | some (.struct fs)=>(fs[f]?).map fun g=>(g.type,g.offset)
  | _=>none
def bitand (k:IntKind) (x y:Int):Int:=k.wrap ((BitVec.ofInt k.bits x&&&BitVec.ofInt k.bits y).toNat:Int)
def bitor (k:IntKind) (x y:Int):Int:=k.wrap ((BitVec.ofInt k.bits x|||BitVec.ofInt k.bits y).toNat:Int)
def bitxor (k:IntKind) (x y:Int):Int:=k.wrap ((BitVec.ofInt k.bits x ^^^ BitVec.ofInt k.bits y).toNat:Int)
def aA5 (k:IntKind) (x y:Int):Int:=k.wrap ((BitVec.ofInt k.bits x&&&~~~(BitVec.ofInt k.bits y)).toNat:Int)
theorem aA.bitand (hx:ev L x=some (.int k p)) (hy:ev L y=some (.int k p')):aA P n ds L (.binOp .and t x y t') ty w (.int k (bitand k p p')) w:=aA.bits rfl hx hy rfl
theorem aA.bitor (hx:ev L x=some (.int k p)) (hy:ev L y=some (.int k p')):aA P n ds L (.binOp .or t x y t') ty w (.int k (bitor k p p')) w:=aA.bits rfl hx hy rfl
theorem aA.bitxor (hx:ev L x=some (.int k p)) (hy:ev L y=some (.int k p')):aA P n ds L (.binOp .xor t x y t') ty w (.int k (bitxor k p p')) w:=aA.bits rfl hx hy rfl
theorem aA.aA5 (hx:ev L x=some (.int k p)) (hy:ev L y=some (.int k p')):aA P n ds L (.binOp .andNot t x y t') ty w (.int k (aA5 k p p')) w:=aA.bits rfl hx hy rfl
def EqR (P:Program) (d:Nat) (t:TypeId) (x y:Value) (r:Bool):Prop:=∀ w,(Op.equalIn d t x y).run P w=.ok r w
def nM (P:Program) (t:TypeId) (xs:Array Value) (off:Nat) (v:Value):Prop:=∀ w,(part t xs off).run P w=.ok v w
def EqF (P:Program) (d:Nat) (xs ys:Array Value) (fs:List Field) (r:Bool):Prop:=∀ w,(Op.eqFields d xs ys fs).run P w=.ok r w
def EqI (P:Program) (d:Nat) (e:TypeId) (c:Nat) (xs ys:Array Value) (is:List Nat) (r:Bool):Prop:=∀ w,(Op.eqItems d e c xs ys is).run P w=.ok r w
theorem EqR.int {d:Nat} (ht:xD P t=some k):EqR P (d+1) t (.int k p) (.int k p') (p == p'):=fun w=>by
  simp [Op.equalIn,run_underlying (aBX ht)]
theorem EqR.bool {d:Nat} (ht:P.underlying t=some .bool):EqR P (d+1) t (.bool b1) (.bool b2) (b1 == b2):=fun w=>by
  simp [Op.equalIn,run_underlying ht]
theorem EqR.str {d:Nat} {s1 s2:ByteArray} (ht:P.underlying t=some .string):EqR P (d+1) t (.string s1) (.string s2) (s1 == s2):=fun w=>by
  simp [Op.equalIn,run_underlying ht]
theorem nM.one (ha:mo P t=some false) (hv:cs[o]? = some v):nM P t cs o v:=fun w=>by
  simp only [part,Sem.run_bind,wN ha,Result.andThen,Bool.false_eq_true,if_false,hv,Sem.run_pure]
theorem nM.agg (ha:mo P t=some true) (hs:dB P t=some m) (hv:cs.extract o (o+m)=cs'):nM P t cs o (.agg cs'):=fun w=>by
  simp only [part,Sem.run_bind,wN ha,Result.andThen,if_true,run_sizeOf hs,hv,Sem.run_pure]
def EqL (P:Program) (d:Nat) (xs ys:Array Value):List (TypeId × Nat)→Bool→Prop
  | [],r=>r=true
  | (t,o)::l,r=>∃ x y b1 b2,nM P t xs o x∧nM P t ys o y∧EqR P d t x y b1∧EqL P d xs ys l b2∧r=(b1&&b2)
theorem EqL.nil {d:Nat} {xs ys:Array Value}:EqL P d xs ys [] true:=rfl
theorem EqL.cons {d:Nat} {xs ys:Array Value} {l:List (TypeId × Nat)} {x y:Value} (hx:nM P t xs o x) (hy:nM P t ys o y) (h1:EqR P d t x y b1) (h2:EqL P d xs ys l b2):EqL P d xs ys ((t,o)::l) (b1&&b2):=⟨x,y,b1,b2,hx,hy,h1,h2,rfl⟩
theorem EqF.of {d:Nat} {xs ys:Array Value}:∀ {fs:List Field} {r:Bool},fs.all (fun f=>f.name != "_")=true→EqL P d xs ys (fs.map fun f=>(f.type,f.offset)) r→EqF P d xs ys fs r
  | [],r,_,h=>fun w=>by
    have h:r=true:=h
    subst h; simp [Op.eqFields]
  | f::fs,r,hn,h=>fun w=>by
    simp only [List.all_cons,Bool.and_eq_true,bne_iff_ne] at hn
    obtain ⟨x,y,c1,c2,hx,hy,h1,h2,rfl⟩:=h
    have h3:=EqF.of hn.2 h2
    simp only [Op.eqFields,hn.1,ne_eq,not_false_eq_true,if_true,Sem.run_bind,hx w,hy w,h1 w,Result.andThen_ok]
    cases c1
    · simp
    · simpa using h3 w
def tFs (P:Program) (t:TypeId):Option (List (TypeId × Nat)) :=
  match P.underlying t with
  | some (.struct fs)=>if (fs.toList.all (fun f=>f.name != "_")&&!P.stoodInHeld t)=true then some (fs.toList.map fun f=>(f.type,f.offset)) else none
  | _=>none
theorem EqI.nil {d c:Nat} {xs ys:Array Value}:EqI P d e c xs ys [] true:=fun w=>by simp [Op.eqItems]
theorem EqI.cons {d c i:Nat} {is:List Nat} {xs ys:Array Value} {x y:Value} (hx:nM P e xs (i*c) x) (hy:nM P e ys (i*c) y) (h1:EqR P d e x y b1) (h2:EqI P d e c xs ys is b2):EqI P d e c xs ys (i::is) (b1&&b2):=fun w=>by
  simp only [Op.eqItems,Sem.run_bind,hx w,hy w,h1 w,Result.andThen_ok]
  cases b1
  · simp
  · simpa using h2 w
theorem EqR.struct {d:Nat} {xs ys:Array Value} {l:List (TypeId × Nat)} (hu:tFs P t=some l) (h:EqL P d xs ys l b1):EqR P (d+1) t (.agg xs) (.agg ys) b1:=fun w=>by
  unfold tFs at hu
  split at hu
  · rename_i fs hfs
    split at hu
    · rename_i hc
      simp only [Bool.and_eq_true,Bool.not_eq_true'] at hc
      simp only [Option.some.injEq] at hu
      subst hu
      have e:P.fieldsOf t=fs:=by simp [Program.fieldsOf,hfs]
      rw [run_equalIn_struct w d t xs ys (by rw [e]; exact hfs) hc.2,e]
      exact EqF.of hc.1 h w
    · cases hu
  · cases hu
theorem EqR.arr {d c:Nat} {xs ys:Array Value} (ha:aAN P t=some (m,e)) (hc:P.cellsOf e=c) (hi:(P.info? e).isSome=true) (h:EqI P d e c xs ys (List.range m) b1):EqR P (d+1) t (.agg xs) (.agg ys) b1:=fun w=>by
  obtain ⟨i,hi⟩:=Option.isSome_iff_exists.1 hi
  subst hc
  rw [run_equalIn_array w d xs ys (zT ha) hi]; exact h w
theorem aA.aFw {d:Nat} (hd:d+9990=10000) (hg:P.eqGuardType P.depth t=false) (hx:ev L x=some (.agg cs)) (hy:ev L y=some (.agg cs')) (h:EqR P 10000 t (.agg cs) (.agg cs') b1):aA P n ds L (.binOp .neq t x y t') ty w (.bool (!b1)) w:=fun a d pos af g hf=>by
  simp only [execOp,hf.eval hx,hf.eval hy]
  have e1:(eqGuard .neq t x y (.agg cs) (.agg cs')).run P w=.ok () w:=by
    simp [eqGuard,run_program,hg]
  have e2:(binOp .neq t (.agg cs) (.agg cs')).run P w=.ok (.bool (!b1)) w:=by
    have:=h w
    simp [binOp,Op.equal,Op.maxDepth,Sem.run_bind,this]
  simp only [Sem.run_bind,e1,e2,Result.andThen_ok,Sem.run_pure]
theorem aA.aB9 (ht:P.underlying t=some .bool) (hx:ev L x=some (.bool b1)) (hy:ev L y=some (.bool b2)):aA P n ds L (.binOp .eql t x y t') ty w (.bool (b1 == b2)) w:=fun a d pos af g hf=>by
  simp only [execOp,hf.eval hx,hf.eval hy]
  have e1:(eqGuard .eql t x y (.bool b1) (.bool b2)).run P w=.ok () w:=by simp [eqGuard]
  have e2:(binOp .eql t (.bool b1) (.bool b2)).run P w=.ok (.bool (b1 == b2)) w:=by
    have:=(EqR.bool (d:=9999) ht:EqR P 10000 t (.bool b1) (.bool b2) (b1 == b2)) w
    simp only [binOp,Op.equal,Op.maxDepth,Sem.run_bind,this,Result.andThen_ok,Sem.run_pure]
  simp only [Sem.run_bind,e1,e2,Result.andThen_ok,Sem.run_pure]
theorem aA.w9 (ht:P.underlying t=some .bool) (hx:ev L x=some (.bool b1)) (hy:ev L y=some (.bool b2)):aA P n ds L (.binOp .neq t x y t') ty w (.bool (!(b1 == b2))) w:=fun a d pos af g hf=>by
  simp only [execOp,hf.eval hx,hf.eval hy]
  have e1:(eqGuard .neq t x y (.bool b1) (.bool b2)).run P w=.ok () w:=by simp [eqGuard]
  have e2:(binOp .neq t (.bool b1) (.bool b2)).run P w=.ok (.bool (!(b1 == b2))) w:=by
    have:=(EqR.bool (d:=9999) ht:EqR P 10000 t (.bool b1) (.bool b2) (b1 == b2)) w
    simp only [binOp,Op.equal,Op.maxDepth,Sem.run_bind,this,Result.andThen_ok,Sem.run_pure]
  simp only [Sem.run_bind,e1,e2,Result.andThen_ok,Sem.run_pure]
end
end Go.SL

namespace Go.SL
open Go
section
variable {r:Option Nat} {P:Program} {ops:Array Oper} {Q:Exit→Act→World→Prop} {a:Act} {w:World} {n:Nat} {ds:List Deferred} {γ:Type}
def upd (s:Nat→Bool) (i:Nat):Nat→Bool:=fun j=>match Nat.beq j i with
  | true=>true
  | false=>s j
def seen (mk:List Nat) (listed:Array Bool):Nat→Bool:=fun j=>mk.contains j&&listed.getD j false
structure Dp (ops:Array Oper) (n:Nat) (ds:List Deferred) (L0:List (Nat × Value)) (L1:List (Nat × Value)) (val:γ→Nat→Value) (mk:List Nat) (D:(Nat→Bool)→γ→World→Prop) (listed:Array Bool) (a:Act) (w:World) (g:γ):Prop where
  fr:Fr a n ds L0
  olds:∀ q v,lk L1 q=some v→(∀ j,jM ops j=some q→listed.getD j false=false)→a.tmps[q]? = some v
  slot:∀ j d,listed.getD j false=true→jM ops j=some d→a.tmps[d]? = some (val g j)
  cl:∀ j o,listed.getD j false=true→ops[j]? = some o→∀ p ∈ preds o,listed.getD p false=true
  D:D (seen mk listed) g w
  size:listed.size=ops.size
def aCg (ops:Array Oper) (L1:List (Nat × Value)) (i:Nat) (q:Nat):Bool :=
  (uI L1).contains q&&(List.range ops.size).all fun j=>match jM ops j with
    | some d=>!Nat.beq d q||Nat.beq j i||((wo ops).getD j []).contains i
    | none=>true
def wT (L1:List (Nat × Value)):List Nat→List (Nat × Value)→List (Nat × Value)
  | [],L=>L
  | q::t,L=>match lk L1 q with
    | some v=>(q,v)::wT L1 t L
    | none=>wT L1 t L
theorem aD4 {L0 L1:List (Nat × Value)} (hf:Fr a n ds L0):∀ {l:List Nat},(∀ q ∈ l,∀ v,lk L1 q=some v→a.tmps[q]? = some v)→Fr a n ds (wT L1 l L0)
  | [],_=>hf
  | q::t,h=>by
    have ih:=aD4 hf (l:=t) (fun j' hj'=>h j' (by simp [hj']))
    simp only [wT]
    cases hd:lk L1 q with
    | none=>exact ih
    | some d =>
      refine ⟨ih.size,ih.defers,fun k v hk=>?_⟩
      simp only [lk] at hk
      cases hb:Nat.beq q k with
      | true =>
        rw [hb] at hk
        have:=Nat.eq_of_beq_eq_true hb
        subst this
        simp only [Option.some.injEq] at hk
        subst hk
        exact h q (by simp) d hd
      | false=>rw [hb] at hk; exact ih.get k v hk
theorem W.aG7 {id:Nat} {L0 L1:List (Nat × Value)} (g0:γ) (mk qs:List Nat) (pl ml bl al ol:Nat→List Nat) (val:γ→Nat→Value) (D:(Nat→Bool)→γ→World→Prop)
    (hmo:P.follows .mixedOrders=true)
    (hchk:(aEY ops&&ops.all (fun o=>jA o.op)&&wJ ops (uI L0)&&(List.range ops.size).all (fun i=>(qs.contains i||mk.contains i)&&(pl i).all (fun p=>(qy ops i).contains p)&&(ml i).all (fun p=>((wo ops).getD i []).contains p&&mk.contains p)&&(bl i).all (fun j=>((wo ops).getD j []).contains i)&&(ol i).all (aCg ops L1 i))&&mk.all (fun i=>Nat.blt i ops.size)
      && vBm ops (wo ops)&&mk.all (fun i=>(al i).all fun j=>((wo ops).getD j []).contains i)&&qs.all (fun i=>!mk.contains i))=true)
    (hf:Fr a n ds L0) (hf1:Fr a n ds L1) (h0:D (fun _=>false) g0 w.drew)
    (hq:Obl (fun i=>∀ s g w,(∀ p ∈ ml i,s p=true)→(∀ j ∈ bl i,s j=false)→D s g w→∀ a,Fr a n ds (slotsOf ops (val g) (pl i) (wT L1 (ol i) L0))→O r P ops (fun e a' w'=>e=.normal∧Fr a' n ds []∧(∀ d,jM ops i=some d→a'.tmps[d]? = some (val g i))∧D s g w') [i] a w) qs)
    (hm:Obl (fun i=>∀ s g w,s i=false→(∀ p ∈ ml i,s p=true)→(∀ j ∈ bl i,s j=false)→D s g w→∀ a,Fr a n ds (slotsOf ops (val g) (pl i) (wT L1 (ol i) L0))→O r P ops (fun e a' w'=>e=.normal∧∃ g',Fr a' n ds []∧(∀ d,jM ops i=some d→a'.tmps[d]? = some (val g' i))∧(∀ j,j≠i→(al i).contains j=false→val g' j=val g j)∧D (upd s i) g' w') [i] a w) mk)
    (hend:∀ s g a w,(∀ i ∈ mk,s i=true)→Fr a n ds (slotsOf ops (val g) (List.range ops.size) L0)→D s g w→Q .normal a w):W r P (.region id ops true) Q a w:=by
  simp only [Bool.and_eq_true] at hchk
  obtain ⟨⟨⟨⟨⟨⟨⟨hord,hnd⟩,hdist⟩,hcov⟩,hmk⟩,hvb⟩,hal⟩,hqm⟩:=hchk
  refine wpIn_region_any hmo ?_
  have hap:∀ i j d,i<ops.size→j<ops.size→i≠j→jM ops i=some d→jM ops j≠some d:=by
    intro i j d hi hj hij hdi hdj
    have key:∀ i j,i<ops.size→j<i→jM ops i=some d→jM ops j=some d→False:=fun i j hi hji h1 h2=>by
      have h:=List.all_eq_true.1 hdist i (by simpa using hi)
      simp only [h1,Bool.and_eq_true] at h
      have h:=List.all_eq_true.1 h.2 j (by simpa using hji)
      simp [h2,Nat.beq_refl] at h
    rcases Nat.lt_or_gt_of_ne hij with h | h
    · exact key j i hj h hdj hdi
    · exact key i j hi h hdi hdj
  have hbase:∀ i d v,i<ops.size→jM ops i=some d→lk L0 d≠some v:=fun i d v hi hd hl=>by
    have h:=List.all_eq_true.1 hdist i (by simpa using hi)
    simp only [hd,Bool.and_eq_true] at h
    have:=aDo hl
    simp [this] at h
  have key:∀ (fuel:Nat) (listed:Array Bool) (a:Act) (w:World) (g:γ),fuel+listed.toList.count true=ops.size→Dp ops n ds L0 L1 val mk D listed a w g →
      wpAnyIn (FW r) 0 P .any ops Q fuel listed a w:=by
    intro fuel
    induction fuel with
    | zero =>
      intro listed a w g hc hd
      have hall:∀ i,i<ops.size→listed.getD i true=true:=by
        intro i hi
        have hcl:listed.toList.count true=listed.toList.length:=by
          have:listed.toList.length=ops.size:=by simpa using hd.size
          omega
        have:=List.count_eq_length.1 hcl
        have hi':i<listed.size:=by rw [hd.size]; exact hi
        have:=this listed[i] (by simp)
        simp [hi',← this]
      have hall':∀ i,i<ops.size→listed.getD i false=true:=fun i hi=>by
        have:=hall i hi
        have hi':i<listed.size:=by rw [hd.size]; exact hi
        simpa [hi'] using this
      refine ⟨?_,hend _ g a w (fun i hi=>?_) (aAO hd.fr fun j hj d hdd=>hd.slot j d (hall' j (by simpa using hj)) hdd) hd.D⟩
      · apply List.eq_nil_iff_forall_not_mem.2
        intro i hi
        have h1:=mem_ready.1 hi
        obtain ⟨h1,o,ho,_⟩:=h1
        rw [hall i (Array.getElem?_eq_some_iff.1 ho).1] at h1
        cases h1
      · have hb:=List.all_eq_true.1 hmk i hi
        simp only [seen,Bool.and_eq_true,List.contains_iff_mem]
        exact ⟨hi,hall' i (by simpa using hb)⟩
    | succ fuel ih =>
      intro listed a w g hc hd
      have hex:∃ i,i<ops.size∧listed.getD i true=false:=by
        apply Classical.byContradiction
        intro hno
        have hcl:listed.toList.count true=listed.toList.length:=by
          refine List.count_eq_length.2 fun b hb=>?_
          obtain ⟨i,hi,rfl⟩:=List.mem_iff_getElem.1 hb
          have hi':i<listed.size:=by simpa using hi
          cases hbv:listed[i] with
          | true=>simp [hbv]
          | false=>exact absurd ⟨i,by rw [← hd.size]; exact hi',by simp [hi',hbv]⟩ hno
        have:listed.toList.length=ops.size:=by simpa using hd.size
        omega
      refine ⟨fun h=>?_,fun i hi=>?_⟩
      · obtain ⟨i,hi⟩:=aBE hord hd.size hex
        rw [h] at hi; cases hi
      obtain ⟨hun,o,ho,hall⟩:=mem_ready.1 hi
      have his:i<ops.size:=(Array.getElem?_eq_some_iff.1 ho).1
      have hil:i<listed.size:=by rw [hd.size]; exact his
      have hun':listed.getD i false=false:=by simpa [hil] using hun
      have hpi:qy ops i=preds o:=by simp [qy,ho]
      have hdo:jM ops i=o.dst:=by simp [jM,ho]
      have hc1:=List.all_eq_true.1 hcov i (by simpa using his)
      simp only [Bool.and_eq_true,Bool.or_eq_true,List.contains_iff_mem] at hc1
      have hprd:∀ p ∈ preds o,listed.getD p false=true:=fun p hp=>by
        obtain ⟨e,h1,h2,h3⟩:=xq hp
        exact h3▸hall e h1 h2
      obtain ⟨⟨⟨⟨hcq,hcp⟩,hcm⟩,hcb⟩,hco⟩:=hc1
      have hbm:∀ q ∈ (wo ops).getD i [],listed.getD q false=true:=fun q hq=>aEB (S:=fun j=>listed.getD j false=true) hvb hord (fun i o h1 h2=>hd.cl i o h1 h2) i o ho hprd q hq
      have hbmn:∀ j,((wo ops).getD j []).contains i=true→listed.getD j false=false:=fun j hj=>by
        cases hbj:listed.getD j false with
        | false=>rfl
        | true =>
          exfalso
          have hjs:j<ops.size:=by
            rcases Nat.lt_or_ge j ops.size with h | h
            · exact h
            · rw [← hd.size] at h; simp [Array.getElem?_eq_none h] at hbj
          have:=aEB (S:=fun j=>listed.getD j false=true) hvb hord (fun i o h1 h2=>hd.cl i o h1 h2) j ops[j] (Array.getElem?_eq_getElem hjs) (hd.cl j _ hbj (Array.getElem?_eq_getElem hjs)) i (by simpa using hj)
          rw [hun'] at this; cases this
      have hold:Fr a n ds (wT L1 (ol i) L0):=aD4 hd.fr fun q hq v hv=>hd.olds q v hv fun j hj=>by
        have h:=List.all_eq_true.1 hco q hq
        simp only [aCg,Bool.and_eq_true] at h
        have hjs:j<ops.size:=by
          rcases Nat.lt_or_ge j ops.size with h' | h'
          · exact h'
          · simp [jM,Array.getElem?_eq_none h'] at hj
        have h:=List.all_eq_true.1 h.2 j (by simpa using hjs)
        simp only [hj,Nat.beq_refl,Bool.not_true,Bool.false_or,Bool.or_eq_true] at h
        rcases h with h | h
        · rw [Nat.eq_of_beq_eq_true h]; exact hun'
        · exact hbmn j h
      have hsp:∀ p ∈ ml i,seen mk listed p=true:=fun p hp=>by
        have h:=List.all_eq_true.1 hcm p hp
        simp only [Bool.and_eq_true,List.contains_iff_mem] at h
        simp only [seen,Bool.and_eq_true,List.contains_iff_mem]
        exact ⟨h.2,hbm p h.1⟩
      have hsb:∀ j ∈ bl i,seen mk listed j=false:=fun j hj=>by
        have h:=List.all_eq_true.1 hcb j hj
        simp only [seen,hbmn j h,Bool.and_false]
      have hfr:Fr a n ds (slotsOf ops (val g) (pl i) (wT L1 (ol i) L0)):=aAO hold fun j hj d hdd=>by
        have:=List.all_eq_true.1 hcp j hj
        rw [hpi] at this
        exact hd.slot j d (hprd j (by simpa using this)) hdd
      have hcnt:fuel+(listed.setIfInBounds i true).toList.count true=ops.size:=by
        rw [Array.toList_setIfInBounds,uP _ _ (by simpa [Array.getD_eq_getD_getElem?,List.getD_eq_getElem?_getD] using hun)]
        omega
      have hback:∀ j,(listed.setIfInBounds i true).getD j false=true→j=i∨listed.getD j false=true:=fun j hj=>by
        by_cases e:i=j
        · exact .inl e.symm
        · rw [getD_set_ne false e] at hj; exact .inr hj
      have hfwd:∀ j,listed.getD j false=true→(listed.setIfInBounds i true).getD j false=true:=fun j hj=>by
        by_cases e:i=j
        · subst e; simp [hil]
        · rw [getD_set_ne false e]; exact hj
      have hcl':∀ j o',(listed.setIfInBounds i true).getD j false=true→ops[j]? = some o'→∀ p ∈ preds o',(listed.setIfInBounds i true).getD p false=true:=fun j o' hj hjo p hp=>by
        rcases hback j hj with rfl | h1
        · rw [ho] at hjo; injection hjo with hjo; subst hjo; exact hfwd p (hprd p hp)
        · exact hfwd p (hd.cl j o' h1 hjo p hp)
      have hfrm:∀ a',Fr a' n ds []→Kept o a a'→Fr a' n ds L0:=fun a' h1 h2=>⟨h1.size,h1.defers,fun q v hq=>by
        rw [h2 q (fun e=>hbase i q v his (hdo.trans e) hq)]; exact hd.fr.get q v hq⟩
      have hslot:∀ a' (g':γ),Kept o a a'→(∀ d,jM ops i=some d→a'.tmps[d]? = some (val g' i))→(∀ j,listed.getD j false=true→val g' j=val g j)→∀ j d,(listed.setIfInBounds i true).getD j false=true→jM ops j=some d→a'.tmps[d]? = some (val g' j):=by
        intro a' g' hk hi' hg j d hj hjd
        rcases hback j hj with rfl | h1
        · exact hi' d hjd
        · have hne:j≠i:=fun e=>by rw [e,hun'] at h1; cases h1
          have hjs:j<ops.size:=by
            rcases Nat.lt_or_ge j ops.size with h | h
            · exact h
            · rw [← hd.size] at h; simp [Array.getElem?_eq_none h] at h1
          rw [hk d (fun e=>hap j i d hjs his hne hjd (hdo.trans e)),hg j h1]
          exact hd.slot j d h1 hjd
      have holds':∀ a',Kept o a a'→∀ q v,lk L1 q=some v→(∀ j,jM ops j=some q→(listed.setIfInBounds i true).getD j false=false)→a'.tmps[q]? = some v:=fun a' hk q v hq hj=>by
        have hne:o.dst≠some q:=fun e=>by
          have:=hj i (hdo.trans e)
          simp [hil] at this
        rw [hk q hne]
        exact hd.olds q v hq fun j hjq=>by
          have h1:=hj j hjq
          cases h2:listed.getD j false with
          | false=>rfl
          | true=>rw [hfwd j h2] at h1; cases h1
      by_cases him:i ∈ mk
      · have hs0:seen mk listed i=false:=by simp only [seen,hun',Bool.and_false]
        refine wpOpIn_mono (fun a' w' hR=>?_) (O.keep ho (Obl.get hm i him _ g w hs0 hsp hsb hd.D a hfr))
        obtain ⟨⟨g',h1,h2,h3,h4⟩,h5⟩:=hR
        refine ih _ a' w' g' hcnt ⟨hfrm a' h1 h5,holds' a' h5,hslot a' g' h5 h2 (fun j hj=>h3 j (fun e=>by rw [e,hun'] at hj; cases hj) ?_),hcl',?_,by simpa using hd.size⟩
        · cases hbj:(al i).contains j with
          | false=>rfl
          | true =>
            exfalso
            have h6:=List.all_eq_true.1 (List.all_eq_true.1 hal i him) j (by simpa using hbj)
            simp only [List.contains_iff_mem] at h6
            have hjs:j<ops.size:=by
              rcases Nat.lt_or_ge j ops.size with h | h
              · exact h
              · rw [← hd.size] at h; simp [Array.getElem?_eq_none h] at hj
            have:=aEB (S:=fun j=>listed.getD j false=true) hvb hord (fun i o h1 h2=>hd.cl i o h1 h2) j ops[j] (Array.getElem?_eq_getElem hjs) (hd.cl j _ hj (Array.getElem?_eq_getElem hjs)) i h6
            rw [hun'] at this; cases this
        · have e1:seen mk (listed.setIfInBounds i true)=upd (seen mk listed) i:=by
            funext j
            unfold upd
            cases hji:Nat.beq j i with
            | true =>
              have:=Nat.eq_of_beq_eq_true hji
              subst this
              simp [seen,him,hil]
            | false =>
              have hne:i≠j:=fun e=>by rw [e] at hji; simp [Nat.beq_refl] at hji
              simp only [seen]
              rw [getD_set_ne false hne]
          rw [e1]; exact h4
      · have hiq:i ∈ qs:=by
          rcases hcq with h | h
          · exact h
          · exact absurd h him
        refine wpOpIn_mono (fun a' w' hR=>?_) (O.keep ho (Obl.get hq i hiq _ g w hsp hsb hd.D a hfr))
        obtain ⟨⟨h1,h2,h3⟩,h5⟩:=hR
        refine ih _ a' w' g hcnt ⟨hfrm a' h1 h5,holds' a' h5,hslot a' g h5 h2 (fun _ _=>rfl),hcl',?_,by simpa using hd.size⟩
        have e1:seen mk (listed.setIfInBounds i true)=seen mk listed:=by
          funext j
          simp only [seen]
          by_cases hji:i=j
          · subst hji; simp [him]
          · rw [getD_set_ne false hji]
        rw [e1]; exact h3
  have e0:seen mk (Array.replicate ops.size false)=fun _=>false:=by
    funext j
    simp only [seen]
    by_cases h:j<ops.size <;> simp [h]
  refine key ops.size (Array.replicate ops.size false) a { w with drawn:=w.drawn+1 } g0 (by simp [List.count_replicate]) ⟨hf,fun q v hq _=>hf1.get q v hq,fun j d hj=>?_,fun j o hj=>?_,by rw [e0]; exact h0,by simp⟩
  · exfalso
    by_cases h:j<ops.size <;> simp [h] at hj
  · exfalso
    by_cases h:j<ops.size <;> simp [h] at hj
end
section
variable {P:Program} {w:World} {n:Nat} {ds:List Deferred} {L:List (Nat × Value)} {ty t:TypeId} {x y z:Operand} {v:Value} {k:IntKind} {p q c:Int}
def sub64Row:Array Value→Sem Value:=fun args=>do
  let (x,y,b) ← Extern.MathBitsCarry.three "Sub64" args
  pure (Extern.MathBitsCarry.pair ((x+Extern.MathBitsCarry.m64-y-b) % Extern.MathBitsCarry.m64) (if x<y+b then 1 else 0))
def sub64d (p q c:Int):Int:=((p.toNat+18446744073709551616-q.toNat-c.toNat) % 18446744073709551616:Nat)
def sub64b (p q c:Int):Int:=(if p.toNat<q.toNat+c.toNat then 1 else 0:Nat)
def add64Row:Array Value→Sem Value:=fun args=>do
  let (x,y,c) ← Extern.MathBitsCarry.three "Add64" args
  pure (Extern.MathBitsCarry.pair ((x+y+c) % Extern.MathBitsCarry.m64) ((x+y+c)/Extern.MathBitsCarry.m64))
def add64s (p q c:Int):Int:=((p.toNat+q.toNat+c.toNat) % 18446744073709551616:Nat)
def add64c (p q c:Int):Int:=((p.toNat+q.toNat+c.toNat)/18446744073709551616:Nat)
def aGm (P:Program) (f:FuncId) (e:Array Value→Sem Value):Prop:=∀ args w v,(e args).run P w=.ok v w→(callFunc f args).run P w=.ok (.value v) w
theorem aA.ext {f:Operand} {fid:FuncId} {e:Array Value→Sem Value} {args:Array Operand} {at_:Array TypeId} {vs:List Value} (hE:aGm P fid e) (hx:ev L f=some (.func (.func fid) #[] #[])) (hv:evA L args.toList=some vs) (he:∀ w,(e vs.toArray).run P w=.ok v w) :
    aA P n ds L (.call ⟨.value f,args,at_⟩) ty w v w:=fun a d pos af g hf=>by
  have hargs:args.map a.eval=vs.toArray:=by apply Array.ext'; rw [Array.toList_map,hf.evA hv]
  have h1:=hE vs.toArray w v (he w)
  simp only [execOp,resolve,Sem.run_bind,Sem.run_pure,Result.andThen,hargs,hf.eval hx,Deferred.ofValue,invoke]
  simpa using h1
def zo (s:ByteArray) (i:Int):Option Int:=if 0≤i then (s[i.toNat]?).map (fun b=>(b.toNat:Int)) else none
theorem aA.aEd {s:ByteArray} {u:Int} (ht:P.underlying t=some .string) (hx:ev L x=some (.string s)) (hy:ev L y=some (.int k p)) (h:zo s p=some u):aA P n ds L (.index t x y) ty w (.int .u8 u) w:=fun a d pos af g hf=>by
  simp only [execOp,hf.eval hx,hf.eval hy]
  refine mU ?_
  unfold zo at h
  split at h
  · rename_i h0
    obtain ⟨b,hb,rfl⟩:=Option.map_eq_some_iff.1 h
    simp only [Instr.index,asIntOf,Sem.run_bind,Sem.run_pure,Result.andThen,run_underlying ht,h0,if_true,hb]
  · cases h
end
abbrev Iv (x:Int):Value:=.int .i64 x
abbrev Uv (x:Int):Value:=.int .u64 x
abbrev Bv (x:Bool):Value:=.bool x
abbrev Pv (b o:Nat):Value:=.pointer (some ⟨b,o,none⟩)
abbrev Cs (c:Array Value) (t:TypeId):Obj:=.cells c t (0,0)
end Go.SL

namespace Go.SL
open Go
def aG5:Asr:=⟨fun _=>False,fun _=>True,fun _ _ _ h=>h⟩
def dz (c:Bool) (p:Asr):Asr:=match c with
  | true=>p
  | false=>aG5
section
variable {r:Option Nat} {P:Program} {ops:Array Oper} {Q:Exit→Act→World→Prop} {a:Act} {w w0:World} {n:Nat} {ds:List Deferred} {γ:Type} {X:Nat→Prop} {B M:List Asr}
theorem St.emp (h:St w0 w X B M):St w0 w X B (aG5::M):=h.aC3 trivial (fun _ h=>h)
theorem O.sM {i d j:Nat} {rest:List Nat} {L:List (Nat × Value)} {t ty:TypeId} {pos:String} {af:Array Edge} {z:Value} {cs:Array Value} {c:Bool} {p:Asr} (hf:Fr a n ds L) (hS:St w0 w X B M) (hj:M[j]? = some (dz c p)) (hc:c=false) (ho:ops[i]? = some ⟨some d,.alloc t,ty,pos,af,none⟩) (hd:Nat.blt d n=true) (hz:iQ P t=some z) (hzc:z.cells=cs)
    (k:∀ b w' a',St w0 w' X B (M.set j (pt b (Cs cs t)))→Fr a' n ds ((d,Pv b 0)::L)→O r P ops Q rest a' w'):O r P ops Q (i::rest) a w:=by
  refine O.alloc hf hS ho hd hz hzc (fun b w' a' hb hS' hf'=>k b w' a' ?_ hf')
  subst hc
  have h1:=hS'.sep
  have hjj:(pt b (Cs cs t)::M)[j+1]? = some (dz false p):=by simpa using hj
  obtain ⟨hjl,hje⟩:=List.getElem?_eq_some_iff.1 hj
  refine ⟨hS'.os,hS'.tape,hS'.output,hS'.size,hS'.old,?_,hS'.bor⟩
  have hp:=h1.1
  have hM:=h1.2
  clear h1 hjj hS hS' k hf hf' ho
  revert j
  induction M with
  | nil=>intro j hj hjl _; simp at hj
  | cons q t ih =>
    intro j hj hjl hje
    cases j with
    | zero =>
      simp only [List.set_cons_zero]
      exact ⟨⟨hp.1,hp.2.1,fun s hs=>hp.2.2 s (by simp [hs])⟩,hM.2⟩
    | succ j =>
      simp only [List.set_cons_succ]
      have h2:=ih ⟨hp.1,hp.2.1,fun s hs=>hp.2.2 s (by simp [hs])⟩ hM.2 (j:=j) (by simpa using hj) (by simpa using hjl) (by simpa using hje)
      refine ⟨⟨hM.1.1,hM.1.2.1,fun s hs b' hb' hsb=>?_⟩,h2⟩
      rcases List.mem_or_eq_of_mem_set hs with h3 | h3
      · exact hM.1.2.2 s h3 b' hb' hsb
      · subst h3
        exact hp.2.2 q (by simp) b' hsb hb'
theorem O.normal {Q':Exit→Act→World→Prop} {R:Act→World→Prop} {l:List Nat} (h:O r P ops (fun e a w=>e=.normal∧R a w) l a w) (hq:∀ a w,R a w→Q' .normal a w):O r P ops Q' l a w:=by
  have:=O.cut (Q:=Q') (l₂:=[]) R h (fun a w hr=>O.nil (hq a w hr))
  simpa using this
theorem aEo {F:Nat→Prop}:∀ {l:List Nat},(∀ i ∈ l,F i)→Obl F l
  | [],_=>trivial
  | i::t,h=>⟨h i (by simp),aEo fun j hj=>h j (by simp [hj])⟩
def inl (al:List Nat) (s:Nat→Bool):Nat→Bool:=fun p=>al.contains p&&s p
theorem W.aF7 {id:Nat} {L0 L1:List (Nat × Value)} (g0:γ) (mk al qs:List Nat) (pl lo hi ma af ol:Nat→List Nat) (lov hiv:Nat→Nat) (val:γ→Nat→Value) (D:Nat→(Nat→Bool)→γ→World→Prop)
    (hmo:P.follows .mixedOrders=true)
    (hlo:(mk++al++qs).all (fun i=>lo i == mk.take (lov i)++ma i&&hi i == mk.drop (hiv i)&&(ma i).all al.contains&&Nat.ble (lov i) mk.length)=true)
    (hmk:(List.range mk.length).all (fun j=>Nat.beq (lov (mk.getD j 0)) j&&!al.contains (mk.getD j 0)&&(List.range j).all fun t=>!Nat.beq (mk.getD t 0) (mk.getD j 0))=true)
    (hchk:(aEY ops&&ops.all (fun o=>jA o.op)&&wJ ops (uI L0)&&(List.range ops.size).all (fun i=>(qs.contains i||(mk++al).contains i)&&(pl i).all (fun p=>(qy ops i).contains p)&&(lo i).all (fun p=>((wo ops).getD i []).contains p&&(mk++al).contains p)&&(hi i).all (fun j=>((wo ops).getD j []).contains i)&&(ol i).all (aCg ops L1 i))&&(mk++al).all (fun i=>Nat.blt i ops.size)
      && vBm ops (wo ops)&&(mk++al).all (fun i=>(af i).all fun j=>((wo ops).getD j []).contains i)&&qs.all (fun i=>!(mk++al).contains i))=true)
    (hf:Fr a n ds L0) (hf1:Fr a n ds L1) (h0:D 0 (fun _=>false) g0 w.drew)
    (hq:Obl (fun i=>∀ k s g w,lov i≤k→k≤hiv i→(∀ p ∈ ma i,s p=true)→D k s g w→∀ a,Fr a n ds (slotsOf ops (val g) (pl i) (wT L1 (ol i) L0))→O r P ops (fun e a' w'=>e=.normal∧Fr a' n ds []∧(∀ d,jM ops i=some d→a'.tmps[d]? = some (val g i))∧D k s g w') [i] a w) qs)
    (hm:Stages (fun k i=>∀ s g w,(∀ p ∈ ma i,s p=true)→D k s g w→∀ a,Fr a n ds (slotsOf ops (val g) (pl i) (wT L1 (ol i) L0))→O r P ops (fun e a' w'=>e=.normal∧∃ g',Fr a' n ds []∧(∀ d,jM ops i=some d→a'.tmps[d]? = some (val g' i))∧(∀ j,j≠i→(af i).contains j=false→val g' j=val g j)∧D (k+1) s g' w') [i] a w) 0 mk)
    (ha:Obl (fun i=>∀ k s g w,lov i≤k→k≤hiv i→s i=false→D k s g w→∀ a,Fr a n ds (slotsOf ops (val g) (pl i) (wT L1 (ol i) L0))→O r P ops (fun e a' w'=>e=.normal∧∃ g',Fr a' n ds []∧(∀ d,jM ops i=some d→a'.tmps[d]? = some (val g' i))∧(∀ j,j≠i→(af i).contains j=false→val g' j=val g j)∧D k (upd s i) g' w') [i] a w) al)
    (hend:∀ s g a w,(∀ i ∈ al,s i=true)→Fr a n ds (slotsOf ops (val g) (List.range ops.size) L0)→D mk.length s g w→Q .normal a w):W r P (.region id ops true) Q a w:=by
  have hlo':∀ i,i ∈ mk∨i ∈ al∨i ∈ qs→lo i=mk.take (lov i)++ma i∧hi i=mk.drop (hiv i)∧(∀ p ∈ ma i,al.contains p=true)∧lov i≤mk.length:=fun i h=>by
    have:=List.all_eq_true.1 hlo i (by simpa [or_assoc] using h)
    simp only [Bool.and_eq_true,beq_iff_eq,List.all_eq_true] at this
    exact ⟨this.1.1.1,this.1.1.2,this.1.2,Nat.le_of_ble_eq_true this.2⟩
  have hmk':∀ j q,mk[j]? = some q→lov q=j∧al.contains q=false∧∀ t,t<j→mk[t]?≠some q:=fun j q hj=>by
    have hjl:=(List.getElem?_eq_some_iff.1 hj).1
    have h:=List.all_eq_true.1 hmk j (by simpa using hjl)
    have e:mk.getD j 0=q:=by simp [List.getD_eq_getElem?_getD,hj]
    rw [e] at h
    simp only [Bool.and_eq_true,Bool.not_eq_true',List.all_eq_true,List.mem_range] at h
    refine ⟨Nat.eq_of_beq_eq_true h.1.1,h.1.2,fun t ht htq=>?_⟩
    have:=h.2 t ht
    simp [List.getD_eq_getElem?_getD,htq,Nat.beq_refl] at this
  refine W.aG7 (L0:=L0) (L1:=L1) g0 (mk++al) qs pl lo hi af ol val
    (fun s g w=>∃ k,k≤mk.length∧(∀ j q,mk[j]? = some q→(s q=true↔j<k))∧D k (inl al s) g w) hmo hchk hf hf1 ⟨0,Nat.zero_le _,fun j q _=>by simp,?_⟩ ?_ ?_ ?_
  · have:inl al (fun _=>false)=fun _=>false:=by funext p; simp [inl]
    rw [this]; exact h0
  all_goals try clear h0 hchk hlo hmk
  ·
    have key:∀ i ∈ qs,∀ s g w,(∀ p ∈ lo i,s p=true)→(∀ j ∈ hi i,s j=false)→(∃ k,k≤mk.length∧(∀ j q,mk[j]? = some q→(s q=true↔j<k))∧D k (inl al s) g w)→∀ a,Fr a n ds (slotsOf ops (val g) (pl i) (wT L1 (ol i) L0)) →
        O r P ops (fun e a' w'=>e=.normal∧Fr a' n ds []∧(∀ d,jM ops i=some d→a'.tmps[d]? = some (val g i))∧(∃ k,k≤mk.length∧(∀ j q,mk[j]? = some q→(s q=true↔j<k))∧D k (inl al s) g w')) [i] a w:=by
      intro i hi' s g w hsp hsb ⟨k,hk,hks,hD⟩ a hfr
      obtain ⟨e1,e2,e3,e4⟩:=hlo' i (.inr (.inr hi'))
      have h:=Obl.get hq i hi' k (inl al s) g w ?_ ?_ ?_ hD a hfr
      · exact O.normal h fun a' w' ⟨h2,h3,h4⟩=>⟨rfl,h2,h3,k,hk,hks,h4⟩
      · rcases Nat.eq_zero_or_pos (lov i) with h | h
        · omega
        · have hl:lov i-1<mk.length:=by omega
          have:=hsp mk[lov i-1] (by rw [e1]; exact List.mem_append_left _ (List.mem_take_iff_getElem.2 ⟨lov i-1,by omega,rfl⟩))
          have:=(hks _ _ (List.getElem?_eq_getElem hl)).1 this
          omega
      · rcases Nat.lt_or_ge (hiv i) k with h | h
        · exfalso
          have hl:hiv i<mk.length:=by omega
          have h5:=hsb mk[hiv i] (by rw [e2]; exact List.mem_drop_iff_getElem.2 ⟨0,by omega,by simp⟩)
          have:=(hks _ _ (List.getElem?_eq_getElem hl)).2 h
          rw [h5] at this; cases this
        · exact h
      · intro p hp
        simp only [inl,e3 p hp,Bool.true_and]
        exact hsp p (by rw [e1]; exact List.mem_append_right _ hp)
    exact aEo key
  · have key:∀ i ∈ mk++al,∀ s g w,s i=false→(∀ p ∈ lo i,s p=true)→(∀ j ∈ hi i,s j=false)→(∃ k,k≤mk.length∧(∀ j q,mk[j]? = some q→(s q=true↔j<k))∧D k (inl al s) g w)→∀ a,Fr a n ds (slotsOf ops (val g) (pl i) (wT L1 (ol i) L0)) →
        O r P ops (fun e a' w'=>e=.normal∧∃ g',Fr a' n ds []∧(∀ d,jM ops i=some d→a'.tmps[d]? = some (val g' i))∧(∀ j,j≠i→(af i).contains j=false→val g' j=val g j)∧(∃ k,k≤mk.length∧(∀ j q,mk[j]? = some q→(upd s i q=true↔j<k))∧D k (inl al (upd s i)) g' w')) [i] a w:=by
      intro i hi' s g w hs0 hsp hsb ⟨k,hk,hks,hD⟩ a hfr
      rcases List.mem_append.1 hi' with him | hia
      · obtain ⟨j,hj⟩:=List.getElem?_of_mem him
        obtain ⟨f1,f2,f3⟩:=hmk' j i hj
        obtain ⟨e1,e2,e3,e4⟩:=hlo' i (.inl him)
        have hjl:=(List.getElem?_eq_some_iff.1 hj).1
        have hkj:k=j:=by
          have h1:¬ j<k:=fun h=>by have:=(hks j i hj).2 h; rw [hs0] at this; cases this
          rcases Nat.lt_or_ge k j with h2 | h2
          · exfalso
            have hkl:k<mk.length:=by omega
            have:=hsp mk[k] (by rw [e1,f1]; exact List.mem_append_left _ (List.mem_take_iff_getElem.2 ⟨k,by omega,rfl⟩))
            have:=(hks k _ (List.getElem?_eq_getElem hkl)).1 this
            omega
          · omega
        subst hkj
        have h:=Stages.get hm k i hj
        rw [Nat.zero_add] at h
        have h:=h (inl al s) g w (fun p hp=>by simp only [inl,e3 p hp,Bool.true_and]; exact hsp p (by rw [e1]; exact List.mem_append_right _ hp)) hD a hfr
        refine O.normal h fun a' w' ⟨g',h2,h3,h4,h5⟩=>⟨rfl,g',h2,h3,h4,k+1,by omega,fun t q ht=>?_,?_⟩
        · unfold upd
          cases hb:Nat.beq q i with
          | true =>
            have:=Nat.eq_of_beq_eq_true hb
            subst this
            have htk:t=k:=by
              rcases Nat.lt_or_ge t k with h6 | h6
              · exact absurd ht (f3 t h6)
              · rcases Nat.lt_or_ge k t with h7 | h7
                · exact absurd hj ((hmk' t q ht).2.2 k h7)
                · omega
            subst htk
            simp
          | false =>
            simp only
            rw [hks t q ht]
            constructor
            · intro h; omega
            · intro h
              have:t≠k:=fun e=>by
                subst e
                rw [hj] at ht
                injection ht with ht
                subst ht
                simp [Nat.beq_refl] at hb
              omega
        · have e5:inl al (upd s i)=inl al s:=by
            funext p
            unfold inl upd
            cases hb:Nat.beq p i with
            | true =>
              have:=Nat.eq_of_beq_eq_true hb
              subst this
              simp only [f2,Bool.false_and]
            | false=>rfl
          rw [e5]; exact h5
      · obtain ⟨e1,e2,e3,e4⟩:=hlo' i (.inr (.inl hia))
        have hnm:∀ t q,mk[t]? = some q→q≠i:=fun t q ht e=>by
          subst e
          have:=(hmk' t q ht).2.1
          simp at this
          exact this hia
        have hci:al.contains i=true:=by simpa using hia
        have h:=Obl.get ha i hia k (inl al s) g w ?_ ?_ (by simp only [inl,hs0,Bool.and_false]) hD a hfr
        · refine O.normal h fun a' w' ⟨g',h2,h3,h4,h5⟩=>⟨rfl,g',h2,h3,h4,k,hk,fun t q ht=>?_,?_⟩
          · have:Nat.beq q i=false:=by
              cases hb:Nat.beq q i with
              | true=>exact absurd (Nat.eq_of_beq_eq_true hb) (hnm t q ht)
              | false=>rfl
            unfold upd
            rw [this]
            exact hks t q ht
          · have e5:inl al (upd s i)=upd (inl al s) i:=by
              funext p
              unfold inl upd
              cases hb:Nat.beq p i with
              | true =>
                have:=Nat.eq_of_beq_eq_true hb
                subst this
                simp only [hci,Bool.true_and]
              | false=>rfl
            rw [e5]; exact h5
        · rcases Nat.eq_zero_or_pos (lov i) with h | h
          · omega
          · have hl:lov i-1<mk.length:=by omega
            have:=hsp mk[lov i-1] (by rw [e1]; exact List.mem_append_left _ (List.mem_take_iff_getElem.2 ⟨lov i-1,by omega,rfl⟩))
            have:=(hks _ _ (List.getElem?_eq_getElem hl)).1 this
            omega
        · rcases Nat.lt_or_ge (hiv i) k with h | h
          · exfalso
            have hl:hiv i<mk.length:=by omega
            have h5:=hsb mk[hiv i] (by rw [e2]; exact List.mem_drop_iff_getElem.2 ⟨0,by omega,by simp⟩)
            have:=(hks _ _ (List.getElem?_eq_getElem hl)).2 h
            rw [h5] at this; cases this
          · exact h
    exact aEo key
  · rintro s g a w hall hfr ⟨k,hk,hks,hD⟩
    have hkl:k=mk.length:=by
      rcases Nat.lt_or_ge k mk.length with h | h
      · exfalso
        have:=hall mk[k] (List.mem_append_left _ (List.getElem_mem h))
        have:=(hks k _ (List.getElem?_eq_getElem h)).1 this
        omega
      · omega
    subst hkl
    exact hend (inl al s) g a w (fun i hi=>by simp only [inl]; rw [show al.contains i=true by simpa using hi]; exact hall i (List.mem_append_right _ hi)) hfr hD
theorem Q.val {i d:Nat} {op:Op} {ty:TypeId} {pos:String} {af:Array Edge} {L:List (Nat × Value)} {v:Value} {R:World→Prop} (ho:ops[i]? = some ⟨some d,op,ty,pos,af,none⟩) (hnd:jA op=true) (hd:Nat.blt d n=true) (hR:R w) (hf:Fr a n ds L) (hr:aA P n ds L op ty w v w) :
    O r P ops (fun e a' w'=>e=.normal∧Fr a' n ds []∧(∀ d',jM ops i=some d'→a'.tmps[d']? = some v)∧R w') [i] a w:=by
  refine O.val hf ho hnd hd hr (fun a' hf'=>O.nil ⟨rfl,hf'.to trivial,fun d' hd'=>?_,hR⟩)
  have e:jM ops i=some d:=by simp [jM,ho]
  rw [e] at hd'
  injection hd' with hd'
  subst hd'
  exact hf'.get _ _ (by simp [lk,Nat.beq_refl])
end
end Go.SL
