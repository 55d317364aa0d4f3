/- Regions that draw their order and in which some operations make memory: those come one after the other (mk), all others are quiet. -/
import Derived.Test.YtipfobacinmoiaaGreatSL9
set_option linter.unusedVariables false
set_option linter.unusedSimpArgs false
namespace Go.SL
open Go
section
variable {r:Option Nat} {P:Program} {ops:Array Oper} {Q:Exit→Act→World→Prop} {a:Act} {w:World} {n:Nat} {ds:List Deferred} {γ:Type}
theorem oneCells_cc {u:Value} {t:List Value} (h1:oneCells [u]=true) (h2:oneCells t=true):oneCells (u::t)=true:=by
  cases u <;> simp [oneCells] at h1 ⊢ <;> exact h2
theorem exists_ready {listed:Array Bool} (hord:ordB ops=true) (hsz:listed.size=ops.size) (hlt:∃ i,i<ops.size∧listed.getD i true=false):∃ i,i ∈ Region.ready .any ops listed:=by
  have hleast:∃ i,i<ops.size∧listed.getD i true=false∧∀ j,j<i→listed.getD j true=true:=by
    obtain ⟨i,hi,hu⟩:=hlt
    induction i using Nat.strongRecOn with
    | _ i ih =>
      by_cases hj:∃ j,j<i∧listed.getD j true=false
      · obtain ⟨j,hj1,hj2⟩:=hj
        exact ih j hj1 (by omega) hj2
      · refine ⟨i,hi,hu,fun j hj1=>?_⟩
        cases hb:listed.getD j true with
        | true=>rfl
        | false=>exact absurd ⟨j,hj1,hb⟩ hj
  obtain ⟨i,hi,hu,hall⟩:=hleast
  refine ⟨i,mem_ready.2 ⟨hu,ops[i]'hi,Array.getElem?_eq_getElem hi,fun e he hb=>?_⟩⟩
  have hpi:predsAt ops i=preds (ops[i]'hi):=by simp [predsAt,Array.getElem?_eq_getElem hi]
  have h2:=List.all_eq_true.1 hord i (by simp; omega)
  rw [hpi] at h2
  have:e.on<i:=by simpa using List.all_eq_true.1 h2 e.on (mem_preds he hb)
  have h1:=hall e.on this
  have hsz':e.on<listed.size:=by omega
  simpa [Array.getD_eq_getD_getElem?,hsz'] using h1
theorem put_other {a:Act} {d:Option Nat} {v:Value} {k:Nat} (h:d≠some k):(a.put d v).tmps[k]? = a.tmps[k]?:=by
  cases d with
  | none=>rfl
  | some d=>exact Array.getElem?_setIfInBounds_ne (fun e=>h (by rw [e]))
def Kept (o:Oper) (a a':Act):Prop:=∀ k,o.dst≠some k→a'.tmps[k]? = a.tmps[k]?
theorem O.keep {R:Act→World→Prop} {i:Nat} {o:Oper} (ho:ops[i]? = some o) (h:O r P ops (fun e a w=>e=.normal∧R a w) [i] a w) :
    wpOpIn (FW r) 0 P ops Q i (fun a' w'=>R a' w'∧Kept o a a') a w:=by
  unfold O at h
  rw [wpOpsIn_cons] at h
  unfold wpOpIn at h ⊢
  simp only [ho] at h ⊢
  have hk:∀ v,Kept o a (a.put o.dst v):=fun v k hk=>put_other hk
  split
  · rename_i hw
    rw [if_pos hw] at h
    unfold Oper.wpIn at h ⊢
    refine ⟨h.1,?_⟩
    have h:=h.2
    generalize (o.semAt (FW r).round a.eval).run P w=res at h
    cases res with
    | ok x w' =>
      cases x <;> simp only [Oper.uponIn] at h ⊢
      case value=>exact ⟨h.2,hk _⟩
      case skip=>exact ⟨h.2,hk _⟩
      case defer d=>exact ⟨h.2,fun k hk=>put_other (a:={ a with defers:=d::a.defers }) hk⟩
      case enter f args =>
        refine ⟨h.1,h.2.mono fun e w'' he=>?_⟩
        cases e with
        | returned v=>exact ⟨he.2,hk _⟩
        | panicked c=>exact absurd he.1 (by simp)
        | outgrown=>obtain ⟨_,_,he⟩:=he; exact absurd he.1 (by simp)
      case row row args=>exact ⟨h.1,h.2.mono fun u w'' he=>⟨he.2,hk _⟩⟩
      case round l f tmps assign body =>
        refine ⟨h.1,h.2.mono fun e w'' he=>?_⟩
        cases e with
        | returned u=>exact ⟨he.2,hk _⟩
        | panicked c=>exact absurd he.1 (by simp)
        | outgrown=>obtain ⟨_,_,he⟩:=he; exact absurd he.1 (by simp)
    | halt x w' =>
      cases x <;> simp only [Oper.uponIn] at h ⊢
      exact absurd h.1 (by simp)
  · rename_i hw
    rw [if_neg hw] at h
    exact ⟨h.1,h.2.2,hk _⟩
def Obl (F:Nat→Prop):List Nat→Prop
  | []=>True
  | i::t=>F i∧Obl F t
theorem Obl.get {F:Nat→Prop}:∀ {l:List Nat},Obl F l→∀ i ∈ l,F i
  | _::_,h,i,hi=>by
    rcases List.mem_cons.1 hi with rfl | h1
    · exact h.1
    · exact Obl.get h.2 i h1
def Stages (F:Nat→Nat→Prop):Nat→List Nat→Prop
  | _,[]=>True
  | k,i::t=>F k i∧Stages F (k+1) t
theorem Stages.get {F:Nat→Nat→Prop}:∀ {l:List Nat} {k0:Nat},Stages F k0 l→∀ k i,l[k]? = some i→F (k0+k) i
  | [],_,_,k,i,hi=>by simp at hi
  | j::t,k0,h,0,i,hi=>by simp at hi; subst hi; exact h.1
  | j::t,k0,h,k+1,i,hi=>by
    have:=Stages.get h.2 k i (by simpa using hi)
    rwa [show k0+(k+1)=k0+1+k from by omega]
def dstOf (ops:Array Oper) (j:Nat):Option Nat:=(ops[j]?).bind (·.dst)
def slotsOf (ops:Array Oper) (vals:Nat→Value):List Nat→List (Nat × Value)→List (Nat × Value)
  | [],L=>L
  | j::t,L=>match dstOf ops j with
    | some d=>(d,vals j)::slotsOf ops vals t L
    | none=>slotsOf ops vals t L
def distinctDst (ops:Array Oper) (base:List Nat):Bool :=
  (List.range ops.size).all fun i=>match dstOf ops i with
    | none=>true
    | some d=>(!base.contains d)&&(List.range i).all fun j=>match dstOf ops j with
      | none=>true
      | some d'=>!Nat.beq d d'
theorem fr_slots {vals:Nat→Value} {L0:List (Nat × Value)} (hf:Fr a n ds L0):∀ {l:List Nat},(∀ j ∈ l,∀ d,dstOf ops j=some d→a.tmps[d]? = some (vals j))→Fr a n ds (slotsOf ops vals l L0)
  | [],_=>hf
  | j::t,h=>by
    have ih:=fr_slots (vals:=vals) hf (l:=t) (fun j' hj'=>h j' (by simp [hj']))
    simp only [slotsOf]
    cases hd:dstOf ops j with
    | none=>exact ih
    | some d =>
      refine ⟨ih.size,ih.defers,fun k v hk=>?_⟩
      simp only [lk] at hk
      cases hb:Nat.beq d k with
      | true =>
        rw [hb] at hk
        have:=Nat.eq_of_beq_eq_true hb
        subst this
        simp only [Option.some.injEq] at hk
        subst hk
        exact h j (by simp) d hd
      | false=>rw [hb] at hk; exact ih.get k v hk
def baseKeys:List (Nat × Value)→List Nat
  | []=>[]
  | (k,_)::t=>k::baseKeys t
theorem lk_mem:∀ {L:List (Nat × Value)} {k:Nat} {v:Value},lk L k=some v→k ∈ baseKeys L
  | [],_,_,h=>by simp [lk] at h
  | (k',v')::t,k,v,h=>by
    simp only [lk] at h
    simp only [baseKeys,List.mem_cons]
    cases hb:Nat.beq k' k with
    | true=>exact .inl (Nat.eq_of_beq_eq_true hb).symm
    | false=>rw [hb] at h; exact .inr (lk_mem h)
structure Dr (ops:Array Oper) (n:Nat) (ds:List Deferred) (L0:List (Nat × Value)) (val:γ→Nat→Value) (mk:List Nat) (D:Nat→γ→World→Prop) (listed:Array Bool) (a:Act) (w:World) (g:γ) (k:Nat):Prop where
  fr:Fr a n ds L0
  slot:∀ j d,listed.getD j false=true→dstOf ops j=some d→a.tmps[d]? = some (val g j)
  le:k≤mk.length
  done:∀ j q,mk[j]? = some q→(listed.getD q false=true↔j<k)
  D:D k g w
  size:listed.size=ops.size
theorem W.drawI {id:Nat} {L0:List (Nat × Value)} (g0:γ) (mk qs:List Nat) (pl:Nat→List Nat) (val:γ→Nat→Value) (D:Nat→γ→World→Prop)
    (hmo:P.follows .mixedOrders=true)
    (hchk:(ordB ops&&ops.all (fun o=>noDefer o.op)&&distinctDst ops (baseKeys L0)&&(List.range ops.size).all (fun i=>(qs.contains i||mk.contains i)&&(pl i).all (fun p=>(predsAt ops i).contains p))&&mk.all (fun i=>Nat.blt i ops.size)
      && (List.range mk.length).all (fun j=>(List.range j).all fun i=>(!Nat.beq (i+1) j||(predsAt ops (mk.getD j 0)).contains (mk.getD i 0))&&!Nat.beq (mk.getD i 0) (mk.getD j 0))&&qs.all (fun i=>!mk.contains i))=true)
    (hf:Fr a n ds L0) (h0:D 0 g0 w.drew)
    (hq:Obl (fun i=>∀ k g w,D k g w→∀ a,Fr a n ds (slotsOf ops (val g) (pl i) L0)→O r P ops (fun e a' w'=>e=.normal∧Fr a' n ds []∧(∀ d,dstOf ops i=some d→a'.tmps[d]? = some (val g i))∧D k g w') [i] a w) qs)
    (hm:Stages (fun k i=>∀ g w,D k g w→∀ a,Fr a n ds (slotsOf ops (val g) (pl i) L0)→O r P ops (fun e a' w'=>e=.normal∧∃ g',Fr a' n ds []∧(∀ d,dstOf ops i=some d→a'.tmps[d]? = some (val g' i))∧(∀ j,(mk.drop k).contains j=false→val g' j=val g j)∧D (k+1) g' w') [i] a w) 0 mk)
    (hend:∀ g a w,Fr a n ds (slotsOf ops (val g) (List.range ops.size) L0)→D mk.length g w→Q .normal a w):W r P (.region id ops true) Q a w:=by
  simp only [Bool.and_eq_true] at hchk
  obtain ⟨⟨⟨⟨⟨⟨hord,hnd⟩,hdist⟩,hcov⟩,hmk⟩,hchain⟩,hqm⟩:=hchk
  refine wpIn_region_any hmo ?_
  have hap:∀ i j d,i<ops.size→j<ops.size→i≠j→dstOf ops i=some d→dstOf ops j≠some d:=by
    intro i j d hi hj hij hdi hdj
    have key:∀ i j,i<ops.size→j<i→dstOf ops i=some d→dstOf ops j=some d→False:=fun i j hi hji h1 h2=>by
      have h:=List.all_eq_true.1 hdist i (by simpa using hi)
      simp only [h1,Bool.and_eq_true] at h
      have h:=List.all_eq_true.1 h.2 j (by simpa using hji)
      simp [h2,Nat.beq_refl] at h
    rcases Nat.lt_or_gt_of_ne hij with h | h
    · exact key j i hj h hdj hdi
    · exact key i j hi h hdi hdj
  have hbase:∀ i d v,i<ops.size→dstOf ops i=some d→lk L0 d≠some v:=fun i d v hi hd hl=>by
    have h:=List.all_eq_true.1 hdist i (by simpa using hi)
    simp only [hd,Bool.and_eq_true] at h
    have:=lk_mem hl
    simp [this] at h
  have key:∀ (fuel:Nat) (listed:Array Bool) (a:Act) (w:World) (g:γ) (k:Nat),fuel+listed.toList.count true=ops.size→Dr ops n ds L0 val mk D listed a w g k →
      wpAnyIn (FW r) 0 P .any ops Q fuel listed a w:=by
    intro fuel
    induction fuel with
    | zero =>
      intro listed a w g k hc hd
      have hall:∀ i,i<ops.size→listed.getD i true=true:=by
        intro i hi
        have hcl:listed.toList.count true=listed.toList.length:=by
          have:listed.toList.length=ops.size:=by simpa using hd.size
          omega
        have:=List.count_eq_length.1 hcl
        have hi':i<listed.size:=by rw [hd.size]; exact hi
        have:=this listed[i] (by simp)
        simp [hi',← this]
      have hall':∀ i,i<ops.size→listed.getD i false=true:=fun i hi=>by
        have:=hall i hi
        have hi':i<listed.size:=by rw [hd.size]; exact hi
        simpa [hi'] using this
      have hke:k=mk.length:=by
        rcases Nat.lt_or_ge k mk.length with h | h
        · exfalso
          have hq':=List.getElem?_eq_getElem h
          have hb:=List.all_eq_true.1 hmk mk[k] (by simp)
          have:=(hd.done k _ hq').1 (hall' _ (by simpa using hb))
          omega
        · have:=hd.le; omega
      refine ⟨?_,hend g a w (fr_slots hd.fr fun j hj d hdd=>hd.slot j d (hall' j (by simpa using hj)) hdd) (hke▸hd.D)⟩
      apply List.eq_nil_iff_forall_not_mem.2
      intro i hi
      have h1:=mem_ready.1 hi
      obtain ⟨h1,o,ho,_⟩:=h1
      rw [hall i (Array.getElem?_eq_some_iff.1 ho).1] at h1
      cases h1
    | succ fuel ih =>
      intro listed a w g k hc hd
      have hex:∃ i,i<ops.size∧listed.getD i true=false:=by
        apply Classical.byContradiction
        intro hno
        have hcl:listed.toList.count true=listed.toList.length:=by
          refine List.count_eq_length.2 fun b hb=>?_
          obtain ⟨i,hi,rfl⟩:=List.mem_iff_getElem.1 hb
          have hi':i<listed.size:=by simpa using hi
          cases hbv:listed[i] with
          | true=>simp [hbv]
          | false=>exact absurd ⟨i,by rw [← hd.size]; exact hi',by simp [hi',hbv]⟩ hno
        have:listed.toList.length=ops.size:=by simpa using hd.size
        omega
      refine ⟨fun h=>?_,fun i hi=>?_⟩
      · obtain ⟨i,hi⟩:=exists_ready hord hd.size hex
        rw [h] at hi; cases hi
      obtain ⟨hun,o,ho,hall⟩:=mem_ready.1 hi
      have his:i<ops.size:=(Array.getElem?_eq_some_iff.1 ho).1
      have hil:i<listed.size:=by rw [hd.size]; exact his
      have hun':listed.getD i false=false:=by simpa [hil] using hun
      have hpi:predsAt ops i=preds o:=by simp [predsAt,ho]
      have hdo:dstOf ops i=o.dst:=by simp [dstOf,ho]
      have hc1:=List.all_eq_true.1 hcov i (by simpa using his)
      simp only [Bool.and_eq_true,Bool.or_eq_true,List.contains_iff_mem] at hc1
      have hfr:Fr a n ds (slotsOf ops (val g) (pl i) L0):=fr_slots hd.fr fun j hj d hdd=>by
        have:=List.all_eq_true.1 hc1.2 j hj
        rw [hpi] at this
        obtain ⟨e,h1,h2,h3⟩:=of_mem_preds (by simpa using this)
        exact hd.slot j d (h3▸hall e h1 h2) hdd
      have hcnt:fuel+(listed.setIfInBounds i true).toList.count true=ops.size:=by
        rw [Array.toList_setIfInBounds,count_set_true _ _ (by simpa [Array.getD_eq_getD_getElem?,List.getD_eq_getElem?_getD] using hun)]
        omega
      have hback:∀ j,(listed.setIfInBounds i true).getD j false=true→j=i∨listed.getD j false=true:=fun j hj=>by
        by_cases e:i=j
        · exact .inl e.symm
        · rw [getD_set_ne false e] at hj; exact .inr hj
      have hfrm:∀ a',Fr a' n ds []→Kept o a a'→Fr a' n ds L0:=fun a' h1 h2=>⟨h1.size,h1.defers,fun q v hq=>by
        rw [h2 q (fun e=>hbase i q v his (hdo.trans e) hq)]; exact hd.fr.get q v hq⟩
      have hslot:∀ a' (g':γ),Kept o a a'→(∀ d,dstOf ops i=some d→a'.tmps[d]? = some (val g' i))→(∀ j,listed.getD j false=true→val g' j=val g j)→∀ j d,(listed.setIfInBounds i true).getD j false=true→dstOf ops j=some d→a'.tmps[d]? = some (val g' j):=by
        intro a' g' hk hi' hg j d hj hjd
        rcases hback j hj with rfl | h1
        · exact hi' d hjd
        · have hne:j≠i:=fun e=>by rw [e,hun'] at h1; cases h1
          have hjs:j<ops.size:=by
            rcases Nat.lt_or_ge j ops.size with h | h
            · exact h
            · rw [← hd.size] at h; simp [Array.getElem?_eq_none h] at h1
          rw [hk d (fun e=>hap j i d hjs his hne hjd (hdo.trans e)),hg j h1]
          exact hd.slot j d h1 hjd
      by_cases him:i ∈ mk
      ·
        obtain ⟨k',hk'⟩:=List.getElem?_of_mem him
        have hkk:k'=k:=by
          have h1:¬ k'<k:=fun h=>by have:=(hd.done k' i hk').2 h; rw [hun'] at this; cases this
          rcases Nat.lt_or_ge k k' with h2 | h2
          · exfalso
            have hk'l:k'<mk.length:=(List.getElem?_eq_some_iff.1 hk').1
            have hkl:k'-1<mk.length:=by omega
            have h3:=List.all_eq_true.1 hchain k' (by simpa using hk'l)
            have h4:=List.all_eq_true.1 h3 (k'-1) (by simp; omega)
            have e1:k'-1+1=k':=by omega
            simp only [Bool.and_eq_true,List.getD_eq_getElem?_getD,hk',Option.getD_some,e1,Nat.beq_refl,Bool.not_true,Bool.false_or] at h4
            obtain ⟨h4,-⟩:=h4
            rw [hpi] at h4
            obtain ⟨e,e1,e2,e3⟩:=of_mem_preds (by simpa using h4)
            have:=hall e e1 e2
            rw [e3] at this
            have:=(hd.done (k'-1) (mk[k'-1]?.getD 0) (by simp [hkl])).1 this
            omega
          · omega
        subst hkk
        have hst:=Stages.get hm k' i hk'
        rw [Nat.zero_add] at hst
        refine wpOpIn_mono (fun a' w' hR=>?_) (O.keep ho (hst g w hd.D a hfr))
        obtain ⟨⟨g',h1,h2,h3,h4⟩,h5⟩:=hR
        have hk'l:k'<mk.length:=(List.getElem?_eq_some_iff.1 hk').1
        refine ih _ a' w' g' (k'+1) hcnt ⟨hfrm a' h1 h5,hslot a' g' h5 h2 (fun j hj=>h3 j ?_),by omega,fun j q hjq=>?_,h4,by simpa using hd.size⟩
        ·
          cases hb:(mk.drop k').contains j with
          | false=>rfl
          | true =>
            exfalso
            simp only [List.contains_iff_mem] at hb
            obtain ⟨t,ht⟩:=List.getElem?_of_mem hb
            rw [List.getElem?_drop] at ht
            have:=(hd.done _ _ ht).1 hj
            omega
        · have hold:=hd.done j q hjq
          by_cases e:i=q
          · subst e
            constructor
            · intro _
              rcases Nat.lt_or_ge k' j with h | h
              · exfalso
                have hjl:j<mk.length:=(List.getElem?_eq_some_iff.1 hjq).1
                have h3:=List.all_eq_true.1 hchain j (by simpa using hjl)
                have h4:=List.all_eq_true.1 h3 k' (by simpa using h)
                simp [hk',hjq,Nat.beq_refl] at h4
              · omega
            · intro _; simp [hil]
          · rw [getD_set_ne false e]
            constructor
            · intro h; have:=hold.1 h; omega
            · intro h
              apply hold.2
              rcases Nat.lt_or_ge j k' with h' | h'
              · exact h'
              · have:j=k':=by omega
                subst this
                rw [hk'] at hjq
                exact absurd (by simpa using hjq) e
      ·
        have hiq:i ∈ qs:=by
          rcases hc1.1 with h | h
          · exact h
          · exact absurd h him
        refine wpOpIn_mono (fun a' w' hR=>?_) (O.keep ho (Obl.get hq i hiq k g w hd.D a hfr))
        obtain ⟨⟨h1,h2,h3⟩,h5⟩:=hR
        refine ih _ a' w' g k hcnt ⟨hfrm a' h1 h5,hslot a' g h5 h2 (fun _ _=>rfl),hd.le,fun j q hjq=>?_,h3,by simpa using hd.size⟩
        have e:i≠q:=fun e=>him (e▸List.mem_of_getElem? hjq)
        rw [getD_set_ne false e]
        exact hd.done j q hjq
  refine key ops.size (Array.replicate ops.size false) a { w with drawn:=w.drawn+1 } g0 0 (by simp [List.count_replicate]) ⟨hf,fun j d hj=>?_,Nat.zero_le _,fun j q hjq=>?_,h0,by simp⟩
  · exfalso
    by_cases h:j<ops.size <;> simp [h] at hj
  · have:(Array.replicate ops.size false).getD q false=false:=by
      by_cases h:q<ops.size <;> simp [h]
    rw [this]; simp
end
end Go.SL
