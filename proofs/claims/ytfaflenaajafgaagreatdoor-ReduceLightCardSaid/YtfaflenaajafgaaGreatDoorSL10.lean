/- Regions that draw their order and in which some operations make memory: those come one after the other (mk), all others are quiet. -/
import Derived.Test.YtfaflenaajafgaaGreatDoorSL9
set_option linter.unusedVariables false
set_option linter.unusedSimpArgs false
namespace Go.SL
open Go
section
variable {r:Option Nat} {P:Program} {ops:Array Oper} {Q:Exit→Act→World→Prop} {a:Act} {w:World} {n:Nat} {ds:List Deferred} {γ:Type}
theorem occ {u:Value} {t:List Value} (h1:oneCells [u]=true) (h2:oneCells t=true):oneCells (u::t)=true:=by
  cases u <;> simp [oneCells] at h1 ⊢ <;> exact h2
theorem exists_ready {listed:Array Bool} (hord:ordB ops=true) (hsz:listed.size=ops.size) (hlt:∃ i,i<ops.size∧listed.getD i true=false):∃ i,i ∈ Region.ready .any ops listed:=by
  have hleast:∃ i,i<ops.size∧listed.getD i true=false∧∀ j,j<i→listed.getD j true=true:=by
    obtain ⟨i,hi,hu⟩:=hlt
    induction i using Nat.strongRecOn with
    | _ i ih =>
      by_cases hj:∃ j,j<i∧listed.getD j true=false
      · obtain ⟨j,hj1,hj2⟩:=hj
        exact ih j hj1 (by omega) hj2
      · refine ⟨i,hi,hu,fun j hj1=>?_⟩
        cases hb:listed.getD j true with
        | true=>rfl
        | false=>exact absurd ⟨j,hj1,hb⟩ hj
  obtain ⟨i,hi,hu,hall⟩:=hleast
  refine ⟨i,mem_ready.2 ⟨hu,ops[i]'hi,Array.getElem?_eq_getElem hi,fun e he hb=>?_⟩⟩
  have hpi:predsAt ops i=preds (ops[i]'hi):=by simp [predsAt,Array.getElem?_eq_getElem hi]
  have h2:=List.all_eq_true.1 hord i (by simp; omega)
  rw [hpi] at h2
  have:e.on<i:=by simpa using List.all_eq_true.1 h2 e.on (mem_preds he hb)
  have h1:=hall e.on this
  have hsz':e.on<listed.size:=by omega
  simpa [Array.getD_eq_getD_getElem?,hsz'] using h1
theorem put_other {a:Act} {d:Option Nat} {v:Value} {k:Nat} (h:d≠some k):(a.put d v).tmps[k]? = a.tmps[k]?:=by
  cases d with
  | none=>rfl
  | some d=>exact Array.getElem?_setIfInBounds_ne (fun e=>h (by rw [e]))
def Kept (o:Oper) (a a':Act):Prop:=∀ k,o.dst≠some k→a'.tmps[k]? = a.tmps[k]?
theorem O.keep {R:Act→World→Prop} {i:Nat} {o:Oper} (ho:ops[i]? = some o) (h:O r P ops (fun e a w=>e=.normal∧R a w) [i] a w) :
    wpOpIn (FW r) 0 P ops Q i (fun a' w'=>R a' w'∧Kept o a a') a w:=by
  unfold O at h
  rw [wpOpsIn_cons] at h
  unfold wpOpIn at h ⊢
  simp only [ho] at h ⊢
  have hk:∀ v,Kept o a (a.put o.dst v):=fun v k hk=>put_other hk
  split
  · rename_i hw
    rw [if_pos hw] at h
    unfold Oper.wpIn at h ⊢
    refine ⟨h.1,?_⟩
    have h:=h.2
    generalize (o.semAt (FW r).round a.eval).run P w=res at h
    cases res with
    | ok x w' =>
      cases x <;> simp only [Oper.uponIn] at h ⊢
      case value=>exact ⟨h.2,hk _⟩
      case skip=>exact ⟨h.2,hk _⟩
      case defer d=>exact ⟨h.2,fun k hk=>put_other (a:={ a with defers:=d::a.defers }) hk⟩
      case enter f args =>
        refine ⟨h.1,h.2.mono fun e w'' he=>?_⟩
        cases e with
        | returned v=>exact ⟨he.2,hk _⟩
        | panicked c=>exact absurd he.1 (by simp)
        | outgrown=>obtain ⟨_,_,he⟩:=he; exact absurd he.1 (by simp)
      case row row args=>exact ⟨h.1,h.2.mono fun u w'' he=>⟨he.2,hk _⟩⟩
      case round l f tmps assign body =>
        refine ⟨h.1,h.2.mono fun e w'' he=>?_⟩
        cases e with
        | returned u=>exact ⟨he.2,hk _⟩
        | panicked c=>exact absurd he.1 (by simp)
        | outgrown=>obtain ⟨_,_,he⟩:=he; exact absurd he.1 (by simp)
    | halt x w' =>
      cases x <;> simp only [Oper.uponIn] at h ⊢
      exact absurd h.1 (by simp)
  · rename_i hw
    rw [if_neg hw] at h
    exact ⟨h.1,h.2.2,hk _⟩
def Obl (F:Nat→Prop):List Nat→Prop
  | []=>True
  | i::t=>F i∧Obl F t
theorem Obl.get {F:Nat→Prop}:∀ {l:List Nat},Obl F l→∀ i ∈ l,F i
  | _::_,h,i,hi=>by
    rcases List.mem_cons.1 hi with rfl | h1
    · exact h.1
    · exact Obl.get h.2 i h1
def Stages (F:Nat→Nat→Prop):Nat→List Nat→Prop
  | _,[]=>True
  | k,i::t=>F k i∧Stages F (k+1) t
theorem Stages.get {F:Nat→Nat→Prop}:∀ {l:List Nat} {k0:Nat},Stages F k0 l→∀ k i,l[k]? = some i→F (k0+k) i
  | [],_,_,k,i,hi=>by simp at hi
  | j::t,k0,h,0,i,hi=>by simp at hi; subst hi; exact h.1
  | j::t,k0,h,k+1,i,hi=>by
    have:=Stages.get h.2 k i (by simpa using hi)
    rwa [show k0+(k+1)=k0+1+k from by omega]
def dstOf (ops:Array Oper) (j:Nat):Option Nat:=(ops[j]?).bind (·.dst)
def slotsOf (ops:Array Oper) (vals:Nat→Value):List Nat→List (Nat × Value)→List (Nat × Value)
  | [],L=>L
  | j::t,L=>match dstOf ops j with
    | some d=>(d,vals j)::slotsOf ops vals t L
    | none=>slotsOf ops vals t L
def distinctDst (ops:Array Oper) (base:List Nat):Bool :=
  (List.range ops.size).all fun i=>match dstOf ops i with
    | none=>true
    | some d=>(!base.contains d)&&(List.range i).all fun j=>match dstOf ops j with
      | none=>true
      | some d'=>!Nat.beq d d'
theorem fr_slots {vals:Nat→Value} {L0:List (Nat × Value)} (hf:Fr a n ds L0):∀ {l:List Nat},(∀ j ∈ l,∀ d,dstOf ops j=some d→a.tmps[d]? = some (vals j))→Fr a n ds (slotsOf ops vals l L0)
  | [],_=>hf
  | j::t,h=>by
    have ih:=fr_slots (vals:=vals) hf (l:=t) (fun j' hj'=>h j' (by simp [hj']))
    simp only [slotsOf]
    cases hd:dstOf ops j with
    | none=>exact ih
    | some d =>
      refine ⟨ih.size,ih.defers,fun k v hk=>?_⟩
      simp only [lk] at hk
      cases hb:Nat.beq d k with
      | true =>
        rw [hb] at hk
        have:=Nat.eq_of_beq_eq_true hb
        subst this
        simp only [Option.some.injEq] at hk
        subst hk
        exact h j (by simp) d hd
      | false=>rw [hb] at hk; exact ih.get k v hk
def baseKeys:List (Nat × Value)→List Nat
  | []=>[]
  | (k,_)::t=>k::baseKeys t
theorem lk_mem:∀ {L:List (Nat × Value)} {k:Nat} {v:Value},lk L k=some v→k ∈ baseKeys L
  | [],_,_,h=>by simp [lk] at h
  | (k',v')::t,k,v,h=>by
    simp only [lk] at h
    simp only [baseKeys,List.mem_cons]
    cases hb:Nat.beq k' k with
    | true=>exact .inl (Nat.eq_of_beq_eq_true hb).symm
    | false=>rw [hb] at h; exact .inr (lk_mem h)
structure Dr (ops:Array Oper) (n:Nat) (ds:List Deferred) (L0:List (Nat × Value)) (val:γ→Nat→Value) (mk:List Nat) (D:Nat→γ→World→Prop) (listed:Array Bool) (a:Act) (w:World) (g:γ) (k:Nat):Prop where
  fr:Fr a n ds L0
  slot:∀ j d,listed.getD j false=true→dstOf ops j=some d→a.tmps[d]? = some (val g j)
  le:k≤mk.length
  done:∀ j q,mk[j]? = some q→(listed.getD q false=true↔j<k)
  D:D k g w
  size:listed.size=ops.size
end
end Go.SL
