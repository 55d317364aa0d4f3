/- Regions that draw their order: a quiet front, and behind it operations that come one after the other. -/
import Derived.Test.YtfaflenaajafgaaGreatDoorSL7
set_option linter.unusedVariables false
set_option linter.unusedSimpArgs false
namespace Go.SL
open Go
section
variable {r:Option Nat} {P:Program} {ops:Array Oper} {Q:Exit→Act→World→Prop} {C:World→Prop} {K:Act→Prop} {m:Nat} {a:Act} {w:World}
def anyM (P:Program) (ops:Array Oper) (C:World→Prop) (K:Act→Prop) (m:Nat):Nat→Array Bool→Act→Prop
  | 0,listed,a=>(∀ i ∈ Region.ready .any ops listed,m≤i)∧K a
  | fuel+1,listed,a=>((∀ i ∈ Region.ready .any ops listed,m≤i)→K a) ∧
      ∀ i ∈ Region.ready .any ops listed,i<m→qOp P ops C i (anyM P ops C K m fuel (listed.setIfInBounds i true)) a
def mask (n k:Nat):Array Bool:=((List.range n).map fun i=>decide (i<k)).toArray
def Region.lexM (ops:Array Oper):Nat→Nat→Bool
  | 0,k=>(Region.ready .any ops (mask ops.size k)).all (fun i=>Nat.ble k i)
  | n+1,k=>(Region.ready .any ops (mask ops.size k)).contains k&&Region.free .any ops (mask ops.size k) k&&Region.lexM ops n (k+1)
def Region.chain (ops:Array Oper):Nat→Nat→Bool
  | 0,k=>(Region.ready .any ops (mask ops.size k)).isEmpty
  | n+1,k=>(Region.ready .any ops (mask ops.size k) == [k])&&Region.chain ops n (k+1)
def preds (o:Oper):List Nat:=(o.after.toList.filter (fun e=>Region.binds .any e)).map (·.on)
def predsAt (ops:Array Oper) (i:Nat):List Nat:=match ops[i]? with
  | some o=>preds o
  | none=>[]
def mkBm (ops:Array Oper):List (List Nat):=ops.toList.foldl (fun acc o=>acc++[((preds o)++(preds o).flatMap fun p=>acc.getD p []).eraseDups]) []
def vBm (ops:Array Oper) (bm:List (List Nat)):Bool:=(List.range ops.size).all fun i =>
  (bm.getD i []).all fun j=>(predsAt ops i).contains j||(predsAt ops i).any fun p=>(bm.getD p []).contains j
def cover (n m:Nat) (bm:List (List Nat)):Bool:=(List.range n).all fun i=>Nat.blt i m||(List.range m).all fun j=>(bm.getD i []).contains j
def ordB (ops:Array Oper):Bool:=(List.range ops.size).all fun i=>(predsAt ops i).all fun p=>Nat.blt p i
theorem mem_preds {o:Oper} {e:Edge} (he:e ∈ o.after) (hb:Region.binds .any e=true):e.on ∈ preds o :=
  List.mem_map.2 ⟨e,List.mem_filter.2 ⟨by simpa using he,hb⟩,rfl⟩
theorem of_mem_preds {o:Oper} {j:Nat} (h:j ∈ preds o):∃ e ∈ o.after,Region.binds .any e=true∧e.on=j:=by
  obtain ⟨e,he,rfl⟩:=List.mem_map.1 h
  obtain ⟨h1,h2⟩:=List.mem_filter.1 he
  exact ⟨e,by simpa using h1,h2,rfl⟩
theorem bm_in {bm:List (List Nat)} {S:Nat→Prop} (hv:vBm ops bm=true) (hord:ordB ops=true) (hS:∀ i o,S i→ops[i]? = some o→∀ p ∈ preds o,S p) :
    ∀ (i:Nat) (o:Oper),ops[i]? = some o→(∀ p ∈ preds o,S p)→∀ j ∈ bm.getD i [],S j:=by
  intro i
  induction i using Nat.strongRecOn with
  | _ i ih =>
    intro o ho hp j hj
    have hi:i<ops.size:=(Array.getElem?_eq_some_iff.1 ho).1
    have hpa:predsAt ops i=preds o:=by simp [predsAt,ho]
    have h1:=List.all_eq_true.1 hv i (by simpa using hi)
    have h2:=List.all_eq_true.1 h1 j hj
    rw [hpa] at h2
    simp only [Bool.or_eq_true,List.contains_iff_mem,List.any_eq_true] at h2
    rcases h2 with h2 | ⟨p,hpm,hpj⟩
    · exact hp j h2
    · have hlt:p<i:=by
        have:=List.all_eq_true.1 hord i (by simpa using hi)
        rw [hpa] at this
        have:=List.all_eq_true.1 this p hpm
        simpa using this
      have hps:p<ops.size:=by omega
      exact ih p hlt _ (Array.getElem?_eq_getElem hps) (hS p _ (hp p hpm) (Array.getElem?_eq_getElem hps)) j hpj
structure Part (ops:Array Oper) (m k:Nat) (listed:Array Bool):Prop where
  closed:∀ i o,listed.getD i false=true→ops[i]? = some o→∀ p ∈ preds o,listed.getD p false=true
  size:listed.size=ops.size
  low:∀ i,m≤i→i<ops.size→listed.getD i true=false
  count:listed.toList.count true=k
theorem count_set_true:∀ (l:List Bool) (i:Nat),l.getD i true=false→(l.set i true).count true=l.count true+1
  | [],i,h=>by simp at h
  | b::t,0,h=>by simp at h; subst h; simp
  | b::t,i+1,h=>by
    have:=count_set_true t i (by simpa using h)
    simp only [List.set_cons_succ,List.count_cons,this]
    omega
theorem Part.set {listed:Array Bool} {i k:Nat} (h:Part ops m k listed) (hi:i<m) (hr:i ∈ Region.ready .any ops listed):Part ops m (k+1) (listed.setIfInBounds i true):=by
  have hun:=(mem_ready.1 hr).1
  refine ⟨fun j o hj ho p hp=>?_,by simpa using h.size,fun j h1 h2=>?_,?_⟩
  · by_cases e:i=j
    · subst e
      obtain ⟨_,o',ho',hall⟩:=mem_ready.1 hr
      rw [ho] at ho'
      injection ho' with ho'
      subst ho'
      obtain ⟨ed,h1,h2,h3⟩:=of_mem_preds hp
      exact getD_set_true (h3▸hall ed h1 h2)
    · rw [getD_set_ne false e] at hj
      exact getD_set_true (h.closed j o hj ho p hp)
  · rw [getD_set_ne true (by omega)]; exact h.low j h1 h2
  · rw [Array.toList_setIfInBounds,count_set_true _ _ ?_,h.count]
    simpa [Array.getD_eq_getD_getElem?,List.getD_eq_getElem?_getD] using hun
end
end Go.SL
