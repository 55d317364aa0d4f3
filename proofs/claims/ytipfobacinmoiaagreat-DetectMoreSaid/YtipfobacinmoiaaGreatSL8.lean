/- Regions that draw their order: a quiet front, and behind it operations that come one after the other. -/
import Derived.Test.YtipfobacinmoiaaGreatSL7
set_option linter.unusedVariables false
set_option linter.unusedSimpArgs false
namespace Go.SL
open Go
section
variable {r:Option Nat} {P:Program} {ops:Array Oper} {Q:Exit→Act→World→Prop} {C:World→Prop} {K:Act→Prop} {m:Nat} {a:Act} {w:World}
def anyM (P:Program) (ops:Array Oper) (C:World→Prop) (K:Act→Prop) (m:Nat):Nat→Array Bool→Act→Prop
  | 0,listed,a=>(∀ i ∈ Region.ready .any ops listed,m≤i)∧K a
  | fuel+1,listed,a=>((∀ i ∈ Region.ready .any ops listed,m≤i)→K a) ∧
      ∀ i ∈ Region.ready .any ops listed,i<m→qOp P ops C i (anyM P ops C K m fuel (listed.setIfInBounds i true)) a
theorem anyM_first {i:Nat} {oi:Oper} {v:Value} (hi:ops[i]? = some oi) (him:i<m) (hsel:∀ (j:Nat) (o:Oper) cs b,ops[j]? = some o→o.op≠.select cs b) :
    ∀ (fuel:Nat) (listed:Array Bool) (a:Act),
      (∀ j oj,ops[j]? = some oj→j≠i→listed.getD j true=false→(∀ e ∈ oj.after,Region.binds .any e=true→e.on≠i)→oi.apart ops oj=true) →
      i ∈ Region.ready .any ops listed→YieldsIn P ops C oi v a →
      anyM P ops C K m fuel (listed.setIfInBounds i true) (a.put oi.dst v)→anyM P ops C K m (fuel+1) listed a:=by
  intro fuel
  induction fuel with
  | zero =>
    intro listed a _ hr hy H
    refine ⟨fun h=>absurd (h i hr) (by omega),fun j hj hjm=>?_⟩
    by_cases hji:j=i
    · subst hji; exact hy.qOp hi H
    · have:=H.1 j (ready_mono hj hji)
      omega
  | succ fuel ih =>
    intro listed a hfree hr hy H
    refine ⟨fun h=>absurd (h i hr) (by omega),fun j hj hjm=>?_⟩
    by_cases hji:j=i
    · subst hji; exact hy.qOp hi H
    · have h1:=H.2 j (ready_mono hj hji) hjm
      obtain ⟨hjun,oj,hoj,hall⟩:=mem_ready.1 hj
      have hnot:∀ e ∈ oj.after,Region.binds .any e=true→e.on≠i:=fun e he hb heq=>by
        have h1:=hall e he hb
        have h0:=(mem_ready.1 hr).1
        rw [heq] at h1
        rcases Nat.lt_or_ge i listed.size with h' | h'
        · simp [h'] at h0 h1; rw [h0] at h1; cases h1
        · simp [Array.getElem?_eq_none h'] at h1
      have h2:=qOp_put hoj (hfree j oj hoj hji hjun hnot) (fun cs b=>hsel i oi cs b hi) (fun cs b=>hsel j oj cs b hoj) hy h1
      have hfree':∀ k ok,ops[k]? = some ok→k≠i→(listed.setIfInBounds j true).getD k true=false →
          (∀ e ∈ ok.after,Region.binds .any e=true→e.on≠i)→oi.apart ops ok=true:=fun k ok hk hki hun hno=>by
        refine hfree k ok hk hki ?_ hno
        by_cases hjk:j=k
        · subst hjk; exact hjun
        · rw [getD_set_ne true hjk] at hun; exact hun
      refine qOp_mono (fun a' h3=>ih (listed.setIfInBounds j true) a' hfree' (ready_mono hr (Ne.symm hji)) h3.1 ?_) h2
      rw [Array.setIfInBounds_comm _ _ hji]
      exact h3.2
def mask (n k:Nat):Array Bool:=((List.range n).map fun i=>decide (i<k)).toArray
theorem mask_size (n k:Nat):(mask n k).size=n:=by simp [mask]
theorem mask_succ {n k:Nat}:(mask n k).setIfInBounds k true=mask n (k+1):=by
  apply Array.ext (by simp [mask])
  intro i h1 h2
  have hi:i<n:=by simpa [mask] using h2
  by_cases e:k=i
  · subst e; simp [mask]
  · rw [Array.getElem_setIfInBounds_ne (by simpa [mask] using hi) e]
    simp only [mask,List.getElem_toArray,List.getElem_map,List.getElem_range]
    congr 1
    exact propext ⟨fun h=>by omega,fun h=>by omega⟩
theorem mask_zero {n:Nat}:mask n 0=Array.replicate n false:=by
  apply Array.ext (by simp [mask])
  intro i h1 h2
  simp [mask]
def Region.lexM (ops:Array Oper):Nat→Nat→Bool
  | 0,k=>(Region.ready .any ops (mask ops.size k)).all (fun i=>Nat.ble k i)
  | n+1,k=>(Region.ready .any ops (mask ops.size k)).contains k&&Region.free .any ops (mask ops.size k) k&&Region.lexM ops n (k+1)
def Region.chain (ops:Array Oper):Nat→Nat→Bool
  | 0,k=>(Region.ready .any ops (mask ops.size k)).isEmpty
  | n+1,k=>(Region.ready .any ops (mask ops.size k) == [k])&&Region.chain ops n (k+1)
theorem anyM_lex (hs:Region.noSelect ops=true):∀ (l:List Oper) (k:Nat) (a:Act),k+l.length=m→(∀ j,j<l.length→l[j]? = ops[k+j]?) →
    Region.lexM ops l.length k=true→wpQuiet P ops C K l a→anyM P ops C K m l.length (mask ops.size k) a
  | [],k,a,hm,_,hB,h=>⟨fun i hi=>by
      simp only [Region.lexM,List.length_nil,List.all_eq_true] at hB
      have:=Nat.le_of_ble_eq_true (hB i hi)
      simp at hm; omega,h⟩
  | o::l,k,a,hm,hl,hB,h=>by
    simp only [List.length_cons] at hm hl
    have h0:ops[k]? = some o:=by simpa using (hl 0 (by omega)).symm
    simp only [List.length_cons,Region.lexM,Bool.and_eq_true] at hB
    obtain ⟨⟨hr,hf⟩,hB'⟩:=hB
    have hst:qOp P ops C k (wpQuiet P ops C K l) a:=by unfold qOp; simp only [h0]; exact h
    obtain ⟨v,hy,hK⟩:=yieldsIn_of_qOp h0 hst
    refine anyM_first h0 (by omega) (Region.noSelect_spec hs) l.length (mask ops.size k) a (Region.free_spec h0 hf) (by simpa using hr) hy ?_
    rw [mask_succ]
    exact anyM_lex hs l (k+1) _ (by omega) (fun j hj=>by have:=hl (j+1) (by omega); simpa [Nat.add_assoc,Nat.add_comm 1 j] using this) hB' hK
theorem wpAnyIn_chain:∀ (n k:Nat) (a:Act) (w:World),k+n=ops.size→Region.chain ops n k=true→O r P ops Q (List.range' k n) a w→wpAnyIn (FW r) 0 P .any ops Q n (mask ops.size k) a w
  | 0,k,a,w,_,hc,h=>⟨by simpa [Region.chain] using hc,h⟩
  | n+1,k,a,w,hk,hc,h=>by
    simp only [Region.chain,Bool.and_eq_true,beq_iff_eq] at hc
    obtain ⟨hr,hc⟩:=hc
    refine ⟨fun h0=>(by rw [hr] at h0; cases h0),fun i hi=>?_⟩
    rw [hr] at hi
    simp only [List.mem_singleton] at hi
    subst hi
    rw [mask_succ]
    unfold O at h
    rw [List.range'_succ,wpOpsIn_cons] at h
    exact wpOpIn_mono (fun a' w' h'=>wpAnyIn_chain n (i+1) a' w' (by omega) hc h') h
def preds (o:Oper):List Nat:=(o.after.toList.filter (fun e=>Region.binds .any e)).map (·.on)
def predsAt (ops:Array Oper) (i:Nat):List Nat:=match ops[i]? with
  | some o=>preds o
  | none=>[]
def mkBm (ops:Array Oper):List (List Nat):=ops.toList.foldl (fun acc o=>acc++[((preds o)++(preds o).flatMap fun p=>acc.getD p []).eraseDups]) []
def vBm (ops:Array Oper) (bm:List (List Nat)):Bool:=(List.range ops.size).all fun i =>
  (bm.getD i []).all fun j=>(predsAt ops i).contains j||(predsAt ops i).any fun p=>(bm.getD p []).contains j
def cover (n m:Nat) (bm:List (List Nat)):Bool:=(List.range n).all fun i=>Nat.blt i m||(List.range m).all fun j=>(bm.getD i []).contains j
def ordB (ops:Array Oper):Bool:=(List.range ops.size).all fun i=>(predsAt ops i).all fun p=>Nat.blt p i
theorem mem_preds {o:Oper} {e:Edge} (he:e ∈ o.after) (hb:Region.binds .any e=true):e.on ∈ preds o :=
  List.mem_map.2 ⟨e,List.mem_filter.2 ⟨by simpa using he,hb⟩,rfl⟩
theorem of_mem_preds {o:Oper} {j:Nat} (h:j ∈ preds o):∃ e ∈ o.after,Region.binds .any e=true∧e.on=j:=by
  obtain ⟨e,he,rfl⟩:=List.mem_map.1 h
  obtain ⟨h1,h2⟩:=List.mem_filter.1 he
  exact ⟨e,by simpa using h1,h2,rfl⟩
theorem bm_in {bm:List (List Nat)} {S:Nat→Prop} (hv:vBm ops bm=true) (hord:ordB ops=true) (hS:∀ i o,S i→ops[i]? = some o→∀ p ∈ preds o,S p) :
    ∀ (i:Nat) (o:Oper),ops[i]? = some o→(∀ p ∈ preds o,S p)→∀ j ∈ bm.getD i [],S j:=by
  intro i
  induction i using Nat.strongRecOn with
  | _ i ih =>
    intro o ho hp j hj
    have hi:i<ops.size:=(Array.getElem?_eq_some_iff.1 ho).1
    have hpa:predsAt ops i=preds o:=by simp [predsAt,ho]
    have h1:=List.all_eq_true.1 hv i (by simpa using hi)
    have h2:=List.all_eq_true.1 h1 j hj
    rw [hpa] at h2
    simp only [Bool.or_eq_true,List.contains_iff_mem,List.any_eq_true] at h2
    rcases h2 with h2 | ⟨p,hpm,hpj⟩
    · exact hp j h2
    · have hlt:p<i:=by
        have:=List.all_eq_true.1 hord i (by simpa using hi)
        rw [hpa] at this
        have:=List.all_eq_true.1 this p hpm
        simpa using this
      have hps:p<ops.size:=by omega
      exact ih p hlt _ (Array.getElem?_eq_getElem hps) (hS p _ (hp p hpm) (Array.getElem?_eq_getElem hps)) j hpj
structure Part (ops:Array Oper) (m k:Nat) (listed:Array Bool):Prop where
  closed:∀ i o,listed.getD i false=true→ops[i]? = some o→∀ p ∈ preds o,listed.getD p false=true
  size:listed.size=ops.size
  low:∀ i,m≤i→i<ops.size→listed.getD i true=false
  count:listed.toList.count true=k
theorem Part.full {listed:Array Bool} (h:Part ops m m listed) (hm:m≤ops.size):listed=mask ops.size m:=by
  have key:∀ (l:List Bool) (m:Nat),(∀ i,m≤i→i<l.length→l.getD i true=false)→l.count true=m→m≤l.length→∀ i,i<l.length→l.getD i true=decide (i<m):=by
    intro l
    induction l with
    | nil=>intro m _ _ _ i hi; simp at hi
    | cons b t ih =>
      intro m hlow hc hle i hi
      cases m with
      | zero =>
        have:=hlow i (Nat.zero_le _) hi
        simpa using this
      | succ m =>
        have hle':t.count true≤t.length:=List.count_le_length
        have hb:b=true:=by
          cases b with
          | true=>rfl
          | false =>
            exfalso
            simp only [List.count_cons] at hc
            have hc':t.count true=m+1:=by simpa using hc
            have hlt:∀ (l:List Bool) (q:Nat),(∀ i,q≤i→i<l.length→l.getD i true=false)→l.count true≤q:=by
              intro l
              induction l with
              | nil=>intro q _; simp
              | cons c s ih2 =>
                intro q hq
                cases q with
                | zero =>
                  have h0:=hq 0 (Nat.le_refl _) (by simp)
                  simp at h0
                  subst h0
                  have:=ih2 0 (fun i _ hi=>by have:=hq (i+1) (by omega) (by simp; omega); simpa using this)
                  simp only [List.count_cons]; simpa using this
                | succ q =>
                  have:=ih2 q (fun i h1 hi=>by have:=hq (i+1) (by omega) (by simp; omega); simpa using this)
                  simp only [List.count_cons]
                  split <;> omega
            have:=hlt t m (fun i h1 hi=>by have:=hlow (i+1) (by omega) (by simp; omega); simpa using this)
            omega
        subst hb
        simp only [List.count_cons,beq_self_eq_true,if_true] at hc
        cases i with
        | zero=>simp
        | succ i =>
          have:=ih m (fun i h1 hi=>by have:=hlow (i+1) (by omega) (by simp; omega); simpa using this) (by omega) (by simp only [List.length_cons] at hle; omega) i (by simp only [List.length_cons] at hi; omega)
          simp only [List.getD_cons_succ,this]
          congr 1
          exact propext ⟨fun h=>by omega,fun h=>by omega⟩
  apply Array.ext (by rw [h.size,mask_size])
  intro i h1 h2
  have hi:i<listed.toList.length:=by simpa using h1
  have:=key listed.toList m (fun i h1 h2=>by
    have:=h.low i h1 (by rw [← h.size]; simpa using h2)
    simpa [Array.getD_eq_getD_getElem?,List.getD_eq_getElem?_getD] using this) h.count (by simp [h.size]; exact hm) i hi
  simp only [mask,List.getElem_toArray,List.getElem_map,List.getElem_range]
  simpa [List.getD_eq_getElem?_getD,List.getElem?_eq_getElem hi] using this
theorem count_set_true:∀ (l:List Bool) (i:Nat),l.getD i true=false→(l.set i true).count true=l.count true+1
  | [],i,h=>by simp at h
  | b::t,0,h=>by simp at h; subst h; simp
  | b::t,i+1,h=>by
    have:=count_set_true t i (by simpa using h)
    simp only [List.set_cons_succ,List.count_cons,this]
    omega
theorem Part.set {listed:Array Bool} {i k:Nat} (h:Part ops m k listed) (hi:i<m) (hr:i ∈ Region.ready .any ops listed):Part ops m (k+1) (listed.setIfInBounds i true):=by
  have hun:=(mem_ready.1 hr).1
  refine ⟨fun j o hj ho p hp=>?_,by simpa using h.size,fun j h1 h2=>?_,?_⟩
  · by_cases e:i=j
    · subst e
      obtain ⟨_,o',ho',hall⟩:=mem_ready.1 hr
      rw [ho] at ho'
      injection ho' with ho'
      subst ho'
      obtain ⟨ed,h1,h2,h3⟩:=of_mem_preds hp
      exact getD_set_true (h3▸hall ed h1 h2)
    · rw [getD_set_ne false e] at hj
      exact getD_set_true (h.closed j o hj ho p hp)
  · rw [getD_set_ne true (by omega)]; exact h.low j h1 h2
  · rw [Array.toList_setIfInBounds,count_set_true _ _ ?_,h.count]
    simpa [Array.getD_eq_getD_getElem?,List.getD_eq_getElem?_getD] using hun
theorem wpAnyIn_of_anyM (hnd:ops.all (fun o=>noDefer o.op)=true) (hm:m≤ops.size) (hordB:ordB ops=true) {bm:List (List Nat)} (hv:vBm ops bm=true) (hcov:cover ops.size m bm=true)
    (hch:Region.chain ops (ops.size-m) m=true) (hK:∀ a w,C w→K a→O r P ops Q (List.range' m (ops.size-m)) a w) :
    ∀ (fuel k:Nat) (listed:Array Bool) (a:Act) (w:World),fuel+k=m→Part ops m k listed→C w→anyM P ops C K m fuel listed a→wpAnyIn (FW r) 0 P .any ops Q (fuel+(ops.size-m)) listed a w
  | 0,k,listed,a,w,hk,hp,hC,h=>by
    have:k=m:=by omega
    subst this
    rw [hp.full hm,Nat.zero_add]
    exact wpAnyIn_chain _ _ _ _ (by omega) hch (hK a w hC h.2)
  | fuel+1,k,listed,a,w,hk,hp,hC,h=>by
    have hex:∃ i,i ∈ Region.ready .any ops listed∧i<m:=by
      have hlt:∃ i,i<m∧listed.getD i true=false:=by
        apply Classical.byContradiction
        intro hno
        have hall:∀ i,i<m→listed.getD i true=true:=fun i hi=>by
          cases hb:listed.getD i true with
          | true=>rfl
          | false=>exact absurd ⟨i,hi,hb⟩ hno
        have hc:∀ (l:List Bool) (q:Nat),q≤l.length→(∀ i,i<q→l.getD i true=true)→q≤l.count true:=by
          intro l
          induction l with
          | nil=>intro q hq _; simp at hq; omega
          | cons b t ih =>
            intro q hq hall
            cases q with
            | zero=>omega
            | succ q =>
              have h0:=hall 0 (by omega)
              simp at h0
              subst h0
              have:=ih q (by simp at hq; omega) (fun i hi=>by have:=hall (i+1) (by omega); simpa using this)
              simp; omega
        have:=hc listed.toList m (by simp [hp.size]; exact hm) (fun i hi=>by
          have:=hall i hi
          simpa [Array.getD_eq_getD_getElem?,List.getD_eq_getElem?_getD] using this)
        rw [hp.count] at this
        omega
      have hleast:∃ i,i<m∧listed.getD i true=false∧∀ j,j<i→listed.getD j true=true:=by
        obtain ⟨i,hi,hu⟩:=hlt
        induction i using Nat.strongRecOn with
        | _ i ih =>
          by_cases hj:∃ j,j<i∧listed.getD j true=false
          · obtain ⟨j,hj1,hj2⟩:=hj
            exact ih j hj1 (by omega) hj2
          · refine ⟨i,hi,hu,fun j hj1=>?_⟩
            cases hb:listed.getD j true with
            | true=>rfl
            | false=>exact absurd ⟨j,hj1,hb⟩ hj
      obtain ⟨i,hi,hu,hall⟩:=hleast
      refine ⟨i,mem_ready.2 ⟨hu,ops[i]'(by omega),Array.getElem?_eq_getElem (by omega),fun e he hb=>?_⟩,hi⟩
      have hpi:predsAt ops i=preds (ops[i]'(by omega)):=by simp [predsAt,Array.getElem?_eq_getElem (show i<ops.size by omega)]
      have h2:=List.all_eq_true.1 hordB i (by simp; omega)
      rw [hpi] at h2
      have:e.on<i:=by simpa using List.all_eq_true.1 h2 e.on (mem_preds he hb)
      have h1:=hall e.on this
      have hsz:e.on<listed.size:=by rw [hp.size]; omega
      simpa [Array.getD_eq_getD_getElem?,hsz] using h1
    obtain ⟨i0,hi0,him0⟩:=hex
    have e1:fuel+1+(ops.size-m)=(fuel+(ops.size-m))+1:=by omega
    rw [e1]
    refine ⟨fun h0=>(by rw [h0] at hi0; cases hi0),fun i hi=>?_⟩
    have hun:=(mem_ready.1 hi).1
    by_cases him:i<m
    · exact wpOpIn_of_qOp hnd hC (fun a' w' hw' h'=>wpAnyIn_of_anyM hnd hm hordB hv hcov hch hK fuel (k+1) _ a' w' (by omega) (hp.set him hi) hw' h') (h.2 i hi him)
    ·
      exfalso
      obtain ⟨_,o,ho,hall⟩:=mem_ready.1 hi
      have his:i<ops.size:=(Array.getElem?_eq_some_iff.1 ho).1
      have hin:=bm_in (S:=fun j=>listed.getD j false=true) hv hordB (fun j o' hj ho' p hp'=>hp.closed j o' hj ho' p hp') i o ho (fun p hpp=>by
        obtain ⟨e,h1,h2,h3⟩:=of_mem_preds hpp
        exact h3▸hall e h1 h2)
      have hc:=List.all_eq_true.1 hcov i (by simpa using his)
      have hnb:Nat.blt i m=false:=by
        cases hb:Nat.blt i m with
        | false=>rfl
        | true=>exact absurd (by simpa using hb) him
      rw [hnb,Bool.false_or] at hc
      have h0:=List.all_eq_true.1 hc i0 (by simpa using him0)
      have h1:=hin i0 (by simpa using h0)
      have h2:=(mem_ready.1 hi0).1
      have hsz:i0<listed.size:=by rw [hp.size]; omega
      simp [hsz] at h1 h2
      rw [h1] at h2
      cases h2
theorem W.drawM {id:Nat} {l₁:List Oper} {l₂:List Nat} (C:World→Prop) (m:Nat) (hmo:P.follows .mixedOrders=true) (hl:ops.toList.take m=l₁) (hl₂:List.range' m (ops.size-m)=l₂) (hm:Nat.ble m ops.size=true)
    (hchk:(Region.noSelect ops&&Region.lexM ops m 0&&Region.chain ops (ops.size-m) m&&ordB ops&&vBm ops (mkBm ops)&&cover ops.size m (mkBm ops)&&ops.all (fun o=>noDefer o.op))=true) (hC:C w.drew)
    (h:OQ P ops C (fun a'=>∀ w',C w'→O r P ops Q l₂ a' w') l₁ a):W r P (.region id ops true) Q a w:=by
  subst hl hl₂
  simp only [Bool.and_eq_true] at hchk
  obtain ⟨⟨⟨⟨⟨⟨h1,h2⟩,h3⟩,h4⟩,h5⟩,h6⟩,h7⟩:=hchk
  have hm:=Nat.le_of_ble_eq_true hm
  have hlen:(ops.toList.take m).length=m:=by simp; omega
  refine wpIn_region_any hmo ?_
  have key:=anyM_lex (P:=P) (C:=C) (K:=fun a'=>∀ w',C w'→O r P ops Q (List.range' m (ops.size-m)) a' w') (m:=m) h1 (ops.toList.take m) 0 a (by omega)
    (fun j hj=>by rw [List.getElem?_take,if_pos (by omega),Array.getElem?_toList,Nat.zero_add]) (by rw [hlen]; exact h2) h
  rw [hlen,mask_zero] at key
  have:=wpAnyIn_of_anyM (r:=r) (Q:=Q) h7 hm h4 h5 h6 h3 (fun a w hC hK=>hK w hC) m 0 _ a { w with drawn:=w.drawn+1 } (by omega) ?_ hC key
  · have e:m+(ops.size-m)=ops.size:=by omega
    rw [e] at this
    exact this
  · refine ⟨fun i o hi=>?_,by simp,fun i h1 h2=>by simp [h2],?_⟩
    · exfalso
      by_cases h:i<ops.size <;> simp [h] at hi
    · simp [List.count_replicate]
end
end Go.SL
