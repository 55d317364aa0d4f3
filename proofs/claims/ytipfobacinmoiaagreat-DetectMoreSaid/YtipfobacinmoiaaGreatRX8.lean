/- Regions whose order is drawn. -/
import Derived.Test.YtipfobacinmoiaaGreatRX7
set_option linter.unusedVariables false
set_option linter.unusedSimpArgs false
namespace Go.SL
open Go
section
variable {r:Option Nat} {P:Program} {ops:Array Oper} {Q:Exit→Act→World→Prop} {a:Act} {w:World}
def preB (ops:Array Oper) (i:Nat):List Nat:=(mkBm ops).getD i []
theorem W.drawG {id:Nat} (J:(Nat→Bool)→Act→World→Prop)
    (hmo:P.follows .mixedOrders=true) (hord:ordB ops=true) (hnd:ops.all (fun o=>noDefer o.op)=true) (hvb:vBm ops (mkBm ops)=true)
    (h0:J (fun _=>false) a w.drew)
    (hstep:∀ i o s a w,ops[i]? = some o→s i=false→(∀ p ∈ preds o,s p=true)→(∀ p ∈ preB ops i,s p=true)→(∀ j,i ∈ preB ops j→s j=false)→J s a w→O r P ops (fun e a' w'=>e=.normal∧(Kept o a a'→J (upd s i) a' w')) [i] a w)
    (hend:∀ s a w,(∀ i,i<ops.size→s i=true)→J s a w→Q .normal a w):W r P (.region id ops true) Q a w:=by
  refine wpIn_region_any hmo ?_
  have key:∀ (fuel:Nat) (listed:Array Bool) (a:Act) (w:World),fuel+listed.toList.count true=ops.size→listed.size=ops.size →
      (∀ j o,listed.getD j false=true→ops[j]? = some o→∀ p ∈ preds o,listed.getD p false=true)→J (fun j=>listed.getD j false) a w →
      wpAnyIn (FW r) 0 P .any ops Q fuel listed a w:=by
    intro fuel
    induction fuel with
    | zero =>
      intro listed a w hc hsize hcl hd
      have hall:∀ i,i<ops.size→listed.getD i true=true:=by
        intro i hi
        have hcl:listed.toList.count true=listed.toList.length:=by
          have:listed.toList.length=ops.size:=by simpa using hsize
          omega
        have:=List.count_eq_length.1 hcl
        have hi':i<listed.size:=by rw [hsize]; exact hi
        have:=this listed[i] (by simp)
        simp [hi',← this]
      have hall':∀ i,i<ops.size→listed.getD i false=true:=fun i hi=>by
        have:=hall i hi
        have hi':i<listed.size:=by rw [hsize]; exact hi
        simpa [hi'] using this
      refine ⟨?_,hend _ a w hall' hd⟩
      apply List.eq_nil_iff_forall_not_mem.2
      intro i hi
      have h1:=mem_ready.1 hi
      obtain ⟨h1,o,ho,_⟩:=h1
      rw [hall i (Array.getElem?_eq_some_iff.1 ho).1] at h1
      cases h1
    | succ fuel ih =>
      intro listed a w hc hsize hcl hd
      have hex:∃ i,i<ops.size∧listed.getD i true=false:=by
        apply Classical.byContradiction
        intro hno
        have hcl:listed.toList.count true=listed.toList.length:=by
          refine List.count_eq_length.2 fun b hb=>?_
          obtain ⟨i,hi,rfl⟩:=List.mem_iff_getElem.1 hb
          have hi':i<listed.size:=by simpa using hi
          cases hbv:listed[i] with
          | true=>simp [hbv]
          | false=>exact absurd ⟨i,by rw [← hsize]; exact hi',by simp [hi',hbv]⟩ hno
        have:listed.toList.length=ops.size:=by simpa using hsize
        omega
      refine ⟨fun h=>?_,fun i hi=>?_⟩
      · obtain ⟨i,hi⟩:=exists_ready hord hsize hex
        rw [h] at hi; cases hi
      obtain ⟨hun,o,ho,hall⟩:=mem_ready.1 hi
      have his:i<ops.size:=(Array.getElem?_eq_some_iff.1 ho).1
      have hil:i<listed.size:=by rw [hsize]; exact his
      have hun':listed.getD i false=false:=by simpa [hil] using hun
      have hprd:∀ p ∈ preds o,listed.getD p false=true:=fun p hp=>by
        obtain ⟨e,h1,h2,h3⟩:=of_mem_preds hp
        exact h3▸hall e h1 h2
      have hbm:∀ q ∈ (mkBm ops).getD i [],listed.getD q false=true:=fun q hq=>bm_in (S:=fun j=>listed.getD j false=true) hvb hord (fun i o h1 h2=>hcl i o h1 h2) i o ho hprd q hq
      have hbmn:∀ j,i ∈ preB ops j→listed.getD j false=false:=fun j hj=>by
        cases hbj:listed.getD j false with
        | false=>rfl
        | true =>
          exfalso
          have hjs:j<ops.size:=by
            rcases Nat.lt_or_ge j ops.size with h | h
            · exact h
            · rw [← hsize] at h; simp [Array.getElem?_eq_none h] at hbj
          have:=bm_in (S:=fun j=>listed.getD j false=true) hvb hord (fun i o h1 h2=>hcl i o h1 h2) j ops[j] (Array.getElem?_eq_getElem hjs) (hcl j _ hbj (Array.getElem?_eq_getElem hjs)) i hj
          rw [hun'] at this; cases this
      have hcnt:fuel+(listed.setIfInBounds i true).toList.count true=ops.size:=by
        rw [Array.toList_setIfInBounds,count_set_true _ _ (by simpa [Array.getD_eq_getD_getElem?,List.getD_eq_getElem?_getD] using hun)]
        omega
      have hback:∀ j,(listed.setIfInBounds i true).getD j false=true→j=i∨listed.getD j false=true:=fun j hj=>by
        by_cases e:i=j
        · exact .inl e.symm
        · rw [getD_set_ne false e] at hj; exact .inr hj
      have hfwd:∀ j,listed.getD j false=true→(listed.setIfInBounds i true).getD j false=true:=fun j hj=>by
        by_cases e:i=j
        · subst e; simp [hil]
        · rw [getD_set_ne false e]; exact hj
      have hcl':∀ j o',(listed.setIfInBounds i true).getD j false=true→ops[j]? = some o'→∀ p ∈ preds o',(listed.setIfInBounds i true).getD p false=true:=fun j o' hj hjo p hp=>by
        rcases hback j hj with rfl | h1
        · rw [ho] at hjo; injection hjo with hjo; subst hjo; exact hfwd p (hprd p hp)
        · exact hfwd p (hcl j o' h1 hjo p hp)
      have e1:(fun j=>(listed.setIfInBounds i true).getD j false)=upd (fun j=>listed.getD j false) i:=by
        funext j
        unfold upd
        cases hji:Nat.beq j i with
        | true =>
          have:=Nat.eq_of_beq_eq_true hji
          subst this
          simp [hil]
        | false =>
          have hne:i≠j:=fun e=>by rw [e] at hji; simp [Nat.beq_refl] at hji
          simp only
          rw [getD_set_ne false hne]
      refine wpOpIn_mono (fun a' w' hR=>?_) (O.keep ho (hstep i o (fun j=>listed.getD j false) a w ho hun' hprd hbm hbmn hd))
      obtain ⟨h1,h5⟩:=hR
      refine ih _ a' w' hcnt (by simpa using hsize) hcl' ?_
      rw [e1]; exact h1 h5
  have e0:(fun j=>(Array.replicate ops.size false).getD j false)=fun _=>false:=by
    funext j
    by_cases h:j<ops.size <;> simp [h]
  refine key ops.size (Array.replicate ops.size false) a { w with drawn:=w.drawn+1 } (by simp [List.count_replicate]) (by simp) (fun j o hj=>?_) (by rw [e0]; exact h0)
  exfalso
  by_cases h:j<ops.size <;> simp [h] at hj
end
end Go.SL
