/- Part of a proof: laws and walks. -/
import Derived.Test.YtgakdmmmljdpjaaDoorTab
import Derived.Laws.Slices
import Derived.MapKept
import Derived.RangeFuncOwn
import Derived.RangeFuncLeaves
import Derived.ArgAppend
import Derived.RecoverIn
import Derived.Laws.RangeString
set_option linter.unusedVariables false
set_option linter.unusedSimpArgs false
namespace Go.SL
open Go
def empA:Asr:=⟨fun _=>False,fun _=>True,fun _ _ _ h=>h⟩
def condA (c:Bool) (p:Asr):Asr:=match c with
  | true=>p
  | false=>empA
section
variable {r:Option Nat} {P:Program} {ops:Array Oper} {Q:Exit→Act→World→Prop} {a:Act} {w w0:World} {n:Nat} {ds:List Deferred} {γ:Type} {X:Nat→Prop} {B M:List Asr}
theorem St.emp (h:St w0 w X B M):St w0 w X B (empA::M):=h.pushE trivial (fun _ h=>h)
theorem O.allocC {i d j:Nat} {rest:List Nat} {L:List (Nat × Value)} {t ty:TypeId} {pos:String} {af:Array Edge} {z:Value} {cs:Array Value} {c:Bool} {p:Asr} (hf:Fr a n ds L) (hS:St w0 w X B M) (hj:M[j]? = some (condA c p)) (hc:c=false) (ho:ops[i]? = some ⟨some d,.alloc t,ty,pos,af,none⟩) (hd:Nat.blt d n=true) (hz:tZero P t=some z) (hzc:z.cells=cs)
    (k:∀ b w' a',St w0 w' X B (M.set j (pt b (Cs cs t)))→Fr a' n ds ((d,Pv b 0)::L)→O r P ops Q rest a' w'):O r P ops Q (i::rest) a w:=by
  refine O.alloc hf hS ho hd hz hzc (fun b w' a' hb hS' hf'=>k b w' a' ?_ hf')
  subst hc
  have h1:=hS'.sep
  have hjj:(pt b (Cs cs t)::M)[j+1]? = some (condA false p):=by simpa using hj
  obtain ⟨hjl,hje⟩:=List.getElem?_eq_some_iff.1 hj
  refine ⟨hS'.os,hS'.tape,hS'.output,hS'.size,hS'.old,?_,hS'.bor⟩
  have hp:=h1.1
  have hM:=h1.2
  clear h1 hjj hS hS' k hf hf' ho
  revert j
  induction M with
  | nil=>intro j hj hjl _; simp at hj
  | cons q t ih =>
    intro j hj hjl hje
    cases j with
    | zero =>
      simp only [List.set_cons_zero]
      exact ⟨⟨hp.1,hp.2.1,fun s hs=>hp.2.2 s (by simp [hs])⟩,hM.2⟩
    | succ j =>
      simp only [List.set_cons_succ]
      have h2:=ih ⟨hp.1,hp.2.1,fun s hs=>hp.2.2 s (by simp [hs])⟩ hM.2 (j:=j) (by simpa using hj) (by simpa using hjl) (by simpa using hje)
      refine ⟨⟨hM.1.1,hM.1.2.1,fun s hs b' hb' hsb=>?_⟩,h2⟩
      rcases List.mem_or_eq_of_mem_set hs with h3 | h3
      · exact hM.1.2.2 s h3 b' hb' hsb
      · subst h3
        exact hp.2.2 q (by simp) b' hsb hb'
theorem O.normal {Q':Exit→Act→World→Prop} {R:Act→World→Prop} {l:List Nat} (h:O r P ops (fun e a w=>e=.normal∧R a w) l a w) (hq:∀ a w,R a w→Q' .normal a w):O r P ops Q' l a w:=by
  have:=O.cut (Q:=Q') (l₂:=[]) R h (fun a w hr=>O.nil (hq a w hr))
  simpa using this
theorem oblOf {F:Nat→Prop}:∀ {l:List Nat},(∀ i ∈ l,F i)→Obl F l
  | [],_=>trivial
  | i::t,h=>⟨h i (by simp),oblOf fun j hj=>h j (by simp [hj])⟩
def inl (al:List Nat) (s:Nat→Bool):Nat→Bool:=fun p=>al.contains p&&s p
theorem W.drawC {id:Nat} {L0 L1:List (Nat × Value)} (g0:γ) (mk al qs:List Nat) (pl lo hi ma af ol:Nat→List Nat) (lov hiv:Nat→Nat) (val:γ→Nat→Value) (D:Nat→(Nat→Bool)→γ→World→Prop)
    (hmo:P.follows .mixedOrders=true)
    (hlo:(mk++al++qs).all (fun i=>lo i == mk.take (lov i)++ma i&&hi i == mk.drop (hiv i)&&(ma i).all al.contains&&Nat.ble (lov i) mk.length)=true)
    (hmk:(List.range mk.length).all (fun j=>Nat.beq (lov (mk.getD j 0)) j&&!al.contains (mk.getD j 0)&&(List.range j).all fun t=>!Nat.beq (mk.getD t 0) (mk.getD j 0))=true)
    (hchk:(ordB ops&&ops.all (fun o=>noDefer o.op)&&distinctDst ops (baseKeys L0)&&(List.range ops.size).all (fun i=>(qs.contains i||(mk++al).contains i)&&(pl i).all (fun p=>(predsAt ops i).contains p)&&(lo i).all (fun p=>((mkBm ops).getD i []).contains p&&(mk++al).contains p)&&(hi i).all (fun j=>((mkBm ops).getD j []).contains i)&&(ol i).all (oldOK ops L1 i))&&(mk++al).all (fun i=>Nat.blt i ops.size)
      && vBm ops (mkBm ops)&&(mk++al).all (fun i=>(af i).all fun j=>((mkBm ops).getD j []).contains i)&&qs.all (fun i=>!(mk++al).contains i))=true)
    (hf:Fr a n ds L0) (hf1:Fr a n ds L1) (h0:D 0 (fun _=>false) g0 w.drew)
    (hq:Obl (fun i=>∀ k s g w,lov i≤k→k≤hiv i→(∀ p ∈ ma i,s p=true)→D k s g w→∀ a,Fr a n ds (slotsOf ops (val g) (pl i) (oldL L1 (ol i) L0))→O r P ops (fun e a' w'=>e=.normal∧Fr a' n ds []∧(∀ d,dstOf ops i=some d→a'.tmps[d]? = some (val g i))∧D k s g w') [i] a w) qs)
    (hm:Stages (fun k i=>∀ s g w,(∀ p ∈ ma i,s p=true)→D k s g w→∀ a,Fr a n ds (slotsOf ops (val g) (pl i) (oldL L1 (ol i) L0))→O r P ops (fun e a' w'=>e=.normal∧∃ g',Fr a' n ds []∧(∀ d,dstOf ops i=some d→a'.tmps[d]? = some (val g' i))∧(∀ j,j≠i→(af i).contains j=false→val g' j=val g j)∧D (k+1) s g' w') [i] a w) 0 mk)
    (ha:Obl (fun i=>∀ k s g w,lov i≤k→k≤hiv i→s i=false→D k s g w→∀ a,Fr a n ds (slotsOf ops (val g) (pl i) (oldL L1 (ol i) L0))→O r P ops (fun e a' w'=>e=.normal∧∃ g',Fr a' n ds []∧(∀ d,dstOf ops i=some d→a'.tmps[d]? = some (val g' i))∧(∀ j,j≠i→(af i).contains j=false→val g' j=val g j)∧D k (upd s i) g' w') [i] a w) al)
    (hend:∀ s g a w,(∀ i ∈ al,s i=true)→Fr a n ds (slotsOf ops (val g) (List.range ops.size) L0)→D mk.length s g w→Q .normal a w):W r P (.region id ops true) Q a w:=by
  have hlo':∀ i,i ∈ mk∨i ∈ al∨i ∈ qs→lo i=mk.take (lov i)++ma i∧hi i=mk.drop (hiv i)∧(∀ p ∈ ma i,al.contains p=true)∧lov i≤mk.length:=fun i h=>by
    have:=List.all_eq_true.1 hlo i (by simpa [or_assoc] using h)
    simp only [Bool.and_eq_true,beq_iff_eq,List.all_eq_true] at this
    exact ⟨this.1.1.1,this.1.1.2,this.1.2,Nat.le_of_ble_eq_true this.2⟩
  have hmk':∀ j q,mk[j]? = some q→lov q=j∧al.contains q=false∧∀ t,t<j→mk[t]?≠some q:=fun j q hj=>by
    have hjl:=(List.getElem?_eq_some_iff.1 hj).1
    have h:=List.all_eq_true.1 hmk j (by simpa using hjl)
    have e:mk.getD j 0=q:=by simp [List.getD_eq_getElem?_getD,hj]
    rw [e] at h
    simp only [Bool.and_eq_true,Bool.not_eq_true',List.all_eq_true,List.mem_range] at h
    refine ⟨Nat.eq_of_beq_eq_true h.1.1,h.1.2,fun t ht htq=>?_⟩
    have:=h.2 t ht
    simp [List.getD_eq_getElem?_getD,htq,Nat.beq_refl] at this
  refine W.drawP (L0:=L0) (L1:=L1) g0 (mk++al) qs pl lo hi af ol val
    (fun s g w=>∃ k,k≤mk.length∧(∀ j q,mk[j]? = some q→(s q=true↔j<k))∧D k (inl al s) g w) hmo hchk hf hf1 ⟨0,Nat.zero_le _,fun j q _=>by simp,?_⟩ ?_ ?_ ?_
  · have:inl al (fun _=>false)=fun _=>false:=by funext p; simp [inl]
    rw [this]; exact h0
  all_goals try clear h0 hchk hlo hmk
  ·
    have key:∀ i ∈ qs,∀ s g w,(∀ p ∈ lo i,s p=true)→(∀ j ∈ hi i,s j=false)→(∃ k,k≤mk.length∧(∀ j q,mk[j]? = some q→(s q=true↔j<k))∧D k (inl al s) g w)→∀ a,Fr a n ds (slotsOf ops (val g) (pl i) (oldL L1 (ol i) L0)) →
        O r P ops (fun e a' w'=>e=.normal∧Fr a' n ds []∧(∀ d,dstOf ops i=some d→a'.tmps[d]? = some (val g i))∧(∃ k,k≤mk.length∧(∀ j q,mk[j]? = some q→(s q=true↔j<k))∧D k (inl al s) g w')) [i] a w:=by
      intro i hi' s g w hsp hsb ⟨k,hk,hks,hD⟩ a hfr
      obtain ⟨e1,e2,e3,e4⟩:=hlo' i (.inr (.inr hi'))
      have h:=Obl.get hq i hi' k (inl al s) g w ?_ ?_ ?_ hD a hfr
      · exact O.normal h fun a' w' ⟨h2,h3,h4⟩=>⟨rfl,h2,h3,k,hk,hks,h4⟩
      · rcases Nat.eq_zero_or_pos (lov i) with h | h
        · omega
        · have hl:lov i-1<mk.length:=by omega
          have:=hsp mk[lov i-1] (by rw [e1]; exact List.mem_append_left _ (List.mem_take_iff_getElem.2 ⟨lov i-1,by omega,rfl⟩))
          have:=(hks _ _ (List.getElem?_eq_getElem hl)).1 this
          omega
      · rcases Nat.lt_or_ge (hiv i) k with h | h
        · exfalso
          have hl:hiv i<mk.length:=by omega
          have h5:=hsb mk[hiv i] (by rw [e2]; exact List.mem_drop_iff_getElem.2 ⟨0,by omega,by simp⟩)
          have:=(hks _ _ (List.getElem?_eq_getElem hl)).2 h
          rw [h5] at this; cases this
        · exact h
      · intro p hp
        simp only [inl,e3 p hp,Bool.true_and]
        exact hsp p (by rw [e1]; exact List.mem_append_right _ hp)
    exact oblOf key
  · have key:∀ i ∈ mk++al,∀ s g w,s i=false→(∀ p ∈ lo i,s p=true)→(∀ j ∈ hi i,s j=false)→(∃ k,k≤mk.length∧(∀ j q,mk[j]? = some q→(s q=true↔j<k))∧D k (inl al s) g w)→∀ a,Fr a n ds (slotsOf ops (val g) (pl i) (oldL L1 (ol i) L0)) →
        O r P ops (fun e a' w'=>e=.normal∧∃ g',Fr a' n ds []∧(∀ d,dstOf ops i=some d→a'.tmps[d]? = some (val g' i))∧(∀ j,j≠i→(af i).contains j=false→val g' j=val g j)∧(∃ k,k≤mk.length∧(∀ j q,mk[j]? = some q→(upd s i q=true↔j<k))∧D k (inl al (upd s i)) g' w')) [i] a w:=by
      intro i hi' s g w hs0 hsp hsb ⟨k,hk,hks,hD⟩ a hfr
      rcases List.mem_append.1 hi' with him | hia
      · obtain ⟨j,hj⟩:=List.getElem?_of_mem him
        obtain ⟨f1,f2,f3⟩:=hmk' j i hj
        obtain ⟨e1,e2,e3,e4⟩:=hlo' i (.inl him)
        have hjl:=(List.getElem?_eq_some_iff.1 hj).1
        have hkj:k=j:=by
          have h1:¬ j<k:=fun h=>by have:=(hks j i hj).2 h; rw [hs0] at this; cases this
          rcases Nat.lt_or_ge k j with h2 | h2
          · exfalso
            have hkl:k<mk.length:=by omega
            have:=hsp mk[k] (by rw [e1,f1]; exact List.mem_append_left _ (List.mem_take_iff_getElem.2 ⟨k,by omega,rfl⟩))
            have:=(hks k _ (List.getElem?_eq_getElem hkl)).1 this
            omega
          · omega
        subst hkj
        have h:=Stages.get hm k i hj
        rw [Nat.zero_add] at h
        have h:=h (inl al s) g w (fun p hp=>by simp only [inl,e3 p hp,Bool.true_and]; exact hsp p (by rw [e1]; exact List.mem_append_right _ hp)) hD a hfr
        refine O.normal h fun a' w' ⟨g',h2,h3,h4,h5⟩=>⟨rfl,g',h2,h3,h4,k+1,by omega,fun t q ht=>?_,?_⟩
        · unfold upd
          cases hb:Nat.beq q i with
          | true =>
            have:=Nat.eq_of_beq_eq_true hb
            subst this
            have htk:t=k:=by
              rcases Nat.lt_or_ge t k with h6 | h6
              · exact absurd ht (f3 t h6)
              · rcases Nat.lt_or_ge k t with h7 | h7
                · exact absurd hj ((hmk' t q ht).2.2 k h7)
                · omega
            subst htk
            simp
          | false =>
            simp only
            rw [hks t q ht]
            constructor
            · intro h; omega
            · intro h
              have:t≠k:=fun e=>by
                subst e
                rw [hj] at ht
                injection ht with ht
                subst ht
                simp [Nat.beq_refl] at hb
              omega
        · have e5:inl al (upd s i)=inl al s:=by
            funext p
            unfold inl upd
            cases hb:Nat.beq p i with
            | true =>
              have:=Nat.eq_of_beq_eq_true hb
              subst this
              simp only [f2,Bool.false_and]
            | false=>rfl
          rw [e5]; exact h5
      · obtain ⟨e1,e2,e3,e4⟩:=hlo' i (.inr (.inl hia))
        have hnm:∀ t q,mk[t]? = some q→q≠i:=fun t q ht e=>by
          subst e
          have:=(hmk' t q ht).2.1
          simp at this
          exact this hia
        have hci:al.contains i=true:=by simpa using hia
        have h:=Obl.get ha i hia k (inl al s) g w ?_ ?_ (by simp only [inl,hs0,Bool.and_false]) hD a hfr
        · refine O.normal h fun a' w' ⟨g',h2,h3,h4,h5⟩=>⟨rfl,g',h2,h3,h4,k,hk,fun t q ht=>?_,?_⟩
          · have:Nat.beq q i=false:=by
              cases hb:Nat.beq q i with
              | true=>exact absurd (Nat.eq_of_beq_eq_true hb) (hnm t q ht)
              | false=>rfl
            unfold upd
            rw [this]
            exact hks t q ht
          · have e5:inl al (upd s i)=upd (inl al s) i:=by
              funext p
              unfold inl upd
              cases hb:Nat.beq p i with
              | true =>
                have:=Nat.eq_of_beq_eq_true hb
                subst this
                simp only [hci,Bool.true_and]
              | false=>rfl
            rw [e5]; exact h5
        · rcases Nat.eq_zero_or_pos (lov i) with h | h
          · omega
          · have hl:lov i-1<mk.length:=by omega
            have:=hsp mk[lov i-1] (by rw [e1]; exact List.mem_append_left _ (List.mem_take_iff_getElem.2 ⟨lov i-1,by omega,rfl⟩))
            have:=(hks _ _ (List.getElem?_eq_getElem hl)).1 this
            omega
        · rcases Nat.lt_or_ge (hiv i) k with h | h
          · exfalso
            have hl:hiv i<mk.length:=by omega
            have h5:=hsb mk[hiv i] (by rw [e2]; exact List.mem_drop_iff_getElem.2 ⟨0,by omega,by simp⟩)
            have:=(hks _ _ (List.getElem?_eq_getElem hl)).2 h
            rw [h5] at this; cases this
          · exact h
    exact oblOf key
  · rintro s g a w hall hfr ⟨k,hk,hks,hD⟩
    have hkl:k=mk.length:=by
      rcases Nat.lt_or_ge k mk.length with h | h
      · exfalso
        have:=hall mk[k] (List.mem_append_left _ (List.getElem_mem h))
        have:=(hks k _ (List.getElem?_eq_getElem h)).1 this
        omega
      · omega
    subst hkl
    exact hend (inl al s) g a w (fun i hi=>by simp only [inl]; rw [show al.contains i=true by simpa using hi]; exact hall i (List.mem_append_right _ hi)) hfr hD
theorem Q.val {i d:Nat} {op:Op} {ty:TypeId} {pos:String} {af:Array Edge} {L:List (Nat × Value)} {v:Value} {R:World→Prop} (ho:ops[i]? = some ⟨some d,op,ty,pos,af,none⟩) (hnd:noDefer op=true) (hd:Nat.blt d n=true) (hR:R w) (hf:Fr a n ds L) (hr:RunV P n ds L op ty w v w) :
    O r P ops (fun e a' w'=>e=.normal∧Fr a' n ds []∧(∀ d',dstOf ops i=some d'→a'.tmps[d']? = some v)∧R w') [i] a w:=by
  refine O.val hf ho hnd hd hr (fun a' hf'=>O.nil ⟨rfl,hf'.to trivial,fun d' hd'=>?_,hR⟩)
  have e:dstOf ops i=some d:=by simp [dstOf,ho]
  rw [e] at hd'
  injection hd' with hd'
  subst hd'
  exact hf'.get _ _ (by simp [lk,Nat.beq_refl])
end
end Go.SL

namespace Go.SL
open Go
def vsub (sz:Nat) (v:Value) (a b:Int):Value :=
  match v with
  | .slice A _ c=>.slice (if c=a.toNat then A else A.map (·.add (a.toNat*sz))) (b.toNat-a.toNat) (c-a.toNat)
  | _=>undef
def lsub {T:Type} (l:List T) (a b:Int):List T:=(l.take b.toNat).drop a.toNat
def sbd (a b n:Int):Prop:=0≤a∧a≤b∧b≤n
instance (a b n:Int):Decidable (sbd a b n):=by unfold sbd; infer_instance
section
variable {T:Type} {enc:T→List Value} {sz:Nat} {l:List T} {h:Hp} {v:Value} {a b:Int} {x0:T}
theorem encs_take (he:∀ x,(enc x).length=sz):∀ (l:List T) (k:Nat),encs enc (l.take k)=(encs enc l).take (k*sz)
  | [],k=>by simp [encs]
  | x::t,0=>by simp [encs]
  | x::t,k+1=>by
    have ih:=encs_take he t k
    simp only [encs] at ih
    simp only [encs,List.take_succ_cons,List.flatMap_cons,ih]
    have h1:(k+1)*sz=sz+k*sz:=by rw [Nat.add_mul]; omega
    rw [List.take_append,he,h1,List.take_of_length_le (l:=enc x) (by rw [he]; omega),Nat.add_sub_cancel_left]
theorem encs_drop (he:∀ x,(enc x).length=sz):∀ (l:List T) (k:Nat),encs enc (l.drop k)=(encs enc l).drop (k*sz)
  | [],k=>by simp [encs]
  | x::t,0=>by simp
  | x::t,k+1=>by
    have ih:=encs_drop he t k
    simp only [encs] at ih
    simp only [encs,List.drop_succ_cons,List.flatMap_cons,ih]
    have h1:(k+1)*sz=sz+k*sz:=by rw [Nat.add_mul]; omega
    rw [List.drop_append,he,h1,List.drop_of_length_le (l:=enc x) (by rw [he]; omega),Nat.add_sub_cancel_left,List.nil_append]
theorem lsub_len (hb:sbd a b (l.length:Int)):(lsub l a b).length=b.toNat-a.toNat:=by
  unfold lsub; obtain ⟨h1,h2,h3⟩:=hb; simp; omega
theorem rdEOK.sub (hr:rdEOK h sz enc v l) (he:∀ x,(enc x).length=sz) (hb:sbd a b (l.length:Int)):rdEOK h sz enc (vsub sz v a b) (lsub l a b):=by
  obtain ⟨⟨h1,h2,A,c,rfl,h3⟩,hfit⟩:=hr
  have hfit:l.length≤c:=hfit
  have hl:=lsub_len hb
  obtain ⟨b1,b2,b3⟩:=hb
  refine ⟨⟨by rw [encs_len he],by omega,?_⟩,?_⟩
  · refine ⟨_,_,by rw [hl]; rfl,fun hn=>?_⟩
    rw [hl] at hn
    obtain ⟨p,cur,e,z,rfl,hs,hg,hc⟩:=h3 (by omega)
    refine ⟨p.add (a.toNat*sz),cur,e,z,?_,?_,?_,?_⟩
    · rw [if_neg (by omega)]; rfl
    · obtain ⟨g,o,s⟩:=p
      simp only at hs; subst hs; simp [add_none]
    · obtain ⟨g,o,s⟩:=p
      simp only at hs; subst hs; simpa [add_none] using hg
    · intro j u hu
      obtain ⟨g,o,s⟩:=p
      simp only at hs; subst hs
      simp only [add_none]
      rw [Nat.add_assoc]
      apply hc
      unfold lsub at hu
      rw [encs_drop he,encs_take he,List.getElem?_drop,List.getElem?_take] at hu
      split at hu
      · exact hu
      · cases hu
  · show b.toNat-a.toNat≤c-a.toNat
    omega
theorem slOK.sub {e:TypeId} (hs:slOK h e sz v l.length (encs enc l)) (he:∀ x,(enc x).length=sz) (hb:sbd 0 b (l.length:Int)):slOK h e sz (vsub sz v 0 b) (lsub l 0 b).length (encs enc (lsub l 0 b)):=by
  have hl:=lsub_len hb
  obtain ⟨b1,b2,b3⟩:=hb
  refine ⟨by rw [encs_len he],?_⟩
  rw [hl]
  rcases hs.2 with ⟨rfl,h0⟩ | ⟨g,cap,cur,rfl,hg,h1,h2,h3,h4⟩
  · have:b.toNat=0:=by omega
    refine .inl ⟨?_,by simp; omega⟩
    simp [vsub,this]
  · refine .inr ⟨g,cap,cur,?_,hg,by simp; omega,h2,h3,?_⟩
    · simp [vsub,add_none]
    · unfold lsub
      simp only [Int.toNat_zero,List.drop_zero,Nat.sub_zero]
      rw [encs_take he,← h4,List.take_take]
      congr 1
      have:b.toNat*sz≤l.length*sz:=Nat.mul_le_mul_right _ (by omega)
      omega
end
section
variable {T:Type} {enc:T→List Value} {sz:Nat} {l:List T} {x0:T}
variable {P:Program} {w w0:World} {n:Nat} {ds:List Deferred} {L:List (Nat × Value)} {ty t e:TypeId} {x y lo hi:Operand} {v:Value} {X:Nat→Prop} {B M M':List Asr} {p q:Int} {k k':IntKind} {j:Nat}
theorem run_sub (he:tElem P t=some e) (hs:tSize P e=some sz) (hr:rdEOK (hp w) sz enc v l) (lo' hi':Option Value)
    (hb:sbd p q (l.length:Int)) (hlo:lo'=none∧p=0∨∃ k,lo'=some (.int k p)) (hhi:hi'=none∧q=l.length∨∃ k,hi'=some (.int k q)) :
    (Instr.sliceAt t v lo' hi' none).run P w=.ok (vsub sz v p q) w:=by
  obtain ⟨⟨h1,h2,A,c,rfl,h3⟩,hfit⟩:=hr
  have hfit:l.length≤c:=hfit
  obtain ⟨b1,b2,b3⟩:=hb
  have ht:=und_elem he
  have ht:P.underlying t=some (.slice (P.elem t)):=by rw [ht]; simp [Program.elem,ht]
  have hel:P.elem t=e:=by
    have:=und_elem he
    rw [this] at ht
    simpa using ht.symm
  rw [run_sliceAt_slice _ _ _ _ _ _ ht]
  have hsz:(sizeOf (P.elem t)).run P w=.ok sz w:=by rw [hel]; exact run_sizeOf hs
  rcases hlo with ⟨rfl,rfl⟩ | ⟨k,rfl⟩ <;> rcases hhi with ⟨rfl,rfl⟩ | ⟨k',rfl⟩
  · rw [run_slice_all _ _ _ _ _ ht,hsz]; simp [sliced,vsub,Result.andThen]
  · rw [run_slice_h _ _ _ _ _ ht _ _ b2 (by omega),hsz]; simp [sliced,vsub,Result.andThen]
  · rw [run_slice_l _ _ _ _ _ ht _ _ b1 (by omega),hsz]; simp [sliced,vsub,Result.andThen]
  · rw [run_slice_lh _ _ _ _ _ ht _ _ _ _ b1 b2 (by omega),hsz]; simp [sliced,vsub,Result.andThen]
theorem RunV.sliceH (he:tElem P t=some e) (hs:tSize P e=some sz) (hx:ev L x=some v) (hh:ev L hi=some (.int k q)) (hr:rdEOK (hp w) sz enc v l) (hb:sbd 0 q (l.length:Int)) :
    RunV P n ds L (.slice t x none (some hi) none) ty w (vsub sz v 0 q) w:=fun a d pos af g hf=>by
  simp only [execOp,hf.eval hx,Option.map_some,Option.map_none,hf.eval hh]
  exact run_v (run_sub he hs hr _ _ hb (.inl ⟨rfl,rfl⟩) (.inr ⟨k,rfl⟩))
theorem RunV.sliceL (he:tElem P t=some e) (hs:tSize P e=some sz) (hx:ev L x=some v) (hh:ev L lo=some (.int k p)) (hr:rdEOK (hp w) sz enc v l) (hb:sbd p (l.length:Int) (l.length:Int)) :
    RunV P n ds L (.slice t x (some lo) none none) ty w (vsub sz v p (l.length:Int)) w:=fun a d pos af g hf=>by
  simp only [execOp,hf.eval hx,Option.map_some,Option.map_none,hf.eval hh]
  exact run_v (run_sub he hs hr _ _ hb (.inr ⟨k,rfl⟩) (.inl ⟨rfl,rfl⟩))
end
end Go.SL
namespace Go.SL
open Go
section
variable {T:Type} {enc:T→List Value} {sz:Nat} {l m:List T} {h:Hp} {v u:Value} {a b p q:Int} {x0:T} {k:Nat}
end
section
variable {T:Type} {enc:T→List Value} {sz:Nat} {l m:List T} {x0:T}
variable {r:Option Nat} {P:Program} {Q:Exit→Act→World→Prop} {ops:Array Oper} {i:Nat} {rest:List Nat} {a:Act} {w w0 w':World} {n:Nat} {ds:List Deferred} {L:List (Nat × Value)}
  {d:Nat} {op:Op} {ty t e:TypeId} {pos:String} {af:Array Edge} {v u z:Value} {X:Nat→Prop} {B M M':List Asr} {x y:Operand} {b o j:Nat} {k:IntKind} {p p1 p2:Int} {q q':Asr}
end
end Go.SL
namespace Go.SL
open Go
def lcopy {T:Type} (l m:List T) (a:Int) (k:Nat):List T:=l.take a.toNat++m.take k++l.drop (a.toNat+k)
section
variable {T:Type} {enc:T→List Value} {sz:Nat} {l m:List T} {h:Hp} {v u:Value} {p1 p2:Int} {e:TypeId}
end
section
variable {T:Type} {enc:T→List Value} {sz:Nat} {l m l':List T}
variable {r:Option Nat} {P:Program} {Q:Exit→Act→World→Prop} {ops:Array Oper} {i:Nat} {rest:List Nat} {a:Act} {w w0:World} {n:Nat} {ds:List Deferred} {L:List (Nat × Value)}
  {d:Nat} {ty t e:TypeId} {pos:String} {af:Array Edge} {v u:Value} {X:Nat→Prop} {B M M':List Asr} {x y:Operand} {j k:Nat} {p1 p2:Int}
end
end Go.SL
namespace Go.SL
open Go
theorem EqR.sl {P:Program} {t e:TypeId} {d:Nat} {A:Option Addr} {n c n' c':Nat} (ht:tElem P t=some e):EqR P (d+1) t (.slice A n c) (.slice none n' c') A.isNone:=fun w=>by
  cases A <;> simp [Op.equalIn,run_underlying (und_elem ht)]
theorem run_eqSl {P:Program} {w:World} {t e:TypeId} {v u:Value} {A A':Option Addr} {n c n' c':Nat} (ht:tElem P t=some e) (hv:v=.slice A n c) (hA:A'=none) (hu:u=.slice A' n' c'):(binOp .eql t v u).run P w=.ok (.bool A.isNone) w:=by
  subst hv hA hu
  have:=(EqR.sl (d:=9999) ht:EqR P 10000 t (.slice A n c) (.slice none n' c') A.isNone) w
  simp only [binOp,Op.equal,Op.maxDepth,Sem.run_bind,this,Result.andThen_ok,Sem.run_pure]
section
variable {P:Program} {w:World} {n:Nat} {ds:List Deferred} {L:List (Nat × Value)} {ty t t' e:TypeId} {x y:Operand} {v:Value} {k c:Nat} {a:Addr}
theorem RunV.eqNil2 (ht:tElem P t=some e) (hv:v=.slice (some a) k c) (hx:ev L x=some v) (hy:ev L y=some (.slice none 0 0)):RunV P n ds L (.binOp .eql t x y t') ty w (.bool false) w:=fun a d pos af g hf=>by
  simp only [execOp,hf.eval hx,hf.eval hy]
  have e1:(eqGuard .eql t x y v (.slice none 0 0)).run P w=.ok () w:=by subst hv; simp [eqGuard]
  have e2:=run_eqSl (P:=P) (w:=w) (u:=.slice none 0 0) ht hv rfl rfl
  simp only [Sem.run_bind,e1,e2,Result.andThen_ok,Sem.run_pure]; rfl
end
end Go.SL
namespace Go.SL
open Go
section
variable {P:Program} {Q:Exit→Act→World→Prop} {ops:Array Oper} {a:Act} {w w0 w':World} {n:Nat} {ds:List Deferred} {L:List (Nat × Value)}
  {d:Nat} {op:Op} {ty:TypeId} {pos:String} {af:Array Edge} {v:Value} {X:Nat→Prop} {B M:List Asr} {f:FuncId} {args:Array Value}
theorem OQ.callRq {K:Act→Prop} {lo:List Oper} (hf:Fr a n ds L) (hd:Nat.blt d n=true) (hr:∀ w,St w0 w X B M→RunE P n ds L op ty w f args) (hc:∀ w,St w0 w X B M→Ret P f args w (fun _:Unit=>v) (fun _ w1=>St w w1 noX [] []))
    (k:∀ a',Fr a' n ds ((d,v)::L)→OQ P ops (fun w=>St w0 w X B M) K lo a'):OQ P ops (fun w=>St w0 w X B M) K (⟨some d,op,ty,pos,af,none⟩::lo) a :=
  OQ.call hf hd hr (fun w hw=>Calls.mono (hc w hw) fun _ w' ⟨_,he,hR⟩=>⟨he,(hw.call hR).dropN⟩) k
end
end Go.SL

namespace Go.SL
open Go
def eKey (e:MapEntry):Value:=e.key
structure MOK (es:Array MapEntry) (clock:Nat) (ks:List Int):Prop where
  keys:es.toList.map (·.key)=ks.map (Value.int .i64)
  vals:∀ e ∈ es.toList,e.val=.bool true
  born:∀ e ∈ es.toList,e.born<clock
  apart:(es.toList.map (·.born)).Nodup
  nodup:ks.Nodup
def setOK (h:Hp) (b:Nat) (ins:List Bool):Prop :=
  ∃ es clock ks,h b=some (.map es clock)∧MOK es clock ks∧(∀ k ∈ ks,0≤k)∧∀ i:Nat,((i:Int) ∈ ks↔ins.getD i false=true)
def ms (b:Nat) (ins:List Bool):Asr:=⟨fun k=>k=b,fun h=>setOK h b ins,fun h h' hk ⟨es,c,ks,h1,h2⟩=>⟨es,c,ks,by rw [hk b rfl]; exact h1,h2⟩⟩
def tSet (P:Program) (t:TypeId):Option TypeId :=
  match P.underlying t with
  | some (.map k e)=>match P.underlying k with
    | some (.int _)=>match tZero P e with
      | some (.bool false)=>some k
      | _=>none
    | _=>none
  | _=>none
section
variable {P:Program} {w:World} {t kt:TypeId} {k:Int}
theorem run_underlying {d:TypeDesc} (h:P.underlying t=some d):(underlying t).run P w=.ok d w:=by
  simp [underlying,h]
def posK (k:Int):List Int→Nat→Option Nat
  | [],_=>none
  | x::t,i=>if k=x then some i else posK k t (i+1)
section
variable {es:Array MapEntry} {c:Nat} {ks:List Int}
theorem MOK.push (h:MOK es c ks) (hk:k ∉ ks):MOK (es.push { key:=.int .i64 k,val:=.bool true,born:=c }) (c+1) (ks++[k]):=by
  refine ⟨by simp [h.keys],fun e he=>?_,fun e he=>?_,?_,?_⟩
  · simp only [Array.toList_push,List.mem_append,List.mem_singleton] at he
    rcases he with he | rfl
    · exact h.vals e he
    · rfl
  · simp only [Array.toList_push,List.mem_append,List.mem_singleton] at he
    rcases he with he | rfl
    · have:=h.born e he; omega
    · exact Nat.lt_succ_self _
  · simp only [Array.toList_push,List.map_append,List.map_cons,List.map_nil]
    rw [List.nodup_append]
    refine ⟨h.apart,by simp,fun x hx y hy=>?_⟩
    simp only [List.mem_singleton] at hy
    subst hy
    obtain ⟨e,he,rfl⟩:=List.mem_map.1 hx
    have:=h.born e he; omega
  · rw [List.nodup_append]
    exact ⟨h.nodup,by simp,fun x hx y hy e=>by simp only [List.mem_singleton] at hy; subst hy; exact hk (e▸hx)⟩
end
def putMap (w:World) (b:Nat) (es:Array MapEntry) (c:Nat):World:={ w with heap:=w.heap.setIfInBounds b (.map es c) }
variable {b:Nat} {ins:List Bool} {i:Nat}
end
section
variable {r:Option Nat} {P:Program} {ops:Array Oper} {Q:Exit→Act→World→Prop} {a:Act} {w w0:World} {n:Nat} {ds:List Deferred} {L:List (Nat × Value)} {X:Nat→Prop} {B M M':List Asr}
  {d i j b:Nat} {ty t kt:TypeId} {pos:String} {af:Array Edge} {rest:List Nat} {x y z:Operand} {ins:List Bool} {q:Nat}
theorem St.putMap (h:St w0 w X B M) (hi:M[j]? = some (ms b ins)) {es:Array MapEntry} {c:Nat} {ins':List Bool} (hs:setOK (hp (SL.putMap w b es c)) b ins'):St w0 (SL.putMap w b es c) X B (M.set j (ms b ins')):=by
  have hl:=(h.sep.get hi).2 b rfl
  refine h.write (w':=SL.putMap w b es c) hi rfl rfl rfl (by simp [SL.putMap]) (fun k _ hk=>?_) hs (fun k hk=>⟨.inl hk,by
    have hk:k=b:=hk
    subst hk
    simpa [SL.putMap] using hl.1⟩)
  simp only [SL.putMap]
  exact Array.getElem?_setIfInBounds_ne (fun e=>hk e.symm)
theorem O.makeMap (hf:Fr a n ds L) (hS:St w0 w X B M) (ho:ops[i]? = some ⟨some d,.makeMap t none,ty,pos,af,none⟩) (hd:Nat.blt d n=true) (ins:List Bool) (hins:∀ q,ins.getD q false=false)
    (k:∀ b w' a',w0.heap.size≤b→St w0 w' X B (ms b ins::M)→Fr a' n ds ((d,.map (some b))::L)→O r P ops Q rest a' w'):O r P ops Q (i::rest) a w:=by
  refine O.val (w':=w.alloc (.map #[] 0)) hf ho rfl hd (v:=.map (some w.heap.size)) ?_ (fun a' hf'=>k _ _ a' hS.size ?_ hf')
  · intro a d pos af g hf
    simp only [execOp]
    exact run_v rfl
  · refine (hS.alloc (.map #[] 0)).conv (i:=0) (p:=pt w.heap.size (.map #[] 0)) (q:=ms w.heap.size ins) rfl (fun h=>⟨#[],0,[],h,⟨rfl,by simp,by simp,by simp,by simp⟩,by simp,fun q=>?_⟩) (fun b hb=>hb)
    rw [hins q]; simp
end
end Go.SL

namespace Go.SL
open Go
def mkDs (Ds:List Nat):List Deferred:=Ds.map fun D=>{ target:=.collected D,args:=#[] }
def mkA (Ds:List Nat):Asr:=⟨fun b=>b ∈ Ds,fun h=>Ds.Nodup∧∀ D ∈ Ds,h D=some (.deferred (some [])),fun h h' hk hh=>⟨hh.1,fun D hD=>by rw [hk D hD]; exact hh.2 D hD⟩⟩
section
variable {P:Program} {a:Act} {w w0 w':World} {n:Nat} {ds:List Deferred} {L:List (Nat × Value)} {X:Nat→Prop} {B M:List Asr} {j b l D:Nat} {o o':Obj} {Ds:List Nat}
end
def IterR (P:Program) (gf:FuncId) (lb:Array Value) (xs:List Value) (Bs:List (Nat × Obj)):Prop :=
  ∀ (l:Nat) (R:Nat→World→Prop),(∀ k w,R k w→R k w.drew)→(∀ k w,R k w→∀ p ∈ Bs,w.heap[p.1]? = some p.2) →
    (∀ k x,xs[k]? = some x→∀ w,R k w→YieldAt (FW none) 0 P l #[x] w (fun e w'=>e=.returned (.bool true)∧R (k+1) w')) →
    ∀ w,R 0 w→Calls P gf (#[.func (.yield l) #[] #[]]++lb) w (fun e w'=>(∃ v,e=.returned v)∧R xs.length w')
section
variable {P:Program} {Q:Exit→Act→World→Prop} {a:Act} {w w0 w':World} {n:Nat} {ds:List Deferred} {L:List (Nat × Value)} {X:Nat→Prop} {B M:List Asr}
theorem callOK_enter {f:FuncId} (h:callOK P f=true) (args:Array Value) (w:World):(callFunc f args).run P w=.ok (.enter f args) w:=by
  unfold callOK at h
  split at h
  · rename_i fn hfn
    simp only [Bool.and_eq_true,bne_iff_ne,ne_eq] at h
    obtain ⟨h1,h2⟩:=h
    have h3:fn.body.isNone=false:=by cases hb:fn.body <;> simp_all
    have hp:(program).run P w=.ok P w:=rfl
    simp only [callFunc,Sem.run_bind,hp,Result.andThen,hfn]
    simp [h1,h3]
  · cases h
end
end Go.SL
namespace Go.SL
open Go
section
variable {r:Option Nat} {P:Program} {Q:Exit→Act→World→Prop} {ops:Array Oper} {i:Nat} {rest:List Nat} {a:Act} {w w0 w':World} {n:Nat} {ds:List Deferred} {L:List (Nat × Value)}
  {d:Nat} {op:Op} {ty:TypeId} {pos:String} {af:Array Edge} {v x:Value} {X:Nat→Prop} {B M:List Asr} {f y:Operand} {l:Nat} {R:World→Prop} {at_:Array TypeId}
theorem run_callYield {g:Option (Nat × Bool)} {dst:Option Tmp} (hf:Fr a n ds L) (hx:ev L f=some (.func (.yield l) #[] #[])) (hy:ev L y=some x) {res:Result Next} (h:(Instr.yield l #[x]).run P w=res) :
    (execOp a.eval ⟨dst,.call ⟨.value f,#[y],at_⟩,ty,pos,af,g⟩).run P w=res:=by
  simp only [execOp,resolve,Sem.run_bind,Sem.run_pure,Result.andThen,hf.eval hx,Deferred.ofValue,invoke]
  have e:(#[]++#[y].map a.eval++#[]:Array Value)=#[x]:=by simp [hf.eval hy]
  simp [hf.eval hy]
  exact h
theorem O.yield (hf:Fr a n ds L) (ho:ops[i]? = some ⟨some d,.call ⟨.value f,#[y],at_⟩,ty,pos,af,none⟩) (hd:Nat.blt d n=true) (hx:ev L f=some (.func (.yield l) #[] #[])) (hy:ev L y=some x)
    (hY:YieldAt (FW none) 0 P l #[x] w (fun e w'=>e=.returned (.bool true)∧R w'))
    (k:∀ w' a',R w'→Fr a' n ds ((d,.bool true)::L)→O none P ops Q rest a' w'):O none P ops Q (i::rest) a w:=by
  obtain ⟨fn,tmps,assign,body,h1,h2⟩:=hY
  unfold O wpOpsIn
  simp only [ho]
  rw [if_pos (by simp [Region.wanted])]
  refine ⟨fun _ _=>trivial,?_⟩
  rw [semAt_FW (o:=⟨some d,.call ⟨.value f,#[y],at_⟩,ty,pos,af,none⟩) rfl,run_callYield hf hx hy h1]
  refine ⟨fun h=>by simp [FW] at h,h2.mono ?_⟩
  rintro e w' ⟨rfl,hR⟩
  exact k w' _ hR (hf.put hd _)
end
end Go.SL
namespace Go.SL
end Go.SL
namespace Go.SL
end Go.SL

namespace Go.SL
open Go
def IterX (P:Program) (gf:FuncId) (lb:Array Value) (xs:List (Value × Value)) (Rd:World→Prop):Prop :=
  ∀ (l:Nat) (R:Nat→World→Prop) (S:World→Prop),(∀ k w,R k w→R k w.drew)→(∀ k w,R k w→Rd w) →
    (∀ k x,xs[k]? = some x→∀ w,R k w→YieldAt (FW none) 0 P l #[x.1,x.2] w (fun e w'=>(e=.returned (.bool true)∧R (k+1) w')∨(e=.returned (.bool false)∧S w'))) →
    ∀ w,R 0 w→Calls P gf (#[.func (.yield l) #[] #[]]++lb) w (fun e w'=>(∃ v,e=.returned v)∧(R xs.length w'∨S w'))
section
variable {P:Program} {Q:Exit→Act→World→Prop} {a:Act} {w w0 w':World} {n:Nat} {ds:List Deferred} {L:List (Nat × Value)} {X:Nat→Prop} {B M:List Asr}
end
end Go.SL
namespace Go.SL
open Go
section
variable {P:Program} {Q:Exit→Act→World→Prop} {ops:Array Oper} {i:Nat} {rest:List Nat} {a:Act} {w w0 w':World} {n:Nat} {ds:List Deferred} {L:List (Nat × Value)}
  {d:Nat} {ty:TypeId} {pos:String} {af:Array Edge} {x1 x2:Value} {f y1 y2:Operand} {l:Nat} {R S:World→Prop} {at_:Array TypeId}
end
def downL {T:Type} (l:List T):List (Int × T):=(l.zipIdx.map fun p=>((p.2:Int),p.1)).reverse
def RdAt {T:Type} (t:TypeId) (sz:Nat) (enc:T→List Value) (b:Nat) (s:Value) (l:List T) (w:World):Prop:=w.heap[b]? = some (.cells #[s] t (0,0))∧rdEOK (hp w) sz enc s l
end Go.SL
namespace Go.SL
end Go.SL
namespace Go.SL
open Go
theorem OQ.cutK {P:Program} {ops:Array Oper} {C:World→Prop} {K K':Act→Prop}:∀ (k:Nat) {lo:List Oper} {a:Act},OQ P ops C K' (lo.take k) a→(∀ a',K' a'→OQ P ops C K (lo.drop k) a')→OQ P ops C K lo a
  | 0,lo,a,h,h2=>h2 a h
  | k+1,[],a,h,h2=>h2 a h
  | k+1,o::t,a,h,h2=>by
    unfold OQ at *
    simp only [List.take_succ_cons,List.drop_succ_cons] at h h2
    unfold wpQuiet at h ⊢
    split at h
    · rename_i hw
      rw [if_pos hw]
      obtain ⟨u,h3,h4⟩:=h
      exact ⟨u,h3,OQ.cutK k h4 h2⟩
    · rename_i hw
      rw [if_neg hw]
      exact OQ.cutK k h h2
end Go.SL
namespace Go.SL
open Go
section
variable {P:Program} {ops:Array Oper} {a:Act} {w0:World} {n:Nat} {ds:List Deferred} {L:List (Nat × Value)}
  {d:Nat} {op:Op} {ty:TypeId} {pos:String} {af:Array Edge} {v:Value} {X:Nat→Prop} {B M:List Asr} {f:FuncId} {args:Array Value}
theorem OQ.gcallRq {K:Act→Prop} {lo:List Oper} {jj dj:Nat} {want c:Bool} (hf:Fr a n ds L) (hj:(ops[jj]?).bind (·.dst)=some dj) (hv:lk L dj=some (.bool c)) (hc:c=want) (hd:Nat.blt d n=true)
    (hr:∀ w,St w0 w X B M→RunE P n ds L op ty w f args) (hcl:∀ w,St w0 w X B M→Ret P f args w (fun _:Unit=>v) (fun _ w1=>St w w1 noX [] []))
    (k:∀ a',Fr a' n ds ((d,v)::L)→OQ P ops (fun w=>St w0 w X B M) K lo a'):OQ P ops (fun w=>St w0 w X B M) K (⟨some d,op,ty,pos,af,some (jj,want)⟩::lo) a:=by
  unfold OQ wpQuiet
  rw [if_pos (by rw [wanted_of hf hj hv,hc]; simp)]
  refine ⟨v,fun w hw=>?_,k _ (hf.put hd v)⟩
  unfold Oper.quietAt
  rw [hr w hw a (some d) pos af _ hf]
  exact ⟨rfl,Calls.mono (hcl w hw) fun _ w' ⟨_,he,hR⟩=>⟨he,(hw.call hR).dropN⟩⟩
end
end Go.SL

namespace Go.SL
open Go
def vfull:Value→Value
  | .slice A n _=>.slice A n n
  | _=>undef
section
variable {T:Type} {enc:T→List Value} {sz:Nat} {l m:List T}
variable {r:Option Nat} {P:Program} {Q:Exit→Act→World→Prop} {ops:Array Oper} {i:Nat} {rest:List Nat} {a:Act} {w w0 w':World} {n:Nat} {ds:List Deferred} {L:List (Nat × Value)}
  {d:Nat} {op:Op} {ty t e:TypeId} {pos:String} {af:Array Edge} {v u z:Value} {X:Nat→Prop} {B M M':List Asr} {x y hi mx:Operand} {b o j jj N by_ c:Nat} {k k':IntKind} {cs:Array Value} {zz:Nat × Nat}
end
end Go.SL

namespace Go.SL
open Go
section
variable {T:Type} {enc:T→List Value} {sz:Nat} {l:List T} {w w0:World} {X:Nat→Prop} {B M M':List Asr} {v:Value} {e:TypeId} {i j:Nat} {c:Bool} {p:Asr}
end
end Go.SL

namespace Go.SL
open Go
abbrev MTab:=List (Int × Int × Value)
def mKey (p q:Int):Value:=.agg #[.int .i64 p,.int .i64 q]
def mVal {T:Type} (v:Value) (r:List T × Int × Int):Value:=.agg #[v,.int .i64 r.2.1,.int .i64 r.2.2]
def memoOK {T:Type} (e sz:Nat) (enc:T→List Value) (f:Int→Int→List T × Int × Int) (b:Nat) (tb:MTab) (h:Hp):Prop :=
  (∃ es clock,h b=some (.map es clock)∧es.toList.map (fun x=>(x.key,x.val))=tb.map fun t=>(mKey t.1 t.2.1,mVal t.2.2 (f t.1 t.2.1))) ∧
  ∀ t ∈ tb,slOK h e sz t.2.2 (f t.1 t.2.1).1.length (encs enc (f t.1 t.2.1).1)
def memoA {T:Type} (e sz:Nat) (enc:T→List Value) (f:Int→Int→List T × Int × Int) (b:Nat) (tb:MTab):Asr :=
  ⟨fun k=>k=b∨∃ t ∈ tb,t.2.2.ownBlock=some k,memoOK e sz enc f b tb,fun h h' hk ⟨⟨es,c,h1,h2⟩,h3⟩=>⟨⟨es,c,by rw [hk b (.inl rfl)]; exact h1,h2⟩,fun t ht=>(sl e sz t.2.2 _ _).loc h h' (fun k hk'=>hk k (.inr ⟨t,ht,hk'⟩)) (h3 t ht)⟩⟩
def memIn {T:Type} (f:Int→Int→List T × Int × Int) (tb:MTab) (v:Value) (l:List T):Asr :=
  ⟨fun _=>False,fun _=>∃ t ∈ tb,t.2.2=v∧(f t.1 t.2.1).1=l,fun _ _ _ h=>h⟩
def memoH {T:Type} (w:World) (e sz:Nat) (enc:T→List Value) (f:Int→Int→List T × Int × Int) (b:Nat) (tb:MTab):Prop :=
  Lent w (memoA e sz enc f b tb)
section
variable {T:Type} {enc:T→List Value} {sz:Nat} {l m:List T} {f:Int→Int→List T × Int × Int} {tb:MTab}
variable {r:Option Nat} {P:Program} {Q:Exit→Act→World→Prop} {ops:Array Oper} {i:Nat} {rest:List Nat} {a:Act} {w w0 w':World} {n:Nat} {ds:List Deferred} {L:List (Nat × Value)}
  {d:Nat} {op:Op} {ty t e kt:TypeId} {pos:String} {af:Array Edge} {v u z:Value} {X:Nat→Prop} {B M M':List Asr} {x y zz:Operand} {b o j jj:Nat} {k k':IntKind} {p q:Int} {A:Asr}
theorem St.ownG (h:Lent w A) (hB:∀ p ∈ B,Lent w p) (ha:∀ p ∈ B,∀ k,p.fp k→¬ A.fp k):St w w (fun k=>A.fp k) B [A] :=
  ⟨rfl,rfl,rfl,Nat.le_refl _,fun _ _ _=>rfl,⟨⟨h.1,fun k hk=>⟨h.2 k hk,.inl hk⟩,by simp⟩,trivial⟩,fun p hp=>⟨(hB p hp).1,fun k hk=>⟨(hB p hp).2 k hk,ha p hp k hk⟩⟩⟩
theorem St.lentAt (hS:St w0 w X B M) (hi:M[i]? = some A):Lent w A:=⟨(hS.sep.get hi).1,fun b hb=>((hS.sep.get hi).2 b hb).1⟩
def tMemo (P:Program) (t:TypeId):Option (TypeId × Value) :=
  match P.underlying t with
  | some (.map k e)=>match tArr P k with
    | some (2,q)=>match tInt P q,tZero P e with
      | some .i64,some z'=>if P.cellsOf q=1∧(P.info? q).isSome=true∧tAgg P q=some false∧tSize P q=some 1 then some (k,z') else none
      | _,_=>none
    | _=>none
  | _=>none
def posM (p q:Int):List (Int × Int × Value)→Nat→Option (Nat × Int × Int × Value)
  | [],_=>none
  | x::t,i=>if p=x.1∧q=x.2.1 then some (i,x) else posM p q t (i+1)
theorem RunV.lk {c:Bool} {kv:Value} (hx:ev L x=some u) (hy:ev L y=some kv) (h:(Instr.lookup t u kv c).run P w=.ok v w):RunV P n ds L (.lookup t x y c) ty w v w:=fun a d pos af g hf=>by
  simp only [execOp,hf.eval hx,hf.eval hy]
  exact run_v h
end
end Go.SL

namespace Go.SL
open Go
section
variable {r:Option Nat} {P:Program} {Q:Exit→Act→World→Prop} {ops:Array Oper} {i:Nat} {rest:List Nat} {a:Act} {w:World} {n:Nat} {ds:List Deferred} {L:List (Nat × Value)}
  {op:Op} {ty:TypeId} {pos:String} {af:Array Edge} {dst:Option Tmp}
end
end Go.SL

namespace Go.SL
open Go
section
variable {T:Type} {enc:T→List Value} {sz:Nat} {l m l':List T}
variable {r:Option Nat} {P:Program} {Q:Exit→Act→World→Prop} {ops:Array Oper} {i:Nat} {rest:List Nat} {a:Act} {w w0:World} {n:Nat} {ds:List Deferred} {L:List (Nat × Value)}
  {d:Nat} {ty t e:TypeId} {pos:String} {af:Array Edge} {v u z:Value} {X:Nat→Prop} {B M M':List Asr} {x y:Operand} {j k:Nat} {p1 p2:Int} {x0:T}
end
end Go.SL

namespace Go.SL
open Go
section
variable {P:Program} {Q:Exit→Act→World→Prop} {ops:Array Oper} {i:Nat} {rest:List Nat} {a:Act} {w w0:World} {n:Nat} {ds:List Deferred} {L:List (Nat × Value)}
  {d:Nat} {ty t:TypeId} {pos:String} {af:Array Edge} {v u z:Value} {X:Nat→Prop} {B M:List Asr} {x y:Operand} {f:FuncId} {fn:Func} {c:Code} {lv vs:List Value}
theorem LH.loop {r:Option Nat} {G:Type} (I:G→Act→World→Prop) (μ:G→Nat) (g:G) (h₀:I g a w)
    (round:∀ g a w,I g a w→W r P c (Exit.then (fun a' w'=>∃ g',I g' a' w'∧μ g'<μ g) Q) a w):LH r P c Q a w:=by
  have key:∀ j g a w,μ g=j→I g a w→LH r P c Q a w:=by
    intro j
    induction j using Nat.strongRecOn with
    | _ j ih =>
      intro g a w hn hI
      exact LH.step ((round g a w hI).mono (fun e a' w' hq=>by
        cases e with
        | normal =>
          obtain ⟨g',hI',hlt⟩:=hq
          exact ih (μ g') (hn▸hlt) g' a' w' rfl hI'
        | _=>exact hq))
  exact key _ g a w rfl h₀
def dfr (f:FuncId) (vs:List Value):Deferred:={ target:=.fn (.func f) #[],args:=vs.toArray }
theorem O.defer {args:Array Operand} {at_:Array TypeId} (hf:Fr a n ds L) (ho:ops[i]? = some ⟨none,.defer ⟨.value (.func f),args,at_⟩,ty,pos,af,none⟩) (hv:evA L args.toList=some vs)
    (k:∀ a',Fr a' n (dfr f vs::ds) L→O none P ops Q rest a' w):O none P ops Q (i::rest) a w:=by
  unfold O wpOpsIn
  simp only [ho]
  rw [if_pos (by simp [Region.wanted])]
  refine ⟨fun _ _=>trivial,?_⟩
  have h1:(Oper.semAt (FW none).round a.eval ⟨none,.defer ⟨.value (.func f),args,at_⟩,ty,pos,af,none⟩).run P w=.ok (.defer (dfr f vs)) w:=by
    show (execOp a.eval ⟨none,.defer ⟨.value (.func f),args,at_⟩,ty,pos,af,none⟩).run P w=_
    have h2:args.map a.eval=vs.toArray:=by
      apply Array.ext'; rw [Array.toList_map,hf.evA hv]
    simp [execOp,resolve,Deferred.ofValue,Act.eval,h2,dfr]
  rw [h1]
  exact k _ ⟨hf.size,by show dfr f vs::a.defers=_; rw [hf.defers],hf.get⟩
theorem ret_of_WD {G:Type} {v:G→Value} {R:G→World→Prop} (hf:P.funcs[f]? = some fn) (hb:fn.body=some c) (hn:fn.ntmps=n) (hl:Nat.ble lv.length n=true)
    (h:∀ a,Fr a n [] (argsL 0 lv)→W none P c (bodyPostDIn (FW none) 0 P fn (fun e w'=>∃ g,e=.returned (v g)∧R g w')) a w):Ret P f lv.toArray w v R:=by
  refine (callsIn_FW (r:=none) (n:=0)).1 (callsIn_of_wp_defers hf hb trivial ?_ rfl)
  exact h _ (Fr.start rfl (by simpa using hl) (by rw [hn]))
theorem recoverNil {r0:Nat} (hf:P.funcs[f]? = some fn) (hb:fn.body=some (.seq (.region r0 #[⟨some d,.call ⟨.builtin .recover,#[],#[]⟩,ty,pos,af,none⟩] false) c)) (hn:fn.ntmps=n) (hl:Nat.ble lv.length n=true) (hd:Nat.blt d n=true)
    (h:∀ a,Fr a n [] ((d,.nilIface)::argsL 0 lv)→W none P c (bodyPost P fn (fun e w'=>e=.returned (.tuple #[])∧w'=w)) a w) :
    CallsDIn (FW none) 0 P f lv.toArray .returning w (fun e u' w'=>u'=.returning∧e=.returned (.tuple #[])∧w'=w):=by
  refine callsDIn_of_wpSIn hf hb trivial (fun c0 cs hm=>wpSIn_seq (wpSIn_region ?_))
  have hF:=Fr.start (l:=lv) (n:=n) (m:=n-lv.toArray.size) rfl (by simpa using hl) rfl
  show wpOpsSIn _ _ _ _ _ [0] _ _ _
  unfold wpOpsSIn
  simp only [List.getElem?_toArray,List.getElem?_cons_zero]
  refine ⟨fun _ _=>trivial,?_⟩
  rw [if_pos (by simp [Region.wanted])]
  have h1:∀ ρ,(execOp ρ ⟨some d,.call ⟨.builtin .recover,#[],#[]⟩,ty,pos,af,none⟩).run P w=.ok .recover w:=fun ρ=>by
    simp [execOp,resolve,invoke,builtin]
  rw [h1]
  have h2:recoverD (c0::cs)=none:=by simp [recoverD,hm]
  simp only [h2]
  unfold wpOpsSIn
  rw [hn]
  refine wpSIn_of_wpIn rfl ?_
  have h3:=h _ (hF.put hd .nilIface)
  refine wpIn_mono h3 (fun e a' w' hq=>?_)
  have hc0:({ c0 with mode:=.returning }:Frame)=c0:=by rw [← hm]
  cases e with
  | normal =>
    obtain ⟨g1,v,g2,g3⟩:=hq
    exact ⟨g1,.returning,by rw [hc0],v,g2,rfl,g3⟩
  | ret =>
    obtain ⟨g1,v,g2,g3⟩:=hq
    exact ⟨g1,.returning,by rw [hc0],v,g2,rfl,g3⟩
  | panic ch =>
    obtain ⟨g1,g2,g3⟩:=hq
    cases g2
  | exit id=>exact hq.elim
  | goto l=>exact hq.elim
  | outgrown=>exact ⟨.returning,by obtain ⟨g1,_⟩:=hq; cases g1⟩
theorem EqR.nilI {d:Nat} {ms} (ht:P.underlying t=some (.interface ms)):EqR P (d+1) t .nilIface .nilIface true:=fun w=>by
  simp [Op.equalIn,run_underlying ht]
def tIface (P:Program) (t:TypeId):Bool:=match P.underlying t with
  | some (.interface _)=>true
  | _=>false
theorem RunV.eqNilI {t':TypeId} (ht:tIface P t=true) (hx:ev L x=some .nilIface):RunV P n ds L (.binOp .eql t x (.const .nilIface) t') ty w (.bool true) w:=fun a d pos af g hf=>by
  simp only [execOp,hf.eval hx]
  have e0:a.eval (.const .nilIface)=.nilIface:=rfl
  rw [e0]
  have e1:(eqGuard .eql t x (.const .nilIface) .nilIface .nilIface).run P w=.ok () w:=by simp [eqGuard]
  have e2:(binOp .eql t .nilIface .nilIface).run P w=.ok (.bool true) w:=by
    unfold tIface at ht
    split at ht
    · rename_i ms hms
      have this:=(EqR.nilI (d:=9999) hms:EqR P 10000 t .nilIface .nilIface true) w
      simp only [binOp,Op.equal,Op.maxDepth,Sem.run_bind,this,Result.andThen_ok,Sem.run_pure]
    · cases ht
  simp only [Sem.run_bind,e1,e2,Result.andThen_ok,Sem.run_pure]
end
end Go.SL

namespace Go.SL
open Go
section
variable {r:Option Nat} {P:Program} {Q:Exit→Act→World→Prop} {ops:Array Oper} {i:Nat} {rest l:List Nat} {a:Act} {w w' w0:World} {n:Nat} {ds:List Deferred} {L:List (Nat × Value)}
  {d:Nat} {op:Op} {ty:TypeId} {v:Value} {y:Code} {id:Nat} {X:Nat→Prop} {B M N R:List Asr} {pp qq:Asr}
def mvk (L:List (Nat × Value)) (n:Nat):Option Oper→Option (Nat × Value)
  | some ⟨some d,.move x,_,_,_,none⟩=>match Nat.blt d n,ev L x with
    | true,some v=>some (d,v)
    | _,_=>none
  | some ⟨some d,.assign x,_,_,_,none⟩=>match Nat.blt d n,ev L x with
    | true,some v=>some (d,v)
    | _,_=>none
  | _=>none
theorem mv (hf:Fr a n ds L) (h:mvk L n ops[i]? = some (d,v)) (k:∀ a',Fr a' n ds ((d,v)::L)→O r P ops Q rest a' w):O r P ops Q (i::rest) a w:=by
  unfold mvk at h
  split at h
  · split at h
    · obtain ⟨rfl,rfl⟩:=Prod.mk.inj (Option.some.inj h)
      exact O.val hf (by assumption) rfl (by assumption) (RunV.move (by assumption)) k
    · cases h
  · split at h
    · obtain ⟨rfl,rfl⟩:=Prod.mk.inj (Option.some.inj h)
      exact O.val hf (by assumption) rfl (by assumption) (RunV.assign (by assumption)) k
    · cases h
  · cases h
def opk (n:Nat):Option Oper→Option (Nat × Op × TypeId)
  | some ⟨some d,op,ty,_,_,none⟩=>match noDefer op,Nat.blt d n with
    | true,true=>some (d,op,ty)
    | _,_=>none
  | _=>none
theorem ov (hf:Fr a n ds L) (h:opk n ops[i]? = some (d,op,ty)) (hr:RunV P n ds L op ty w v w') (k:∀ a',Fr a' n ds ((d,v)::L)→O r P ops Q rest a' w'):O r P ops Q (i::rest) a w:=by
  unfold opk at h
  split at h
  · split at h
    · cases h
      exact O.val hf (by assumption) (by assumption) (by assumption) hr k
    · cases h
  · cases h
theorem nk (h:W r P y Q a w):O r P ops (Exit.then (W r P y Q) Q) [] a w:=O.nil (k_seq h)
class App (A B:List Asr) (C:outParam (List Asr)):Prop where
  eq:A++B=C
instance App.nil:App [] B B:=⟨rfl⟩
instance App.cons [h:App N B R]:App (pp::N) B (pp::R):=⟨congrArg (pp::·) h.eq⟩
theorem St.cl [h:App N M R] (hS:St w0 w X B M) (hc:St w w' noX [] N):St w0 w' X B R:=h.eq▸hS.call hc
class Del (i:Nat) (M:List Asr) (p:outParam Asr) (R:outParam (List Asr)):Prop where
  get:M[i]? = some p
  eq:M.eraseIdx i=R
instance Del.zero:Del 0 (pp::M) pp M:=⟨rfl,rfl⟩
instance Del.succ [h:Del i M pp R]:Del (i+1) (qq::M) pp (qq::R):=⟨h.get,congrArg (qq::·) h.eq⟩
theorem St.fr (hS:St w0 w X B M) (i:Nat) [h:Del i M pp R]:St w0 w X B (pp::R):=hS.front h.get (congrArg (pp::·) h.eq)
theorem bl {a b:Nat} (h:Nat.ble a b=true):a≤b:=Nat.le_of_ble_eq_true h
theorem St.p {b:Nat} {o:Obj} (h:St w0 w X B M) (i:Nat) (hi:M[i]? = some (pt b o)):w.heap[b]? = some o:=h.ptAt hi
theorem St.b {T:Type} {sz:Nat} {enc:T→List Value} {l:List T} (h:St w0 w X B M) (j:Nat) (hi:B[j]? = some (rdE sz enc v l)):rdEOK (hp w) sz enc v l:=h.rdB hi
theorem St.s {T:Type} {e sz:Nat} {enc:T→List Value} {l:List T} (h:St w0 w X B M) (j:Nat) (hi:M[j]? = some (slE e sz enc v l)):rdEOK (hp w) sz enc v l:=h.rdS hi
class Sel (bs:List Nat) (M:List Asr) (N:outParam (List Asr)):Prop where
  sub:N.Sublist M
instance Sel.nil:Sel [] M []:=⟨List.nil_sublist _⟩
instance Sel.one {bs:List Nat} [h:Sel bs M N]:Sel (1::bs) (pp::M) (pp::N):=⟨h.sub.cons_cons _⟩
instance Sel.zero {bs:List Nat} [h:Sel bs M N]:Sel (0::bs) (pp::M) N:=⟨h.sub.cons _⟩
theorem St.sl (hS:St w0 w X B M) (bs:List Nat) [h:Sel bs M N]:St w0 w X B N:=hS.sub h.sub
def pk (L:List (Nat × Value)):List (Nat × Value)→List (Nat × Value)
  | []=>[]
  | (k,_)::t=>match lk L k with
    | some v=>(k,v)::pk L t
    | none=>[]
theorem pk_subs:∀ {L':List (Nat × Value)},pk L L'=L'→Subs L L'
  | [],_=>trivial
  | (k,v)::t,h=>by
    simp only [pk] at h
    split at h
    · rename_i u hu
      simp only [List.cons.injEq,Prod.mk.injEq,true_and] at h
      exact ⟨h.1▸hu,pk_subs h.2⟩
    · cases h
theorem Fr.q {L':List (Nat × Value)} (h:Fr a n ds L) (e:pk L L'=L'):Fr a n ds L':=h.to (pk_subs e)
def gpk (n:Nat) (L:List (Nat × Value)) (ops:Array Oper):Option Oper→Option (Nat × Op × TypeId × Bool × Bool)
  | some ⟨some d,op,ty,_,_,some (jj,want)⟩=>match (ops[jj]?).bind (·.dst) with
    | some dj=>match lk L dj,noDefer op,Nat.blt d n with
      | some (.bool c),true,true=>some (d,op,ty,c,want)
      | _,_,_=>none
    | none=>none
  | _=>none
theorem og {c want:Bool} (hf:Fr a n ds L) (h:gpk n L ops ops[i]? = some (d,op,ty,c,want)) (hc:c=want) (hr:RunV P n ds L op ty w v w') (k:∀ a',Fr a' n ds ((d,v)::L)→O r P ops Q rest a' w'):O r P ops Q (i::rest) a w:=by
  unfold gpk at h
  split at h
  · split at h
    · split at h
      · cases h
        exact O.gvalB hf (by assumption) (by assumption) (by assumption) hc (by assumption) (by assumption) hr k
      · cases h
    · cases h
  · cases h
theorem sk {c want:Bool} (hf:Fr a n ds L) (h:gpk n L ops ops[i]? = some (d,op,ty,c,want)) (hc:c=!want) (k:∀ a',Fr a' n ds ((d,undef)::L)→O r P ops Q rest a' w):O r P ops Q (i::rest) a w:=by
  unfold gpk at h
  split at h
  · split at h
    · split at h
      · cases h
        exact O.skipB hf (by assumption) (by assumption) (by assumption) hc (by assumption) k
      · cases h
    · cases h
  · cases h
def clk (n:Nat) (L:List (Nat × Value)):Option Oper→Option (Nat × FuncId × Array Value)
  | some ⟨some d,.call ⟨.value f,args,_⟩,_,_,_,none⟩=>match Nat.blt d n,ev L f,evA L args.toList with
    | true,some (.func (.func fid) first captured),some vs=>some (d,fid,(first.toList++(vs++captured.toList)).toArray)
    | _,_,_=>none
  | _=>none
theorem oc {f:FuncId} {av:Array Value} {G:Type} {u:G→Value} {R:G→World→Prop} (hf:Fr a n ds L) (h:clk n L ops[i]? = some (d,f,av)) (hk:callOK P f=true) (hc:Ret P f av w u R)
    (k:∀ g w',R g w'→∀ a',Fr a' n ds ((d,u g)::L)→O r P ops Q rest a' w'):O r P ops Q (i::rest) a w:=by
  unfold clk at h
  split at h
  · split at h
    · cases h
      exact O.callR hf (by assumption) rfl (by assumption) (RunE.call hk (by assumption) (by assumption) (by apply Array.ext'; simp)) hc k
    · cases h
  · cases h
class SetA (j:Nat) (M:List Asr) (q:Asr) (M':outParam (List Asr)):Prop where
  eq:M.set j q=M'
instance SetA.zero:SetA 0 (pp::M) qq (qq::M):=⟨rfl⟩
instance SetA.succ {j:Nat} [h:SetA j M qq R]:SetA (j+1) (pp::M) qq (pp::R):=⟨congrArg (pp::·) h.eq⟩
theorem ost (j:Nat) (cs':Array Value) {b o m e:Nat} {t:TypeId} {x z:Operand} {pos:String} {af:Array Edge} {cs:Array Value} (hf:Fr a n ds L) (hS:St w0 w X B M) (ho:ops[i]? = some ⟨none,.store t x z,ty,pos,af,none⟩) (hx:ev L x=some (.pointer (some ⟨b,o,none⟩))) (hy:ev L z=some v)
    (hs:tSize P t=some m) (hv:v.cells.size=m) (h1:oneCells v.cells.toList=true) (hM:M[j]? = some (pt b (.cells cs e (0,0)))) (hle:o+m≤cs.size) (hc:wr cs o v.cells.toList=cs') [h:SetA j M (pt b (.cells cs' e (0,0))) N]
    (k:∀ w',St w0 w' X B N→O r P ops Q rest a w'):O r P ops Q (i::rest) a w:=O.store hf hS ho hx hy hs hv h1 hM hle hc h.eq k
end
end Go.SL

namespace Go.SL
open Go
section
variable {w0 w w':World} {X X':Nat→Prop} {B M N:List Asr} {A1 A2:Asr} {i j:Nat}
end
end Go.SL

namespace Go.SL
open Go
section
variable {P:Program} {w w0:World} {n:Nat} {ds:List Deferred} {L:List (Nat × Value)} {ty t:TypeId} {x:Operand} {X:Nat→Prop} {B M:List Asr}
def World.setIter (w:World) (b:Nat) (s:ByteArray) (pos:Nat):World:={ w with heap:=w.heap.setIfInBounds b (.stringIter s pos) }
theorem St.setIter {i b pos pos':Nat} {s:ByteArray} (h:St w0 w X B M) (hi:M[i]? = some (pt b (.stringIter s pos))):St w0 (World.setIter w b s pos') X B (M.set i (pt b (.stringIter s pos'))):=by
  have hb:=h.ptAt hi
  have hlt:b<w.heap.size:=(Array.getElem?_eq_some_iff.1 hb).1
  refine h.write hi rfl rfl rfl (by simp [World.setIter]) (fun c hc hn=>?_) ?_ (fun c hc=>⟨.inl hc,?_⟩)
  · have hne:¬ b=c:=fun e=>hn (show c=b from e.symm)
    simp [World.setIter,Array.getElem?_setIfInBounds,hne]
  · show (World.setIter w b s pos').heap[b]? = _
    simp [World.setIter,Array.getElem?_setIfInBounds,hlt]
  · have:c=b:=hc
    subst this
    simpa [World.setIter] using hlt
end
end Go.SL

namespace Go.SL
open Go
section
variable {r:Option Nat} {P:Program} {ops:Array Oper} {i n:Nat} {ds:List Deferred} {L:List (Nat × Value)} {a:Act} {w:World}
theorem gt {d:Nat} {v:Value} (hf:Fr a n ds L) (h:dstOf ops i=some d) (hl:lk L d=some v):∀ d',dstOf ops i=some d'→a.tmps[d']? = some v:=fun d' h'=>by
  rw [h] at h'
  cases h'
  exact hf.get _ _ hl
end
end Go.SL

namespace Go.SL
open Go
structure KeyOK (P:Program) (kt:TypeId) {K:Type} [DecidableEq K] (kE:K→Value) (G:World→K→Prop):Prop where
  chk:∀ (k:K) (b:Bool) (w:World),(Instr.checkKey b 10000 kt (kE k)).run P w=.ok () w
  und:∃ d,P.underlying kt=some d∧∀ k k':K,Instr.sameNow d (kE k) (kE k')=none
  eqk:∀ (k k':K) (w:World),G w k→G w k'→(Op.equal kt (kE k) (kE k')).run P w=.ok (decide (k=k')) w
  bits:∀ k:K,Instr.sameBits 10000 (kE k) (kE k)=true
section
variable {K:Type} [DecidableEq K]
def getP (k:K):List (K × Value)→Option Value
  | []=>none
  | p::t=>if k=p.1 then some p.2 else getP k t
def posP (k:K):List (K × Value)→Nat→Option (Nat × Value)
  | [],_=>none
  | p::t,i=>if k=p.1 then some (i,p.2) else posP k t (i+1)
def setP (k:K) (v:Value):List (K × Value)→List (K × Value)
  | []=>[(k,v)]
  | p::t=>if k=p.1 then (k,v)::t else p::setP k v t
theorem posP_get (k:K):∀ (l:List (K × Value)) (i:Nat),(posP k l i).map (·.2)=getP k l
  | [],_=>rfl
  | p::t,i=>by
    simp only [posP,getP]
    split
    · rfl
    · exact posP_get k t (i+1)
theorem getP_setP (k k':K) (v:Value):∀ l:List (K × Value),getP k' (setP k v l)=if k'=k then some v else getP k' l
  | []=>by simp only [setP,getP]
  | p::t=>by
    simp only [setP]
    split
    · rename_i h
      simp only [getP]
      split
      · rfl
      · rename_i h2; rw [if_neg (fun e=>h2 (e.trans h.symm))]
    · rename_i h
      simp only [getP]
      rw [getP_setP k k' v t]
      by_cases h1:k'=p.1
      · rw [if_pos h1,if_neg (fun e=>h (e.symm.trans h1)),if_pos h1]
      · rw [if_neg h1,if_neg h1]
theorem keys_setP (k:K) (v:Value):∀ l:List (K × Value),(setP k v l).map (·.1)=if k ∈ l.map (·.1) then l.map (·.1) else l.map (·.1)++[k]
  | []=>by simp [setP]
  | p::t=>by
    simp only [setP]
    split
    · rename_i h; subst h; simp
    · rename_i h
      simp only [List.map_cons,keys_setP k v t,List.mem_cons,h,false_or]
      split <;> rfl
theorem nodup_setP {k:K} {v:Value} {l:List (K × Value)} (h:(l.map (·.1)).Nodup):((setP k v l).map (·.1)).Nodup:=by
  rw [keys_setP]
  split
  · exact h
  · rename_i hk
    rw [List.nodup_append]
    exact ⟨h,by simp,fun a ha b hb e=>by simp only [List.mem_singleton] at hb; subst hb; subst e; exact hk ha⟩
theorem getP_mem {k:K} {v:Value}:∀ {l:List (K × Value)},getP k l=some v→(k,v) ∈ l
  | [],h=>by cases h
  | p::t,h=>by
    simp only [getP] at h
    split at h
    · rename_i hk; simp only [Option.some.injEq] at h; subst hk h; exact List.mem_cons_self
    · exact List.mem_cons_of_mem _ (getP_mem h)
theorem mem_getP {k:K} {v:Value}:∀ {l:List (K × Value)},(l.map (·.1)).Nodup→(k,v) ∈ l→getP k l=some v
  | p::t,hn,h=>by
    simp only [List.map_cons,List.nodup_cons] at hn
    simp only [getP]
    rcases List.mem_cons.1 h with h1 | h1
    · subst h1; rw [if_pos rfl]
    · rw [if_neg (fun e=>hn.1 (List.mem_map.2 ⟨_,h1,e⟩))]
      exact mem_getP hn.2 h1
def mpOK (kE:K→Value) (h:Hp) (b:Nat) (kvs:List (K × Value)):Prop :=
  ∃ es clock,h b=some (.map es clock)∧es.toList.map (fun e=>(e.key,e.val))=kvs.map (fun p=>(kE p.1,p.2))∧(∀ e ∈ es.toList,e.born<clock)∧(es.toList.map (·.born)).Nodup
def mp (kE:K→Value) (b:Nat) (kvs:List (K × Value)):Asr:=⟨fun k=>k=b,fun h=>mpOK kE h b kvs,fun h h' hk ⟨es,c,h1,h2⟩=>⟨es,c,by rw [hk b rfl]; exact h1,h2⟩⟩
variable {P:Program} {w w0:World} {t kt:TypeId} {kE:K→Value} {kvs:List (K × Value)} {b:Nat} {k:K} {z:Value} {G:World→K→Prop}
theorem run_findP (hk:KeyOK P kt kE G) (hgk:G w k) (hg:∀ p ∈ kvs,G w p.1) {es:List MapEntry} (h:es.map (fun e=>(e.key,e.val))=kvs.map (fun p=>(kE p.1,p.2))):(Instr.findKey kt (kE k) es).run P w=.ok (posP k kvs 0) w:=by
  obtain ⟨d,hd,hn⟩:=hk.und
  have key:∀ (es:List MapEntry) (kvs:List (K × Value)) (i:Nat),(∀ p ∈ kvs,G w p.1)→es.map (fun e=>(e.key,e.val))=kvs.map (fun p=>(kE p.1,p.2))→(Instr.findAsking kt (kE k) es i).run P w=.ok (posP k kvs i) w:=by
    intro es
    induction es with
    | nil =>
      intro kvs i hg h
      cases kvs with
      | nil=>rfl
      | cons=>simp at h
    | cons e es ih =>
      intro kvs i hg h
      cases kvs with
      | nil=>simp at h
      | cons p t =>
        simp only [List.map_cons,List.cons.injEq,Prod.mk.injEq] at h
        simp only [Instr.findAsking,Sem.run_bind,h.1.1,hk.eqk k p.1 w hgk (hg p List.mem_cons_self),Result.andThen,posP]
        by_cases hx:k=p.1
        · simp [hx,h.1.2]
        · simp only [hx,decide_false,Bool.false_eq_true,if_false]
          exact ih t (i+1) (fun p hp=>hg p (List.mem_cons_of_mem _ hp)) h.2
  unfold Instr.findKey
  simp only [Sem.run_bind,run_underlying hd,Result.andThen]
  cases es with
  | nil =>
    cases kvs with
    | nil=>rfl
    | cons=>simp at h
  | cons e es =>
    cases kvs with
    | nil=>simp at h
    | cons p t =>
      have h1:=h
      simp only [List.map_cons,List.cons.injEq,Prod.mk.injEq] at h1
      have:Instr.findNow d (kE k) (e::es) 0=none:=by simp [Instr.findNow,h1.1.1,hn]
      rw [this]
      exact key (e::es) (p::t) 0 hg h
def tMapOf (P:Program) (t:TypeId):Option (TypeId × Value) :=
  match P.underlying t with
  | some (.map k e)=>match tZero P e with
    | some z=>some (k,z)
    | none=>none
  | _=>none
theorem tMapOf_spec (h:tMapOf P t=some (kt,z)):∃ e,P.underlying t=some (.map kt e)∧tZero P e=some z:=by
  unfold tMapOf at h
  split at h
  · rename_i k e hu
    split at h
    · rename_i z' hz
      simp only [Option.some.injEq,Prod.mk.injEq] at h
      obtain ⟨rfl,rfl⟩:=h
      exact ⟨e,hu,hz⟩
    · cases h
  · cases h
theorem run_lookP (ht:tMapOf P t=some (kt,z)) (hk:KeyOK P kt kE G) (hgk:G w k) (hg:∀ p ∈ kvs,G w p.1) (h:mpOK kE (hp w) b kvs):(Instr.lookup t (.map (some b)) (kE k) false).run P w=.ok ((getP k kvs).getD z) w:=by
  obtain ⟨e,h1,h3⟩:=tMapOf_spec ht
  obtain ⟨es,c,hb,hm,_⟩:=h
  have hb':w.heap[b]? = some (.map es c):=hb
  unfold Instr.lookup
  simp only [Sem.run_bind,run_underlying h1,Result.andThen,MapKept.run_getObj_map hb',Sem.run_pure,hk.chk,run_findP hk hgk hg hm]
  rw [← posP_get k kvs 0]
  cases posP k kvs 0 with
  | none =>
    simp only [Option.map_none,Sem.run_bind,run_zero h3,Result.andThen,Sem.run_pure]
    rfl
  | some j =>
    simp only [Option.map_some,Sem.run_bind,Sem.run_pure,Result.andThen]
    rfl
theorem posP_none {k:K} {v:Value}:∀ {l:List (K × Value)} {i:Nat},posP k l i=none→k ∉ l.map (·.1)∧setP k v l=l++[(k,v)]
  | [],_,_=>by simp [setP]
  | p::t,i,h=>by
    simp only [posP] at h
    split at h
    · cases h
    · rename_i hk
      obtain ⟨h1,h2⟩:=posP_none (v:=v) h
      exact ⟨by simp only [List.map_cons,List.mem_cons,not_or]; exact ⟨hk,h1⟩,by simp only [setP,if_neg hk,h2,List.cons_append]⟩
theorem posP_some {k:K} {v:Value} {j:Nat × Value}:∀ {l:List (K × Value)} {i:Nat},posP k l i=some j→∃ m,j.1=i+m∧m<l.length∧(l[m]?).map (·.1)=some k∧setP k v l=l.set m (k,v)
  | [],_,h=>by cases h
  | p::t,i,h=>by
    simp only [posP] at h
    split at h
    · rename_i hk
      simp only [Option.some.injEq] at h
      subst h hk
      exact ⟨0,rfl,by simp,by simp,by simp [setP]⟩
    · rename_i hk
      obtain ⟨m,h1,h2,h3,h4⟩:=posP_some (v:=v) h
      exact ⟨m+1,by omega,by simp; omega,by simpa using h3,by simp only [setP,if_neg hk,h4,List.set_cons_succ]⟩
theorem run_putP (ht:tMapOf P t=some (kt,z)) (hk:KeyOK P kt kE G) (hgk:G w k) (hg:∀ p ∈ kvs,G w p.1) (h:mpOK kE (hp w) b kvs) (v:Value) :
    ∃ es c,(Instr.mapUpdate t (.map (some b)) (kE k) v).run P w=.ok () (putMap w b es c)∧mpOK kE (hp (putMap w b es c)) b (setP k v kvs):=by
  obtain ⟨e,h1,h3⟩:=tMapOf_spec ht
  obtain ⟨es,c,hb,hm,hbo,hnd⟩:=h
  have hb':w.heap[b]? = some (.map es c):=hb
  have hat:∀ es' c',hp (putMap w b es' c') b=some (.map es' c'):=fun es' c'=>Array.getElem?_setIfInBounds_self_of_lt (Array.getElem?_eq_some_iff.1 hb').1
  cases hp:posP k kvs 0 with
  | none =>
    obtain ⟨_,hs⟩:=posP_none (v:=v) hp
    refine ⟨es.push { key:=kE k,val:=v,born:=c },c+1,?_,_,_,hat _ _,?_,?_,?_⟩
    · unfold Instr.mapUpdate
      simp only [Sem.run_bind,run_underlying h1,Result.andThen,MapKept.run_getObj_map hb',hk.chk,run_findP hk hgk hg hm,hp,MapKept.run_setObj_map _ hb']
      rfl
    · rw [hs]; simp [hm]
    · intro x hx
      simp only [Array.toList_push,List.mem_append,List.mem_singleton] at hx
      rcases hx with hx | rfl
      · have:=hbo x hx; omega
      · exact Nat.lt_succ_self _
    · simp only [Array.toList_push,List.map_append,List.map_cons,List.map_nil]
      rw [List.nodup_append]
      refine ⟨hnd,by simp,fun x hx y hy=>?_⟩
      simp only [List.mem_singleton] at hy
      subst hy
      obtain ⟨e,he,rfl⟩:=List.mem_map.1 hx
      have:=hbo e he; omega
  | some j =>
    obtain ⟨m,hj,hml,hmk,hs⟩:=posP_some (v:=v) hp
    rw [Nat.zero_add] at hj
    have hlen:es.size=kvs.length:=by have:=congrArg List.length hm; simpa using this
    have hme:m<es.size:=by omega
    have hkey:es[m].key=kE k:=by
      have:=congrArg (fun l=>(l[m]?).map (·.1)) hm
      simp only [List.getElem?_map,Option.map_map] at this
      have e1:es.toList[m]? = some es[m]:=by simp [hme]
      rw [e1] at this
      simp only [Option.map_some] at this
      cases hkv:kvs[m]? with
      | none=>rw [hkv] at hmk; cases hmk
      | some q =>
        rw [hkv] at hmk this
        simp only [Option.map_some,Option.some.injEq,Function.comp_apply] at hmk this
        rw [this,hmk]
    obtain ⟨j1,j2⟩:=j
    simp only at hj
    subst hj
    refine ⟨es.modify j1 fun e=>{ e with key:=kE k,val:=v },c,?_,_,_,hat _ _,?_,?_,?_⟩
    · unfold Instr.mapUpdate
      simp only [Sem.run_bind,run_underlying h1,Result.andThen,MapKept.run_getObj_map hb',hk.chk,run_findP hk hgk hg hm,hp,Instr.keyThatStays]
      have he:es[j1]? = some es[j1]:=by simp [hme]
      simp only [he,Option.map_some,Option.getD_some,hkey,hk.bits,if_true,Sem.run_pure,Result.andThen,MapKept.run_setObj_map _ hb']
      rfl
    · rw [hs]
      apply List.ext_getElem?
      intro i
      have h0:=congrArg (fun l=>l[i]?) hm
      simp only [List.getElem?_map] at h0
      simp only [Array.toList_modify,List.getElem?_map,List.getElem?_modify,List.getElem?_set]
      by_cases hi:j1=i
      · subst hi
        simp [hme,hml]
      · simp only [hi,if_false]
        simpa using h0
    · intro x hx
      obtain ⟨i,hi,rfl⟩:=List.mem_iff_getElem.1 hx
      have hi':i<es.size:=by simpa using hi
      have h2:=hbo es[i] (by simp)
      simp only [Array.toList_modify,List.getElem_modify,Array.getElem_toList]
      split <;> exact h2
    · have:((es.modify j1 fun e=>{ e with key:=kE k,val:=v }).toList.map (·.born))=es.toList.map (·.born):=by
        apply List.ext_getElem?
        intro i
        simp only [Array.toList_modify,List.getElem?_map,List.getElem?_modify]
        cases es.toList[i]? with
        | none=>simp
        | some x=>by_cases hi:j1=i <;> simp [hi]
      rw [this]; exact hnd
end
section
variable {K:Type} {kE:K→Value} {kvs:List (K × Value)}
variable {r:Option Nat} {P:Program} {ops:Array Oper} {Q:Exit→Act→World→Prop} {a:Act} {w w0:World} {n:Nat} {ds:List Deferred} {L:List (Nat × Value)} {X:Nat→Prop} {B M M':List Asr}
  {d i j b:Nat} {ty t kt:TypeId} {pos:String} {af:Array Edge} {rest:List Nat}
theorem St.mpAt (h:St w0 w X B M) (hi:M[j]? = some (mp kE b kvs)):mpOK kE (hp w) b kvs:=h.at_ hi
theorem O.makeP (kE:K→Value) (hf:Fr a n ds L) (hS:St w0 w X B M) (ho:ops[i]? = some ⟨some d,.makeMap t none,ty,pos,af,none⟩) (hd:Nat.blt d n=true)
    (k:∀ b w' a',w0.heap.size≤b→St w0 w' X B (mp kE b []::M)→Fr a' n ds ((d,.map (some b))::L)→O r P ops Q rest a' w'):O r P ops Q (i::rest) a w:=by
  refine O.val (w':=w.alloc (.map #[] 0)) hf ho rfl hd (v:=.map (some w.heap.size)) ?_ (fun a' hf'=>k _ _ a' hS.size ?_ hf')
  · intro a d pos af g hf
    simp only [execOp]
    exact run_v rfl
  · exact (hS.alloc (.map #[] 0)).conv (i:=0) (p:=pt w.heap.size (.map #[] 0)) (q:=mp kE w.heap.size []) rfl (fun h=>⟨#[],0,h,rfl,by simp,by simp⟩) (fun b hb=>hb)
end
section
variable {K:Type} [DecidableEq K] {kE:K→Value} {kvs:List (K × Value)} {k:K} {G:World→K→Prop}
variable {r:Option Nat} {P:Program} {ops:Array Oper} {Q:Exit→Act→World→Prop} {a:Act} {w w0:World} {n:Nat} {ds:List Deferred} {L:List (Nat × Value)} {X:Nat→Prop} {B M M':List Asr}
  {d i j b:Nat} {ty t kt:TypeId} {pos:String} {af:Array Edge} {rest:List Nat} {x y zz:Operand} {v z u:Value}
theorem RunV.lookP (ht:tMapOf P t=some (kt,z)) (hk:KeyOK P kt kE G) (hgk:G w k) (hg:∀ p ∈ kvs,G w p.1) (hx:ev L x=some (.map (some b))) (hy:ev L y=some (kE k)) (h:mpOK kE (hp w) b kvs) (hu:(getP k kvs).getD z=u):RunV P n ds L (.lookup t x y false) ty w u w:=fun a d pos af g hf=>by
  simp only [execOp,hf.eval hx,hf.eval hy]
  subst hu
  exact run_v (run_lookP ht hk hgk hg h)
theorem O.putP (hf:Fr a n ds L) (hS:St w0 w X B M) (ho:ops[i]? = some ⟨none,.mapUpdate t x y zz,ty,pos,af,none⟩) (ht:tMapOf P t=some (kt,z)) (hk:KeyOK P kt kE G) (hgk:G w k) (hg:∀ p ∈ kvs,G w p.1) (hx:ev L x=some (.map (some b))) (hy:ev L y=some (kE k)) (hz:ev L zz=some v)
    (hM:M[j]? = some (mp kE b kvs)) (hM':M.set j (mp kE b (setP k v kvs))=M') (kk:∀ w',St w0 w' X B M'→O r P ops Q rest a w'):O r P ops Q (i::rest) a w:=by
  obtain ⟨es,c,h1,h2⟩:=run_putP (P:=P) ht hk hgk hg (hS.mpAt hM) v
  have hl:=(hS.sep.get hM).2 b rfl
  refine O.unit (w':=putMap w b es c) hf ho rfl ?_ (kk _ (hM'▸?_))
  · intro a d pos af g hf
    simp only [execOp,hf.eval hx,hf.eval hy,hf.eval hz]
    exact run_u h1
  · refine hS.write (w':=SL.putMap w b es c) hM rfl rfl rfl (by simp [SL.putMap]) (fun k _ hk=>?_) h2 (fun k hk=>⟨.inl hk,by
      have hk:k=b:=hk
      subst hk
      simpa [SL.putMap] using hl.1⟩)
    simp only [SL.putMap]
    exact Array.getElem?_setIfInBounds_ne (fun e=>hk e.symm)
end
def bigA (l:List Asr):Asr :=
  ⟨fun b=>∃ p ∈ l,p.fp b,fun h=>(∀ p ∈ l,p.holds h)∧l.Pairwise (fun p q:Asr=>∀ b:Nat,p.fp b→¬ q.fp b),
   fun h h' hk ⟨h1,h2⟩=>⟨fun p hp=>p.loc h h' (fun b hb=>hk b ⟨p,hp,hb⟩) (h1 p hp),h2⟩⟩
section
variable {h:Hp} {m:Nat} {old:Nat→Prop} {l l' N M:List Asr} {p q:Asr} {w0 w:World} {X:Nat→Prop} {B:List Asr}
theorem Sep.big:∀ {l:List Asr},Sep h m old (bigA l::M)↔Sep h m old (l++M)
  | []=>by
    constructor
    · exact fun hs=>hs.2
    · exact fun hs=>⟨⟨⟨by simp,.nil⟩,fun b ⟨p,hp,_⟩=>by simp at hp,fun q _ b ⟨p,hp,_⟩=>by simp at hp⟩,hs⟩
  | p::l=>by
    have ih:=Sep.big (l:=l)
    constructor
    · rintro ⟨⟨⟨h1,h2⟩,h3,h4⟩,h5⟩
      rw [List.pairwise_cons] at h2
      refine ⟨⟨h1 p List.mem_cons_self,fun b hb=>h3 b ⟨p,List.mem_cons_self,hb⟩,fun q hq b hb=>?_⟩,ih.1 ⟨⟨⟨fun q hq=>h1 q (List.mem_cons_of_mem _ hq),h2.2⟩,fun b ⟨q,hq,hb⟩=>h3 b ⟨q,List.mem_cons_of_mem _ hq,hb⟩,fun q hq b ⟨r,hr,hb⟩=>h4 q hq b ⟨r,List.mem_cons_of_mem _ hr,hb⟩⟩,h5⟩⟩
      rcases List.mem_append.1 hq with hq | hq
      · exact h2.1 q hq b hb
      · exact h4 q hq b ⟨p,List.mem_cons_self,hb⟩
    · rintro ⟨⟨h1,h2,h3⟩,h4⟩
      obtain ⟨⟨⟨g1,g2⟩,g3,g4⟩,g5⟩:=ih.2 h4
      refine ⟨⟨⟨fun q hq=>?_,List.pairwise_cons.2 ⟨fun q hq b hb=>h3 q (List.mem_append_left _ hq) b hb,g2⟩⟩,?_,?_⟩,g5⟩
      · rcases List.mem_cons.1 hq with rfl | hq
        · exact h1
        · exact g1 q hq
      · rintro b ⟨q,hq,hb⟩
        rcases List.mem_cons.1 hq with rfl | hq
        · exact h2 b hb
        · exact g3 b ⟨q,hq,hb⟩
      · rintro q hq b ⟨s,hs,hb⟩
        rcases List.mem_cons.1 hs with rfl | hs
        · exact h3 q (List.mem_append_right _ hq) b hb
        · exact g4 q hq b ⟨s,hs,hb⟩
theorem Sep.tail {M':List Asr} (he:∀ q ∈ M',∀ b,q.fp b→∃ q' ∈ M,q'.fp b) (hm:Sep h m old M→Sep h m old M'):∀ {N:List Asr},Sep h m old (N++M)→Sep h m old (N++M')
  | [],hs=>hm hs
  | p::N,hs=>⟨⟨hs.1.1,hs.1.2.1,fun q hq b hb hqb=>by
      rcases List.mem_append.1 hq with h1 | h1
      · exact hs.1.2.2 q (List.mem_append_left _ h1) b hb hqb
      · obtain ⟨q',h2,h3⟩:=he q h1 b hqb
        exact hs.1.2.2 q' (List.mem_append_right _ h2) b hb h3⟩,Sep.tail he hm hs.2⟩
theorem St.tail {M':List Asr} (hS:St w0 w X B (N++M)) (he:∀ q ∈ M',∀ b,q.fp b→∃ q' ∈ M,q'.fp b) (hm:Sep (hp w) w.heap.size (fun b=>X b∨w0.heap.size≤b) M→Sep (hp w) w.heap.size (fun b=>X b∨w0.heap.size≤b) M'):St w0 w X B (N++M') :=
  ⟨hS.os,hS.tape,hS.output,hS.size,hS.old,Sep.tail he hm hS.sep,hS.bor⟩
theorem St.bigOpen (hS:St w0 w X B (N++bigA l::M)):St w0 w X B (N++(l++M)) :=
  hS.tail (fun q hq b hb=>by
    rcases List.mem_append.1 hq with h1 | h1
    · exact ⟨_,List.mem_cons_self,q,h1,hb⟩
    · exact ⟨q,List.mem_cons_of_mem _ h1,hb⟩) Sep.big.1
theorem St.bigClose (hS:St w0 w X B (N++(l++M))):St w0 w X B (N++bigA l::M) :=
  hS.tail (fun q hq b hb=>by
    rcases List.mem_cons.1 hq with rfl | h1
    · obtain ⟨p,hp,hb⟩:=hb
      exact ⟨p,List.mem_append_left _ hp,hb⟩
    · exact ⟨q,List.mem_append_right _ h1,hb⟩) Sep.big.2
theorem St.bigCons (hS:St w0 w X B (N++bigA (p::l)::M)):St w0 w X B (N++p::bigA l::M):=by
  have h1:=hS.bigOpen
  have h2:St w0 w X B ((N++[p])++(l++M)):=by simpa using h1
  have h3:=h2.bigClose
  simpa using h3
theorem St.bigUncons (hS:St w0 w X B (N++p::bigA l::M)):St w0 w X B (N++bigA (p::l)::M):=by
  have h2:St w0 w X B ((N++[p])++bigA l::M):=by simpa using hS
  have h3:=h2.bigOpen
  have h4:St w0 w X B (N++((p::l)++M)):=by simpa using h3
  exact h4.bigClose
theorem bigA_perm_holds (hl:l.Perm l') (hh:(bigA l).holds h):(bigA l').holds h :=
  ⟨fun p hp=>hh.1 p (hl.mem_iff.2 hp),(hl.pairwise_iff (fun {a b} hab c hb ha=>hab c ha hb)).1 hh.2⟩
theorem St.bigPerm {i:Nat} (hS:St w0 w X B M) (hi:M[i]? = some (bigA l)) (hl:l.Perm l'):St w0 w X B (M.set i (bigA l')) :=
  hS.conv hi (bigA_perm_holds hl) (fun _ ⟨p,hp,hb⟩=>⟨p,hl.mem_iff.2 hp,hb⟩)
end
def wrongV (t:TypeId) (c:Int):Value:=.iface t (.agg #[.int .i64 c])
def RetP {G:Type} (P:Program) (t:TypeId) (f:FuncId) (args:Array Value) (w:World) (v:G→Value) (R:G→World→Prop) (Rp:Int→World→Prop):Prop :=
  Calls P f args w fun e w'=>(∃ g,e=.returned (v g)∧R g w')∨∃ c,e=.panicked [⟨wrongV t c,false,false⟩]∧Rp c w'
section
variable {r:Option Nat} {P:Program} {Q:Exit→Act→World→Prop} {ops:Array Oper} {i:Nat} {rest:List Nat} {a:Act} {w w0 w':World} {n:Nat} {ds:List Deferred} {L:List (Nat × Value)}
  {d:Nat} {op:Op} {ty t:TypeId} {pos:String} {af:Array Edge} {X:Nat→Prop} {B M:List Asr} {G:Type} {v:G→Value} {R:G→World→Prop} {Rp:Int→World→Prop} {f:FuncId} {args:Array Value} {x:Operand}
theorem retP_of_W {fn:Func} {c:Code} {lv:List Value} (hf:P.funcs[f]? = some fn) (hb:fn.body=some c) (hn:fn.ntmps=n) (hl:Nat.ble lv.length n=true)
    (h:∀ a,Fr a n [] (argsL 0 lv)→W none P c (bodyPost P fn (fun e w'=>(∃ g,e=.returned (v g)∧R g w')∨∃ c,e=.panicked [⟨wrongV t c,false,false⟩]∧Rp c w')) a w):RetP P t f lv.toArray w v R Rp:=calls_of_W hf hb hn hl h
theorem O.callP (hf:Fr a n ds L) (ho:ops[i]? = some ⟨some d,op,ty,pos,af,none⟩) (hnd:noDefer op=true) (hd:Nat.blt d n=true) (hr:RunE P n ds L op ty w f args) (hc:RetP P t f args w v R Rp)
    (k:∀ g w',R g w'→∀ a',Fr a' n ds ((d,v g)::L)→O r P ops Q rest a' w') (kp:∀ c w',Rp c w'→∀ a',Fr a' n ds L→Q (.panic [⟨wrongV t c,false,false⟩]) a' w'):O r P ops Q (i::rest) a w:=by
  unfold O wpOpsIn
  simp only [ho]
  rw [if_pos (by simp [Region.wanted])]
  refine ⟨fun _ _=>trivial,?_⟩
  rw [semAt_FW (o:=⟨some d,op,ty,pos,af,none⟩) hnd,hr a (some d) pos af none hf]
  refine ⟨fun h=>by simp [FW] at h,callsIn_FW.2 (Calls.mono hc ?_)⟩
  rintro e w1 (⟨g,rfl,hR⟩ | ⟨c,rfl,hR⟩)
  · exact k g w1 hR _ (hf.put hd (v g))
  · exact kp c w1 hR a hf
theorem O.panic {u:Value} (hf:Fr a n ds L) (ho:ops[i]? = some ⟨none,.panic x,ty,pos,af,none⟩) (hx:ev L x=some (.iface t u)) (k:Q (.panic [⟨.iface t u,false,false⟩]) a w):O r P ops Q (i::rest) a w:=by
  unfold O wpOpsIn
  simp only [ho]
  rw [if_pos (by simp [Region.wanted])]
  refine ⟨fun _ _=>trivial,?_⟩
  rw [semAt_FW (o:=⟨none,.panic x,ty,pos,af,none⟩) rfl]
  have he:(execOp a.eval ⟨none,.panic x,ty,pos,af,none⟩).run P w=.halt (.panic (.iface t u)) w:=by
    simp only [execOp,hf.eval hx,Instr.panic,goPanic,Sem.run_bind]
    rfl
  rw [he]
  exact k
theorem k_seq_panic {K:Act→World→Prop} {ch:List PanicEntry} (h:Q (.panic ch) a w):Exit.then K Q (.panic ch) a w:=h
theorem k_blk_panic {id:Nat} {ch:List PanicEntry} (h:Q (.panic ch) a w):Exit.inBlock id Q (.panic ch) a w:=h
theorem post_panic {fn:Func} {R':Ending→World→Prop} {ch:List PanicEntry} (hf:Fr a n [] L) (h:R' (.panicked ch) w):bodyPost P fn R' (.panic ch) a w:=⟨hf.defers,h⟩
end
end Go.SL
