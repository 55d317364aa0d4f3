/- Regions that draw their order: a chain of operations that turn memory, and new variables that may be made at any time before they are wanted. -/
import Derived.Test.YtfaflenaajafgaaGreatDoorSL16
set_option linter.unusedVariables false
set_option linter.unusedSimpArgs false
namespace Go.SL
open Go
def empA:Asr:=⟨fun _=>False,fun _=>True,fun _ _ _ h=>h⟩
def condA (c:Bool) (p:Asr):Asr:=match c with
  | true=>p
  | false=>empA
section
variable {r:Option Nat} {P:Program} {ops:Array Oper} {Q:Exit→Act→World→Prop} {a:Act} {w w0:World} {n:Nat} {ds:List Deferred} {γ:Type} {X:Nat→Prop} {B M:List Asr}
theorem St.emp (h:St w0 w X B M):St w0 w X B (empA::M):=h.pushE trivial (fun _ h=>h)
theorem oaC {i d j:Nat} {rest:List Nat} {L:List (Nat × Value)} {t ty:TypeId} {pos:String} {af:Array Edge} {z:Value} {cs:Array Value} {c:Bool} {p:Asr} (hf:Fr a n ds L) (hS:St w0 w X B M) (hj:M[j]? = some (condA c p)) (hc:c=false) (ho:ops[i]? = some ⟨some d,.alloc t,ty,pos,af,none⟩) (hd:Nat.blt d n=true) (hz:tZero P t=some z) (hzc:z.cells=cs)
    (k:∀ b w' a',St w0 w' X B (M.set j (pt b (Cs cs t)))→Fr a' n ds ((d,Pv b 0)::L)→O r P ops Q rest a' w'):O r P ops Q (i::rest) a w:=by
  refine O.alloc hf hS ho hd hz hzc (fun b w' a' hb hS' hf'=>k b w' a' ?_ hf')
  subst hc
  have h1:=hS'.sep
  have hjj:(pt b (Cs cs t)::M)[j+1]? = some (condA false p):=by simpa using hj
  obtain ⟨hjl,hje⟩:=List.getElem?_eq_some_iff.1 hj
  refine ⟨hS'.os,hS'.tape,hS'.output,hS'.size,hS'.old,?_,hS'.bor⟩
  have hp:=h1.1
  have hM:=h1.2
  clear h1 hjj hS hS' k hf hf' ho
  revert j
  induction M with
  | nil=>intro j hj hjl _; simp at hj
  | cons q t ih =>
    intro j hj hjl hje
    cases j with
    | zero =>
      simp only [List.set_cons_zero]
      exact ⟨⟨hp.1,hp.2.1,fun s hs=>hp.2.2 s (by simp [hs])⟩,hM.2⟩
    | succ j =>
      simp only [List.set_cons_succ]
      have h2:=ih ⟨hp.1,hp.2.1,fun s hs=>hp.2.2 s (by simp [hs])⟩ hM.2 (j:=j) (by simpa using hj) (by simpa using hjl) (by simpa using hje)
      refine ⟨⟨hM.1.1,hM.1.2.1,fun s hs b' hb' hsb=>?_⟩,h2⟩
      rcases List.mem_or_eq_of_mem_set hs with h3 | h3
      · exact hM.1.2.2 s h3 b' hb' hsb
      · subst h3
        exact hp.2.2 q (by simp) b' hsb hb'
theorem O.normal {Q':Exit→Act→World→Prop} {R:Act→World→Prop} {l:List Nat} (h:O r P ops (fun e a w=>e=.normal∧R a w) l a w) (hq:∀ a w,R a w→Q' .normal a w):O r P ops Q' l a w:=by
  have:=O.cut (Q:=Q') (l₂:=[]) R h (fun a w hr=>O.nil (hq a w hr))
  simpa using this
theorem oblOf {F:Nat→Prop}:∀ {l:List Nat},(∀ i ∈ l,F i)→Obl F l
  | [],_=>trivial
  | i::t,h=>⟨h i (by simp),oblOf fun j hj=>h j (by simp [hj])⟩
def inl (al:List Nat) (s:Nat→Bool):Nat→Bool:=fun p=>al.contains p&&s p
theorem W.drawC {id:Nat} {L0 L1:List (Nat × Value)} (g0:γ) (mk al qs:List Nat) (pl lo hi ma af ol:Nat→List Nat) (lov hiv:Nat→Nat) (val:γ→Nat→Value) (D:Nat→(Nat→Bool)→γ→World→Prop)
    (hmo:P.follows .mixedOrders=true)
    (hlo:(mk++al++qs).all (fun i=>lo i == mk.take (lov i)++ma i&&hi i == mk.drop (hiv i)&&(ma i).all al.contains&&Nat.ble (lov i) mk.length)=true)
    (hmk:(List.range mk.length).all (fun j=>Nat.beq (lov (mk.getD j 0)) j&&!al.contains (mk.getD j 0)&&(List.range j).all fun t=>!Nat.beq (mk.getD t 0) (mk.getD j 0))=true)
    (hchk:(ordB ops&&ops.all (fun o=>noDefer o.op)&&distinctDst ops (baseKeys L0)&&(List.range ops.size).all (fun i=>(qs.contains i||(mk++al).contains i)&&(pl i).all (fun p=>(predsAt ops i).contains p)&&(lo i).all (fun p=>((mkBm ops).getD i []).contains p&&(mk++al).contains p)&&(hi i).all (fun j=>((mkBm ops).getD j []).contains i)&&(ol i).all (oldOK ops L1 i))&&(mk++al).all (fun i=>Nat.blt i ops.size)
      && vBm ops (mkBm ops)&&(mk++al).all (fun i=>(af i).all fun j=>((mkBm ops).getD j []).contains i)&&qs.all (fun i=>!(mk++al).contains i))=true)
    (hf:Fr a n ds L0) (hf1:Fr a n ds L1) (h0:D 0 (fun _=>false) g0 w.drew)
    (hq:Obl (fun i=>∀ k s g w,lov i≤k→k≤hiv i→(∀ p ∈ ma i,s p=true)→D k s g w→∀ a,Fr a n ds (slotsOf ops (val g) (pl i) (oldL L1 (ol i) L0))→O r P ops (fun e a' w'=>e=.normal∧Fr a' n ds []∧(∀ d,dstOf ops i=some d→a'.tmps[d]? = some (val g i))∧D k s g w') [i] a w) qs)
    (hm:Stages (fun k i=>∀ s g w,(∀ p ∈ ma i,s p=true)→D k s g w→∀ a,Fr a n ds (slotsOf ops (val g) (pl i) (oldL L1 (ol i) L0))→O r P ops (fun e a' w'=>e=.normal∧∃ g',Fr a' n ds []∧(∀ d,dstOf ops i=some d→a'.tmps[d]? = some (val g' i))∧(∀ j,j≠i→(af i).contains j=false→val g' j=val g j)∧D (k+1) s g' w') [i] a w) 0 mk)
    (ha:Obl (fun i=>∀ k s g w,lov i≤k→k≤hiv i→s i=false→D k s g w→∀ a,Fr a n ds (slotsOf ops (val g) (pl i) (oldL L1 (ol i) L0))→O r P ops (fun e a' w'=>e=.normal∧∃ g',Fr a' n ds []∧(∀ d,dstOf ops i=some d→a'.tmps[d]? = some (val g' i))∧(∀ j,j≠i→(af i).contains j=false→val g' j=val g j)∧D k (upd s i) g' w') [i] a w) al)
    (hend:∀ s g a w,(∀ i ∈ al,s i=true)→Fr a n ds (slotsOf ops (val g) (List.range ops.size) L0)→D mk.length s g w→Q .normal a w):W r P (.region id ops true) Q a w:=by
  have hlo':∀ i,i ∈ mk∨i ∈ al∨i ∈ qs→lo i=mk.take (lov i)++ma i∧hi i=mk.drop (hiv i)∧(∀ p ∈ ma i,al.contains p=true)∧lov i≤mk.length:=fun i h=>by
    have:=List.all_eq_true.1 hlo i (by simpa [or_assoc] using h)
    simp only [Bool.and_eq_true,beq_iff_eq,List.all_eq_true] at this
    exact ⟨this.1.1.1,this.1.1.2,this.1.2,Nat.le_of_ble_eq_true this.2⟩
  have hmk':∀ j q,mk[j]? = some q→lov q=j∧al.contains q=false∧∀ t,t<j→mk[t]?≠some q:=fun j q hj=>by
    have hjl:=(List.getElem?_eq_some_iff.1 hj).1
    have h:=List.all_eq_true.1 hmk j (by simpa using hjl)
    have e:mk.getD j 0=q:=by simp [List.getD_eq_getElem?_getD,hj]
    rw [e] at h
    simp only [Bool.and_eq_true,Bool.not_eq_true',List.all_eq_true,List.mem_range] at h
    refine ⟨Nat.eq_of_beq_eq_true h.1.1,h.1.2,fun t ht htq=>?_⟩
    have:=h.2 t ht
    simp [List.getD_eq_getElem?_getD,htq,Nat.beq_refl] at this
  refine W.drawP (L0:=L0) (L1:=L1) g0 (mk++al) qs pl lo hi af ol val
    (fun s g w=>∃ k,k≤mk.length∧(∀ j q,mk[j]? = some q→(s q=true↔j<k))∧D k (inl al s) g w) hmo hchk hf hf1 ⟨0,Nat.zero_le _,fun j q _=>by simp,?_⟩ ?_ ?_ ?_
  · have:inl al (fun _=>false)=fun _=>false:=by funext p; simp [inl]
    rw [this]; exact h0
  all_goals try clear h0 hchk hlo hmk
  ·
    have key:∀ i ∈ qs,∀ s g w,(∀ p ∈ lo i,s p=true)→(∀ j ∈ hi i,s j=false)→(∃ k,k≤mk.length∧(∀ j q,mk[j]? = some q→(s q=true↔j<k))∧D k (inl al s) g w)→∀ a,Fr a n ds (slotsOf ops (val g) (pl i) (oldL L1 (ol i) L0)) →
        O r P ops (fun e a' w'=>e=.normal∧Fr a' n ds []∧(∀ d,dstOf ops i=some d→a'.tmps[d]? = some (val g i))∧(∃ k,k≤mk.length∧(∀ j q,mk[j]? = some q→(s q=true↔j<k))∧D k (inl al s) g w')) [i] a w:=by
      intro i hi' s g w hsp hsb ⟨k,hk,hks,hD⟩ a hfr
      obtain ⟨e1,e2,e3,e4⟩:=hlo' i (.inr (.inr hi'))
      have h:=Obl.get hq i hi' k (inl al s) g w ?_ ?_ ?_ hD a hfr
      · exact O.normal h fun a' w' ⟨h2,h3,h4⟩=>⟨rfl,h2,h3,k,hk,hks,h4⟩
      · rcases Nat.eq_zero_or_pos (lov i) with h | h
        · omega
        · have hl:lov i-1<mk.length:=by omega
          have:=hsp mk[lov i-1] (by rw [e1]; exact List.mem_append_left _ (List.mem_take_iff_getElem.2 ⟨lov i-1,by omega,rfl⟩))
          have:=(hks _ _ (List.getElem?_eq_getElem hl)).1 this
          omega
      · rcases Nat.lt_or_ge (hiv i) k with h | h
        · exfalso
          have hl:hiv i<mk.length:=by omega
          have h5:=hsb mk[hiv i] (by rw [e2]; exact List.mem_drop_iff_getElem.2 ⟨0,by omega,by simp⟩)
          have:=(hks _ _ (List.getElem?_eq_getElem hl)).2 h
          rw [h5] at this; cases this
        · exact h
      · intro p hp
        simp only [inl,e3 p hp,Bool.true_and]
        exact hsp p (by rw [e1]; exact List.mem_append_right _ hp)
    exact oblOf key
  · have key:∀ i ∈ mk++al,∀ s g w,s i=false→(∀ p ∈ lo i,s p=true)→(∀ j ∈ hi i,s j=false)→(∃ k,k≤mk.length∧(∀ j q,mk[j]? = some q→(s q=true↔j<k))∧D k (inl al s) g w)→∀ a,Fr a n ds (slotsOf ops (val g) (pl i) (oldL L1 (ol i) L0)) →
        O r P ops (fun e a' w'=>e=.normal∧∃ g',Fr a' n ds []∧(∀ d,dstOf ops i=some d→a'.tmps[d]? = some (val g' i))∧(∀ j,j≠i→(af i).contains j=false→val g' j=val g j)∧(∃ k,k≤mk.length∧(∀ j q,mk[j]? = some q→(upd s i q=true↔j<k))∧D k (inl al (upd s i)) g' w')) [i] a w:=by
      intro i hi' s g w hs0 hsp hsb ⟨k,hk,hks,hD⟩ a hfr
      rcases List.mem_append.1 hi' with him | hia
      · obtain ⟨j,hj⟩:=List.getElem?_of_mem him
        obtain ⟨f1,f2,f3⟩:=hmk' j i hj
        obtain ⟨e1,e2,e3,e4⟩:=hlo' i (.inl him)
        have hjl:=(List.getElem?_eq_some_iff.1 hj).1
        have hkj:k=j:=by
          have h1:¬ j<k:=fun h=>by have:=(hks j i hj).2 h; rw [hs0] at this; cases this
          rcases Nat.lt_or_ge k j with h2 | h2
          · exfalso
            have hkl:k<mk.length:=by omega
            have:=hsp mk[k] (by rw [e1,f1]; exact List.mem_append_left _ (List.mem_take_iff_getElem.2 ⟨k,by omega,rfl⟩))
            have:=(hks k _ (List.getElem?_eq_getElem hkl)).1 this
            omega
          · omega
        subst hkj
        have h:=Stages.get hm k i hj
        rw [Nat.zero_add] at h
        have h:=h (inl al s) g w (fun p hp=>by simp only [inl,e3 p hp,Bool.true_and]; exact hsp p (by rw [e1]; exact List.mem_append_right _ hp)) hD a hfr
        refine O.normal h fun a' w' ⟨g',h2,h3,h4,h5⟩=>⟨rfl,g',h2,h3,h4,k+1,by omega,fun t q ht=>?_,?_⟩
        · unfold upd
          cases hb:Nat.beq q i with
          | true =>
            have:=Nat.eq_of_beq_eq_true hb
            subst this
            have htk:t=k:=by
              rcases Nat.lt_or_ge t k with h6 | h6
              · exact absurd ht (f3 t h6)
              · rcases Nat.lt_or_ge k t with h7 | h7
                · exact absurd hj ((hmk' t q ht).2.2 k h7)
                · omega
            subst htk
            simp
          | false =>
            simp only
            rw [hks t q ht]
            constructor
            · intro h; omega
            · intro h
              have:t≠k:=fun e=>by
                subst e
                rw [hj] at ht
                injection ht with ht
                subst ht
                simp [Nat.beq_refl] at hb
              omega
        · have e5:inl al (upd s i)=inl al s:=by
            funext p
            unfold inl upd
            cases hb:Nat.beq p i with
            | true =>
              have:=Nat.eq_of_beq_eq_true hb
              subst this
              simp only [f2,Bool.false_and]
            | false=>rfl
          rw [e5]; exact h5
      · obtain ⟨e1,e2,e3,e4⟩:=hlo' i (.inr (.inl hia))
        have hnm:∀ t q,mk[t]? = some q→q≠i:=fun t q ht e=>by
          subst e
          have:=(hmk' t q ht).2.1
          simp at this
          exact this hia
        have hci:al.contains i=true:=by simpa using hia
        have h:=Obl.get ha i hia k (inl al s) g w ?_ ?_ (by simp only [inl,hs0,Bool.and_false]) hD a hfr
        · refine O.normal h fun a' w' ⟨g',h2,h3,h4,h5⟩=>⟨rfl,g',h2,h3,h4,k,hk,fun t q ht=>?_,?_⟩
          · have:Nat.beq q i=false:=by
              cases hb:Nat.beq q i with
              | true=>exact absurd (Nat.eq_of_beq_eq_true hb) (hnm t q ht)
              | false=>rfl
            unfold upd
            rw [this]
            exact hks t q ht
          · have e5:inl al (upd s i)=upd (inl al s) i:=by
              funext p
              unfold inl upd
              cases hb:Nat.beq p i with
              | true =>
                have:=Nat.eq_of_beq_eq_true hb
                subst this
                simp only [hci,Bool.true_and]
              | false=>rfl
            rw [e5]; exact h5
        · rcases Nat.eq_zero_or_pos (lov i) with h | h
          · omega
          · have hl:lov i-1<mk.length:=by omega
            have:=hsp mk[lov i-1] (by rw [e1]; exact List.mem_append_left _ (List.mem_take_iff_getElem.2 ⟨lov i-1,by omega,rfl⟩))
            have:=(hks _ _ (List.getElem?_eq_getElem hl)).1 this
            omega
        · rcases Nat.lt_or_ge (hiv i) k with h | h
          · exfalso
            have hl:hiv i<mk.length:=by omega
            have h5:=hsb mk[hiv i] (by rw [e2]; exact List.mem_drop_iff_getElem.2 ⟨0,by omega,by simp⟩)
            have:=(hks _ _ (List.getElem?_eq_getElem hl)).2 h
            rw [h5] at this; cases this
          · exact h
    exact oblOf key
  · rintro s g a w hall hfr ⟨k,hk,hks,hD⟩
    have hkl:k=mk.length:=by
      rcases Nat.lt_or_ge k mk.length with h | h
      · exfalso
        have:=hall mk[k] (List.mem_append_left _ (List.getElem_mem h))
        have:=(hks k _ (List.getElem?_eq_getElem h)).1 this
        omega
      · omega
    subst hkl
    exact hend (inl al s) g a w (fun i hi=>by simp only [inl]; rw [show al.contains i=true by simpa using hi]; exact hall i (List.mem_append_right _ hi)) hfr hD
theorem Q.val {i d:Nat} {op:Op} {ty:TypeId} {pos:String} {af:Array Edge} {L:List (Nat × Value)} {v:Value} {R:World→Prop} (ho:ops[i]? = some ⟨some d,op,ty,pos,af,none⟩) (hnd:noDefer op=true) (hd:Nat.blt d n=true) (hR:R w) (hf:Fr a n ds L) (hr:RunV P n ds L op ty w v w) :
    O r P ops (fun e a' w'=>e=.normal∧Fr a' n ds []∧(∀ d',dstOf ops i=some d'→a'.tmps[d']? = some v)∧R w') [i] a w:=by
  refine O.val hf ho hnd hd hr (fun a' hf'=>O.nil ⟨rfl,hf'.to trivial,fun d' hd'=>?_,hR⟩)
  have e:dstOf ops i=some d:=by simp [dstOf,ho]
  rw [e] at hd'
  injection hd' with hd'
  subst hd'
  exact hf'.get _ _ (by simp [lk,Nat.beq_refl])
end
end Go.SL
