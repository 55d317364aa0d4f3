/- Part of a proof: laws and walks. -/
import Derived.Test.YtipfobacinmoiaaGreatTab
import Derived.Laws.Slices
import Derived.MapKept
import Derived.RangeFuncOwn
import Derived.RangeFuncLeaves
import Derived.ArgAppend
import Derived.RecoverIn
import Derived.Laws.RangeString
set_option linter.unusedVariables false
set_option linter.unusedSimpArgs false
namespace Go.SL
open Go
def aEe:Asr:=⟨fun _=>False,fun _=>True,fun _ _ _ h=>h⟩
def aU (c:Bool) (p:Asr):Asr:=match c with
  | true=>p
  | false=>aEe
section
variable {r:Option Nat} {P:Program} {ops:Array Oper} {Q:Exit→Act→World→Prop} {a:Act} {w w0:World} {n:Nat} {ds:List Deferred} {γ:Type} {X:Nat→Prop} {B M:List Asr}
theorem St.emp (h:St w0 w X B M):St w0 w X B (aEe::M):=h.u6 trivial (fun _ h=>h)
theorem O.normal {Q':Exit→Act→World→Prop} {R:Act→World→Prop} {l:List Nat} (h:O r P ops (fun e a w=>e=.normal∧R a w) l a w) (hq:∀ a w,R a w→Q' .normal a w):O r P ops Q' l a w:=by
  have:=O.cut (Q:=Q') (l₂:=[]) R h (fun a w hr=>O.nil (hq a w hr))
  simpa using this
theorem aAo {F:Nat→Prop}:∀ {l:List Nat},(∀ i ∈ l,F i)→Obl F l
  | [],_=>trivial
  | i::t,h=>⟨h i (by simp),aAo fun j hj=>h j (by simp [hj])⟩
def inl (al:List Nat) (s:Nat→Bool):Nat→Bool:=fun p=>al.contains p&&s p
theorem W.aEy {id:Nat} {L0 L1:List (Nat × Value)} (g0:γ) (mk al qs:List Nat) (pl lo hi ma af ol:Nat→List Nat) (lov hiv:Nat→Nat) (val:γ→Nat→Value) (D:Nat→(Nat→Bool)→γ→World→Prop)
    (hmo:P.follows .mixedOrders=true)
    (hlo:(mk++al++qs).all (fun i=>lo i == mk.take (lov i)++ma i&&hi i == mk.drop (hiv i)&&(ma i).all al.contains&&Nat.ble (lov i) mk.length)=true)
    (hmk:(List.range mk.length).all (fun j=>Nat.beq (lov (mk.getD j 0)) j&&!al.contains (mk.getD j 0)&&(List.range j).all fun t=>!Nat.beq (mk.getD t 0) (mk.getD j 0))=true)
    (hchk:(vG ops&&ops.all (fun o=>cK o.op)&&jG ops (iC L0)&&(List.range ops.size).all (fun i=>(qs.contains i||(mk++al).contains i)&&(pl i).all (fun p=>(di ops i).contains p)&&(lo i).all (fun p=>((kS ops).getD i []).contains p&&(mk++al).contains p)&&(hi i).all (fun j=>((kS ops).getD j []).contains i)&&(ol i).all (yD ops L1 i))&&(mk++al).all (fun i=>Nat.blt i ops.size)
      && vBm ops (kS ops)&&(mk++al).all (fun i=>(af i).all fun j=>((kS ops).getD j []).contains i)&&qs.all (fun i=>!(mk++al).contains i))=true)
    (hf:Fr a n ds L0) (hf1:Fr a n ds L1) (h0:D 0 (fun _=>false) g0 w.drew)
    (hq:Obl (fun i=>∀ k s g w,lov i≤k→k≤hiv i→(∀ p ∈ ma i,s p=true)→D k s g w→∀ a,Fr a n ds (slotsOf ops (val g) (pl i) (lI L1 (ol i) L0))→O r P ops (fun e a' w'=>e=.normal∧Fr a' n ds []∧(∀ d,bX ops i=some d→a'.tmps[d]? = some (val g i))∧D k s g w') [i] a w) qs)
    (hm:Stages (fun k i=>∀ s g w,(∀ p ∈ ma i,s p=true)→D k s g w→∀ a,Fr a n ds (slotsOf ops (val g) (pl i) (lI L1 (ol i) L0))→O r P ops (fun e a' w'=>e=.normal∧∃ g',Fr a' n ds []∧(∀ d,bX ops i=some d→a'.tmps[d]? = some (val g' i))∧(∀ j,j≠i→(af i).contains j=false→val g' j=val g j)∧D (k+1) s g' w') [i] a w) 0 mk)
    (ha:Obl (fun i=>∀ k s g w,lov i≤k→k≤hiv i→s i=false→D k s g w→∀ a,Fr a n ds (slotsOf ops (val g) (pl i) (lI L1 (ol i) L0))→O r P ops (fun e a' w'=>e=.normal∧∃ g',Fr a' n ds []∧(∀ d,bX ops i=some d→a'.tmps[d]? = some (val g' i))∧(∀ j,j≠i→(af i).contains j=false→val g' j=val g j)∧D k (upd s i) g' w') [i] a w) al)
    (hend:∀ s g a w,(∀ i ∈ al,s i=true)→Fr a n ds (slotsOf ops (val g) (List.range ops.size) L0)→D mk.length s g w→Q .normal a w):W r P (.region id ops true) Q a w:=by
  have hlo':∀ i,i ∈ mk∨i ∈ al∨i ∈ qs→lo i=mk.take (lov i)++ma i∧hi i=mk.drop (hiv i)∧(∀ p ∈ ma i,al.contains p=true)∧lov i≤mk.length:=fun i h=>by
    have:=List.all_eq_true.1 hlo i (by simpa [or_assoc] using h)
    simp only [Bool.and_eq_true,beq_iff_eq,List.all_eq_true] at this
    exact ⟨this.1.1.1,this.1.1.2,this.1.2,Nat.le_of_ble_eq_true this.2⟩
  have hmk':∀ j q,mk[j]? = some q→lov q=j∧al.contains q=false∧∀ t,t<j→mk[t]?≠some q:=fun j q hj=>by
    have hjl:=(List.getElem?_eq_some_iff.1 hj).1
    have h:=List.all_eq_true.1 hmk j (by simpa using hjl)
    have e:mk.getD j 0=q:=by simp [List.getD_eq_getElem?_getD,hj]
    rw [e] at h
    simp only [Bool.and_eq_true,Bool.not_eq_true',List.all_eq_true,List.mem_range] at h
    refine ⟨Nat.eq_of_beq_eq_true h.1.1,h.1.2,fun t ht htq=>?_⟩
    have:=h.2 t ht
    simp [List.getD_eq_getElem?_getD,htq,Nat.beq_refl] at this
  refine W.aE7 (L0:=L0) (L1:=L1) g0 (mk++al) qs pl lo hi af ol val
    (fun s g w=>∃ k,k≤mk.length∧(∀ j q,mk[j]? = some q→(s q=true↔j<k))∧D k (inl al s) g w) hmo hchk hf hf1 ⟨0,Nat.zero_le _,fun j q _=>by simp,?_⟩ ?_ ?_ ?_
  · have:inl al (fun _=>false)=fun _=>false:=by funext p; simp [inl]
    rw [this]; exact h0
  all_goals try clear h0 hchk hlo hmk
  ·
    have key:∀ i ∈ qs,∀ s g w,(∀ p ∈ lo i,s p=true)→(∀ j ∈ hi i,s j=false)→(∃ k,k≤mk.length∧(∀ j q,mk[j]? = some q→(s q=true↔j<k))∧D k (inl al s) g w)→∀ a,Fr a n ds (slotsOf ops (val g) (pl i) (lI L1 (ol i) L0)) →
        O r P ops (fun e a' w'=>e=.normal∧Fr a' n ds []∧(∀ d,bX ops i=some d→a'.tmps[d]? = some (val g i))∧(∃ k,k≤mk.length∧(∀ j q,mk[j]? = some q→(s q=true↔j<k))∧D k (inl al s) g w')) [i] a w:=by
      intro i hi' s g w hsp hsb ⟨k,hk,hks,hD⟩ a hfr
      obtain ⟨e1,e2,e3,e4⟩:=hlo' i (.inr (.inr hi'))
      have h:=Obl.get hq i hi' k (inl al s) g w ?_ ?_ ?_ hD a hfr
      · exact O.normal h fun a' w' ⟨h2,h3,h4⟩=>⟨rfl,h2,h3,k,hk,hks,h4⟩
      · rcases Nat.eq_zero_or_pos (lov i) with h | h
        · omega
        · have hl:lov i-1<mk.length:=by omega
          have:=hsp mk[lov i-1] (by rw [e1]; exact List.mem_append_left _ (List.mem_take_iff_getElem.2 ⟨lov i-1,by omega,rfl⟩))
          have:=(hks _ _ (List.getElem?_eq_getElem hl)).1 this
          omega
      · rcases Nat.lt_or_ge (hiv i) k with h | h
        · exfalso
          have hl:hiv i<mk.length:=by omega
          have h5:=hsb mk[hiv i] (by rw [e2]; exact List.mem_drop_iff_getElem.2 ⟨0,by omega,by simp⟩)
          have:=(hks _ _ (List.getElem?_eq_getElem hl)).2 h
          rw [h5] at this; cases this
        · exact h
      · intro p hp
        simp only [inl,e3 p hp,Bool.true_and]
        exact hsp p (by rw [e1]; exact List.mem_append_right _ hp)
    exact aAo key
  · have key:∀ i ∈ mk++al,∀ s g w,s i=false→(∀ p ∈ lo i,s p=true)→(∀ j ∈ hi i,s j=false)→(∃ k,k≤mk.length∧(∀ j q,mk[j]? = some q→(s q=true↔j<k))∧D k (inl al s) g w)→∀ a,Fr a n ds (slotsOf ops (val g) (pl i) (lI L1 (ol i) L0)) →
        O r P ops (fun e a' w'=>e=.normal∧∃ g',Fr a' n ds []∧(∀ d,bX ops i=some d→a'.tmps[d]? = some (val g' i))∧(∀ j,j≠i→(af i).contains j=false→val g' j=val g j)∧(∃ k,k≤mk.length∧(∀ j q,mk[j]? = some q→(upd s i q=true↔j<k))∧D k (inl al (upd s i)) g' w')) [i] a w:=by
      intro i hi' s g w hs0 hsp hsb ⟨k,hk,hks,hD⟩ a hfr
      rcases List.mem_append.1 hi' with him | hia
      · obtain ⟨j,hj⟩:=List.getElem?_of_mem him
        obtain ⟨f1,f2,f3⟩:=hmk' j i hj
        obtain ⟨e1,e2,e3,e4⟩:=hlo' i (.inl him)
        have hjl:=(List.getElem?_eq_some_iff.1 hj).1
        have hkj:k=j:=by
          have h1:¬ j<k:=fun h=>by have:=(hks j i hj).2 h; rw [hs0] at this; cases this
          rcases Nat.lt_or_ge k j with h2 | h2
          · exfalso
            have hkl:k<mk.length:=by omega
            have:=hsp mk[k] (by rw [e1,f1]; exact List.mem_append_left _ (List.mem_take_iff_getElem.2 ⟨k,by omega,rfl⟩))
            have:=(hks k _ (List.getElem?_eq_getElem hkl)).1 this
            omega
          · omega
        subst hkj
        have h:=Stages.get hm k i hj
        rw [Nat.zero_add] at h
        have h:=h (inl al s) g w (fun p hp=>by simp only [inl,e3 p hp,Bool.true_and]; exact hsp p (by rw [e1]; exact List.mem_append_right _ hp)) hD a hfr
        refine O.normal h fun a' w' ⟨g',h2,h3,h4,h5⟩=>⟨rfl,g',h2,h3,h4,k+1,by omega,fun t q ht=>?_,?_⟩
        · unfold upd
          cases hb:Nat.beq q i with
          | true =>
            have:=Nat.eq_of_beq_eq_true hb
            subst this
            have htk:t=k:=by
              rcases Nat.lt_or_ge t k with h6 | h6
              · exact absurd ht (f3 t h6)
              · rcases Nat.lt_or_ge k t with h7 | h7
                · exact absurd hj ((hmk' t q ht).2.2 k h7)
                · omega
            subst htk
            simp
          | false =>
            simp only
            rw [hks t q ht]
            constructor
            · intro h; omega
            · intro h
              have:t≠k:=fun e=>by
                subst e
                rw [hj] at ht
                injection ht with ht
                subst ht
                simp [Nat.beq_refl] at hb
              omega
        · have e5:inl al (upd s i)=inl al s:=by
            funext p
            unfold inl upd
            cases hb:Nat.beq p i with
            | true =>
              have:=Nat.eq_of_beq_eq_true hb
              subst this
              simp only [f2,Bool.false_and]
            | false=>rfl
          rw [e5]; exact h5
      · obtain ⟨e1,e2,e3,e4⟩:=hlo' i (.inr (.inl hia))
        have hnm:∀ t q,mk[t]? = some q→q≠i:=fun t q ht e=>by
          subst e
          have:=(hmk' t q ht).2.1
          simp at this
          exact this hia
        have hci:al.contains i=true:=by simpa using hia
        have h:=Obl.get ha i hia k (inl al s) g w ?_ ?_ (by simp only [inl,hs0,Bool.and_false]) hD a hfr
        · refine O.normal h fun a' w' ⟨g',h2,h3,h4,h5⟩=>⟨rfl,g',h2,h3,h4,k,hk,fun t q ht=>?_,?_⟩
          · have:Nat.beq q i=false:=by
              cases hb:Nat.beq q i with
              | true=>exact absurd (Nat.eq_of_beq_eq_true hb) (hnm t q ht)
              | false=>rfl
            unfold upd
            rw [this]
            exact hks t q ht
          · have e5:inl al (upd s i)=upd (inl al s) i:=by
              funext p
              unfold inl upd
              cases hb:Nat.beq p i with
              | true =>
                have:=Nat.eq_of_beq_eq_true hb
                subst this
                simp only [hci,Bool.true_and]
              | false=>rfl
            rw [e5]; exact h5
        · rcases Nat.eq_zero_or_pos (lov i) with h | h
          · omega
          · have hl:lov i-1<mk.length:=by omega
            have:=hsp mk[lov i-1] (by rw [e1]; exact List.mem_append_left _ (List.mem_take_iff_getElem.2 ⟨lov i-1,by omega,rfl⟩))
            have:=(hks _ _ (List.getElem?_eq_getElem hl)).1 this
            omega
        · rcases Nat.lt_or_ge (hiv i) k with h | h
          · exfalso
            have hl:hiv i<mk.length:=by omega
            have h5:=hsb mk[hiv i] (by rw [e2]; exact List.mem_drop_iff_getElem.2 ⟨0,by omega,by simp⟩)
            have:=(hks _ _ (List.getElem?_eq_getElem hl)).2 h
            rw [h5] at this; cases this
          · exact h
    exact aAo key
  · rintro s g a w hall hfr ⟨k,hk,hks,hD⟩
    have hkl:k=mk.length:=by
      rcases Nat.lt_or_ge k mk.length with h | h
      · exfalso
        have:=hall mk[k] (List.mem_append_left _ (List.getElem_mem h))
        have:=(hks k _ (List.getElem?_eq_getElem h)).1 this
        omega
      · omega
    subst hkl
    exact hend (inl al s) g a w (fun i hi=>by simp only [inl]; rw [show al.contains i=true by simpa using hi]; exact hall i (List.mem_append_right _ hi)) hfr hD
theorem Q.val {i d:Nat} {op:Op} {ty:TypeId} {pos:String} {af:Array Edge} {L:List (Nat × Value)} {v:Value} {R:World→Prop} (ho:ops[i]? = some ⟨some d,op,ty,pos,af,none⟩) (hnd:cK op=true) (hd:Nat.blt d n=true) (hR:R w) (hf:Fr a n ds L) (hr:aA P n ds L op ty w v w) :
    O r P ops (fun e a' w'=>e=.normal∧Fr a' n ds []∧(∀ d',bX ops i=some d'→a'.tmps[d']? = some v)∧R w') [i] a w:=by
  refine O.val hf ho hnd hd hr (fun a' hf'=>O.nil ⟨rfl,hf'.to trivial,fun d' hd'=>?_,hR⟩)
  have e:bX ops i=some d:=by simp [bX,ho]
  rw [e] at hd'
  injection hd' with hd'
  subst hd'
  exact hf'.get _ _ (by simp [lk,Nat.beq_refl])
end
end Go.SL

namespace Go.SL
open Go
def vsub (sz:Nat) (v:Value) (a b:Int):Value :=
  match v with
  | .slice A _ c=>.slice (if c=a.toNat then A else A.map (·.add (a.toNat*sz))) (b.toNat-a.toNat) (c-a.toNat)
  | _=>undef
def lsub {T:Type} (l:List T) (a b:Int):List T:=(l.take b.toNat).drop a.toNat
def sbd (a b n:Int):Prop:=0≤a∧a≤b∧b≤n
instance (a b n:Int):Decidable (sbd a b n):=by unfold sbd; infer_instance
section
variable {T:Type} {enc:T→List Value} {sz:Nat} {l:List T} {h:Hp} {v:Value} {a b:Int} {x0:T}
theorem nD (he:∀ x,(enc x).length=sz):∀ (l:List T) (k:Nat),encs enc (l.take k)=(encs enc l).take (k*sz)
  | [],k=>by simp [encs]
  | x::t,0=>by simp [encs]
  | x::t,k+1=>by
    have ih:=nD he t k
    simp only [encs] at ih
    simp only [encs,List.take_succ_cons,List.flatMap_cons,ih]
    have h1:(k+1)*sz=sz+k*sz:=by rw [Nat.add_mul]; omega
    rw [List.take_append,he,h1,List.take_of_length_le (l:=enc x) (by rw [he]; omega),Nat.add_sub_cancel_left]
theorem rG (he:∀ x,(enc x).length=sz):∀ (l:List T) (k:Nat),encs enc (l.drop k)=(encs enc l).drop (k*sz)
  | [],k=>by simp [encs]
  | x::t,0=>by simp
  | x::t,k+1=>by
    have ih:=rG he t k
    simp only [encs] at ih
    simp only [encs,List.drop_succ_cons,List.flatMap_cons,ih]
    have h1:(k+1)*sz=sz+k*sz:=by rw [Nat.add_mul]; omega
    rw [List.drop_append,he,h1,List.drop_of_length_le (l:=enc x) (by rw [he]; omega),Nat.add_sub_cancel_left,List.nil_append]
theorem o8 (hb:sbd a b (l.length:Int)):(lsub l a b).length=b.toNat-a.toNat:=by
  unfold lsub; obtain ⟨h1,h2,h3⟩:=hb; simp; omega
theorem iy.sub (hr:iy h sz enc v l) (he:∀ x,(enc x).length=sz) (hb:sbd a b (l.length:Int)):iy h sz enc (vsub sz v a b) (lsub l a b):=by
  obtain ⟨⟨h1,h2,A,c,rfl,h3⟩,hfit⟩:=hr
  have hfit:l.length≤c:=hfit
  have hl:=o8 hb
  obtain ⟨b1,b2,b3⟩:=hb
  refine ⟨⟨by rw [kL he],by omega,?_⟩,?_⟩
  · refine ⟨_,_,by rw [hl]; rfl,fun hn=>?_⟩
    rw [hl] at hn
    obtain ⟨p,cur,e,z,rfl,hs,hg,hc⟩:=h3 (by omega)
    refine ⟨p.add (a.toNat*sz),cur,e,z,?_,?_,?_,?_⟩
    · rw [if_neg (by omega)]; rfl
    · obtain ⟨g,o,s⟩:=p
      simp only at hs; subst hs; simp [d9]
    · obtain ⟨g,o,s⟩:=p
      simp only at hs; subst hs; simpa [d9] using hg
    · intro j u hu
      obtain ⟨g,o,s⟩:=p
      simp only at hs; subst hs
      simp only [d9]
      rw [Nat.add_assoc]
      apply hc
      unfold lsub at hu
      rw [rG he,nD he,List.getElem?_drop,List.getElem?_take] at hu
      split at hu
      · exact hu
      · cases hu
  · show b.toNat-a.toNat≤c-a.toNat
    omega
theorem aBp (hr:iy h sz enc v l) (hl:0<(lsub l a b).length) (hb:sbd a b (l.length:Int)):(vsub sz v a b).ownBlock=v.ownBlock:=by
  obtain ⟨⟨h1,h2,A,c,rfl,h3⟩,hfit⟩:=hr
  have hfit:l.length≤c:=hfit
  rw [o8 hb] at hl
  obtain ⟨b1,b2,b3⟩:=hb
  obtain ⟨p,cur,e,z,rfl,hs,hg,hc⟩:=h3 (by omega)
  obtain ⟨g,o,s⟩:=p
  simp only at hs; subst hs
  unfold vsub
  simp only
  rw [if_neg (by omega)]
  simp [Value.ownBlock,d9]
theorem dZ.sub {e:TypeId} (hs:dZ h e sz v l.length (encs enc l)) (he:∀ x,(enc x).length=sz) (hb:sbd 0 b (l.length:Int)):dZ h e sz (vsub sz v 0 b) (lsub l 0 b).length (encs enc (lsub l 0 b)):=by
  have hl:=o8 hb
  obtain ⟨b1,b2,b3⟩:=hb
  refine ⟨by rw [kL he],?_⟩
  rw [hl]
  rcases hs.2 with ⟨rfl,h0⟩ | ⟨g,cap,cur,rfl,hg,h1,h2,h3,h4⟩
  · have:b.toNat=0:=by omega
    refine .inl ⟨?_,by simp; omega⟩
    simp [vsub,this]
  · refine .inr ⟨g,cap,cur,?_,hg,by simp; omega,h2,h3,?_⟩
    · simp [vsub,d9]
    · unfold lsub
      simp only [Int.toNat_zero,List.drop_zero,Nat.sub_zero]
      rw [nD he,← h4,List.take_take]
      congr 1
      have:b.toNat*sz≤l.length*sz:=Nat.mul_le_mul_right _ (by omega)
      omega
end
section
variable {T:Type} {enc:T→List Value} {sz:Nat} {l:List T} {x0:T}
variable {P:Program} {w w0:World} {n:Nat} {ds:List Deferred} {L:List (Nat × Value)} {ty t e:TypeId} {x y lo hi:Operand} {v:Value} {X:Nat→Prop} {B M M':List Asr} {p q:Int} {k k':IntKind} {j:Nat}
theorem aCE (he:eU P t=some e) (hs:cO P e=some sz) (hr:iy (hp w) sz enc v l) (lo' hi':Option Value)
    (hb:sbd p q (l.length:Int)) (hlo:lo'=none∧p=0∨∃ k,lo'=some (.int k p)) (hhi:hi'=none∧q=l.length∨∃ k,hi'=some (.int k q)) :
    (Instr.sliceAt t v lo' hi' none).run P w=.ok (vsub sz v p q) w:=by
  obtain ⟨⟨h1,h2,A,c,rfl,h3⟩,hfit⟩:=hr
  have hfit:l.length≤c:=hfit
  obtain ⟨b1,b2,b3⟩:=hb
  have ht:=fQ he
  have ht:P.underlying t=some (.slice (P.elem t)):=by rw [ht]; simp [Program.elem,ht]
  have hel:P.elem t=e:=by
    have:=fQ he
    rw [this] at ht
    simpa using ht.symm
  rw [run_sliceAt_slice _ _ _ _ _ _ ht]
  have hsz:(sizeOf (P.elem t)).run P w=.ok sz w:=by rw [hel]; exact run_sizeOf hs
  rcases hlo with ⟨rfl,rfl⟩ | ⟨k,rfl⟩ <;> rcases hhi with ⟨rfl,rfl⟩ | ⟨k',rfl⟩
  · rw [run_slice_all _ _ _ _ _ ht,hsz]; simp [sliced,vsub,Result.andThen]
  · rw [run_slice_h _ _ _ _ _ ht _ _ b2 (by omega),hsz]; simp [sliced,vsub,Result.andThen]
  · rw [run_slice_l _ _ _ _ _ ht _ _ b1 (by omega),hsz]; simp [sliced,vsub,Result.andThen]
  · rw [run_slice_lh _ _ _ _ _ ht _ _ _ _ b1 b2 (by omega),hsz]; simp [sliced,vsub,Result.andThen]
theorem aA.aDw (he:eU P t=some e) (hs:cO P e=some sz) (hx:ev L x=some v) (hh:ev L lo=some (.int k p)) (hr:iy (hp w) sz enc v l) (hb:sbd p (l.length:Int) (l.length:Int)) :
    aA P n ds L (.slice t x (some lo) none none) ty w (vsub sz v p (l.length:Int)) w:=fun a d pos af g hf=>by
  simp only [execOp,hf.eval hx,Option.map_some,Option.map_none,hf.eval hh]
  exact fD (aCE he hs hr _ _ hb (.inr ⟨k,rfl⟩) (.inl ⟨rfl,rfl⟩))
end
end Go.SL
namespace Go.SL
open Go
section
variable {T:Type} {enc:T→List Value} {sz:Nat} {l m:List T} {h:Hp} {v u:Value} {a b p q:Int} {x0:T} {k:Nat}
end
section
variable {T:Type} {enc:T→List Value} {sz:Nat} {l m:List T} {x0:T}
variable {r:Option Nat} {P:Program} {Q:Exit→Act→World→Prop} {ops:Array Oper} {i:Nat} {rest:List Nat} {a:Act} {w w0 w':World} {n:Nat} {ds:List Deferred} {L:List (Nat × Value)}
  {d:Nat} {op:Op} {ty t e:TypeId} {pos:String} {af:Array Edge} {v u z:Value} {X:Nat→Prop} {B M M':List Asr} {x y:Operand} {b o j:Nat} {k:IntKind} {p p1 p2:Int} {q q':Asr}
end
end Go.SL
namespace Go.SL
open Go
def lcopy {T:Type} (l m:List T) (a:Int) (k:Nat):List T:=l.take a.toNat++m.take k++l.drop (a.toNat+k)
section
variable {T:Type} {enc:T→List Value} {sz:Nat} {l m:List T} {h:Hp} {v u:Value} {p1 p2:Int} {e:TypeId}
end
section
variable {T:Type} {enc:T→List Value} {sz:Nat} {l m l':List T}
variable {r:Option Nat} {P:Program} {Q:Exit→Act→World→Prop} {ops:Array Oper} {i:Nat} {rest:List Nat} {a:Act} {w w0:World} {n:Nat} {ds:List Deferred} {L:List (Nat × Value)}
  {d:Nat} {ty t e:TypeId} {pos:String} {af:Array Edge} {v u:Value} {X:Nat→Prop} {B M M':List Asr} {x y:Operand} {j k:Nat} {p1 p2:Int}
end
end Go.SL
namespace Go.SL
open Go
theorem EqR.sl {P:Program} {t e:TypeId} {d:Nat} {A:Option Addr} {n c n' c':Nat} (ht:eU P t=some e):EqR P (d+1) t (.slice A n c) (.slice none n' c') A.isNone:=fun w=>by
  cases A <;> simp [Op.equalIn,run_underlying (fQ ht)]
theorem aAl {P:Program} {w:World} {t e:TypeId} {v u:Value} {A A':Option Addr} {n c n' c':Nat} (ht:eU P t=some e) (hv:v=.slice A n c) (hA:A'=none) (hu:u=.slice A' n' c'):(binOp .eql t v u).run P w=.ok (.bool A.isNone) w:=by
  subst hv hA hu
  have:=(EqR.sl (d:=9999) ht:EqR P 10000 t (.slice A n c) (.slice none n' c') A.isNone) w
  simp only [binOp,Op.equal,Op.maxDepth,Sem.run_bind,this,Result.andThen_ok,Sem.run_pure]
section
variable {P:Program} {w:World} {n:Nat} {ds:List Deferred} {L:List (Nat × Value)} {ty t t' e:TypeId} {x y:Operand} {v:Value} {k c:Nat} {a:Addr}
theorem aA.aDp (ht:eU P t=some e) (hv:v=.slice (some a) k c) (hx:ev L x=some v) (hy:ev L y=some (.slice none 0 0)):aA P n ds L (.binOp .eql t x y t') ty w (.bool false) w:=fun a d pos af g hf=>by
  simp only [execOp,hf.eval hx,hf.eval hy]
  have e1:(eqGuard .eql t x y v (.slice none 0 0)).run P w=.ok () w:=by subst hv; simp [eqGuard]
  have e2:=aAl (P:=P) (w:=w) (u:=.slice none 0 0) ht hv rfl rfl
  simp only [Sem.run_bind,e1,e2,Result.andThen_ok,Sem.run_pure]; rfl
end
end Go.SL
namespace Go.SL
open Go
section
variable {P:Program} {Q:Exit→Act→World→Prop} {ops:Array Oper} {a:Act} {w w0 w':World} {n:Nat} {ds:List Deferred} {L:List (Nat × Value)}
  {d:Nat} {op:Op} {ty:TypeId} {pos:String} {af:Array Edge} {v:Value} {X:Nat→Prop} {B M:List Asr} {f:FuncId} {args:Array Value}
theorem OQ.gT {K:Act→Prop} {lo:List Oper} (hf:Fr a n ds L) (hd:Nat.blt d n=true) (hr:∀ w,St w0 w X B M→dS P n ds L op ty w f args) (hc:∀ w,St w0 w X B M→Ret P f args w (fun _:Unit=>v) (fun _ w1=>St w w1 noX [] []))
    (k:∀ a',Fr a' n ds ((d,v)::L)→OQ P ops (fun w=>St w0 w X B M) K lo a'):OQ P ops (fun w=>St w0 w X B M) K (⟨some d,op,ty,pos,af,none⟩::lo) a :=
  OQ.call hf hd hr (fun w hw=>Calls.mono (hc w hw) fun _ w' ⟨_,he,hR⟩=>⟨he,(hw.call hR).aDW⟩) k
end
end Go.SL

namespace Go.SL
open Go
def eKey (e:MapEntry):Value:=e.key
structure MOK (es:Array MapEntry) (clock:Nat) (ks:List Int):Prop where
  keys:es.toList.map (·.key)=ks.map (Value.int .i64)
  vals:∀ e ∈ es.toList,e.val=.bool true
  born:∀ e ∈ es.toList,e.born<clock
  apart:(es.toList.map (·.born)).Nodup
  nodup:ks.Nodup
def jC (h:Hp) (b:Nat) (ins:List Bool):Prop :=
  ∃ es clock ks,h b=some (.map es clock)∧MOK es clock ks∧(∀ k ∈ ks,0≤k)∧∀ i:Nat,((i:Int) ∈ ks↔ins.getD i false=true)
def ms (b:Nat) (ins:List Bool):Asr:=⟨fun k=>k=b,fun h=>jC h b ins,fun h h' hk ⟨es,c,ks,h1,h2⟩=>⟨es,c,ks,by rw [hk b rfl]; exact h1,h2⟩⟩
def tV (P:Program) (t:TypeId):Option TypeId :=
  match P.underlying t with
  | some (.map k e)=>match P.underlying k with
    | some (.int _)=>match dx P e with
      | some (.bool false)=>some k
      | _=>none
    | _=>none
  | _=>none
section
variable {P:Program} {w:World} {t kt:TypeId} {k:Int}
theorem nP (h:tV P t=some kt):∃ e q,P.underlying t=some (.map kt e)∧P.underlying kt=some (.int q)∧dx P e=some (.bool false):=by
  unfold tV at h
  split at h
  · rename_i k e hu
    split at h
    · rename_i q hq
      split at h
      · rename_i hz
        simp only [Option.some.injEq] at h
        subst h
        exact ⟨e,q,hu,hq,hz⟩
      · cases h
    · cases h
  · cases h
theorem run_underlying {d:TypeDesc} (h:P.underlying t=some d):(underlying t).run P w=.ok d w:=by
  simp [underlying,h]
def nH (k:Int):List Int→Nat→Option Nat
  | [],_=>none
  | x::t,i=>if k=x then some i else nH k t (i+1)
theorem lC:∀ {ks:List Int} {i:Nat},nH k ks i=none↔k ∉ ks
  | [],i=>by simp [nH]
  | x::t,i=>by
    simp only [nH,List.mem_cons,not_or]
    split
    · rename_i h; simp [h]
    · rename_i h; rw [lC]; simp [h]
theorem lD:∀ {ks:List Int} {i j:Nat},nH k ks i=some j→∃ m,j=i+m∧ks[m]? = some k
  | [],i,j,h=>by simp [nH] at h
  | x::t,i,j,h=>by
    simp only [nH] at h
    split at h
    · rename_i hx; simp only [Option.some.injEq] at h; exact ⟨0,h.symm,by simp [hx]⟩
    · obtain ⟨m,h1,h2⟩:=lD h; exact ⟨m+1,by omega,by simpa using h2⟩
theorem nu {q:IntKind}:∀ (es:List MapEntry) (ks:List Int) (i:Nat),es.map (·.key)=ks.map (Value.int .i64)→(∀ e ∈ es,e.val=.bool true) →
    Instr.findNow (.int q) (.int .i64 k) es i=some ((nH k ks i).map fun j=>(j,.bool true))
  | [],[],i,_,_=>rfl
  | [],_::_,i,h,_=>by simp at h
  | _::_,[],i,h,_=>by simp at h
  | e::es,x::ks,i,h,hv=>by
    simp only [List.map_cons,List.cons.injEq] at h
    simp only [Instr.findNow,h.1,Instr.sameNow,if_true,nH]
    by_cases hx:k=x
    · subst hx
      simp [hv e (by simp)]
    · have:(k == x)=false:=by simpa using hx
      rw [this]
      simp only [hx,if_false]
      exact nu es ks (i+1) h.2 (fun e he=>hv e (by simp [he]))
theorem run_findKey {q:IntKind} {es:Array MapEntry} {c:Nat} {ks:List Int} (hk:P.underlying kt=some (.int q)) (hm:MOK es c ks) :
    (Instr.findKey kt (.int .i64 k) es.toList).run P w=.ok ((nH k ks 0).map fun j=>(j,.bool true)) w:=by
  unfold Instr.findKey
  simp only [Sem.run_bind,run_underlying hk,Result.andThen,nu es.toList ks 0 hm.keys hm.vals]
  rfl
theorem run_checkKey {q:IntKind} (hk:P.underlying kt=some (.int q)) (b:Bool):(Instr.checkKey b 10000 kt (.int .i64 k)).run P w=.ok () w:=by
  unfold Instr.checkKey
  simp only [Sem.run_bind,run_underlying hk]
  rfl
section
variable {es:Array MapEntry} {c:Nat} {ks:List Int}
theorem MOK.push (h:MOK es c ks) (hk:k ∉ ks):MOK (es.push { key:=.int .i64 k,val:=.bool true,born:=c }) (c+1) (ks++[k]):=by
  refine ⟨by simp [h.keys],fun e he=>?_,fun e he=>?_,?_,?_⟩
  · simp only [Array.toList_push,List.mem_append,List.mem_singleton] at he
    rcases he with he | rfl
    · exact h.vals e he
    · rfl
  · simp only [Array.toList_push,List.mem_append,List.mem_singleton] at he
    rcases he with he | rfl
    · have:=h.born e he; omega
    · exact Nat.lt_succ_self _
  · simp only [Array.toList_push,List.map_append,List.map_cons,List.map_nil]
    rw [List.nodup_append]
    refine ⟨h.apart,by simp,fun x hx y hy=>?_⟩
    simp only [List.mem_singleton] at hy
    subst hy
    obtain ⟨e,he,rfl⟩:=List.mem_map.1 hx
    have:=h.born e he; omega
  · rw [List.nodup_append]
    exact ⟨h.nodup,by simp,fun x hx y hy e=>by simp only [List.mem_singleton] at hy; subst hy; exact hk (e▸hx)⟩
theorem getKey (h:MOK es c ks) {m:Nat} (hm:ks[m]? = some k):∃ e,es[m]? = some e∧e.key=.int .i64 k:=by
  have h1:(es.toList.map (·.key))[m]? = some (.int .i64 k):=by rw [h.keys,List.getElem?_map,hm]; rfl
  rw [List.getElem?_map,Option.map_eq_some_iff] at h1
  obtain ⟨e,he,h2⟩:=h1
  exact ⟨e,by simpa using he,h2⟩
theorem MOK.same (h:MOK es c ks) {m:Nat} (hm:ks[m]? = some k):MOK (es.modify m fun e=>{ e with key:=.int .i64 k,val:=.bool true }) c ks:=by
  obtain ⟨e,he,hek⟩:=getKey h hm
  have:(es.modify m fun e=>{ e with key:=.int .i64 k,val:=.bool true })=es:=by
    apply Array.ext (by simp)
    intro i h1 h2
    by_cases hi:m=i
    · subst hi
      have he':es[m]=e:=by simpa [h2] using he
      rw [Array.getElem_modify,if_pos rfl,he']
      have hv:=h.vals e (by rw [← he']; simp)
      cases e
      simp only at hek hv
      subst hek hv
      rfl
    · rw [Array.getElem_modify,if_neg hi]
  rw [this]
  exact h
theorem map_eraseIdx {α β:Type} (f:α→β):∀ (l:List α) (m:Nat),(l.eraseIdx m).map f=(l.map f).eraseIdx m
  | [],_=>rfl
  | _::_,0=>rfl
  | a::t,m+1=>by simp [map_eraseIdx f t m]
theorem MOK.erase (h:MOK es c ks) {m:Nat} (hm:m<ks.length):MOK (es.eraseIdxIfInBounds m) c (ks.eraseIdx m):=by
  have hsz:es.size=ks.length:=by have:=congrArg List.length h.keys; simpa using this
  have e1:(es.eraseIdxIfInBounds m).toList=es.toList.eraseIdx m:=by simp [Array.eraseIdxIfInBounds,hsz,hm]
  refine ⟨by rw [e1,map_eraseIdx,h.keys,map_eraseIdx],fun e he=>?_,fun e he=>?_,?_,?_⟩
  · rw [e1] at he; exact h.vals e (List.mem_of_mem_eraseIdx he)
  · rw [e1] at he; exact h.born e (List.mem_of_mem_eraseIdx he)
  · rw [e1,map_eraseIdx]; exact h.apart.sublist (List.eraseIdx_sublist _ _)
  · exact h.nodup.sublist (List.eraseIdx_sublist _ _)
theorem mem_erase (h:ks.Nodup) {m:Nat} (hm:ks[m]? = some k) (x:Int):x ∈ ks.eraseIdx m↔x ∈ ks∧x≠k:=by
  have hml:m<ks.length:=(List.getElem?_eq_some_iff.1 hm).1
  have hk:ks[m]=k:=(List.getElem?_eq_some_iff.1 hm).2
  constructor
  · intro hx
    refine ⟨List.mem_of_mem_eraseIdx hx,fun e=>?_⟩
    subst e
    rw [List.mem_eraseIdx_iff_getElem] at hx
    obtain ⟨i,hi,hne,he⟩:=hx
    exact hne ((List.getElem_inj h).1 (he.trans hk.symm))
  · rintro ⟨hx,hne⟩
    rw [List.mem_eraseIdx_iff_getElem]
    obtain ⟨i,hi,rfl⟩:=List.mem_iff_getElem.1 hx
    exact ⟨i,hi,fun e=>hne (by subst e; exact hk),rfl⟩
end
def dU (w:World) (b:Nat) (es:Array MapEntry) (c:Nat):World:={ w with heap:=w.heap.setIfInBounds b (.map es c) }
variable {b:Nat} {ins:List Bool} {i:Nat}
theorem pK (ht:tV P t=some kt) (h:jC (hp w) b ins):(Instr.lookup t (.map (some b)) (.int .i64 (i:Int)) false).run P w=.ok (.bool (ins.getD i false)) w:=by
  obtain ⟨e,q,h1,h2,h3⟩:=nP ht
  obtain ⟨es,c,ks,hb,hm,h0,hk⟩:=h
  have hb':w.heap[b]? = some (.map es c):=hb
  unfold Instr.lookup
  simp only [Sem.run_bind,run_underlying h1,Result.andThen,MapKept.run_getObj_map hb',Sem.run_pure,run_checkKey h2,run_findKey h2 hm]
  have hki:=hk i
  cases hp:nH (i:Int) ks 0 with
  | none =>
    have:=lC.1 hp
    have hf:ins.getD i false=false:=by
      cases hh:ins.getD i false with
      | false=>rfl
      | true=>exact absurd (hki.2 hh) this
    simp only [Option.map_none,Sem.run_bind,kK h3,Result.andThen,Sem.run_pure,hf]
    rfl
  | some j =>
    obtain ⟨m,-,hm'⟩:=lD hp
    have:=hki.1 (List.mem_of_getElem? hm')
    simp only [Option.map_some,Sem.run_bind,Sem.run_pure,Result.andThen,this]
    rfl
theorem pq (ht:tV P t=some kt) (h:jC (hp w) b ins) (hi:i<ins.length):∃ es c,(Instr.mapUpdate t (.map (some b)) (.int .i64 (i:Int)) (.bool true)).run P w=.ok () (dU w b es c)∧jC (hp (dU w b es c)) b (ins.set i true):=by
  obtain ⟨e,q,h1,h2,h3⟩:=nP ht
  obtain ⟨es,c,ks,hb,hm,h0,hk⟩:=h
  have hb':w.heap[b]? = some (.map es c):=hb
  have hat:∀ es' c',hp (dU w b es' c') b=some (.map es' c'):=fun es' c'=>Array.getElem?_setIfInBounds_self_of_lt (Array.getElem?_eq_some_iff.1 hb').1
  have hset:∀ x:Nat,(ins.set i true).getD x false=true↔(x=i∨ins.getD x false=true):=fun x=>by
    simp only [List.getD_eq_getElem?_getD,List.getElem?_set]
    by_cases hx:i=x
    · subst hx; simp [hi]
    · have:¬ x=i:=fun e=>hx e.symm
      simp [hx,this]
  cases hp:nH (i:Int) ks 0 with
  | none =>
    have hn:=lC.1 hp
    refine ⟨es.push { key:=.int .i64 (i:Int),val:=.bool true,born:=c },c+1,?_,_,_,_,hat _ _,hm.push hn,?_,fun x=>?_⟩
    · unfold Instr.mapUpdate
      simp only [Sem.run_bind,run_underlying h1,Result.andThen,MapKept.run_getObj_map hb',run_checkKey h2,run_findKey h2 hm,hp,Option.map_none,MapKept.run_setObj_map _ hb']
      rfl
    · intro x hx
      rcases List.mem_append.1 hx with hx | hx
      · exact h0 x hx
      · simp only [List.mem_singleton] at hx; omega
    · rw [hset x,List.mem_append,hk x,List.mem_singleton]
      constructor
      · rintro (h | h)
        · exact .inr h
        · exact .inl (by omega)
      · rintro (h | h)
        · exact .inr (by omega)
        · exact .inl h
  | some j =>
    obtain ⟨m,hj,hm'⟩:=lD hp
    rw [Nat.zero_add] at hj
    subst hj
    obtain ⟨en,hen,henk⟩:=getKey hm hm'
    refine ⟨es.modify j fun e=>{ e with key:=.int .i64 (i:Int),val:=.bool true },c,?_,_,_,_,hat _ _,hm.same hm',h0,fun x=>?_⟩
    · unfold Instr.mapUpdate
      simp only [Sem.run_bind,run_underlying h1,Result.andThen,MapKept.run_getObj_map hb',run_checkKey h2,run_findKey h2 hm,hp,Option.map_some,hen,henk,Option.getD_some,Instr.keyThatStays]
      have:Instr.sameBits 10000 (.int .i64 (i:Int)) (.int .i64 (i:Int))=true:=by simp [Instr.sameBits]
      simp only [this,if_true,Sem.run_pure,MapKept.run_setObj_map _ hb']
      rfl
    · rw [hset x,hk x]
      constructor
      · exact .inr
      · rintro (rfl | h)
        · exact (hk x).1 (List.mem_of_getElem? hm')
        · exact h
theorem oo {ty0:TypeId} {aty:Array TypeId} (ht:tV P t=some kt) (hat0:aty[0]? = some t) (h:jC (hp w) b ins):∃ es c,(Builtin.delete_ aty ty0 #[.map (some b),.int .i64 (i:Int)]).run P w=.ok (.tuple #[]) (dU w b es c)∧jC (hp (dU w b es c)) b (ins.set i false):=by
  obtain ⟨e,q,h1,h2,h3⟩:=nP ht
  obtain ⟨es,c,ks,hb,hm,h0,hk⟩:=h
  have hb':w.heap[b]? = some (.map es c):=hb
  have hat:∀ es' c',hp (dU w b es' c') b=some (.map es' c'):=fun es' c'=>Array.getElem?_setIfInBounds_self_of_lt (Array.getElem?_eq_some_iff.1 hb').1
  have hset:∀ x:Nat,(ins.set i false).getD x false=true↔(x≠i∧ins.getD x false=true):=fun x=>by
    simp only [List.getD_eq_getElem?_getD,List.getElem?_set]
    by_cases hx:i=x
    · subst hx; by_cases hl:i<ins.length <;> simp [hl]
    · have:¬ x=i:=fun e=>hx e.symm
      simp [hx,this]
  cases hp:nH (i:Int) ks 0 with
  | none =>
    have hn:=lC.1 hp
    refine ⟨es,c,?_,_,_,_,hat _ _,hm,h0,fun x=>?_⟩
    · unfold Builtin.delete_
      simp only [hat0,List.getElem?_toArray,List.getElem?_cons_zero,List.getElem?_cons_succ,Sem.run_bind,run_underlying h1,Result.andThen,MapKept.run_getObj_map hb',run_checkKey h2,run_findKey h2 hm,hp,Option.map_none,MapKept.run_setObj_map _ hb']
      rfl
    · rw [hset x,hk x]
      exact ⟨fun h=>⟨fun e=>hn ((hk i).2 (e▸h)),h⟩,fun h=>h.2⟩
  | some j =>
    obtain ⟨m,hj,hm'⟩:=lD hp
    rw [Nat.zero_add] at hj
    subst hj
    refine ⟨es.eraseIdxIfInBounds j,c,?_,_,_,_,hat _ _,hm.erase (List.getElem?_eq_some_iff.1 hm').1,fun x hx=>h0 x (List.mem_of_mem_eraseIdx hx),fun x=>?_⟩
    · unfold Builtin.delete_
      simp only [hat0,List.getElem?_toArray,List.getElem?_cons_zero,List.getElem?_cons_succ,Sem.run_bind,run_underlying h1,Result.andThen,MapKept.run_getObj_map hb',run_checkKey h2,run_findKey h2 hm,hp,Option.map_some,MapKept.run_setObj_map _ hb']
      rfl
    · rw [hset x,mem_erase hm.nodup hm',hk x]
      constructor
      · rintro ⟨h,hne⟩; exact ⟨fun e=>hne (by rw [e]),h⟩
      · rintro ⟨hne,h⟩; exact ⟨h,fun e=>hne (by omega)⟩
end
section
variable {r:Option Nat} {P:Program} {ops:Array Oper} {Q:Exit→Act→World→Prop} {a:Act} {w w0:World} {n:Nat} {ds:List Deferred} {L:List (Nat × Value)} {X:Nat→Prop} {B M M':List Asr}
  {d i j b:Nat} {ty t kt:TypeId} {pos:String} {af:Array Edge} {rest:List Nat} {x y z:Operand} {ins:List Bool} {q:Nat}
theorem aA.xg (ht:tV P t=some kt) (hx:ev L x=some (.map (some b))) (hy:ev L y=some (.int .i64 (q:Int))) (h:jC (hp w) b ins):aA P n ds L (.lookup t x y false) ty w (.bool (ins.getD q false)) w:=fun a d pos af g hf=>by
  simp only [execOp,hf.eval hx,hf.eval hy]
  exact fD (pK ht h)
theorem St.tT (h:St w0 w X B M) (hi:M[j]? = some (ms b ins)):jC (hp w) b ins:=h.at_ hi
theorem St.dU (h:St w0 w X B M) (hi:M[j]? = some (ms b ins)) {es:Array MapEntry} {c:Nat} {ins':List Bool} (hs:jC (hp (SL.dU w b es c)) b ins'):St w0 (SL.dU w b es c) X B (M.set j (ms b ins')):=by
  have hl:=(h.sep.get hi).2 b rfl
  refine h.write (w':=SL.dU w b es c) hi rfl rfl rfl (by simp [SL.dU]) (fun k _ hk=>?_) hs (fun k hk=>⟨.inl hk,by
    have hk:k=b:=hk
    subst hk
    simpa [SL.dU] using hl.1⟩)
  simp only [SL.dU]
  exact Array.getElem?_setIfInBounds_ne (fun e=>hk e.symm)
theorem O.makeMap (hf:Fr a n ds L) (hS:St w0 w X B M) (ho:ops[i]? = some ⟨some d,.makeMap t none,ty,pos,af,none⟩) (hd:Nat.blt d n=true) (ins:List Bool) (hins:∀ q,ins.getD q false=false)
    (k:∀ b w' a',w0.heap.size≤b→St w0 w' X B (ms b ins::M)→Fr a' n ds ((d,.map (some b))::L)→O r P ops Q rest a' w'):O r P ops Q (i::rest) a w:=by
  refine O.val (w':=w.alloc (.map #[] 0)) hf ho rfl hd (v:=.map (some w.heap.size)) ?_ (fun a' hf'=>k _ _ a' hS.size ?_ hf')
  · intro a d pos af g hf
    simp only [execOp]
    exact fD rfl
  · refine (hS.alloc (.map #[] 0)).conv (i:=0) (p:=pt w.heap.size (.map #[] 0)) (q:=ms w.heap.size ins) rfl (fun h=>⟨#[],0,[],h,⟨rfl,by simp,by simp,by simp,by simp⟩,by simp,fun q=>?_⟩) (fun b hb=>hb)
    rw [hins q]; simp
theorem O.uG (hf:Fr a n ds L) (hS:St w0 w X B M) (ho:ops[i]? = some ⟨none,.mapUpdate t x y z,ty,pos,af,none⟩) (ht:tV P t=some kt) (hx:ev L x=some (.map (some b))) (hy:ev L y=some (.int .i64 (q:Int))) (hz:ev L z=some (.bool true))
    (hM:M[j]? = some (ms b ins)) (hq:q<ins.length) (hM':M.set j (ms b (ins.set q true))=M') (k:∀ w',St w0 w' X B M'→O r P ops Q rest a w'):O r P ops Q (i::rest) a w:=by
  obtain ⟨es,c,h1,h2⟩:=pq (P:=P) ht (hS.tT hM) hq
  refine O.unit (w':=dU w b es c) hf ho rfl ?_ (k _ (hM'▸hS.dU hM h2))
  intro a d pos af g hf
  simp only [execOp,hf.eval hx,hf.eval hy,hf.eval hz]
  exact y7 h1
theorem O.aBg {at_:Array TypeId} (hf:Fr a n ds L) (hS:St w0 w X B M) (ho:ops[i]? = some ⟨none,.call ⟨.builtin .delete,#[x,y],at_⟩,ty,pos,af,none⟩) (ht:tV P t=some kt) (hat:at_[0]? = some t) (hx:ev L x=some (.map (some b))) (hy:ev L y=some (.int .i64 (q:Int)))
    (hM:M[j]? = some (ms b ins)) (hM':M.set j (ms b (ins.set q false))=M') (k:∀ w',St w0 w' X B M'→O r P ops Q rest a w'):O r P ops Q (i::rest) a w:=by
  obtain ⟨es,c,h1,h2⟩:=oo (P:=P) (ty0:=ty) (i:=q) ht hat (hS.tT hM)
  refine O.aFI (w':=dU w b es c) (v:=.tuple #[]) hf ho rfl ?_ (k _ (hM'▸hS.dU hM h2))
  intro a d pos af g hf
  refine gH (vs:=[.map (some b),.int .i64 (q:Int)]) hf (by simp [evA,hx,hy]) ?_
  simp only [builtin]
  exact fD h1
end
end Go.SL

namespace Go.SL
open Go
def dz (Ds:List Nat):List Deferred:=Ds.map fun D=>{ target:=.collected D,args:=#[] }
def mkA (Ds:List Nat):Asr:=⟨fun b=>b ∈ Ds,fun h=>Ds.Nodup∧∀ D ∈ Ds,h D=some (.deferred (some [])),fun h h' hk hh=>⟨hh.1,fun D hD=>by rw [hk D hD]; exact hh.2 D hD⟩⟩
section
variable {P:Program} {a:Act} {w w0 w':World} {n:Nat} {ds:List Deferred} {L:List (Nat × Value)} {X:Nat→Prop} {B M:List Asr} {j b l D:Nat} {o o':Obj} {Ds:List Nat}
theorem St.mk0 (h:St w0 w X B M):St w0 w X B (mkA []::M):=h.u6 ⟨by simp,by simp⟩ (fun b hb=>by simp [mkA] at hb)
theorem St.vO (h:St w0 w X B M) (hi:M[j]? = some (pt b o)) (o':Obj):St w0 (w.putObj b o') X B (M.set j (pt b o')):=by
  have hb:w.heap[b]? = some o:=h.at_ hi
  have hl:=(Array.getElem?_eq_some_iff.1 hb).1
  refine h.write (w':=w.putObj b o') hi rfl rfl rfl (by simp) (fun k _ hk=>World.putObj_heap_other hk) (World.putObj_heap_same hl) (fun k hk=>⟨.inl hk,by
    have hk:k=b:=hk
    subst hk
    simpa using hl⟩)
theorem St.mY (h:St w0 w X B (pt D (.deferred (some []))::mkA Ds::M)):St w0 w X B (mkA (D::Ds)::M):=by
  have h1:=h.sep
  refine ⟨h.os,h.tape,h.output,h.size,h.old,⟨⟨⟨?_,fun E hE=>?_⟩,fun b hb=>?_,fun q hq b hb hqb=>?_⟩,h1.2.2⟩,h.bor⟩
  · exact List.nodup_cons.2 ⟨fun hD=>h1.1.2.2 (mkA Ds) (by simp) D rfl hD,h1.2.1.1.1⟩
  · rcases List.mem_cons.1 hE with rfl | hE
    · exact h1.1.1
    · exact h1.2.1.1.2 E hE
  · rcases List.mem_cons.1 hb with rfl | hb
    · exact h1.1.2.1 b rfl
    · exact h1.2.1.2.1 b hb
  · rcases List.mem_cons.1 hb with rfl | hb
    · exact h1.1.2.2 q (by simp [hq]) b rfl hqb
    · exact h1.2.1.2.2 q hq b hb hqb
theorem St.aBW (h:St w0 w X B (mkA (D::Ds)::M)):St w0 w X B (pt D (.deferred (some []))::mkA Ds::M):=by
  have h1:=h.sep
  have hnd:=List.nodup_cons.1 h1.1.1.1
  refine ⟨h.os,h.tape,h.output,h.size,h.old,⟨⟨h1.1.1.2 D (by simp),fun b hb=>?_,fun q hq b hb hqb=>?_⟩,⟨⟨hnd.2,fun E hE=>h1.1.1.2 E (by simp [hE])⟩,fun b hb=>h1.1.2.1 b (List.mem_cons_of_mem _ hb),fun q hq b hb hqb=>h1.1.2.2 q hq b (List.mem_cons_of_mem _ hb) hqb⟩,h1.2⟩,h.bor⟩
  · have hb:b=D:=hb
    subst hb
    exact h1.1.2.1 b (List.mem_cons_self ..)
  · have hb:b=D:=hb
    subst hb
    rcases List.mem_cons.1 hq with rfl | hq
    · exact hnd.1 hqb
    · exact h1.1.2.2 q hq b (List.mem_cons_self ..) hqb
theorem kC {fn:Func} {R:Ending→World→Prop} (hS:St w0 w X B (mkA Ds::M)) (hf:Fr a n (dz Ds) L) (h:∀ w' a',Fr a' n [] L→St w0 w' X B M→bodyPost P fn R .ret a' w') :
    bodyPostM (FW none) 0 P fn R .ret a w:=by
  show LeavesInM (FW none) 0 P fn a.tmps R a.defers .returning w
  rw [hf.defers]
  have key:∀ (Ds:List Nat) (w:World),St w0 w X B (mkA Ds::M)→LeavesInM (FW none) 0 P fn a.tmps R (dz Ds) .returning w:=by
    intro Ds
    induction Ds with
    | nil =>
      intro w hS
      obtain ⟨_,v,h1,h2⟩:=h w { a with defers:=[] } ⟨hf.size,rfl,hf.get⟩ (hS.sub (List.sublist_cons_self _ _))
      exact ⟨v,h1,h2⟩
    | cons D Ds ih =>
      intro w hS
      have h1:=hS.aBW
      refine ⟨by simp,.inl ⟨D,w.putObj D (.deferred none),rfl,run_takeDeferred (h1.at_ (i:=0) rfl),ih _ ?_⟩⟩
      exact (h1.vO (j:=0) rfl _).sub (List.sublist_cons_self _ _)
  exact key Ds w hS
theorem tO {fn:Func} {R:Ending→World→Prop} (h:bodyPostM (FW none) 0 P fn R .ret a w):bodyPostM (FW none) 0 P fn R .normal a w:=h
theorem iU {G:Type} {v:G→Value} {R:G→World→Prop} {f:FuncId} {fn:Func} {c:Code} {lv:List Value} (hf:P.funcs[f]? = some fn) (hb:fn.body=some c) (hn:fn.ntmps=n) (hl:Nat.ble lv.length n=true)
    (h:∀ a,Fr a n [] (ng 0 lv)→W none P c (bodyPostM (FW none) 0 P fn (fun e w'=>∃ g,e=.returned (v g)∧R g w')) a w):Ret P f lv.toArray w v R:=by
  refine (fq (r:=none) (n:=0)).1 (callsIn_of_wp_marks hf hb trivial ?_ rfl)
  exact h _ (Fr.start rfl (by simpa using hl) (by rw [hn]))
end
def qa (P:Program) (gf:FuncId) (lb:Array Value) (xs:List Value) (Bs:List (Nat × Obj)):Prop :=
  ∀ (l:Nat) (R:Nat→World→Prop),(∀ k w,R k w→R k w.drew)→(∀ k w,R k w→∀ p ∈ Bs,w.heap[p.1]? = some p.2) →
    (∀ k x,xs[k]? = some x→∀ w,R k w→YieldAt (FW none) 0 P l #[x] w (fun e w'=>e=.returned (.bool true)∧R (k+1) w')) →
    ∀ w,R 0 w→Calls P gf (#[.func (.yield l) #[] #[]]++lb) w (fun e w'=>(∃ v,e=.returned v)∧R xs.length w')
section
variable {P:Program} {Q:Exit→Act→World→Prop} {a:Act} {w w0 w':World} {n:Nat} {ds:List Deferred} {L:List (Nat × Value)} {X:Nat→Prop} {B M:List Asr}
theorem iO {f:FuncId} (h:aX P f=true) (args:Array Value) (w:World):(callFunc f args).run P w=.ok (.enter f args) w:=by
  unfold aX at h
  split at h
  · rename_i fn hfn
    simp only [Bool.and_eq_true,bne_iff_ne,ne_eq] at h
    obtain ⟨h1,h2⟩:=h
    have h3:fn.body.isNone=false:=by cases hb:fn.body <;> simp_all
    have hp:(program).run P w=.ok P w:=rfl
    simp only [callFunc,Sem.run_bind,hp,Result.andThen,hfn]
    simp [h1,h3]
  · cases h
theorem W.tF {G:Type} {g:Operand} {p:Nat} {assign body:Code} {xs:List Value} {lb:Array Value} {gf:FuncId} (L':Value→List (Nat × Value)) (MM:G→List Asr) (Fc:Nat→G→Prop) (g0:G) (Bs:List (Nat × Obj))
    (hf:Fr a n ds L) (hp:Nat.blt p n=true) (hg:ev L g=some (.func (.func gf) #[] lb)) (eg:aX P gf=true) (hS:St w0 w X B (MM g0)) (hF:Fc 0 g0)
    (hit:qa P gf lb xs Bs) (hB:∀ g w,St w0 w X B (MM g)→∀ p ∈ Bs,w.heap[p.1]? = some p.2)
    (hassign:∀ l x w a',Fr a' n [] ((p,x)::L)→W (some l) P assign (fun e a'' w''=>e=.normal∧Fr a'' n [] (L' x)∧w''=w) a' w)
    (hbody:∀ l o D k x g w,xs[k]? = some x→Fc k g→St w0 w X B (pt l o::pt D (.deferred (some []))::MM g)→∀ a',Fr a' n [] (L' x) →
      W (some l) P body (fun e a'' w''=>e=.normal∧∃ g',Fc (k+1) g'∧St w0 w'' X B (pt l o::pt D (.deferred (some []))::MM g')) a' w)
    (hdone:∀ D g a' w,Fc xs.length g→St w0 w X B (pt D (.deferred (some []))::MM g)→Fr a' n ({ target:=.collected D,args:=#[] }::ds) L→Q .normal a' w) :
    W none P (.rangeFunc g #[p] assign body) Q a w:=by
  refine wpIn_rangeFunc ?_
  intro fn hfn
  obtain ⟨rec,hrec⟩:∃ rec:LoopState→Option Code→Loop,rec=fun st pe=>{ state:=st,pending:=pe,fn,tmps:=a.tmps,params:=#[p],assign,body,defers:=w.heap.size }:=⟨_,rfl⟩
  obtain ⟨W1,hW1⟩:∃ W1,(w.alloc (.deferred (some []))).alloc (.loop (rec .ready none))=W1:=⟨_,rfl⟩
  have hS1:St w0 W1 X B (pt (w.heap.size+1) (.loop (rec .ready none))::pt w.heap.size (.deferred (some []))::MM g0):=by
    have:=(hS.alloc (.deferred (some []))).alloc (.loop (rec .ready none))
    rw [hW1,World.size_alloc] at this
    exact this
  refine ⟨w.heap.size+1,[{ target:=.collected w.heap.size,args:=#[] }],W1,{ target:=.fn (.func gf) lb,args:=#[.func (.yield (w.heap.size+1)) #[] #[]] },W1,gf,
    #[.func (.yield (w.heap.size+1)) #[] #[]]++lb,W1,?_,?_,?_,?_,fun h=>by simp [FW] at h,?_⟩
  · rw [← hW1,hrec]; exact run_enterLoop_outer _ _ _ _ _
  · simp only [resolve,hf.eval hg]
    simp [go_sem]
  · intro f' hf'; trivial
  · simp [invoke,go_sem,iO eg]
  · generalize hl:w.heap.size+1=l at hS1 ⊢
    generalize hD:w.heap.size=D at hS1 hl ⊢ hrec
    have hrec':∀ st pe,rec st pe={ state:=st,pending:=pe,fn,tmps:=a.tmps,params:=#[p],assign,body,defers:=D }:=fun st pe=>by rw [hrec]
    clear hrec hW1
    refine fq.2 ((hit l (fun k w=>∃ g,Fc k g∧St w0 w X B (pt l (.loop (rec .ready none))::pt D (.deferred (some []))::MM g)) ?_ ?_ ?_ W1 ⟨g0,hF,hS1⟩).mono ?_)
    · rintro k w ⟨g,h1,h2⟩; exact ⟨g,h1,h2.drew⟩
    · rintro k w ⟨g,h1,h2⟩; exact hB g w (h2.sub ((List.sublist_cons_self _ _).trans (List.sublist_cons_self _ _)))
    · rintro k x hx w ⟨g,h1,h2⟩
      have hlr:=h2.at_ (i:=0) rfl
      have hlr:w.heap[l]? = some (.loop (rec .ready none)):=hlr
      have hy:=run_yield (P:=P) (args:=#[x]) hlr (by rw [hrec']; simp)
      refine ⟨fn,_,assign,body,by rw [hrec'] at hy; exact hy,?_⟩
      refine roundIn_of_wpIn (F:=FW none) hfn ?_
      have hfr:Fr { tmps:=(#[p].zip #[x]).foldl (fun t (p,v)=>t.setIfInBounds p v) a.tmps,defers:=[] } n [] ((p,x)::L):=by
        have:=Fr.put (a:={ a with defers:=[] }) (ds:=[]) ⟨hf.size,rfl,hf.get⟩ hp x
        have e:(#[p].zip #[x]).foldl (fun t (p,v)=>t.setIfInBounds p v) a.tmps=a.tmps.setIfInBounds p x:=by simp
        rw [e]
        exact this
      have hW:=hassign l x w _ hfr
      refine wpIn_mono (F:=FW (some l)) hW ?_
      rintro e a1 w1 ⟨rfl,hfr1,rfl⟩
      refine ⟨_,run_beginRound hlr (by rw [hrec']),?_⟩
      have h3:=h2.vO (j:=0) rfl (.loop { rec .ready none with state:=.busy })
      refine wpIn_mono (F:=FW (some l)) (hbody l _ D k x g _ hx h1 h3 a1 hfr1) ?_
      rintro e a2 w2 ⟨rfl,g',h4,h5⟩
      have hl2:w2.heap[l]? = some (.loop { rec .ready none with state:=.busy }):=h5.at_ (i:=0) rfl
      refine ⟨_,_,run_endRound none hl2,rfl,g',h4,?_⟩
      have h6:=h5.vO (j:=0) rfl (.loop (rec .ready none))
      simpa [hrec'] using h6
    · rintro e w2 ⟨⟨v,rfl⟩,g,h1,h2⟩
      have hl2:w2.heap[l]? = some (.loop (rec .ready none)):=h2.at_ (i:=0) rfl
      refine ⟨none,_,by have:=run_endLoop (P:=P) hl2 (by rw [hrec']; simp); rw [hrec'] at this; exact this,?_⟩
      have h3:=h2.vO (j:=0) rfl (.loop { rec .ready none with state:=.exhausted })
      refine hdone D g _ _ h1 (by have:=h3.sub (List.sublist_cons_self _ _); simpa [hrec'] using this) ⟨hf.size,by show _::a.defers=_; rw [hf.defers],hf.get⟩
end
end Go.SL
namespace Go.SL
open Go
section
variable {r:Option Nat} {P:Program} {Q:Exit→Act→World→Prop} {ops:Array Oper} {i:Nat} {rest:List Nat} {a:Act} {w w0 w':World} {n:Nat} {ds:List Deferred} {L:List (Nat × Value)}
  {d:Nat} {op:Op} {ty:TypeId} {pos:String} {af:Array Edge} {v x:Value} {X:Nat→Prop} {B M:List Asr} {f y:Operand} {l:Nat} {R:World→Prop} {at_:Array TypeId}
theorem jJ {g:Option (Nat × Bool)} {dst:Option Tmp} (hf:Fr a n ds L) (hx:ev L f=some (.func (.yield l) #[] #[])) (hy:ev L y=some x) {res:Result Next} (h:(Instr.yield l #[x]).run P w=res) :
    (execOp a.eval ⟨dst,.call ⟨.value f,#[y],at_⟩,ty,pos,af,g⟩).run P w=res:=by
  simp only [execOp,resolve,Sem.run_bind,Sem.run_pure,Result.andThen,hf.eval hx,Deferred.ofValue,invoke]
  have e:(#[]++#[y].map a.eval++#[]:Array Value)=#[x]:=by simp [hf.eval hy]
  simp [hf.eval hy]
  exact h
theorem O.yield (hf:Fr a n ds L) (ho:ops[i]? = some ⟨some d,.call ⟨.value f,#[y],at_⟩,ty,pos,af,none⟩) (hd:Nat.blt d n=true) (hx:ev L f=some (.func (.yield l) #[] #[])) (hy:ev L y=some x)
    (hY:YieldAt (FW none) 0 P l #[x] w (fun e w'=>e=.returned (.bool true)∧R w'))
    (k:∀ w' a',R w'→Fr a' n ds ((d,.bool true)::L)→O none P ops Q rest a' w'):O none P ops Q (i::rest) a w:=by
  obtain ⟨fn,tmps,assign,body,h1,h2⟩:=hY
  unfold O wpOpsIn
  simp only [ho]
  rw [if_pos (by simp [Region.wanted])]
  refine ⟨fun _ _=>trivial,?_⟩
  rw [fE (o:=⟨some d,.call ⟨.value f,#[y],at_⟩,ty,pos,af,none⟩) rfl,jJ hf hx hy h1]
  refine ⟨fun h=>by simp [FW] at h,h2.mono ?_⟩
  rintro e w' ⟨rfl,hR⟩
  exact k w' _ hR (hf.put hd _)
theorem O.gyield {jj dj:Nat} {want c:Bool} (hf:Fr a n ds L) (ho:ops[i]? = some ⟨some d,.call ⟨.value f,#[y],at_⟩,ty,pos,af,some (jj,want)⟩) (hj:(ops[jj]?).bind (·.dst)=some dj) (hv:lk L dj=some (.bool c)) (hc:c=want) (hd:Nat.blt d n=true) (hx:ev L f=some (.func (.yield l) #[] #[])) (hy:ev L y=some x)
    (hY:YieldAt (FW none) 0 P l #[x] w (fun e w'=>e=.returned (.bool true)∧R w'))
    (k:∀ w' a',R w'→Fr a' n ds ((d,.bool true)::L)→O none P ops Q rest a' w'):O none P ops Q (i::rest) a w:=by
  obtain ⟨fn,tmps,assign,body,h1,h2⟩:=hY
  unfold O wpOpsIn
  simp only [ho]
  rw [if_pos (by rw [gD hf hj hv,hc]; simp)]
  refine ⟨fun _ _=>trivial,?_⟩
  rw [fE (o:=⟨some d,.call ⟨.value f,#[y],at_⟩,ty,pos,af,some (jj,want)⟩) rfl,jJ hf hx hy h1]
  refine ⟨fun h=>by simp [FW] at h,h2.mono ?_⟩
  rintro e w' ⟨rfl,hR⟩
  exact k w' _ hR (hf.put hd _)
theorem St.aBu (h:St w w noX B []):St w.drew w.drew noX B []:=⟨rfl,rfl,rfl,Nat.le_refl _,fun _ _ _=>rfl,trivial,h.bor⟩
theorem St.yU {Bs:List (Nat × Obj)} (h:∀ p ∈ Bs,w.heap[p.1]? = some p.2):St w w noX (Bs.map fun p=>pt p.1 p.2) []:=St.borrow fun p hp=>by
  obtain ⟨q,hq,rfl⟩:=List.mem_map.1 hp
  refine ⟨h q hq,fun b hb=>?_⟩
  have hb:b=q.1:=hb
  subst hb
  exact (Array.getElem?_eq_some_iff.1 (h q hq)).1
end
end Go.SL
namespace Go.SL
theorem ints_at {l:List Int} {j:Nat} {x:Value} (h:(ints l)[j]? = some x):j<l.length∧x=.int .i64 (l.getD j 0):=by
  simp only [ints,List.getElem?_map,Option.map_eq_some_iff] at h
  obtain ⟨t,ht,rfl⟩:=h
  have:=(List.getElem?_eq_some_iff.1 ht)
  obtain ⟨hj,he⟩:=this
  exact ⟨hj,by rw [List.getD_eq_getElem?_getD,ht]; rfl⟩
end Go.SL
namespace Go.SL
theorem St.aDO {w:World} {b:Nat} {ins:List Bool} (h:jC (hp w) b ins):St w w (fun k=>k=b) [] [ms b ins]:=by
  have hb:b<w.heap.size:=by
    obtain ⟨es,c,ks,h1,_⟩:=h
    exact (Array.getElem?_eq_some_iff.1 (show w.heap[b]? = _ from h1)).1
  exact ⟨rfl,rfl,rfl,Nat.le_refl _,fun _ _ _=>rfl,⟨⟨h,fun k hk=>⟨by have hk:k=b:=hk; omega,.inl hk⟩,by simp⟩,trivial⟩,by simp⟩
end Go.SL

namespace Go.SL
open Go
def IterX (P:Program) (gf:FuncId) (lb:Array Value) (xs:List (Value × Value)) (Rd:World→Prop):Prop :=
  ∀ (l:Nat) (R:Nat→World→Prop) (S:World→Prop),(∀ k w,R k w→R k w.drew)→(∀ k w,R k w→Rd w) →
    (∀ k x,xs[k]? = some x→∀ w,R k w→YieldAt (FW none) 0 P l #[x.1,x.2] w (fun e w'=>(e=.returned (.bool true)∧R (k+1) w')∨(e=.returned (.bool false)∧S w'))) →
    ∀ w,R 0 w→Calls P gf (#[.func (.yield l) #[] #[]]++lb) w (fun e w'=>(∃ v,e=.returned v)∧(R xs.length w'∨S w'))
section
variable {P:Program} {Q:Exit→Act→World→Prop} {a:Act} {w w0 w':World} {n:Nat} {ds:List Deferred} {L:List (Nat × Value)} {X:Nat→Prop} {B M:List Asr}
end
end Go.SL
namespace Go.SL
open Go
section
variable {P:Program} {Q:Exit→Act→World→Prop} {ops:Array Oper} {i:Nat} {rest:List Nat} {a:Act} {w w0 w':World} {n:Nat} {ds:List Deferred} {L:List (Nat × Value)}
  {d:Nat} {ty:TypeId} {pos:String} {af:Array Edge} {x1 x2:Value} {f y1 y2:Operand} {l:Nat} {R S:World→Prop} {at_:Array TypeId}
end
def downL {T:Type} (l:List T):List (Int × T):=(l.zipIdx.map fun p=>((p.2:Int),p.1)).reverse
def RdAt {T:Type} (t:TypeId) (sz:Nat) (enc:T→List Value) (b:Nat) (s:Value) (l:List T) (w:World):Prop:=w.heap[b]? = some (.cells #[s] t (0,0))∧iy (hp w) sz enc s l
end Go.SL
namespace Go.SL
end Go.SL
namespace Go.SL
open Go
theorem OQ.ji {P:Program} {ops:Array Oper} {C:World→Prop} {K K':Act→Prop}:∀ (k:Nat) {lo:List Oper} {a:Act},OQ P ops C K' (lo.take k) a→(∀ a',K' a'→OQ P ops C K (lo.drop k) a')→OQ P ops C K lo a
  | 0,lo,a,h,h2=>h2 a h
  | k+1,[],a,h,h2=>h2 a h
  | k+1,o::t,a,h,h2=>by
    unfold OQ at *
    simp only [List.take_succ_cons,List.drop_succ_cons] at h h2
    unfold wpQuiet at h ⊢
    split at h
    · rename_i hw
      rw [if_pos hw]
      obtain ⟨u,h3,h4⟩:=h
      exact ⟨u,h3,OQ.ji k h4 h2⟩
    · rename_i hw
      rw [if_neg hw]
      exact OQ.ji k h h2
end Go.SL
namespace Go.SL
open Go
section
variable {P:Program} {ops:Array Oper} {a:Act} {w0:World} {n:Nat} {ds:List Deferred} {L:List (Nat × Value)}
  {d:Nat} {op:Op} {ty:TypeId} {pos:String} {af:Array Edge} {v:Value} {X:Nat→Prop} {B M:List Asr} {f:FuncId} {args:Array Value}
theorem OQ.gV {K:Act→Prop} {lo:List Oper} {jj dj:Nat} {want c:Bool} (hf:Fr a n ds L) (hj:(ops[jj]?).bind (·.dst)=some dj) (hv:lk L dj=some (.bool c)) (hc:c=want) (hd:Nat.blt d n=true)
    (hr:∀ w,St w0 w X B M→dS P n ds L op ty w f args) (hcl:∀ w,St w0 w X B M→Ret P f args w (fun _:Unit=>v) (fun _ w1=>St w w1 noX [] []))
    (k:∀ a',Fr a' n ds ((d,v)::L)→OQ P ops (fun w=>St w0 w X B M) K lo a'):OQ P ops (fun w=>St w0 w X B M) K (⟨some d,op,ty,pos,af,some (jj,want)⟩::lo) a:=by
  unfold OQ wpQuiet
  rw [if_pos (by rw [gD hf hj hv,hc]; simp)]
  refine ⟨v,fun w hw=>?_,k _ (hf.put hd v)⟩
  unfold Oper.quietAt
  rw [hr w hw a (some d) pos af _ hf]
  exact ⟨rfl,Calls.mono (hcl w hw) fun _ w' ⟨_,he,hR⟩=>⟨he,(hw.call hR).aDW⟩⟩
end
end Go.SL

namespace Go.SL
open Go
def vfull:Value→Value
  | .slice A n _=>.slice A n n
  | _=>undef
section
variable {T:Type} {enc:T→List Value} {sz:Nat} {l m:List T}
variable {r:Option Nat} {P:Program} {Q:Exit→Act→World→Prop} {ops:Array Oper} {i:Nat} {rest:List Nat} {a:Act} {w w0 w':World} {n:Nat} {ds:List Deferred} {L:List (Nat × Value)}
  {d:Nat} {op:Op} {ty t e:TypeId} {pos:String} {af:Array Edge} {v u z:Value} {X:Nat→Prop} {B M M':List Asr} {x y hi mx:Operand} {b o j jj N by_ c:Nat} {k k':IntKind} {cs:Array Value} {zz:Nat × Nat}
end
end Go.SL

namespace Go.SL
open Go
section
variable {T:Type} {enc:T→List Value} {sz:Nat} {l:List T} {w w0:World} {X:Nat→Prop} {B M M':List Asr} {v:Value} {e:TypeId} {i j:Nat} {c:Bool} {p:Asr}
end
end Go.SL

namespace Go.SL
open Go
abbrev MTab:=List (Int × Int × Value)
def aFA (p q:Int):Value:=.agg #[.int .i64 p,.int .i64 q]
def aFD {T:Type} (v:Value) (r:List T × Int × Int):Value:=.agg #[v,.int .i64 r.2.1,.int .i64 r.2.2]
def aD4 {T:Type} (e sz:Nat) (enc:T→List Value) (f:Int→Int→List T × Int × Int) (b:Nat) (tb:MTab) (h:Hp):Prop :=
  (∃ es clock,h b=some (.map es clock)∧es.toList.map (fun x=>(x.key,x.val))=tb.map fun t=>(aFA t.1 t.2.1,aFD t.2.2 (f t.1 t.2.1))) ∧
  ∀ t ∈ tb,dZ h e sz t.2.2 (f t.1 t.2.1).1.length (encs enc (f t.1 t.2.1).1)
def aEV {T:Type} (e sz:Nat) (enc:T→List Value) (f:Int→Int→List T × Int × Int) (b:Nat) (tb:MTab):Asr :=
  ⟨fun k=>k=b∨∃ t ∈ tb,t.2.2.ownBlock=some k,aD4 e sz enc f b tb,fun h h' hk ⟨⟨es,c,h1,h2⟩,h3⟩=>⟨⟨es,c,by rw [hk b (.inl rfl)]; exact h1,h2⟩,fun t ht=>(sl e sz t.2.2 _ _).loc h h' (fun k hk'=>hk k (.inr ⟨t,ht,hk'⟩)) (h3 t ht)⟩⟩
def memIn {T:Type} (f:Int→Int→List T × Int × Int) (tb:MTab) (v:Value) (l:List T):Asr :=
  ⟨fun _=>False,fun _=>∃ t ∈ tb,t.2.2=v∧(f t.1 t.2.1).1=l,fun _ _ _ h=>h⟩
def memoH {T:Type} (w:World) (e sz:Nat) (enc:T→List Value) (f:Int→Int→List T × Int × Int) (b:Nat) (tb:MTab):Prop :=
  Lent w (aEV e sz enc f b tb)
section
variable {T:Type} {enc:T→List Value} {sz:Nat} {l m:List T} {f:Int→Int→List T × Int × Int} {tb:MTab}
variable {r:Option Nat} {P:Program} {Q:Exit→Act→World→Prop} {ops:Array Oper} {i:Nat} {rest:List Nat} {a:Act} {w w0 w':World} {n:Nat} {ds:List Deferred} {L:List (Nat × Value)}
  {d:Nat} {op:Op} {ty t e kt:TypeId} {pos:String} {af:Array Edge} {v u z:Value} {X:Nat→Prop} {B M M':List Asr} {x y zz:Operand} {b o j jj:Nat} {k k':IntKind} {p q:Int} {A:Asr}
def tMemo (P:Program) (t:TypeId):Option (TypeId × Value) :=
  match P.underlying t with
  | some (.map k e)=>match aFJ P k with
    | some (2,q)=>match qZ P q,dx P e with
      | some .i64,some z'=>if P.cellsOf q=1∧(P.info? q).isSome=true∧iH P q=some false∧cO P q=some 1 then some (k,z') else none
      | _,_=>none
    | _=>none
  | _=>none
def aFG (p q:Int):List (Int × Int × Value)→Nat→Option (Nat × Int × Int × Value)
  | [],_=>none
  | x::t,i=>if p=x.1∧q=x.2.1 then some (i,x) else aFG p q t (i+1)
theorem aA.lk {c:Bool} {kv:Value} (hx:ev L x=some u) (hy:ev L y=some kv) (h:(Instr.lookup t u kv c).run P w=.ok v w):aA P n ds L (.lookup t x y c) ty w v w:=fun a d pos af g hf=>by
  simp only [execOp,hf.eval hx,hf.eval hy]
  exact fD h
end
end Go.SL

namespace Go.SL
open Go
section
variable {r:Option Nat} {P:Program} {Q:Exit→Act→World→Prop} {ops:Array Oper} {i:Nat} {rest:List Nat} {a:Act} {w:World} {n:Nat} {ds:List Deferred} {L:List (Nat × Value)}
  {op:Op} {ty:TypeId} {pos:String} {af:Array Edge} {dst:Option Tmp}
theorem O.unguard {jj dj:Nat} {want c:Bool} (hf:Fr a n ds L) (ho:ops[i]? = some ⟨dst,op,ty,pos,af,some (jj,want)⟩) (hj:(ops[jj]?).bind (·.dst)=some dj) (hv:lk L dj=some (.bool c)) (hc:c=want)
    (h:O r P #[⟨dst,op,ty,pos,af,none⟩] (fun e a w=>e=.normal∧O r P ops Q rest a w) [0] a w):O r P ops Q (i::rest) a w:=by
  subst hc
  refine O.dV (l₁:=[i]) (l₂:=rest) (fun a w=>O r P ops Q rest a w) rfl ?_ (fun _ _ h=>h)
  unfold O wpOpsIn at h ⊢
  simp only [ho]
  rw [if_pos (by rw [uz hf hj hv]; simp)]
  simp only [List.getElem?_toArray,List.getElem?_cons_zero] at h
  rw [if_pos (by simp [Region.wanted])] at h
  exact h
end
end Go.SL

namespace Go.SL
open Go
section
variable {T:Type} {enc:T→List Value} {sz:Nat} {l m l':List T}
variable {r:Option Nat} {P:Program} {Q:Exit→Act→World→Prop} {ops:Array Oper} {i:Nat} {rest:List Nat} {a:Act} {w w0:World} {n:Nat} {ds:List Deferred} {L:List (Nat × Value)}
  {d:Nat} {ty t e:TypeId} {pos:String} {af:Array Edge} {v u z:Value} {X:Nat→Prop} {B M M':List Asr} {x y:Operand} {j k:Nat} {p1 p2:Int} {x0:T}
end
end Go.SL

namespace Go.SL
open Go
section
variable {P:Program} {Q:Exit→Act→World→Prop} {ops:Array Oper} {i:Nat} {rest:List Nat} {a:Act} {w w0:World} {n:Nat} {ds:List Deferred} {L:List (Nat × Value)}
  {d:Nat} {ty t:TypeId} {pos:String} {af:Array Edge} {v u z:Value} {X:Nat→Prop} {B M:List Asr} {x y:Operand} {f:FuncId} {fn:Func} {c:Code} {lv vs:List Value}
theorem LH.loop {r:Option Nat} {G:Type} (I:G→Act→World→Prop) (μ:G→Nat) (g:G) (h₀:I g a w)
    (round:∀ g a w,I g a w→W r P c (Exit.then (fun a' w'=>∃ g',I g' a' w'∧μ g'<μ g) Q) a w):LH r P c Q a w:=by
  have key:∀ j g a w,μ g=j→I g a w→LH r P c Q a w:=by
    intro j
    induction j using Nat.strongRecOn with
    | _ j ih =>
      intro g a w hn hI
      exact LH.step ((round g a w hI).mono (fun e a' w' hq=>by
        cases e with
        | normal =>
          obtain ⟨g',hI',hlt⟩:=hq
          exact ih (μ g') (hn▸hlt) g' a' w' rfl hI'
        | _=>exact hq))
  exact key _ g a w rfl h₀
def dfr (f:FuncId) (vs:List Value):Deferred:={ target:=.fn (.func f) #[],args:=vs.toArray }
theorem O.defer {args:Array Operand} {at_:Array TypeId} (hf:Fr a n ds L) (ho:ops[i]? = some ⟨none,.defer ⟨.value (.func f),args,at_⟩,ty,pos,af,none⟩) (hv:evA L args.toList=some vs)
    (k:∀ a',Fr a' n (dfr f vs::ds) L→O none P ops Q rest a' w):O none P ops Q (i::rest) a w:=by
  unfold O wpOpsIn
  simp only [ho]
  rw [if_pos (by simp [Region.wanted])]
  refine ⟨fun _ _=>trivial,?_⟩
  have h1:(Oper.semAt (FW none).round a.eval ⟨none,.defer ⟨.value (.func f),args,at_⟩,ty,pos,af,none⟩).run P w=.ok (.defer (dfr f vs)) w:=by
    show (execOp a.eval ⟨none,.defer ⟨.value (.func f),args,at_⟩,ty,pos,af,none⟩).run P w=_
    have h2:args.map a.eval=vs.toArray:=by
      apply Array.ext'; rw [Array.toList_map,hf.evA hv]
    simp [execOp,resolve,Deferred.ofValue,Act.eval,h2,dfr]
  rw [h1]
  exact k _ ⟨hf.size,by show dfr f vs::a.defers=_; rw [hf.defers],hf.get⟩
def tIface (P:Program) (t:TypeId):Bool:=match P.underlying t with
  | some (.interface _)=>true
  | _=>false
end
end Go.SL

namespace Go.SL
open Go
section
variable {r:Option Nat} {P:Program} {Q:Exit→Act→World→Prop} {ops:Array Oper} {i:Nat} {rest l:List Nat} {a:Act} {w w' w0:World} {n:Nat} {ds:List Deferred} {L:List (Nat × Value)}
  {d:Nat} {op:Op} {ty:TypeId} {v:Value} {y:Code} {id:Nat} {X:Nat→Prop} {B M N R:List Asr} {pp qq:Asr}
def mvk (L:List (Nat × Value)) (n:Nat):Option Oper→Option (Nat × Value)
  | some ⟨some d,.move x,_,_,_,none⟩=>match Nat.blt d n,ev L x with
    | true,some v=>some (d,v)
    | _,_=>none
  | some ⟨some d,.assign x,_,_,_,none⟩=>match Nat.blt d n,ev L x with
    | true,some v=>some (d,v)
    | _,_=>none
  | _=>none
theorem mv (hf:Fr a n ds L) (h:mvk L n ops[i]? = some (d,v)) (k:∀ a',Fr a' n ds ((d,v)::L)→O r P ops Q rest a' w):O r P ops Q (i::rest) a w:=by
  unfold mvk at h
  split at h
  · split at h
    · obtain ⟨rfl,rfl⟩:=Prod.mk.inj (Option.some.inj h)
      exact O.val hf (by assumption) rfl (by assumption) (aA.move (by assumption)) k
    · cases h
  · split at h
    · obtain ⟨rfl,rfl⟩:=Prod.mk.inj (Option.some.inj h)
      exact O.val hf (by assumption) rfl (by assumption) (aA.assign (by assumption)) k
    · cases h
  · cases h
def opk (n:Nat):Option Oper→Option (Nat × Op × TypeId)
  | some ⟨some d,op,ty,_,_,none⟩=>match cK op,Nat.blt d n with
    | true,true=>some (d,op,ty)
    | _,_=>none
  | _=>none
theorem ov (hf:Fr a n ds L) (h:opk n ops[i]? = some (d,op,ty)) (hr:aA P n ds L op ty w v w') (k:∀ a',Fr a' n ds ((d,v)::L)→O r P ops Q rest a' w'):O r P ops Q (i::rest) a w:=by
  unfold opk at h
  split at h
  · split at h
    · cases h
      exact O.val hf (by assumption) (by assumption) (by assumption) hr k
    · cases h
  · cases h
theorem nk (h:W r P y Q a w):O r P ops (Exit.then (W r P y Q) Q) [] a w:=O.nil (aF h)
class App (A B:List Asr) (C:outParam (List Asr)):Prop where
  eq:A++B=C
instance App.nil:App [] B B:=⟨rfl⟩
instance App.cons [h:App N B R]:App (pp::N) B (pp::R):=⟨congrArg (pp::·) h.eq⟩
theorem St.cl [h:App N M R] (hS:St w0 w X B M) (hc:St w w' noX [] N):St w0 w' X B R:=h.eq▸hS.call hc
class Del (i:Nat) (M:List Asr) (p:outParam Asr) (R:outParam (List Asr)):Prop where
  get:M[i]? = some p
  eq:M.eraseIdx i=R
instance Del.zero:Del 0 (pp::M) pp M:=⟨rfl,rfl⟩
instance Del.succ [h:Del i M pp R]:Del (i+1) (qq::M) pp (qq::R):=⟨h.get,congrArg (qq::·) h.eq⟩
theorem St.fr (hS:St w0 w X B M) (i:Nat) [h:Del i M pp R]:St w0 w X B (pp::R):=hS.front h.get (congrArg (pp::·) h.eq)
theorem bl {a b:Nat} (h:Nat.ble a b=true):a≤b:=Nat.le_of_ble_eq_true h
theorem St.p {b:Nat} {o:Obj} (h:St w0 w X B M) (i:Nat) (hi:M[i]? = some (pt b o)):w.heap[b]? = some o:=h.sW hi
theorem St.b {T:Type} {sz:Nat} {enc:T→List Value} {l:List T} (h:St w0 w X B M) (j:Nat) (hi:B[j]? = some (rdE sz enc v l)):iy (hp w) sz enc v l:=h.rdB hi
theorem St.s {T:Type} {e sz:Nat} {enc:T→List Value} {l:List T} (h:St w0 w X B M) (j:Nat) (hi:M[j]? = some (slE e sz enc v l)):iy (hp w) sz enc v l:=h.rdS hi
theorem St.s0 (h:St w0 w X B M):St w0 w X B []:=h.sub (List.nil_sublist _)
class Sel (bs:List Nat) (M:List Asr) (N:outParam (List Asr)):Prop where
  sub:N.Sublist M
instance Sel.nil:Sel [] M []:=⟨List.nil_sublist _⟩
instance Sel.one {bs:List Nat} [h:Sel bs M N]:Sel (1::bs) (pp::M) (pp::N):=⟨h.sub.cons_cons _⟩
instance Sel.zero {bs:List Nat} [h:Sel bs M N]:Sel (0::bs) (pp::M) N:=⟨h.sub.cons _⟩
theorem St.sl (hS:St w0 w X B M) (bs:List Nat) [h:Sel bs M N]:St w0 w X B N:=hS.sub h.sub
def pk (L:List (Nat × Value)):List (Nat × Value)→List (Nat × Value)
  | []=>[]
  | (k,_)::t=>match lk L k with
    | some v=>(k,v)::pk L t
    | none=>[]
theorem xu:∀ {L':List (Nat × Value)},pk L L'=L'→Subs L L'
  | [],_=>trivial
  | (k,v)::t,h=>by
    simp only [pk] at h
    split at h
    · rename_i u hu
      simp only [List.cons.injEq,Prod.mk.injEq,true_and] at h
      exact ⟨h.1▸hu,xu h.2⟩
    · cases h
theorem Fr.q {L':List (Nat × Value)} (h:Fr a n ds L) (e:pk L L'=L'):Fr a n ds L':=h.to (xu e)
def gpk (n:Nat) (L:List (Nat × Value)) (ops:Array Oper):Option Oper→Option (Nat × Op × TypeId × Bool × Bool)
  | some ⟨some d,op,ty,_,_,some (jj,want)⟩=>match (ops[jj]?).bind (·.dst) with
    | some dj=>match lk L dj,cK op,Nat.blt d n with
      | some (.bool c),true,true=>some (d,op,ty,c,want)
      | _,_,_=>none
    | none=>none
  | _=>none
theorem og {c want:Bool} (hf:Fr a n ds L) (h:gpk n L ops ops[i]? = some (d,op,ty,c,want)) (hc:c=want) (hr:aA P n ds L op ty w v w') (k:∀ a',Fr a' n ds ((d,v)::L)→O r P ops Q rest a' w'):O r P ops Q (i::rest) a w:=by
  unfold gpk at h
  split at h
  · split at h
    · split at h
      · cases h
        exact O.aEs hf (by assumption) (by assumption) (by assumption) hc (by assumption) (by assumption) hr k
      · cases h
    · cases h
  · cases h
theorem sk {c want:Bool} (hf:Fr a n ds L) (h:gpk n L ops ops[i]? = some (d,op,ty,c,want)) (hc:c=!want) (k:∀ a',Fr a' n ds ((d,undef)::L)→O r P ops Q rest a' w):O r P ops Q (i::rest) a w:=by
  unfold gpk at h
  split at h
  · split at h
    · split at h
      · cases h
        exact O.aJ hf (by assumption) (by assumption) (by assumption) hc (by assumption) k
      · cases h
    · cases h
  · cases h
def clk (n:Nat) (L:List (Nat × Value)):Option Oper→Option (Nat × FuncId × Array Value)
  | some ⟨some d,.call ⟨.value f,args,_⟩,_,_,_,none⟩=>match Nat.blt d n,ev L f,evA L args.toList with
    | true,some (.func (.func fid) first captured),some vs=>some (d,fid,(first.toList++(vs++captured.toList)).toArray)
    | _,_,_=>none
  | _=>none
theorem oc {f:FuncId} {av:Array Value} {G:Type} {u:G→Value} {R:G→World→Prop} (hf:Fr a n ds L) (h:clk n L ops[i]? = some (d,f,av)) (hk:aX P f=true) (hc:Ret P f av w u R)
    (k:∀ g w',R g w'→∀ a',Fr a' n ds ((d,u g)::L)→O r P ops Q rest a' w'):O r P ops Q (i::rest) a w:=by
  unfold clk at h
  split at h
  · split at h
    · cases h
      exact O.aDK hf (by assumption) rfl (by assumption) (dS.call hk (by assumption) (by assumption) (by apply Array.ext'; simp)) hc k
    · cases h
  · cases h
class SetA (j:Nat) (M:List Asr) (q:Asr) (M':outParam (List Asr)):Prop where
  eq:M.set j q=M'
instance SetA.zero:SetA 0 (pp::M) qq (qq::M):=⟨rfl⟩
instance SetA.succ {j:Nat} [h:SetA j M qq R]:SetA (j+1) (pp::M) qq (pp::R):=⟨congrArg (pp::·) h.eq⟩
theorem ost (j:Nat) (cs':Array Value) {b o m e:Nat} {t:TypeId} {x z:Operand} {pos:String} {af:Array Edge} {cs:Array Value} (hf:Fr a n ds L) (hS:St w0 w X B M) (ho:ops[i]? = some ⟨none,.store t x z,ty,pos,af,none⟩) (hx:ev L x=some (.pointer (some ⟨b,o,none⟩))) (hy:ev L z=some v)
    (hs:cO P t=some m) (hv:v.cells.size=m) (h1:bW v.cells.toList=true) (hM:M[j]? = some (pt b (.cells cs e (0,0)))) (hle:o+m≤cs.size) (hc:wr cs o v.cells.toList=cs') [h:SetA j M (pt b (.cells cs' e (0,0))) N]
    (k:∀ w',St w0 w' X B N→O r P ops Q rest a w'):O r P ops Q (i::rest) a w:=O.store hf hS ho hx hy hs hv h1 hM hle hc h.eq k
end
end Go.SL

namespace Go.SL
open Go
section
variable {w0 w w':World} {X X':Nat→Prop} {B M N:List Asr} {A1 A2:Asr} {i j:Nat}
end
end Go.SL

namespace Go.SL
open Go
section
variable {P:Program} {w w0:World} {n:Nat} {ds:List Deferred} {L:List (Nat × Value)} {ty t:TypeId} {x:Operand} {X:Nat→Prop} {B M:List Asr}
def World.setIter (w:World) (b:Nat) (s:ByteArray) (pos:Nat):World:={ w with heap:=w.heap.setIfInBounds b (.stringIter s pos) }
theorem St.setIter {i b pos pos':Nat} {s:ByteArray} (h:St w0 w X B M) (hi:M[i]? = some (pt b (.stringIter s pos))):St w0 (World.setIter w b s pos') X B (M.set i (pt b (.stringIter s pos'))):=by
  have hb:=h.sW hi
  have hlt:b<w.heap.size:=(Array.getElem?_eq_some_iff.1 hb).1
  refine h.write hi rfl rfl rfl (by simp [World.setIter]) (fun c hc hn=>?_) ?_ (fun c hc=>⟨.inl hc,?_⟩)
  · have hne:¬ b=c:=fun e=>hn (show c=b from e.symm)
    simp [World.setIter,Array.getElem?_setIfInBounds,hne]
  · show (World.setIter w b s pos').heap[b]? = _
    simp [World.setIter,Array.getElem?_setIfInBounds,hlt]
  · have:c=b:=hc
    subst this
    simpa [World.setIter] using hlt
end
end Go.SL

namespace Go.SL
open Go
section
variable {r:Option Nat} {P:Program} {ops:Array Oper} {i n:Nat} {ds:List Deferred} {L:List (Nat × Value)} {a:Act} {w:World}
theorem gt {d:Nat} {v:Value} (hf:Fr a n ds L) (h:bX ops i=some d) (hl:lk L d=some v):∀ d',bX ops i=some d'→a.tmps[d']? = some v:=fun d' h'=>by
  rw [h] at h'
  cases h'
  exact hf.get _ _ hl
end
end Go.SL

namespace Go.SL
open Go
abbrev rI (v:Value) (l:List Int):Asr:=rdv 1 v l.length (ints l)
abbrev fG (x y:Int) (v:Value):Value:=.agg #[.int .i64 x,.int .i64 y,v]
abbrev pp (b:Nat):Value:=.pointer (some ⟨b,0,none⟩)
abbrev oB (v:Value):Nat→Prop:=fun b=>v.ownBlock=some b
abbrev nI (k:Nat):Value:=.int .i64 (k:Int)
section
variable {r:Option Nat} {P:Program} {ops:Array Oper} {i n:Nat} {ds:List Deferred} {L:List (Nat × Value)} {a:Act} {w:World} {d:Nat} {op:Op} {ty:TypeId} {v:Value} {D:World→Prop}
theorem aCj (h:mvk L n ops[i]? = some (d,v)):bX ops i=some d:=by
  unfold mvk at h
  unfold bX
  split at h
  · rename_i e
    split at h
    · obtain ⟨rfl,rfl⟩:=Prod.mk.inj (Option.some.inj h)
      rw [e]; rfl
    · cases h
  · rename_i e
    split at h
    · obtain ⟨rfl,rfl⟩:=Prod.mk.inj (Option.some.inj h)
      rw [e]; rfl
    · cases h
  · cases h
theorem aC1 (h:opk n ops[i]? = some (d,op,ty)):bX ops i=some d:=by
  unfold opk at h
  unfold bX
  split at h
  · rename_i e
    split at h
    · cases h
      rw [e]; rfl
    · cases h
  · cases h
theorem aDV:lk ((d,v)::L) d=some v:=by simp [lk]
theorem qm (hf:Fr a n ds L) (h:mvk L n ops[i]? = some (d,v)) (hD:D w):O r P ops (fun e a' w'=>e=.normal∧Fr a' n ds []∧(∀ d',bX ops i=some d'→a'.tmps[d']? = some v)∧D w') [i] a w :=
  mv hf h fun a' hf=>O.nil ⟨rfl,hf.to trivial,gt hf (aCj h) aDV,hD⟩
theorem qv (hf:Fr a n ds L) (h:opk n ops[i]? = some (d,op,ty)) (hr:aA P n ds L op ty w v w) (hD:D w):O r P ops (fun e a' w'=>e=.normal∧Fr a' n ds []∧(∀ d',bX ops i=some d'→a'.tmps[d']? = some v)∧D w') [i] a w :=
  ov hf h hr fun a' hf=>O.nil ⟨rfl,hf.to trivial,gt hf (aC1 h) aDV,hD⟩
end
theorem bsm:(∀ a b:Bool,((a&&b)=true)=(a=true∧b=true))∧(∀ a b:Bool,((a||b)=true)=(a=true∨b=true))∧(∀ a b:Bool,((a&&b)=false)=(a=false∨b=false))∧(∀ a b:Bool,((a||b)=false)=(a=false∧b=false))∧(∀ (p:Prop) [Decidable p],(decide p=true)=p)∧(∀ (p:Prop) [Decidable p],(decide p=false)=¬ p)∧(∀ a:Bool,((!a)=true)=(a=false))∧(∀ a:Bool,((!a)=false)=(a=true))∧(∀ a:Bool,(¬ a=true)=(a=false))∧(∀ a:Bool,(¬ a=false)=(a=true))∧(∀ a b:Int,(a≠b)=¬ a=b):=by
  refine ⟨by simp,by simp,fun a b=>?_,by simp,by simp,by simp,by simp,by simp,by simp,by simp,by simp⟩
  cases a <;> simp
section
variable {γ:Type} {r:Option Nat} {P:Program} {Q:Exit→Act→World→Prop} {ops:Array Oper} {n:Nat} {ds:List Deferred} {a:Act} {w:World}
theorem W.dn {id:Nat} {L0 L1:List (Nat × Value)} (g0:γ) (mk al qs:List Nat) (pl ma af ol:Nat→List Nat) (lov hiv:Nat→Nat) (val:γ→Nat→Value) (D:Nat→(Nat→Bool)→γ→World→Prop)
    (hmo:P.follows .mixedOrders=true)
    (hlo:(mk++al++qs).all (fun i=>(ma i).all al.contains&&Nat.ble (lov i) mk.length)=true)
    (hmk:(List.range mk.length).all (fun j=>Nat.beq (lov (mk.getD j 0)) j&&!al.contains (mk.getD j 0)&&(List.range j).all fun t=>!Nat.beq (mk.getD t 0) (mk.getD j 0))=true)
    (hchk:(vG ops&&ops.all (fun o=>cK o.op)&&jG ops (iC L0)&&(List.range ops.size).all (fun i=>(qs.contains i||(mk++al).contains i)&&(pl i).all (fun p=>(di ops i).contains p)&&(mk.take (lov i)++ma i).all (fun p=>((kS ops).getD i []).contains p&&(mk++al).contains p)&&(mk.drop (hiv i)).all (fun j=>((kS ops).getD j []).contains i)&&(ol i).all (yD ops L1 i))&&(mk++al).all (fun i=>Nat.blt i ops.size)
      && vBm ops (kS ops)&&(mk++al).all (fun i=>(af i).all fun j=>((kS ops).getD j []).contains i)&&qs.all (fun i=>!(mk++al).contains i))=true)
    (hf:Fr a n ds L0) (hf1:Fr a n ds L1) (h0:D 0 (fun _=>false) g0 w.drew)
    (hq:Obl (fun i=>∀ k s g w,lov i≤k→k≤hiv i→(∀ p ∈ ma i,s p=true)→D k s g w→∀ a,Fr a n ds (slotsOf ops (val g) (pl i) (lI L1 (ol i) L0))→O r P ops (fun e a' w'=>e=.normal∧Fr a' n ds []∧(∀ d,bX ops i=some d→a'.tmps[d]? = some (val g i))∧D k s g w') [i] a w) qs)
    (hm:Stages (fun k i=>∀ s g w,(∀ p ∈ ma i,s p=true)→D k s g w→∀ a,Fr a n ds (slotsOf ops (val g) (pl i) (lI L1 (ol i) L0))→O r P ops (fun e a' w'=>e=.normal∧∃ g',Fr a' n ds []∧(∀ d,bX ops i=some d→a'.tmps[d]? = some (val g' i))∧(∀ j,j≠i→(af i).contains j=false→val g' j=val g j)∧D (k+1) s g' w') [i] a w) 0 mk)
    (ha:Obl (fun i=>∀ k s g w,lov i≤k→k≤hiv i→s i=false→D k s g w→∀ a,Fr a n ds (slotsOf ops (val g) (pl i) (lI L1 (ol i) L0))→O r P ops (fun e a' w'=>e=.normal∧∃ g',Fr a' n ds []∧(∀ d,bX ops i=some d→a'.tmps[d]? = some (val g' i))∧(∀ j,j≠i→(af i).contains j=false→val g' j=val g j)∧D k (upd s i) g' w') [i] a w) al)
    (hend:∀ s g a w,(∀ i ∈ al,s i=true)→Fr a n ds (slotsOf ops (val g) (List.range ops.size) L0)→D mk.length s g w→Q .normal a w):W r P (.region id ops true) Q a w :=
  W.aEy (L0:=L0) (L1:=L1) g0 mk al qs pl (fun i=>mk.take (lov i)++ma i) (fun i=>mk.drop (hiv i)) ma af ol lov hiv val D hmo (List.all_eq_true.2 fun i hi=>by
    have h:=List.all_eq_true.1 hlo i hi
    simp only [Bool.and_eq_true] at h ⊢
    exact ⟨⟨⟨beq_self_eq_true _,beq_self_eq_true _⟩,h.1⟩,h.2⟩) hmk hchk hf hf1 h0 hq hm ha hend
end
section
variable {r:Option Nat} {P:Program} {Q:Exit→Act→World→Prop} {ops:Array Oper} {a:Act} {w:World} {id:Nat}
theorem R1 (h:List.range ops.size=[0]) (k:O r P ops Q [0] a w):W r P (.region id ops false) Q a w:=W.aY h k
theorem R2 (h:List.range ops.size=[0,1]) (k:O r P ops Q [0,1] a w):W r P (.region id ops false) Q a w:=W.aY h k
theorem R3 (h:List.range ops.size=[0,1,2]) (k:O r P ops Q [0,1,2] a w):W r P (.region id ops false) Q a w:=W.aY h k
theorem R4 (h:List.range ops.size=[0,1,2,3]) (k:O r P ops Q [0,1,2,3] a w):W r P (.region id ops false) Q a w:=W.aY h k
theorem R5 (h:List.range ops.size=[0,1,2,3,4]) (k:O r P ops Q [0,1,2,3,4] a w):W r P (.region id ops false) Q a w:=W.aY h k
theorem R6 (h:List.range ops.size=[0,1,2,3,4,5]) (k:O r P ops Q [0,1,2,3,4,5] a w):W r P (.region id ops false) Q a w:=W.aY h k
theorem R7 (h:List.range ops.size=[0,1,2,3,4,5,6]) (k:O r P ops Q [0,1,2,3,4,5,6] a w):W r P (.region id ops false) Q a w:=W.aY h k
end
end Go.SL

namespace Go.SL
open Go
abbrev iV (x:Int):Value:=.int .i64 x
theorem vI {k:IntKind} {x y:Int} (h:x=y):some (Value.int k x)=some (Value.int k y):=by rw [h]
end Go.SL

namespace Go.SL
open Go
abbrev fB (f:FuncId) (x y:Int) (v:Value):Value:=.func (.func f) #[fG x y v] #[]
section
variable {γ:Type} {r:Option Nat} {P:Program} {ops:Array Oper} {i n lo hi m:Nat} {ds:List Deferred} {a:Act} {w:World}
theorem qq {K:List Nat} {L:γ→List (Nat × Value)} {d:Nat} {v:γ→Value} {D:Nat→(Nat→Bool)→γ→World→Prop} (h:∀ g,mvk (L g) n ops[i]? = some (d,v g)) :
    ∀ k s g w,lo≤k→k≤hi→(∀ p ∈ K,s p=true)→D k s g w→∀ a,Fr a n ds (L g)→O r P ops (fun e a' w'=>e=.normal∧Fr a' n ds []∧(∀ d',bX ops i=some d'→a'.tmps[d']? = some (v g))∧D k s g w') [i] a w :=
  fun _ _ g _ _ _ _ hD _ hf=>qm hf (h g) hD
theorem s1 {R:Nat→(Nat→Bool)→γ→World→Prop} (h:∀ s g w,R lo s g w) (e:hi=lo):∀ k s g w,lo≤k→k≤hi→R k s g w:=fun k s g w h1 h2=>by
  obtain rfl:k=lo:=by omega
  exact h s g w
theorem nU {L:List (Nat × Value)} {V:Unit→Value} {E:Unit→Nat→Value} {W:Nat→Value} {C:Nat→Prop} {D:Unit→World→Prop} (hf:Fr a n ds L) (h:bX ops i=none) (he:∀ j,E () j=W j) (hD:D () w) :
    O r P ops (fun e a' w'=>e=.normal∧∃ g',Fr a' n ds []∧(∀ d,bX ops i=some d→a'.tmps[d]? = some (V g'))∧(∀ j,j≠i→C j→E g' j=W j)∧D g' w') [] a w :=
  O.nil ⟨rfl,(),hf.to trivial,fun d hd=>(by rw [h] at hd; cases hd),fun j _ _=>he j,hD⟩
end
section
variable {P:Program} {ops:Array Oper} {C:World→Prop} {K:Act→Prop} {lo:List Oper} {a:Act} {n d:Nat} {ds:List Deferred} {L:List (Nat × Value)} {x:Operand} {v:Value} {ty:TypeId} {pos:String} {af:Array Edge}
theorem gm {jj dj:Nat} {want c:Bool} (hf:Fr a n ds L) (hj:(ops[jj]?).bind (·.dst)=some dj) (hv:lk L dj=some (.bool c)) (hc:c=want) (hd:Nat.blt d n=true) (hx:ev L x=some v) (k:∀ a',Fr a' n ds ((d,v)::L)→OQ P ops C K lo a'):OQ P ops C K (⟨some d,.move x,ty,pos,af,some (jj,want)⟩::lo) a :=
  OQ.gval hf hj hv hc hd (fun _ _=>aA.move hx) k
theorem q0 (hf:Fr a n ds L) (hd:Nat.blt d n=true) (hx:ev L x=some v) (k:∀ a',Fr a' n ds ((d,v)::L)→OQ P ops C K lo a'):OQ P ops C K (⟨some d,.move x,ty,pos,af,none⟩::lo) a :=
  OQ.val hf hd (fun _ _=>aA.move hx) k
end
end Go.SL
