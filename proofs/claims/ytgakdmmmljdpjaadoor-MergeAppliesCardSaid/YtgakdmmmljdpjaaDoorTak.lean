/- Part of a proof: laws and walks. -/
import Derived.Test.YtgakdmmmljdpjaaDoorTaj
import Derived.Test.YtgakdmmmljdpjaaDoorTac
set_option linter.unusedVariables false
set_option linter.unusedSimpArgs false
namespace Go.SL
open Go
def findR (L:List PO) (d:Dg):Int:=match L.findIdx? fun x=>decide (d ∈ x.2) with | some i=>(i:Int) | none=>-1
theorem findR_hit {L:List PO} {d:Dg} {i:Nat} (h:∀ j,j<i→d ∉ (L.getD j default).2) (hi:i<L.length) (hd:d ∈ (L.getD i default).2):findR L d=(i:Int):=by
  have:L.findIdx? (fun x=>decide (d ∈ x.2))=some i:=by
    rw [List.findIdx?_eq_some_iff_getElem]
    refine ⟨hi,by simpa [List.getD_eq_getElem?_getD,List.getElem?_eq_getElem hi] using hd,fun j hj=>?_⟩
    have:=h j hj
    simpa [List.getD_eq_getElem?_getD,List.getElem?_eq_getElem (show j<L.length by omega)] using this
  unfold findR
  rw [this]
theorem findR_none {L:List PO} {d:Dg} (h:∀ j,j<L.length→d ∉ (L.getD j default).2):findR L d=-1:=by
  have:L.findIdx? (fun x=>decide (d ∈ x.2))=none:=by
    rw [List.findIdx?_eq_none_iff]
    intro x hx
    obtain ⟨j,hj,rfl⟩:=List.mem_iff_getElem.1 hx
    have:=h j hj
    simpa [List.getD_eq_getElem?_getD,List.getElem?_eq_getElem hj] using this
  unfold findR
  rw [this]
theorem mem_getD {l:List Dg} {d:Dg}:d ∈ l↔∃ k,k<l.length∧l.getD k default=d:=by
  constructor
  · intro h
    obtain ⟨k,hk,rfl⟩:=List.mem_iff_getElem.1 h
    exact ⟨k,hk,by simp [List.getD_eq_getElem?_getD,List.getElem?_eq_getElem hk]⟩
  · rintro ⟨k,hk,rfl⟩
    rw [List.getD_eq_getElem?_getD,List.getElem?_eq_getElem hk]
    exact List.getElem_mem _
theorem fd_row {l:List Dg} {d:Dg} {n:Nat} (hn:l.length≤n) (h:∀ j,j<n→l.getD j default≠d):d ∉ l:=fun hd=>by
  obtain ⟨k,hk,e⟩:=mem_getD.1 hd
  exact h k (by omega) e
section
variable {T:Type}
def putAt (s:List T) (k:Nat) (x:T):List T:=s.take k++x::s.drop k
theorem putAt_len {s:List T} {k:Nat} {x:T}:(putAt s k x).length=s.length+1:=by
  unfold putAt; simp only [List.length_append,List.length_cons,List.length_take,List.length_drop]; omega
theorem putAt_end {s:List T} {x:T}:putAt s s.length x=s++[x]:=by unfold putAt; simp
theorem putAt_perm {s:List T} {k:Nat} {x:T}:(putAt s k x).Perm (s++[x]):=by
  unfold putAt
  refine List.perm_middle.trans ?_
  rw [List.take_append_drop]
  exact (List.perm_append_comm (l₁:=[x]) (l₂:=s))
theorem putAt_pair {R:T→T→Prop} {s:List T} {k:Nat} {x:T} (hs:s.Pairwise R) (h1:∀ y ∈ s.take k,R y x) (h2:∀ y ∈ s.drop k,R x y):(putAt s k x).Pairwise R:=by
  unfold putAt
  have hs':=hs
  rw [← List.take_append_drop k s,List.pairwise_append] at hs'
  rw [List.pairwise_append,List.pairwise_cons]
  refine ⟨hs'.1,⟨h2,hs'.2.1⟩,fun a ha b hb=>?_⟩
  rcases List.mem_cons.1 hb with rfl | hb
  · exact h1 a ha
  · exact hs'.2.2 a ha b hb
end
section
variable {T:Type} [Inhabited T]
theorem putAt_get {s:List T} {k j:Nat} {x:T} (hk:k≤s.length):(putAt s k x).getD j default=if j<k then s.getD j default else if j=k then x else s.getD (j-1) default:=by
  unfold putAt
  simp only [List.getD_eq_getElem?_getD]
  split
  · rw [List.getElem?_append_left (by rw [List.length_take]; omega),List.getElem?_take_of_lt (by omega)]
  · split
    · rename_i h; subst h
      rw [List.getElem?_append_right (by rw [List.length_take]; omega),List.length_take,Nat.min_eq_left hk]
      simp
    · rw [List.getElem?_append_right (by rw [List.length_take]; omega),List.length_take,Nat.min_eq_left hk]
      obtain ⟨m,hm⟩:∃ m,j-k=m+1:=⟨j-k-1,by omega⟩
      rw [hm,List.getElem?_cons_succ,List.getElem?_drop]
      congr 2; omega
theorem putAt_swap {s:List T} {k:Nat} {x:T} (h0:0<k) (hk:k≤s.length):((putAt s k x).set (k-1) x).set k (s.getD (k-1) default)=putAt s (k-1) x:=by
  apply List.ext_getElem?
  intro j
  rw [List.getElem?_set,List.getElem?_set]
  have e:∀ q (m:Nat),m<(putAt s q x).length→(putAt s q x)[m]? = some ((putAt s q x).getD m default):=fun q m hm=>by
    simp [List.getD_eq_getElem?_getD,List.getElem?_eq_getElem hm]
  by_cases hj:j<s.length+1
  · rw [e (k-1) j (by rw [putAt_len]; exact hj),putAt_get (by omega)]
    simp only [List.length_set,putAt_len]
    by_cases h1:k=j
    · subst h1
      rw [if_pos rfl,if_pos hj,if_neg (by omega),if_neg (by omega)]
    · rw [if_neg h1]
      by_cases h2:k-1=j
      · subst h2
        rw [if_pos rfl,if_pos hj,if_neg (by omega),if_pos rfl]
      · rw [if_neg h2,e k j (by rw [putAt_len]; exact hj),putAt_get hk]
        by_cases h3:j<k-1
        · rw [if_pos (by omega),if_pos h3]
        · rw [if_neg (by omega),if_neg (by omega),if_neg h3,if_neg (by omega)]
  · rw [List.getElem?_eq_none (l:=putAt s (k-1) x) (by rw [putAt_len]; omega)]
    rw [if_neg (by omega),if_neg (by omega),List.getElem?_eq_none (by rw [putAt_len]; omega)]
end
structure InsI {T:Type} [Inhabited T] (key:T→Dg) (t s:List T) (i k:Nat):Prop where
  hi:i<t.length
  hk:k≤i
  len:s.length=i
  perm:s.Perm (t.take i)
  sorted:s.Pairwise fun x y=>cmpD (key x) (key y)≤0
  big:∀ y ∈ s.drop k,cmpD (key (t.getD i default)) (key y)≤0
section
variable {T:Type} [Inhabited T] {key:T→Dg} {t s:List T} {i k:Nat}
theorem InsI.step (I:InsI key t s i k) (h0:0<k) (h:cmpD (key (t.getD i default)) (key (s.getD (k-1) default))<0):InsI key t s i (k-1) :=
  ⟨I.hi,by have:=I.hk; omega,I.len,I.perm,I.sorted,fun y hy=>by
    have hk:=I.hk
    have hl:=I.len
    rw [List.drop_eq_getElem_cons (show k-1<s.length by omega),show k-1+1=k by omega] at hy
    rcases List.mem_cons.1 hy with rfl | hy
    · have:s.getD (k-1) default=s[k-1]:=by simp [List.getD_eq_getElem?_getD,List.getElem?_eq_getElem (show k-1<s.length by omega)]
      rw [this] at h; omega
    · exact I.big y hy⟩
theorem InsI.done (I:InsI key t s i k) (h:0<k→¬ cmpD (key (t.getD i default)) (key (s.getD (k-1) default))<0):(putAt s k (t.getD i default)).Perm (t.take (i+1))∧(putAt s k (t.getD i default)).Pairwise fun x y=>cmpD (key x) (key y)≤0:=by
  have hi:=I.hi
  have hk:=I.hk
  have hl:=I.len
  refine ⟨?_,putAt_pair I.sorted (fun y hy=>?_) I.big⟩
  · rw [take_snoc hi]
    exact putAt_perm.trans (I.perm.append_right _)
  · obtain ⟨j,hj,rfl⟩:=List.mem_iff_getElem.1 hy
    rw [List.length_take] at hj
    have h0:0<k:=by omega
    have h1:=h h0
    rw [cmpD_anti] at h1
    have h2:cmpD (key (s.getD (k-1) default)) (key (t.getD i default))≤0:=by omega
    rw [List.getElem_take]
    by_cases hjk:j=k-1
    · subst hjk
      have:s.getD (k-1) default=s[k-1]:=by simp [List.getD_eq_getElem?_getD,List.getElem?_eq_getElem (show k-1<s.length by omega)]
      rw [this] at h2; exact h2
    · have h3:=pair_getD I.sorted (i:=j) (j:=k-1) (by omega) (by omega)
      have:s.getD j default=s[j]:=by simp [List.getD_eq_getElem?_getD,List.getElem?_eq_getElem (show j<s.length by omega)]
      rw [this] at h3
      exact (cmpD_trans h3 h2).1
end
end Go.SL
namespace Go.SL
open Go
theorem idx_nat {T:Type} [Inhabited T] {l:List T} {j:Nat} (h:j<l.length):idx l ((j:Nat):Int)=some (l.getD j default):=by
  unfold idx
  rw [if_pos (by omega)]
  simp [List.getD_eq_getElem?_getD,List.getElem?_eq_getElem h]
section
variable {T:Type} [Inhabited T] {key:T→Dg} {t s:List T} {i k:Nat} {x:T}
theorem ins_y (I:InsI key t s i k) (h0:0<k):s.getD (k-1) default ∈ t:=by
  have hk:=I.hk
  have hl:=I.len
  refine List.mem_of_mem_take (I.perm.mem_iff.1 ?_)
  rw [List.getD_eq_getElem?_getD,List.getElem?_eq_getElem (by omega)]
  exact List.getElem_mem _
theorem ins_x (I:InsI key t s i k):t.getD i default ∈ t:=by
  rw [List.getD_eq_getElem?_getD,List.getElem?_eq_getElem I.hi]
  exact List.getElem_mem _
theorem ins_stop (I:InsI key t s i k) (hok:∀ y ∈ t,okD (key y)=true∧rD (key y)) (hx:x=t.getD i default)
    (h:(decide ((k:Int)>(0:Int))&&decide (befM (key x) (key (s.getD (k-1) default))<(0:Int)))=false):(putAt s k x).Perm (t.take (i+1))∧(putAt s k x).Pairwise fun x y=>cmpD (key x) (key y)≤0:=by
  subst hx
  refine I.done fun h0 hc=>?_
  have h1:=hok _ (ins_x I)
  have h2:=hok _ (ins_y I h0)
  rw [bef_cmp h1.1 h2.1 h1.2 h2.2,decide_eq_true (show (k:Int)>0 by omega),decide_eq_true hc] at h
  cases h
theorem ins_go (I:InsI key t s i k) (hok:∀ y ∈ t,okD (key y)=true∧rD (key y)) (hx:x=t.getD i default)
    (h:(decide ((k:Int)>(0:Int))&&decide (befM (key x) (key (s.getD (k-1) default))<(0:Int)))=true):0<k∧InsI key t s i (k-1):=by
  subst hx
  rw [Bool.and_eq_true,decide_eq_true_eq,decide_eq_true_eq] at h
  have h0:0<k:=by omega
  refine ⟨h0,I.step h0 ?_⟩
  have h1:=hok _ (ins_x I)
  have h2:=hok _ (ins_y I h0)
  rw [bef_cmp h1.1 h2.1 h1.2 h2.2] at h
  exact h.2
theorem ins_start (hi:i<t.length) (hl:s.length=i) (hp:s.Perm (t.take i)) (hs:s.Pairwise fun x y=>cmpD (key x) (key y)≤0):InsI key t s i i :=
  ⟨hi,Nat.le_refl _,hl,hp,hs,fun y hy=>by rw [List.drop_eq_nil_of_le (by omega)] at hy; cases hy⟩
end
theorem ins_end {l s:List Dg} {i:Nat} (hi:l.length≤i) (hp:s.Perm (l.take i)) (hs:s.Pairwise fun x y=>cmpD x y≤0):s=sortDs l:=by
  rw [List.take_of_length_le hi] at hp
  refine (sortDs_eq hp.symm (hs.imp fun {a b} hab=>?_)).symm
  unfold ltD
  rw [decide_eq_false_iff_not,cmpD_anti]
  omega
end Go.SL

namespace Go.SL
open Go
section
variable {T:Type}
def delR (l:List T) (i:Nat):List T:=lsub l 0 (i:Int)++lsub l ((i:Int)+1) (l.length:Int)
theorem delR_eq {l:List T} {i:Nat}:delR l i=l.take i++l.drop (i+1):=by
  unfold delR lsub
  rw [show ((i:Int)+1).toNat=i+1 by omega]
  simp
theorem delR_map {U:Type} {f:T→U} {l:List T} {i:Nat}:(delR l i).map f=delR (l.map f) i:=by
  simp only [delR_eq,List.map_append,List.map_take,List.map_drop]
theorem delR_mem {l:List T} {i:Nat} {x:T} (h:x ∈ delR l i):x ∈ l:=by
  rw [delR_eq] at h
  rcases List.mem_append.1 h with h | h
  · exact List.mem_of_mem_take h
  · exact List.mem_of_mem_drop h
end
section
variable {T:Type} [Inhabited T]
theorem delR_perm {l:List T} {i:Nat} (h:i<l.length):l.Perm (l.getD i default::delR l i):=by
  rw [delR_eq]
  have h1:l.drop i=l.getD i default::l.drop (i+1):=by
    rw [List.drop_eq_getElem_cons h]; simp [List.getD_eq_getElem?_getD,List.getElem?_eq_getElem h]
  have h2:=List.take_append_drop i l
  rw [h1] at h2
  have h3:(l.take i++l.getD i default::l.drop (i+1)).Perm (l.getD i default::(l.take i++l.drop (i+1))):=List.perm_middle
  rw [h2] at h3
  exact h3
theorem delR_len {l:List T} {i:Nat} (h:i<l.length):(delR l i).length+1=l.length:=by
  have:=(delR_perm h).length_eq
  simp only [List.length_cons] at this
  omega
theorem delR_get {l:List T} {i j:Nat} (h:j<i) (hi:i<l.length):(delR l i).getD j default=l.getD j default:=by
  rw [delR_eq]
  simp only [List.getD_eq_getElem?_getD]
  rw [List.getElem?_append_left (by rw [List.length_take]; omega),List.getElem?_take_of_lt h]
theorem del2_perm {l:List T} {i j:Nat} (h:i<j) (hj:j<l.length):l.Perm (l.getD i default::l.getD j default::delR (delR l j) i):=by
  have h1:=delR_perm hj
  have h2:=delR_perm (l:=delR l j) (i:=i) (by have:=delR_len hj; omega)
  rw [delR_get h hj] at h2
  exact h1.trans ((h2.cons _).trans (List.Perm.swap _ _ _))
end
def objR (m:List Dg):PO:=((sortDs m).getD 0 default,sortDs m)
def nextR (L:List PO) (c:Ch):Except Int (List PO) :=
  let a:=findR L c.a
  let b:=findR L c.b
  if c.kind=1 then (if a≥0 then .error 14 else .ok (L++[objR [c.a]]))
  else if c.kind=2 then
    (if a<0∨b<0 then .error 6
     else if a=b∨(0<(L.getD a.toNat default).1.num∧0<(L.getD b.toNat default).1.num) then .error 36
     else .ok (delR (delR L (max a b).toNat) (min a b).toNat++[objR ((L.getD a.toNat default).2++(L.getD b.toNat default).2)]))
  else if a<0 then .error 6
  else if b≥0 then .error 14
  else if 0<(L.getD a.toNat default).1.num then .error 36
  else .ok (delR L a.toNat++[objR ((L.getD a.toNat default).2++[c.b])])
section
variable {L:List PO} {S S':List PG} {d:Dg} {c:Ch} {p x y:PG}
theorem find_ref0 (hp:L.Perm (S.map objP)) (h:findG S d=none):findR L d=-1:=findR_none fun j hj hd=>by
  have hm:L.getD j default ∈ L:=by rw [List.getD_eq_getElem?_getD,List.getElem?_eq_getElem hj]; exact List.getElem_mem _
  obtain ⟨p,hpS,he⟩:=List.mem_map.1 (hp.mem_iff.1 hm)
  rw [← he] at hd
  exact find_none h p hpS (sort_mem.1 hd)
theorem find_ref1 (hp:L.Perm (S.map objP)) (hw:wfS S) (h:findG S d=some p):∃ i:Nat,findR L d=(i:Int)∧i<L.length∧L.getD i default=objP p:=by
  have h1:=findG_mem h
  have hm:objP p ∈ L:=hp.mem_iff.2 (List.mem_map.2 ⟨p,h1.1,rfl⟩)
  have hex:∃ i,i<L.length∧d ∈ (L.getD i default).2:=by
    obtain ⟨i,hi,he⟩:=List.mem_iff_getElem.1 hm
    refine ⟨i,hi,?_⟩
    have:L.getD i default=objP p:=by simp [List.getD_eq_getElem?_getD,List.getElem?_eq_getElem hi,he]
    rw [this]
    exact sort_mem.2 h1.2
  obtain ⟨i,⟨hi,hd⟩,hmin⟩:∃ i,(i<L.length∧d ∈ (L.getD i default).2)∧∀ j,j<i→¬ (j<L.length∧d ∈ (L.getD j default).2):=by
    obtain ⟨i,hi⟩:=hex
    induction i using Nat.strongRecOn with
    | ind i ih =>
      by_cases hj:∃ j,j<i∧(j<L.length∧d ∈ (L.getD j default).2)
      · obtain ⟨j,hji,hj⟩:=hj
        exact ih j hji hj
      · exact ⟨i,hi,fun j hji hj'=>hj ⟨j,hji,hj'⟩⟩
  refine ⟨i,findR_hit (fun j hj hd'=>hmin j hj ⟨by omega,hd'⟩) hi hd,hi,?_⟩
  have hm':L.getD i default ∈ L:=by rw [List.getD_eq_getElem?_getD,List.getElem?_eq_getElem hi]; exact List.getElem_mem _
  obtain ⟨q,hq,he⟩:=List.mem_map.1 (hp.mem_iff.1 hm')
  rw [← he] at hd ⊢
  rw [pg_uniq hw.1 hq h1.1 (sort_mem.1 hd) h1.2]
theorem num_iff (hw:okG p):0<(objP p).1.num↔p.2=true:=by
  refine ⟨fun h=>?_,num_head hw⟩
  cases h2:p.2 with
  | true=>rfl
  | false =>
    have h3:=hw.2.2
    rw [h2,if_neg (by decide)] at h3
    unfold numC at h3
    rw [List.countP_eq_zero] at h3
    exact absurd h (fun h=>by
      have h4:=h3 _ (hd_mem hw.1)
      simp only [decide_eq_true_eq] at h4
      exact h4 h)
theorem objR_merged:objR ((objP x).2++(objP y).2)=objP (merged x y):=by
  have h:((objP x).2++(objP y).2).Perm (merged x y).1:=((List.mergeSort_perm x.1 _).append (List.mergeSort_perm y.1 _)).trans (merged_perm x y).symm
  unfold objR
  rw [sortDs_perm h]
  rfl
theorem objR_named:objR ((objP x).2++[d])=objP (x.1++[d],true):=by
  have h:((objP x).2++[d]).Perm (x.1++[d]):=(List.mergeSort_perm x.1 _).append_right _
  unfold objR
  rw [sortDs_perm h]
  rfl
theorem nodup_L (hp:L.Perm (S.map objP)) (hw:wfS S):L.Nodup:=hp.nodup_iff.2 (objP_nodup hw)
theorem idx_eq (hp:L.Perm (S.map objP)) (hw:wfS S) {i j:Nat} (hi:i<L.length) (hj:j<L.length) (he:L.getD i default=L.getD j default):i=j:=by
  have hn:=nodup_L hp hw
  rw [List.nodup_iff_pairwise_ne] at hn
  rcases Nat.lt_trichotomy i j with h | h | h
  · exact absurd he (pair_getD hn h hj)
  · exact h
  · exact absurd he.symm (pair_getD hn h hi)
theorem step_ref (hp:L.Perm (S.map objP)) (hw:wfS S) (hk:c.kind=1∨c.kind=2∨c.kind=3) :
    (∀ e,stepM S c=.error e→nextR L c=.error e)∧(∀ S',stepM S c=.ok S'→∃ L',nextR L c=.ok L'∧L'.Perm (S'.map objP)):=by
  unfold stepM nextR
  by_cases h1:c.kind=1
  · simp only [if_pos h1]
    unfold addM
    cases hf:findG S c.a with
    | none =>
      rw [find_ref0 hp hf,if_neg (by decide)]
      refine ⟨fun e h=>(by cases h),fun S' h=>⟨_,rfl,?_⟩⟩
      cases h
      exact (List.perm_append_comm (l₁:=L) (l₂:=[objR [c.a]])).trans (List.Perm.cons _ hp)
    | some p =>
      obtain ⟨i,hi,_⟩:=find_ref1 hp hw hf
      rw [hi,if_pos (by omega)]
      exact ⟨fun e h=>by cases h; rfl,fun S' h=>by cases h⟩
  · simp only [if_neg h1]
    by_cases h2:c.kind=2
    · simp only [if_pos h2]
      unfold joinM
      cases hfa:findG S c.a with
      | none =>
        simp only [find_ref0 hp hfa]
        rw [if_pos (.inl (by decide))]
        refine ⟨fun e h=>?_,fun S' h=>?_⟩ <;> (cases findG S c.b <;> cases h) <;> rfl
      | some x =>
        obtain ⟨i,hi,hil,hix⟩:=find_ref1 hp hw hfa
        cases hfb:findG S c.b with
        | none =>
          simp only [find_ref0 hp hfb]
          rw [if_pos (.inr (by decide))]
          refine ⟨fun e h=>by cases h; rfl,fun S' h=>by cases h⟩
        | some y =>
          obtain ⟨j,hj,hjl,hjy⟩:=find_ref1 hp hw hfb
          have hx:=findG_mem hfa
          have hy:=findG_mem hfb
          simp only [hi,hj,Int.toNat_natCast]
          rw [if_neg (show ¬ ((i:Int)<0∨(j:Int)<0) by omega),hix,hjy]
          have hiff:((i:Int)=(j:Int)∨(0<(objP x).1.num∧0<(objP y).1.num))↔(x=y∨(x.2&&y.2)=true):=by
            rw [num_iff (hw.2 x hx.1),num_iff (hw.2 y hy.1),Bool.and_eq_true]
            refine or_congr ⟨fun h=>?_,fun h=>?_⟩ Iff.rfl
            · have:i=j:=by omega
              subst this
              rw [hix] at hjy
              exact objP_inj hw hx.1 hy.1 (congrArg Prod.fst hjy)
            · subst h
              have:=idx_eq hp hw hil hjl (hix.trans hjy.symm)
              omega
          by_cases h36:x=y∨(x.2&&y.2)=true
          · rw [if_pos h36,if_pos (hiff.2 h36)]
            exact ⟨fun e h=>by cases h; rfl,fun S' h=>by cases h⟩
          · rw [if_neg h36,if_neg (fun h=>h36 (hiff.1 h))]
            refine ⟨fun e h=>(by cases h),fun S' h=>⟨_,rfl,?_⟩⟩
            cases h
            have hne:i≠j:=fun h=>h36 (hiff.1 (.inl (by omega)))
            have hS:=pg_take2 hx.1 hy.1 hw.1 hx.2 hy.2 (fun h=>h36 (.inl (pg_uniq hw.1 hx.1 hy.1 hx.2 h)))
            rw [objR_merged]
            refine (List.perm_append_comm (l₂:=[objP (merged x y)])).trans (List.Perm.cons _ ?_)
            have hL:L.Perm (objP x::objP y::delR (delR L (max (i:Int) (j:Int)).toNat) (min (i:Int) (j:Int)).toNat):=by
              rcases Nat.lt_or_gt_of_ne hne with h | h
              · rw [show (max (i:Int) (j:Int)).toNat=j by omega,show (min (i:Int) (j:Int)).toNat=i by omega]
                have:=del2_perm h hjl
                rw [hix,hjy] at this
                exact this
              · rw [show (max (i:Int) (j:Int)).toNat=i by omega,show (min (i:Int) (j:Int)).toNat=j by omega]
                have:=del2_perm h hil
                rw [hix,hjy] at this
                exact this.trans (List.Perm.swap _ _ _)
            exact (hL.symm.trans (hp.trans (hS.map objP))).cons_inv.cons_inv
    · simp only [if_neg h2]
      unfold nameM
      cases hfa:findG S c.a with
      | none =>
        simp only [find_ref0 hp hfa]
        rw [if_pos (by decide)]
        exact ⟨fun e h=>by cases h; rfl,fun S' h=>by cases h⟩
      | some x =>
        obtain ⟨i,hi,hil,hix⟩:=find_ref1 hp hw hfa
        have hx:=findG_mem hfa
        cases hfb:findG S c.b with
        | some y =>
          obtain ⟨j,hj,hjl,hjy⟩:=find_ref1 hp hw hfb
          simp only [hi,hj]
          rw [if_neg (show ¬ (i:Int)<0 by omega),if_pos (show (j:Int)≥0 by omega)]
          exact ⟨fun e h=>by cases h; rfl,fun S' h=>by cases h⟩
        | none =>
          simp only [hi,find_ref0 hp hfb,Int.toNat_natCast]
          rw [if_neg (show ¬ (i:Int)<0 by omega),if_neg (show ¬ (-1:Int)≥0 by decide),hix]
          have hn:=num_iff (hw.2 x hx.1)
          by_cases h36:x.2=true
          · rw [if_pos h36,if_pos (hn.2 h36)]
            exact ⟨fun e h=>by cases h; rfl,fun S' h=>by cases h⟩
          · rw [if_neg h36,if_neg (fun h=>h36 (hn.1 h))]
            refine ⟨fun e h=>(by cases h),fun S' h=>⟨_,rfl,?_⟩⟩
            cases h
            have hS:=pg_take hx.1 hw.1 hx.2
            rw [objR_named]
            refine (List.perm_append_comm (l₂:=[objP (x.1++[c.b],true)])).trans (List.Perm.cons _ ?_)
            have hL:=delR_perm hil
            rw [hix] at hL
            exact (hL.symm.trans (hp.trans (hS.map objP))).cons_inv
end
end Go.SL
namespace Go.SL
open Go
theorem find_hitO {os:List Ob} {d:Dg} {i k:Nat} (h:∀ j,j<i→d ∉ (os.getD j default).l) (hi:i<os.length) (hk:k<(os.getD i default).l.length) (hd:(os.getD i default).l.getD k default=d):findR (os.map prO) d=(i:Int) :=
  findR_hit (fun j hj=>by rw [prO_getD (by omega)]; exact h j hj) (by simpa using hi) (by rw [prO_getD hi]; exact mem_getD.2 ⟨k,hk,hd⟩)
theorem find_noneO {os:List Ob} {d:Dg} {i:Nat} (hi:os.length≤i) (h:∀ j,j<i→d ∉ (os.getD j default).l):findR (os.map prO) d=-1 :=
  findR_none fun j hj=>by rw [List.length_map] at hj; rw [prO_getD hj]; exact h j (by omega)
theorem okC_ref {c:Ch}:okC c=(if c.kind=1 then okD c.a&&decide (c.a.num=0)&&decide (c=⟨1,c.a,default,0⟩)
    else if c.kind=2 then okD c.a&&okD c.b&&!decide (c.a=c.b)&&decide (c.n=0)
    else if c.kind=3 then okD c.a&&okD c.b&&decide (c.b.num>0)&&decide (c.n=0)
    else if c.kind=4 then decide (c.n≥0)&&decide (c=⟨4,default,default,c.n⟩) else false):=by
  unfold okC
  obtain ⟨k,a,b,n⟩:=c
  simp only
  split
  · rename_i h; subst h
    simp only [Ch.mk.injEq,true_and]
    rw [show (decide (b=default∧n=0))=(decide (b=default)&&decide (n=0)) by simp]
    simp only [Bool.and_assoc]
  · split
    · simp only [Bool.and_assoc,Bool.and_comm (decide (n=0))]
    · split
      · simp only [Bool.and_assoc,Bool.and_comm (decide (n=0))]
      · split
        · rename_i h; subst h
          simp only [Ch.mk.injEq,true_and,and_true]
          rw [show (decide (a=default∧b=default))=(decide (a=default)&&decide (b=default)) by simp]
          cases decide (a=default) <;> cases decide (b=default) <;> cases decide (n≥0) <;> rfl
        · rfl
end Go.SL
namespace Go.SL
open Go
theorem sc_1 {l m:List Ch} (h:¬ (l.length:Int)=(m.length:Int)):decide (l=m)=false:=decide_eq_false fun e=>h (by rw [e])
theorem sc_2 {l m:List Ch} {k:Nat} (hk:k<l.length) (h:(!decide (l.getD k default=m.getD k default))=true):decide (l=m)=false:=decide_eq_false fun e=>by
  subst e; simp at h
theorem sc_3 {l m:List Ch} (hl:l.length=m.length) (h:∀ j,j<l.length→l.getD j default=m.getD j default):decide (l=m)=true:=decide_eq_true (ext_getD hl h)
theorem ck_no {b:Bool} (h:(!b)=true):(if b then (0:Int) else 8)=8:=by cases b <;> first | rfl | cases h
theorem ck_yes {b:Bool} (h:(!b)=false):(if b then (0:Int) else 8)=0:=by cases b <;> first | rfl | cases h
end Go.SL

namespace Go.Proofs.YtgakdmmmljdpjaaDoor
open Go Go.SL
theorem eqA3:tAgg Tryd.prog 3=some false:=by kernel_rfl
theorem eqA5:tAgg Tryd.prog 5=some false:=by kernel_rfl
theorem eqA24:tAgg Tryd.prog 24=some true:=by kernel_rfl
theorem eqS24:tSize Tryd.prog 24=some 5:=by kernel_rfl
theorem eqI3:tInt Tryd.prog 3=some .i64:=by kernel_rfl
theorem eqI5:tInt Tryd.prog 5=some .u8:=by kernel_rfl
theorem eqF24:tFs Tryd.prog 24=some [(3,0),(3,1),(5,2),(5,3),(3,4)]:=by kernel_rfl
theorem eqF26:tFs Tryd.prog 26=some [(5,0),(24,1),(24,6),(3,11)]:=by kernel_rfl
theorem eqG26:Tryd.prog.eqGuardType Tryd.prog.depth 26=false:=by kernel_rfl
theorem eqrD (d:Nat) (a b:Dg):EqR Tryd.prog (d+2) 24 (.agg #[.int .i64 a.num,.int .i64 a.yr,.int .u8 a.half,.int .u8 a.sec,.int .i64 a.cyc]) (.agg #[.int .i64 b.num,.int .i64 b.yr,.int .u8 b.half,.int .u8 b.sec,.int .i64 b.cyc]) (decide (a=b)):=by
  have h:=EqR.struct (P:=Tryd.prog) (t:=24) (d:=d+1) (xs:=#[.int .i64 a.num,.int .i64 a.yr,.int .u8 a.half,.int .u8 a.sec,.int .i64 a.cyc]) (ys:=#[.int .i64 b.num,.int .i64 b.yr,.int .u8 b.half,.int .u8 b.sec,.int .i64 b.cyc]) eqF24
    (EqL.cons (PartR.one eqA3 rfl) (PartR.one eqA3 rfl) (EqR.int eqI3) (EqL.cons (PartR.one eqA3 rfl) (PartR.one eqA3 rfl) (EqR.int eqI3) (EqL.cons (PartR.one eqA5 rfl) (PartR.one eqA5 rfl) (EqR.int eqI5) (EqL.cons (PartR.one eqA5 rfl) (PartR.one eqA5 rfl) (EqR.int eqI5) (EqL.cons (PartR.one eqA3 rfl) (PartR.one eqA3 rfl) (EqR.int eqI3) EqL.nil)))))
  have e:(a.num == b.num&&(a.yr == b.yr&&(a.half == b.half&&(a.sec == b.sec&&(a.cyc == b.cyc&&true)))))=decide (a=b):=by
    obtain ⟨a1,a2,a3,a4,a5⟩:=a
    obtain ⟨b1,b2,b3,b4,b5⟩:=b
    rw [Bool.eq_iff_iff]
    simp only [Bool.and_eq_true,beq_iff_eq,decide_eq_true_eq,Dg.mk.injEq,and_true]
  rw [e] at h
  exact h
theorem eqrC (d:Nat) (a b:Ch):EqR Tryd.prog (d+3) 26 (cV a) (cV b) (decide (a=b)):=by
  have h:=EqR.struct (P:=Tryd.prog) (t:=26) (d:=d+2) (xs:=(eC a).toArray) (ys:=(eC b).toArray) eqF26
    (EqL.cons (PartR.one (v:=.int .u8 a.kind) eqA5 rfl) (PartR.one (v:=.int .u8 b.kind) eqA5 rfl) (EqR.int eqI5)
    (EqL.cons (PartR.agg (cs':=#[.int .i64 a.a.num,.int .i64 a.a.yr,.int .u8 a.a.half,.int .u8 a.a.sec,.int .i64 a.a.cyc]) eqA24 eqS24 rfl) (PartR.agg (cs':=#[.int .i64 b.a.num,.int .i64 b.a.yr,.int .u8 b.a.half,.int .u8 b.a.sec,.int .i64 b.a.cyc]) eqA24 eqS24 rfl) (eqrD d a.a b.a)
    (EqL.cons (PartR.agg (cs':=#[.int .i64 a.b.num,.int .i64 a.b.yr,.int .u8 a.b.half,.int .u8 a.b.sec,.int .i64 a.b.cyc]) eqA24 eqS24 rfl) (PartR.agg (cs':=#[.int .i64 b.b.num,.int .i64 b.b.yr,.int .u8 b.b.half,.int .u8 b.b.sec,.int .i64 b.b.cyc]) eqA24 eqS24 rfl) (eqrD d a.b b.b)
    (EqL.cons (PartR.one (v:=.int .i64 a.n) eqA3 rfl) (PartR.one (v:=.int .i64 b.n) eqA3 rfl) (EqR.int eqI3) EqL.nil))))
  have e:(a.kind == b.kind&&(decide (a.a=b.a)&&(decide (a.b=b.b)&&(a.n == b.n&&true))))=decide (a=b):=by
    obtain ⟨a1,a2,a3,a4⟩:=a
    obtain ⟨b1,b2,b3,b4⟩:=b
    rw [Bool.eq_iff_iff]
    simp only [Bool.and_eq_true,beq_iff_eq,decide_eq_true_eq,Ch.mk.injEq,and_true]
  rw [e] at h
  exact h
section
variable {w:World} {n:Nat} {ds:List Deferred} {L:List (Nat × Value)} {ty t2:TypeId} {x y:Operand} (c c':Ch)
theorem eqC (hx:ev L x=some (cV c)) (hy:ev L y=some (cV c')):RunV Tryd.prog n ds L (.binOp .eql 26 x y t2) ty w (.bool (decide (c=c'))) w :=
  RunV.eqAgg (d:=10) rfl eqG26 hx hy (eqrC 9997 c c')
theorem neC (hx:ev L x=some (cV c)) (hy:ev L y=some (cV c')):RunV Tryd.prog n ds L (.binOp .neq 26 x y t2) ty w (.bool (!decide (c=c'))) w :=
  RunV.neAgg (d:=10) rfl eqG26 hx hy (eqrC 9997 c c')
end
end Go.Proofs.YtgakdmmmljdpjaaDoor

set_option maxHeartbeats 1000000
set_option maxRecDepth 8000
namespace Go.Proofs.YtgakdmmmljdpjaaDoor
open Go Go.SL
theorem C_ok_15:callOK Tryd.prog 15=true:=by kernel_rfl
set_option maxHeartbeats 2000000 in
set_option maxRecDepth 4000 in
theorem find_spec (vo:Value) (os:List Ob) (d:Dg) (w0:World) (hl:rdOK (hp w0) 6 vo os.length (encs eO os)) (ho:obsRd w0 os) :
    Ret Tryd.prog 43 #[vo,.agg (aD d)] w0 (G:=Unit) (fun _=>.int .i64 (findR (os.map prO) d)) (fun _ w=>St w0 w noX [] []):=by
  refine ret_of_W (lv:=[vo,.agg (aD d)]) Tryd.func43 rfl rfl rfl (fun a hf=>?_); replace hf:Fr a 34 [] [(0,vo),(1,.agg (aD d))]:=hf; have hS:St w0 w0 noX [rdv 6 vo os.length (encs eO os),allA (os.map rdOb)] []:=((St.refl w0).lendObs ho).lend0 hl; have hlm:=hl.2.1; unfold maxLen at hlm; have hom:=fun (k:Nat) (hk:k<os.length)=>(ho.at hk).2.1; unfold maxLen at hom; clear hl ho; refine W.seq ?_
  refine W.regionL (l:=[0,1]) rfl<|O.box (cs:=(aD d)) hf hS rfl rfl rfl rfl<|?_; intro b_d1 w a hbb_d1 hS hf; refine mv hf rfl ?_; clear hf a; intro a hf; refine nk<|W.seq<|W.seq<|?_
  refine W.regionL (l:=[0]) rfl<|mv hf rfl<|?_; clear hf a; intro a hf; refine nk<|W.block<|?_
  refine W.loop (G:=(Nat)) (fun g a w=>match g with | i=>Fr a 34 [] [(0,vo),(3,.pointer (some ⟨b_d1,0,none⟩)),(5,.int .i64 (i:Int))]∧St w0 w noX [rdv 6 vo os.length (encs eO os),allA (os.map rdOb)] [pt b_d1 (.cells (aD d) 24 (0,0))]∧(i≤os.length)∧(∀ j,j<i→d ∉ (os.getD j default).l)) (fun g=>match g with | i=>os.length-i) 0 ?_ ?_
  · refine ⟨hf.to ⟨rfl,rfl,(by first | rfl | exact congrArg some (congrArg (Value.int _) (by omega))),trivial⟩,hS,?_,?_⟩
    · omega
    · intro j hj; omega
  clear hf hS a; rintro i a w ⟨hf,hS,hi,h1⟩; refine W.seq<|W.seq<|?_
  refine W.regionL (l:=[0,1,2,3]) rfl<|mv hf rfl<|?_; clear hf a; intro a hf; refine mv hf rfl ?_; clear hf a; intro a hf; refine ov hf rfl (RunV.lenV (e:=46) (by simpa using T_elem_39) rfl (hS.rdAt (j:=0) rfl)) ?_; clear hf a; intro a hf; refine ov (v:=.bool (decide ((i:Int)<((os.length:Int):Int)))) hf rfl (RunV.lss rfl rfl) ?_; clear hf a; intro a hf; refine nk ?_; refine W.ifdI hf rfl (fun hc2=>?_) (fun hc2=>?_)
  · refine W.skip ?_
    refine k_seq<|W.seq<|W.block<|W.seq<|?_
    refine W.regionL (l:=[0]) rfl<|mv hf rfl<|?_; clear hf a; intro a hf; refine nk<|W.block<|?_
    refine W.loop (G:=(Nat)) (fun g a w=>match g with | k=>Fr a 34 [] [(0,vo),(3,.pointer (some ⟨b_d1,0,none⟩)),(5,.int .i64 (i:Int)),(6,.int .i64 (k:Int))]∧St w0 w noX [rdv 6 vo os.length (encs eO os),allA (os.map rdOb)] [pt b_d1 (.cells (aD d) 24 (0,0))]∧(k≤(os.getD i default).l.length)∧(∀ j,j<k→(os.getD i default).l.getD j default≠d)) (fun g=>match g with | k=>(os.getD i default).l.length-k) 0 ?_ ?_
    · refine ⟨hf.to ⟨rfl,rfl,rfl,(by first | rfl | exact congrArg some (congrArg (Value.int _) (by omega))),trivial⟩,hS,?_,?_⟩
      · omega
      · intro j hj; omega
    clear hf hS a; rintro k a w ⟨hf,hS,hk,h2⟩; refine W.seq<|W.seq<|?_
    refine W.regionL (l:=[0,1,2,3,4,5,6,7]) rfl ?_; have hom1:=hom i (by omega); refine mv hf rfl ?_; clear hf a; intro a hf; refine mv hf rfl ?_; clear hf a; intro a hf; refine mv hf rfl ?_; clear hf a; intro a hf; refine ov hf rfl (RunV.ixV (j:=i) (m:=i*6) T_elem_39 T_size_46 rfl rfl (hS.rdAt (j:=0) rfl) rfl (by omega) rfl) ?_; clear hf a; intro a hf; refine ov hf rfl (RunV.ixF T_field_46_1 rfl (hS.rdAt (j:=0) rfl) (by omega) rfl) ?_; clear hf a; intro a hf; refine ov hf rfl (RunV.ldG2 (j:=i) (o:=5) (sz:=6) (enc:=eO) (l:=os) T_agg_35 eO_len rfl (hS.rdAt (j:=0) rfl) (by omega) rfl rfl) ?_; clear hf a; intro a hf; refine ov hf rfl (RunV.lenV (e:=24) (by simpa using T_elem_35) rfl ((hS.obAt (i:=1) rfl).at (k:=i) (by omega))) ?_; clear hf a; intro a hf; refine ov (v:=.bool (decide ((k:Int)<(((os.getD i default).l.length:Int):Int)))) hf rfl (RunV.lss rfl rfl) ?_; clear hf a; intro a hf; refine nk ?_; refine W.ifdI hf rfl (fun hc3=>?_) (fun hc3=>?_)
    · refine W.skip ?_
      refine k_seq<|W.seq<|W.block<|W.seq<|?_
      refine W.drawQ (fun w=>St w0 w noX [rdv 6 vo os.length (encs eO os),allA (os.map rdOb)] [pt b_d1 (.cells (aD d) 24 (0,0))]) P_mixed rfl (by kernel_rfl) rfl hS.drew ?_; clear hS; refine OQ.val (v:=vo) hf rfl (fun w hS=>RunV.move rfl) fun a hf=>OQ.val (v:=.int .i64 (i:Int)) hf rfl (fun w hS=>RunV.move rfl) fun a hf=>OQ.val (v:=ix vo (i*6)) hf rfl (fun w hS=>RunV.ixV (j:=i) (m:=i*6) T_elem_39 T_size_46 rfl rfl (hS.rdAt (j:=0) rfl) rfl (by omega) rfl) fun a hf=>OQ.val (v:=ix vo (i*6+5)) hf rfl (fun w hS=>RunV.ixF T_field_46_1 rfl (hS.rdAt (j:=0) rfl) (by omega) rfl) fun a hf=>OQ.val (v:=(os.getD i default).v) hf rfl (fun w hS=>RunV.ldG2 (j:=i) (o:=5) (sz:=6) (enc:=eO) (l:=os) T_agg_35 eO_len rfl (hS.rdAt (j:=0) rfl) (by omega) rfl rfl) fun a hf=>OQ.val (v:=.int .i64 (k:Int)) hf rfl (fun w hS=>RunV.move rfl) fun a hf=>OQ.val (v:=ix ((os.getD i default).v) (k*5)) hf rfl (fun w hS=>RunV.ixV (j:=k) (m:=k*5) T_elem_35 T_size_24 rfl rfl ((hS.obAt (i:=1) rfl).at (k:=i) (by omega)) rfl (by omega) rfl) fun a hf=>OQ.val (v:=.agg (aD ((os.getD i default).l.getD k default))) hf rfl (fun w hS=>RunV.ldG (j:=k) (enc:=eD) (l:=(os.getD i default).l) (us:=[.int .i64 (((os.getD i default).l.getD k default).num),.int .i64 (((os.getD i default).l.getD k default).yr),.int .u8 (((os.getD i default).l.getD k default).half),.int .u8 (((os.getD i default).l.getD k default).sec),.int .i64 (((os.getD i default).l.getD k default).cyc)]) T_agg_24 T_size_24 rfl eD_len rfl ((hS.obAt (i:=1) rfl).at (k:=i) (by omega)) (by omega) rfl) fun a hf=>OQ.val (v:=.agg (aD d)) hf rfl (fun w hS=>RunV.loadN (cs':=(aD d)) T_agg_24 T_size_24 rfl (hS.p 0 rfl) (bl rfl) rfl) fun a hf=>OQ.val (v:=.bool (decide (((os.getD i default).l.getD k default)=d))) hf rfl (fun w hS=>eqD rfl ((os.getD i default).l.getD k default) d eqGuard24 rfl rfl) fun a hf=>?_; refine OQ.nil ?_; intro w hS; refine k_seq ?_; refine W.ifdI hf rfl (fun hd=>?_) (fun hd=>?_)
      · refine W.seq ?_
        refine W.regionL (l:=[0,1]) rfl<|mv hf rfl<|?_; clear hf a; intro a hf; refine mv hf rfl ?_; clear hf a; intro a hf; refine nk<|W.ret<|k_blk_ret<|k_then_ret<|k_then_ret<|k_blk_ret<|k_blk_ret<|k_then_ret<|k_then_ret<|k_blk_ret<|?_; refine k_then_ret<|post1 hf rfl (ResOK.tmp rfl)<|?_; exact ⟨(),congrArg (fun x=>Ending.returned (Value.int .i64 x)) (find_hitO h1 (by omega) (k:=k) (by omega) hd).symm,hS.sub (List.nil_sublist _) |>.noB⟩
      · refine W.skip ?_
        refine k_blk_normal<|k_seq<|?_
        refine W.regionL (l:=[0,1,2]) rfl<|mv hf rfl<|?_; clear hf a; intro a hf; refine ov hf rfl (RunV.addI rfl rfl (by omega)) ?_; clear hf a; intro a hf; refine mv hf rfl ?_; clear hf a; intro a hf; refine O.nil ?_; refine k_then ⟨(k+1),⟨hf.to ⟨rfl,rfl,rfl,(by first | rfl | exact congrArg some (congrArg (Value.int _) (by omega))),trivial⟩,?_,?_,?_⟩,?_⟩
        · exact hS.eqM rfl
        · omega
        · intro j hj; by_cases hjk:j<k
          · exact h2 j hjk
          · have:j=k:=by omega
            subst this; exact hd
        · dsimp only; omega
    · refine W.exit ?_
      refine k_then_exit<|k_then_exit<|k_blk<|k_blk_normal<|k_seq<|?_
      refine W.regionL (l:=[0,1,2]) rfl<|mv hf rfl<|?_; clear hf a; intro a hf; refine ov hf rfl (RunV.addI rfl rfl (by omega)) ?_; clear hf a; intro a hf; refine mv hf rfl ?_; clear hf a; intro a hf; refine O.nil ?_; refine k_then ⟨(i+1),⟨hf.to ⟨rfl,rfl,(by first | rfl | exact congrArg some (congrArg (Value.int _) (by omega))),trivial⟩,?_,?_,?_⟩,?_⟩
      · exact hS.eqM rfl
      · omega
      · intro j hj; by_cases hji:j<i
        · exact h1 j hji
        · have:j=i:=by omega
          subst this; exact fd_row (n:=k) (by omega) h2
      · dsimp only; omega
  · refine W.exit ?_
    refine k_then_exit<|k_then_exit<|k_blk<|k_seq<|?_; replace hf:Fr a 34 [] []:=hf.to trivial; refine W.seq ?_
    refine W.regionL (l:=[0]) rfl<|mv hf rfl<|?_; clear hf a; intro a hf; refine nk<|W.ret<|post1 hf rfl (ResOK.tmp rfl)<|?_; exact ⟨(),congrArg (fun x=>Ending.returned (Value.int .i64 x)) (find_noneO (by omega) h1).symm,hS.sub (List.nil_sublist _) |>.noB⟩
set_option maxHeartbeats 400000 in
set_option maxRecDepth 4000 in
theorem without_spec (vo:Value) (os:List Ob) (i:Nat) (w0:World) (hl:rdOK (hp w0) 6 vo os.length (encs eO os)) (hfit:vfit vo) (hi:i<os.length) (hz:os.length≤1000) :
    Ret Tryd.prog 60 #[vo,.int .i64 (i:Int)] w0 (G:=Value) (fun g=>g) (fun g w=>St w0 w noX [] [sl 46 6 g (delR os i).length (encs eO (delR os i))]):=by
  refine ret_of_W (lv:=[vo,.int .i64 (i:Int)]) Tryd.func60 rfl rfl rfl (fun a hf=>?_); replace hf:Fr a 15 [] [(0,vo),(1,.int .i64 (i:Int))]:=hf; have hS:St w0 w0 noX [rdv 6 vo os.length (encs eO os)] []:=(St.refl w0).lend0 hl; have hlm:=hl.2.1; unfold maxLen at hlm; have hs1:sbd 0 (i:Int) (os.length:Int):=⟨by omega,by omega,by omega⟩; have hs2:sbd ((i:Int)+1) (os.length:Int) (os.length:Int):=⟨by omega,by omega,by omega⟩; have hl1:=lsub_len hs1; have hl2:=lsub_len hs2; refine W.seq ?_
  refine W.regionL (l:=[0]) rfl<|mv hf rfl<|?_; clear hf a; intro a hf; refine nk<|W.seq<|?_
  replace hf:Fr a 15 [] [(0,vo),(1,.int .i64 (i:Int))]:=hf.q rfl; refine W.drawC (γ:=(Nat) × (Value) × (Value)) (L0:=[(0,vo),(1,.int .i64 (i:Int))]) (L1:=[]) (0,default,default) [0,4,9] [] [1,2,3,5,6,7,8,10] (fun i_=>match i_ with | 0=>[] | 1=>[] | 2=>[] | 3=>[1,2] | 4=>[0,3] | 5=>[] | 6=>[] | 7=>[6] | 8=>[5,7] | 9=>[4,8] | 10=>[0,1,2,3,4,5,6,7,8,9] | _=>[]) (fun i_=>match i_ with | 0=>[] | 1=>[] | 2=>[] | 3=>[] | 4=>[0] | 5=>[] | 6=>[] | 7=>[] | 8=>[] | 9=>[0,4] | 10=>[0,4,9] | _=>[]) (fun i_=>match i_ with | 0=>[4,9] | 1=>[4,9] | 2=>[4,9] | 3=>[4,9] | 4=>[9] | 5=>[9] | 6=>[9] | 7=>[9] | 8=>[9] | 9=>[] | 10=>[] | _=>[]) (fun _=>[]) (fun i_=>match i_ with | 0=>[4,9,10] | 1=>[] | 2=>[] | 3=>[] | 4=>[9,10] | 5=>[] | 6=>[] | 7=>[] | 8=>[] | 9=>[10] | 10=>[] | _=>[]) (fun _=>[]) (fun i_=>match i_ with | 0=>0 | 1=>0 | 2=>0 | 3=>0 | 4=>1 | 5=>0 | 6=>0 | 7=>0 | 8=>0 | 9=>2 | 10=>3 | _=>0) (fun i_=>match i_ with | 0=>1 | 1=>1 | 2=>1 | 3=>1 | 4=>2 | 5=>2 | 6=>2 | 7=>2 | 8=>2 | 9=>3 | 10=>3 | _=>0) (fun (g:(Nat) × (Value) × (Value)) j_=>match g,j_ with | ⟨b_s1,v2,v3⟩,0=>.slice (some ⟨b_s1,0,none⟩) 0 0 | ⟨b_s1,v2,v3⟩,1=>vo | ⟨b_s1,v2,v3⟩,2=>.int .i64 (i:Int) | ⟨b_s1,v2,v3⟩,3=>(vsub 6 vo 0 (i:Int)) | ⟨b_s1,v2,v3⟩,4=>v2 | ⟨b_s1,v2,v3⟩,5=>vo | ⟨b_s1,v2,v3⟩,6=>.int .i64 (i:Int) | ⟨b_s1,v2,v3⟩,7=>.int .i64 ((i:Int)+1) | ⟨b_s1,v2,v3⟩,8=>(vsub 6 vo ((i:Int)+1) (os.length:Int)) | ⟨b_s1,v2,v3⟩,9=>v3 | ⟨b_s1,v2,v3⟩,10=>v3 | _,_=>undef) (fun k_ (_:Nat→Bool) (g:(Nat) × (Value) × (Value)) w=>match k_,g with | 0,⟨b_s1,v2,v3⟩=>St w0 w noX [rdv 6 vo os.length (encs eO os)] [] | 1,⟨b_s1,v2,v3⟩=>St w0 w noX [rdv 6 vo os.length (encs eO os)] [sl 46 6 (.slice (some ⟨b_s1,0,none⟩) 0 0) 0 ([])] | 2,⟨b_s1,v2,v3⟩=>St w0 w noX [rdv 6 vo os.length (encs eO os)] [sl 46 6 v2 ((lsub os 0 (i:Int)).length) (encs eO (lsub os 0 (i:Int)))] | _,⟨b_s1,v2,v3⟩=>St w0 w noX [rdv 6 vo os.length (encs eO os)] [sl 46 6 v3 ((delR os i).length) (encs eO (delR os i))]) P_mixed (by kernel_rfl) (by kernel_rfl) (by kernel_rfl) hf (hf.to trivial) hS.drew ?_ ?_ trivial ?_
  · clear hf hS
    refine ⟨?_,?_,?_,?_,?_,?_,?_,?_,trivial⟩
    · intro k_ s_ g w hlo hhi _ hD a hf
      obtain ⟨b_s1,v2,v3⟩:=g
      rcases k_ with _ | _ | _ | k_
      · have hS:St w0 w noX [rdv 6 vo os.length (encs eO os)] []:=hD; clear hD
        replace hf:Fr a 15 [] [(0,vo),(1,.int .i64 (i:Int))]:=hf.q rfl; refine mv hf rfl ?_; clear hf a; intro a hf; exact O.nil ⟨rfl,hf.to trivial,(gt (d:=6) hf rfl rfl),hS⟩
      · have hS:St w0 w noX [rdv 6 vo os.length (encs eO os)] [sl 46 6 (.slice (some ⟨b_s1,0,none⟩) 0 0) 0 ([])]:=hD; clear hD
        replace hf:Fr a 15 [] [(0,vo),(1,.int .i64 (i:Int))]:=hf.q rfl; refine mv hf rfl ?_; clear hf a; intro a hf; exact O.nil ⟨rfl,hf.to trivial,(gt (d:=6) hf rfl rfl),hS⟩
      · exact absurd hhi (by decide)
      · have hhi:k_+3≤1:=hhi; omega
    · intro k_ s_ g w hlo hhi _ hD a hf
      obtain ⟨b_s1,v2,v3⟩:=g
      rcases k_ with _ | _ | _ | k_
      · have hS:St w0 w noX [rdv 6 vo os.length (encs eO os)] []:=hD; clear hD
        replace hf:Fr a 15 [] [(0,vo),(1,.int .i64 (i:Int))]:=hf.q rfl; refine mv hf rfl ?_; clear hf a; intro a hf; exact O.nil ⟨rfl,hf.to trivial,(gt (d:=7) hf rfl rfl),hS⟩
      · have hS:St w0 w noX [rdv 6 vo os.length (encs eO os)] [sl 46 6 (.slice (some ⟨b_s1,0,none⟩) 0 0) 0 ([])]:=hD; clear hD
        replace hf:Fr a 15 [] [(0,vo),(1,.int .i64 (i:Int))]:=hf.q rfl; refine mv hf rfl ?_; clear hf a; intro a hf; exact O.nil ⟨rfl,hf.to trivial,(gt (d:=7) hf rfl rfl),hS⟩
      · exact absurd hhi (by decide)
      · have hhi:k_+3≤1:=hhi; omega
    · intro k_ s_ g w hlo hhi _ hD a hf
      obtain ⟨b_s1,v2,v3⟩:=g
      rcases k_ with _ | _ | _ | k_
      · have hS:St w0 w noX [rdv 6 vo os.length (encs eO os)] []:=hD; clear hD
        replace hf:Fr a 15 [] [(6,vo),(7,.int .i64 (i:Int)),(0,vo),(1,.int .i64 (i:Int))]:=hf.q rfl; refine ov hf rfl (RunV.sliceH T_elem_39 T_size_46 rfl rfl (enc:=eO) (l:=os) ⟨hS.rdAt (j:=0) rfl,hfit⟩ hs1) ?_; clear hf a; intro a hf; exact O.nil ⟨rfl,hf.to trivial,(gt (d:=8) hf rfl rfl),hS⟩
      · have hS:St w0 w noX [rdv 6 vo os.length (encs eO os)] [sl 46 6 (.slice (some ⟨b_s1,0,none⟩) 0 0) 0 ([])]:=hD; clear hD
        replace hf:Fr a 15 [] [(6,vo),(7,.int .i64 (i:Int)),(0,vo),(1,.int .i64 (i:Int))]:=hf.q rfl; refine ov hf rfl (RunV.sliceH T_elem_39 T_size_46 rfl rfl (enc:=eO) (l:=os) ⟨hS.rdAt (j:=0) rfl,hfit⟩ hs1) ?_; clear hf a; intro a hf; exact O.nil ⟨rfl,hf.to trivial,(gt (d:=8) hf rfl rfl),hS⟩
      · exact absurd hhi (by decide)
      · have hhi:k_+3≤1:=hhi; omega
    · intro k_ s_ g w hlo hhi _ hD a hf
      obtain ⟨b_s1,v2,v3⟩:=g
      rcases k_ with _ | _ | _ | k_
      · have hS:St w0 w noX [rdv 6 vo os.length (encs eO os)] []:=hD; clear hD
        replace hf:Fr a 15 [] [(0,vo),(1,.int .i64 (i:Int))]:=hf.q rfl; refine mv hf rfl ?_; clear hf a; intro a hf; exact O.nil ⟨rfl,hf.to trivial,(gt (d:=10) hf rfl rfl),hS⟩
      · have hS:St w0 w noX [rdv 6 vo os.length (encs eO os)] [sl 46 6 (.slice (some ⟨b_s1,0,none⟩) 0 0) 0 ([])]:=hD; clear hD
        replace hf:Fr a 15 [] [(0,vo),(1,.int .i64 (i:Int))]:=hf.q rfl; refine mv hf rfl ?_; clear hf a; intro a hf; exact O.nil ⟨rfl,hf.to trivial,(gt (d:=10) hf rfl rfl),hS⟩
      · have hS:St w0 w noX [rdv 6 vo os.length (encs eO os)] [sl 46 6 v2 ((lsub os 0 (i:Int)).length) (encs eO (lsub os 0 (i:Int)))]:=hD; clear hD
        replace hf:Fr a 15 [] [(0,vo),(1,.int .i64 (i:Int))]:=hf.q rfl; refine mv hf rfl ?_; clear hf a; intro a hf; exact O.nil ⟨rfl,hf.to trivial,(gt (d:=10) hf rfl rfl),hS⟩
      · have hhi:k_+3≤2:=hhi; omega
    · intro k_ s_ g w hlo hhi _ hD a hf
      obtain ⟨b_s1,v2,v3⟩:=g
      rcases k_ with _ | _ | _ | k_
      · have hS:St w0 w noX [rdv 6 vo os.length (encs eO os)] []:=hD; clear hD
        replace hf:Fr a 15 [] [(0,vo),(1,.int .i64 (i:Int))]:=hf.q rfl; refine mv hf rfl ?_; clear hf a; intro a hf; exact O.nil ⟨rfl,hf.to trivial,(gt (d:=11) hf rfl rfl),hS⟩
      · have hS:St w0 w noX [rdv 6 vo os.length (encs eO os)] [sl 46 6 (.slice (some ⟨b_s1,0,none⟩) 0 0) 0 ([])]:=hD; clear hD
        replace hf:Fr a 15 [] [(0,vo),(1,.int .i64 (i:Int))]:=hf.q rfl; refine mv hf rfl ?_; clear hf a; intro a hf; exact O.nil ⟨rfl,hf.to trivial,(gt (d:=11) hf rfl rfl),hS⟩
      · have hS:St w0 w noX [rdv 6 vo os.length (encs eO os)] [sl 46 6 v2 ((lsub os 0 (i:Int)).length) (encs eO (lsub os 0 (i:Int)))]:=hD; clear hD
        replace hf:Fr a 15 [] [(0,vo),(1,.int .i64 (i:Int))]:=hf.q rfl; refine mv hf rfl ?_; clear hf a; intro a hf; exact O.nil ⟨rfl,hf.to trivial,(gt (d:=11) hf rfl rfl),hS⟩
      · have hhi:k_+3≤2:=hhi; omega
    · intro k_ s_ g w hlo hhi _ hD a hf
      obtain ⟨b_s1,v2,v3⟩:=g
      rcases k_ with _ | _ | _ | k_
      · have hS:St w0 w noX [rdv 6 vo os.length (encs eO os)] []:=hD; clear hD
        replace hf:Fr a 15 [] [(11,.int .i64 (i:Int)),(0,vo),(1,.int .i64 (i:Int))]:=hf.q rfl; refine ov hf rfl (RunV.addI rfl rfl (by omega)) ?_; clear hf a; intro a hf; exact O.nil ⟨rfl,hf.to trivial,(gt (d:=12) hf rfl rfl),hS⟩
      · have hS:St w0 w noX [rdv 6 vo os.length (encs eO os)] [sl 46 6 (.slice (some ⟨b_s1,0,none⟩) 0 0) 0 ([])]:=hD; clear hD
        replace hf:Fr a 15 [] [(11,.int .i64 (i:Int)),(0,vo),(1,.int .i64 (i:Int))]:=hf.q rfl; refine ov hf rfl (RunV.addI rfl rfl (by omega)) ?_; clear hf a; intro a hf; exact O.nil ⟨rfl,hf.to trivial,(gt (d:=12) hf rfl rfl),hS⟩
      · have hS:St w0 w noX [rdv 6 vo os.length (encs eO os)] [sl 46 6 v2 ((lsub os 0 (i:Int)).length) (encs eO (lsub os 0 (i:Int)))]:=hD; clear hD
        replace hf:Fr a 15 [] [(11,.int .i64 (i:Int)),(0,vo),(1,.int .i64 (i:Int))]:=hf.q rfl; refine ov hf rfl (RunV.addI rfl rfl (by omega)) ?_; clear hf a; intro a hf; exact O.nil ⟨rfl,hf.to trivial,(gt (d:=12) hf rfl rfl),hS⟩
      · have hhi:k_+3≤2:=hhi; omega
    · intro k_ s_ g w hlo hhi _ hD a hf
      obtain ⟨b_s1,v2,v3⟩:=g
      rcases k_ with _ | _ | _ | k_
      · have hS:St w0 w noX [rdv 6 vo os.length (encs eO os)] []:=hD; clear hD
        replace hf:Fr a 15 [] [(10,vo),(12,.int .i64 ((i:Int)+1)),(0,vo),(1,.int .i64 (i:Int))]:=hf.q rfl; refine ov hf rfl (RunV.sliceL T_elem_39 T_size_46 rfl rfl (enc:=eO) (l:=os) ⟨hS.rdAt (j:=0) rfl,hfit⟩ hs2) ?_; clear hf a; intro a hf; exact O.nil ⟨rfl,hf.to trivial,(gt (d:=13) hf rfl rfl),hS⟩
      · have hS:St w0 w noX [rdv 6 vo os.length (encs eO os)] [sl 46 6 (.slice (some ⟨b_s1,0,none⟩) 0 0) 0 ([])]:=hD; clear hD
        replace hf:Fr a 15 [] [(10,vo),(12,.int .i64 ((i:Int)+1)),(0,vo),(1,.int .i64 (i:Int))]:=hf.q rfl; refine ov hf rfl (RunV.sliceL T_elem_39 T_size_46 rfl rfl (enc:=eO) (l:=os) ⟨hS.rdAt (j:=0) rfl,hfit⟩ hs2) ?_; clear hf a; intro a hf; exact O.nil ⟨rfl,hf.to trivial,(gt (d:=13) hf rfl rfl),hS⟩
      · have hS:St w0 w noX [rdv 6 vo os.length (encs eO os)] [sl 46 6 v2 ((lsub os 0 (i:Int)).length) (encs eO (lsub os 0 (i:Int)))]:=hD; clear hD
        replace hf:Fr a 15 [] [(10,vo),(12,.int .i64 ((i:Int)+1)),(0,vo),(1,.int .i64 (i:Int))]:=hf.q rfl; refine ov hf rfl (RunV.sliceL T_elem_39 T_size_46 rfl rfl (enc:=eO) (l:=os) ⟨hS.rdAt (j:=0) rfl,hfit⟩ hs2) ?_; clear hf a; intro a hf; exact O.nil ⟨rfl,hf.to trivial,(gt (d:=13) hf rfl rfl),hS⟩
      · have hhi:k_+3≤2:=hhi; omega
    · intro k_ s_ g w hlo hhi _ hD a hf
      obtain ⟨b_s1,v2,v3⟩:=g; obtain rfl:k_=3:=Nat.le_antisymm hhi hlo; have hS:=hD; clear hD; replace hf:Fr a 15 [] [(5,.slice (some ⟨b_s1,0,none⟩) 0 0),(6,vo),(7,.int .i64 (i:Int)),(8,(vsub 6 vo 0 (i:Int))),(9,v2),(10,vo),(11,.int .i64 (i:Int)),(12,.int .i64 ((i:Int)+1)),(13,(vsub 6 vo ((i:Int)+1) (os.length:Int))),(14,v3),(0,vo),(1,.int .i64 (i:Int))]:=hf.q rfl; refine mv hf rfl ?_; clear hf a; intro a hf; exact O.nil ⟨rfl,hf.to trivial,(gt (d:=4) hf rfl rfl),hS⟩
  · clear hf hS
    refine ⟨?_,?_,?_,trivial⟩
    · intro s_ g w _ hD a hf
      obtain ⟨b_s1,v2,v3⟩:=g; have hS:=hD; clear hD; replace hf:Fr a 15 [] [(0,vo),(1,.int .i64 (i:Int))]:=hf.q rfl; refine O.buildSlice0 hf hS rfl rfl T_elem_39 T_size_46 rfl ?_; intro b_s4 w a hbb_s4 hS hf; exact O.nil ⟨rfl,(b_s4,v2,v3),hf.to trivial,(gt (d:=5) hf rfl rfl),(fun j_ hj_ ha_=>match j_,hj_,ha_ with | 0,hj_,ha_=>absurd rfl hj_ | 1,hj_,ha_=>rfl | 2,hj_,ha_=>rfl | 3,hj_,ha_=>rfl | 4,hj_,ha_=>absurd ha_ (by decide) | 5,hj_,ha_=>rfl | 6,hj_,ha_=>rfl | 7,hj_,ha_=>rfl | 8,hj_,ha_=>rfl | 9,hj_,ha_=>absurd ha_ (by decide) | 10,hj_,ha_=>absurd ha_ (by decide) | _+11,_,_=>rfl),hS⟩
    · intro s_ g w _ hD a hf
      obtain ⟨b_s1,v2,v3⟩:=g; have hS:=hD; clear hD; replace hf:Fr a 15 [] [(5,.slice (some ⟨b_s1,0,none⟩) 0 0),(8,(vsub 6 vo 0 (i:Int))),(0,vo),(1,.int .i64 (i:Int))]:=hf.q rfl; replace hS:St w0 w noX [rdv 6 vo os.length (encs eO os)] [slE 46 6 eO (.slice (some ⟨b_s1,0,none⟩) 0 0) ([]:List Ob)]:=hS; refine O.appendEV (j:=0) (enc:=eO) (l:=([]:List Ob)) (m:=(lsub os 0 (i:Int))) (l':=(lsub os 0 (i:Int))) hf hS rfl rfl T_elem_39 T_size_46 T_bytes_46 T_zero_46 rfl rfl rfl rfl rfl (rdEOK.sub (enc:=eO) (l:=os) ⟨hS.rdAt (j:=0) rfl,hfit⟩ eO_len hs1) (fun _=>rfl) (by decide) (by omega) rfl rfl ?_; intro v5 w a hS hf; replace hS:St w0 w noX [rdv 6 vo os.length (encs eO os)] [sl 46 6 v5 ((lsub os 0 (i:Int)).length) (encs eO (lsub os 0 (i:Int)))]:=hS; exact O.nil ⟨rfl,(b_s1,v5,v3),hf.to trivial,(gt (d:=9) hf rfl rfl),(fun j_ hj_ ha_=>match j_,hj_,ha_ with | 0,hj_,ha_=>rfl | 1,hj_,ha_=>rfl | 2,hj_,ha_=>rfl | 3,hj_,ha_=>rfl | 4,hj_,ha_=>absurd rfl hj_ | 5,hj_,ha_=>rfl | 6,hj_,ha_=>rfl | 7,hj_,ha_=>rfl | 8,hj_,ha_=>rfl | 9,hj_,ha_=>absurd ha_ (by decide) | 10,hj_,ha_=>absurd ha_ (by decide) | _+11,_,_=>rfl),hS⟩
    · intro s_ g w _ hD a hf
      obtain ⟨b_s1,v2,v3⟩:=g; have hS:=hD; clear hD; replace hf:Fr a 15 [] [(9,v2),(13,(vsub 6 vo ((i:Int)+1) (os.length:Int))),(0,vo),(1,.int .i64 (i:Int))]:=hf.q rfl; refine O.appendEV (j:=0) (enc:=eO) (l:=(lsub os 0 (i:Int))) (m:=(lsub os ((i:Int)+1) (os.length:Int))) (l':=(delR os i)) hf hS rfl rfl T_elem_39 T_size_46 T_bytes_46 T_zero_46 rfl rfl rfl rfl rfl (rdEOK.sub (enc:=eO) (l:=os) ⟨hS.rdAt (j:=0) rfl,hfit⟩ eO_len hs2) (fun _=>rfl) (by omega) (by omega) rfl rfl ?_; intro v6 w a hS hf; replace hS:St w0 w noX [rdv 6 vo os.length (encs eO os)] [sl 46 6 v6 ((delR os i).length) (encs eO (delR os i))]:=hS; exact O.nil ⟨rfl,(b_s1,v2,v6),hf.to trivial,(gt (d:=14) hf rfl rfl),(fun j_ hj_ ha_=>match j_,hj_,ha_ with | 0,hj_,ha_=>rfl | 1,hj_,ha_=>rfl | 2,hj_,ha_=>rfl | 3,hj_,ha_=>rfl | 4,hj_,ha_=>rfl | 5,hj_,ha_=>rfl | 6,hj_,ha_=>rfl | 7,hj_,ha_=>rfl | 8,hj_,ha_=>rfl | 9,hj_,ha_=>absurd rfl hj_ | 10,hj_,ha_=>absurd ha_ (by decide) | _+11,_,_=>rfl),hS⟩
  clear hf hS; intro s_ g a w _ hf hD; obtain ⟨b_s1,v2,v3⟩:=g; have hS:=hD; clear hD; replace hf:Fr a 15 [] [(5,.slice (some ⟨b_s1,0,none⟩) 0 0),(6,vo),(7,.int .i64 (i:Int)),(8,(vsub 6 vo 0 (i:Int))),(9,v2),(10,vo),(11,.int .i64 (i:Int)),(12,.int .i64 ((i:Int)+1)),(13,(vsub 6 vo ((i:Int)+1) (os.length:Int))),(14,v3),(4,v3),(0,vo),(1,.int .i64 (i:Int))]:=hf.q rfl; refine k_seq<|W.ret<|post1 hf rfl (ResOK.tmp rfl)<|?_; exact ⟨v3,rfl,(hS.sub (N:=[sl 46 6 v3 ((delR os i).length) (encs eO (delR os i))]) (.cons_cons _ .slnil)).noB⟩
set_option maxHeartbeats 400000 in
set_option maxRecDepth 4000 in
theorem sameChanges_spec (va:Value) (l:List Ch) (vb:Value) (m:List Ch) (w0:World) (ha:rdOK (hp w0) 12 va l.length (encs eC l)) (hb:rdOK (hp w0) 12 vb m.length (encs eC m)) :
    Ret Tryd.prog 13 #[va,vb] w0 (G:=Unit) (fun _=>.bool (decide (l=m))) (fun _ w=>St w0 w noX [] []):=by
  refine ret_of_W (lv:=[va,vb]) Tryd.func13 rfl rfl rfl (fun a hf=>?_); replace hf:Fr a 26 [] [(0,va),(1,vb)]:=hf; have hS:St w0 w0 noX [rdv 12 va l.length (encs eC l),rdv 12 vb m.length (encs eC m)] []:=((St.refl w0).lend0 hb).lend0 ha; have hlm1:=ha.2.1; have hlm2:=hb.2.1; unfold maxLen at hlm1 hlm2; clear ha hb; refine W.seq ?_
  refine W.regionL (l:=[0]) rfl<|mv hf rfl<|?_; clear hf a; intro a hf; refine nk<|W.seq<|W.seq<|?_
  refine W.regionL (l:=[0,1,2,3,4]) rfl<|mv hf rfl<|?_; clear hf a; intro a hf; refine ov hf rfl (RunV.lenV (e:=26) (by simpa using T_elem_22) rfl (hS.rdAt (j:=0) rfl)) ?_; clear hf a; intro a hf; refine mv hf rfl ?_; clear hf a; intro a hf; refine ov hf rfl (RunV.lenV (e:=26) (by simpa using T_elem_22) rfl (hS.rdAt (j:=1) rfl)) ?_; clear hf a; intro a hf; refine ov (v:=.bool (decide ((l.length:Int)≠((m.length:Int):Int)))) hf rfl (RunV.neq rfl rfl) ?_; clear hf a; intro a hf; refine nk ?_; refine W.ifdI hf rfl (fun hne=>?_) (fun hne=>?_)
  · refine W.seq ?_
    refine W.regionL (l:=[0]) rfl<|mv hf rfl<|?_; clear hf a; intro a hf; refine nk<|W.ret<|k_then_ret<|post1 hf rfl (ResOK.tmp rfl)<|?_; exact ⟨(),congrArg (fun b=>Ending.returned (Value.bool b)) (by first | exact (sc_1 hne).symm | exact (sc_2 (by omega) hdb).symm),hS.sub (List.nil_sublist _) |>.noB⟩
  · refine W.skip ?_
    refine k_seq<|W.seq<|W.seq<|?_
    refine W.regionL (l:=[0]) rfl<|mv hf rfl<|?_; clear hf a; intro a hf; refine nk<|W.block<|?_
    refine W.loop (G:=(Nat)) (fun g a w=>match g with | k=>Fr a 26 [] [(0,va),(1,vb),(5,.int .i64 (k:Int))]∧St w0 w noX [rdv 12 va l.length (encs eC l),rdv 12 vb m.length (encs eC m)] []∧(k≤l.length)∧(∀ j,j<k→l.getD j default=m.getD j default)) (fun g=>match g with | k=>l.length-k) 0 ?_ ?_
    · refine ⟨hf.to ⟨rfl,rfl,(by first | rfl | exact congrArg some (congrArg (Value.int _) (by omega))),trivial⟩,hS,?_,?_⟩
      · omega
      · intro j hj; omega
    clear hf hS a; rintro k a w ⟨hf,hS,hk,h2⟩; refine W.seq<|W.seq<|?_
    refine W.regionL (l:=[0,1,2,3]) rfl<|mv hf rfl<|?_; clear hf a; intro a hf; refine mv hf rfl ?_; clear hf a; intro a hf; refine ov hf rfl (RunV.lenV (e:=26) (by simpa using T_elem_22) rfl (hS.rdAt (j:=0) rfl)) ?_; clear hf a; intro a hf; refine ov (v:=.bool (decide ((k:Int)<((l.length:Int):Int)))) hf rfl (RunV.lss rfl rfl) ?_; clear hf a; intro a hf; refine nk ?_; refine W.ifdI hf rfl (fun hlt=>?_) (fun hlt=>?_)
    · refine W.skip ?_
      refine k_seq<|W.seq<|W.block<|W.seq<|?_
      refine W.drawQ (fun w=>St w0 w noX [rdv 12 va l.length (encs eC l),rdv 12 vb m.length (encs eC m)] []) P_mixed rfl (by kernel_rfl) rfl hS.drew ?_; clear hS; refine OQ.val (v:=va) hf rfl (fun w hS=>RunV.move rfl) fun a hf=>OQ.val (v:=.int .i64 (k:Int)) hf rfl (fun w hS=>RunV.move rfl) fun a hf=>OQ.val (v:=ix va (k*12)) hf rfl (fun w hS=>RunV.ixV (j:=k) (m:=k*12) T_elem_22 T_size_26 rfl rfl (hS.rdAt (j:=0) rfl) rfl (by omega) rfl) fun a hf=>OQ.val (v:=.agg #[.int .u8 ((l.getD k default).kind),.int .i64 ((l.getD k default).a.num),.int .i64 ((l.getD k default).a.yr),.int .u8 ((l.getD k default).a.half),.int .u8 ((l.getD k default).a.sec),.int .i64 ((l.getD k default).a.cyc),.int .i64 ((l.getD k default).b.num),.int .i64 ((l.getD k default).b.yr),.int .u8 ((l.getD k default).b.half),.int .u8 ((l.getD k default).b.sec),.int .i64 ((l.getD k default).b.cyc),.int .i64 ((l.getD k default).n)]) hf rfl (fun w hS=>RunV.ldG (j:=k) (enc:=eC) (l:=l) (us:=[.int .u8 ((l.getD k default).kind),.int .i64 ((l.getD k default).a.num),.int .i64 ((l.getD k default).a.yr),.int .u8 ((l.getD k default).a.half),.int .u8 ((l.getD k default).a.sec),.int .i64 ((l.getD k default).a.cyc),.int .i64 ((l.getD k default).b.num),.int .i64 ((l.getD k default).b.yr),.int .u8 ((l.getD k default).b.half),.int .u8 ((l.getD k default).b.sec),.int .i64 ((l.getD k default).b.cyc),.int .i64 ((l.getD k default).n)]) T_agg_26 T_size_26 rfl eC_len rfl (hS.rdAt (j:=0) rfl) (by omega) rfl) fun a hf=>OQ.val (v:=vb) hf rfl (fun w hS=>RunV.move rfl) fun a hf=>OQ.val (v:=.int .i64 (k:Int)) hf rfl (fun w hS=>RunV.move rfl) fun a hf=>OQ.val (v:=ix vb (k*12)) hf rfl (fun w hS=>RunV.ixV (j:=k) (m:=k*12) T_elem_22 T_size_26 rfl rfl (hS.rdAt (j:=1) rfl) rfl (by omega) rfl) fun a hf=>OQ.val (v:=.agg #[.int .u8 ((m.getD k default).kind),.int .i64 ((m.getD k default).a.num),.int .i64 ((m.getD k default).a.yr),.int .u8 ((m.getD k default).a.half),.int .u8 ((m.getD k default).a.sec),.int .i64 ((m.getD k default).a.cyc),.int .i64 ((m.getD k default).b.num),.int .i64 ((m.getD k default).b.yr),.int .u8 ((m.getD k default).b.half),.int .u8 ((m.getD k default).b.sec),.int .i64 ((m.getD k default).b.cyc),.int .i64 ((m.getD k default).n)]) hf rfl (fun w hS=>RunV.ldG (j:=k) (enc:=eC) (l:=m) (us:=[.int .u8 ((m.getD k default).kind),.int .i64 ((m.getD k default).a.num),.int .i64 ((m.getD k default).a.yr),.int .u8 ((m.getD k default).a.half),.int .u8 ((m.getD k default).a.sec),.int .i64 ((m.getD k default).a.cyc),.int .i64 ((m.getD k default).b.num),.int .i64 ((m.getD k default).b.yr),.int .u8 ((m.getD k default).b.half),.int .u8 ((m.getD k default).b.sec),.int .i64 ((m.getD k default).b.cyc),.int .i64 ((m.getD k default).n)]) T_agg_26 T_size_26 rfl eC_len rfl (hS.rdAt (j:=1) rfl) (by omega) rfl) fun a hf=>OQ.val (v:=.bool (!decide ((l.getD k default)=(m.getD k default)))) hf rfl (fun w hS=>neC (l.getD k default) (m.getD k default) rfl rfl) fun a hf=>?_; refine OQ.nil ?_; intro w hS; refine k_seq ?_; refine W.if_ hf rfl (fun hd=>?_) (fun hd=>?_)
      · have hdb:=hd
        try simp only [Bool.and_eq_true,Bool.or_eq_true,Bool.and_eq_false_iff,Bool.or_eq_false_iff,decide_eq_true_eq,decide_eq_false_iff_not,Bool.not_eq_true',Bool.not_eq_false',Bool.not_eq_true,Bool.not_eq_false,ne_eq] at hd
        refine W.seq ?_
        refine W.regionL (l:=[0]) rfl<|mv hf rfl<|?_; clear hf a; intro a hf; refine nk<|W.ret<|k_blk_ret<|k_then_ret<|k_then_ret<|k_blk_ret<|k_then_ret<|post1 hf rfl (ResOK.tmp rfl)<|?_; exact ⟨(),congrArg (fun b=>Ending.returned (Value.bool b)) (by first | exact (sc_1 hne).symm | exact (sc_2 (by omega) hdb).symm),hS.sub (List.nil_sublist _) |>.noB⟩
      · have hdb:=hd
        try simp only [Bool.and_eq_true,Bool.or_eq_true,Bool.and_eq_false_iff,Bool.or_eq_false_iff,decide_eq_true_eq,decide_eq_false_iff_not,Bool.not_eq_true',Bool.not_eq_false',Bool.not_eq_true,Bool.not_eq_false,ne_eq] at hd
        refine W.skip<|k_blk_normal<|k_seq<|?_
        refine W.regionL (l:=[0,1,2]) rfl<|mv hf rfl<|?_; clear hf a; intro a hf; refine ov hf rfl (RunV.addI rfl rfl (by omega)) ?_; clear hf a; intro a hf; refine mv hf rfl ?_; clear hf a; intro a hf; refine O.nil ?_; refine k_then ⟨(k+1),⟨hf.to ⟨rfl,rfl,(by first | rfl | exact congrArg some (congrArg (Value.int _) (by omega))),trivial⟩,?_,?_,?_⟩,?_⟩
        · exact hS.eqM rfl
        · omega
        · intro j hj; by_cases hjk:j<k
          · exact h2 j hjk
          · have:j=k:=by omega
            subst this; simpa using hdb
        · dsimp only; omega
    · refine W.exit ?_
      refine k_then_exit<|k_then_exit<|k_blk<|k_seq<|?_; replace hf:Fr a 26 [] []:=hf.to trivial; refine W.seq ?_
      refine W.regionL (l:=[0]) rfl<|mv hf rfl<|?_; clear hf a; intro a hf; refine nk<|W.ret<|post1 hf rfl (ResOK.tmp rfl)<|?_; exact ⟨(),congrArg (fun b=>Ending.returned (Value.bool b)) (sc_3 (by omega) (fun j hj=>h2 j (by omega))).symm,hS.sub (List.nil_sublist _) |>.noB⟩
set_option maxHeartbeats 400000 in
set_option maxRecDepth 4000 in
theorem check26_spec (c:Ch) (w0:World) (hr:rC c) :
    Ret Tryd.prog 26 #[.agg (aC c)] w0 (G:=Unit) (fun _=>.int .i64 (if okC c then 0 else 8)) (fun _ w=>St w0 w noX [] []):=by
  refine ret_of_W (lv:=[.agg (aC c)]) Tryd.func26 rfl rfl rfl (fun a hf=>?_); replace hf:Fr a 81 [] [(0,.agg (aC c))]:=hf; have hS:St w0 w0 noX [] []:=St.refl w0; refine W.seq ?_
  refine W.regionL (l:=[0,1]) rfl<|O.box (cs:=(aC c)) hf hS rfl rfl rfl rfl<|?_; intro b_c1 w a hbb_c1 hS hf; refine mv hf rfl ?_; clear hf a; intro a hf; refine nk<|W.seq<|?_
  refine W.drawQ (fun w=>St w0 w noX [] [pt b_c1 (.cells (aC c) 26 (0,0))]) P_mixed rfl (by kernel_rfl) rfl hS.drew ?_; clear hS; refine OQ.val (v:=.pointer (some ⟨b_c1,1,none⟩)) hf rfl (fun w hS=>RunV.field T_field_26_1 rfl rfl) fun a hf=>OQ.val (v:=.agg (aD c.a)) hf rfl (fun w hS=>RunV.loadN (cs':=(aD c.a)) T_agg_24 T_size_24 rfl (hS.p 0 rfl) (bl rfl) rfl) fun a hf=>OQ.callRq (v:=.int .i64 (if okD c.a then 0 else 8)) hf rfl (fun w hS=>RunE.call (av:=#[.agg (aD c.a)]) C_ok_15 rfl rfl rfl) (fun w hS=>check28_spec c.a _ hr.1) fun a hf=>OQ.val (v:=.bool (okD c.a)) hf rfl (fun w hS=>RunV.toB (c:=okD c.a) (RunV.eql rfl rfl) (okI c.a)) fun a hf=>OQ.val (v:=.pointer (some ⟨b_c1,6,none⟩)) hf rfl (fun w hS=>RunV.field T_field_26_2 rfl rfl) fun a hf=>OQ.val (v:=.agg (aD c.b)) hf rfl (fun w hS=>RunV.loadN (cs':=(aD c.b)) T_agg_24 T_size_24 rfl (hS.p 0 rfl) (bl rfl) rfl) fun a hf=>OQ.callRq (v:=.int .i64 (if okD c.b then 0 else 8)) hf rfl (fun w hS=>RunE.call (av:=#[.agg (aD c.b)]) C_ok_15 rfl rfl rfl) (fun w hS=>check28_spec c.b _ hr.2) fun a hf=>OQ.val (v:=.bool (okD c.b)) hf rfl (fun w hS=>RunV.toB (c:=okD c.b) (RunV.eql rfl rfl) (okI c.b)) fun a hf=>OQ.val (v:=.bool (okD c.a)) hf rfl (fun w hS=>RunV.assign rfl) fun a hf=>OQ.val (v:=.bool (okD c.b)) hf rfl (fun w hS=>RunV.assign rfl) fun a hf=>?_; refine OQ.nil ?_; intro w hS; refine k_seq<|W.seq<|?_
  refine W.regionL (l:=[0]) rfl<|mv hf rfl<|?_; clear hf a; intro a hf; refine nk<|W.seq<|W.seq<|?_
  refine W.regionL (l:=[0,1]) rfl<|ov hf rfl (RunV.field T_field_26_0 rfl rfl)<|?_; clear hf a; intro a hf; refine ov hf rfl (RunV.load1 T_agg_5 rfl (hS.p 0 rfl) rfl) ?_; clear hf a; intro a hf; refine nk<|W.block<|W.seq<|?_
  refine W.regionL (l:=[0,1]) rfl<|ov (v:=.bool (decide (c.kind=(1:Int)))) hf rfl (RunV.eql rfl rfl)<|?_; clear hf a; intro a hf; refine mv hf rfl ?_; clear hf a; intro a hf; refine nk ?_; refine W.ifdI hf rfl (fun hk1=>?_) (fun hk1=>?_)
  ·
    refine W.regionL (l:=[0,1,2,3,4,5,6,7,8,9,10,11,12,13,14]) rfl<|mv hf rfl<|?_; clear hf a; intro a hf; refine mv hf rfl ?_; clear hf a; intro a hf
    refine O.cutN (l₁:=[2,3,4,5,6]) (l₂:=_) (fun a w=>Fr a 81 [] [(1,.pointer (some ⟨b_c1,0,none⟩)),(2,.int .i64 0),(3,.bool (okD c.a)),(4,.bool (okD c.b)),(5,.bool false),(15,.int .u8 c.kind),(18,.bool (okD c.a)),(19,.bool (okD c.a)),(24,.bool ((okD c.a)&&(decide (c.a.num=(0:Int)))))]∧St w0 w noX [] [pt b_c1 (.cells (aC c) 26 (0,0))]) rfl ?_ ?_
    · rcases Bool.eq_false_or_eq_true (okD c.a) with hb3 | hb3
      · have hb3p:=hb3
        try simp only [Bool.and_eq_true,Bool.or_eq_true,Bool.and_eq_false_iff,Bool.or_eq_false_iff,decide_eq_true_eq,decide_eq_false_iff_not,Bool.not_eq_true',Bool.not_eq_false',Bool.not_eq_true,Bool.not_eq_false,ne_eq] at hb3p
        refine og (v:=.pointer (some ⟨b_c1,1,none⟩)) hf rfl hb3 (RunV.field T_field_26_1 rfl rfl) ?_; clear hf a; intro a hf; refine og (v:=.pointer (some ⟨b_c1,1,none⟩)) hf rfl hb3 (RunV.field T_field_24_0 rfl rfl) ?_; clear hf a; intro a hf; refine og (v:=.int .i64 c.a.num) hf rfl hb3 (RunV.load1 T_agg_3 rfl (hS.p 0 rfl) rfl) ?_; clear hf a; intro a hf; refine og (v:=.bool (decide (c.a.num=(0:Int)))) hf rfl hb3 (RunV.eql rfl rfl) ?_; clear hf a; intro a hf; refine ov (v:=.bool ((okD c.a)&&(decide (c.a.num=(0:Int))))) hf rfl (RunV.pick rfl rfl rfl (by rw [hb3]; rfl)) ?_; clear hf a; intro a hf; exact O.nil ⟨rfl,hf.q rfl,hS⟩
      · have hb3p:=hb3
        try simp only [Bool.and_eq_true,Bool.or_eq_true,Bool.and_eq_false_iff,Bool.or_eq_false_iff,decide_eq_true_eq,decide_eq_false_iff_not,Bool.not_eq_true',Bool.not_eq_false',Bool.not_eq_true,Bool.not_eq_false,ne_eq] at hb3p
        refine sk hf rfl hb3 fun a hf=>sk hf rfl hb3 fun a hf=>sk hf rfl hb3 fun a hf=>sk hf rfl hb3 fun a hf=>?_; refine ov (v:=.bool ((okD c.a)&&(decide (c.a.num=(0:Int))))) hf rfl (RunV.pick rfl rfl rfl (by rw [hb3]; rfl)) ?_; clear hf a; intro a hf; exact O.nil ⟨rfl,hf.q rfl,hS⟩
    clear hf hS a; rintro a w ⟨hf,hS⟩; refine mv hf rfl ?_; clear hf a; intro a hf
    refine O.cutN (l₁:=[8,9,10,11,12,13]) (l₂:=_) (fun a w=>Fr a 81 [] [(1,.pointer (some ⟨b_c1,0,none⟩)),(2,.int .i64 0),(3,.bool (okD c.a)),(4,.bool (okD c.b)),(5,.bool false),(15,.int .u8 c.kind),(18,.bool (okD c.a)),(19,.bool (okD c.a)),(24,.bool ((okD c.a)&&(decide (c.a.num=(0:Int))))),(25,.bool ((okD c.a)&&(decide (c.a.num=(0:Int))))),(31,.bool (((okD c.a)&&(decide (c.a.num=(0:Int))))&&(decide (c=⟨1,c.a,default,0⟩))))]∧St w0 w noX [] [pt b_c1 (.cells (aC c) 26 (0,0))]) rfl ?_ ?_
    · rcases Bool.eq_false_or_eq_true ((okD c.a)&&(decide (c.a.num=(0:Int)))) with hb4 | hb4
      · have hb4p:=hb4
        try simp only [Bool.and_eq_true,Bool.or_eq_true,Bool.and_eq_false_iff,Bool.or_eq_false_iff,decide_eq_true_eq,decide_eq_false_iff_not,Bool.not_eq_true',Bool.not_eq_false',Bool.not_eq_true,Bool.not_eq_false,ne_eq] at hb4p
        refine og (v:=.agg (aC c)) hf rfl hb4 (RunV.loadN (cs':=(aC c)) T_agg_26 T_size_26 rfl (hS.p 0 rfl) (bl rfl) rfl) ?_; clear hf a; intro a hf; refine og (v:=.pointer (some ⟨b_c1,1,none⟩)) hf rfl hb4 (RunV.field T_field_26_1 rfl rfl) ?_; clear hf a; intro a hf; refine og (v:=.agg (aD c.a)) hf rfl hb4 (RunV.loadN (cs':=(aD c.a)) T_agg_24 T_size_24 rfl (hS.p 0 rfl) (bl rfl) rfl) ?_; clear hf a; intro a hf; refine og (v:=.agg #[.int .u8 1,.int .i64 c.a.num,.int .i64 c.a.yr,.int .u8 c.a.half,.int .u8 c.a.sec,.int .i64 c.a.cyc,.int .i64 0,.int .i64 0,.int .u8 0,.int .u8 0,.int .i64 0,.int .i64 0]) hf rfl hb4 (RunV.buildS (cs':=#[.int .u8 1,.int .i64 c.a.num,.int .i64 c.a.yr,.int .u8 c.a.half,.int .u8 c.a.sec,.int .i64 c.a.cyc,.int .i64 0,.int .i64 0,.int .u8 0,.int .u8 0,.int .i64 0,.int .i64 0]) T_places_26 T_zero_26 rfl (by kernel_rfl)) ?_; clear hf a; intro a hf; refine og (v:=.bool (decide (c=⟨1,c.a,default,0⟩))) hf rfl hb4 (eqC c ⟨1,c.a,default,0⟩ rfl rfl) ?_; clear hf a; intro a hf; refine ov (v:=.bool (((okD c.a)&&(decide (c.a.num=(0:Int))))&&(decide (c=⟨1,c.a,default,0⟩)))) hf rfl (RunV.pick rfl rfl rfl (by rw [hb4]; rfl)) ?_; clear hf a; intro a hf; exact O.nil ⟨rfl,hf.q rfl,hS⟩
      · have hb4p:=hb4
        try simp only [Bool.and_eq_true,Bool.or_eq_true,Bool.and_eq_false_iff,Bool.or_eq_false_iff,decide_eq_true_eq,decide_eq_false_iff_not,Bool.not_eq_true',Bool.not_eq_false',Bool.not_eq_true,Bool.not_eq_false,ne_eq] at hb4p
        refine sk hf rfl hb4 fun a hf=>sk hf rfl hb4 fun a hf=>sk hf rfl hb4 fun a hf=>sk hf rfl hb4 fun a hf=>sk hf rfl hb4 fun a hf=>?_; refine ov (v:=.bool (((okD c.a)&&(decide (c.a.num=(0:Int))))&&(decide (c=⟨1,c.a,default,0⟩)))) hf rfl (RunV.pick rfl rfl rfl (by rw [hb4]; rfl)) ?_; clear hf a; intro a hf; exact O.nil ⟨rfl,hf.q rfl,hS⟩
    clear hf hS a; rintro a w ⟨hf,hS⟩; refine mv hf rfl ?_; clear hf a; intro a hf; refine O.nil<|k_blk_normal<|k_seq<|W.seq<|W.seq<|?_
    refine W.regionL (l:=[0,1]) rfl<|mv hf rfl<|?_; clear hf a; intro a hf; refine ov (v:=.bool (!(((okD c.a)&&(decide (c.a.num=(0:Int))))&&(decide (c=⟨1,c.a,default,0⟩))))) hf rfl (RunV.not rfl) ?_; clear hf a; intro a hf; refine nk ?_; refine W.if_ hf rfl (fun hox=>?_) (fun hox=>?_)
    · have hoxb:=hox
      try simp only [Bool.and_eq_true,Bool.or_eq_true,Bool.and_eq_false_iff,Bool.or_eq_false_iff,decide_eq_true_eq,decide_eq_false_iff_not,Bool.not_eq_true',Bool.not_eq_false',Bool.not_eq_true,Bool.not_eq_false,ne_eq] at hox
      refine W.seq ?_
      refine W.regionL (l:=[0]) rfl<|mv hf rfl<|?_; clear hf a; intro a hf; refine nk<|W.ret<|k_then_ret<|post1 hf rfl (ResOK.tmp rfl)<|?_; exact ⟨(),congrArg (fun x=>Ending.returned (Value.int .i64 x)) (by rw [okC_ref]; (first | rw [if_pos hk1] | rw [if_neg hk1,if_pos hk2] | rw [if_neg hk1,if_neg hk2,if_pos hk3] | rw [if_neg hk1,if_neg hk2,if_neg hk3,if_pos hk4] | rw [if_neg hk1,if_neg hk2,if_neg hk3,if_neg hk4]); first | rfl | exact (ck_no hoxb).symm),hS.sub (List.nil_sublist _) |>.noB⟩
    · have hoxb:=hox
      try simp only [Bool.and_eq_true,Bool.or_eq_true,Bool.and_eq_false_iff,Bool.or_eq_false_iff,decide_eq_true_eq,decide_eq_false_iff_not,Bool.not_eq_true',Bool.not_eq_false',Bool.not_eq_true,Bool.not_eq_false,ne_eq] at hox
      refine W.skip<|k_seq<|W.seq<|?_
      refine W.regionL (l:=[0]) rfl<|mv hf rfl<|?_; clear hf a; intro a hf; refine nk<|W.ret<|post1 hf rfl (ResOK.tmp rfl)<|?_; exact ⟨(),congrArg (fun x=>Ending.returned (Value.int .i64 x)) (by rw [okC_ref]; (first | rw [if_pos hk1] | rw [if_neg hk1,if_pos hk2] | rw [if_neg hk1,if_neg hk2,if_pos hk3] | rw [if_neg hk1,if_neg hk2,if_neg hk3,if_pos hk4] | rw [if_neg hk1,if_neg hk2,if_neg hk3,if_neg hk4]); exact (ck_yes hoxb).symm),hS.sub (List.nil_sublist _) |>.noB⟩
  · refine W.seq ?_
    refine W.regionL (l:=[0,1]) rfl<|ov (v:=.bool (decide (c.kind=(2:Int)))) hf rfl (RunV.eql rfl rfl)<|?_; clear hf a; intro a hf; refine mv hf rfl ?_; clear hf a; intro a hf; refine nk ?_; refine W.ifdI hf rfl (fun hk2=>?_) (fun hk2=>?_)
    ·
      refine W.regionL (l:=[0,1,2,3,4,5,6,7,8,9,10,11,12,13,14,15,16]) rfl<|mv hf rfl<|?_; clear hf a; intro a hf; refine mv hf rfl ?_; clear hf a; intro a hf
      refine O.cutN (l₁:=[2,3]) (l₂:=_) (fun a w=>Fr a 81 [] [(1,.pointer (some ⟨b_c1,0,none⟩)),(2,.int .i64 0),(3,.bool (okD c.a)),(4,.bool (okD c.b)),(5,.bool false),(15,.int .u8 c.kind),(34,.bool (okD c.a)),(35,.bool (okD c.a)),(37,.bool ((okD c.a)&&(okD c.b)))]∧St w0 w noX [] [pt b_c1 (.cells (aC c) 26 (0,0))]) rfl ?_ ?_
      · rcases Bool.eq_false_or_eq_true (okD c.a) with hb7 | hb7
        · have hb7p:=hb7
          try simp only [Bool.and_eq_true,Bool.or_eq_true,Bool.and_eq_false_iff,Bool.or_eq_false_iff,decide_eq_true_eq,decide_eq_false_iff_not,Bool.not_eq_true',Bool.not_eq_false',Bool.not_eq_true,Bool.not_eq_false,ne_eq] at hb7p
          refine og (v:=.bool (okD c.b)) hf rfl hb7 (RunV.move rfl) ?_; clear hf a; intro a hf; refine ov (v:=.bool ((okD c.a)&&(okD c.b))) hf rfl (RunV.pick rfl rfl rfl (by rw [hb7]; rfl)) ?_; clear hf a; intro a hf; exact O.nil ⟨rfl,hf.q rfl,hS⟩
        · have hb7p:=hb7
          try simp only [Bool.and_eq_true,Bool.or_eq_true,Bool.and_eq_false_iff,Bool.or_eq_false_iff,decide_eq_true_eq,decide_eq_false_iff_not,Bool.not_eq_true',Bool.not_eq_false',Bool.not_eq_true,Bool.not_eq_false,ne_eq] at hb7p
          refine sk hf rfl hb7 fun a hf=>?_; refine ov (v:=.bool ((okD c.a)&&(okD c.b))) hf rfl (RunV.pick rfl rfl rfl (by rw [hb7]; rfl)) ?_; clear hf a; intro a hf; exact O.nil ⟨rfl,hf.q rfl,hS⟩
      clear hf hS a; rintro a w ⟨hf,hS⟩; refine mv hf rfl ?_; clear hf a; intro a hf
      refine O.cutN (l₁:=[5,6,7,8,9,10]) (l₂:=_) (fun a w=>Fr a 81 [] [(1,.pointer (some ⟨b_c1,0,none⟩)),(2,.int .i64 0),(3,.bool (okD c.a)),(4,.bool (okD c.b)),(5,.bool false),(15,.int .u8 c.kind),(34,.bool (okD c.a)),(35,.bool (okD c.a)),(37,.bool ((okD c.a)&&(okD c.b))),(38,.bool ((okD c.a)&&(okD c.b))),(44,.bool (((okD c.a)&&(okD c.b))&&(!decide (c.a=c.b))))]∧St w0 w noX [] [pt b_c1 (.cells (aC c) 26 (0,0))]) rfl ?_ ?_
      · rcases Bool.eq_false_or_eq_true ((okD c.a)&&(okD c.b)) with hb8 | hb8
        · have hb8p:=hb8
          try simp only [Bool.and_eq_true,Bool.or_eq_true,Bool.and_eq_false_iff,Bool.or_eq_false_iff,decide_eq_true_eq,decide_eq_false_iff_not,Bool.not_eq_true',Bool.not_eq_false',Bool.not_eq_true,Bool.not_eq_false,ne_eq] at hb8p
          refine og (v:=.pointer (some ⟨b_c1,1,none⟩)) hf rfl hb8 (RunV.field T_field_26_1 rfl rfl) ?_; clear hf a; intro a hf; refine og (v:=.agg (aD c.a)) hf rfl hb8 (RunV.loadN (cs':=(aD c.a)) T_agg_24 T_size_24 rfl (hS.p 0 rfl) (bl rfl) rfl) ?_; clear hf a; intro a hf; refine og (v:=.pointer (some ⟨b_c1,6,none⟩)) hf rfl hb8 (RunV.field T_field_26_2 rfl rfl) ?_; clear hf a; intro a hf; refine og (v:=.agg (aD c.b)) hf rfl hb8 (RunV.loadN (cs':=(aD c.b)) T_agg_24 T_size_24 rfl (hS.p 0 rfl) (bl rfl) rfl) ?_; clear hf a; intro a hf; refine og (v:=.bool (!decide (c.a=c.b))) hf rfl hb8 (neD rfl c.a c.b eqGuard24 rfl rfl) ?_; clear hf a; intro a hf; refine ov (v:=.bool (((okD c.a)&&(okD c.b))&&(!decide (c.a=c.b)))) hf rfl (RunV.pick rfl rfl rfl (by rw [hb8]; rfl)) ?_; clear hf a; intro a hf; exact O.nil ⟨rfl,hf.q rfl,hS⟩
        · have hb8p:=hb8
          try simp only [Bool.and_eq_true,Bool.or_eq_true,Bool.and_eq_false_iff,Bool.or_eq_false_iff,decide_eq_true_eq,decide_eq_false_iff_not,Bool.not_eq_true',Bool.not_eq_false',Bool.not_eq_true,Bool.not_eq_false,ne_eq] at hb8p
          refine sk hf rfl hb8 fun a hf=>sk hf rfl hb8 fun a hf=>sk hf rfl hb8 fun a hf=>sk hf rfl hb8 fun a hf=>sk hf rfl hb8 fun a hf=>?_; refine ov (v:=.bool (((okD c.a)&&(okD c.b))&&(!decide (c.a=c.b)))) hf rfl (RunV.pick rfl rfl rfl (by rw [hb8]; rfl)) ?_; clear hf a; intro a hf; exact O.nil ⟨rfl,hf.q rfl,hS⟩
      clear hf hS a; rintro a w ⟨hf,hS⟩; refine mv hf rfl ?_; clear hf a; intro a hf
      refine O.cutN (l₁:=[12,13,14,15]) (l₂:=_) (fun a w=>Fr a 81 [] [(1,.pointer (some ⟨b_c1,0,none⟩)),(2,.int .i64 0),(3,.bool (okD c.a)),(4,.bool (okD c.b)),(5,.bool false),(15,.int .u8 c.kind),(34,.bool (okD c.a)),(35,.bool (okD c.a)),(37,.bool ((okD c.a)&&(okD c.b))),(38,.bool ((okD c.a)&&(okD c.b))),(44,.bool (((okD c.a)&&(okD c.b))&&(!decide (c.a=c.b)))),(45,.bool (((okD c.a)&&(okD c.b))&&(!decide (c.a=c.b)))),(49,.bool ((((okD c.a)&&(okD c.b))&&(!decide (c.a=c.b)))&&(decide (c.n=(0:Int)))))]∧St w0 w noX [] [pt b_c1 (.cells (aC c) 26 (0,0))]) rfl ?_ ?_
      · rcases Bool.eq_false_or_eq_true (((okD c.a)&&(okD c.b))&&(!decide (c.a=c.b))) with hb9 | hb9
        · have hb9p:=hb9
          try simp only [Bool.and_eq_true,Bool.or_eq_true,Bool.and_eq_false_iff,Bool.or_eq_false_iff,decide_eq_true_eq,decide_eq_false_iff_not,Bool.not_eq_true',Bool.not_eq_false',Bool.not_eq_true,Bool.not_eq_false,ne_eq] at hb9p
          refine og (v:=.pointer (some ⟨b_c1,11,none⟩)) hf rfl hb9 (RunV.field T_field_26_3 rfl rfl) ?_; clear hf a; intro a hf; refine og (v:=.int .i64 c.n) hf rfl hb9 (RunV.load1 T_agg_3 rfl (hS.p 0 rfl) rfl) ?_; clear hf a; intro a hf; refine og (v:=.bool (decide (c.n=(0:Int)))) hf rfl hb9 (RunV.eql rfl rfl) ?_; clear hf a; intro a hf; refine ov (v:=.bool ((((okD c.a)&&(okD c.b))&&(!decide (c.a=c.b)))&&(decide (c.n=(0:Int))))) hf rfl (RunV.pick rfl rfl rfl (by rw [hb9]; rfl)) ?_; clear hf a; intro a hf; exact O.nil ⟨rfl,hf.q rfl,hS⟩
        · have hb9p:=hb9
          try simp only [Bool.and_eq_true,Bool.or_eq_true,Bool.and_eq_false_iff,Bool.or_eq_false_iff,decide_eq_true_eq,decide_eq_false_iff_not,Bool.not_eq_true',Bool.not_eq_false',Bool.not_eq_true,Bool.not_eq_false,ne_eq] at hb9p
          refine sk hf rfl hb9 fun a hf=>sk hf rfl hb9 fun a hf=>sk hf rfl hb9 fun a hf=>?_; refine ov (v:=.bool ((((okD c.a)&&(okD c.b))&&(!decide (c.a=c.b)))&&(decide (c.n=(0:Int))))) hf rfl (RunV.pick rfl rfl rfl (by rw [hb9]; rfl)) ?_; clear hf a; intro a hf; exact O.nil ⟨rfl,hf.q rfl,hS⟩
      clear hf hS a; rintro a w ⟨hf,hS⟩; refine mv hf rfl ?_; clear hf a; intro a hf; refine O.nil<|k_blk_normal<|k_seq<|W.seq<|W.seq<|?_
      refine W.regionL (l:=[0,1]) rfl<|mv hf rfl<|?_; clear hf a; intro a hf; refine ov (v:=.bool (!((((okD c.a)&&(okD c.b))&&(!decide (c.a=c.b)))&&(decide (c.n=(0:Int)))))) hf rfl (RunV.not rfl) ?_; clear hf a; intro a hf; refine nk ?_; refine W.if_ hf rfl (fun hox=>?_) (fun hox=>?_)
      · have hoxb:=hox
        try simp only [Bool.and_eq_true,Bool.or_eq_true,Bool.and_eq_false_iff,Bool.or_eq_false_iff,decide_eq_true_eq,decide_eq_false_iff_not,Bool.not_eq_true',Bool.not_eq_false',Bool.not_eq_true,Bool.not_eq_false,ne_eq] at hox
        refine W.seq ?_
        refine W.regionL (l:=[0]) rfl<|mv hf rfl<|?_; clear hf a; intro a hf; refine nk<|W.ret<|k_then_ret<|post1 hf rfl (ResOK.tmp rfl)<|?_; exact ⟨(),congrArg (fun x=>Ending.returned (Value.int .i64 x)) (by rw [okC_ref]; (first | rw [if_pos hk1] | rw [if_neg hk1,if_pos hk2] | rw [if_neg hk1,if_neg hk2,if_pos hk3] | rw [if_neg hk1,if_neg hk2,if_neg hk3,if_pos hk4] | rw [if_neg hk1,if_neg hk2,if_neg hk3,if_neg hk4]); first | rfl | exact (ck_no hoxb).symm),hS.sub (List.nil_sublist _) |>.noB⟩
      · have hoxb:=hox
        try simp only [Bool.and_eq_true,Bool.or_eq_true,Bool.and_eq_false_iff,Bool.or_eq_false_iff,decide_eq_true_eq,decide_eq_false_iff_not,Bool.not_eq_true',Bool.not_eq_false',Bool.not_eq_true,Bool.not_eq_false,ne_eq] at hox
        refine W.skip<|k_seq<|W.seq<|?_
        refine W.regionL (l:=[0]) rfl<|mv hf rfl<|?_; clear hf a; intro a hf; refine nk<|W.ret<|post1 hf rfl (ResOK.tmp rfl)<|?_; exact ⟨(),congrArg (fun x=>Ending.returned (Value.int .i64 x)) (by rw [okC_ref]; (first | rw [if_pos hk1] | rw [if_neg hk1,if_pos hk2] | rw [if_neg hk1,if_neg hk2,if_pos hk3] | rw [if_neg hk1,if_neg hk2,if_neg hk3,if_pos hk4] | rw [if_neg hk1,if_neg hk2,if_neg hk3,if_neg hk4]); exact (ck_yes hoxb).symm),hS.sub (List.nil_sublist _) |>.noB⟩
    · refine W.seq ?_
      refine W.regionL (l:=[0,1]) rfl<|ov (v:=.bool (decide (c.kind=(3:Int)))) hf rfl (RunV.eql rfl rfl)<|?_; clear hf a; intro a hf; refine mv hf rfl ?_; clear hf a; intro a hf; refine nk ?_; refine W.ifdI hf rfl (fun hk3=>?_) (fun hk3=>?_)
      ·
        refine W.regionL (l:=[0,1,2,3,4,5,6,7,8,9,10,11,12,13,14,15]) rfl<|mv hf rfl<|?_; clear hf a; intro a hf; refine mv hf rfl ?_; clear hf a; intro a hf
        refine O.cutN (l₁:=[2,3]) (l₂:=_) (fun a w=>Fr a 81 [] [(1,.pointer (some ⟨b_c1,0,none⟩)),(2,.int .i64 0),(3,.bool (okD c.a)),(4,.bool (okD c.b)),(5,.bool false),(15,.int .u8 c.kind),(52,.bool (okD c.a)),(53,.bool (okD c.a)),(55,.bool ((okD c.a)&&(okD c.b)))]∧St w0 w noX [] [pt b_c1 (.cells (aC c) 26 (0,0))]) rfl ?_ ?_
        · rcases Bool.eq_false_or_eq_true (okD c.a) with hb12 | hb12
          · have hb12p:=hb12
            try simp only [Bool.and_eq_true,Bool.or_eq_true,Bool.and_eq_false_iff,Bool.or_eq_false_iff,decide_eq_true_eq,decide_eq_false_iff_not,Bool.not_eq_true',Bool.not_eq_false',Bool.not_eq_true,Bool.not_eq_false,ne_eq] at hb12p
            refine og (v:=.bool (okD c.b)) hf rfl hb12 (RunV.move rfl) ?_; clear hf a; intro a hf; refine ov (v:=.bool ((okD c.a)&&(okD c.b))) hf rfl (RunV.pick rfl rfl rfl (by rw [hb12]; rfl)) ?_; clear hf a; intro a hf; exact O.nil ⟨rfl,hf.q rfl,hS⟩
          · have hb12p:=hb12
            try simp only [Bool.and_eq_true,Bool.or_eq_true,Bool.and_eq_false_iff,Bool.or_eq_false_iff,decide_eq_true_eq,decide_eq_false_iff_not,Bool.not_eq_true',Bool.not_eq_false',Bool.not_eq_true,Bool.not_eq_false,ne_eq] at hb12p
            refine sk hf rfl hb12 fun a hf=>?_; refine ov (v:=.bool ((okD c.a)&&(okD c.b))) hf rfl (RunV.pick rfl rfl rfl (by rw [hb12]; rfl)) ?_; clear hf a; intro a hf; exact O.nil ⟨rfl,hf.q rfl,hS⟩
        clear hf hS a; rintro a w ⟨hf,hS⟩; refine mv hf rfl ?_; clear hf a; intro a hf
        refine O.cutN (l₁:=[5,6,7,8,9]) (l₂:=_) (fun a w=>Fr a 81 [] [(1,.pointer (some ⟨b_c1,0,none⟩)),(2,.int .i64 0),(3,.bool (okD c.a)),(4,.bool (okD c.b)),(5,.bool false),(15,.int .u8 c.kind),(52,.bool (okD c.a)),(53,.bool (okD c.a)),(55,.bool ((okD c.a)&&(okD c.b))),(56,.bool ((okD c.a)&&(okD c.b))),(61,.bool (((okD c.a)&&(okD c.b))&&(decide (c.b.num>(0:Int)))))]∧St w0 w noX [] [pt b_c1 (.cells (aC c) 26 (0,0))]) rfl ?_ ?_
        · rcases Bool.eq_false_or_eq_true ((okD c.a)&&(okD c.b)) with hb13 | hb13
          · have hb13p:=hb13
            try simp only [Bool.and_eq_true,Bool.or_eq_true,Bool.and_eq_false_iff,Bool.or_eq_false_iff,decide_eq_true_eq,decide_eq_false_iff_not,Bool.not_eq_true',Bool.not_eq_false',Bool.not_eq_true,Bool.not_eq_false,ne_eq] at hb13p
            refine og (v:=.pointer (some ⟨b_c1,6,none⟩)) hf rfl hb13 (RunV.field T_field_26_2 rfl rfl) ?_; clear hf a; intro a hf; refine og (v:=.pointer (some ⟨b_c1,6,none⟩)) hf rfl hb13 (RunV.field T_field_24_0 rfl rfl) ?_; clear hf a; intro a hf; refine og (v:=.int .i64 c.b.num) hf rfl hb13 (RunV.load1 T_agg_3 rfl (hS.p 0 rfl) rfl) ?_; clear hf a; intro a hf; refine og (v:=.bool (decide (c.b.num>(0:Int)))) hf rfl hb13 (RunV.gtr rfl rfl) ?_; clear hf a; intro a hf; refine ov (v:=.bool (((okD c.a)&&(okD c.b))&&(decide (c.b.num>(0:Int))))) hf rfl (RunV.pick rfl rfl rfl (by rw [hb13]; rfl)) ?_; clear hf a; intro a hf; exact O.nil ⟨rfl,hf.q rfl,hS⟩
          · have hb13p:=hb13
            try simp only [Bool.and_eq_true,Bool.or_eq_true,Bool.and_eq_false_iff,Bool.or_eq_false_iff,decide_eq_true_eq,decide_eq_false_iff_not,Bool.not_eq_true',Bool.not_eq_false',Bool.not_eq_true,Bool.not_eq_false,ne_eq] at hb13p
            refine sk hf rfl hb13 fun a hf=>sk hf rfl hb13 fun a hf=>sk hf rfl hb13 fun a hf=>sk hf rfl hb13 fun a hf=>?_; refine ov (v:=.bool (((okD c.a)&&(okD c.b))&&(decide (c.b.num>(0:Int))))) hf rfl (RunV.pick rfl rfl rfl (by rw [hb13]; rfl)) ?_; clear hf a; intro a hf; exact O.nil ⟨rfl,hf.q rfl,hS⟩
        clear hf hS a; rintro a w ⟨hf,hS⟩; refine mv hf rfl ?_; clear hf a; intro a hf
        refine O.cutN (l₁:=[11,12,13,14]) (l₂:=_) (fun a w=>Fr a 81 [] [(1,.pointer (some ⟨b_c1,0,none⟩)),(2,.int .i64 0),(3,.bool (okD c.a)),(4,.bool (okD c.b)),(5,.bool false),(15,.int .u8 c.kind),(52,.bool (okD c.a)),(53,.bool (okD c.a)),(55,.bool ((okD c.a)&&(okD c.b))),(56,.bool ((okD c.a)&&(okD c.b))),(61,.bool (((okD c.a)&&(okD c.b))&&(decide (c.b.num>(0:Int))))),(62,.bool (((okD c.a)&&(okD c.b))&&(decide (c.b.num>(0:Int))))),(66,.bool ((((okD c.a)&&(okD c.b))&&(decide (c.b.num>(0:Int))))&&(decide (c.n=(0:Int)))))]∧St w0 w noX [] [pt b_c1 (.cells (aC c) 26 (0,0))]) rfl ?_ ?_
        · rcases Bool.eq_false_or_eq_true (((okD c.a)&&(okD c.b))&&(decide (c.b.num>(0:Int)))) with hb14 | hb14
          · have hb14p:=hb14
            try simp only [Bool.and_eq_true,Bool.or_eq_true,Bool.and_eq_false_iff,Bool.or_eq_false_iff,decide_eq_true_eq,decide_eq_false_iff_not,Bool.not_eq_true',Bool.not_eq_false',Bool.not_eq_true,Bool.not_eq_false,ne_eq] at hb14p
            refine og (v:=.pointer (some ⟨b_c1,11,none⟩)) hf rfl hb14 (RunV.field T_field_26_3 rfl rfl) ?_; clear hf a; intro a hf; refine og (v:=.int .i64 c.n) hf rfl hb14 (RunV.load1 T_agg_3 rfl (hS.p 0 rfl) rfl) ?_; clear hf a; intro a hf; refine og (v:=.bool (decide (c.n=(0:Int)))) hf rfl hb14 (RunV.eql rfl rfl) ?_; clear hf a; intro a hf; refine ov (v:=.bool ((((okD c.a)&&(okD c.b))&&(decide (c.b.num>(0:Int))))&&(decide (c.n=(0:Int))))) hf rfl (RunV.pick rfl rfl rfl (by rw [hb14]; rfl)) ?_; clear hf a; intro a hf; exact O.nil ⟨rfl,hf.q rfl,hS⟩
          · have hb14p:=hb14
            try simp only [Bool.and_eq_true,Bool.or_eq_true,Bool.and_eq_false_iff,Bool.or_eq_false_iff,decide_eq_true_eq,decide_eq_false_iff_not,Bool.not_eq_true',Bool.not_eq_false',Bool.not_eq_true,Bool.not_eq_false,ne_eq] at hb14p
            refine sk hf rfl hb14 fun a hf=>sk hf rfl hb14 fun a hf=>sk hf rfl hb14 fun a hf=>?_; refine ov (v:=.bool ((((okD c.a)&&(okD c.b))&&(decide (c.b.num>(0:Int))))&&(decide (c.n=(0:Int))))) hf rfl (RunV.pick rfl rfl rfl (by rw [hb14]; rfl)) ?_; clear hf a; intro a hf; exact O.nil ⟨rfl,hf.q rfl,hS⟩
        clear hf hS a; rintro a w ⟨hf,hS⟩; refine mv hf rfl ?_; clear hf a; intro a hf; refine O.nil<|k_blk_normal<|k_seq<|W.seq<|W.seq<|?_
        refine W.regionL (l:=[0,1]) rfl<|mv hf rfl<|?_; clear hf a; intro a hf; refine ov (v:=.bool (!((((okD c.a)&&(okD c.b))&&(decide (c.b.num>(0:Int))))&&(decide (c.n=(0:Int)))))) hf rfl (RunV.not rfl) ?_; clear hf a; intro a hf; refine nk ?_; refine W.if_ hf rfl (fun hox=>?_) (fun hox=>?_)
        · have hoxb:=hox
          try simp only [Bool.and_eq_true,Bool.or_eq_true,Bool.and_eq_false_iff,Bool.or_eq_false_iff,decide_eq_true_eq,decide_eq_false_iff_not,Bool.not_eq_true',Bool.not_eq_false',Bool.not_eq_true,Bool.not_eq_false,ne_eq] at hox
          refine W.seq ?_
          refine W.regionL (l:=[0]) rfl<|mv hf rfl<|?_; clear hf a; intro a hf; refine nk<|W.ret<|k_then_ret<|post1 hf rfl (ResOK.tmp rfl)<|?_; exact ⟨(),congrArg (fun x=>Ending.returned (Value.int .i64 x)) (by rw [okC_ref]; (first | rw [if_pos hk1] | rw [if_neg hk1,if_pos hk2] | rw [if_neg hk1,if_neg hk2,if_pos hk3] | rw [if_neg hk1,if_neg hk2,if_neg hk3,if_pos hk4] | rw [if_neg hk1,if_neg hk2,if_neg hk3,if_neg hk4]); first | rfl | exact (ck_no hoxb).symm),hS.sub (List.nil_sublist _) |>.noB⟩
        · have hoxb:=hox
          try simp only [Bool.and_eq_true,Bool.or_eq_true,Bool.and_eq_false_iff,Bool.or_eq_false_iff,decide_eq_true_eq,decide_eq_false_iff_not,Bool.not_eq_true',Bool.not_eq_false',Bool.not_eq_true,Bool.not_eq_false,ne_eq] at hox
          refine W.skip<|k_seq<|W.seq<|?_
          refine W.regionL (l:=[0]) rfl<|mv hf rfl<|?_; clear hf a; intro a hf; refine nk<|W.ret<|post1 hf rfl (ResOK.tmp rfl)<|?_; exact ⟨(),congrArg (fun x=>Ending.returned (Value.int .i64 x)) (by rw [okC_ref]; (first | rw [if_pos hk1] | rw [if_neg hk1,if_pos hk2] | rw [if_neg hk1,if_neg hk2,if_pos hk3] | rw [if_neg hk1,if_neg hk2,if_neg hk3,if_pos hk4] | rw [if_neg hk1,if_neg hk2,if_neg hk3,if_neg hk4]); exact (ck_yes hoxb).symm),hS.sub (List.nil_sublist _) |>.noB⟩
      · refine W.seq ?_
        refine W.regionL (l:=[0,1]) rfl<|ov (v:=.bool (decide (c.kind=(4:Int)))) hf rfl (RunV.eql rfl rfl)<|?_; clear hf a; intro a hf; refine mv hf rfl ?_; clear hf a; intro a hf; refine nk ?_; refine W.ifdI hf rfl (fun hk4=>?_) (fun hk4=>?_)
        ·
          refine W.regionL (l:=[0,1,2,3,4,5,6,7,8,9,10]) rfl<|ov hf rfl (RunV.field T_field_26_3 rfl rfl)<|?_; clear hf a; intro a hf; refine ov hf rfl (RunV.load1 T_agg_3 rfl (hS.p 0 rfl) rfl) ?_; clear hf a; intro a hf; refine ov (v:=.bool (decide (c.n≥(0:Int)))) hf rfl (RunV.geq rfl rfl) ?_; clear hf a; intro a hf; refine mv hf rfl ?_; clear hf a; intro a hf
          refine O.cutN (l₁:=[4,5,6,7,8,9]) (l₂:=_) (fun a w=>Fr a 81 [] [(1,.pointer (some ⟨b_c1,0,none⟩)),(2,.int .i64 0),(5,.bool false),(69,.pointer (some ⟨b_c1,11,none⟩)),(70,.int .i64 c.n),(71,.bool (decide (c.n≥(0:Int)))),(72,.bool (decide (c.n≥(0:Int)))),(78,.bool ((decide (c.n≥(0:Int)))&&(decide (c=⟨4,default,default,c.n⟩))))]∧St w0 w noX [] [pt b_c1 (.cells (aC c) 26 (0,0))]) rfl ?_ ?_
          · rcases Bool.eq_false_or_eq_true (decide (c.n≥(0:Int))) with hb17 | hb17
            · have hb17p:=of_decide_eq_true hb17
              refine og (v:=.agg (aC c)) hf rfl hb17 (RunV.loadN (cs':=(aC c)) T_agg_26 T_size_26 rfl (hS.p 0 rfl) (bl rfl) rfl) ?_; clear hf a; intro a hf; refine og (v:=.pointer (some ⟨b_c1,11,none⟩)) hf rfl hb17 (RunV.field T_field_26_3 rfl rfl) ?_; clear hf a; intro a hf; refine og (v:=.int .i64 c.n) hf rfl hb17 (RunV.load1 T_agg_3 rfl (hS.p 0 rfl) rfl) ?_; clear hf a; intro a hf; refine og (v:=.agg #[.int .u8 4,.int .i64 0,.int .i64 0,.int .u8 0,.int .u8 0,.int .i64 0,.int .i64 0,.int .i64 0,.int .u8 0,.int .u8 0,.int .i64 0,.int .i64 c.n]) hf rfl hb17 (RunV.buildS (cs':=#[.int .u8 4,.int .i64 0,.int .i64 0,.int .u8 0,.int .u8 0,.int .i64 0,.int .i64 0,.int .i64 0,.int .u8 0,.int .u8 0,.int .i64 0,.int .i64 c.n]) T_places_26 T_zero_26 rfl (by kernel_rfl)) ?_; clear hf a; intro a hf; refine og (v:=.bool (decide (c=⟨4,default,default,c.n⟩))) hf rfl hb17 (eqC c ⟨4,default,default,c.n⟩ rfl rfl) ?_; clear hf a; intro a hf; refine ov (v:=.bool ((decide (c.n≥(0:Int)))&&(decide (c=⟨4,default,default,c.n⟩)))) hf rfl (RunV.pick rfl rfl rfl (by rw [hb17]; rfl)) ?_; clear hf a; intro a hf; exact O.nil ⟨rfl,hf.q rfl,hS⟩
            · have hb17p:=of_decide_eq_false hb17
              refine sk hf rfl hb17 fun a hf=>sk hf rfl hb17 fun a hf=>sk hf rfl hb17 fun a hf=>sk hf rfl hb17 fun a hf=>sk hf rfl hb17 fun a hf=>?_; refine ov (v:=.bool ((decide (c.n≥(0:Int)))&&(decide (c=⟨4,default,default,c.n⟩)))) hf rfl (RunV.pick rfl rfl rfl (by rw [hb17]; rfl)) ?_; clear hf a; intro a hf; exact O.nil ⟨rfl,hf.q rfl,hS⟩
          clear hf hS a; rintro a w ⟨hf,hS⟩; refine mv hf rfl ?_; clear hf a; intro a hf; refine O.nil<|k_blk_normal<|k_seq<|W.seq<|W.seq<|?_
          refine W.regionL (l:=[0,1]) rfl<|mv hf rfl<|?_; clear hf a; intro a hf; refine ov (v:=.bool (!((decide (c.n≥(0:Int)))&&(decide (c=⟨4,default,default,c.n⟩))))) hf rfl (RunV.not rfl) ?_; clear hf a; intro a hf; refine nk ?_; refine W.if_ hf rfl (fun hox=>?_) (fun hox=>?_)
          · have hoxb:=hox
            try simp only [Bool.and_eq_true,Bool.or_eq_true,Bool.and_eq_false_iff,Bool.or_eq_false_iff,decide_eq_true_eq,decide_eq_false_iff_not,Bool.not_eq_true',Bool.not_eq_false',Bool.not_eq_true,Bool.not_eq_false,ne_eq] at hox
            refine W.seq ?_
            refine W.regionL (l:=[0]) rfl<|mv hf rfl<|?_; clear hf a; intro a hf; refine nk<|W.ret<|k_then_ret<|post1 hf rfl (ResOK.tmp rfl)<|?_; exact ⟨(),congrArg (fun x=>Ending.returned (Value.int .i64 x)) (by rw [okC_ref]; (first | rw [if_pos hk1] | rw [if_neg hk1,if_pos hk2] | rw [if_neg hk1,if_neg hk2,if_pos hk3] | rw [if_neg hk1,if_neg hk2,if_neg hk3,if_pos hk4] | rw [if_neg hk1,if_neg hk2,if_neg hk3,if_neg hk4]); first | rfl | exact (ck_no hoxb).symm),hS.sub (List.nil_sublist _) |>.noB⟩
          · have hoxb:=hox
            try simp only [Bool.and_eq_true,Bool.or_eq_true,Bool.and_eq_false_iff,Bool.or_eq_false_iff,decide_eq_true_eq,decide_eq_false_iff_not,Bool.not_eq_true',Bool.not_eq_false',Bool.not_eq_true,Bool.not_eq_false,ne_eq] at hox
            refine W.skip<|k_seq<|W.seq<|?_
            refine W.regionL (l:=[0]) rfl<|mv hf rfl<|?_; clear hf a; intro a hf; refine nk<|W.ret<|post1 hf rfl (ResOK.tmp rfl)<|?_; exact ⟨(),congrArg (fun x=>Ending.returned (Value.int .i64 x)) (by rw [okC_ref]; (first | rw [if_pos hk1] | rw [if_neg hk1,if_pos hk2] | rw [if_neg hk1,if_neg hk2,if_pos hk3] | rw [if_neg hk1,if_neg hk2,if_neg hk3,if_pos hk4] | rw [if_neg hk1,if_neg hk2,if_neg hk3,if_neg hk4]); exact (ck_yes hoxb).symm),hS.sub (List.nil_sublist _) |>.noB⟩
        · refine W.skip ?_
          refine k_blk_normal<|k_seq<|W.seq<|W.seq<|?_
          refine W.regionL (l:=[0,1]) rfl<|mv hf rfl<|?_; clear hf a; intro a hf; refine ov (v:=.bool true) hf rfl (RunV.not (b:=false) rfl) ?_; clear hf a; intro a hf; refine nk<|W.if_tt hf rfl<|W.seq<|?_
          refine W.regionL (l:=[0]) rfl<|mv hf rfl<|?_; clear hf a; intro a hf; refine nk<|W.ret<|k_then_ret<|post1 hf rfl (ResOK.tmp rfl)<|?_; exact ⟨(),congrArg (fun x=>Ending.returned (Value.int .i64 x)) (by rw [okC_ref]; (first | rw [if_pos hk1] | rw [if_neg hk1,if_pos hk2] | rw [if_neg hk1,if_neg hk2,if_pos hk3] | rw [if_neg hk1,if_neg hk2,if_neg hk3,if_pos hk4] | rw [if_neg hk1,if_neg hk2,if_neg hk3,if_neg hk4]); first | rfl | exact (ck_no hoxb).symm),hS.sub (List.nil_sublist _) |>.noB⟩
end Go.Proofs.YtgakdmmmljdpjaaDoor
