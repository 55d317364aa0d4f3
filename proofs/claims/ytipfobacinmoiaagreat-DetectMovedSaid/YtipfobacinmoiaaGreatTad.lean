/- Part of a proof: laws and walks. -/
import Derived.Test.YtipfobacinmoiaaGreatTac
import Derived.Shelf.SlIterI.Nil
import Derived.Shelf.SortM.Plain
import Derived.Shelf.SortM.SortNone
import Derived.Sort.OwnSortedInts
set_option linter.unusedVariables false
set_option linter.unusedSimpArgs false
namespace Det
def aM (W H:Int) (zs:List Int):Prop :=
  1≤W∧W≤100∧1≤H∧H≤100∧(zs.length:Int)=W*H∧∀ j,j<zs.length→-4294967296≤zs.getD j 0∧zs.getD j 0≤4294967296
theorem oW {a b:Int} (h1:0≤a∧a≤100) (h2:0≤b∧b≤100):0≤a*b∧a*b≤10000:=by
  obtain ⟨x,rfl⟩:=Int.eq_ofNat_of_zero_le h1.1
  obtain ⟨y,rfl⟩:=Int.eq_ofNat_of_zero_le h2.1
  have hx:x≤100:=by omega
  have hy:y≤100:=by omega
  have:=Nat.mul_le_mul hx hy
  have h:((x:Int)*(y:Int))=((x*y:Nat):Int):=by simp
  rw [h]
  omega
def jk (W H x y:Nat) (u v:Int):Bool :=
  !((((decide (u<(0:Int))||decide (u≥(W:Int)))||decide (v<(0:Int)))||decide (v≥(H:Int)))||(decide (u=(x:Int))&&decide (v=(y:Int))))
def eu (W H x y:Nat) (v:Int):Nat→List Int
  | 0=>[]
  | l+1=>eu W H x y v l++(if jk W H x y ((x:Int)-1+(l:Int)) v then [v*(W:Int)+((x:Int)-1+(l:Int))] else [])
def dQ (W H x y:Nat):Nat→List Int
  | 0=>[]
  | k+1=>dQ W H x y k++eu W H x y ((y:Int)-1+(k:Int)) 3
def nb (W H i:Nat):List Int:=dQ W H (i % W) (i/W) 3
theorem kZ {W H x y l:Nat} {v:Int} (h:jk W H x y ((x:Int)-1+(l:Int)) v=true):eu W H x y v (l+1)=eu W H x y v l++[v*(W:Int)+((x:Int)-1+(l:Int))]:=by simp [eu,h]
theorem iT {W H x y l:Nat} {v:Int} (h:jk W H x y ((x:Int)-1+(l:Int)) v=false):eu W H x y v (l+1)=eu W H x y v l:=by simp [eu,h]
def marks (n:Nat) (l:List Int):Nat→List Bool
  | 0=>List.replicate n false
  | k+1=>(marks n l k).set (Int.toNat (l.getD k 0)) true
theorem gK (n:Nat) (l:List Int):∀ k,(marks n l k).length=n
  | 0=>by simp [marks]
  | k+1=>by simp [marks,gK n l k]
def sameF (a b:Int) (zs:List Int) (c d:Int) (ys:List Int):Bool:=decide (a=c∧b=d∧zs=ys)
theorem wQ {zs ys:List Int} (hl:zs.length=ys.length) (h:∀ j,j<zs.length→zs.getD j 0=ys.getD j 0):zs=ys:=by
  apply List.ext_getElem hl
  intro i h1 h2
  have:=h i h1
  simpa [List.getD_eq_getElem?_getD,List.getElem?_eq_getElem h1,List.getElem?_eq_getElem h2] using this
theorem fV {p:Nat→Prop} {k:Nat} (h:∀ j,j<k→p j) (hk:p k):∀ j,j<k+1→p j:=fun j hj=>by
  rcases Nat.lt_or_ge j k with h1 | h1
  · exact h j h1
  · have:j=k:=by omega
    subst this; exact hk
end Det
namespace Det
theorem mE {W H x y:Nat} {v:Int}:∀ {l:Nat} {t:Int},t ∈ eu W H x y v l→∃ u:Int,t=v*(W:Int)+u∧0≤u∧u<(W:Int)∧0≤v∧v<(H:Int)
  | 0,t,h=>by simp [eu] at h
  | l+1,t,h=>by
    by_cases hc:jk W H x y ((x:Int)-1+(l:Int)) v=true
    · rw [kZ hc] at h
      rcases List.mem_append.1 h with h1 | h1
      · exact mE h1
      · simp only [List.mem_singleton] at h1
        refine ⟨_,h1,?_⟩
        simp only [jk,Bool.not_eq_true',Bool.or_eq_false_iff,decide_eq_false_iff_not] at hc
        omega
    · rw [iT (by simpa using hc)] at h
      exact mE h
theorem rP {W H x y:Nat}:∀ {k:Nat} {t:Int},t ∈ dQ W H x y k→∃ u v:Int,t=v*(W:Int)+u∧0≤u∧u<(W:Int)∧0≤v∧v<(H:Int)
  | 0,t,h=>by simp [dQ] at h
  | k+1,t,h=>by
    simp only [dQ] at h
    rcases List.mem_append.1 h with h1 | h1
    · exact rP h1
    · obtain ⟨u,hu⟩:=mE h1
      exact ⟨u,_,hu⟩
theorem jK {W H i:Nat} {t:Int} (h:t ∈ nb W H i):0≤t∧t<((W*H:Nat):Int):=by
  obtain ⟨u,v,rfl,h1,h2,h3,h4⟩:=rP h
  obtain ⟨a,rfl⟩:=Int.eq_ofNat_of_zero_le h1
  obtain ⟨b,rfl⟩:=Int.eq_ofNat_of_zero_le h3
  have hb:b+1≤H:=by omega
  have hm:(b+1)*W≤H*W:=Nat.mul_le_mul_right _ hb
  have e:(b:Int)*(W:Int)=((b*W:Nat):Int):=by simp
  rw [e,Nat.mul_comm W H]
  rw [Nat.add_mul] at hm
  constructor <;> omega
theorem bL {l:List Int} {j:Nat} (h:j<l.length):l.getD j 0 ∈ l:=by
  rw [List.getD_eq_getElem?_getD,List.getElem?_eq_getElem h]
  exact List.getElem_mem h
def dm (s:List Bool × List Int) (i:Int):List Bool × List Int :=
  if s.1.getD i.toNat false=true then (s.1.set i.toNat false,s.2++[i]) else s
def bU (s:List Bool × List Int) (l:List Int):Nat→List Bool × List Int
  | 0=>s
  | j+1=>dm (bU s l j) (l.getD j 0)
def bfs (W H:Nat) (ins:List Bool) (first:Nat):Nat→List Bool × List Int
  | 0=>(ins.set first false,[(first:Int)])
  | k+1=>if k<(bfs W H ins first k).2.length then
      bU (bfs W H ins first k) (nb W H ((bfs W H ins first k).2.getD k 0).toNat) (nb W H ((bfs W H ins first k).2.getD k 0).toNat).length
    else bfs W H ins first k
def Inv (n:Nat) (s:List Bool × List Int):Prop:=s.1.length=n∧s.2.length+s.1.count true≤n∧∀ t ∈ s.2,0≤t∧t<(n:Int)
theorem count_set {l:List Bool}:∀ {i:Nat},l.getD i false=true→(l.set i false).count true+1=l.count true:=by
  induction l with
  | nil=>intro i h; simp at h
  | cons b t ih =>
    intro i h
    cases i with
    | zero=>simp at h; subst h; simp
    | succ i =>
      simp only [List.getD_cons_succ] at h
      have:=ih h
      simp only [List.set_cons_succ,List.count_cons]
      omega
theorem Inv.dm {n:Nat} {s:List Bool × List Int} {i:Int} (h:Inv n s) (hi:0≤i∧i<(n:Int)):Inv n (dm s i):=by
  unfold Det.dm
  split
  · rename_i hc
    refine ⟨by simpa using h.1,?_,?_⟩
    · have:=count_set hc
      have:=h.2.1
      simp only [List.length_append,List.length_singleton]
      omega
    · intro t ht
      rcases List.mem_append.1 ht with h1 | h1
      · exact h.2.2 t h1
      · simp only [List.mem_singleton] at h1; subst h1; exact hi
  · exact h
theorem Inv.bU {n:Nat} {s:List Bool × List Int} {l:List Int} (h:Inv n s) (hl:∀ t ∈ l,0≤t∧t<(n:Int)):∀ j,j≤l.length→Inv n (bU s l j)
  | 0,_=>h
  | j+1,hj=>Inv.dm (Inv.bU h hl j (by omega)) (hl _ (bL (by omega)))
theorem Inv.start {n first:Nat} {ins:List Bool} (hn:ins.length=n) (hf:first<n):Inv n (ins.set first false,[(first:Int)]):=by
  refine ⟨by simpa using hn,?_,?_⟩
  · have h1:(ins.set first false).count true<n:=by
      have hle:(ins.set first false).count true≤(ins.set first false).length:=List.count_le_length
      rcases Nat.lt_or_ge ((ins.set first false).count true) n with h | h
      · exact h
      · have he:(ins.set first false).count true=(ins.set first false).length:=by simp only [List.length_set] at hle ⊢; omega
        have hall:=List.count_eq_length.1 he
        have hm:false ∈ ins.set first false:=List.mem_iff_getElem.2 ⟨first,by simp; omega,by simp⟩
        have:=hall false hm
        cases this
    simp only [List.length_singleton]; omega
  · intro t ht
    simp only [List.mem_singleton] at ht
    subst ht
    omega
theorem kI {s s':List Bool × List Int} {l:List Int} {j:Nat} (h:s'=bU s l j) (hc:s'.1.getD (l.getD j 0).toNat false=true) :
    (s'.1.set (l.getD j 0).toNat false,s'.2++[l.getD j 0])=bU s l (j+1):=by
  subst h
  simp only [bU,dm,if_pos hc]
theorem jy {s s':List Bool × List Int} {l:List Int} {j:Nat} (h:s'=bU s l j) (hc:¬ s'.1.getD (l.getD j 0).toNat false=true):s'=bU s l (j+1):=by
  subst h
  simp only [bU,dm,if_neg hc]
theorem vJ {W H first k:Nat} {ins:List Bool} {s:List Bool × List Int} (h:s=bfs W H ins first k) (hk:k<s.2.length) :
    bU s (nb W H (s.2.getD k 0).toNat) (nb W H (s.2.getD k 0).toNat).length=bfs W H ins first (k+1):=by
  subst h
  simp only [bfs]
  rw [if_pos hk]
theorem vD {W H first k:Nat} {ins:List Bool} (hk:(bfs W H ins first k).2.length≤k):∀ j,bfs W H ins first (k+j)=bfs W H ins first k
  | 0=>rfl
  | j+1=>by
    have ih:=vD hk j
    show bfs W H ins first ((k+j)+1)=_
    simp only [bfs,ih]
    rw [if_neg (by omega)]
def asc (bs:List Bool):Nat→List Int
  | 0=>[]
  | k+1=>asc bs k++(if bs.getD k false=true then [(k:Int)] else [])
theorem uK {bs:List Bool} {k:Nat} (h:bs.getD k false=true):asc bs (k+1)=asc bs k++[(k:Int)]:=by simp only [asc,if_pos h]
theorem uo {bs:List Bool} {k:Nat} (h:¬ bs.getD k false=true):asc bs (k+1)=asc bs k:=by simp only [asc,if_neg h,List.append_nil]
theorem oL {bs:List Bool}:∀ k,(asc bs k).length≤k
  | 0=>by simp [asc]
  | k+1=>by
    have:=oL (bs:=bs) k
    simp only [asc,List.length_append]
    split <;> simp <;> omega
def part (W H:Nat) (ins:List Bool) (first:Nat):List Bool × List Int :=
  ((bfs W H ins first (W*H)).1,asc (marks (W*H) (bfs W H ins first (W*H)).2 (bfs W H ins first (W*H)).2.length) (W*H))
theorem yh {W H first:Nat} {ins0 ins:List Bool} {todo:List Int} (h:(ins,todo)=bfs W H ins0 first todo.length) (hle:todo.length≤W*H) :
    part W H ins0 first=(ins,asc (marks (W*H) todo todo.length) (W*H)):=by
  have hs:bfs W H ins0 first (W*H)=(ins,todo):=by
    have:=vD (W:=W) (H:=H) (first:=first) (ins:=ins0) (k:=todo.length) (by rw [← h]; exact Nat.le_refl _) (W*H-todo.length)
    rw [show todo.length+(W*H-todo.length)=W*H from by omega] at this
    rw [this,h]
  unfold part
  rw [hs]
theorem lu {W H first:Nat} {ins:List Bool} (hn:ins.length=W*H) (hf:first<W*H):∀ k,Inv (W*H) (bfs W H ins first k)
  | 0=>Inv.start hn hf
  | k+1=>by
    have ih:=lu hn hf k
    simp only [bfs]
    split
    · exact Inv.bU ih (fun t ht=>jK ht) _ (Nat.le_refl _)
    · exact ih
theorem jr {W H first:Nat} {ins:List Bool} (hn:ins.length=W*H) (hf:first<W*H):(part W H ins first).1.length=W*H:=(lu hn hf _).1
theorem yc {W H first:Nat} {ins:List Bool}:(part W H ins first).2.length≤W*H:=oL _
def bR (W H:Nat) (least:Int) (ins:List Bool):Nat→List Bool × List (List Int)
  | 0=>(ins,[])
  | k+1=>if (bR W H least ins k).1.getD k false=true then
      ((part W H (bR W H least ins k).1 k).1,(bR W H least ins k).2++(if least≤((part W H (bR W H least ins k).1 k).2.length:Int) then [(part W H (bR W H least ins k).1 k).2] else []))
    else bR W H least ins k
theorem uZ {W H k:Nat} {least:Int} {bs ins:List Bool} {xss:List (List Int)} (h:(ins,xss)=bR W H least bs k) (hc:¬ ins.getD k false=true):(ins,xss)=bR W H least bs (k+1):=by
  simp only [bR]; rw [← h]; simp only [if_neg hc]
theorem tq {W H k:Nat} {least:Int} {bs ins:List Bool} {xss:List (List Int)} (h:(ins,xss)=bR W H least bs k) (hc:ins.getD k false=true) (hl:¬ least≤((part W H ins k).2.length:Int)) :
    ((part W H ins k).1,xss)=bR W H least bs (k+1):=by
  simp only [bR]; rw [← h]; simp only [if_pos hc,if_neg hl,List.append_nil]
theorem vU {W H k:Nat} {least:Int} {bs ins:List Bool} {xss:List (List Int)} (h:(ins,xss)=bR W H least bs k) (hc:ins.getD k false=true) (hl:least≤((part W H ins k).2.length:Int)) :
    ((part W H ins k).1,xss++[(part W H ins k).2])=bR W H least bs (k+1):=by
  simp only [bR]; rw [← h]; simp only [if_pos hc,if_pos hl]
def bright (zs:List Int) (bs:List Bool) (thr:Int):Nat→List Bool
  | 0=>[]
  | k+1=>bright zs bs thr k++[!(bs.getD k false)&&decide (zs.getD k 0≥thr)]
theorem fF {zs:List Int} {bs:List Bool} {thr:Int}:∀ k,(bright zs bs thr k).length=k
  | 0=>rfl
  | k+1=>by simp [bright,fF k]
theorem uD {a b:Int} (h1:1≤a) (h2:1≤b):1≤a*b:=Int.add_one_le_of_lt (Int.mul_pos (by omega) (by omega))
def oH (l:List Int):Int:=l.foldl (fun a b=>if a<b then b else a) (l.getD 0 0)
def vV (l:List Int):Int:=l.foldl (fun a b=>if b<a then b else a) (l.getD 0 0)
theorem uF:∀ (l:List Int) (a:Int),a≤l.foldl (fun a b=>if a<b then b else a) a∧(∀ j,j<l.length→l.getD j 0≤l.foldl (fun a b=>if a<b then b else a) a) ∧
    (l.foldl (fun a b=>if a<b then b else a) a=a∨∃ j,j<l.length∧l.getD j 0=l.foldl (fun a b=>if a<b then b else a) a)
  | [],a=>⟨by simp,by simp,.inl rfl⟩
  | x::t,a=>by
    obtain ⟨h1,h2,h3⟩:=uF t (if a<x then x else a)
    simp only [List.foldl_cons]
    generalize List.foldl (fun a b=>if a<b then b else a) (if a<x then x else a) t=r at *
    refine ⟨by split at h1 <;> omega,fun j hj=>?_,?_⟩
    · cases j with
      | zero=>simp only [List.getD_cons_zero]; split at h1 <;> omega
      | succ j=>simpa using h2 j (by simpa using hj)
    · rcases h3 with h3 | ⟨j,hj,h3⟩
      · split at h3
        · exact .inr ⟨0,by simp,by simp [h3]⟩
        · exact .inl h3
      · exact .inr ⟨j+1,by simpa using hj,by simpa using h3⟩
theorem sK:∀ (l:List Int) (a:Int),l.foldl (fun a b=>if b<a then b else a) a≤a∧(∀ j,j<l.length→l.foldl (fun a b=>if b<a then b else a) a≤l.getD j 0) ∧
    (l.foldl (fun a b=>if b<a then b else a) a=a∨∃ j,j<l.length∧l.getD j 0=l.foldl (fun a b=>if b<a then b else a) a)
  | [],a=>⟨by simp,by simp,.inl rfl⟩
  | x::t,a=>by
    obtain ⟨h1,h2,h3⟩:=sK t (if x<a then x else a)
    simp only [List.foldl_cons]
    generalize List.foldl (fun a b=>if b<a then b else a) (if x<a then x else a) t=r at *
    refine ⟨by split at h1 <;> omega,fun j hj=>?_,?_⟩
    · cases j with
      | zero=>simp only [List.getD_cons_zero]; split at h1 <;> omega
      | succ j=>simpa using h2 j (by simpa using hj)
    · rcases h3 with h3 | ⟨j,hj,h3⟩
      · split at h3
        · exact .inr ⟨0,by simp,by simp [h3]⟩
        · exact .inl h3
      · exact .inr ⟨j+1,by simpa using hj,by simpa using h3⟩
theorem yH {l:List Int} {j:Nat} (hj:j<l.length):l.getD j 0≤oH l:=(uF l _).2.1 j hj
theorem xY {l:List Int} (h:0<l.length):∃ j,j<l.length∧l.getD j 0=oH l:=by
  rcases (uF l (l.getD 0 0)).2.2 with h1 | h1
  · exact ⟨0,h,h1.symm⟩
  · exact h1
theorem yB {l:List Int} {j:Nat} (hj:j<l.length):vV l≤l.getD j 0:=(sK l _).2.1 j hj
theorem xW {l:List Int} (h:0<l.length):∃ j,j<l.length∧l.getD j 0=vV l:=by
  rcases (sK l (l.getD 0 0)).2.2 with h1 | h1
  · exact ⟨0,h,h1.symm⟩
  · exact h1
theorem aCx {l:List Int} {m:Int} (h1:∀ j,j<l.length→l.getD j 0≤m) (h2:∃ j,j<l.length∧l.getD j 0=m):m=oH l:=by
  obtain ⟨j,hj,rfl⟩:=h2
  obtain ⟨i,hi,h⟩:=xY (l:=l) (by omega)
  have:=h1 i hi
  have:=yH hj
  omega
theorem aB5 {l:List Int} {m:Int} (h1:∀ j,j<l.length→m≤l.getD j 0) (h2:∃ j,j<l.length∧l.getD j 0=m):m=vV l:=by
  obtain ⟨j,hj,rfl⟩:=h2
  obtain ⟨i,hi,h⟩:=xW (l:=l) (by omega)
  have:=h1 i hi
  have:=yB hj
  omega
open Classical in
noncomputable def bg (W H:Int) (zs:List Int) (bs:List Bool) (thr least:Int):Int :=
  if aM W H zs then (if bs.length=zs.length∧-4294967296≤thr∧thr≤4294967296∧1≤least then 0 else 2) else 8
noncomputable def eZ (W H:Int) (zs:List Int) (bs:List Bool) (thr least:Int):List (List Int) :=
  if bg W H zs bs thr least=0 then (bR W.toNat H.toNat least (bright zs bs thr zs.length) zs.length).2 else []
theorem sJ {W H:Int} {zs:List Int} (h:aM W H zs):zs.length≤10000:=by
  obtain ⟨h1,h2,h3,h4,h5,_⟩:=h
  have:=oW (a:=W) (b:=H) (by omega) (by omega)
  omega
theorem wZ {xss yss:List (List Int)} (hl:xss.length=yss.length) (h1:∀ j,j<xss.length→(xss.getD j []).length=(yss.getD j []).length)
    (h2:∀ j,j<xss.length→∀ q,q<(xss.getD j []).length→(xss.getD j []).getD q 0=(yss.getD j []).getD q 0):xss=yss:=by
  apply List.ext_getElem hl
  intro i g1 g2
  have e1:xss.getD i []=xss[i]:=by simp [List.getD_eq_getElem?_getD,List.getElem?_eq_getElem g1]
  have e2:yss.getD i []=yss[i]:=by simp [List.getD_eq_getElem?_getD,List.getElem?_eq_getElem g2]
  rw [← e1,← e2]
  exact wQ (h1 i g1) (h2 i g1)
end Det
namespace Det
theorem pQ {W H x y:Nat} {v:Int} (h:v<0∨(H:Int)≤v):∀ l,eu W H x y v l=[]
  | 0=>rfl
  | l+1=>by
    rw [iT,pQ h l]
    simp only [jk,Bool.not_eq_false',Bool.or_eq_true,decide_eq_true_eq]
    rcases h with h | h
    · exact .inl (.inl (.inr h))
    · exact .inl (.inr h)
theorem wK {W H x y:Nat} {v:Int} (h:x=0):eu W H x y v 1=[]:=by
  subst h
  have:=iT (W:=W) (H:=H) (x:=0) (y:=y) (v:=v) (l:=0) (by simp [jk])
  rw [this]; rfl
theorem rQ {W H x y l:Nat} {v:Int} (h:(W:Int)≤(x:Int)-1+(l:Int)):∀ m,eu W H x y v (l+m)=eu W H x y v l
  | 0=>rfl
  | m+1=>by
    rw [← Nat.add_assoc,iT,rQ h m]
    simp only [jk,Bool.not_eq_false',Bool.or_eq_true,decide_eq_true_eq]
    exact .inl (.inl (.inl (.inr (by omega))))
theorem aAi {W H x y l:Nat} {v:Int} (hl:l≤3) (h:l=3∨(W:Int)≤(x:Int)-1+(l:Int)):eu W H x y v l=eu W H x y v 3:=by
  rcases h with rfl | h
  · rfl
  · have:=rQ (H:=H) (y:=y) (v:=v) h (3-l)
    rw [show l+(3-l)=3 from by omega] at this
    exact this.symm
theorem ve {W H x y:Nat} (h:y=0):dQ W H x y 1=[]:=by
  subst h
  simp only [dQ,List.nil_append]
  exact pQ (.inl (by simp)) 3
theorem qB {W H x y k:Nat} (h:(H:Int)≤(y:Int)-1+(k:Int)):∀ m,dQ W H x y (k+m)=dQ W H x y k
  | 0=>rfl
  | m+1=>by
    rw [← Nat.add_assoc]
    simp only [dQ]
    rw [pQ (.inr (by omega)),List.append_nil,qB h m]
theorem zb {W H x y k:Nat} (hk:k≤3) (h:k=3∨(H:Int)≤(y:Int)-1+(k:Int)):dQ W H x y k=dQ W H x y 3:=by
  rcases h with rfl | h
  · rfl
  · have:=qB (W:=W) (x:=x) h (3-k)
    rw [show k+(3-k)=3 from by omega] at this
    exact this.symm
theorem aAd {W H x y:Nat} {v:Int} {l m:Nat} (h:l≤m):∃ t,eu W H x y v m=eu W H x y v l++t:=by
  induction m with
  | zero => obtain rfl : l = 0 := by omega
            exact ⟨[],by simp⟩
  | succ m ih =>
    rcases Nat.lt_or_ge m l with h1 | h1
    · obtain rfl:l=m+1:=by omega
      exact ⟨[],by simp⟩
    · obtain ⟨t,ht⟩:=ih h1
      exact ⟨_,by simp only [eu]; rw [ht,List.append_assoc]⟩
theorem aAO {W H x y:Nat} {k m:Nat} (h:k≤m):∃ t,dQ W H x y m=dQ W H x y k++t:=by
  induction m with
  | zero => obtain rfl : k = 0 := by omega
            exact ⟨[],by simp⟩
  | succ m ih =>
    rcases Nat.lt_or_ge m k with h1 | h1
    · obtain rfl:k=m+1:=by omega
      exact ⟨[],by simp⟩
    · obtain ⟨t,ht⟩:=ih h1
      exact ⟨_,by simp only [dQ]; rw [ht,List.append_assoc]⟩
theorem aES {W H x y k l:Nat} (hk:k<3) (hl:l<3) (h:jk W H x y ((x:Int)-1+(l:Int)) ((y:Int)-1+(k:Int))=true) :
    (dQ W H x y 3)[(dQ W H x y k).length+(eu W H x y ((y:Int)-1+(k:Int)) l).length]? = some (((y:Int)-1+(k:Int))*(W:Int)+((x:Int)-1+(l:Int))):=by
  obtain ⟨t,ht⟩:=aAO (W:=W) (H:=H) (x:=x) (y:=y) (show k+1≤3 by omega)
  obtain ⟨t',ht'⟩:=aAd (W:=W) (H:=H) (x:=x) (y:=y) (v:=(y:Int)-1+(k:Int)) (show l+1≤3 by omega)
  have e:dQ W H x y (k+1)=dQ W H x y k++eu W H x y ((y:Int)-1+(k:Int)) 3:=rfl
  rw [ht,e,ht',kZ h]
  simp only [List.append_assoc]
  rw [List.getElem?_append_right (by omega),List.getElem?_append_right (by omega)]
  simp
theorem aD2 {W x y:Nat} {u v:Int} (hu:0≤u) (hu2:u<(W:Int)) (hv:0≤v) (hx:x<W):v*(W:Int)+u=((y*W+x:Nat):Int)↔(u=(x:Int)∧v=(y:Int)):=by
  obtain ⟨a,rfl⟩:=Int.eq_ofNat_of_zero_le hu
  obtain ⟨b,rfl⟩:=Int.eq_ofNat_of_zero_le hv
  have ha:a<W:=by omega
  constructor
  · intro h
    have h':b*W+a=y*W+x:=by
      have:((b*W+a:Nat):Int)=((y*W+x:Nat):Int):=by simpa using h
      exact Int.ofNat_inj.1 this
    have h1:(b*W+a)/W=b:=by rw [Nat.mul_comm,Nat.mul_add_div (by omega),Nat.div_eq_of_lt ha]; rfl
    have h2:(y*W+x)/W=y:=by rw [Nat.mul_comm,Nat.mul_add_div (by omega),Nat.div_eq_of_lt hx]; rfl
    have h3:b=y:=by rw [← h1,← h2,h']
    subst h3
    exact ⟨by omega,rfl⟩
  · rintro ⟨h1,h2⟩
    have h1:a=x:=by omega
    have h2:b=y:=by omega
    subst h1 h2
    simp
end Det
namespace Det
theorem nR {s:List Bool × List Int} {l:List Int}:∀ j,s.2.length≤(bU s l j).2.length
  | 0=>Nat.le_refl _
  | j+1=>by
    have:=nR (s:=s) (l:=l) j
    simp only [bU,dm]
    split
    · simp; omega
    · exact this
def Inv2 (s:List Bool × List Int):Prop:=s.2.Nodup∧∀ t ∈ s.2,0≤t∧s.1.getD t.toNat false=false
theorem Inv2.start {first:Nat} {ins:List Bool}:Inv2 (ins.set first false,[(first:Int)]):=by
  refine ⟨by simp,fun t ht=>?_⟩
  simp only [List.mem_singleton] at ht
  subst ht
  refine ⟨by omega,?_⟩
  simp only [List.getD_eq_getElem?_getD,Int.toNat_natCast,List.getElem?_set]
  by_cases h:first<ins.length <;> simp [h]
theorem Inv2.take {q:Nat} {ins:List Bool} {l:List Int} (h:Inv2 (ins,l)) (hc:ins.getD q false=true):Inv2 (ins.set q false,l++[(q:Int)]):=by
  have hq:(q:Int) ∉ l:=fun hm=>by
    have:=(h.2 _ hm).2
    rw [Int.toNat_natCast,hc] at this
    cases this
  refine ⟨?_,fun t ht=>?_⟩
  · rw [List.nodup_append]
    exact ⟨h.1,by simp,fun x hx y hy e=>by simp only [List.mem_singleton] at hy; subst hy; exact hq (e▸hx)⟩
  · rcases List.mem_append.1 ht with ht | ht
    · obtain ⟨h0,h1⟩:=h.2 t ht
      refine ⟨h0,?_⟩
      by_cases e:q=t.toNat
      · rw [e,h1] at hc; cases hc
      · simp only [List.getD_eq_getElem?_getD,List.getElem?_set,if_neg e]
        simpa [List.getD_eq_getElem?_getD] using h1
    · simp only [List.mem_singleton] at ht
      subst ht
      refine ⟨by omega,?_⟩
      simp only [List.getD_eq_getElem?_getD,Int.toNat_natCast,List.getElem?_set]
      by_cases h:q<ins.length <;> simp [h]
theorem Inv.take {n q:Nat} {ins:List Bool} {l:List Int} (h:Inv n (ins,l)) (hq:q<n) (hc:ins.getD q false=true):Inv n (ins.set q false,l++[(q:Int)]):=by
  have:=Inv.dm h (i:=(q:Int)) (by omega)
  unfold Det.dm at this
  rwa [if_pos (show (ins,l).1.getD ((q:Int)).toNat false=true from hc)] at this
def srt (l:List Int):List Int:=l.mergeSort (fun x y=>decide (x≤y))
theorem gW {n:Nat} {l:List Int} (hl:∀ t ∈ l,0≤t∧t<(n:Int)):∀ k,k≤l.length→∀ i:Nat,(marks n l k).getD i false=true↔(i:Int) ∈ l.take k
  | 0,_,i=>by
    simp only [marks,List.take_zero,List.not_mem_nil,iff_false,List.getD_eq_getElem?_getD,List.getElem?_replicate]
    split <;> simp
  | k+1,hk,i=>by
    have ih:=gW hl k (by omega) i
    have hkl:k<l.length:=by omega
    have hg:l.getD k 0=l[k]:=by simp [List.getD_eq_getElem?_getD,hkl]
    have hb:=hl l[k] (List.getElem_mem hkl)
    have e:l.take (k+1)=l.take k++[l[k]]:=by rw [List.take_add_one,List.getElem?_eq_getElem hkl]; rfl
    rw [e,List.mem_append,← ih,List.mem_singleton]
    have hlen:=gK n l k
    simp only [marks,hg,List.getD_eq_getElem?_getD,List.getElem?_set]
    by_cases hi:(l[k]).toNat=i
    · rw [if_pos hi,if_pos (by omega)]
      simp only [Option.getD_some,true_iff]
      exact .inr (by omega)
    · rw [if_neg hi]
      constructor
      · exact .inl
      · rintro (h | h)
        · exact h
        · exact absurd (by omega) hi
theorem jh {bs:List Bool} {t:Int}:∀ {k:Nat},t ∈ asc bs k↔∃ i:Nat,t=(i:Int)∧i<k∧bs.getD i false=true
  | 0=>by simp [asc]
  | k+1=>by
    simp only [asc,List.mem_append,jh (k:=k)]
    constructor
    · rintro (⟨i,h1,h2,h3⟩ | h)
      · exact ⟨i,h1,by omega,h3⟩
      · split at h
        · rename_i hb; simp only [List.mem_singleton] at h; exact ⟨k,h,by omega,hb⟩
        · simp at h
    · rintro ⟨i,h1,h2,h3⟩
      rcases Nat.lt_or_ge i k with h | h
      · exact .inl ⟨i,h1,h,h3⟩
      · obtain rfl:i=k:=by omega
        exact .inr (by rw [if_pos h3]; simpa using h1)
theorem lY {bs:List Bool}:∀ k,(asc bs k).Pairwise (·<·)
  | 0=>by simp [asc]
  | k+1=>by
    simp only [asc]
    rw [List.pairwise_append]
    refine ⟨lY k,by split <;> simp,fun a ha b hb=>?_⟩
    obtain ⟨i,rfl,h1,_⟩:=jh.1 ha
    split at hb
    · simp only [List.mem_singleton] at hb; omega
    · simp at hb
theorem ja:∀ {l1 l2:List Int},l1.Pairwise (·<·)→l2.Pairwise (·<·)→(∀ x,x ∈ l1↔x ∈ l2)→l1=l2
  | [],[],_,_,_=>rfl
  | [],b::t,_,_,h=>by have:=(h b).2 (by simp); simp at this
  | a::s,[],_,_,h=>by have:=(h a).1 (by simp); simp at this
  | a::s,b::t,h1,h2,h=>by
    obtain ⟨ha,hs⟩:=List.pairwise_cons.1 h1
    obtain ⟨hb,ht⟩:=List.pairwise_cons.1 h2
    have e:a=b:=by
      rcases List.mem_cons.1 ((h a).1 (by simp)) with e | h3
      · exact e
      · rcases List.mem_cons.1 ((h b).2 (by simp)) with e | h4
        · exact e.symm
        · have:=hb a h3; have:=ha b h4; omega
    subst e
    congr 1
    refine ja hs ht fun x=>?_
    constructor
    · intro hx
      rcases List.mem_cons.1 ((h x).1 (by simp [hx])) with e | h3
      · have:=ha x hx; omega
      · exact h3
    · intro hx
      rcases List.mem_cons.1 ((h x).2 (by simp [hx])) with e | h3
      · have:=hb x hx; omega
      · exact h3
theorem vg {l:List Int} (hn:l.Nodup):(srt l).Pairwise (·<·):=by
  have hp:(srt l).Perm l:=List.mergeSort_perm _ _
  have h1:(srt l).Pairwise (fun x y=>decide (x≤y)=true):=List.pairwise_mergeSort (by intro a b c; simp; omega) (by intro a b; simp; omega) l
  have h2:(srt l).Nodup:=hp.symm.nodup hn
  refine (h1.and h2).imp ?_
  intro a b ⟨h,hne⟩
  simp only [decide_eq_true_eq] at h
  omega
theorem lq {l:List Int} {bs:List Bool} {n:Nat} (hn:l.Nodup) (h:∀ t,t ∈ l↔∃ i:Nat,t=(i:Int)∧i<n∧bs.getD i false=true):srt l=asc bs n:=by
  refine ja (vg hn) (lY n) fun x=>?_
  rw [jh,← h x]
  exact (List.mergeSort_perm _ _).mem_iff
theorem aCb {n:Nat} {l:List Int} (hn:l.Nodup) (hl:∀ t ∈ l,0≤t∧t<(n:Int)):srt l=asc (marks n l l.length) n:=by
  refine lq hn fun t=>?_
  have hm:=gW hl l.length (Nat.le_refl _)
  simp only [List.take_length] at hm
  constructor
  · intro ht
    obtain ⟨h0,h1⟩:=hl t ht
    refine ⟨t.toNat,by omega,by omega,(hm _).2 (by rwa [Int.toNat_of_nonneg h0])⟩
  · rintro ⟨i,rfl,_,h⟩
    exact (hm i).1 h
end Det
namespace Det
def dw (W H:Nat) (least:Int) (bs:List Bool) (ks:List Int):Nat→List Bool × List (List Int)
  | 0=>(bs,[])
  | j+1=>if (dw W H least bs ks j).1.getD (ks.getD j 0).toNat false=true then
      ((part W H (dw W H least bs ks j).1 (ks.getD j 0).toNat).1,(dw W H least bs ks j).2++(if least≤((part W H (dw W H least bs ks j).1 (ks.getD j 0).toNat).2.length:Int) then [(part W H (dw W H least bs ks j).1 (ks.getD j 0).toNat).2] else []))
    else dw W H least bs ks j
section
variable {W H j q:Nat} {least:Int} {bs ins:List Bool} {xss:List (List Int)} {ks:List Int}
theorem ug (h:(ins,xss)=dw W H least bs ks j) (hq:ks.getD j 0=(q:Int)) (hc:¬ ins.getD q false=true):(ins,xss)=dw W H least bs ks (j+1):=by
  simp only [dw]; rw [← h,hq]; simp only [Int.toNat_natCast,if_neg hc]
theorem tQ (h:(ins,xss)=dw W H least bs ks j) (hq:ks.getD j 0=(q:Int)) (hc:ins.getD q false=true) (hl:¬ least≤((part W H ins q).2.length:Int)) :
    ((part W H ins q).1,xss)=dw W H least bs ks (j+1):=by
  simp only [dw]; rw [← h,hq]; simp only [Int.toNat_natCast,if_pos hc,if_neg hl,List.append_nil]
theorem vY (h:(ins,xss)=dw W H least bs ks j) (hq:ks.getD j 0=(q:Int)) (hc:ins.getD q false=true) (hl:least≤((part W H ins q).2.length:Int)) :
    ((part W H ins q).1,xss++[(part W H ins q).2])=dw W H least bs ks (j+1):=by
  simp only [dw]; rw [← h,hq]; simp only [Int.toNat_natCast,if_pos hc,if_pos hl]
end
def Sub (a b:List Bool):Prop:=∀ i,a.getD i false=true→b.getD i false=true
theorem Sub.refl (a:List Bool):Sub a a:=fun _ h=>h
theorem Sub.trans {a b c:List Bool} (h:Sub a b) (h':Sub b c):Sub a c:=fun i hi=>h' i (h i hi)
theorem Sub.aEb (a:List Bool) (q:Nat):Sub (a.set q false) a:=fun i hi=>by
  simp only [List.getD_eq_getElem?_getD,List.getElem?_set] at hi ⊢
  split at hi
  · split at hi <;> simp at hi
  · exact hi
theorem Sub.dm (s:List Bool × List Int) (i:Int):Sub (dm s i).1 s.1:=by
  unfold Det.dm
  split
  · exact Sub.aEb _ _
  · exact Sub.refl _
theorem Sub.bU (s:List Bool × List Int) (l:List Int):∀ j,Sub (bU s l j).1 s.1
  | 0=>Sub.refl _
  | j+1=>(Sub.dm _ _).trans (Sub.bU s l j)
theorem Sub.bfs (W H:Nat) (ins:List Bool) (first:Nat):∀ k,Sub (bfs W H ins first k).1 ins
  | 0=>Sub.aEb _ _
  | k+1=>by
    simp only [Det.bfs]
    split
    · exact (Sub.bU _ _ _).trans (Sub.bfs W H ins first k)
    · exact Sub.bfs W H ins first k
theorem Sub.part (W H:Nat) (ins:List Bool) (first:Nat):Sub (part W H ins first).1 ins:=Sub.bfs _ _ _ _ _
theorem Sub.bR (W H:Nat) (least:Int) (ins:List Bool):∀ k,Sub (bR W H least ins k).1 ins
  | 0=>Sub.refl _
  | k+1=>by
    simp only [Det.bR]
    split
    · exact (Sub.part _ _ _ _).trans (Sub.bR W H least ins k)
    · exact Sub.bR W H least ins k
theorem qL {W H:Nat} {least:Int} {bs:List Bool} {ks ys:List Int}:∀ j,j≤ks.length→dw W H least bs (ks++ys) j=dw W H least bs ks j
  | 0,_=>rfl
  | j+1,hj=>by
    have e:(ks++ys).getD j 0=ks.getD j 0:=by simp only [List.getD_eq_getElem?_getD]; rw [List.getElem?_append_left (by omega)]
    have ih:=qL (W:=W) (H:=H) (least:=least) (bs:=bs) (ks:=ks) (ys:=ys) j (by omega)
    simp only [dw,ih,e]
theorem qR {W H:Nat} {least:Int} {bs:List Bool}:∀ n,dw W H least bs (asc bs n) (asc bs n).length=bR W H least bs n
  | 0=>rfl
  | n+1=>by
    have ih:=qR (W:=W) (H:=H) (least:=least) (bs:=bs) n
    by_cases hb:bs.getD n false=true
    · rw [uK hb,List.length_append,List.length_singleton]
      have e:(asc bs n++[(n:Int)]).getD (asc bs n).length 0=(n:Int):=by simp
      simp only [dw,bR,qL _ (Nat.le_refl _),ih,e,Int.toNat_natCast]
    · rw [uo hb,ih]
      simp only [bR]
      rw [if_neg (fun h=>hb (Sub.bR W H least bs n n h))]
end Det
namespace Det
theorem oQ (n q:Nat):(List.replicate n false).getD q false=false:=by
  simp only [List.getD_eq_getElem?_getD,List.getElem?_replicate]
  split <;> rfl
theorem vH {k n:Nat} (h:k<n):List.replicate (n-k) false=false::List.replicate (n-(k+1)) false:=by
  rw [show n-k=(n-(k+1))+1 from by omega,List.replicate_succ]
theorem zn {zs:List Int} {bs:List Bool} {thr:Int} {k n:Nat} (hk:k<n) (hc:(!(bs.getD k false)&&decide (zs.getD k 0≥thr))=true) :
    (bright zs bs thr k++List.replicate (n-k) false).set k true=bright zs bs thr (k+1)++List.replicate (n-(k+1)) false:=by
  have hl:=fF (zs:=zs) (bs:=bs) (thr:=thr) k
  simp only [bright,hc]
  rw [vH hk,List.set_append_right _ _ (by omega),hl,Nat.sub_self]
  simp
theorem aAP {zs:List Int} {bs:List Bool} {thr:Int} {k n:Nat} (hk:k<n) (hc:(!(bs.getD k false)&&decide (zs.getD k 0≥thr))=false) :
    bright zs bs thr k++List.replicate (n-k) false=bright zs bs thr (k+1)++List.replicate (n-(k+1)) false:=by
  simp only [bright,hc]
  rw [vH hk]
  simp
end Det

namespace Go.SL
open Go Go.Proofs Go.Shelf Go.RowKit Go.Maps
theorem aDt (l:List Int):l.mergeSort (fun x y=>decide (x≤y))=Det.srt l:=rfl
theorem aBB {P:Program} {ρ:Ren} (lay:SlLaysM.n5 P ρ) (e:TypeId) (vX:Value) (l:List Int) (w0:World) (hX:dZ (hp w0) e 1 vX l.length (ints l)) (hl:l.length≤10000) :
    Ret P (ρ.f 5) #[vX] w0 (G:=Unit) (fun _=>.tuple #[]) (fun _ w=>St w0 w (fun b=>vX.ownBlock=some b) [] [sl e 1 vX (Det.srt l).length (ints (Det.srt l))]):=by
  have hlen:(Det.srt l).length=l.length:=List.length_mergeSort _
  have hS:=St.own hX
  rcases hX.2 with ⟨rfl,hn⟩ | ⟨g,cap,cur,rfl,hg,h1,h2,h3,h4⟩
  · obtain rfl:l=[]:=List.eq_nil_of_length_eq_zero hn
    refine Calls.mono (AnyM.slices_Sort_int_none lay none 0 w0) ?_
    rintro e w ⟨rfl,rfl⟩
    refine ⟨(),rfl,?_⟩
    rw [show Det.srt []=[] from by simp [Det.srt]]
    exact hS
  · have hb:w0.heap[g]? = some (.cells cur e (0,0)):=hg
    have hgl:=(Array.getElem?_eq_some_iff.1 hb).1
    have hm:l.length<4611686018427387904:=by omega
    refine Calls.mono (AnyM.slices_Sort_int lay g 0 cap l w0 (holds_of_blockI hb (by simpa [ints] using h4)) hgl hm) ?_
    rintro e' w ⟨rfl,n,os,rfl⟩
    refine ⟨(),rfl,?_⟩
    have hgb:=grownBy_sortedI (w:=w0) (g:=g) (n:=n) (os:=os) (Det.srt l).toArray
    have hrow:=ownsRow_sortedI (n:=n) (os:=os) (base:=0) (cap:=cap) (ts:=Det.srt l) (ss:=l) hlen (Nat.zero_le _) hb h1 h2 h3
    rw [aDt]
    generalize Sort.grow (Sort.putRow (Value.int .i64) (Sort.ahead w0 n) g 0 (Det.srt l).toArray) os=w at hgb hrow ⊢
    have hok:dZ (hp w) e 1 (.slice (some ⟨g,0,none⟩) l.length cap) (Det.srt l).length (ints (Det.srt l)):=by
      rw [hlen]; exact jO.2 hrow
    exact hS.write (i:=0) (p:=sl e 1 (.slice (some ⟨g,0,none⟩) l.length cap) l.length (ints l)) rfl hgb.os hgb.tape hgb.output hgb.size (fun b hb' hne=>hgb.block b hb' (fun e=>hne (by
      simp only [Option.some.injEq] at e; subst e; rfl))) hok (fun b hb'=>⟨.inl hb',by
        have:g=b:=by simpa [sl,Value.ownBlock] using hb'
        have:=hgb.size; omega⟩)
theorem insert_perm {H:Type} (x:Lit × DataW H):∀ l:List (Lit × DataW H),(DataW.insert x l).Perm (x::l)
  | []=>List.Perm.refl _
  | y::r=>by
    unfold DataW.insert
    split
    · exact List.Perm.refl _
    · exact ((insert_perm x r).cons y).trans (List.Perm.swap x y r)
theorem rf {H:Type}:∀ l:List (Lit × DataW H),(l.foldr DataW.insert []).Perm l
  | []=>List.Perm.refl _
  | x::r=>(insert_perm x _).trans ((rf r).cons x)
theorem aAu {P:Program} {k e:TypeId} {w:World} {b:Nat} {ins:List Bool} (hk:P.underlying k=some (.int .i64)) (he:P.underlying e=some .bool) (h:jC (hp w) b ins) (hl:ins.length≤10000) :
    ∃ D:DataW Unit,w.ownsMap P k (plainElem P e) b 10000 D∧(intKeys D).Nodup∧(∀ t,t ∈ intKeys D↔∃ i:Nat,t=(i:Int)∧i<ins.length∧ins.getD i false=true)∧Maps.size D≤10000:=by
  obtain ⟨es,c,ks,h1,hm,h0,hkm⟩:=h
  have h1:w.heap[b]? = some (.map es c):=h1
  have hlt:∀ i:Nat,ins.getD i false=true→i<ins.length:=fun i hi=>by
    rcases Nat.lt_or_ge i ins.length with h | h
    · exact h
    · simp [List.getD_eq_getElem?_getD,List.getElem?_eq_none h] at hi
  have hmem:∀ t,t ∈ ks↔∃ i:Nat,t=(i:Int)∧i<ins.length∧ins.getD i false=true:=fun t=>by
    constructor
    · intro ht
      obtain ⟨i,rfl⟩:=Int.eq_ofNat_of_zero_le (h0 t ht)
      have:=(hkm i).1 ht
      exact ⟨i,rfl,hlt i this,this⟩
    · rintro ⟨i,rfl,_,hi⟩
      exact (hkm i).2 hi
  have hlen:ks.length≤ins.length:=by
    have e1:=Det.lq hm.nodup hmem
    have e2:(Det.srt ks).length=ks.length:=List.length_mergeSort _
    have:=Det.oL (bs:=ins) ins.length
    rw [← e1] at this
    omega
  have hsz:es.size=ks.length:=by have:=congrArg List.length hm.keys; simpa using this
  have hrd:∀ x ∈ es.toList,∃ a:Int,x.key=.int .i64 a∧WideElems.rd P k (plainElem (H:=Unit) P e) x=some (.int .i64 a,.lit (.bool true)):=fun x hx=>by
    have:x.key ∈ es.toList.map (·.key):=List.mem_map.2 ⟨x,hx,rfl⟩
    rw [hm.keys] at this
    obtain ⟨a,ha,hka⟩:=List.mem_map.1 this
    obtain ⟨i,rfl,hi,_⟩:=(hmem a).1 ha
    refine ⟨(i:Int),hka.symm,?_⟩
    have hw:(Lit.int .i64 (i:Int)).wf=true:=by
      have e1:IntKind.i64.min=-9223372036854775808:=by decide
      have e2:IntKind.i64.max=9223372036854775807:=by decide
      simp only [Lit.wf,e1,e2,Bool.and_eq_true,decide_eq_true_eq]
      omega
    simp [WideElems.rd,← hka,keyOf_int_mk hk hw,hm.vals x hx,plainElem_bool he]
  refine ⟨.map ((es.toList.map (WideElems.rg P k (plainElem P e))).foldr DataW.insert []),⟨es,c,h1,⟨by unfold maxLen; omega,⟨hm.born,hm.apart,?_⟩,fun x hx=>?_⟩,by omega,rfl⟩,?_⟩
  · rw [hm.keys]
    refine List.pairwise_map.2 (hm.nodup.imp ?_)
    intro a b hne e
    exact hne (by simpa using e)
  · obtain ⟨a,_,h⟩:=hrd x hx; exact ⟨_,h⟩
  have hp:(intKeys (DataW.map ((es.toList.map (WideElems.rg P k (plainElem (H:=Unit) P e))).foldr DataW.insert []))).Perm ks:=by
    unfold intKeys
    refine ((rf _).map _).trans ?_
    have:((es.toList.map (WideElems.rg P k (plainElem (H:=Unit) P e))).map fun p=>intOf p.1)=ks:=by
      apply (List.map_inj_right (f:=Value.int .i64) (fun a b h=>by simpa using h)).1
      rw [← hm.keys,List.map_map,List.map_map]
      refine List.map_congr_left fun x hx=>?_
      obtain ⟨a,h2,h3⟩:=hrd x hx
      simp [WideElems.rg,h3,h2,intOf]
    rw [this]
  refine ⟨hp.symm.nodup hm.nodup,fun t=>by rw [hp.mem_iff]; exact hmem t,?_⟩
  have h5:=hp.length_eq
  simp only [intKeys,List.length_map] at h5
  simp only [Maps.size]
  omega
theorem Below.st {w w':World} (h:RowKit.Below w.heap.size w w'):St w w' noX [] [] :=
  ⟨h.os,h.tape,h.output,h.size,fun b hb _=>h.block b hb,trivial,by simp⟩
theorem ownsRow.st {w w':World} {e:TypeId} {v:Value} {n:Nat} {xs:List Value} (h:RowKit.Below w.heap.size w w') (hr:w'.ownsRow w.heap.size e 1 v n xs):St w w' noX [] [sl e 1 v n xs]:=by
  refine ⟨h.os,h.tape,h.output,h.size,fun b hb _=>h.block b hb,⟨⟨jO.2 ⟨hr.1,hr.2.imp id fun ⟨g,cap,cur,h1,h2,h3⟩=>⟨g,cap,cur,h1,Nat.zero_le _,h3⟩⟩,fun b hb=>?_,by simp⟩,trivial⟩,by simp⟩
  have:=hr.lt b hb
  exact ⟨this.2,.inr this.1⟩
end Go.SL
