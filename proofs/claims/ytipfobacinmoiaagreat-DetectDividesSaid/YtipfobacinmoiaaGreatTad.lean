/- Part of a proof: laws and walks. -/
import Derived.Test.YtipfobacinmoiaaGreatTac
import Derived.Shelf.SlIterI.Nil
import Derived.Shelf.SortM.Plain
import Derived.Shelf.SortM.SortNone
import Derived.Sort.OwnSortedInts
set_option linter.unusedVariables false
set_option linter.unusedSimpArgs false
namespace Go.SL
open Go
section
variable {r:Option Nat} {P:Program} {ops:Array Oper} {i n:Nat} {ds:List Deferred} {L:List (Nat × Value)} {a:Act} {w:World}
theorem gt {d:Nat} {v:Value} (hf:Fr a n ds L) (h:ai ops i=some d) (hl:lk L d=some v):∀ d',ai ops i=some d'→a.tmps[d']? = some v:=fun d' h'=>by
  rw [h] at h'
  cases h'
  exact hf.get _ _ hl
theorem ex {r:Option Nat} {Q:Exit→Act→World→Prop} {d q:Nat} {vs:Array Value} {x:Operand} {ty:TypeId} {v:Value} {rest:List Nat} (hf:Fr a n ds L) (h:opk n ops[i]? = some (d,.extract x q,ty)) (hx:ev L x=some (.tuple vs)) (hv:vs[q]? = some v) (k:∀ a',Fr a' n ds ((d,v)::L)→O r P ops Q rest a' w):O r P ops Q (i::rest) a w:=ov hf h (aA.extract hx hv) k
end
end Go.SL

namespace Go.SL
open Go
abbrev rI (v:Value) (l:List Int):Asr:=rdv 1 v l.length (ints l)
abbrev fG (x y:Int) (v:Value):Value:=.agg #[.int .i64 x,.int .i64 y,v]
abbrev pp (b:Nat):Value:=.pointer (some ⟨b,0,none⟩)
abbrev oB (v:Value):Nat→Prop:=fun b=>v.ownBlock=some b
abbrev nI (k:Nat):Value:=.int .i64 (k:Int)
section
variable {r:Option Nat} {P:Program} {ops:Array Oper} {i n:Nat} {ds:List Deferred} {L:List (Nat × Value)} {a:Act} {w:World} {d:Nat} {op:Op} {ty:TypeId} {v:Value} {D:World→Prop}
theorem aGL (h:mvk L n ops[i]? = some (d,v)):ai ops i=some d:=by
  unfold mvk at h
  unfold ai
  split at h
  · rename_i e
    split at h
    · obtain ⟨rfl,rfl⟩:=Prod.mk.inj (Option.some.inj h)
      rw [e]; rfl
    · cases h
  · rename_i e
    split at h
    · obtain ⟨rfl,rfl⟩:=Prod.mk.inj (Option.some.inj h)
      rw [e]; rfl
    · cases h
  · cases h
theorem aGX (h:opk n ops[i]? = some (d,op,ty)):ai ops i=some d:=by
  unfold opk at h
  unfold ai
  split at h
  · rename_i e
    split at h
    · cases h
      rw [e]; rfl
    · cases h
  · cases h
theorem aGr:lk ((d,v)::L) d=some v:=by simp [lk]
theorem qm (hf:Fr a n ds L) (h:mvk L n ops[i]? = some (d,v)) (hD:D w):O r P ops (fun e a' w'=>e=.normal∧Fr a' n ds []∧(∀ d',ai ops i=some d'→a'.tmps[d']? = some v)∧D w') [i] a w :=
  mv hf h fun a' hf=>O.nil ⟨rfl,hf.to trivial,gt hf (aGL h) aGr,hD⟩
theorem qv (hf:Fr a n ds L) (h:opk n ops[i]? = some (d,op,ty)) (hr:aA P n ds L op ty w v w) (hD:D w):O r P ops (fun e a' w'=>e=.normal∧Fr a' n ds []∧(∀ d',ai ops i=some d'→a'.tmps[d']? = some v)∧D w') [i] a w :=
  ov hf h hr fun a' hf=>O.nil ⟨rfl,hf.to trivial,gt hf (aGX h) aGr,hD⟩
end
theorem bsm:(∀ a b:Bool,((a&&b)=true)=(a=true∧b=true))∧(∀ a b:Bool,((a||b)=true)=(a=true∨b=true))∧(∀ a b:Bool,((a&&b)=false)=(a=false∨b=false))∧(∀ a b:Bool,((a||b)=false)=(a=false∧b=false))∧(∀ (p:Prop) [Decidable p],(decide p=true)=p)∧(∀ (p:Prop) [Decidable p],(decide p=false)=¬ p)∧(∀ a:Bool,((!a)=true)=(a=false))∧(∀ a:Bool,((!a)=false)=(a=true))∧(∀ a:Bool,(¬ a=true)=(a=false))∧(∀ a:Bool,(¬ a=false)=(a=true))∧(∀ a b:Int,(a≠b)=¬ a=b):=by
  refine ⟨by simp,by simp,fun a b=>?_,by simp,by simp,by simp,by simp,by simp,by simp,by simp,by simp⟩
  cases a <;> simp
section
variable {γ:Type} {r:Option Nat} {P:Program} {Q:Exit→Act→World→Prop} {ops:Array Oper} {n:Nat} {ds:List Deferred} {a:Act} {w:World}
theorem W.eY {id:Nat} {L0 L1:List (Nat × Value)} (g0:γ) (mk al qs:List Nat) (pl ma af ol:Nat→List Nat) (lov hiv:Nat→Nat) (val:γ→Nat→Value) (D:Nat→(Nat→Bool)→γ→World→Prop)
    (hmo:P.follows .mixedOrders=true)
    (hlo:(mk++al++qs).all (fun i=>(ma i).all al.contains&&Nat.ble (lov i) mk.length)=true)
    (hmk:(List.range mk.length).all (fun j=>Nat.beq (lov (mk.getD j 0)) j&&!al.contains (mk.getD j 0)&&(List.range j).all fun t=>!Nat.beq (mk.getD t 0) (mk.getD j 0))=true)
    (hchk:(rq ops&&ops.all (fun o=>bJ o.op)&&dQ ops (fT L0)&&(List.range ops.size).all (fun i=>(qs.contains i||(mk++al).contains i)&&(pl i).all (fun p=>(dA ops i).contains p)&&(mk.take (lov i)++ma i).all (fun p=>((jA ops).getD i []).contains p&&(mk++al).contains p)&&(mk.drop (hiv i)).all (fun j=>((jA ops).getD j []).contains i)&&(ol i).all (aA8 ops L1 i))&&(mk++al).all (fun i=>Nat.blt i ops.size)
      && vBm ops (jA ops)&&(mk++al).all (fun i=>(af i).all fun j=>((jA ops).getD j []).contains i)&&qs.all (fun i=>!(mk++al).contains i))=true)
    (hf:Fr a n ds L0) (hf1:Fr a n ds L1) (h0:D 0 (fun _=>false) g0 w.drew)
    (hq:Obl (fun i=>∀ k s g w,lov i≤k→k≤hiv i→(∀ p ∈ ma i,s p=true)→D k s g w→∀ a,Fr a n ds (slotsOf ops (val g) (pl i) (lW L1 (ol i) L0))→O r P ops (fun e a' w'=>e=.normal∧Fr a' n ds []∧(∀ d,ai ops i=some d→a'.tmps[d]? = some (val g i))∧D k s g w') [i] a w) qs)
    (hm:Stages (fun k i=>∀ s g w,(∀ p ∈ ma i,s p=true)→D k s g w→∀ a,Fr a n ds (slotsOf ops (val g) (pl i) (lW L1 (ol i) L0))→O r P ops (fun e a' w'=>e=.normal∧∃ g',Fr a' n ds []∧(∀ d,ai ops i=some d→a'.tmps[d]? = some (val g' i))∧(∀ j,j≠i→(af i).contains j=false→val g' j=val g j)∧D (k+1) s g' w') [i] a w) 0 mk)
    (ha:Obl (fun i=>∀ k s g w,lov i≤k→k≤hiv i→s i=false→D k s g w→∀ a,Fr a n ds (slotsOf ops (val g) (pl i) (lW L1 (ol i) L0))→O r P ops (fun e a' w'=>e=.normal∧∃ g',Fr a' n ds []∧(∀ d,ai ops i=some d→a'.tmps[d]? = some (val g' i))∧(∀ j,j≠i→(af i).contains j=false→val g' j=val g j)∧D k (upd s i) g' w') [i] a w) al)
    (hend:∀ s g a w,(∀ i ∈ al,s i=true)→Fr a n ds (slotsOf ops (val g) (List.range ops.size) L0)→D mk.length s g w→Q .normal a w):W r P (.region id ops true) Q a w :=
  W.aIY (L0:=L0) (L1:=L1) g0 mk al qs pl (fun i=>mk.take (lov i)++ma i) (fun i=>mk.drop (hiv i)) ma af ol lov hiv val D hmo (List.all_eq_true.2 fun i hi=>by
    have h:=List.all_eq_true.1 hlo i hi
    simp only [Bool.and_eq_true] at h ⊢
    exact ⟨⟨⟨beq_self_eq_true _,beq_self_eq_true _⟩,h.1⟩,h.2⟩) hmk hchk hf hf1 h0 hq hm ha hend
end
section
variable {r:Option Nat} {P:Program} {Q:Exit→Act→World→Prop} {ops:Array Oper} {a:Act} {w:World} {id:Nat}
theorem R1 (h:List.range ops.size=[0]) (k:O r P ops Q [0] a w):W r P (.region id ops false) Q a w:=W.aY h k
theorem R2 (h:List.range ops.size=[0,1]) (k:O r P ops Q [0,1] a w):W r P (.region id ops false) Q a w:=W.aY h k
theorem R3 (h:List.range ops.size=[0,1,2]) (k:O r P ops Q [0,1,2] a w):W r P (.region id ops false) Q a w:=W.aY h k
theorem R4 (h:List.range ops.size=[0,1,2,3]) (k:O r P ops Q [0,1,2,3] a w):W r P (.region id ops false) Q a w:=W.aY h k
theorem R5 (h:List.range ops.size=[0,1,2,3,4]) (k:O r P ops Q [0,1,2,3,4] a w):W r P (.region id ops false) Q a w:=W.aY h k
theorem R6 (h:List.range ops.size=[0,1,2,3,4,5]) (k:O r P ops Q [0,1,2,3,4,5] a w):W r P (.region id ops false) Q a w:=W.aY h k
theorem R7 (h:List.range ops.size=[0,1,2,3,4,5,6]) (k:O r P ops Q [0,1,2,3,4,5,6] a w):W r P (.region id ops false) Q a w:=W.aY h k
end
end Go.SL

namespace Go.SL
open Go
abbrev iV (x:Int):Value:=.int .i64 x
theorem vI {k:IntKind} {x y:Int} (h:x=y):some (Value.int k x)=some (Value.int k y):=by rw [h]
end Go.SL

namespace Go.SL
open Go
abbrev fB (f:FuncId) (x y:Int) (v:Value):Value:=.func (.func f) #[fG x y v] #[]
section
variable {γ:Type} {r:Option Nat} {P:Program} {ops:Array Oper} {i n lo hi m:Nat} {ds:List Deferred} {a:Act} {w:World}
theorem qq {K:List Nat} {L:γ→List (Nat × Value)} {d:Nat} {v:γ→Value} {D:Nat→(Nat→Bool)→γ→World→Prop} (h:∀ g,mvk (L g) n ops[i]? = some (d,v g)) :
    ∀ k s g w,lo≤k→k≤hi→(∀ p ∈ K,s p=true)→D k s g w→∀ a,Fr a n ds (L g)→O r P ops (fun e a' w'=>e=.normal∧Fr a' n ds []∧(∀ d',ai ops i=some d'→a'.tmps[d']? = some (v g))∧D k s g w') [i] a w :=
  fun _ _ g _ _ _ _ hD _ hf=>qm hf (h g) hD
theorem s1 {R:Nat→(Nat→Bool)→γ→World→Prop} (h:∀ s g w,R lo s g w) (e:hi=lo):∀ k s g w,lo≤k→k≤hi→R k s g w:=fun k s g w h1 h2=>by
  obtain rfl:k=lo:=by omega
  exact h s g w
theorem nU {L:List (Nat × Value)} {V:Unit→Value} {E:Unit→Nat→Value} {W:Nat→Value} {C:Nat→Prop} {D:Unit→World→Prop} (hf:Fr a n ds L) (h:ai ops i=none) (he:∀ j,E () j=W j) (hD:D () w) :
    O r P ops (fun e a' w'=>e=.normal∧∃ g',Fr a' n ds []∧(∀ d,ai ops i=some d→a'.tmps[d]? = some (V g'))∧(∀ j,j≠i→C j→E g' j=W j)∧D g' w') [] a w :=
  O.nil ⟨rfl,(),hf.to trivial,fun d hd=>(by rw [h] at hd; cases hd),fun j _ _=>he j,hD⟩
end
section
variable {P:Program} {ops:Array Oper} {C:World→Prop} {K:Act→Prop} {lo:List Oper} {a:Act} {n d:Nat} {ds:List Deferred} {L:List (Nat × Value)} {x:Operand} {v:Value} {ty:TypeId} {pos:String} {af:Array Edge}
theorem gm {jj dj:Nat} {want c:Bool} (hf:Fr a n ds L) (hj:(ops[jj]?).bind (·.dst)=some dj) (hv:lk L dj=some (.bool c)) (hc:c=want) (hd:Nat.blt d n=true) (hx:ev L x=some v) (k:∀ a',Fr a' n ds ((d,v)::L)→OQ P ops C K lo a'):OQ P ops C K (⟨some d,.move x,ty,pos,af,some (jj,want)⟩::lo) a :=
  OQ.gval hf hj hv hc hd (fun _ _=>aA.move hx) k
theorem q0 (hf:Fr a n ds L) (hd:Nat.blt d n=true) (hx:ev L x=some v) (k:∀ a',Fr a' n ds ((d,v)::L)→OQ P ops C K lo a'):OQ P ops C K (⟨some d,.move x,ty,pos,af,none⟩::lo) a :=
  OQ.val hf hd (fun _ _=>aA.move hx) k
end
end Go.SL

namespace Det
def bC (W H:Int) (zs:List Int):Prop :=
  1≤W∧W≤100∧1≤H∧H≤100∧(zs.length:Int)=W*H∧∀ j,j<zs.length→-4294967296≤zs.getD j 0∧zs.getD j 0≤4294967296
theorem wB {a b:Int} (h1:0≤a∧a≤100) (h2:0≤b∧b≤100):0≤a*b∧a*b≤10000:=by
  obtain ⟨x,rfl⟩:=Int.eq_ofNat_of_zero_le h1.1
  obtain ⟨y,rfl⟩:=Int.eq_ofNat_of_zero_le h2.1
  have hx:x≤100:=by omega
  have hy:y≤100:=by omega
  have:=Nat.mul_le_mul hx hy
  have h:((x:Int)*(y:Int))=((x*y:Nat):Int):=by simp
  rw [h]
  omega
def kC (W H x y:Nat) (u v:Int):Bool :=
  !((((decide (u<(0:Int))||decide (u≥(W:Int)))||decide (v<(0:Int)))||decide (v≥(H:Int)))||(decide (u=(x:Int))&&decide (v=(y:Int))))
def eX (W H x y:Nat) (v:Int):Nat→List Int
  | 0=>[]
  | l+1=>eX W H x y v l++(if kC W H x y ((x:Int)-1+(l:Int)) v then [v*(W:Int)+((x:Int)-1+(l:Int))] else [])
def dH (W H x y:Nat):Nat→List Int
  | 0=>[]
  | k+1=>dH W H x y k++eX W H x y ((y:Int)-1+(k:Int)) 3
def nb (W H i:Nat):List Int:=dH W H (i % W) (i/W) 3
theorem ku {W H x y l:Nat} {v:Int} (h:kC W H x y ((x:Int)-1+(l:Int)) v=true):eX W H x y v (l+1)=eX W H x y v l++[v*(W:Int)+((x:Int)-1+(l:Int))]:=by simp [eX,h]
theorem iQ {W H x y l:Nat} {v:Int} (h:kC W H x y ((x:Int)-1+(l:Int)) v=false):eX W H x y v (l+1)=eX W H x y v l:=by simp [eX,h]
def marks (n:Nat) (l:List Int):Nat→List Bool
  | 0=>List.replicate n false
  | k+1=>(marks n l k).set (Int.toNat (l.getD k 0)) true
theorem fu (n:Nat) (l:List Int):∀ k,(marks n l k).length=n
  | 0=>by simp [marks]
  | k+1=>by simp [marks,fu n l k]
def sameF (a b:Int) (zs:List Int) (c d:Int) (ys:List Int):Bool:=decide (a=c∧b=d∧zs=ys)
theorem aAe {zs ys:List Int} (hl:zs.length=ys.length) (h:∀ j,j<zs.length→zs.getD j 0=ys.getD j 0):zs=ys:=by
  apply List.ext_getElem hl
  intro i h1 h2
  have:=h i h1
  simpa [List.getD_eq_getElem?_getD,List.getElem?_eq_getElem h1,List.getElem?_eq_getElem h2] using this
theorem eU {p:Nat→Prop} {k:Nat} (h:∀ j,j<k→p j) (hk:p k):∀ j,j<k+1→p j:=fun j hj=>by
  rcases Nat.lt_or_ge j k with h1 | h1
  · exact h j h1
  · have:j=k:=by omega
    subst this; exact hk
end Det
namespace Det
theorem nQ {W H x y:Nat} {v:Int}:∀ {l:Nat} {t:Int},t ∈ eX W H x y v l→∃ u:Int,t=v*(W:Int)+u∧0≤u∧u<(W:Int)∧0≤v∧v<(H:Int)
  | 0,t,h=>by simp [eX] at h
  | l+1,t,h=>by
    by_cases hc:kC W H x y ((x:Int)-1+(l:Int)) v=true
    · rw [ku hc] at h
      rcases List.mem_append.1 h with h1 | h1
      · exact nQ h1
      · simp only [List.mem_singleton] at h1
        refine ⟨_,h1,?_⟩
        simp only [kC,Bool.not_eq_true',Bool.or_eq_false_iff,decide_eq_false_iff_not] at hc
        omega
    · rw [iQ (by simpa using hc)] at h
      exact nQ h
theorem ug {W H x y:Nat}:∀ {k:Nat} {t:Int},t ∈ dH W H x y k→∃ u v:Int,t=v*(W:Int)+u∧0≤u∧u<(W:Int)∧0≤v∧v<(H:Int)
  | 0,t,h=>by simp [dH] at h
  | k+1,t,h=>by
    simp only [dH] at h
    rcases List.mem_append.1 h with h1 | h1
    · exact ug h1
    · obtain ⟨u,hu⟩:=nQ h1
      exact ⟨u,_,hu⟩
theorem j6 {W H i:Nat} {t:Int} (h:t ∈ nb W H i):0≤t∧t<((W*H:Nat):Int):=by
  obtain ⟨u,v,rfl,h1,h2,h3,h4⟩:=ug h
  obtain ⟨a,rfl⟩:=Int.eq_ofNat_of_zero_le h1
  obtain ⟨b,rfl⟩:=Int.eq_ofNat_of_zero_le h3
  have hb:b+1≤H:=by omega
  have hm:(b+1)*W≤H*W:=Nat.mul_le_mul_right _ hb
  have e:(b:Int)*(W:Int)=((b*W:Nat):Int):=by simp
  rw [e,Nat.mul_comm W H]
  rw [Nat.add_mul] at hm
  constructor <;> omega
theorem bG {l:List Int} {j:Nat} (h:j<l.length):l.getD j 0 ∈ l:=by
  rw [List.getD_eq_getElem?_getD,List.getElem?_eq_getElem h]
  exact List.getElem_mem h
def dX (s:List Bool × List Int) (i:Int):List Bool × List Int :=
  if s.1.getD i.toNat false=true then (s.1.set i.toNat false,s.2++[i]) else s
def bI (s:List Bool × List Int) (l:List Int):Nat→List Bool × List Int
  | 0=>s
  | j+1=>dX (bI s l j) (l.getD j 0)
def bfs (W H:Nat) (ins:List Bool) (first:Nat):Nat→List Bool × List Int
  | 0=>(ins.set first false,[(first:Int)])
  | k+1=>if k<(bfs W H ins first k).2.length then
      bI (bfs W H ins first k) (nb W H ((bfs W H ins first k).2.getD k 0).toNat) (nb W H ((bfs W H ins first k).2.getD k 0).toNat).length
    else bfs W H ins first k
def Inv (n:Nat) (s:List Bool × List Int):Prop:=s.1.length=n∧s.2.length+s.1.count true≤n∧∀ t ∈ s.2,0≤t∧t<(n:Int)
theorem count_set {l:List Bool}:∀ {i:Nat},l.getD i false=true→(l.set i false).count true+1=l.count true:=by
  induction l with
  | nil=>intro i h; simp at h
  | cons b t ih =>
    intro i h
    cases i with
    | zero=>simp at h; subst h; simp
    | succ i =>
      simp only [List.getD_cons_succ] at h
      have:=ih h
      simp only [List.set_cons_succ,List.count_cons]
      omega
theorem Inv.dX {n:Nat} {s:List Bool × List Int} {i:Int} (h:Inv n s) (hi:0≤i∧i<(n:Int)):Inv n (dX s i):=by
  unfold Det.dX
  split
  · rename_i hc
    refine ⟨by simpa using h.1,?_,?_⟩
    · have:=count_set hc
      have:=h.2.1
      simp only [List.length_append,List.length_singleton]
      omega
    · intro t ht
      rcases List.mem_append.1 ht with h1 | h1
      · exact h.2.2 t h1
      · simp only [List.mem_singleton] at h1; subst h1; exact hi
  · exact h
theorem Inv.bI {n:Nat} {s:List Bool × List Int} {l:List Int} (h:Inv n s) (hl:∀ t ∈ l,0≤t∧t<(n:Int)):∀ j,j≤l.length→Inv n (bI s l j)
  | 0,_=>h
  | j+1,hj=>Inv.dX (Inv.bI h hl j (by omega)) (hl _ (bG (by omega)))
theorem Inv.start {n first:Nat} {ins:List Bool} (hn:ins.length=n) (hf:first<n):Inv n (ins.set first false,[(first:Int)]):=by
  refine ⟨by simpa using hn,?_,?_⟩
  · have h1:(ins.set first false).count true<n:=by
      have hle:(ins.set first false).count true≤(ins.set first false).length:=List.count_le_length
      rcases Nat.lt_or_ge ((ins.set first false).count true) n with h | h
      · exact h
      · have he:(ins.set first false).count true=(ins.set first false).length:=by simp only [List.length_set] at hle ⊢; omega
        have hall:=List.count_eq_length.1 he
        have hm:false ∈ ins.set first false:=List.mem_iff_getElem.2 ⟨first,by simp; omega,by simp⟩
        have:=hall false hm
        cases this
    simp only [List.length_singleton]; omega
  · intro t ht
    simp only [List.mem_singleton] at ht
    subst ht
    omega
theorem kV {s s':List Bool × List Int} {l:List Int} {j:Nat} (h:s'=bI s l j) (hc:s'.1.getD (l.getD j 0).toNat false=true) :
    (s'.1.set (l.getD j 0).toNat false,s'.2++[l.getD j 0])=bI s l (j+1):=by
  subst h
  simp only [bI,dX,if_pos hc]
theorem kR {s s':List Bool × List Int} {l:List Int} {j:Nat} (h:s'=bI s l j) (hc:¬ s'.1.getD (l.getD j 0).toNat false=true):s'=bI s l (j+1):=by
  subst h
  simp only [bI,dX,if_neg hc]
theorem zF {W H first k:Nat} {ins:List Bool} {s:List Bool × List Int} (h:s=bfs W H ins first k) (hk:k<s.2.length) :
    bI s (nb W H (s.2.getD k 0).toNat) (nb W H (s.2.getD k 0).toNat).length=bfs W H ins first (k+1):=by
  subst h
  simp only [bfs]
  rw [if_pos hk]
theorem zC {W H first k:Nat} {ins:List Bool} (hk:(bfs W H ins first k).2.length≤k):∀ j,bfs W H ins first (k+j)=bfs W H ins first k
  | 0=>rfl
  | j+1=>by
    have ih:=zC hk j
    show bfs W H ins first ((k+j)+1)=_
    simp only [bfs,ih]
    rw [if_neg (by omega)]
def asc (bs:List Bool):Nat→List Int
  | 0=>[]
  | k+1=>asc bs k++(if bs.getD k false=true then [(k:Int)] else [])
theorem zH {bs:List Bool} {k:Nat} (h:bs.getD k false=true):asc bs (k+1)=asc bs k++[(k:Int)]:=by simp only [asc,if_pos h]
theorem yY {bs:List Bool} {k:Nat} (h:¬ bs.getD k false=true):asc bs (k+1)=asc bs k:=by simp only [asc,if_neg h,List.append_nil]
theorem pX {bs:List Bool}:∀ k,(asc bs k).length≤k
  | 0=>by simp [asc]
  | k+1=>by
    have:=pX (bs:=bs) k
    simp only [asc,List.length_append]
    split <;> simp <;> omega
def part (W H:Nat) (ins:List Bool) (first:Nat):List Bool × List Int :=
  ((bfs W H ins first (W*H)).1,asc (marks (W*H) (bfs W H ins first (W*H)).2 (bfs W H ins first (W*H)).2.length) (W*H))
theorem aB9 {W H first:Nat} {ins0 ins:List Bool} {todo:List Int} (h:(ins,todo)=bfs W H ins0 first todo.length) (hle:todo.length≤W*H) :
    part W H ins0 first=(ins,asc (marks (W*H) todo todo.length) (W*H)):=by
  have hs:bfs W H ins0 first (W*H)=(ins,todo):=by
    have:=zC (W:=W) (H:=H) (first:=first) (ins:=ins0) (k:=todo.length) (by rw [← h]; exact Nat.le_refl _) (W*H-todo.length)
    rw [show todo.length+(W*H-todo.length)=W*H from by omega] at this
    rw [this,h]
  unfold part
  rw [hs]
theorem nS {W H first:Nat} {ins:List Bool} (hn:ins.length=W*H) (hf:first<W*H):∀ k,Inv (W*H) (bfs W H ins first k)
  | 0=>Inv.start hn hf
  | k+1=>by
    have ih:=nS hn hf k
    simp only [bfs]
    split
    · exact Inv.bI ih (fun t ht=>j6 ht) _ (Nat.le_refl _)
    · exact ih
theorem kg {W H first:Nat} {ins:List Bool} (hn:ins.length=W*H) (hf:first<W*H):(part W H ins first).1.length=W*H:=(nS hn hf _).1
theorem aBY {W H first:Nat} {ins:List Bool}:(part W H ins first).2.length≤W*H:=pX _
def bT (W H:Nat) (least:Int) (ins:List Bool):Nat→List Bool × List (List Int)
  | 0=>(ins,[])
  | k+1=>if (bT W H least ins k).1.getD k false=true then
      ((part W H (bT W H least ins k).1 k).1,(bT W H least ins k).2++(if least≤((part W H (bT W H least ins k).1 k).2.length:Int) then [(part W H (bT W H least ins k).1 k).2] else []))
    else bT W H least ins k
theorem yC {W H k:Nat} {least:Int} {bs ins:List Bool} {xss:List (List Int)} (h:(ins,xss)=bT W H least bs k) (hc:¬ ins.getD k false=true):(ins,xss)=bT W H least bs (k+1):=by
  simp only [bT]; rw [← h]; simp only [if_neg hc]
theorem vZ {W H k:Nat} {least:Int} {bs ins:List Bool} {xss:List (List Int)} (h:(ins,xss)=bT W H least bs k) (hc:ins.getD k false=true) (hl:¬ least≤((part W H ins k).2.length:Int)) :
    ((part W H ins k).1,xss)=bT W H least bs (k+1):=by
  simp only [bT]; rw [← h]; simp only [if_pos hc,if_neg hl,List.append_nil]
theorem yD {W H k:Nat} {least:Int} {bs ins:List Bool} {xss:List (List Int)} (h:(ins,xss)=bT W H least bs k) (hc:ins.getD k false=true) (hl:least≤((part W H ins k).2.length:Int)) :
    ((part W H ins k).1,xss++[(part W H ins k).2])=bT W H least bs (k+1):=by
  simp only [bT]; rw [← h]; simp only [if_pos hc,if_pos hl]
def bright (zs:List Int) (bs:List Bool) (thr:Int):Nat→List Bool
  | 0=>[]
  | k+1=>bright zs bs thr k++[!(bs.getD k false)&&decide (zs.getD k 0≥thr)]
theorem wS {a b:Int} (h1:1≤a) (h2:1≤b):1≤a*b:=Int.add_one_le_of_lt (Int.mul_pos (by omega) (by omega))
def pE (l:List Int):Int:=l.foldl (fun a b=>if a<b then b else a) (l.getD 0 0)
def yo (l:List Int):Int:=l.foldl (fun a b=>if b<a then b else a) (l.getD 0 0)
theorem wC:∀ (l:List Int) (a:Int),a≤l.foldl (fun a b=>if a<b then b else a) a∧(∀ j,j<l.length→l.getD j 0≤l.foldl (fun a b=>if a<b then b else a) a) ∧
    (l.foldl (fun a b=>if a<b then b else a) a=a∨∃ j,j<l.length∧l.getD j 0=l.foldl (fun a b=>if a<b then b else a) a)
  | [],a=>⟨by simp,by simp,.inl rfl⟩
  | x::t,a=>by
    obtain ⟨h1,h2,h3⟩:=wC t (if a<x then x else a)
    simp only [List.foldl_cons]
    generalize List.foldl (fun a b=>if a<b then b else a) (if a<x then x else a) t=r at *
    refine ⟨by split at h1 <;> omega,fun j hj=>?_,?_⟩
    · cases j with
      | zero=>simp only [List.getD_cons_zero]; split at h1 <;> omega
      | succ j=>simpa using h2 j (by simpa using hj)
    · rcases h3 with h3 | ⟨j,hj,h3⟩
      · split at h3
        · exact .inr ⟨0,by simp,by simp [h3]⟩
        · exact .inl h3
      · exact .inr ⟨j+1,by simpa using hj,by simpa using h3⟩
theorem wW:∀ (l:List Int) (a:Int),l.foldl (fun a b=>if b<a then b else a) a≤a∧(∀ j,j<l.length→l.foldl (fun a b=>if b<a then b else a) a≤l.getD j 0) ∧
    (l.foldl (fun a b=>if b<a then b else a) a=a∨∃ j,j<l.length∧l.getD j 0=l.foldl (fun a b=>if b<a then b else a) a)
  | [],a=>⟨by simp,by simp,.inl rfl⟩
  | x::t,a=>by
    obtain ⟨h1,h2,h3⟩:=wW t (if x<a then x else a)
    simp only [List.foldl_cons]
    generalize List.foldl (fun a b=>if b<a then b else a) (if x<a then x else a) t=r at *
    refine ⟨by split at h1 <;> omega,fun j hj=>?_,?_⟩
    · cases j with
      | zero=>simp only [List.getD_cons_zero]; split at h1 <;> omega
      | succ j=>simpa using h2 j (by simpa using hj)
    · rcases h3 with h3 | ⟨j,hj,h3⟩
      · split at h3
        · exact .inr ⟨0,by simp,by simp [h3]⟩
        · exact .inl h3
      · exact .inr ⟨j+1,by simpa using hj,by simpa using h3⟩
theorem aAy {l:List Int} {j:Nat} (hj:j<l.length):l.getD j 0≤pE l:=(wC l _).2.1 j hj
theorem aBQ {l:List Int} (h:0<l.length):∃ j,j<l.length∧l.getD j 0=pE l:=by
  rcases (wC l (l.getD 0 0)).2.2 with h1 | h1
  · exact ⟨0,h,h1.symm⟩
  · exact h1
theorem aBB {l:List Int} {j:Nat} (hj:j<l.length):yo l≤l.getD j 0:=(wW l _).2.1 j hj
theorem aA4 {l:List Int} (h:0<l.length):∃ j,j<l.length∧l.getD j 0=yo l:=by
  rcases (wW l (l.getD 0 0)).2.2 with h1 | h1
  · exact ⟨0,h,h1.symm⟩
  · exact h1
theorem aFw {l:List Int} {m:Int} (h1:∀ j,j<l.length→l.getD j 0≤m) (h2:∃ j,j<l.length∧l.getD j 0=m):m=pE l:=by
  obtain ⟨j,hj,rfl⟩:=h2
  obtain ⟨i,hi,h⟩:=aBQ (l:=l) (by omega)
  have:=h1 i hi
  have:=aAy hj
  omega
theorem aFI {l:List Int} {m:Int} (h1:∀ j,j<l.length→m≤l.getD j 0) (h2:∃ j,j<l.length∧l.getD j 0=m):m=yo l:=by
  obtain ⟨j,hj,rfl⟩:=h2
  obtain ⟨i,hi,h⟩:=aA4 (l:=l) (by omega)
  have:=h1 i hi
  have:=aBB hj
  omega
open Classical in
noncomputable def ze (W H:Int) (zs:List Int) (bs:List Bool) (thr least:Int):Int :=
  if bC W H zs then (if bs.length=zs.length∧-4294967296≤thr∧thr≤4294967296∧1≤least then 0 else 2) else 8
noncomputable def partsR (W H:Int) (zs:List Int) (bs:List Bool) (thr least:Int):List (List Int) :=
  if ze W H zs bs thr least=0 then (bT W.toNat H.toNat least (bright zs bs thr zs.length) zs.length).2 else []
theorem zN {xss yss:List (List Int)} (hl:xss.length=yss.length) (h1:∀ j,j<xss.length→(xss.getD j []).length=(yss.getD j []).length)
    (h2:∀ j,j<xss.length→∀ q,q<(xss.getD j []).length→(xss.getD j []).getD q 0=(yss.getD j []).getD q 0):xss=yss:=by
  apply List.ext_getElem hl
  intro i g1 g2
  have e1:xss.getD i []=xss[i]:=by simp [List.getD_eq_getElem?_getD,List.getElem?_eq_getElem g1]
  have e2:yss.getD i []=yss[i]:=by simp [List.getD_eq_getElem?_getD,List.getElem?_eq_getElem g2]
  rw [← e1,← e2]
  exact aAe (h1 i g1) (h2 i g1)
end Det
namespace Det
theorem qi {W H x y:Nat} {v:Int} (h:v<0∨(H:Int)≤v):∀ l,eX W H x y v l=[]
  | 0=>rfl
  | l+1=>by
    rw [iQ,qi h l]
    simp only [kC,Bool.not_eq_false',Bool.or_eq_true,decide_eq_true_eq]
    rcases h with h | h
    · exact .inl (.inl (.inr h))
    · exact .inl (.inr h)
theorem aAt {W H x y:Nat} {v:Int} (h:x=0):eX W H x y v 1=[]:=by
  subst h
  have:=iQ (W:=W) (H:=H) (x:=0) (y:=y) (v:=v) (l:=0) (by simp [kC])
  rw [this]; rfl
theorem uI {W H x y l:Nat} {v:Int} (h:(W:Int)≤(x:Int)-1+(l:Int)):∀ m,eX W H x y v (l+m)=eX W H x y v l
  | 0=>rfl
  | m+1=>by
    rw [← Nat.add_assoc,iQ,uI h m]
    simp only [kC,Bool.not_eq_false',Bool.or_eq_true,decide_eq_true_eq]
    exact .inl (.inl (.inl (.inr (by omega))))
theorem aDg {W H x y l:Nat} {v:Int} (hl:l≤3) (h:l=3∨(W:Int)≤(x:Int)-1+(l:Int)):eX W H x y v l=eX W H x y v 3:=by
  rcases h with rfl | h
  · rfl
  · have:=uI (H:=H) (y:=y) (v:=v) h (3-l)
    rw [show l+(3-l)=3 from by omega] at this
    exact this.symm
theorem yX {W H x y:Nat} (h:y=0):dH W H x y 1=[]:=by
  subst h
  simp only [dH,List.nil_append]
  exact qi (.inl (by simp)) 3
theorem qb {W H x y k:Nat} (h:(H:Int)≤(y:Int)-1+(k:Int)):∀ m,dH W H x y (k+m)=dH W H x y k
  | 0=>rfl
  | m+1=>by
    rw [← Nat.add_assoc]
    simp only [dH]
    rw [qi (.inr (by omega)),List.append_nil,qb h m]
theorem aCX {W H x y k:Nat} (hk:k≤3) (h:k=3∨(H:Int)≤(y:Int)-1+(k:Int)):dH W H x y k=dH W H x y 3:=by
  rcases h with rfl | h
  · rfl
  · have:=qb (W:=W) (x:=x) h (3-k)
    rw [show k+(3-k)=3 from by omega] at this
    exact this.symm
theorem aE1 {W H x y:Nat} {v:Int} {l m:Nat} (h:l≤m):∃ t,eX W H x y v m=eX W H x y v l++t:=by
  induction m with
  | zero => obtain rfl : l = 0 := by omega
            exact ⟨[],by simp⟩
  | succ m ih =>
    rcases Nat.lt_or_ge m l with h1 | h1
    · obtain rfl:l=m+1:=by omega
      exact ⟨[],by simp⟩
    · obtain ⟨t,ht⟩:=ih h1
      exact ⟨_,by simp only [eX]; rw [ht,List.append_assoc]⟩
theorem aCa {W H x y:Nat} {k m:Nat} (h:k≤m):∃ t,dH W H x y m=dH W H x y k++t:=by
  induction m with
  | zero => obtain rfl : k = 0 := by omega
            exact ⟨[],by simp⟩
  | succ m ih =>
    rcases Nat.lt_or_ge m k with h1 | h1
    · obtain rfl:k=m+1:=by omega
      exact ⟨[],by simp⟩
    · obtain ⟨t,ht⟩:=ih h1
      exact ⟨_,by simp only [dH]; rw [ht,List.append_assoc]⟩
theorem aIV {W H x y k l:Nat} (hk:k<3) (hl:l<3) (h:kC W H x y ((x:Int)-1+(l:Int)) ((y:Int)-1+(k:Int))=true) :
    (dH W H x y 3)[(dH W H x y k).length+(eX W H x y ((y:Int)-1+(k:Int)) l).length]? = some (((y:Int)-1+(k:Int))*(W:Int)+((x:Int)-1+(l:Int))):=by
  obtain ⟨t,ht⟩:=aCa (W:=W) (H:=H) (x:=x) (y:=y) (show k+1≤3 by omega)
  obtain ⟨t',ht'⟩:=aE1 (W:=W) (H:=H) (x:=x) (y:=y) (v:=(y:Int)-1+(k:Int)) (show l+1≤3 by omega)
  have e:dH W H x y (k+1)=dH W H x y k++eX W H x y ((y:Int)-1+(k:Int)) 3:=rfl
  rw [ht,e,ht',ku h]
  simp only [List.append_assoc]
  rw [List.getElem?_append_right (by omega),List.getElem?_append_right (by omega)]
  simp
theorem aHe {W x y:Nat} {u v:Int} (hu:0≤u) (hu2:u<(W:Int)) (hv:0≤v) (hx:x<W):v*(W:Int)+u=((y*W+x:Nat):Int)↔(u=(x:Int)∧v=(y:Int)):=by
  obtain ⟨a,rfl⟩:=Int.eq_ofNat_of_zero_le hu
  obtain ⟨b,rfl⟩:=Int.eq_ofNat_of_zero_le hv
  have ha:a<W:=by omega
  constructor
  · intro h
    have h':b*W+a=y*W+x:=by
      have:((b*W+a:Nat):Int)=((y*W+x:Nat):Int):=by simpa using h
      exact Int.ofNat_inj.1 this
    have h1:(b*W+a)/W=b:=by rw [Nat.mul_comm,Nat.mul_add_div (by omega),Nat.div_eq_of_lt ha]; rfl
    have h2:(y*W+x)/W=y:=by rw [Nat.mul_comm,Nat.mul_add_div (by omega),Nat.div_eq_of_lt hx]; rfl
    have h3:b=y:=by rw [← h1,← h2,h']
    subst h3
    exact ⟨by omega,rfl⟩
  · rintro ⟨h1,h2⟩
    have h1:a=x:=by omega
    have h2:b=y:=by omega
    subst h1 h2
    simp
end Det
namespace Det
theorem oL {s:List Bool × List Int} {l:List Int}:∀ j,s.2.length≤(bI s l j).2.length
  | 0=>Nat.le_refl _
  | j+1=>by
    have:=oL (s:=s) (l:=l) j
    simp only [bI,dX]
    split
    · simp; omega
    · exact this
def Inv2 (s:List Bool × List Int):Prop:=s.2.Nodup∧∀ t ∈ s.2,0≤t∧s.1.getD t.toNat false=false
theorem Inv2.start {first:Nat} {ins:List Bool}:Inv2 (ins.set first false,[(first:Int)]):=by
  refine ⟨by simp,fun t ht=>?_⟩
  simp only [List.mem_singleton] at ht
  subst ht
  refine ⟨by omega,?_⟩
  simp only [List.getD_eq_getElem?_getD,Int.toNat_natCast,List.getElem?_set]
  by_cases h:first<ins.length <;> simp [h]
theorem Inv2.take {q:Nat} {ins:List Bool} {l:List Int} (h:Inv2 (ins,l)) (hc:ins.getD q false=true):Inv2 (ins.set q false,l++[(q:Int)]):=by
  have hq:(q:Int) ∉ l:=fun hm=>by
    have:=(h.2 _ hm).2
    rw [Int.toNat_natCast,hc] at this
    cases this
  refine ⟨?_,fun t ht=>?_⟩
  · rw [List.nodup_append]
    exact ⟨h.1,by simp,fun x hx y hy e=>by simp only [List.mem_singleton] at hy; subst hy; exact hq (e▸hx)⟩
  · rcases List.mem_append.1 ht with ht | ht
    · obtain ⟨h0,h1⟩:=h.2 t ht
      refine ⟨h0,?_⟩
      by_cases e:q=t.toNat
      · rw [e,h1] at hc; cases hc
      · simp only [List.getD_eq_getElem?_getD,List.getElem?_set,if_neg e]
        simpa [List.getD_eq_getElem?_getD] using h1
    · simp only [List.mem_singleton] at ht
      subst ht
      refine ⟨by omega,?_⟩
      simp only [List.getD_eq_getElem?_getD,Int.toNat_natCast,List.getElem?_set]
      by_cases h:q<ins.length <;> simp [h]
theorem Inv.take {n q:Nat} {ins:List Bool} {l:List Int} (h:Inv n (ins,l)) (hq:q<n) (hc:ins.getD q false=true):Inv n (ins.set q false,l++[(q:Int)]):=by
  have:=Inv.dX h (i:=(q:Int)) (by omega)
  unfold Det.dX at this
  rwa [if_pos (show (ins,l).1.getD ((q:Int)).toNat false=true from hc)] at this
def srt (l:List Int):List Int:=l.mergeSort (fun x y=>decide (x≤y))
theorem gY {n:Nat} {l:List Int} (hl:∀ t ∈ l,0≤t∧t<(n:Int)):∀ k,k≤l.length→∀ i:Nat,(marks n l k).getD i false=true↔(i:Int) ∈ l.take k
  | 0,_,i=>by
    simp only [marks,List.take_zero,List.not_mem_nil,iff_false,List.getD_eq_getElem?_getD,List.getElem?_replicate]
    split <;> simp
  | k+1,hk,i=>by
    have ih:=gY hl k (by omega) i
    have hkl:k<l.length:=by omega
    have hg:l.getD k 0=l[k]:=by simp [List.getD_eq_getElem?_getD,hkl]
    have hb:=hl l[k] (List.getElem_mem hkl)
    have e:l.take (k+1)=l.take k++[l[k]]:=by rw [List.take_add_one,List.getElem?_eq_getElem hkl]; rfl
    rw [e,List.mem_append,← ih,List.mem_singleton]
    have hlen:=fu n l k
    simp only [marks,hg,List.getD_eq_getElem?_getD,List.getElem?_set]
    by_cases hi:(l[k]).toNat=i
    · rw [if_pos hi,if_pos (by omega)]
      simp only [Option.getD_some,true_iff]
      exact .inr (by omega)
    · rw [if_neg hi]
      constructor
      · exact .inl
      · rintro (h | h)
        · exact h
        · exact absurd (by omega) hi
theorem jw {bs:List Bool} {t:Int}:∀ {k:Nat},t ∈ asc bs k↔∃ i:Nat,t=(i:Int)∧i<k∧bs.getD i false=true
  | 0=>by simp [asc]
  | k+1=>by
    simp only [asc,List.mem_append,jw (k:=k)]
    constructor
    · rintro (⟨i,h1,h2,h3⟩ | h)
      · exact ⟨i,h1,by omega,h3⟩
      · split at h
        · rename_i hb; simp only [List.mem_singleton] at h; exact ⟨k,h,by omega,hb⟩
        · simp at h
    · rintro ⟨i,h1,h2,h3⟩
      rcases Nat.lt_or_ge i k with h | h
      · exact .inl ⟨i,h1,h,h3⟩
      · obtain rfl:i=k:=by omega
        exact .inr (by rw [if_pos h3]; simpa using h1)
theorem mV {bs:List Bool}:∀ k,(asc bs k).Pairwise (·<·)
  | 0=>by simp [asc]
  | k+1=>by
    simp only [asc]
    rw [List.pairwise_append]
    refine ⟨mV k,by split <;> simp,fun a ha b hb=>?_⟩
    obtain ⟨i,rfl,h1,_⟩:=jw.1 ha
    split at hb
    · simp only [List.mem_singleton] at hb; omega
    · simp at hb
theorem jy:∀ {l1 l2:List Int},l1.Pairwise (·<·)→l2.Pairwise (·<·)→(∀ x,x ∈ l1↔x ∈ l2)→l1=l2
  | [],[],_,_,_=>rfl
  | [],b::t,_,_,h=>by have:=(h b).2 (by simp); simp at this
  | a::s,[],_,_,h=>by have:=(h a).1 (by simp); simp at this
  | a::s,b::t,h1,h2,h=>by
    obtain ⟨ha,hs⟩:=List.pairwise_cons.1 h1
    obtain ⟨hb,ht⟩:=List.pairwise_cons.1 h2
    have e:a=b:=by
      rcases List.mem_cons.1 ((h a).1 (by simp)) with e | h3
      · exact e
      · rcases List.mem_cons.1 ((h b).2 (by simp)) with e | h4
        · exact e.symm
        · have:=hb a h3; have:=ha b h4; omega
    subst e
    congr 1
    refine jy hs ht fun x=>?_
    constructor
    · intro hx
      rcases List.mem_cons.1 ((h x).1 (by simp [hx])) with e | h3
      · have:=ha x hx; omega
      · exact h3
    · intro hx
      rcases List.mem_cons.1 ((h x).2 (by simp [hx])) with e | h3
      · have:=hb x hx; omega
      · exact h3
theorem zP {l:List Int} (hn:l.Nodup):(srt l).Pairwise (·<·):=by
  have hp:(srt l).Perm l:=List.mergeSort_perm _ _
  have h1:(srt l).Pairwise (fun x y=>decide (x≤y)=true):=List.pairwise_mergeSort (by intro a b c; simp; omega) (by intro a b; simp; omega) l
  have h2:(srt l).Nodup:=hp.symm.nodup hn
  refine (h1.and h2).imp ?_
  intro a b ⟨h,hne⟩
  simp only [decide_eq_true_eq] at h
  omega
theorem mE {l:List Int} {bs:List Bool} {n:Nat} (hn:l.Nodup) (h:∀ t,t ∈ l↔∃ i:Nat,t=(i:Int)∧i<n∧bs.getD i false=true):srt l=asc bs n:=by
  refine jy (zP hn) (mV n) fun x=>?_
  rw [jw,← h x]
  exact (List.mergeSort_perm _ _).mem_iff
theorem aFb {n:Nat} {l:List Int} (hn:l.Nodup) (hl:∀ t ∈ l,0≤t∧t<(n:Int)):srt l=asc (marks n l l.length) n:=by
  refine mE hn fun t=>?_
  have hm:=gY hl l.length (Nat.le_refl _)
  simp only [List.take_length] at hm
  constructor
  · intro ht
    obtain ⟨h0,h1⟩:=hl t ht
    refine ⟨t.toNat,by omega,by omega,(hm _).2 (by rwa [Int.toNat_of_nonneg h0])⟩
  · rintro ⟨i,rfl,_,h⟩
    exact (hm i).1 h
end Det
namespace Det
def di (W H:Nat) (least:Int) (bs:List Bool) (ks:List Int):Nat→List Bool × List (List Int)
  | 0=>(bs,[])
  | j+1=>if (di W H least bs ks j).1.getD (ks.getD j 0).toNat false=true then
      ((part W H (di W H least bs ks j).1 (ks.getD j 0).toNat).1,(di W H least bs ks j).2++(if least≤((part W H (di W H least bs ks j).1 (ks.getD j 0).toNat).2.length:Int) then [(part W H (di W H least bs ks j).1 (ks.getD j 0).toNat).2] else []))
    else di W H least bs ks j
section
variable {W H j q:Nat} {least:Int} {bs ins:List Bool} {xss:List (List Int)} {ks:List Int}
theorem xL (h:(ins,xss)=di W H least bs ks j) (hq:ks.getD j 0=(q:Int)) (hc:¬ ins.getD q false=true):(ins,xss)=di W H least bs ks (j+1):=by
  simp only [di]; rw [← h,hq]; simp only [Int.toNat_natCast,if_neg hc]
theorem wD (h:(ins,xss)=di W H least bs ks j) (hq:ks.getD j 0=(q:Int)) (hc:ins.getD q false=true) (hl:¬ least≤((part W H ins q).2.length:Int)) :
    ((part W H ins q).1,xss)=di W H least bs ks (j+1):=by
  simp only [di]; rw [← h,hq]; simp only [Int.toNat_natCast,if_pos hc,if_neg hl,List.append_nil]
theorem xk (h:(ins,xss)=di W H least bs ks j) (hq:ks.getD j 0=(q:Int)) (hc:ins.getD q false=true) (hl:least≤((part W H ins q).2.length:Int)) :
    ((part W H ins q).1,xss++[(part W H ins q).2])=di W H least bs ks (j+1):=by
  simp only [di]; rw [← h,hq]; simp only [Int.toNat_natCast,if_pos hc,if_pos hl]
end
def Sub (a b:List Bool):Prop:=∀ i,a.getD i false=true→b.getD i false=true
theorem Sub.refl (a:List Bool):Sub a a:=fun _ h=>h
theorem Sub.trans {a b c:List Bool} (h:Sub a b) (h':Sub b c):Sub a c:=fun i hi=>h' i (h i hi)
theorem Sub.aIq (a:List Bool) (q:Nat):Sub (a.set q false) a:=fun i hi=>by
  simp only [List.getD_eq_getElem?_getD,List.getElem?_set] at hi ⊢
  split at hi
  · split at hi <;> simp at hi
  · exact hi
theorem Sub.dX (s:List Bool × List Int) (i:Int):Sub (dX s i).1 s.1:=by
  unfold Det.dX
  split
  · exact Sub.aIq _ _
  · exact Sub.refl _
theorem Sub.bI (s:List Bool × List Int) (l:List Int):∀ j,Sub (bI s l j).1 s.1
  | 0=>Sub.refl _
  | j+1=>(Sub.dX _ _).trans (Sub.bI s l j)
theorem Sub.bfs (W H:Nat) (ins:List Bool) (first:Nat):∀ k,Sub (bfs W H ins first k).1 ins
  | 0=>Sub.aIq _ _
  | k+1=>by
    simp only [Det.bfs]
    split
    · exact (Sub.bI _ _ _).trans (Sub.bfs W H ins first k)
    · exact Sub.bfs W H ins first k
theorem Sub.part (W H:Nat) (ins:List Bool) (first:Nat):Sub (part W H ins first).1 ins:=Sub.bfs _ _ _ _ _
theorem Sub.bT (W H:Nat) (least:Int) (ins:List Bool):∀ k,Sub (bT W H least ins k).1 ins
  | 0=>Sub.refl _
  | k+1=>by
    simp only [Det.bT]
    split
    · exact (Sub.part _ _ _ _).trans (Sub.bT W H least ins k)
    · exact Sub.bT W H least ins k
theorem qo {W H:Nat} {least:Int} {bs:List Bool} {ks ys:List Int}:∀ j,j≤ks.length→di W H least bs (ks++ys) j=di W H least bs ks j
  | 0,_=>rfl
  | j+1,hj=>by
    have e:(ks++ys).getD j 0=ks.getD j 0:=by simp only [List.getD_eq_getElem?_getD]; rw [List.getElem?_append_left (by omega)]
    have ih:=qo (W:=W) (H:=H) (least:=least) (bs:=bs) (ks:=ks) (ys:=ys) j (by omega)
    simp only [di,ih,e]
theorem qU {W H:Nat} {least:Int} {bs:List Bool}:∀ n,di W H least bs (asc bs n) (asc bs n).length=bT W H least bs n
  | 0=>rfl
  | n+1=>by
    have ih:=qU (W:=W) (H:=H) (least:=least) (bs:=bs) n
    by_cases hb:bs.getD n false=true
    · rw [zH hb,List.length_append,List.length_singleton]
      have e:(asc bs n++[(n:Int)]).getD (asc bs n).length 0=(n:Int):=by simp
      simp only [di,bT,qo _ (Nat.le_refl _),ih,e,Int.toNat_natCast]
    · rw [yY hb,ih]
      simp only [bT]
      rw [if_neg (fun h=>hb (Sub.bT W H least bs n n h))]
end Det
namespace Det
theorem wR (n q:Nat):(List.replicate n false).getD q false=false:=by
  simp only [List.getD_eq_getElem?_getD,List.getElem?_replicate]
  split <;> rfl
end Det

namespace Go.SL
open Go Go.Proofs Go.Shelf Go.RowKit Go.Maps
theorem aG3 (l:List Int):l.mergeSort (fun x y=>decide (x≤y))=Det.srt l:=rfl
theorem aEo {P:Program} {ρ:Ren} (lay:SlLaysM.n5 P ρ) (e:TypeId) (vX:Value) (l:List Int) (w0:World) (hX:dS (hp w0) e 1 vX l.length (ints l)) (hl:l.length≤10000) :
    Ret P (ρ.f 5) #[vX] w0 (G:=Unit) (fun _=>.tuple #[]) (fun _ w=>St w0 w (fun b=>vX.ownBlock=some b) [] [sl e 1 vX (Det.srt l).length (ints (Det.srt l))]):=by
  have hlen:(Det.srt l).length=l.length:=List.length_mergeSort _
  have hS:=St.own hX
  rcases hX.2 with ⟨rfl,hn⟩ | ⟨g,cap,cur,rfl,hg,h1,h2,h3,h4⟩
  · obtain rfl:l=[]:=List.eq_nil_of_length_eq_zero hn
    refine Calls.mono (AnyM.slices_Sort_int_none lay none 0 w0) ?_
    rintro e w ⟨rfl,rfl⟩
    refine ⟨(),rfl,?_⟩
    rw [show Det.srt []=[] from by simp [Det.srt]]
    exact hS
  · have hb:w0.heap[g]? = some (.cells cur e (0,0)):=hg
    have hgl:=(Array.getElem?_eq_some_iff.1 hb).1
    have hm:l.length<4611686018427387904:=by omega
    refine Calls.mono (AnyM.slices_Sort_int lay g 0 cap l w0 (holds_of_blockI hb (by simpa [ints] using h4)) hgl hm) ?_
    rintro e' w ⟨rfl,n,os,rfl⟩
    refine ⟨(),rfl,?_⟩
    have hgb:=grownBy_sortedI (w:=w0) (g:=g) (n:=n) (os:=os) (Det.srt l).toArray
    have hrow:=ownsRow_sortedI (n:=n) (os:=os) (base:=0) (cap:=cap) (ts:=Det.srt l) (ss:=l) hlen (Nat.zero_le _) hb h1 h2 h3
    rw [aG3]
    generalize Sort.grow (Sort.putRow (Value.int .i64) (Sort.ahead w0 n) g 0 (Det.srt l).toArray) os=w at hgb hrow ⊢
    have hok:dS (hp w) e 1 (.slice (some ⟨g,0,none⟩) l.length cap) (Det.srt l).length (ints (Det.srt l)):=by
      rw [hlen]; exact jT.2 hrow
    exact hS.write (i:=0) (p:=sl e 1 (.slice (some ⟨g,0,none⟩) l.length cap) l.length (ints l)) rfl hgb.os hgb.tape hgb.output hgb.size (fun b hb' hne=>hgb.block b hb' (fun e=>hne (by
      simp only [Option.some.injEq] at e; subst e; rfl))) hok (fun b hb'=>⟨.inl hb',by
        have:g=b:=by simpa [sl,Value.ownBlock] using hb'
        have:=hgb.size; omega⟩)
theorem insert_perm {H:Type} (x:Lit × DataW H):∀ l:List (Lit × DataW H),(DataW.insert x l).Perm (x::l)
  | []=>List.Perm.refl _
  | y::r=>by
    unfold DataW.insert
    split
    · exact List.Perm.refl _
    · exact ((insert_perm x r).cons y).trans (List.Perm.swap x y r)
theorem sS {H:Type}:∀ l:List (Lit × DataW H),(l.foldr DataW.insert []).Perm l
  | []=>List.Perm.refl _
  | x::r=>(insert_perm x _).trans ((sS r).cons x)
theorem aEt {P:Program} {k e:TypeId} {w:World} {b:Nat} {ins:List Bool} (hk:P.underlying k=some (.int .i64)) (he:P.underlying e=some .bool) (h:iE (hp w) b ins) (hl:ins.length≤10000) :
    ∃ D:DataW Unit,w.ownsMap P k (plainElem P e) b 10000 D∧(intKeys D).Nodup∧(∀ t,t ∈ intKeys D↔∃ i:Nat,t=(i:Int)∧i<ins.length∧ins.getD i false=true)∧Maps.size D≤10000:=by
  obtain ⟨es,c,ks,h1,hm,h0,hkm⟩:=h
  have h1:w.heap[b]? = some (.map es c):=h1
  have hlt:∀ i:Nat,ins.getD i false=true→i<ins.length:=fun i hi=>by
    rcases Nat.lt_or_ge i ins.length with h | h
    · exact h
    · simp [List.getD_eq_getElem?_getD,List.getElem?_eq_none h] at hi
  have hmem:∀ t,t ∈ ks↔∃ i:Nat,t=(i:Int)∧i<ins.length∧ins.getD i false=true:=fun t=>by
    constructor
    · intro ht
      obtain ⟨i,rfl⟩:=Int.eq_ofNat_of_zero_le (h0 t ht)
      have:=(hkm i).1 ht
      exact ⟨i,rfl,hlt i this,this⟩
    · rintro ⟨i,rfl,_,hi⟩
      exact (hkm i).2 hi
  have hlen:ks.length≤ins.length:=by
    have e1:=Det.mE hm.nodup hmem
    have e2:(Det.srt ks).length=ks.length:=List.length_mergeSort _
    have:=Det.pX (bs:=ins) ins.length
    rw [← e1] at this
    omega
  have hsz:es.size=ks.length:=by have:=congrArg List.length hm.keys; simpa using this
  have hrd:∀ x ∈ es.toList,∃ a:Int,x.key=.int .i64 a∧WideElems.rd P k (plainElem (H:=Unit) P e) x=some (.int .i64 a,.lit (.bool true)):=fun x hx=>by
    have:x.key ∈ es.toList.map (·.key):=List.mem_map.2 ⟨x,hx,rfl⟩
    rw [hm.keys] at this
    obtain ⟨a,ha,hka⟩:=List.mem_map.1 this
    obtain ⟨i,rfl,hi,_⟩:=(hmem a).1 ha
    refine ⟨(i:Int),hka.symm,?_⟩
    have hw:(Lit.int .i64 (i:Int)).wf=true:=by
      have e1:IntKind.i64.min=-9223372036854775808:=by decide
      have e2:IntKind.i64.max=9223372036854775807:=by decide
      simp only [Lit.wf,e1,e2,Bool.and_eq_true,decide_eq_true_eq]
      omega
    simp [WideElems.rd,← hka,keyOf_int_mk hk hw,hm.vals x hx,plainElem_bool he]
  refine ⟨.map ((es.toList.map (WideElems.rg P k (plainElem P e))).foldr DataW.insert []),⟨es,c,h1,⟨by unfold maxLen; omega,⟨hm.born,hm.apart,?_⟩,fun x hx=>?_⟩,by omega,rfl⟩,?_⟩
  · rw [hm.keys]
    refine List.pairwise_map.2 (hm.nodup.imp ?_)
    intro a b hne e
    exact hne (by simpa using e)
  · obtain ⟨a,_,h⟩:=hrd x hx; exact ⟨_,h⟩
  have hp:(intKeys (DataW.map ((es.toList.map (WideElems.rg P k (plainElem (H:=Unit) P e))).foldr DataW.insert []))).Perm ks:=by
    unfold intKeys
    refine ((sS _).map _).trans ?_
    have:((es.toList.map (WideElems.rg P k (plainElem (H:=Unit) P e))).map fun p=>intOf p.1)=ks:=by
      apply (List.map_inj_right (f:=Value.int .i64) (fun a b h=>by simpa using h)).1
      rw [← hm.keys,List.map_map,List.map_map]
      refine List.map_congr_left fun x hx=>?_
      obtain ⟨a,h2,h3⟩:=hrd x hx
      simp [WideElems.rg,h3,h2,intOf]
    rw [this]
  refine ⟨hp.symm.nodup hm.nodup,fun t=>by rw [hp.mem_iff]; exact hmem t,?_⟩
  have h5:=hp.length_eq
  simp only [intKeys,List.length_map] at h5
  simp only [Maps.size]
  omega
theorem Below.st {w w':World} (h:RowKit.Below w.heap.size w w'):St w w' noX [] [] :=
  ⟨h.os,h.tape,h.output,h.size,fun b hb _=>h.block b hb,trivial,by simp⟩
theorem ownsRow.st {w w':World} {e:TypeId} {v:Value} {n:Nat} {xs:List Value} (h:RowKit.Below w.heap.size w w') (hr:w'.ownsRow w.heap.size e 1 v n xs):St w w' noX [] [sl e 1 v n xs]:=by
  refine ⟨h.os,h.tape,h.output,h.size,fun b hb _=>h.block b hb,⟨⟨jT.2 ⟨hr.1,hr.2.imp id fun ⟨g,cap,cur,h1,h2,h3⟩=>⟨g,cap,cur,h1,Nat.zero_le _,h3⟩⟩,fun b hb=>?_,by simp⟩,trivial⟩,by simp⟩
  have:=hr.lt b hb
  exact ⟨this.2,.inr this.1⟩
end Go.SL
