/- Numbers as lists of limbs of 32 bits, in plain Lean. -/
import Derived.Test.YtfaflenaajafgaaGreatDoorSL19
import Derived.Test.YtfaflenaajafgaaGreatDoorIntLaws
set_option linter.unusedVariables false
set_option linter.unusedSimpArgs false
namespace Go.SL
open Go
def Lim (l:List Int):Prop:=∀ x ∈ l,0≤x∧x<4294967296
def lval:List Int→Int
  | []=>0
  | x::t=>x+4294967296*lval t
def BP (n:Nat):Int:=(4294967296:Int)^n
theorem BP_zero:BP 0=1:=rfl
theorem BP_succ (n:Nat):BP (n+1)=4294967296*BP n:=by unfold BP; rw [Int.pow_succ,Int.mul_comm]
theorem BP_add (m n:Nat):BP (m+n)=BP m*BP n:=by unfold BP; rw [Int.pow_add]
theorem BP_pos (n:Nat):1≤BP n:=by
  induction n with
  | zero=>decide
  | succ n ih=>rw [BP_succ]; omega
theorem BP_mono {m n:Nat} (h:m≤n):BP m≤BP n:=by
  obtain ⟨k,rfl⟩:=Nat.le.dest h
  rw [BP_add]
  have h1:=BP_pos m
  have h2:=BP_pos k
  have:=Int.mul_le_mul_of_nonneg_left (c:=BP m) h2 (by omega)
  omega
theorem Lim.nil:Lim []:=by simp [Lim]
theorem Lim.cons {x:Int} {t:List Int} (h:0≤x∧x<4294967296) (ht:Lim t):Lim (x::t):=by
  intro y hy
  rcases List.mem_cons.1 hy with rfl | hy
  · exact h
  · exact ht y hy
theorem Lim.head {x:Int} {t:List Int} (h:Lim (x::t)):0≤x∧x<4294967296:=h x (by simp)
theorem Lim.tail {x:Int} {t:List Int} (h:Lim (x::t)):Lim t:=fun y hy=>h y (by simp [hy])
theorem Lim.app {a b:List Int} (ha:Lim a) (hb:Lim b):Lim (a++b):=fun y hy=>by
  rcases List.mem_append.1 hy with h | h
  · exact ha y h
  · exact hb y h
theorem Lim.left {a b:List Int} (h:Lim (a++b)):Lim a:=fun y hy=>h y (by simp [hy])
theorem Lim.right {a b:List Int} (h:Lim (a++b)):Lim b:=fun y hy=>h y (by simp [hy])
theorem Lim.take {a:List Int} (h:Lim a) (k:Nat):Lim (a.take k):=fun y hy=>h y (List.mem_of_mem_take hy)
theorem Lim.drop {a:List Int} (h:Lim a) (k:Nat):Lim (a.drop k):=fun y hy=>h y (List.mem_of_mem_drop hy)
theorem Lim.set {a:List Int} (h:Lim a) (k:Nat) {y:Int} (hy:0≤y∧y<4294967296):Lim (a.set k y):=fun z hz=>by
  rcases List.mem_or_eq_of_mem_set hz with h1 | h1
  · exact h z h1
  · subst h1; exact hy
theorem Lim.at {a:List Int} (h:Lim a) {k:Nat} {y:Int} (hk:a[k]? = some y):0≤y∧y<4294967296:=h y (List.mem_of_getElem? hk)
theorem Lim.zeros (n:Nat):Lim (List.replicate n 0):=fun y hy=>by
  have:=List.eq_of_mem_replicate hy
  omega
theorem lval_nonneg:∀ {l:List Int},Lim l→0≤lval l
  | [],_=>Int.le_refl _
  | x::t,h=>by
    have:=lval_nonneg h.tail
    have:=h.head
    simp only [lval]; omega
theorem lval_lt:∀ {l:List Int},Lim l→lval l<BP l.length
  | [],_=>by decide
  | x::t,h=>by
    have h1:=lval_lt h.tail
    have h2:=h.head
    simp only [lval,List.length_cons,BP_succ]; omega
theorem lval_app:∀ (a b:List Int),lval (a++b)=lval a+BP a.length*lval b
  | [],b=>by simp [lval,BP_zero]
  | x::t,b=>by
    simp only [List.cons_append,lval,lval_app t b,List.length_cons,BP_succ]
    generalize BP t.length=p
    generalize lval b=q
    generalize lval t=u
    grind
theorem lval_zeros (n:Nat):lval (List.replicate n 0)=0:=by
  induction n with
  | zero=>rfl
  | succ n ih=>rw [List.replicate_succ]; simp [lval,ih]
theorem lval_snoc (l:List Int) (x:Int):lval (l++[x])=lval l+BP l.length*x:=by
  rw [lval_app]; simp [lval]
theorem take_snoc {l:List Int} {k:Nat} {x:Int} (h:l[k]? = some x):l.take (k+1)=l.take k++[x]:=by
  rw [List.take_add_one,h]; rfl
theorem lval_take {l:List Int} {k:Nat} {x:Int} (h:l[k]? = some x):lval (l.take (k+1))=lval (l.take k)+BP k*x:=by
  have hk:=(List.getElem?_eq_some_iff.1 h).1
  rw [take_snoc h,lval_snoc,List.length_take,Nat.min_eq_left (by omega)]
theorem lval_set:∀ {l:List Int} {k:Nat} {x:Int} (y:Int),l[k]? = some x→lval (l.set k y)=lval l+BP k*(y-x)
  | [],k,x,y,h=>by simp at h
  | z::t,0,x,y,h=>by
    simp only [List.getElem?_cons_zero,Option.some.injEq] at h
    subst h
    simp only [List.set_cons_zero,lval,BP_zero]; omega
  | z::t,k+1,x,y,h=>by
    have ih:=lval_set (l:=t) y (by simpa using h)
    simp only [List.set_cons_succ,lval,ih,BP_succ]
    generalize BP k=p
    generalize lval t=u
    grind
def Nrm (l:List Int):Prop:=∀ x,l.getLast? = some x→x≠0
theorem Nrm.nil:Nrm []:=by simp [Nrm]
theorem Nrm.tail {x:Int} {t:List Int} (h:Nrm (x::t)):Nrm t:=fun y hy=>by
  cases t with
  | nil=>simp at hy
  | cons z t=>exact h y (by rw [List.getLast?_cons_cons]; exact hy)
theorem Nrm.ge:∀ {l:List Int},Lim l→Nrm l→l≠[]→BP (l.length-1)≤lval l
  | [],_,_,h=>absurd rfl h
  | [x],hl,hn,_=>by
    have h1:=hn x rfl
    have h2:=hl.head
    simp only [lval,List.length_singleton,Nat.sub_self,BP_zero]; omega
  | x::y::t,hl,hn,_=>by
    have ih:=Nrm.ge hl.tail hn.tail (by simp)
    have h2:=hl.head
    simp only [List.length_cons,Nat.add_sub_cancel] at ih ⊢
    rw [BP_succ]
    show _≤x+4294967296*lval (y::t)
    omega
theorem Nrm.inj:∀ {a b:List Int},Lim a→Lim b→Nrm a→Nrm b→lval a=lval b→a=b
  | [],[],_,_,_,_,_=>rfl
  | [],x::t,_,hb,_,nb,h=>by
    have h1:=Nrm.ge hb nb (by simp)
    have:=BP_pos ((x::t).length-1)
    rw [← h] at h1
    simp only [lval] at h1; omega
  | x::t,[],ha,_,na,_,h=>by
    have h1:=Nrm.ge ha na (by simp)
    have:=BP_pos ((x::t).length-1)
    rw [h] at h1
    simp only [lval] at h1; omega
  | x::t,y::u,ha,hb,na,nb,h=>by
    have h1:=ha.head; have h2:=hb.head
    simp only [lval] at h
    have hxy:x=y:=by omega
    have htu:lval t=lval u:=by omega
    rw [hxy,Nrm.inj ha.tail hb.tail na.tail nb.tail htu]
theorem Nrm.len {l:List Int} {n:Nat} (hl:Lim l) (hn:Nrm l) (h:lval l<BP n):l.length≤n:=by
  rcases Nat.lt_or_ge n l.length with h1 | h1
  · exfalso
    have hne:l≠[]:=fun e=>by subst e; simp at h1
    have h2:=Nrm.ge hl hn hne
    have h3:=BP_mono (show n≤l.length-1 by omega)
    omega
  · exact h1
theorem Nrm.zero {l:List Int} (hl:Lim l) (hn:Nrm l):lval l=0↔l=[]:=by
  constructor
  · intro h
    cases l with
    | nil=>rfl
    | cons x t =>
      have h2:=Nrm.ge hl hn (by simp)
      have:=BP_pos ((x::t).length-1)
      omega
  · intro h; subst h; rfl
structure Is (l:List Int) (z:Int):Prop where
  lim:Lim l
  nrm:Nrm l
  val:lval l=z
theorem Is.nonneg {l:List Int} {z:Int} (h:Is l z):0≤z:=h.val▸lval_nonneg h.lim
theorem Is.inj {a b:List Int} {z:Int} (h:Is a z) (h':Is b z):a=b:=Nrm.inj h.lim h'.lim h.nrm h'.nrm (h.val.trans h'.val.symm)
theorem Is.zero {a:List Int} {z:Int} (h:Is a z):z=0↔a=[]:=by rw [← h.val]; exact Nrm.zero h.lim h.nrm
theorem Is.nil:Is [] 0:=⟨Lim.nil,Nrm.nil,rfl⟩
theorem Is.len {a:List Int} {z:Int} {n:Nat} (h:Is a z) (hz:z<BP n):a.length≤n:=Nrm.len h.lim h.nrm (h.val▸hz)
theorem Is.lt {a:List Int} {z:Int} (h:Is a z):z<BP a.length:=h.val▸lval_lt h.lim
theorem Is.ge {a:List Int} {z:Int} (h:Is a z) (hne:a≠[]):BP (a.length-1)≤z:=h.val▸Nrm.ge h.lim h.nrm hne
structure IsW (b:Bool) (l:List Int) (z:Int):Prop where
  is:Is l (z.natAbs:Int)
  neg:b=decide (z<0)
theorem IsW.inj {b b':Bool} {a c:List Int} {z:Int} (h:IsW b a z) (h':IsW b' c z):b=b'∧a=c:=⟨h.neg.trans h'.neg.symm,h.is.inj h'.is⟩
theorem IsW.last {b:Bool} {l:List Int} {z:Int} (h:IsW b l z) (hne:0<l.length):∃ x,l[l.length-1]? = some x∧x≠0:=by
  have hx:l[l.length-1]? = some l[l.length-1]:=List.getElem?_eq_getElem (by omega)
  exact ⟨_,hx,h.is.nrm _ (by rw [List.getLast?_eq_getElem?]; exact hx)⟩
theorem IsW.negF {b:Bool} {z:Int} (h:IsW b [] z):b=false:=by
  have h1:=h.is.zero.2 rfl
  rw [h.neg]; simp; omega
theorem IsW.pos {b:Bool} {l:List Int} {z:Int} (h:IsW b l z):l=[]↔z=0:=by
  have:=h.is.zero
  rw [← this]; omega
theorem chk {b:Bool} {l:List Int} {z:Int} (h:IsW b l z) (hne:(l.length:Int)=0):b=false:=by
  obtain rfl:l=[]:=List.length_eq_zero_iff.1 (by omega)
  exact h.negF
def trimN:List Int→Nat→Nat
  | _,0=>0
  | l,n+1=>if l[n]? = some 0 then trimN l n else n+1
theorem trimN_is (l:List Int) (hl:Lim l):∀ n,n≤l.length→Is (l.take (trimN l n)) (lval (l.take n))
  | 0,_=>by unfold trimN; simp only [List.take_zero]; exact Is.nil
  | n+1,hn=>by
    unfold trimN
    have hx:l[n]? = some l[n]:=List.getElem?_eq_getElem hn
    split
    · rename_i h0
      rw [lval_take h0,Int.mul_zero,Int.add_zero]
      exact trimN_is l hl n (by omega)
    · rename_i h0
      refine ⟨hl.take _,fun y hy=>?_,rfl⟩
      rw [take_snoc hx,List.getLast?_append] at hy
      simp only [List.getLast?_singleton,Option.some_or,Option.some.injEq] at hy
      subst hy
      intro h
      exact h0 (by rw [hx,h])
def cmpI (a b:Int):Int:=if a<b then -1 else if b<a then 1 else 0
end Go.SL
namespace Go.SL
open Go
theorem downL_snoc {T:Type} (t:List T) (x:T):downL (t++[x])=((t.length:Int),x)::downL t:=by
  unfold downL
  rw [List.zipIdx_append,List.map_append,List.reverse_append]
  simp
theorem downL_nil {T:Type}:downL ([]:List T)=[]:=rfl
theorem snoc_ind {T:Type} {p:List T→Prop} (h0:p []) (hs:∀ t x,p t→p (t++[x])) (l:List T):p l:=by
  have:∀ n (l:List T),l.length=n→p l:=by
    intro n
    induction n with
    | zero=>intro l hl; rw [List.length_eq_zero_iff.1 hl]; exact h0
    | succ n ih =>
      intro l hl
      have hne:l≠[]:=fun e=>by subst e; simp at hl
      rw [← List.dropLast_concat_getLast hne]
      exact hs _ _ (ih _ (by simp [hl]))
  exact this _ l rfl
end Go.SL
