/- A row's arguments of flat types (numbers, Bools, strings, structs and arrays of them), told cell by cell. -/
import Derived.Test.YtmgmoedcpndppaaSL16
import Derived.ProofKit
import Derived.Lib.SmallJoins
import Derived.Deep.Grids
set_option linter.unusedVariables false
set_option linter.unusedSimpArgs false
namespace Go.SL
open Go Go.ChangeShapes Go.WideShapes Go.ChangeAt Go.RowKit
inductive LK where
  | int (k:IntKind)
  | bool
  | str
def LK.ok:LK→Value→Prop
  | .int k,v=>∃ n,v=.int k n∧(Lit.int k n).wf=true
  | .bool,v=>∃ b,v=.bool b
  | .str,v=>∃ s:ByteArray,v=.string s∧s.size≤maxLen
def AllK:List LK→List Value→Prop
  | [],cs=>cs=[]
  | k::ks,cs=>∃ v t,cs=v::t∧k.ok v∧AllK ks t
theorem AllK.app:∀ {ks ks':List LK} {a b:List Value},AllK ks a→AllK ks' b→AllK (ks++ks') (a++b)
  | [],_,a,b,h1,h2=>by
    have h1:a=[]:=h1
    subst h1; exact h2
  | k::ks,_,a,b,⟨v,t,h1,h2,h3⟩,h4=>by
    subst h1
    exact ⟨v,t++b,rfl,h2,AllK.app h3 h4⟩
def leafFs (P:Program) (f:TypeId→Option (List LK)):List Field→Nat→Option (List LK × Nat)
  | [],o=>some ([],o)
  | g::t,o=>if Nat.beq g.offset o=true then
      match f g.type with
      | some ks=>if Nat.beq ks.length (P.cellsOf g.type)=true then
          match leafFs P f t (o+ks.length) with
          | some (r,o')=>some (ks++r,o')
          | none=>none
        else none
      | none=>none
    else none
def leafK (P:Program):Nat→TypeId→Option (List LK)
  | 0,_=>none
  | d+1,t=>match P.underlying t with
    | some (.int k)=>some [.int k]
    | some .bool=>some [.bool]
    | some .string=>some [.str]
    | some (.struct fs)=>match leafFs P (leafK P d) fs.toList 0 with
      | some (ks,o)=>if Nat.beq o (P.cellsOf t)=true then some ks else none
      | none=>none
    | some (.array n e)=>match leafK P d e with
      | some ks=>if (Nat.beq ks.length (P.cellsOf e)&&Nat.beq (n*ks.length) (P.cellsOf t))=true then some (List.replicate n ks).flatten else none
      | none=>none
    | _=>none
section
variable {H:Type} {enc:TypeId × Value→H} {P:Program} {w:World} {base:Nat} {spare:Nat→Bool} {held:Bool}
theorem leafFs_ok {f:TypeId→Option (List LK)} {cs:List Value} (hf:∀ t ks,f t=some ks→∀ cs,(∃ (n:Nat) (x:DataW H × List MemPlace),DataW.trod enc P w base spare held n t cs=some x)→AllK ks cs) :
    ∀ (fs:List Field) (o:Nat) (ks:List LK) (o':Nat),leafFs P f fs o=some (ks,o')→(∀ g ∈ fs,∃ (n:Nat) (x:DataW H × List MemPlace),DataW.trod enc P w base spare held n g.type ((cs.drop g.offset).take (P.cellsOf g.type))=some x)→o'=cs.length→AllK ks (cs.drop o)
  | [],o,ks,o',h,_,ho=>by
    simp only [leafFs,Option.some.injEq,Prod.mk.injEq] at h
    obtain ⟨rfl,rfl⟩:=h
    subst ho
    show cs.drop cs.length=[]
    simp
  | g::t,o,ks,o',h,hg,ho=>by
    simp only [leafFs] at h
    split at h
    · rename_i hgo
      have hgo:=Nat.eq_of_beq_eq_true hgo
      split at h
      · rename_i k1 hk1
        split at h
        · rename_i hlen
          have hlen:=Nat.eq_of_beq_eq_true hlen
          split at h
          · rename_i r o2 hr
            simp only [Option.some.injEq,Prod.mk.injEq] at h
            obtain ⟨rfl,rfl⟩:=h
            have h2:=leafFs_ok hf t _ _ _ hr (fun g' hg'=>hg g' (by simp [hg'])) ho
            have h1:=hf _ _ hk1 _ (hg g (by simp))
            rw [hgo,← hlen] at h1
            have e:cs.drop o=(cs.drop o).take k1.length++cs.drop (o+k1.length):=by
              rw [← List.drop_drop,List.take_append_drop]
            rw [e]
            exact h1.app h2
          · cases h
        · cases h
      · cases h
    · cases h
theorem arr_ok {ks:List LK} {cs:List Value} {m:Nat} (hm:ks.length=m) (n:Nat) (hc:cs.length=n*m) (h:∀ i,i<n→AllK ks ((cs.drop (i*m)).take m)):∀ j,j≤n→AllK (List.replicate (n-j) ks).flatten (cs.drop (j*m)):=by
  intro j hj
  obtain ⟨q,hq⟩:∃ q,q=n-j:=⟨_,rfl⟩
  induction q generalizing j with
  | zero =>
    have:j=n:=by omega
    subst this
    rw [Nat.sub_self]
    show cs.drop (j*m)=[]
    rw [← hc]; simp
  | succ q ih =>
    have h1:=ih (j+1) (by omega) (by omega)
    have e:n-j=(n-(j+1))+1:=by omega
    rw [e,List.replicate_succ,List.flatten_cons]
    have e2:cs.drop (j*m)=(cs.drop (j*m)).take m++cs.drop ((j+1)*m):=by
      rw [Nat.add_mul,Nat.one_mul,← List.drop_drop,List.take_append_drop]
    rw [e2]
    exact (h j (by omega)).app h1
theorem leafK_ok:∀ (d:Nat) (t:TypeId) (ks:List LK),leafK P d t=some ks→∀ cs,(∃ (n:Nat) (x:DataW H × List MemPlace),DataW.trod enc P w base spare held n t cs=some x)→AllK ks cs
  | 0,t,ks,h,_,_=>by simp [leafK] at h
  | d+1,t,ks,h,cs,⟨n,x,hx⟩=>by
    have ih:=leafK_ok d
    simp only [leafK] at h
    split at h
    · rename_i k hk
      simp only [Option.some.injEq] at h
      subst h
      obtain ⟨z,rfl,_,hw⟩:=DataW.trod_int hk hx
      exact ⟨_,[],rfl,⟨z,rfl,hw⟩,rfl⟩
    · rename_i hk
      simp only [Option.some.injEq] at h
      subst h
      obtain ⟨z,rfl,_⟩:=DataW.trod_bool hk hx
      exact ⟨_,[],rfl,⟨z,rfl⟩,rfl⟩
    · rename_i hk
      simp only [Option.some.injEq] at h
      subst h
      obtain ⟨z,rfl,_,hw⟩:=DataW.trod_string hk hx
      exact ⟨_,[],rfl,⟨z,rfl,hw⟩,rfl⟩
    · rename_i fs hk
      split at h
      · rename_i ks' o ho
        split at h
        · rename_i hoc
          have hoc:=Nat.eq_of_beq_eq_true hoc
          simp only [Option.some.injEq] at h
          subst h
          obtain ⟨xs,m,rfl,rfl,hl,hxl,hall⟩:=DataW.trod_struct hk hx
          have:=leafFs_ok (H:=H) (cs:=cs) (fun t ks h=>ih t ks h) fs.toList 0 ks' o ho (fun g hg=>?_) (hoc.trans hl.symm)
          · simpa using this
          · obtain ⟨i,hi⟩:=List.getElem?_of_mem hg
            have hi':fs[i]? = some g:=by simpa using hi
            have hlt:i<xs.length:=by rw [hxl]; exact (Array.getElem?_eq_some_iff.1 hi').1
            exact ⟨m,xs[i],by rw [hall i g hi',List.getElem?_eq_getElem hlt]⟩
        · cases h
      · cases h
    · rename_i q e hk
      split at h
      · rename_i ks' hks
        split at h
        · rename_i hc
          simp only [Bool.and_eq_true] at hc
          have hc1:=Nat.eq_of_beq_eq_true hc.1
          have hc2:=Nat.eq_of_beq_eq_true hc.2
          simp only [Option.some.injEq] at h
          subst h
          obtain ⟨xs,m,rfl,rfl,hl,hxl,hall⟩:=DataW.trod_array hk hx
          have:=arr_ok (m:=P.cellsOf e) hc1 q (by rw [hl,← hc2,hc1]) (fun i hi=>ih e ks' hks _ ⟨m,xs[i]'(by omega),by rw [hall i hi,List.getElem?_eq_getElem (by omega)]⟩) 0 (Nat.zero_le _)
          simpa using this
        · cases h
      · cases h
    · cases h
theorem okWide_array {n:Nat} {e:TypeId} {t:TypeId} {v:Value} {r:Reach} {b0:Nat} (ht:P.underlying t=some (.array n e)) (h:Value.okWide P w r b0 t v):∃ cs,v=.agg cs:=by
  simp only [Value.okWide,ht] at h
  obtain ⟨cs,h1,_⟩:=h
  exact ⟨cs,h1⟩
theorem openAgg {d:Nat} {t:TypeId} {ks:List LK} {v:Value} {dd:DataW H} {ps:List MemPlace} {r:Reach} {b0:Nat} (hk:leafK P d t=some ks) (ha:tAgg P t=some true) (hval:Value.okWide P w r b0 t v) (h:DataW.Trod enc P w base spare held t v dd ps) :
    ∃ cs,v=.agg cs.toArray∧AllK ks cs:=by
  have hv:∃ cs,v=.agg cs:=by
    unfold tAgg at ha
    cases hu:P.underlying t with
    | none=>rw [hu] at ha; cases ha
    | some dsc =>
      rw [hu] at ha
      cases dsc <;> simp [descAgg] at ha
      · exact okWide_array hu hval
      · obtain ⟨cs,h1,_⟩:=okWide_struct hu hval
        exact ⟨cs,h1⟩
  obtain ⟨cs,rfl⟩:=hv
  obtain ⟨fuel,hf⟩:=h
  exact ⟨cs.toList,rfl,leafK_ok d t ks hk cs.toList ⟨fuel,_,hf⟩⟩
end
theorem Below.trodAll {H:Type} {enc:TypeId × Value→H} {P:Program} (hl:laidOutB P=true) {W W':World} (hb:RowKit.Below W.heap.size W W'):∀ (ts:List TypeId) (vs:List Value) (ds:List (DataW H)) (p:List MemPlace),
    (ts.all fun t=>P.readableRec t&&Nat.blt t P.types.size)=true→DataW.TrodAll enc P W 0 (fun _=>true) true ts vs ds p→(∀ x ∈ p,x.block<W.heap.size)→DataW.TrodAll enc P W' 0 (fun b=>decide (b<W.heap.size)) true ts vs ds p
  | [],[],[],p,_,h,_=>h
  | [],[],_::_,p,_,h,_=>by simp [DataW.TrodAll] at h
  | [],_::_,_,p,_,h,_=>by simp [DataW.TrodAll] at h
  | _::_,[],_,p,_,h,_=>by simp [DataW.TrodAll] at h
  | _::_,_::_,[],p,_,h,_=>by simp [DataW.TrodAll] at h
  | t::ts,v::vs,d::ds,p,ha,h,hlt=>by
    simp only [List.all_cons,Bool.and_eq_true] at ha
    obtain ⟨p1,p2,h1,h2,rfl⟩:=h
    exact ⟨p1,p2,RowKit.Below.trod hl ha.1.1 (by simpa using ha.1.2) h1 hb (fun x hx=>hlt x (List.mem_append_left _ hx)),Below.trodAll hl hb ts vs ds p2 ha.2 h2 (fun x hx=>hlt x (List.mem_append_right _ hx)),rfl⟩
theorem trodAll_uncons {H:Type} {enc:TypeId × Value→H} {P:Program} {w:World} {base:Nat} {spare:Nat→Bool} {held:Bool} {t:TypeId} {ts:List TypeId} {args:List Value} {ds:List (DataW H)} {p:List MemPlace}
    (h:DataW.TrodAll enc P w base spare held (t::ts) args ds p):∃ v vs d ds' p1 p2,args=v::vs∧ds=d::ds'∧DataW.Trod enc P w base spare held t v d p1∧DataW.TrodAll enc P w base spare held ts vs ds' p2∧p=p1++p2:=by
  cases args with
  | nil=>simp [DataW.TrodAll] at h
  | cons v vs =>
    cases ds with
    | nil=>simp [DataW.TrodAll] at h
    | cons d ds' =>
      obtain ⟨p1,p2,h1,h2,rfl⟩:=h
      exact ⟨v,vs,d,ds',p1,p2,rfl,rfl,h1,h2,rfl⟩
theorem trodAll_unnil {H:Type} {enc:TypeId × Value→H} {P:Program} {w:World} {base:Nat} {spare:Nat→Bool} {held:Bool} {args:List Value} {ds:List (DataW H)} {p:List MemPlace}
    (h:DataW.TrodAll enc P w base spare held [] args ds p):args=[]∧ds=[]:=by
  cases args with
  | nil =>
    cases ds with
    | nil=>exact ⟨rfl,rfl⟩
    | cons=>simp [DataW.TrodAll] at h
  | cons=>simp [DataW.TrodAll] at h
theorem wf64 {n:Int} (h:(Lit.int .i64 n).wf=true):-9223372036854775808≤n∧n≤9223372036854775807:=by
  simp [Lit.wf,IntKind.min,IntKind.max,IntKind.signed,IntKind.bits] at h
  omega
end Go.SL
