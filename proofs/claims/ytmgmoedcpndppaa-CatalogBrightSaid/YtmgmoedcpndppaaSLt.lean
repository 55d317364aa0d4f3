/- slices.SortFunc at elements of k cells, out of the kit's contract: what the list is afterwards. -/
import Derived.Test.YtmgmoedcpndppaaSL31
import Derived.Shelf.SlSortCmp.NoneTotal
set_option linter.unusedVariables false
set_option linter.unusedSimpArgs false
namespace Go.SL
open Go Go.Proofs Go.Shelf Go.RowKit Go.Sort Go.Lib
def srtF {T:Type} (lt:T→T→Bool) (l:List T):List T:=l.mergeSort fun x y=>!lt y x
theorem srtF_len {T:Type} (lt:T→T→Bool) (l:List T):(srtF lt l).length=l.length:=List.length_mergeSort _
section
variable {T:Type} [Inhabited T] {E:T→List Value} {k:Nat}
theorem encs_at (hk:∀ x,(E x).length=k) (l:List T) (j:Nat) (hj:j<l.length*k):(encs E l)[j]? = some ((E l.toArray[j/k]!)[j % k]!):=by
  have k0 : 0 < k := by rcases Nat.eq_zero_or_pos k with h | h; · subst h; omega
                        · exact h
  have h1:j/k<l.length:=(Nat.div_lt_iff_lt_mul k0).2 hj
  have h2:l[j/k]? = some l[j/k]:=List.getElem?_eq_getElem h1
  have h3:=encs_get (enc:=E) hk h2 (Nat.mod_lt j k0)
  rw [show j/k*k+j % k=j from by rw [Nat.mul_comm]; exact Nat.div_add_mod j k] at h3
  rw [h3]
  have h4:l.toArray[j/k]! = l[j/k]:=by simp [h1]
  rw [h4]
  have h5:j % k<(E l[j/k]).length:=by rw [hk]; exact Nat.mod_lt j k0
  rw [List.getElem?_eq_getElem h5,getElem!_pos (E l[j/k]) (j % k) h5]
theorem flat_at (hk:∀ x,(E x).length=k) (l:List T):(flatK E k l.toArray).toList=encs E l:=by
  apply List.ext_getElem?
  intro j
  have hs:(flatK E k l.toArray).size=l.length*k:=by simp
  by_cases hj:j<l.length*k
  · have h1:=get_flatK E k l.toArray j (by simpa using hj)
    rw [encs_at hk l j hj,← h1,Array.getElem?_toList,Array.getElem?_eq_getElem (by omega),getElem!_pos (flatK E k l.toArray) j (by omega)]
  · rw [List.getElem?_eq_none (by rw [Array.length_toList]; omega),List.getElem?_eq_none (by rw [encs_len hk]; omega)]
theorem holds_flat {w:World} {g:Nat} {cur:Array Value} {e:TypeId} {xs:Array Value} (hb:w.heap[g]? = some (.cells cur e (0,0))) (ht:cur.toList.take xs.size=xs.toList):Holds id w g 0 xs:=by
  intro j hj
  refine ⟨?_,by simp [World.frozen?,hb]⟩
  have h1:(cur.toList.take xs.size)[j]? = xs.toList[j]?:=by rw [ht]
  rw [List.getElem?_take_of_lt hj,Array.getElem?_toList,Array.getElem?_toList,Array.getElem?_eq_getElem hj] at h1
  simp only [World.cell?,hb,Nat.zero_add,Option.isSome_none,Bool.false_eq_true,if_false,id_eq]
  rw [h1,getElem!_pos xs j hj]
theorem take_put (cur F:Array Value) (h:F.size≤cur.size):(putCells id 0 F cur).toList.take F.size=F.toList:=by
  apply List.ext_getElem?
  intro j
  by_cases hj:j<F.size
  · rw [List.getElem?_take_of_lt hj,Array.getElem?_toList,Array.getElem?_toList]
    simp [putCells,hj,show j<cur.size by omega]
  · rw [List.getElem?_take_eq_none (by omega),List.getElem?_eq_none (by rw [Array.length_toList]; omega)]
theorem heap_put {w:World} {g n:Nat} {os:Array Obj} {cur:Array Value} {e:TypeId} {fr:Nat × Nat} (F:Array Value) (hb:w.heap[g]? = some (.cells cur e fr)) :
    (grow (putRow id (Sort.ahead w n) g 0 F) os).heap[g]? = some (.cells (putCells id 0 F cur) e fr):=by
  have hg:g<w.heap.size:=(Array.getElem?_eq_some_iff.1 hb).1
  rw [heap_grow_old _ _ (by simpa using hg)]
  simp [putRow,mapBlock,Sort.ahead,Array.getElem?_modify,hb,onCells]
theorem grown_put {w:World} {g n:Nat} {os:Array Obj} (F:Array Value):w.grownBy (grow (putRow id (Sort.ahead w n) g 0 F) os) (some g):=by
  refine ⟨rfl,rfl,rfl,by simp,fun k hk hne=>?_⟩
  rw [heap_grow_old _ _ (by simpa using hk)]
  have:g≠k:=fun e=>hne (by rw [e])
  simp [putRow,mapBlock,Sort.ahead,Array.getElem?_modify,this]
theorem sortF_E {P:Program} {ρ:Ren} {f g:FuncId} (lay:SlLaysF0.n6 P ρ) (hf:ρ.f 6=f) (aE:∀ w,(isAgg (ρ.t 24)).run P w=.ok true w) (zE:∀ w,(Go.sizeOf (ρ.t 24)).run P w=.ok k w) (hk:∀ x,(E x).length=k) (h1:∀ x,∀ v ∈ E x,v.oneCell'=true)
    (cf:T→T→Int) (hO:SWO (ltOf cf)) (hT:∀ x y,(ltOf cf) x y=false→(ltOf cf) y x=false→x=y) (eg:∀ args w,(callFunc g args).run P w=.ok (.enter g args) w)
    (hc:∀ x y W,Calls P g #[.agg (E x).toArray,.agg (E y).toArray] W fun e w'=>e=.returned (.int .i64 (cf x y))∧∃ q os',w'=grow (W.drewN q) os')
    (e:TypeId) (v:Value) (l:List T) (w0:World) (hX:slOK (hp w0) e k v l.length (encs E l)) (hl:l.length≤10000) :
    Ret P f #[v,.func (.func g) #[] #[]] w0 (G:=Unit) (fun _=>.tuple #[]) (fun _ w=>St w0 w (fun k=>v.ownBlock=some k) [] [slE e k E v (srtF (ltOf cf) l)]):=by
  subst hf
  have hlen:=srtF_len (ltOf cf) l
  have hS:=St.own hX
  unfold slE
  rcases hX.2 with ⟨rfl,hn⟩ | ⟨b,cap,cur,rfl,hg,q1,q2,q3,q4⟩
  · obtain rfl:l=[]:=List.eq_nil_of_length_eq_zero hn
    refine Calls.mono (AnyF.slices_SortFunc_none lay none 0 _ w0) ?_
    rintro e w ⟨rfl,rfl⟩
    refine ⟨(),rfl,?_⟩
    rw [show srtF (ltOf cf) ([]:List T)=[] from by simp [srtF]]
    exact hS
  · have hb:w0.heap[b]? = some (.cells cur e (0,0)):=hg
    have hgl:=(Array.getElem?_eq_some_iff.1 hb).1
    have hfl:=flat_at hk l
    have hsz:(flatK E k l.toArray).size=l.length*k:=by simp
    have hH:HoldsK E k w0 b 0 l.toArray:=holds_flat hb (by rw [hsz,hfl]; exact q4)
    have hcl:CmpLays P g #[] E k cf b 0 l.toArray.size w0:=fun m os dk _ x y=>hc x y _
    have hcon:=AnyQ.slices_SortFunc_total lay k aE zE E hk h1 cf hO g #[] b 0 cap l.toArray w0 eg hcl hH hgl (by simp; omega) hT
    refine Calls.mono (by simpa using hcon) ?_
    rintro e' w ⟨rfl,n,os,rfl⟩
    refine ⟨(),rfl,?_⟩
    rw [show l.mergeSort (fun x y=>!ltOf cf y x)=srtF (ltOf cf) l from rfl]
    unfold sortWorldK putRowK
    have hgb:=grown_put (w:=w0) (g:=b) (n:=n) (os:=os) (flatK E k (srtF (ltOf cf) l).toArray)
    have hfl':=flat_at hk (srtF (ltOf cf) l)
    have hsz':(flatK E k (srtF (ltOf cf) l).toArray).size=l.length*k:=by simp [hlen]
    have hhp:=heap_put (n:=n) (os:=os) (flatK E k (srtF (ltOf cf) l).toArray) hb
    generalize grow (putRow id (Sort.ahead w0 n) b 0 (flatK E k (srtF (ltOf cf) l).toArray)) os=w at hgb hhp
    have hok:slOK (hp w) e k (.slice (some ⟨b,0,none⟩) l.length cap) (srtF (ltOf cf) l).length (encs E (srtF (ltOf cf) l)):=by
      rw [hlen]
      refine ⟨by rw [encs_len hk,hlen],.inr ⟨b,cap,_,rfl,hhp,q1,q2,by simp [putCells,q3],?_⟩⟩
      have hle:(flatK E k (srtF (ltOf cf) l).toArray).size≤cur.size:=by rw [hsz',q3]; exact Nat.mul_le_mul_right k q1
      rw [← hsz',take_put cur _ hle,hfl']
    exact hS.write (i:=0) (p:=sl e k (.slice (some ⟨b,0,none⟩) l.length cap) l.length (encs E l)) rfl hgb.os hgb.tape hgb.output hgb.size (fun b' hb' hne=>hgb.block b' hb' (fun e=>hne (by
      simp only [Option.some.injEq] at e; subst e; rfl))) hok (fun b' hb'=>⟨.inl hb',by
        have:b=b':=by simpa [sl,Value.ownBlock] using hb'
        have:=hgb.size; omega⟩)
end
end Go.SL
