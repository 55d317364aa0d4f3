/- The library's sort of a list of ints, and the sorted keys of a set, told in this logic: out of the kit's contracts. -/
import Derived.Test.YtipfobacinmoiaaGreatSL12
import Derived.Test.YtipfobacinmoiaaGreatDetMath
import Derived.Shelf.SlIterI.Nil
import Derived.Shelf.SortM.Plain
import Derived.Shelf.SortM.SortNone
import Derived.Sort.OwnSortedInts
set_option linter.unusedVariables false
set_option linter.unusedSimpArgs false
namespace Go.SL
open Go Go.Proofs Go.Shelf Go.RowKit Go.Maps
theorem srt_eq (l:List Int):l.mergeSort (fun x y=>decide (x≤y))=Det.srt l:=rfl
theorem sort_any {P:Program} {ρ:Ren} (lay:SlLaysM.n5 P ρ) (e:TypeId) (vX:Value) (l:List Int) (w0:World) (hX:slOK (hp w0) e 1 vX l.length (ints l)) (hl:l.length≤10000) :
    Ret P (ρ.f 5) #[vX] w0 (G:=Unit) (fun _=>.tuple #[]) (fun _ w=>St w0 w (fun b=>vX.ownBlock=some b) [] [sl e 1 vX (Det.srt l).length (ints (Det.srt l))]):=by
  have hlen:(Det.srt l).length=l.length:=List.length_mergeSort _
  have hS:=St.own hX
  rcases hX.2 with ⟨rfl,hn⟩ | ⟨g,cap,cur,rfl,hg,h1,h2,h3,h4⟩
  · obtain rfl:l=[]:=List.eq_nil_of_length_eq_zero hn
    refine Calls.mono (AnyM.slices_Sort_int_none lay none 0 w0) ?_
    rintro e w ⟨rfl,rfl⟩
    refine ⟨(),rfl,?_⟩
    rw [show Det.srt []=[] from by simp [Det.srt]]
    exact hS
  · have hb:w0.heap[g]? = some (.cells cur e (0,0)):=hg
    have hgl:=(Array.getElem?_eq_some_iff.1 hb).1
    have hm:l.length<4611686018427387904:=by omega
    refine Calls.mono (AnyM.slices_Sort_int lay g 0 cap l w0 (holds_of_blockI hb (by simpa [ints] using h4)) hgl hm) ?_
    rintro e' w ⟨rfl,n,os,rfl⟩
    refine ⟨(),rfl,?_⟩
    have hgb:=grownBy_sortedI (w:=w0) (g:=g) (n:=n) (os:=os) (Det.srt l).toArray
    have hrow:=ownsRow_sortedI (n:=n) (os:=os) (base:=0) (cap:=cap) (ts:=Det.srt l) (ss:=l) hlen (Nat.zero_le _) hb h1 h2 h3
    rw [srt_eq]
    generalize Sort.grow (Sort.putRow (Value.int .i64) (Sort.ahead w0 n) g 0 (Det.srt l).toArray) os=w at hgb hrow ⊢
    have hok:slOK (hp w) e 1 (.slice (some ⟨g,0,none⟩) l.length cap) (Det.srt l).length (ints (Det.srt l)):=by
      rw [hlen]; exact slOK_iff.2 hrow
    exact hS.write (i:=0) (p:=sl e 1 (.slice (some ⟨g,0,none⟩) l.length cap) l.length (ints l)) rfl hgb.os hgb.tape hgb.output hgb.size (fun b hb' hne=>hgb.block b hb' (fun e=>hne (by
      simp only [Option.some.injEq] at e; subst e; rfl))) hok (fun b hb'=>⟨.inl hb',by
        have:g=b:=by simpa [sl,Value.ownBlock] using hb'
        have:=hgb.size; omega⟩)
theorem insert_perm {H:Type} (x:Lit × DataW H):∀ l:List (Lit × DataW H),(DataW.insert x l).Perm (x::l)
  | []=>List.Perm.refl _
  | y::r=>by
    unfold DataW.insert
    split
    · exact List.Perm.refl _
    · exact ((insert_perm x r).cons y).trans (List.Perm.swap x y r)
theorem sort_perm {H:Type}:∀ l:List (Lit × DataW H),(l.foldr DataW.insert []).Perm l
  | []=>List.Perm.refl _
  | x::r=>(insert_perm x _).trans ((sort_perm r).cons x)
theorem set_owns {P:Program} {k e:TypeId} {w:World} {b:Nat} {ins:List Bool} (hk:P.underlying k=some (.int .i64)) (he:P.underlying e=some .bool) (h:setOK (hp w) b ins) (hl:ins.length≤10000) :
    ∃ D:DataW Unit,w.ownsMap P k (plainElem P e) b 10000 D∧(intKeys D).Nodup∧(∀ t,t ∈ intKeys D↔∃ i:Nat,t=(i:Int)∧i<ins.length∧ins.getD i false=true)∧Maps.size D≤10000:=by
  obtain ⟨es,c,ks,h1,hm,h0,hkm⟩:=h
  have h1:w.heap[b]? = some (.map es c):=h1
  have hlt:∀ i:Nat,ins.getD i false=true→i<ins.length:=fun i hi=>by
    rcases Nat.lt_or_ge i ins.length with h | h
    · exact h
    · simp [List.getD_eq_getElem?_getD,List.getElem?_eq_none h] at hi
  have hmem:∀ t,t ∈ ks↔∃ i:Nat,t=(i:Int)∧i<ins.length∧ins.getD i false=true:=fun t=>by
    constructor
    · intro ht
      obtain ⟨i,rfl⟩:=Int.eq_ofNat_of_zero_le (h0 t ht)
      have:=(hkm i).1 ht
      exact ⟨i,rfl,hlt i this,this⟩
    · rintro ⟨i,rfl,_,hi⟩
      exact (hkm i).2 hi
  have hlen:ks.length≤ins.length:=by
    have e1:=Det.srt_eq_asc hm.nodup hmem
    have e2:(Det.srt ks).length=ks.length:=List.length_mergeSort _
    have:=Det.asc_len (bs:=ins) ins.length
    rw [← e1] at this
    omega
  have hsz:es.size=ks.length:=by have:=congrArg List.length hm.keys; simpa using this
  have hrd:∀ x ∈ es.toList,∃ a:Int,x.key=.int .i64 a∧WideElems.rd P k (plainElem (H:=Unit) P e) x=some (.int .i64 a,.lit (.bool true)):=fun x hx=>by
    have:x.key ∈ es.toList.map (·.key):=List.mem_map.2 ⟨x,hx,rfl⟩
    rw [hm.keys] at this
    obtain ⟨a,ha,hka⟩:=List.mem_map.1 this
    obtain ⟨i,rfl,hi,_⟩:=(hmem a).1 ha
    refine ⟨(i:Int),hka.symm,?_⟩
    have hw:(Lit.int .i64 (i:Int)).wf=true:=by
      have e1:IntKind.i64.min=-9223372036854775808:=by decide
      have e2:IntKind.i64.max=9223372036854775807:=by decide
      simp only [Lit.wf,e1,e2,Bool.and_eq_true,decide_eq_true_eq]
      omega
    simp [WideElems.rd,← hka,keyOf_int_mk hk hw,hm.vals x hx,plainElem_bool he]
  refine ⟨.map ((es.toList.map (WideElems.rg P k (plainElem P e))).foldr DataW.insert []),⟨es,c,h1,⟨by unfold maxLen; omega,⟨hm.born,hm.apart,?_⟩,fun x hx=>?_⟩,by omega,rfl⟩,?_⟩
  · rw [hm.keys]
    refine List.pairwise_map.2 (hm.nodup.imp ?_)
    intro a b hne e
    exact hne (by simpa using e)
  · obtain ⟨a,_,h⟩:=hrd x hx; exact ⟨_,h⟩
  have hp:(intKeys (DataW.map ((es.toList.map (WideElems.rg P k (plainElem (H:=Unit) P e))).foldr DataW.insert []))).Perm ks:=by
    unfold intKeys
    refine ((sort_perm _).map _).trans ?_
    have:((es.toList.map (WideElems.rg P k (plainElem (H:=Unit) P e))).map fun p=>intOf p.1)=ks:=by
      apply (List.map_inj_right (f:=Value.int .i64) (fun a b h=>by simpa using h)).1
      rw [← hm.keys,List.map_map,List.map_map]
      refine List.map_congr_left fun x hx=>?_
      obtain ⟨a,h2,h3⟩:=hrd x hx
      simp [WideElems.rg,h3,h2,intOf]
    rw [this]
  refine ⟨hp.symm.nodup hm.nodup,fun t=>by rw [hp.mem_iff]; exact hmem t,?_⟩
  have h5:=hp.length_eq
  simp only [intKeys,List.length_map] at h5
  simp only [Maps.size]
  omega
theorem Below.st {w w':World} (h:RowKit.Below w.heap.size w w'):St w w' noX [] [] :=
  ⟨h.os,h.tape,h.output,h.size,fun b hb _=>h.block b hb,trivial,by simp⟩
theorem ownsRow.st {w w':World} {e:TypeId} {v:Value} {n:Nat} {xs:List Value} (h:RowKit.Below w.heap.size w w') (hr:w'.ownsRow w.heap.size e 1 v n xs):St w w' noX [] [sl e 1 v n xs]:=by
  refine ⟨h.os,h.tape,h.output,h.size,fun b hb _=>h.block b hb,⟨⟨slOK_iff.2 ⟨hr.1,hr.2.imp id fun ⟨g,cap,cur,h1,h2,h3⟩=>⟨g,cap,cur,h1,Nat.zero_le _,h3⟩⟩,fun b hb=>?_,by simp⟩,trivial⟩,by simp⟩
  have:=hr.lt b hb
  exact ⟨this.2,.inr this.1⟩
end Go.SL
