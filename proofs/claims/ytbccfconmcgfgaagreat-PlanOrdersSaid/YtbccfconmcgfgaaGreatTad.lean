/- Part of a proof: laws and walks. -/
import Derived.Test.YtbccfconmcgfgaaGreatTac
import Derived.Shelf.SortM.Plain
import Derived.Shelf.SortM.SortNone
import Derived.Sort.OwnSortedInts
set_option linter.unusedVariables false
set_option linter.unusedSimpArgs false
namespace Go.SL
open Go
section
variable {r:Option Nat} {P:Program} {ops:Array Oper} {Q:Exit→Act→World→Prop} {a:Act} {w w0:World} {n:Nat} {ds:List Deferred} {L:List (Nat × Value)} {X:Nat→Prop} {B M:List Asr}
theorem O.aCS {i d j m len:Nat} {t ty e:TypeId} {rest:List Nat} {pos:String} {af:Array Edge} {z:Value} {c:Bool} {p:Asr} {parts:Array (Nat × Operand)} {vs:List (Nat × Value)} {cs' zs:Array Value}
    (hf:Fr a n ds L) (hS:St w0 w X B M) (hj:M[j]? = some (dz c p)) (hc:c=false) (ho:ops[i]? = some ⟨some d,.buildSlice t len parts,ty,pos,af,none⟩) (hd:Nat.blt d n=true)
    (he:jC P t=some e) (hs:dB P e=some m) (hz:iQ P e=some z) (h0:Nat.ble (len*m) 16777216=true) (h1:Nat.blt 0 (len*m)=true) (hzs:((List.range (len*m)).map (z.cells[· % z.cells.size]!)).toArray=zs)
    (hv:evP L parts.toList=some vs) (hb:Instr.fill (fun i=>some (i*m,m)) zs vs=some cs')
    (k:∀ b w' a',St w0 w' X B (M.set j (pt b (.cells cs' e (0,0))))→Fr a' n ds ((d,.slice (some ⟨b,0,none⟩) len len)::L)→O r P ops Q rest a' w'):O r P ops Q (i::rest) a w:=by
  refine O.buildSlice hf hS ho hd he hs hz h0 h1 hzs hv hb (fun b w' a' hb hS' hf'=>k b w' a' ?_ hf')
  subst hc
  have h1:=hS'.sep
  obtain ⟨hjl,hje⟩:=List.getElem?_eq_some_iff.1 hj
  refine ⟨hS'.os,hS'.tape,hS'.output,hS'.size,hS'.old,?_,hS'.bor⟩
  have hp:=h1.1
  have hM:=h1.2
  clear h1 hS hS' k hf hf' ho
  revert j
  induction M with
  | nil=>intro j hj hjl _; simp at hj
  | cons q t ih =>
    intro j hj hjl hje
    cases j with
    | zero =>
      simp only [List.set_cons_zero]
      exact ⟨⟨hp.1,hp.2.1,fun s hs=>hp.2.2 s (by simp [hs])⟩,hM.2⟩
    | succ j =>
      simp only [List.set_cons_succ]
      have h2:=ih ⟨hp.1,hp.2.1,fun s hs=>hp.2.2 s (by simp [hs])⟩ hM.2 (j:=j) (by simpa using hj) (by simpa using hjl) (by simpa using hje)
      refine ⟨⟨hM.1.1,hM.1.2.1,fun s hs b' hb' hsb=>?_⟩,h2⟩
      rcases List.mem_or_eq_of_mem_set hs with h3 | h3
      · exact hM.1.2.2 s h3 b' hb' hsb
      · subst h3
        exact hp.2.2 q (by simp) b' hsb hb'
end
section
variable {r:Option Nat} {P:Program} {ops:Array Oper} {Q:Exit→Act→World→Prop} {a:Act} {w w0:World} {n:Nat} {ds:List Deferred} {γ:Type} {X:Nat→Prop} {B M:List Asr}
theorem W.oD {id:Nat} {L0 L1:List (Nat × Value)} (g0:γ) (mk al qs:List Nat) (pl ma af ol:Nat→List Nat) (lov hiv:Nat→Nat) (val:γ→Nat→Value) (D:Nat→(Nat→Bool)→γ→World→Prop)
    (hmo:P.follows .mixedOrders=true)
    (hk:((mk++al++qs).all (fun i=>(mk.take (lov i)++ma i) == mk.take (lov i)++ma i&&(mk.drop (hiv i)) == mk.drop (hiv i)&&(ma i).all al.contains&&Nat.ble (lov i) mk.length)&&(List.range mk.length).all (fun j=>Nat.beq (lov (mk.getD j 0)) j&&!al.contains (mk.getD j 0)&&(List.range j).all fun t=>!Nat.beq (mk.getD t 0) (mk.getD j 0))&&(aEY ops&&ops.all (fun o=>jA o.op)&&wJ ops (uI L0)&&(List.range ops.size).all (fun i=>(qs.contains i||(mk++al).contains i)&&(pl i).all (fun p=>(qy ops i).contains p)&&((mk.take (lov i)++ma i)).all (fun p=>((wo ops).getD i []).contains p&&(mk++al).contains p)&&((mk.drop (hiv i))).all (fun j=>((wo ops).getD j []).contains i)&&(ol i).all (aCg ops L1 i))&&(mk++al).all (fun i=>Nat.blt i ops.size)
      && vBm ops (wo ops)&&(mk++al).all (fun i=>(af i).all fun j=>((wo ops).getD j []).contains i)&&qs.all (fun i=>!(mk++al).contains i)))=true)
    (hf:Fr a n ds L0) (hf1:Fr a n ds L1) (h0:D 0 (fun _=>false) g0 w.drew)
    (hq:Obl (fun i=>∀ k s g w,lov i≤k→k≤hiv i→(∀ p ∈ ma i,s p=true)→D k s g w→∀ a,Fr a n ds (slotsOf ops (val g) (pl i) (wT L1 (ol i) L0))→O r P ops (fun e a' w'=>e=.normal∧Fr a' n ds []∧(∀ d,jM ops i=some d→a'.tmps[d]? = some (val g i))∧D k s g w') [i] a w) qs)
    (hm:Stages (fun k i=>∀ s g w,(∀ p ∈ ma i,s p=true)→D k s g w→∀ a,Fr a n ds (slotsOf ops (val g) (pl i) (wT L1 (ol i) L0))→O r P ops (fun e a' w'=>e=.normal∧∃ g',Fr a' n ds []∧(∀ d,jM ops i=some d→a'.tmps[d]? = some (val g' i))∧(∀ j,j≠i→(af i).contains j=false→val g' j=val g j)∧D (k+1) s g' w') [i] a w) 0 mk)
    (ha:Obl (fun i=>∀ k s g w,lov i≤k→k≤hiv i→s i=false→D k s g w→∀ a,Fr a n ds (slotsOf ops (val g) (pl i) (wT L1 (ol i) L0))→O r P ops (fun e a' w'=>e=.normal∧∃ g',Fr a' n ds []∧(∀ d,jM ops i=some d→a'.tmps[d]? = some (val g' i))∧(∀ j,j≠i→(af i).contains j=false→val g' j=val g j)∧D k (upd s i) g' w') [i] a w) al)
    (hend:∀ s g a w,(∀ i ∈ al,s i=true)→Fr a n ds (slotsOf ops (val g) (List.range ops.size) L0)→D mk.length s g w→Q .normal a w):W r P (.region id ops true) Q a w:=by
  simp only [Bool.and_eq_true] at hk
  obtain ⟨⟨k1,k2⟩,k3⟩:=hk
  exact W.aF7 g0 mk al qs pl (fun i=>mk.take (lov i)++ma i) (fun i=>mk.drop (hiv i)) ma af ol lov hiv val D hmo (by simpa only [Bool.and_eq_true] using k1) (by simpa only [Bool.and_eq_true] using k2) (by simpa only [Bool.and_eq_true] using k3) hf hf1 h0 hq hm ha hend
theorem oj {T:Type} {x y:T} (h:some x=some y):x=y:=Option.some.inj h
def Lq (v:Nat→Value) (i:Nat) (l:List Nat) (N:Nat):List Value:=(List.range N).map fun j=>match Nat.beq j i||l.contains j with
  | true=>undef
  | false=>v j
theorem jl {v v':Nat→Value} {i:Nat} {l:List Nat} (N:Nat) (h:Lq v' i l N=Lq v i l N) (ht:∀ j,v' (j+N)=v (j+N)) (j:Nat) (hj:j≠i) (hk:l.contains j=false):v' j=v j:=by
  by_cases hN:j<N
  · have h1:(Lq v' i l N)[j]? = (Lq v i l N)[j]?:=by rw [h]
    have hb:(Nat.beq j i||l.contains j)=false:=by
      rw [hk,Bool.or_false]
      cases hh:Nat.beq j i with
      | false=>rfl
      | true=>exact absurd (Nat.eq_of_beq_eq_true hh) hj
    simp only [Lq,List.getElem?_map,List.getElem?_range hN,Option.map_some,hb] at h1
    exact Option.some.inj h1
  · have:=ht (j-N)
    rwa [Nat.sub_add_cancel (by omega)] at this
theorem nE {γ:Type} {L:List (Nat × Value)} {v:γ→Value} {i:Nat} {C2:γ→Prop} {D:γ→World→Prop} (q:Nat) (hf:Fr a n ds L) (g:γ) (hd:jM ops i=some q) (hv:lk L q=some (v g)) (h2:C2 g) (h3:D g w):O r P ops (fun e a' w'=>e=.normal∧∃ g',Fr a' n ds []∧(∀ d,jM ops i=some d→a'.tmps[d]? = some (v g'))∧C2 g'∧D g' w') [] a w :=
  O.nil ⟨rfl,g,hf.to trivial,gt (d:=q) hf hd hv,h2,h3⟩
theorem St.cz {X':Nat→Prop} {N R1 R:List Asr} {pp:Asr} {w':World} (hS:St w0 w X B M) (hc:St w w' X' [] N) (i:Nat) [h:Del i M pp R1] (hX:∀ b,X' b→pp.fp b) [h2:App N R1 R]:St w0 w' X B R:=by
  have:=hS.aCQ hc h.get hX
  rw [h.eq,h2.eq] at this
  exact this
end
end Go.SL

namespace Go.SL
open Go Go.Proofs Go.Shelf Go.RowKit Go.Maps
def uX (l:List Int):List Int:=l.mergeSort (fun x y=>decide (x≤y))
theorem aB4 (l:List Int):(uX l).length=l.length:=List.length_mergeSort _
theorem aDI {P:Program} {ρ:Ren} (lay:SlLaysM.n5 P ρ) (e:TypeId) (vX:Value) (l:List Int) (w0:World) (hX:oQ (hp w0) e 1 vX l.length (ints l)) (hl:l.length≤10000) :
    Ret P (ρ.f 5) #[vX] w0 (G:=Unit) (fun _=>.tuple #[]) (fun _ w=>St w0 w (fun b=>vX.ownBlock=some b) [] [sl e 1 vX (uX l).length (ints (uX l))]):=by
  have hlen:(uX l).length=l.length:=aB4 l
  have hS:=St.own hX
  rcases hX.2 with ⟨rfl,hn⟩ | ⟨g,cap,cur,rfl,hg,h1,h2,h3,h4⟩
  · obtain rfl:l=[]:=List.eq_nil_of_length_eq_zero hn
    refine Calls.mono (AnyM.slices_Sort_int_none lay none 0 w0) ?_
    rintro e w ⟨rfl,rfl⟩
    refine ⟨(),rfl,?_⟩
    rw [show uX []=[] from by simp [uX]]
    exact hS
  · have hb:w0.heap[g]? = some (.cells cur e (0,0)):=hg
    have hgl:=(Array.getElem?_eq_some_iff.1 hb).1
    have hm:l.length<4611686018427387904:=by omega
    refine Calls.mono (AnyM.slices_Sort_int lay g 0 cap l w0 (holds_of_blockI hb (by simpa [ints] using h4)) hgl hm) ?_
    rintro e' w ⟨rfl,n,os,rfl⟩
    refine ⟨(),rfl,?_⟩
    have hgb:=grownBy_sortedI (w:=w0) (g:=g) (n:=n) (os:=os) (uX l).toArray
    have hrow:=ownsRow_sortedI (n:=n) (os:=os) (base:=0) (cap:=cap) (ts:=uX l) (ss:=l) hlen (Nat.zero_le _) hb h1 h2 h3
    rw [show l.mergeSort (fun x y=>decide (x≤y))=uX l from rfl]
    generalize Sort.grow (Sort.putRow (Value.int .i64) (Sort.ahead w0 n) g 0 (uX l).toArray) os=w at hgb hrow ⊢
    have hok:oQ (hp w) e 1 (.slice (some ⟨g,0,none⟩) l.length cap) (uX l).length (ints (uX l)):=by
      rw [hlen]; exact uU.2 hrow
    exact hS.write (i:=0) (p:=sl e 1 (.slice (some ⟨g,0,none⟩) l.length cap) l.length (ints l)) rfl hgb.os hgb.tape hgb.output hgb.size (fun b hb' hne=>hgb.block b hb' (fun e=>hne (by
      simp only [Option.some.injEq] at e; subst e; rfl))) hok (fun b hb'=>⟨.inl hb',by
        have:g=b:=by simpa [sl,Value.ownBlock] using hb'
        have:=hgb.size; omega⟩)
theorem aGL {P:Program} {ρ:Ren} {E:Int→List Value} {f:FuncId} (lay:SlLaysM.n5 P ρ) (hf:ρ.f 5=f) (hE:∀ x,E x=[.int .i64 x]) (e:TypeId) (v:Value) (l r:List Int) (w0:World) (hX:oQ (hp w0) e 1 v l.length (encs E l)) (hl:l.length≤10000) (hr:uX l=r) :
    Ret P f #[v] w0 (G:=Unit) (fun _=>.tuple #[]) (fun _ w=>St w0 w (fun k=>v.ownBlock=some k) [] [slE e 1 E v r]):=by
  have h:∀ l:List Int,encs E l=ints l:=fun l=>by
    induction l with
    | nil=>rfl
    | cons x t ih=>unfold encs ints at *; simp only [List.flatMap_cons,hE,List.map_cons,ih]; rfl
  subst hr hf
  rw [h] at hX
  unfold slE
  rw [h]
  exact aDI lay e v l w0 hX hl
end Go.SL
