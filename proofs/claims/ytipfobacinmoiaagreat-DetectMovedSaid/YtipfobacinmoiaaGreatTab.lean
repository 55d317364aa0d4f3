/- Part of a proof: laws and walks. -/
import Derived.Test.YtipfobacinmoiaaGreatTaa
import Derived.ChangeKeysEq
import Derived.Laws.Externs
set_option linter.unusedVariables false
set_option linter.unusedSimpArgs false
namespace Go.SL
open Go
def aQ (h:Hp) (sz:Nat) (v:Value) (n:Nat) (xs:List Value):Prop :=
  xs.length=n*sz∧n≤maxLen∧∃ A c,v=.slice A n c∧(0<n→∃ a cur e z,A=some a∧a.spot=none∧h a.block=some (.cells cur e z)∧∀ j u,xs[j]? = some u→cur[a.off+j]? = some u)
def rdv (sz:Nat) (v:Value) (n:Nat) (xs:List Value):Asr :=
  ⟨fun k=>0<n∧v.ownBlock=some k,fun h=>aQ h sz v n xs,fun h h' hk hh=>by
    obtain ⟨h1,h2,A,c,rfl,h3⟩:=hh
    refine ⟨h1,h2,A,c,rfl,fun hn=>?_⟩
    obtain ⟨a,cur,e,z,rfl,hs,hb,hc⟩:=h3 hn
    exact ⟨a,cur,e,z,rfl,hs,by rw [hk a.block ⟨hn,rfl⟩]; exact hb,hc⟩⟩
theorem dZ.rd {h:Hp} {e:TypeId} {sz:Nat} {v:Value} {n:Nat} {xs:List Value} (hs:dZ h e sz v n xs):aQ h sz v n xs:=by
  rcases hs.2 with ⟨rfl,rfl⟩ | ⟨g,cap,cur,rfl,hg,h1,h2,h3,h4⟩
  · exact ⟨hs.1,Nat.zero_le _,none,0,rfl,fun h=>by omega⟩
  · refine ⟨hs.1,Nat.le_trans h1 h2,_,cap,rfl,fun _=>⟨⟨g,0,none⟩,cur,e,(0,0),rfl,rfl,hg,fun j u hu=>?_⟩⟩
    have:=aAj h4 hu
    rw [Nat.zero_add,← Array.getElem?_toList]; exact this
def ix:Value→Nat→Value
  | .slice A _ _,m=>.pointer (A.map (·.add m))
  | _,_=>undef
def vlen:Value→Nat
  | .slice _ n _=>n
  | _=>0
section
variable {P:Program} {n:Nat} {ds:List Deferred} {L:List (Nat × Value)} {ty t e:TypeId} {w:World} {x y:Operand} {v u:Value} {N sz m:Nat} {xs us:List Value} {k:IntKind} {p:Int} {j o:Nat}
theorem aA.bP {at_:Array TypeId} (he:(at_[0]?).bind (eU P)=some e) (hv:ev L x=some v) (hr:aQ (hp w) sz v N xs):aA P n ds L (.call ⟨.builtin .len,#[x],at_⟩) ty w (.int .i64 (N:Int)) w:=by
  obtain ⟨_,_,A,c,rfl,_⟩:=hr
  exact aA.len he hv
theorem aA.ixV (he:eU P t=some e) (hs:cO P e=some sz) (hx:ev L x=some v) (hy:ev L y=some (.int k p)) (hr:aQ (hp w) sz v N xs) (hj:p=(j:Int)) (hlt:j<N) (hm:j*sz=m):aA P n ds L (.indexAddr t x y) ty w (ix v m) w:=by
  obtain ⟨_,_,A,c,rfl,h3⟩:=hr
  obtain ⟨a,cur,e',z,rfl,hsp,hb,hc⟩:=h3 (by omega)
  obtain ⟨b,off,spot⟩:=a
  simp only at hsp
  subst hsp
  subst hm
  have:=aA.aCA (P:=P) (n:=n) (ds:=ds) (L:=L) (ty:=ty) (w:=w) (m:=off+j*sz) he hs hx hy hj hlt rfl
  simpa only [ix,Option.map_some,d9] using this
theorem aA.ixF {f off q:Nat} (hF:jM P t f=some off) (hx:ev L x=some (ix v m)) (hr:aQ (hp w) sz v N xs) (hn:0<N) (hq:m+off=q):aA P n ds L (.fieldAddr t x f) ty w (ix v q) w:=by
  obtain ⟨_,_,A,c,rfl,h3⟩:=hr
  obtain ⟨a,cur,e',z,rfl,hsp,hb,hc⟩:=h3 hn
  obtain ⟨b,o,spot⟩:=a
  simp only at hsp
  subst hsp
  subst hq
  simp only [ix,Option.map_some,d9] at hx ⊢
  exact aA.field hF hx (by omega)
theorem aA.ld1 (ha:iH P t=some false) (hx:ev L x=some (ix v m)) (hr:aQ (hp w) sz v N xs) (hv:xs[m]? = some u):aA P n ds L (.load t x) ty w u w:=by
  obtain ⟨hl,_,A,c,rfl,h3⟩:=hr
  have hN:0<N:=by
    have:=(List.getElem?_eq_some_iff.1 hv).1
    rw [hl] at this
    rcases Nat.eq_zero_or_pos N with h | h
    · subst h; simp at this
    · exact h
  obtain ⟨a,cur,e',z,rfl,hsp,hb,hc⟩:=h3 hN
  obtain ⟨b,o,spot⟩:=a
  simp only at hsp
  subst hsp
  simp only [ix,Option.map_some,d9] at hx
  exact aA.aT (e:=e') (zz:=z) (cs:=cur) ha hx hb (hc m u hv)
end
section
variable {r:Option Nat} {P:Program} {Q:Exit→Act→World→Prop} {ops:Array Oper} {i:Nat} {rest:List Nat} {a:Act} {w w0 w':World} {n:Nat} {ds:List Deferred} {L:List (Nat × Value)}
  {d:Nat} {op:Op} {ty t e:TypeId} {pos:String} {af:Array Edge} {v u:Value} {X:Nat→Prop} {B M M':List Asr} {x y:Operand} {b o j m:Nat} {N sz:Nat} {xs xs':List Value}
theorem St.iJ (h:St w0 w X B M) (hi:M[j]? = some (SL.sl e sz v N xs)):dZ (hp w) e sz v N xs:=h.at_ hi
theorem St.slr (h:St w0 w X B M) (hi:M[j]? = some (SL.sl e sz v N xs)):aQ (hp w) sz v N xs:=(h.at_ hi:dZ (hp w) e sz v N xs).rd
theorem St.aL (h:St w0 w X B M) (hi:B[j]? = some (rdv sz v N xs)):aQ (hp w) sz v N xs:=h.bat hi
theorem qg:∀ (l:List Value) (c:Array Value) (o k:Nat),(wr c o l)[k]? = if k<c.size∧o≤k∧k<o+l.length then l[k-o]? else c[k]?
  | [],c,o,k=>by simp only [wr,List.length_nil]; rw [if_neg (by omega)]
  | u::t,c,o,k=>by
    simp only [wr]
    rw [qg t]
    simp only [Array.size_setIfInBounds,List.length_cons]
    by_cases h1:k<c.size
    · by_cases h2:o=k
      · subst h2
        rw [if_neg (by omega),if_pos (by omega),Array.getElem?_setIfInBounds_self_of_lt h1]
        simp
      · rw [Array.getElem?_setIfInBounds_ne h2]
        by_cases h3:o+1≤k∧k<o+1+t.length
        · rw [if_pos ⟨h1,h3⟩,if_pos (by omega)]
          have:k-o=(k-(o+1))+1:=by omega
          rw [this,List.getElem?_cons_succ]
        · rw [if_neg (by omega),if_neg (by omega)]
    · rw [if_neg (by omega),if_neg (by omega),Array.getElem?_eq_none (by simp; omega),Array.getElem?_eq_none (by omega)]
theorem O.bF {m':Nat} (hf:Fr a n ds L) (hS:St w0 w X B M) (ho:ops[i]? = some ⟨none,.store t x y,ty,pos,af,none⟩) (hx:ev L x=some (ix v m)) (hy:ev L y=some u)
    (hs:cO P t=some 1) (hc:u.cells=#[u]) (h1:bW [u]=true) (hM:M[j]? = some (SL.sl e sz v N xs)) (hlt:m<xs.length) (hxs:xs.set m u=xs') (hM':M.set j (SL.sl e sz v N xs')=M') (hd:m'=m)
    (k:∀ w',St w0 w' X B M'→O r P ops Q rest a w'):O r P ops Q (i::rest) a w:=by
  subst hxs hM'
  have hsl:=hS.iJ hM
  have hN:0<N:=by
    rw [hsl.1] at hlt
    rcases Nat.eq_zero_or_pos N with h | h
    · subst h; simp at hlt
    · exact h
  obtain ⟨g,cap,rfl⟩:=hsl.form hN
  obtain ⟨cur,_,hg,hcs,htk,hle,hmx⟩:=hsl.block
  have hlen:=hsl.1
  have hcap:N*sz≤cap*sz:=Nat.mul_le_mul_right _ hle
  have hmlt:m<cur.size:=by rw [hcs]; omega
  have hx':ev L x=some (.pointer (some ⟨g,m,none⟩)):=by simpa only [ix,Option.map_some,d9,Nat.zero_add] using hx
  have hcell:u.cells.toList=[u]:=by rw [hc]
  refine O.unit (w':=gL w g (.cells (wr cur m u.cells.toList) e (0,0))) hf ho rfl ?_ (k _ ?_)
  · intro a d pos af g' hf
    simp only [execOp,hf.eval hx',hf.eval hy]
    refine y7 ?_
    have hrs:=mX (P:=P) (b:=g) (o:=m) (e:=e) (v:=u) (c:=cur) (w:=w) hs (by rw [hc]; rfl) hg (by omega) (by rw [hcell]; exact h1)
    simp only [Instr.storeAt,Instr.sureAddr,Sem.run_bind,Sem.run_pure,Result.andThen,hrs]
  · refine hS.write hM rfl rfl rfl (by rw [kX]; exact Nat.le_refl _) (fun b _ hb=>yV (fun e=>hb (by subst e; rfl))) ?_ (fun b hb=>⟨.inl hb,?_⟩)
    · refine ⟨by rw [List.length_set]; exact hlen,.inr ⟨g,cap,_,rfl,sZ hg,hle,hmx,by rw [zB]; exact hcs,?_⟩⟩
      apply List.ext_getElem?
      intro q
      rw [hcell]
      subst htk
      rw [List.getElem?_take,Array.getElem?_toList,qg,List.getElem?_set]
      simp only [List.length_take,Array.length_toList,List.length_cons,List.length_nil,List.getElem?_take,Array.getElem?_toList]
      by_cases hqm:m=q
      · subst hqm
        have hlt':m<N*sz:=by
          have:=hlt
          simp only [List.length_take,Array.length_toList] at this
          omega
        rw [if_pos hlt',if_pos (by omega),if_pos rfl,if_pos (by omega)]
        simp
      · rw [if_neg hqm]
        split
        · rw [if_neg (by omega)]
        · rfl
    · rw [kX]
      have hb:some g=some b:=hb
      injection hb with hb
      subst hb
      exact (Array.getElem?_eq_some_iff.1 hg).1
end
def ints (l:List Int):List Value:=l.map (Value.int .i64)
def bools (l:List Bool):List Value:=l.map Value.bool
section
variable {l:List Int} {bs:List Bool} {j:Nat}
theorem aI (h:j<l.length):(ints l)[j]? = some (.int .i64 (l.getD j 0)):=by
  simp [ints,List.getElem?_eq_getElem h]
theorem jP (h:j<bs.length):(bools bs)[j]? = some (.bool (bs.getD j false)):=by
  simp [bools,List.getElem?_eq_getElem h]
theorem ai:(ints l).length=l.length:=by simp [ints]
theorem nS:(bools bs).length=bs.length:=by simp [bools]
theorem o7 (a b:List Int):ints (a++b)=ints a++ints b:=by simp [ints]
theorem rF (a b:List Bool):bools (a++b)=bools a++bools b:=by simp [bools]
theorem nN {b:Bool}:(bools bs).set j (.bool b)=bools (bs.set j b):=by simp [bools,List.map_set]
theorem ints_set {z:Int}:(ints l).set j (.int .i64 z)=ints (l.set j z):=by simp [ints,List.map_set]
theorem wT (n:Nat):(madeCells (Value.cells (.bool false)) (n*1)).toList=bools (List.replicate n false):=by
  apply List.ext_getElem?
  intro i
  simp only [madeCells,Value.cells,Array.toList_map,Array.toList_range,Nat.mul_one,bools,List.map_replicate,List.getElem?_map,List.getElem?_replicate]
  by_cases h:i<n
  · simp [h,List.getElem?_range,Nat.mod_one]
  · simp [h]
theorem zq (n:Nat):(madeCells (Value.cells (.int .i64 0)) (n*1)).toList=ints (List.replicate n 0):=by
  apply List.ext_getElem?
  intro i
  simp only [madeCells,Value.cells,Array.toList_map,Array.toList_range,Nat.mul_one,ints,List.map_replicate,List.getElem?_map,List.getElem?_replicate]
  by_cases h:i<n
  · simp [h,List.getElem?_range,Nat.mod_one]
  · simp [h]
end
end Go.SL
namespace Go.SL
open Go
section
variable {w w0:World} {X:Nat→Prop} {B M:List Asr} {sz n e:Nat} {v:Value} {xs:List Value} {p q:Asr} {i j:Nat}
theorem aQ.lt {k:Nat} (h:aQ (hp w) sz v n xs) (hn:0<n) (hk:v.ownBlock=some k):k<w.heap.size:=by
  obtain ⟨_,_,A,c,rfl,h3⟩:=h
  obtain ⟨a,cur,e,z,rfl,_,hb,_⟩:=h3 hn
  simp only [Value.ownBlock,Option.some.injEq] at hk
  subst hk
  exact (Array.getElem?_eq_some_iff.1 hb).1
theorem St.lend (hS:St w w X B M) (h:aQ (hp w) sz v n xs) (hX:∀ b,0<n→v.ownBlock=some b→¬ X b):St w w X (rdv sz v n xs::B) M :=
  ⟨hS.os,hS.tape,hS.output,hS.size,hS.old,hS.sep,fun p hp=>by
    rcases List.mem_cons.1 hp with rfl | hp
    · exact ⟨h,fun b hb=>⟨h.lt hb.1 hb.2,hX b hb.1 hb.2⟩⟩
    · exact hS.bor p hp⟩
theorem St.bO (hS:St w w noX B M) (h:aQ (hp w) sz v n xs):St w w noX (rdv sz v n xs::B) M:=hS.lend h (fun _ _ _ h=>h)
theorem St.own (h:dZ (hp w) e sz v n xs):St w w (fun b=>v.ownBlock=some b) [] [sl e sz v n xs] :=
  ⟨rfl,rfl,rfl,Nat.le_refl _,fun _ _ _=>rfl,⟨⟨h,fun b hb=>⟨((jO.1 h).lt b hb).2,.inl hb⟩,by simp⟩,trivial⟩,by simp⟩
theorem St.apart (hS:St w0 w X B M) (hi:M[i]? = some p) (hj:B[j]? = some q):∀ b,q.fp b→¬ p.fp b:=fun b hq hp=>by
  have h1:=(hS.bor q (List.mem_of_getElem? hj)).2 b hq
  rcases ((hS.sep.get hi).2 b hp).2 with h2 | h2
  · exact h1.2 h2
  · omega
theorem je (v:Value) (l:List Int) (z:Int):sl e 1 v (l.length+1) (ints l++[.int .i64 z])=sl e 1 v (l++[z]).length (ints (l++[z])):=by
  rw [o7,List.length_append]; rfl
theorem aAf (v:Value) (l:List Bool) (z:Bool):sl e 1 v (l.length+1) (bools l++[.bool z])=sl e 1 v (l++[z]).length (bools (l++[z])):=by
  rw [rF,List.length_append]; rfl
theorem dZ.nle {h:Hp} (hs:dZ h e sz v n xs):n≤maxLen:=by
  rcases hs.2 with ⟨_,h0⟩ | ⟨g,cap,cur,_,_,h1,h2,_⟩
  · subst h0; exact Nat.zero_le _
  · exact Nat.le_trans h1 h2
end
section
variable {w w0:World} {X:Nat→Prop} {B M M':List Asr} {e:TypeId} {j b:Nat}
theorem St.aDe {cs:Array Value} {n sz:Nat} {xs:List Value} (hS:St w0 w X B M) (hi:M[j]? = some (pt b (.cells cs e (0,0)))) (hn:n≤maxLen) (hc:cs.size=n*sz) (hx:cs.toList=xs) (hM:M.set j (sl e sz (.slice (some ⟨b,0,none⟩) n n) n xs)=M'):St w0 w X B M':=by
  subst hM hx
  refine hS.conv hi (fun h=>?_) (fun k hk=>?_)
  · refine ⟨by simpa using hc,.inr ⟨b,n,cs,rfl,h,Nat.le_refl _,hn,hc,?_⟩⟩
    rw [List.take_of_length_le (by simp [hc])]
  · have hk:some b=some k:=hk
    injection hk with hk
    exact hk.symm
end
end Go.SL

namespace Go.SL
open Go
section
variable {r:Option Nat} {P:Program} {ops:Array Oper} {Q:Exit→Act→World→Prop} {C:World→Prop} {K:Act→Prop} {m:Nat} {a:Act} {w:World}
def anyM (P:Program) (ops:Array Oper) (C:World→Prop) (K:Act→Prop) (m:Nat):Nat→Array Bool→Act→Prop
  | 0,listed,a=>(∀ i ∈ Region.ready .any ops listed,m≤i)∧K a
  | fuel+1,listed,a=>((∀ i ∈ Region.ready .any ops listed,m≤i)→K a) ∧
      ∀ i ∈ Region.ready .any ops listed,i<m→qOp P ops C i (anyM P ops C K m fuel (listed.setIfInBounds i true)) a
theorem xR {i:Nat} {oi:Oper} {v:Value} (hi:ops[i]? = some oi) (him:i<m) (hsel:∀ (j:Nat) (o:Oper) cs b,ops[j]? = some o→o.op≠.select cs b) :
    ∀ (fuel:Nat) (listed:Array Bool) (a:Act),
      (∀ j oj,ops[j]? = some oj→j≠i→listed.getD j true=false→(∀ e ∈ oj.after,Region.binds .any e=true→e.on≠i)→oi.apart ops oj=true) →
      i ∈ Region.ready .any ops listed→YieldsIn P ops C oi v a →
      anyM P ops C K m fuel (listed.setIfInBounds i true) (a.put oi.dst v)→anyM P ops C K m (fuel+1) listed a:=by
  intro fuel
  induction fuel with
  | zero =>
    intro listed a _ hr hy H
    refine ⟨fun h=>absurd (h i hr) (by omega),fun j hj hjm=>?_⟩
    by_cases hji:j=i
    · subst hji; exact hy.qOp hi H
    · have:=H.1 j (ready_mono hj hji)
      omega
  | succ fuel ih =>
    intro listed a hfree hr hy H
    refine ⟨fun h=>absurd (h i hr) (by omega),fun j hj hjm=>?_⟩
    by_cases hji:j=i
    · subst hji; exact hy.qOp hi H
    · have h1:=H.2 j (ready_mono hj hji) hjm
      obtain ⟨hjun,oj,hoj,hall⟩:=mem_ready.1 hj
      have hnot:∀ e ∈ oj.after,Region.binds .any e=true→e.on≠i:=fun e he hb heq=>by
        have h1:=hall e he hb
        have h0:=(mem_ready.1 hr).1
        rw [heq] at h1
        rcases Nat.lt_or_ge i listed.size with h' | h'
        · simp [h'] at h0 h1; rw [h0] at h1; cases h1
        · simp [Array.getElem?_eq_none h'] at h1
      have h2:=qOp_put hoj (hfree j oj hoj hji hjun hnot) (fun cs b=>hsel i oi cs b hi) (fun cs b=>hsel j oj cs b hoj) hy h1
      have hfree':∀ k ok,ops[k]? = some ok→k≠i→(listed.setIfInBounds j true).getD k true=false →
          (∀ e ∈ ok.after,Region.binds .any e=true→e.on≠i)→oi.apart ops ok=true:=fun k ok hk hki hun hno=>by
        refine hfree k ok hk hki ?_ hno
        by_cases hjk:j=k
        · subst hjk; exact hjun
        · rw [getD_set_ne true hjk] at hun; exact hun
      refine qOp_mono (fun a' h3=>ih (listed.setIfInBounds j true) a' hfree' (ready_mono hr (Ne.symm hji)) h3.1 ?_) h2
      rw [Array.setIfInBounds_comm _ _ hji]
      exact h3.2
def mask (n k:Nat):Array Bool:=((List.range n).map fun i=>decide (i<k)).toArray
theorem aAX (n k:Nat):(mask n k).size=n:=by simp [mask]
theorem qh {n k:Nat}:(mask n k).setIfInBounds k true=mask n (k+1):=by
  apply Array.ext (by simp [mask])
  intro i h1 h2
  have hi:i<n:=by simpa [mask] using h2
  by_cases e:k=i
  · subst e; simp [mask]
  · rw [Array.getElem_setIfInBounds_ne (by simpa [mask] using hi) e]
    simp only [mask,List.getElem_toArray,List.getElem_map,List.getElem_range]
    congr 1
    exact propext ⟨fun h=>by omega,fun h=>by omega⟩
theorem zV {n:Nat}:mask n 0=Array.replicate n false:=by
  apply Array.ext (by simp [mask])
  intro i h1 h2
  simp [mask]
def Region.aA9 (ops:Array Oper):Nat→Nat→Bool
  | 0,k=>(Region.ready .any ops (mask ops.size k)).all (fun i=>Nat.ble k i)
  | n+1,k=>(Region.ready .any ops (mask ops.size k)).contains k&&Region.free .any ops (mask ops.size k) k&&Region.aA9 ops n (k+1)
def Region.chain (ops:Array Oper):Nat→Nat→Bool
  | 0,k=>(Region.ready .any ops (mask ops.size k)).isEmpty
  | n+1,k=>(Region.ready .any ops (mask ops.size k) == [k])&&Region.chain ops n (k+1)
theorem um (hs:Region.noSelect ops=true):∀ (l:List Oper) (k:Nat) (a:Act),k+l.length=m→(∀ j,j<l.length→l[j]? = ops[k+j]?) →
    Region.aA9 ops l.length k=true→wpQuiet P ops C K l a→anyM P ops C K m l.length (mask ops.size k) a
  | [],k,a,hm,_,hB,h=>⟨fun i hi=>by
      simp only [Region.aA9,List.length_nil,List.all_eq_true] at hB
      have:=Nat.le_of_ble_eq_true (hB i hi)
      simp at hm; omega,h⟩
  | o::l,k,a,hm,hl,hB,h=>by
    simp only [List.length_cons] at hm hl
    have h0:ops[k]? = some o:=by simpa using (hl 0 (by omega)).symm
    simp only [List.length_cons,Region.aA9,Bool.and_eq_true] at hB
    obtain ⟨⟨hr,hf⟩,hB'⟩:=hB
    have hst:qOp P ops C k (wpQuiet P ops C K l) a:=by unfold qOp; simp only [h0]; exact h
    obtain ⟨v,hy,hK⟩:=yieldsIn_of_qOp h0 hst
    refine xR h0 (by omega) (Region.noSelect_spec hs) l.length (mask ops.size k) a (Region.free_spec h0 hf) (by simpa using hr) hy ?_
    rw [qh]
    exact um hs l (k+1) _ (by omega) (fun j hj=>by have:=hl (j+1) (by omega); simpa [Nat.add_assoc,Nat.add_comm 1 j] using this) hB' hK
theorem lM:∀ (n k:Nat) (a:Act) (w:World),k+n=ops.size→Region.chain ops n k=true→O r P ops Q (List.range' k n) a w→wpAnyIn (FW r) 0 P .any ops Q n (mask ops.size k) a w
  | 0,k,a,w,_,hc,h=>⟨by simpa [Region.chain] using hc,h⟩
  | n+1,k,a,w,hk,hc,h=>by
    simp only [Region.chain,Bool.and_eq_true,beq_iff_eq] at hc
    obtain ⟨hr,hc⟩:=hc
    refine ⟨fun h0=>(by rw [hr] at h0; cases h0),fun i hi=>?_⟩
    rw [hr] at hi
    simp only [List.mem_singleton] at hi
    subst hi
    rw [qh]
    unfold O at h
    rw [List.range'_succ,wpOpsIn_cons] at h
    exact wpOpIn_mono (fun a' w' h'=>lM n (i+1) a' w' (by omega) hc h') h
def preds (o:Oper):List Nat:=(o.after.toList.filter (fun e=>Region.binds .any e)).map (·.on)
def di (ops:Array Oper) (i:Nat):List Nat:=match ops[i]? with
  | some o=>preds o
  | none=>[]
def kS (ops:Array Oper):List (List Nat):=ops.toList.foldl (fun acc o=>acc++[((preds o)++(preds o).flatMap fun p=>acc.getD p []).eraseDups]) []
def vBm (ops:Array Oper) (bm:List (List Nat)):Bool:=(List.range ops.size).all fun i =>
  (bm.getD i []).all fun j=>(di ops i).contains j||(di ops i).any fun p=>(bm.getD p []).contains j
def cover (n m:Nat) (bm:List (List Nat)):Bool:=(List.range n).all fun i=>Nat.blt i m||(List.range m).all fun j=>(bm.getD i []).contains j
def vG (ops:Array Oper):Bool:=(List.range ops.size).all fun i=>(di ops i).all fun p=>Nat.blt p i
theorem qc {o:Oper} {e:Edge} (he:e ∈ o.after) (hb:Region.binds .any e=true):e.on ∈ preds o :=
  List.mem_map.2 ⟨e,List.mem_filter.2 ⟨by simpa using he,hb⟩,rfl⟩
theorem gU {o:Oper} {j:Nat} (h:j ∈ preds o):∃ e ∈ o.after,Region.binds .any e=true∧e.on=j:=by
  obtain ⟨e,he,rfl⟩:=List.mem_map.1 h
  obtain ⟨h1,h2⟩:=List.mem_filter.1 he
  exact ⟨e,by simpa using h1,h2,rfl⟩
theorem yK {bm:List (List Nat)} {S:Nat→Prop} (hv:vBm ops bm=true) (hord:vG ops=true) (hS:∀ i o,S i→ops[i]? = some o→∀ p ∈ preds o,S p) :
    ∀ (i:Nat) (o:Oper),ops[i]? = some o→(∀ p ∈ preds o,S p)→∀ j ∈ bm.getD i [],S j:=by
  intro i
  induction i using Nat.strongRecOn with
  | _ i ih =>
    intro o ho hp j hj
    have hi:i<ops.size:=(Array.getElem?_eq_some_iff.1 ho).1
    have hpa:di ops i=preds o:=by simp [di,ho]
    have h1:=List.all_eq_true.1 hv i (by simpa using hi)
    have h2:=List.all_eq_true.1 h1 j hj
    rw [hpa] at h2
    simp only [Bool.or_eq_true,List.contains_iff_mem,List.any_eq_true] at h2
    rcases h2 with h2 | ⟨p,hpm,hpj⟩
    · exact hp j h2
    · have hlt:p<i:=by
        have:=List.all_eq_true.1 hord i (by simpa using hi)
        rw [hpa] at this
        have:=List.all_eq_true.1 this p hpm
        simpa using this
      have hps:p<ops.size:=by omega
      exact ih p hlt _ (Array.getElem?_eq_getElem hps) (hS p _ (hp p hpm) (Array.getElem?_eq_getElem hps)) j hpj
structure Part (ops:Array Oper) (m k:Nat) (listed:Array Bool):Prop where
  closed:∀ i o,listed.getD i false=true→ops[i]? = some o→∀ p ∈ preds o,listed.getD p false=true
  size:listed.size=ops.size
  low:∀ i,m≤i→i<ops.size→listed.getD i true=false
  count:listed.toList.count true=k
theorem Part.full {listed:Array Bool} (h:Part ops m m listed) (hm:m≤ops.size):listed=mask ops.size m:=by
  have key:∀ (l:List Bool) (m:Nat),(∀ i,m≤i→i<l.length→l.getD i true=false)→l.count true=m→m≤l.length→∀ i,i<l.length→l.getD i true=decide (i<m):=by
    intro l
    induction l with
    | nil=>intro m _ _ _ i hi; simp at hi
    | cons b t ih =>
      intro m hlow hc hle i hi
      cases m with
      | zero =>
        have:=hlow i (Nat.zero_le _) hi
        simpa using this
      | succ m =>
        have hle':t.count true≤t.length:=List.count_le_length
        have hb:b=true:=by
          cases b with
          | true=>rfl
          | false =>
            exfalso
            simp only [List.count_cons] at hc
            have hc':t.count true=m+1:=by simpa using hc
            have hlt:∀ (l:List Bool) (q:Nat),(∀ i,q≤i→i<l.length→l.getD i true=false)→l.count true≤q:=by
              intro l
              induction l with
              | nil=>intro q _; simp
              | cons c s ih2 =>
                intro q hq
                cases q with
                | zero =>
                  have h0:=hq 0 (Nat.le_refl _) (by simp)
                  simp at h0
                  subst h0
                  have:=ih2 0 (fun i _ hi=>by have:=hq (i+1) (by omega) (by simp; omega); simpa using this)
                  simp only [List.count_cons]; simpa using this
                | succ q =>
                  have:=ih2 q (fun i h1 hi=>by have:=hq (i+1) (by omega) (by simp; omega); simpa using this)
                  simp only [List.count_cons]
                  split <;> omega
            have:=hlt t m (fun i h1 hi=>by have:=hlow (i+1) (by omega) (by simp; omega); simpa using this)
            omega
        subst hb
        simp only [List.count_cons,beq_self_eq_true,if_true] at hc
        cases i with
        | zero=>simp
        | succ i =>
          have:=ih m (fun i h1 hi=>by have:=hlow (i+1) (by omega) (by simp; omega); simpa using this) (by omega) (by simp only [List.length_cons] at hle; omega) i (by simp only [List.length_cons] at hi; omega)
          simp only [List.getD_cons_succ,this]
          congr 1
          exact propext ⟨fun h=>by omega,fun h=>by omega⟩
  apply Array.ext (by rw [h.size,aAX])
  intro i h1 h2
  have hi:i<listed.toList.length:=by simpa using h1
  have:=key listed.toList m (fun i h1 h2=>by
    have:=h.low i h1 (by rw [← h.size]; simpa using h2)
    simpa [Array.getD_eq_getD_getElem?,List.getD_eq_getElem?_getD] using this) h.count (by simp [h.size]; exact hm) i hi
  simp only [mask,List.getElem_toArray,List.getElem_map,List.getElem_range]
  simpa [List.getD_eq_getElem?_getD,List.getElem?_eq_getElem hi] using this
theorem gN:∀ (l:List Bool) (i:Nat),l.getD i true=false→(l.set i true).count true=l.count true+1
  | [],i,h=>by simp at h
  | b::t,0,h=>by simp at h; subst h; simp
  | b::t,i+1,h=>by
    have:=gN t i (by simpa using h)
    simp only [List.set_cons_succ,List.count_cons,this]
    omega
theorem Part.set {listed:Array Bool} {i k:Nat} (h:Part ops m k listed) (hi:i<m) (hr:i ∈ Region.ready .any ops listed):Part ops m (k+1) (listed.setIfInBounds i true):=by
  have hun:=(mem_ready.1 hr).1
  refine ⟨fun j o hj ho p hp=>?_,by simpa using h.size,fun j h1 h2=>?_,?_⟩
  · by_cases e:i=j
    · subst e
      obtain ⟨_,o',ho',hall⟩:=mem_ready.1 hr
      rw [ho] at ho'
      injection ho' with ho'
      subst ho'
      obtain ⟨ed,h1,h2,h3⟩:=gU hp
      exact getD_set_true (h3▸hall ed h1 h2)
    · rw [getD_set_ne false e] at hj
      exact getD_set_true (h.closed j o hj ho p hp)
  · rw [getD_set_ne true (by omega)]; exact h.low j h1 h2
  · rw [Array.toList_setIfInBounds,gN _ _ ?_,h.count]
    simpa [Array.getD_eq_getD_getElem?,List.getD_eq_getElem?_getD] using hun
theorem jo (hnd:ops.all (fun o=>cK o.op)=true) (hm:m≤ops.size) (hordB:vG ops=true) {bm:List (List Nat)} (hv:vBm ops bm=true) (hcov:cover ops.size m bm=true)
    (hch:Region.chain ops (ops.size-m) m=true) (hK:∀ a w,C w→K a→O r P ops Q (List.range' m (ops.size-m)) a w) :
    ∀ (fuel k:Nat) (listed:Array Bool) (a:Act) (w:World),fuel+k=m→Part ops m k listed→C w→anyM P ops C K m fuel listed a→wpAnyIn (FW r) 0 P .any ops Q (fuel+(ops.size-m)) listed a w
  | 0,k,listed,a,w,hk,hp,hC,h=>by
    have:k=m:=by omega
    subst this
    rw [hp.full hm,Nat.zero_add]
    exact lM _ _ _ _ (by omega) hch (hK a w hC h.2)
  | fuel+1,k,listed,a,w,hk,hp,hC,h=>by
    have hex:∃ i,i ∈ Region.ready .any ops listed∧i<m:=by
      have hlt:∃ i,i<m∧listed.getD i true=false:=by
        apply Classical.byContradiction
        intro hno
        have hall:∀ i,i<m→listed.getD i true=true:=fun i hi=>by
          cases hb:listed.getD i true with
          | true=>rfl
          | false=>exact absurd ⟨i,hi,hb⟩ hno
        have hc:∀ (l:List Bool) (q:Nat),q≤l.length→(∀ i,i<q→l.getD i true=true)→q≤l.count true:=by
          intro l
          induction l with
          | nil=>intro q hq _; simp at hq; omega
          | cons b t ih =>
            intro q hq hall
            cases q with
            | zero=>omega
            | succ q =>
              have h0:=hall 0 (by omega)
              simp at h0
              subst h0
              have:=ih q (by simp at hq; omega) (fun i hi=>by have:=hall (i+1) (by omega); simpa using this)
              simp; omega
        have:=hc listed.toList m (by simp [hp.size]; exact hm) (fun i hi=>by
          have:=hall i hi
          simpa [Array.getD_eq_getD_getElem?,List.getD_eq_getElem?_getD] using this)
        rw [hp.count] at this
        omega
      have hleast:∃ i,i<m∧listed.getD i true=false∧∀ j,j<i→listed.getD j true=true:=by
        obtain ⟨i,hi,hu⟩:=hlt
        induction i using Nat.strongRecOn with
        | _ i ih =>
          by_cases hj:∃ j,j<i∧listed.getD j true=false
          · obtain ⟨j,hj1,hj2⟩:=hj
            exact ih j hj1 (by omega) hj2
          · refine ⟨i,hi,hu,fun j hj1=>?_⟩
            cases hb:listed.getD j true with
            | true=>rfl
            | false=>exact absurd ⟨j,hj1,hb⟩ hj
      obtain ⟨i,hi,hu,hall⟩:=hleast
      refine ⟨i,mem_ready.2 ⟨hu,ops[i]'(by omega),Array.getElem?_eq_getElem (by omega),fun e he hb=>?_⟩,hi⟩
      have hpi:di ops i=preds (ops[i]'(by omega)):=by simp [di,Array.getElem?_eq_getElem (show i<ops.size by omega)]
      have h2:=List.all_eq_true.1 hordB i (by simp; omega)
      rw [hpi] at h2
      have:e.on<i:=by simpa using List.all_eq_true.1 h2 e.on (qc he hb)
      have h1:=hall e.on this
      have hsz:e.on<listed.size:=by rw [hp.size]; omega
      simpa [Array.getD_eq_getD_getElem?,hsz] using h1
    obtain ⟨i0,hi0,him0⟩:=hex
    have e1:fuel+1+(ops.size-m)=(fuel+(ops.size-m))+1:=by omega
    rw [e1]
    refine ⟨fun h0=>(by rw [h0] at hi0; cases hi0),fun i hi=>?_⟩
    have hun:=(mem_ready.1 hi).1
    by_cases him:i<m
    · exact lT hnd hC (fun a' w' hw' h'=>jo hnd hm hordB hv hcov hch hK fuel (k+1) _ a' w' (by omega) (hp.set him hi) hw' h') (h.2 i hi him)
    ·
      exfalso
      obtain ⟨_,o,ho,hall⟩:=mem_ready.1 hi
      have his:i<ops.size:=(Array.getElem?_eq_some_iff.1 ho).1
      have hin:=yK (S:=fun j=>listed.getD j false=true) hv hordB (fun j o' hj ho' p hp'=>hp.closed j o' hj ho' p hp') i o ho (fun p hpp=>by
        obtain ⟨e,h1,h2,h3⟩:=gU hpp
        exact h3▸hall e h1 h2)
      have hc:=List.all_eq_true.1 hcov i (by simpa using his)
      have hnb:Nat.blt i m=false:=by
        cases hb:Nat.blt i m with
        | false=>rfl
        | true=>exact absurd (by simpa using hb) him
      rw [hnb,Bool.false_or] at hc
      have h0:=List.all_eq_true.1 hc i0 (by simpa using him0)
      have h1:=hin i0 (by simpa using h0)
      have h2:=(mem_ready.1 hi0).1
      have hsz:i0<listed.size:=by rw [hp.size]; omega
      simp [hsz] at h1 h2
      rw [h1] at h2
      cases h2
theorem W.xw {id:Nat} {l₁:List Oper} {l₂:List Nat} (C:World→Prop) (m:Nat) (hmo:P.follows .mixedOrders=true) (hl:ops.toList.take m=l₁) (hl₂:List.range' m (ops.size-m)=l₂) (hm:Nat.ble m ops.size=true)
    (hchk:(Region.noSelect ops&&Region.aA9 ops m 0&&Region.chain ops (ops.size-m) m&&vG ops&&vBm ops (kS ops)&&cover ops.size m (kS ops)&&ops.all (fun o=>cK o.op))=true) (hC:C w.drew)
    (h:OQ P ops C (fun a'=>∀ w',C w'→O r P ops Q l₂ a' w') l₁ a):W r P (.region id ops true) Q a w:=by
  subst hl hl₂
  simp only [Bool.and_eq_true] at hchk
  obtain ⟨⟨⟨⟨⟨⟨h1,h2⟩,h3⟩,h4⟩,h5⟩,h6⟩,h7⟩:=hchk
  have hm:=Nat.le_of_ble_eq_true hm
  have hlen:(ops.toList.take m).length=m:=by simp; omega
  refine wpIn_region_any hmo ?_
  have key:=um (P:=P) (C:=C) (K:=fun a'=>∀ w',C w'→O r P ops Q (List.range' m (ops.size-m)) a' w') (m:=m) h1 (ops.toList.take m) 0 a (by omega)
    (fun j hj=>by rw [List.getElem?_take,if_pos (by omega),Array.getElem?_toList,Nat.zero_add]) (by rw [hlen]; exact h2) h
  rw [hlen,zV] at key
  have:=jo (r:=r) (Q:=Q) h7 hm h4 h5 h6 h3 (fun a w hC hK=>hK w hC) m 0 _ a { w with drawn:=w.drawn+1 } (by omega) ?_ hC key
  · have e:m+(ops.size-m)=ops.size:=by omega
    rw [e] at this
    exact this
  · refine ⟨fun i o hi=>?_,by simp,fun i h1 h2=>by simp [h2],?_⟩
    · exfalso
      by_cases h:i<ops.size <;> simp [h] at hi
    · simp [List.count_replicate]
end
end Go.SL

namespace Go.SL
open Go
def bS (h:Hp) (vs:List Value) (xss:List (List Int)):Prop :=
  vs.length=xss.length∧∀ i,i<vs.length→aQ h 1 (vs.getD i undef) (xss.getD i []).length (ints (xss.getD i []))
def inn (vs:List Value) (xss:List (List Int)):Asr :=
  ⟨fun k=>∃ i,i<vs.length∧0<(xss.getD i []).length∧(vs.getD i undef).ownBlock=some k,fun h=>bS h vs xss,fun h h' hk hh =>
    ⟨hh.1,fun i hi=>(rdv 1 (vs.getD i undef) (xss.getD i []).length (ints (xss.getD i []))).loc h h' (fun b hb=>hk b ⟨i,hi,hb.1,hb.2⟩) (hh.2 i hi)⟩⟩
section
variable {w w0:World} {X:Nat→Prop} {B M M':List Asr} {e j i b:Nat} {vs:List Value} {xss:List (List Int)} {u v:Value} {l:List Int}
theorem St.eF (h:St w0 w X B M) (hi:M[j]? = some (inn vs xss)):bS (hp w) vs xss:=h.at_ hi
theorem St.iI (h:St w0 w X B M) (hi:B[j]? = some (inn vs xss)):bS (hp w) vs xss:=h.bat hi
theorem St.qA (h:St w0 w X B M):St w0 w X B (inn [] []::M):=h.u6 ⟨rfl,fun i hi=>absurd hi (by simp)⟩ (fun b ⟨i,hi,_⟩=>absurd hi (by simp))
theorem bS.snoc {h:Hp} (hh:bS h vs xss) (hu:aQ h 1 u l.length (ints l)):bS h (vs++[u]) (xss++[l]):=by
  refine ⟨by simp [hh.1],fun i hi=>?_⟩
  have hl:=hh.1
  rcases Nat.lt_or_ge i vs.length with h1 | h1
  · have e1:(vs++[u]).getD i undef=vs.getD i undef:=by simp [List.getD_eq_getElem?_getD,List.getElem?_append_left h1]
    have e2:(xss++[l]).getD i []=xss.getD i []:=by simp [List.getD_eq_getElem?_getD,List.getElem?_append_left (show i<xss.length by omega)]
    rw [e1,e2]; exact hh.2 i h1
  · have hi':i=vs.length:=by simp at hi; omega
    subst hi'
    have e1:(vs++[u]).getD vs.length undef=u:=by simp [List.getD_eq_getElem?_getD]
    have e2:(xss++[l]).getD vs.length []=l:=by rw [hl]; simp [List.getD_eq_getElem?_getD]
    rw [e1,e2]; exact hu
theorem St.xQ (h:St w0 w X B (sl e 1 u l.length (ints l)::inn vs xss::M)):St w0 w X B (inn (vs++[u]) (xss++[l])::M):=by
  refine ⟨h.os,h.tape,h.output,h.size,h.old,?_,h.bor⟩
  obtain ⟨⟨h1,h2,h3⟩,⟨h4,h5,h6⟩,h7⟩:=h.sep
  have hfp:∀ b,(inn (vs++[u]) (xss++[l])).fp b→(sl e 1 u l.length (ints l)).fp b∨(inn vs xss).fp b:=by
    rintro b ⟨i,hi,h0,hb⟩
    have hl:vs.length=xss.length:=h4.1
    rcases Nat.lt_or_ge i vs.length with h8 | h8
    · right
      have e1:(vs++[u]).getD i undef=vs.getD i undef:=by simp [List.getD_eq_getElem?_getD,List.getElem?_append_left h8]
      have e2:(xss++[l]).getD i []=xss.getD i []:=by simp [List.getD_eq_getElem?_getD,List.getElem?_append_left (show i<xss.length by omega)]
      rw [e1] at hb; rw [e2] at h0
      exact ⟨i,h8,h0,hb⟩
    · left
      have hi':i=vs.length:=by simp at hi; omega
      subst hi'
      have e1:(vs++[u]).getD vs.length undef=u:=by simp [List.getD_eq_getElem?_getD]
      rw [e1] at hb
      exact hb
  refine ⟨⟨bS.snoc h4 (dZ.rd h1),fun b hb=>?_,fun q hq b hb=>?_⟩,h7⟩
  · rcases hfp b hb with h8 | h8
    · exact h2 b h8
    · exact h5 b h8
  · rcases hfp b hb with h8 | h8
    · exact h3 q (by simp [hq]) b h8
    · exact h6 q hq b h8
theorem bS.get {h:Hp} (hh:bS h vs xss) (hi:i<vs.length):aQ h 1 (vs.getD i undef) (xss.getD i []).length (ints (xss.getD i [])):=hh.2 i hi
theorem gP {j:Nat} (h:j<vs.length):vs[j]? = some (vs.getD j undef):=by simp [List.getD_eq_getElem?_getD,List.getElem?_eq_getElem h]
theorem St.aEq (hS:St w w X B M) (h:bS (hp w) vs xss) (hX:∀ b,(inn vs xss).fp b→¬ X b):St w w X (inn vs xss::B) M :=
  ⟨hS.os,hS.tape,hS.output,hS.size,hS.old,hS.sep,fun p hp=>by
    rcases List.mem_cons.1 hp with rfl | hp
    · refine ⟨h,fun b hb=>⟨?_,hX b hb⟩⟩
      obtain ⟨i,hi,h0,hb⟩:=hb
      exact (h.2 i hi).lt h0 hb
    · exact hS.bor p hp⟩
theorem St.mg (hS:St w w noX B M) (h:bS (hp w) vs xss):St w w noX (inn vs xss::B) M:=hS.aEq h (fun _ _ h=>h)
end
section
variable {r:Option Nat} {P:Program} {Q:Exit→Act→World→Prop} {ops:Array Oper} {i:Nat} {rest:List Nat} {a:Act} {w w0 w':World} {n:Nat} {ds:List Deferred} {L:List (Nat × Value)}
  {d:Nat} {op:Op} {ty t e:TypeId} {pos:String} {af:Array Edge} {v u z:Value} {X:Nat→Prop} {B M M':List Asr} {x y:Operand} {b o j:Nat} {cs:Array Value}
theorem O.kU {m:Nat} {parts:Array (Nat × Operand)} (hf:Fr a n ds L) (hS:St w0 w X B M) (ho:ops[i]? = some ⟨some d,.buildSlice t 0 parts,ty,pos,af,none⟩) (hd:Nat.blt d n=true)
    (he:eU P t=some e) (hs:cO P e=some m) (hp0:parts=#[])
    (k:∀ b w' a',w0.heap.size≤b→St w0 w' X B (sl e m (.slice (some ⟨b,0,none⟩) 0 0) 0 []::M)→Fr a' n ds ((d,.slice (some ⟨b,0,none⟩) 0 0)::L)→O r P ops Q rest a' w'):O r P ops Q (i::rest) a w:=by
  subst hp0
  refine O.val (w':=w.alloc (.cells #[] e)) hf ho rfl hd (v:=.slice (some ⟨w.heap.size,0,none⟩) 0 0) ?_ (fun a' hf'=>k _ _ a' hS.size ((hS.alloc _).aDe (j:=0) (n:=0) (sz:=m) (xs:=[]) rfl (Nat.zero_le _) (by simp) rfl rfl) hf')
  intro a d pos af g hf
  simp only [execOp]
  refine fD ?_
  simp only [Instr.buildSlice,Sem.run_bind,run_underlying (fQ he),Result.andThen,run_sizeOf hs,Nat.zero_mul]
  have e0:Array.range 0=(#[]:Array Nat):=rfl
  simp [Instr.fill,newRow,newObj,Sem.run,e0]
theorem mJ {sz N c:Nat} {xs:List Value} {inf:TypeInfo} (ht:P.underlying t=some (.slice e)) (hi:P.info? e=some inf)
    (hown:w.ownsRow 0 e sz v N xs):(Builtin.append_ #[t,t] ty #[v,.slice none 0 c]).run P w=.ok v w:=by
  rcases hown.2 with ⟨rfl,rfl⟩ | ⟨g,cap,cur,rfl,_,_,hnc,_⟩
  · simp [Builtin.append_,run_underlying ht,sizeOf,typeInfo,hi,Builtin.lenOf,Builtin.firstCells]
  · simp [Builtin.append_,run_underlying ht,sizeOf,typeInfo,hi,Builtin.lenOf,Builtin.firstCells,hnc,storeCells]
theorem O.tZ {sz by_ N m:Nat} {xs news:List Value} (hf:Fr a n ds L) (hS:St w0 w X B M) (ho:ops[i]? = some ⟨some d,.call ⟨.builtin .append,#[x,y],#[t,t]⟩,ty,pos,af,none⟩) (hd:Nat.blt d n=true)
    (he:eU P t=some e) (hs:cO P e=some sz) (hby:iq P e=some by_) (hz:dx P e=some z) (hzs:z.cells.size=sz) (h0:Nat.blt 0 sz=true) (hx:ev L x=some v) (hy:ev L y=some u)
    (hM:M[j]? = some (sl e sz v N xs)) (hr:aQ (hp w) sz u m news) (h1:bW news=true) (hmax:N+m≤maxLen) (hb:(N+m)*by_≤140737488355328)
    (k:∀ v' w' a',St w0 w' X B (M.set j (sl e sz v' (N+m) (xs++news)))→Fr a' n ds ((d,v')::L)→O r P ops Q rest a' w'):O r P ops Q (i::rest) a w:=by
  have h0':0<sz:=by simpa using h0
  obtain ⟨hl,hmx,A,c,rfl,h3⟩:=hr
  rcases Nat.eq_zero_or_pos m with hm | hm
  · subst hm
    have hn:news=[]:=List.eq_nil_of_length_eq_zero (by simpa using hl)
    subst hn
    rcases A with _ | ad
    · unfold cO at hs
      obtain ⟨inf,hi,hsz⟩:=Option.map_eq_some_iff.1 hs
      refine O.val (w':=w) (v:=v) hf ho rfl hd ?_ (fun a' hf'=>k v w a' ?_ hf')
      · intro a d pos af g hf
        refine gH (vs:=[v,.slice none 0 c]) hf (by simp [evA,hx,hy]) ?_
        simp only [builtin]
        exact fD (mJ (sz:=sz) (fQ he) hi (jO.1 (hS.at_ hM)))
      · have:M.set j (sl e sz v (N+0) (xs++[]))=M:=by
          rw [List.append_nil,Nat.add_zero]
          obtain ⟨hlt,he⟩:=List.getElem?_eq_some_iff.1 hM
          rw [← he,List.set_getElem_self]
        rw [this]; exact hS
    · exact O.append hf hS ho hd he hs hby hz hzs h0' hx hy hM (m:=0) (news:=[]) (by simp) (by simp) rfl hmax hb k
  · obtain ⟨ad,cur,e',zz,rfl,hsp,hbk,hc⟩:=h3 hm
    refine O.append hf hS ho hd he hs hby hz hzs h0' hx hy hM (m:=m) hl (fun q uu hq=>?_) h1 hmax hb k
    obtain ⟨bb,off,spot⟩:=ad
    simp only at hsp
    subst hsp
    rw [d9,oM hbk]
    exact hc q uu hq
end
theorem lS (l:List Int):bW (ints l)=true:=by induction l with
  | nil=>rfl
  | cons a t ih=>exact ih
theorem qF (l:List Bool):bW (bools l)=true:=by induction l with
  | nil=>rfl
  | cons a t ih=>exact ih
theorem aAt {e:TypeId} (v:Value) (vs:List Value) (u:Value):sl e 1 v (vs.length+1) (vs++[u])=sl e 1 v (vs++[u]).length (vs++[u]):=by
  rw [List.length_append]; rfl
theorem aQ.cells {h:Hp} {sz:Nat} {v:Value} {n:Nat} {xs:List Value} (hr:aQ h sz v n xs):v.cells=#[v]∧bW [v]=true:=by
  obtain ⟨_,_,A,c,rfl,_⟩:=hr
  exact ⟨rfl,rfl⟩
theorem St.nE {w w0:World} {X:Nat→Prop} {B:List Asr} (hS:St w0 w X B []) (e:TypeId):St w0 w X B [sl e 1 (.slice none 0 0) ([]:List Value).length [],inn [] []]:=(hS.qA).jN e 1
end Go.SL

namespace Go.SL
open Go
section
variable {r:Option Nat} {P:Program} {ops:Array Oper} {Q:Exit→Act→World→Prop} {a:Act} {w:World} {n:Nat} {ds:List Deferred} {γ:Type}
theorem bM {u:Value} {t:List Value} (h1:bW [u]=true) (h2:bW t=true):bW (u::t)=true:=by
  cases u <;> simp [bW] at h1 ⊢ <;> exact h2
theorem mW {listed:Array Bool} (hord:vG ops=true) (hsz:listed.size=ops.size) (hlt:∃ i,i<ops.size∧listed.getD i true=false):∃ i,i ∈ Region.ready .any ops listed:=by
  have hleast:∃ i,i<ops.size∧listed.getD i true=false∧∀ j,j<i→listed.getD j true=true:=by
    obtain ⟨i,hi,hu⟩:=hlt
    induction i using Nat.strongRecOn with
    | _ i ih =>
      by_cases hj:∃ j,j<i∧listed.getD j true=false
      · obtain ⟨j,hj1,hj2⟩:=hj
        exact ih j hj1 (by omega) hj2
      · refine ⟨i,hi,hu,fun j hj1=>?_⟩
        cases hb:listed.getD j true with
        | true=>rfl
        | false=>exact absurd ⟨j,hj1,hb⟩ hj
  obtain ⟨i,hi,hu,hall⟩:=hleast
  refine ⟨i,mem_ready.2 ⟨hu,ops[i]'hi,Array.getElem?_eq_getElem hi,fun e he hb=>?_⟩⟩
  have hpi:di ops i=preds (ops[i]'hi):=by simp [di,Array.getElem?_eq_getElem hi]
  have h2:=List.all_eq_true.1 hord i (by simp; omega)
  rw [hpi] at h2
  have:e.on<i:=by simpa using List.all_eq_true.1 h2 e.on (qc he hb)
  have h1:=hall e.on this
  have hsz':e.on<listed.size:=by omega
  simpa [Array.getD_eq_getD_getElem?,hsz'] using h1
theorem rM {a:Act} {d:Option Nat} {v:Value} {k:Nat} (h:d≠some k):(a.put d v).tmps[k]? = a.tmps[k]?:=by
  cases d with
  | none=>rfl
  | some d=>exact Array.getElem?_setIfInBounds_ne (fun e=>h (by rw [e]))
def Kept (o:Oper) (a a':Act):Prop:=∀ k,o.dst≠some k→a'.tmps[k]? = a.tmps[k]?
theorem O.keep {R:Act→World→Prop} {i:Nat} {o:Oper} (ho:ops[i]? = some o) (h:O r P ops (fun e a w=>e=.normal∧R a w) [i] a w) :
    wpOpIn (FW r) 0 P ops Q i (fun a' w'=>R a' w'∧Kept o a a') a w:=by
  unfold O at h
  rw [wpOpsIn_cons] at h
  unfold wpOpIn at h ⊢
  simp only [ho] at h ⊢
  have hk:∀ v,Kept o a (a.put o.dst v):=fun v k hk=>rM hk
  split
  · rename_i hw
    rw [if_pos hw] at h
    unfold Oper.wpIn at h ⊢
    refine ⟨h.1,?_⟩
    have h:=h.2
    generalize (o.semAt (FW r).round a.eval).run P w=res at h
    cases res with
    | ok x w' =>
      cases x <;> simp only [Oper.uponIn] at h ⊢
      case value=>exact ⟨h.2,hk _⟩
      case skip=>exact ⟨h.2,hk _⟩
      case defer d=>exact ⟨h.2,fun k hk=>rM (a:={ a with defers:=d::a.defers }) hk⟩
      case enter f args =>
        refine ⟨h.1,h.2.mono fun e w'' he=>?_⟩
        cases e with
        | returned v=>exact ⟨he.2,hk _⟩
        | panicked c=>exact absurd he.1 (by simp)
        | outgrown=>obtain ⟨_,_,he⟩:=he; exact absurd he.1 (by simp)
      case row row args=>exact ⟨h.1,h.2.mono fun u w'' he=>⟨he.2,hk _⟩⟩
      case round l f tmps assign body =>
        refine ⟨h.1,h.2.mono fun e w'' he=>?_⟩
        cases e with
        | returned u=>exact ⟨he.2,hk _⟩
        | panicked c=>exact absurd he.1 (by simp)
        | outgrown=>obtain ⟨_,_,he⟩:=he; exact absurd he.1 (by simp)
    | halt x w' =>
      cases x <;> simp only [Oper.uponIn] at h ⊢
      exact absurd h.1 (by simp)
  · rename_i hw
    rw [if_neg hw] at h
    exact ⟨h.1,h.2.2,hk _⟩
def Obl (F:Nat→Prop):List Nat→Prop
  | []=>True
  | i::t=>F i∧Obl F t
theorem Obl.get {F:Nat→Prop}:∀ {l:List Nat},Obl F l→∀ i ∈ l,F i
  | _::_,h,i,hi=>by
    rcases List.mem_cons.1 hi with rfl | h1
    · exact h.1
    · exact Obl.get h.2 i h1
def Stages (F:Nat→Nat→Prop):Nat→List Nat→Prop
  | _,[]=>True
  | k,i::t=>F k i∧Stages F (k+1) t
theorem Stages.get {F:Nat→Nat→Prop}:∀ {l:List Nat} {k0:Nat},Stages F k0 l→∀ k i,l[k]? = some i→F (k0+k) i
  | [],_,_,k,i,hi=>by simp at hi
  | j::t,k0,h,0,i,hi=>by simp at hi; subst hi; exact h.1
  | j::t,k0,h,k+1,i,hi=>by
    have:=Stages.get h.2 k i (by simpa using hi)
    rwa [show k0+(k+1)=k0+1+k from by omega]
def bX (ops:Array Oper) (j:Nat):Option Nat:=(ops[j]?).bind (·.dst)
def slotsOf (ops:Array Oper) (vals:Nat→Value):List Nat→List (Nat × Value)→List (Nat × Value)
  | [],L=>L
  | j::t,L=>match bX ops j with
    | some d=>(d,vals j)::slotsOf ops vals t L
    | none=>slotsOf ops vals t L
def jG (ops:Array Oper) (base:List Nat):Bool :=
  (List.range ops.size).all fun i=>match bX ops i with
    | none=>true
    | some d=>(!base.contains d)&&(List.range i).all fun j=>match bX ops j with
      | none=>true
      | some d'=>!Nat.beq d d'
theorem jv {vals:Nat→Value} {L0:List (Nat × Value)} (hf:Fr a n ds L0):∀ {l:List Nat},(∀ j ∈ l,∀ d,bX ops j=some d→a.tmps[d]? = some (vals j))→Fr a n ds (slotsOf ops vals l L0)
  | [],_=>hf
  | j::t,h=>by
    have ih:=jv (vals:=vals) hf (l:=t) (fun j' hj'=>h j' (by simp [hj']))
    simp only [slotsOf]
    cases hd:bX ops j with
    | none=>exact ih
    | some d =>
      refine ⟨ih.size,ih.defers,fun k v hk=>?_⟩
      simp only [lk] at hk
      cases hb:Nat.beq d k with
      | true =>
        rw [hb] at hk
        have:=Nat.eq_of_beq_eq_true hb
        subst this
        simp only [Option.some.injEq] at hk
        subst hk
        exact h j (by simp) d hd
      | false=>rw [hb] at hk; exact ih.get k v hk
def iC:List (Nat × Value)→List Nat
  | []=>[]
  | (k,_)::t=>k::iC t
theorem xI:∀ {L:List (Nat × Value)} {k:Nat} {v:Value},lk L k=some v→k ∈ iC L
  | [],_,_,h=>by simp [lk] at h
  | (k',v')::t,k,v,h=>by
    simp only [lk] at h
    simp only [iC,List.mem_cons]
    cases hb:Nat.beq k' k with
    | true=>exact .inl (Nat.eq_of_beq_eq_true hb).symm
    | false=>rw [hb] at h; exact .inr (xI h)
structure Dr (ops:Array Oper) (n:Nat) (ds:List Deferred) (L0:List (Nat × Value)) (val:γ→Nat→Value) (mk:List Nat) (D:Nat→γ→World→Prop) (listed:Array Bool) (a:Act) (w:World) (g:γ) (k:Nat):Prop where
  fr:Fr a n ds L0
  slot:∀ j d,listed.getD j false=true→bX ops j=some d→a.tmps[d]? = some (val g j)
  le:k≤mk.length
  done:∀ j q,mk[j]? = some q→(listed.getD q false=true↔j<k)
  D:D k g w
  size:listed.size=ops.size
theorem W.aDM {id:Nat} {L0:List (Nat × Value)} (g0:γ) (mk qs:List Nat) (pl:Nat→List Nat) (val:γ→Nat→Value) (D:Nat→γ→World→Prop)
    (hmo:P.follows .mixedOrders=true)
    (hchk:(vG ops&&ops.all (fun o=>cK o.op)&&jG ops (iC L0)&&(List.range ops.size).all (fun i=>(qs.contains i||mk.contains i)&&(pl i).all (fun p=>(di ops i).contains p))&&mk.all (fun i=>Nat.blt i ops.size)
      && (List.range mk.length).all (fun j=>(List.range j).all fun i=>(!Nat.beq (i+1) j||(di ops (mk.getD j 0)).contains (mk.getD i 0))&&!Nat.beq (mk.getD i 0) (mk.getD j 0))&&qs.all (fun i=>!mk.contains i))=true)
    (hf:Fr a n ds L0) (h0:D 0 g0 w.drew)
    (hq:Obl (fun i=>∀ k g w,D k g w→∀ a,Fr a n ds (slotsOf ops (val g) (pl i) L0)→O r P ops (fun e a' w'=>e=.normal∧Fr a' n ds []∧(∀ d,bX ops i=some d→a'.tmps[d]? = some (val g i))∧D k g w') [i] a w) qs)
    (hm:Stages (fun k i=>∀ g w,D k g w→∀ a,Fr a n ds (slotsOf ops (val g) (pl i) L0)→O r P ops (fun e a' w'=>e=.normal∧∃ g',Fr a' n ds []∧(∀ d,bX ops i=some d→a'.tmps[d]? = some (val g' i))∧(∀ j,(mk.drop k).contains j=false→val g' j=val g j)∧D (k+1) g' w') [i] a w) 0 mk)
    (hend:∀ g a w,Fr a n ds (slotsOf ops (val g) (List.range ops.size) L0)→D mk.length g w→Q .normal a w):W r P (.region id ops true) Q a w:=by
  simp only [Bool.and_eq_true] at hchk
  obtain ⟨⟨⟨⟨⟨⟨hord,hnd⟩,hdist⟩,hcov⟩,hmk⟩,hchain⟩,hqm⟩:=hchk
  refine wpIn_region_any hmo ?_
  have hap:∀ i j d,i<ops.size→j<ops.size→i≠j→bX ops i=some d→bX ops j≠some d:=by
    intro i j d hi hj hij hdi hdj
    have key:∀ i j,i<ops.size→j<i→bX ops i=some d→bX ops j=some d→False:=fun i j hi hji h1 h2=>by
      have h:=List.all_eq_true.1 hdist i (by simpa using hi)
      simp only [h1,Bool.and_eq_true] at h
      have h:=List.all_eq_true.1 h.2 j (by simpa using hji)
      simp [h2,Nat.beq_refl] at h
    rcases Nat.lt_or_gt_of_ne hij with h | h
    · exact key j i hj h hdj hdi
    · exact key i j hi h hdi hdj
  have hbase:∀ i d v,i<ops.size→bX ops i=some d→lk L0 d≠some v:=fun i d v hi hd hl=>by
    have h:=List.all_eq_true.1 hdist i (by simpa using hi)
    simp only [hd,Bool.and_eq_true] at h
    have:=xI hl
    simp [this] at h
  have key:∀ (fuel:Nat) (listed:Array Bool) (a:Act) (w:World) (g:γ) (k:Nat),fuel+listed.toList.count true=ops.size→Dr ops n ds L0 val mk D listed a w g k →
      wpAnyIn (FW r) 0 P .any ops Q fuel listed a w:=by
    intro fuel
    induction fuel with
    | zero =>
      intro listed a w g k hc hd
      have hall:∀ i,i<ops.size→listed.getD i true=true:=by
        intro i hi
        have hcl:listed.toList.count true=listed.toList.length:=by
          have:listed.toList.length=ops.size:=by simpa using hd.size
          omega
        have:=List.count_eq_length.1 hcl
        have hi':i<listed.size:=by rw [hd.size]; exact hi
        have:=this listed[i] (by simp)
        simp [hi',← this]
      have hall':∀ i,i<ops.size→listed.getD i false=true:=fun i hi=>by
        have:=hall i hi
        have hi':i<listed.size:=by rw [hd.size]; exact hi
        simpa [hi'] using this
      have hke:k=mk.length:=by
        rcases Nat.lt_or_ge k mk.length with h | h
        · exfalso
          have hq':=List.getElem?_eq_getElem h
          have hb:=List.all_eq_true.1 hmk mk[k] (by simp)
          have:=(hd.done k _ hq').1 (hall' _ (by simpa using hb))
          omega
        · have:=hd.le; omega
      refine ⟨?_,hend g a w (jv hd.fr fun j hj d hdd=>hd.slot j d (hall' j (by simpa using hj)) hdd) (hke▸hd.D)⟩
      apply List.eq_nil_iff_forall_not_mem.2
      intro i hi
      have h1:=mem_ready.1 hi
      obtain ⟨h1,o,ho,_⟩:=h1
      rw [hall i (Array.getElem?_eq_some_iff.1 ho).1] at h1
      cases h1
    | succ fuel ih =>
      intro listed a w g k hc hd
      have hex:∃ i,i<ops.size∧listed.getD i true=false:=by
        apply Classical.byContradiction
        intro hno
        have hcl:listed.toList.count true=listed.toList.length:=by
          refine List.count_eq_length.2 fun b hb=>?_
          obtain ⟨i,hi,rfl⟩:=List.mem_iff_getElem.1 hb
          have hi':i<listed.size:=by simpa using hi
          cases hbv:listed[i] with
          | true=>simp [hbv]
          | false=>exact absurd ⟨i,by rw [← hd.size]; exact hi',by simp [hi',hbv]⟩ hno
        have:listed.toList.length=ops.size:=by simpa using hd.size
        omega
      refine ⟨fun h=>?_,fun i hi=>?_⟩
      · obtain ⟨i,hi⟩:=mW hord hd.size hex
        rw [h] at hi; cases hi
      obtain ⟨hun,o,ho,hall⟩:=mem_ready.1 hi
      have his:i<ops.size:=(Array.getElem?_eq_some_iff.1 ho).1
      have hil:i<listed.size:=by rw [hd.size]; exact his
      have hun':listed.getD i false=false:=by simpa [hil] using hun
      have hpi:di ops i=preds o:=by simp [di,ho]
      have hdo:bX ops i=o.dst:=by simp [bX,ho]
      have hc1:=List.all_eq_true.1 hcov i (by simpa using his)
      simp only [Bool.and_eq_true,Bool.or_eq_true,List.contains_iff_mem] at hc1
      have hfr:Fr a n ds (slotsOf ops (val g) (pl i) L0):=jv hd.fr fun j hj d hdd=>by
        have:=List.all_eq_true.1 hc1.2 j hj
        rw [hpi] at this
        obtain ⟨e,h1,h2,h3⟩:=gU (by simpa using this)
        exact hd.slot j d (h3▸hall e h1 h2) hdd
      have hcnt:fuel+(listed.setIfInBounds i true).toList.count true=ops.size:=by
        rw [Array.toList_setIfInBounds,gN _ _ (by simpa [Array.getD_eq_getD_getElem?,List.getD_eq_getElem?_getD] using hun)]
        omega
      have hback:∀ j,(listed.setIfInBounds i true).getD j false=true→j=i∨listed.getD j false=true:=fun j hj=>by
        by_cases e:i=j
        · exact .inl e.symm
        · rw [getD_set_ne false e] at hj; exact .inr hj
      have hfrm:∀ a',Fr a' n ds []→Kept o a a'→Fr a' n ds L0:=fun a' h1 h2=>⟨h1.size,h1.defers,fun q v hq=>by
        rw [h2 q (fun e=>hbase i q v his (hdo.trans e) hq)]; exact hd.fr.get q v hq⟩
      have hslot:∀ a' (g':γ),Kept o a a'→(∀ d,bX ops i=some d→a'.tmps[d]? = some (val g' i))→(∀ j,listed.getD j false=true→val g' j=val g j)→∀ j d,(listed.setIfInBounds i true).getD j false=true→bX ops j=some d→a'.tmps[d]? = some (val g' j):=by
        intro a' g' hk hi' hg j d hj hjd
        rcases hback j hj with rfl | h1
        · exact hi' d hjd
        · have hne:j≠i:=fun e=>by rw [e,hun'] at h1; cases h1
          have hjs:j<ops.size:=by
            rcases Nat.lt_or_ge j ops.size with h | h
            · exact h
            · rw [← hd.size] at h; simp [Array.getElem?_eq_none h] at h1
          rw [hk d (fun e=>hap j i d hjs his hne hjd (hdo.trans e)),hg j h1]
          exact hd.slot j d h1 hjd
      by_cases him:i ∈ mk
      ·
        obtain ⟨k',hk'⟩:=List.getElem?_of_mem him
        have hkk:k'=k:=by
          have h1:¬ k'<k:=fun h=>by have:=(hd.done k' i hk').2 h; rw [hun'] at this; cases this
          rcases Nat.lt_or_ge k k' with h2 | h2
          · exfalso
            have hk'l:k'<mk.length:=(List.getElem?_eq_some_iff.1 hk').1
            have hkl:k'-1<mk.length:=by omega
            have h3:=List.all_eq_true.1 hchain k' (by simpa using hk'l)
            have h4:=List.all_eq_true.1 h3 (k'-1) (by simp; omega)
            have e1:k'-1+1=k':=by omega
            simp only [Bool.and_eq_true,List.getD_eq_getElem?_getD,hk',Option.getD_some,e1,Nat.beq_refl,Bool.not_true,Bool.false_or] at h4
            obtain ⟨h4,-⟩:=h4
            rw [hpi] at h4
            obtain ⟨e,e1,e2,e3⟩:=gU (by simpa using h4)
            have:=hall e e1 e2
            rw [e3] at this
            have:=(hd.done (k'-1) (mk[k'-1]?.getD 0) (by simp [hkl])).1 this
            omega
          · omega
        subst hkk
        have hst:=Stages.get hm k' i hk'
        rw [Nat.zero_add] at hst
        refine wpOpIn_mono (fun a' w' hR=>?_) (O.keep ho (hst g w hd.D a hfr))
        obtain ⟨⟨g',h1,h2,h3,h4⟩,h5⟩:=hR
        have hk'l:k'<mk.length:=(List.getElem?_eq_some_iff.1 hk').1
        refine ih _ a' w' g' (k'+1) hcnt ⟨hfrm a' h1 h5,hslot a' g' h5 h2 (fun j hj=>h3 j ?_),by omega,fun j q hjq=>?_,h4,by simpa using hd.size⟩
        ·
          cases hb:(mk.drop k').contains j with
          | false=>rfl
          | true =>
            exfalso
            simp only [List.contains_iff_mem] at hb
            obtain ⟨t,ht⟩:=List.getElem?_of_mem hb
            rw [List.getElem?_drop] at ht
            have:=(hd.done _ _ ht).1 hj
            omega
        · have hold:=hd.done j q hjq
          by_cases e:i=q
          · subst e
            constructor
            · intro _
              rcases Nat.lt_or_ge k' j with h | h
              · exfalso
                have hjl:j<mk.length:=(List.getElem?_eq_some_iff.1 hjq).1
                have h3:=List.all_eq_true.1 hchain j (by simpa using hjl)
                have h4:=List.all_eq_true.1 h3 k' (by simpa using h)
                simp [hk',hjq,Nat.beq_refl] at h4
              · omega
            · intro _; simp [hil]
          · rw [getD_set_ne false e]
            constructor
            · intro h; have:=hold.1 h; omega
            · intro h
              apply hold.2
              rcases Nat.lt_or_ge j k' with h' | h'
              · exact h'
              · have:j=k':=by omega
                subst this
                rw [hk'] at hjq
                exact absurd (by simpa using hjq) e
      ·
        have hiq:i ∈ qs:=by
          rcases hc1.1 with h | h
          · exact h
          · exact absurd h him
        refine wpOpIn_mono (fun a' w' hR=>?_) (O.keep ho (Obl.get hq i hiq k g w hd.D a hfr))
        obtain ⟨⟨h1,h2,h3⟩,h5⟩:=hR
        refine ih _ a' w' g k hcnt ⟨hfrm a' h1 h5,hslot a' g h5 h2 (fun _ _=>rfl),hd.le,fun j q hjq=>?_,h3,by simpa using hd.size⟩
        have e:i≠q:=fun e=>him (e▸List.mem_of_getElem? hjq)
        rw [getD_set_ne false e]
        exact hd.done j q hjq
  refine key ops.size (Array.replicate ops.size false) a { w with drawn:=w.drawn+1 } g0 0 (by simp [List.count_replicate]) ⟨hf,fun j d hj=>?_,Nat.zero_le _,fun j q hjq=>?_,h0,by simp⟩
  · exfalso
    by_cases h:j<ops.size <;> simp [h] at hj
  · have:(Array.replicate ops.size false).getD q false=false:=by
      by_cases h:q<ops.size <;> simp [h]
    rw [this]; simp
end
end Go.SL

namespace Go.SL
open Go
section
variable {r:Option Nat} {P:Program} {Q:Exit→Act→World→Prop} {a:Act} {w:World}
def LH (r:Option Nat) (P:Program) (c:Code) (Q:Exit→Act→World→Prop) (a:Act) (w:World):Prop :=
  ∀ (b:Frame) (k:List Item) (cs:List Frame),b.roundOf=(FW r).round→(FW r).fn b.fn→(FW r).room (cs.length+1+0) →
    ∃ e a' w',Q e a' w'∧ArrivesIn (Machine.fenced P (FW r)) P (lone (b.atR a (.code c::.inLoop c::k)) cs w) b k cs e a' w'
theorem LH.step {c:Code} (h:W r P c (Exit.then (LH r P c Q) Q) a w):LH r P c Q a w:=by
  intro b k cs hro hb hr
  obtain ⟨e,a₁,w₁,hq,harr⟩:=h b (.inLoop c::k) cs hro hb hr
  cases e with
  | normal =>
    obtain ⟨e₂,a₂,w₂,hq₂,harr₂⟩:=hq b k cs hro hb hr
    exact ⟨e₂,a₂,w₂,hq₂,.of_steps (StepsIn.trans harr (.one (fenced_calm hb hr rfl) stepR_inLoop)) harr₂⟩
  | exit id=>exact ⟨_,a₁,w₁,hq,.pass (x:=.inLoop c) rfl (fun _ _=>.inl (by simp)) harr⟩
  | goto l=>exact ⟨_,a₁,w₁,hq,.pass (x:=.inLoop c) rfl (fun _ _=>.inl (by simp)) harr⟩
  | ret=>exact ⟨_,a₁,w₁,hq,.pass (x:=.inLoop c) rfl (fun _ _=>.inl (by simp)) harr⟩
  | panic ch=>exact ⟨_,a₁,w₁,hq,.pass (x:=.inLoop c) rfl (fun _ _=>.inl (by simp)) harr⟩
  | outgrown=>exact ⟨_,a₁,w₁,hq,.pass (x:=.inLoop c) rfl (fun _ _=>.inl (by simp)) harr⟩
end
def idx {T:Type} (l:List T) (i:Int):Option T:=if 0≤i then l[i.toNat]? else none
def encs {T:Type} (enc:T→List Value) (l:List T):List Value:=l.flatMap enc
section
variable {T:Type} {enc:T→List Value} {sz:Nat} {l m:List T} {j k:Nat} {x y:T} {u:Value}
theorem kL (he:∀ x,(enc x).length=sz):∀ l:List T,(encs enc l).length=l.length*sz
  | []=>by simp [encs]
  | x::t=>by
    have:=kL he t
    simp only [encs] at this
    simp only [encs,List.flatMap_cons,List.length_append,he,this,List.length_cons,Nat.add_mul,Nat.one_mul]
    omega
theorem qQ (he:∀ x,(enc x).length=sz):∀ {l:List T} {j k:Nat},l[j]? = some x→k<sz→(encs enc l)[j*sz+k]? = (enc x)[k]?
  | [],j,k,h,_=>by simp at h
  | y::t,0,k,h,hk=>by
    simp only [List.getElem?_cons_zero,Option.some.injEq] at h
    subst h
    simp only [encs,List.flatMap_cons,Nat.zero_mul,Nat.zero_add]
    rw [List.getElem?_append_left (by rw [he]; exact hk)]
  | y::t,j+1,k,h,hk=>by
    simp only [List.getElem?_cons_succ] at h
    have ih:=qQ he h hk
    simp only [encs] at ih
    simp only [encs,List.flatMap_cons]
    rw [List.getElem?_append_right (by rw [he,Nat.add_mul]; omega),he]
    rw [← ih]
    congr 1
    rw [Nat.add_mul]; omega
def spl (a:List Value) (o:Nat) (us:List Value):List Value:=a.take o++us++a.drop (o+us.length)
end
def slE {T:Type} (e sz:Nat) (enc:T→List Value) (v:Value) (l:List T):Asr:=sl e sz v l.length (encs enc l)
def vfit:Value→Prop
  | .slice _ n c=>n≤c
  | _=>True
def iy {T:Type} (h:Hp) (sz:Nat) (enc:T→List Value) (v:Value) (l:List T):Prop:=aQ h sz v l.length (encs enc l)∧vfit v
def rdE {T:Type} (sz:Nat) (enc:T→List Value) (v:Value) (l:List T):Asr :=
  ⟨(rdv sz v l.length (encs enc l)).fp,fun h=>iy h sz enc v l,fun h h' hk hh=>⟨(rdv sz v l.length (encs enc l)).loc h h' hk hh.1,hh.2⟩⟩
theorem dZ.fit {h:Hp} {e:TypeId} {sz:Nat} {v:Value} {n:Nat} {xs:List Value} (hs:dZ h e sz v n xs):vfit v:=by
  rcases hs.2 with ⟨rfl,_⟩ | ⟨g,cap,cur,rfl,_,h1,_⟩
  · exact Nat.le_refl 0
  · exact h1
section
variable {T:Type} {enc:T→List Value} {sz:Nat} {l m:List T} {x0:T}
variable {r:Option Nat} {P:Program} {Q:Exit→Act→World→Prop} {ops:Array Oper} {i:Nat} {rest:List Nat} {a:Act} {w w0 w':World} {n:Nat} {ds:List Deferred} {L:List (Nat × Value)}
  {d:Nat} {op:Op} {ty t e:TypeId} {pos:String} {af:Array Edge} {v u z:Value} {X:Nat→Prop} {B M M':List Asr} {x y:Operand} {b o j q c:Nat} {cs:Array Value} {k:IntKind} {p:Int}
theorem St.rdB (h:St w0 w X B M) (hi:B[j]? = some (rdE sz enc v l)):iy (hp w) sz enc v l:=h.bat hi
theorem St.rdS (h:St w0 w X B M) (hi:M[j]? = some (slE e sz enc v l)):iy (hp w) sz enc v l:=⟨(h.at_ hi:dZ (hp w) e sz v l.length (encs enc l)).rd,(h.at_ hi:dZ (hp w) e sz v l.length (encs enc l)).fit⟩
theorem iy.le {h:Hp} (hh:iy h sz enc v l):l.length≤maxLen:=hh.1.2.1
end
end Go.SL

namespace Go.SL
open Go
section
variable {T:Type} {enc:T→List Value} {sz:Nat} {l:List T} {h:Hp} {v:Value} {w:World} {b:Nat} {o:Obj} {p:Asr} {B M:List Asr}
abbrev Lent (w:World) (p:Asr):Prop:=p.holds (hp w)∧∀ b,p.fp b→b<w.heap.size
theorem St.xk (hb:w.heap[b]? = some o) (hB:∀ p ∈ B,Lent w p) (ha:∀ p ∈ B,∀ k,p.fp k→k≠b):St w w (fun k=>k=b) B [pt b o] :=
  ⟨rfl,rfl,rfl,Nat.le_refl _,fun _ _ _=>rfl,⟨⟨hb,fun k hk=>⟨by
    have hk:k=b:=hk
    subst hk; exact (Array.getElem?_eq_some_iff.1 hb).1,.inl hk⟩,by simp⟩,trivial⟩,fun p hp=>⟨(hB p hp).1,fun k hk=>⟨(hB p hp).2 k hk,ha p hp k hk⟩⟩⟩
variable {w0:World} {X:Nat→Prop} {B' M':List Asr}
end
section
variable {T:Type} {enc:T→List Value} {sz:Nat} {l:List T} {x0:T}
variable {P:Program} {w:World} {n:Nat} {ds:List Deferred} {L:List (Nat × Value)} {ty t t' e:TypeId} {x y:Operand} {u v:Value} {b o m q:Nat} {cs cs':Array Value} {k:IntKind} {p p':Int} {b1 b2:Bool}
def tFld (P:Program) (t:TypeId) (f:Nat):Option (TypeId × Nat) :=
  match P.underlying t with
  | some (.struct fs)=>(fs[f]?).map fun g=>(g.type,g.offset)
  | _=>none
def bitand (k:IntKind) (x y:Int):Int:=k.wrap ((BitVec.ofInt k.bits x&&&BitVec.ofInt k.bits y).toNat:Int)
def bitor (k:IntKind) (x y:Int):Int:=k.wrap ((BitVec.ofInt k.bits x|||BitVec.ofInt k.bits y).toNat:Int)
def bitxor (k:IntKind) (x y:Int):Int:=k.wrap ((BitVec.ofInt k.bits x ^^^ BitVec.ofInt k.bits y).toNat:Int)
def rZ (k:IntKind) (x y:Int):Int:=k.wrap ((BitVec.ofInt k.bits x&&&~~~(BitVec.ofInt k.bits y)).toNat:Int)
theorem aA.bitand (hx:ev L x=some (.int k p)) (hy:ev L y=some (.int k p')):aA P n ds L (.binOp .and t x y t') ty w (.int k (bitand k p p')) w:=aA.bits rfl hx hy rfl
theorem aA.bitor (hx:ev L x=some (.int k p)) (hy:ev L y=some (.int k p')):aA P n ds L (.binOp .or t x y t') ty w (.int k (bitor k p p')) w:=aA.bits rfl hx hy rfl
theorem aA.bitxor (hx:ev L x=some (.int k p)) (hy:ev L y=some (.int k p')):aA P n ds L (.binOp .xor t x y t') ty w (.int k (bitxor k p p')) w:=aA.bits rfl hx hy rfl
theorem aA.rZ (hx:ev L x=some (.int k p)) (hy:ev L y=some (.int k p')):aA P n ds L (.binOp .andNot t x y t') ty w (.int k (rZ k p p')) w:=aA.bits rfl hx hy rfl
def EqR (P:Program) (d:Nat) (t:TypeId) (x y:Value) (r:Bool):Prop:=∀ w,(Op.equalIn d t x y).run P w=.ok r w
def lQ (P:Program) (t:TypeId) (xs:Array Value) (off:Nat) (v:Value):Prop:=∀ w,(part t xs off).run P w=.ok v w
def EqF (P:Program) (d:Nat) (xs ys:Array Value) (fs:List Field) (r:Bool):Prop:=∀ w,(Op.eqFields d xs ys fs).run P w=.ok r w
def EqI (P:Program) (d:Nat) (e:TypeId) (c:Nat) (xs ys:Array Value) (is:List Nat) (r:Bool):Prop:=∀ w,(Op.eqItems d e c xs ys is).run P w=.ok r w
theorem EqR.int {d:Nat} (ht:qZ P t=some k):EqR P (d+1) t (.int k p) (.int k p') (p == p'):=fun w=>by
  simp [Op.equalIn,run_underlying (yw ht)]
theorem EqR.bool {d:Nat} (ht:P.underlying t=some .bool):EqR P (d+1) t (.bool b1) (.bool b2) (b1 == b2):=fun w=>by
  simp [Op.equalIn,run_underlying ht]
theorem EqR.str {d:Nat} {s1 s2:ByteArray} (ht:P.underlying t=some .string):EqR P (d+1) t (.string s1) (.string s2) (s1 == s2):=fun w=>by
  simp [Op.equalIn,run_underlying ht]
theorem lQ.one (ha:iH P t=some false) (hv:cs[o]? = some v):lQ P t cs o v:=fun w=>by
  simp only [part,Sem.run_bind,kV ha,Result.andThen,Bool.false_eq_true,if_false,hv,Sem.run_pure]
theorem lQ.agg (ha:iH P t=some true) (hs:cO P t=some m) (hv:cs.extract o (o+m)=cs'):lQ P t cs o (.agg cs'):=fun w=>by
  simp only [part,Sem.run_bind,kV ha,Result.andThen,if_true,run_sizeOf hs,hv,Sem.run_pure]
def EqL (P:Program) (d:Nat) (xs ys:Array Value):List (TypeId × Nat)→Bool→Prop
  | [],r=>r=true
  | (t,o)::l,r=>∃ x y b1 b2,lQ P t xs o x∧lQ P t ys o y∧EqR P d t x y b1∧EqL P d xs ys l b2∧r=(b1&&b2)
theorem EqL.nil {d:Nat} {xs ys:Array Value}:EqL P d xs ys [] true:=rfl
theorem EqL.cons {d:Nat} {xs ys:Array Value} {l:List (TypeId × Nat)} {x y:Value} (hx:lQ P t xs o x) (hy:lQ P t ys o y) (h1:EqR P d t x y b1) (h2:EqL P d xs ys l b2):EqL P d xs ys ((t,o)::l) (b1&&b2):=⟨x,y,b1,b2,hx,hy,h1,h2,rfl⟩
theorem EqF.of {d:Nat} {xs ys:Array Value}:∀ {fs:List Field} {r:Bool},fs.all (fun f=>f.name != "_")=true→EqL P d xs ys (fs.map fun f=>(f.type,f.offset)) r→EqF P d xs ys fs r
  | [],r,_,h=>fun w=>by
    have h:r=true:=h
    subst h; simp [Op.eqFields]
  | f::fs,r,hn,h=>fun w=>by
    simp only [List.all_cons,Bool.and_eq_true,bne_iff_ne] at hn
    obtain ⟨x,y,c1,c2,hx,hy,h1,h2,rfl⟩:=h
    have h3:=EqF.of hn.2 h2
    simp only [Op.eqFields,hn.1,ne_eq,not_false_eq_true,if_true,Sem.run_bind,hx w,hy w,h1 w,Result.andThen_ok]
    cases c1
    · simp
    · simpa using h3 w
def tFs (P:Program) (t:TypeId):Option (List (TypeId × Nat)) :=
  match P.underlying t with
  | some (.struct fs)=>if (fs.toList.all (fun f=>f.name != "_")&&!P.stoodInHeld t)=true then some (fs.toList.map fun f=>(f.type,f.offset)) else none
  | _=>none
theorem EqI.nil {d c:Nat} {xs ys:Array Value}:EqI P d e c xs ys [] true:=fun w=>by simp [Op.eqItems]
theorem EqI.cons {d c i:Nat} {is:List Nat} {xs ys:Array Value} {x y:Value} (hx:lQ P e xs (i*c) x) (hy:lQ P e ys (i*c) y) (h1:EqR P d e x y b1) (h2:EqI P d e c xs ys is b2):EqI P d e c xs ys (i::is) (b1&&b2):=fun w=>by
  simp only [Op.eqItems,Sem.run_bind,hx w,hy w,h1 w,Result.andThen_ok]
  cases b1
  · simp
  · simpa using h2 w
theorem EqR.struct {d:Nat} {xs ys:Array Value} {l:List (TypeId × Nat)} (hu:tFs P t=some l) (h:EqL P d xs ys l b1):EqR P (d+1) t (.agg xs) (.agg ys) b1:=fun w=>by
  unfold tFs at hu
  split at hu
  · rename_i fs hfs
    split at hu
    · rename_i hc
      simp only [Bool.and_eq_true,Bool.not_eq_true'] at hc
      simp only [Option.some.injEq] at hu
      subst hu
      have e:P.fieldsOf t=fs:=by simp [Program.fieldsOf,hfs]
      rw [run_equalIn_struct w d t xs ys (by rw [e]; exact hfs) hc.2,e]
      exact EqF.of hc.1 h w
    · cases hu
  · cases hu
end
end Go.SL

namespace Go.SL
open Go
section
variable {r:Option Nat} {P:Program} {ops:Array Oper} {Q:Exit→Act→World→Prop} {a:Act} {w:World} {n:Nat} {ds:List Deferred} {γ:Type}
def upd (s:Nat→Bool) (i:Nat):Nat→Bool:=fun j=>match Nat.beq j i with
  | true=>true
  | false=>s j
def seen (mk:List Nat) (listed:Array Bool):Nat→Bool:=fun j=>mk.contains j&&listed.getD j false
structure Dp (ops:Array Oper) (n:Nat) (ds:List Deferred) (L0:List (Nat × Value)) (L1:List (Nat × Value)) (val:γ→Nat→Value) (mk:List Nat) (D:(Nat→Bool)→γ→World→Prop) (listed:Array Bool) (a:Act) (w:World) (g:γ):Prop where
  fr:Fr a n ds L0
  olds:∀ q v,lk L1 q=some v→(∀ j,bX ops j=some q→listed.getD j false=false)→a.tmps[q]? = some v
  slot:∀ j d,listed.getD j false=true→bX ops j=some d→a.tmps[d]? = some (val g j)
  cl:∀ j o,listed.getD j false=true→ops[j]? = some o→∀ p ∈ preds o,listed.getD p false=true
  D:D (seen mk listed) g w
  size:listed.size=ops.size
def yD (ops:Array Oper) (L1:List (Nat × Value)) (i:Nat) (q:Nat):Bool :=
  (iC L1).contains q&&(List.range ops.size).all fun j=>match bX ops j with
    | some d=>!Nat.beq d q||Nat.beq j i||((kS ops).getD j []).contains i
    | none=>true
def lI (L1:List (Nat × Value)):List Nat→List (Nat × Value)→List (Nat × Value)
  | [],L=>L
  | q::t,L=>match lk L1 q with
    | some v=>(q,v)::lI L1 t L
    | none=>lI L1 t L
theorem aBC {L0 L1:List (Nat × Value)} (hf:Fr a n ds L0):∀ {l:List Nat},(∀ q ∈ l,∀ v,lk L1 q=some v→a.tmps[q]? = some v)→Fr a n ds (lI L1 l L0)
  | [],_=>hf
  | q::t,h=>by
    have ih:=aBC hf (l:=t) (fun j' hj'=>h j' (by simp [hj']))
    simp only [lI]
    cases hd:lk L1 q with
    | none=>exact ih
    | some d =>
      refine ⟨ih.size,ih.defers,fun k v hk=>?_⟩
      simp only [lk] at hk
      cases hb:Nat.beq q k with
      | true =>
        rw [hb] at hk
        have:=Nat.eq_of_beq_eq_true hb
        subst this
        simp only [Option.some.injEq] at hk
        subst hk
        exact h q (by simp) d hd
      | false=>rw [hb] at hk; exact ih.get k v hk
theorem W.aE7 {id:Nat} {L0 L1:List (Nat × Value)} (g0:γ) (mk qs:List Nat) (pl ml bl al ol:Nat→List Nat) (val:γ→Nat→Value) (D:(Nat→Bool)→γ→World→Prop)
    (hmo:P.follows .mixedOrders=true)
    (hchk:(vG ops&&ops.all (fun o=>cK o.op)&&jG ops (iC L0)&&(List.range ops.size).all (fun i=>(qs.contains i||mk.contains i)&&(pl i).all (fun p=>(di ops i).contains p)&&(ml i).all (fun p=>((kS ops).getD i []).contains p&&mk.contains p)&&(bl i).all (fun j=>((kS ops).getD j []).contains i)&&(ol i).all (yD ops L1 i))&&mk.all (fun i=>Nat.blt i ops.size)
      && vBm ops (kS ops)&&mk.all (fun i=>(al i).all fun j=>((kS ops).getD j []).contains i)&&qs.all (fun i=>!mk.contains i))=true)
    (hf:Fr a n ds L0) (hf1:Fr a n ds L1) (h0:D (fun _=>false) g0 w.drew)
    (hq:Obl (fun i=>∀ s g w,(∀ p ∈ ml i,s p=true)→(∀ j ∈ bl i,s j=false)→D s g w→∀ a,Fr a n ds (slotsOf ops (val g) (pl i) (lI L1 (ol i) L0))→O r P ops (fun e a' w'=>e=.normal∧Fr a' n ds []∧(∀ d,bX ops i=some d→a'.tmps[d]? = some (val g i))∧D s g w') [i] a w) qs)
    (hm:Obl (fun i=>∀ s g w,s i=false→(∀ p ∈ ml i,s p=true)→(∀ j ∈ bl i,s j=false)→D s g w→∀ a,Fr a n ds (slotsOf ops (val g) (pl i) (lI L1 (ol i) L0))→O r P ops (fun e a' w'=>e=.normal∧∃ g',Fr a' n ds []∧(∀ d,bX ops i=some d→a'.tmps[d]? = some (val g' i))∧(∀ j,j≠i→(al i).contains j=false→val g' j=val g j)∧D (upd s i) g' w') [i] a w) mk)
    (hend:∀ s g a w,(∀ i ∈ mk,s i=true)→Fr a n ds (slotsOf ops (val g) (List.range ops.size) L0)→D s g w→Q .normal a w):W r P (.region id ops true) Q a w:=by
  simp only [Bool.and_eq_true] at hchk
  obtain ⟨⟨⟨⟨⟨⟨⟨hord,hnd⟩,hdist⟩,hcov⟩,hmk⟩,hvb⟩,hal⟩,hqm⟩:=hchk
  refine wpIn_region_any hmo ?_
  have hap:∀ i j d,i<ops.size→j<ops.size→i≠j→bX ops i=some d→bX ops j≠some d:=by
    intro i j d hi hj hij hdi hdj
    have key:∀ i j,i<ops.size→j<i→bX ops i=some d→bX ops j=some d→False:=fun i j hi hji h1 h2=>by
      have h:=List.all_eq_true.1 hdist i (by simpa using hi)
      simp only [h1,Bool.and_eq_true] at h
      have h:=List.all_eq_true.1 h.2 j (by simpa using hji)
      simp [h2,Nat.beq_refl] at h
    rcases Nat.lt_or_gt_of_ne hij with h | h
    · exact key j i hj h hdj hdi
    · exact key i j hi h hdi hdj
  have hbase:∀ i d v,i<ops.size→bX ops i=some d→lk L0 d≠some v:=fun i d v hi hd hl=>by
    have h:=List.all_eq_true.1 hdist i (by simpa using hi)
    simp only [hd,Bool.and_eq_true] at h
    have:=xI hl
    simp [this] at h
  have key:∀ (fuel:Nat) (listed:Array Bool) (a:Act) (w:World) (g:γ),fuel+listed.toList.count true=ops.size→Dp ops n ds L0 L1 val mk D listed a w g →
      wpAnyIn (FW r) 0 P .any ops Q fuel listed a w:=by
    intro fuel
    induction fuel with
    | zero =>
      intro listed a w g hc hd
      have hall:∀ i,i<ops.size→listed.getD i true=true:=by
        intro i hi
        have hcl:listed.toList.count true=listed.toList.length:=by
          have:listed.toList.length=ops.size:=by simpa using hd.size
          omega
        have:=List.count_eq_length.1 hcl
        have hi':i<listed.size:=by rw [hd.size]; exact hi
        have:=this listed[i] (by simp)
        simp [hi',← this]
      have hall':∀ i,i<ops.size→listed.getD i false=true:=fun i hi=>by
        have:=hall i hi
        have hi':i<listed.size:=by rw [hd.size]; exact hi
        simpa [hi'] using this
      refine ⟨?_,hend _ g a w (fun i hi=>?_) (jv hd.fr fun j hj d hdd=>hd.slot j d (hall' j (by simpa using hj)) hdd) hd.D⟩
      · apply List.eq_nil_iff_forall_not_mem.2
        intro i hi
        have h1:=mem_ready.1 hi
        obtain ⟨h1,o,ho,_⟩:=h1
        rw [hall i (Array.getElem?_eq_some_iff.1 ho).1] at h1
        cases h1
      · have hb:=List.all_eq_true.1 hmk i hi
        simp only [seen,Bool.and_eq_true,List.contains_iff_mem]
        exact ⟨hi,hall' i (by simpa using hb)⟩
    | succ fuel ih =>
      intro listed a w g hc hd
      have hex:∃ i,i<ops.size∧listed.getD i true=false:=by
        apply Classical.byContradiction
        intro hno
        have hcl:listed.toList.count true=listed.toList.length:=by
          refine List.count_eq_length.2 fun b hb=>?_
          obtain ⟨i,hi,rfl⟩:=List.mem_iff_getElem.1 hb
          have hi':i<listed.size:=by simpa using hi
          cases hbv:listed[i] with
          | true=>simp [hbv]
          | false=>exact absurd ⟨i,by rw [← hd.size]; exact hi',by simp [hi',hbv]⟩ hno
        have:listed.toList.length=ops.size:=by simpa using hd.size
        omega
      refine ⟨fun h=>?_,fun i hi=>?_⟩
      · obtain ⟨i,hi⟩:=mW hord hd.size hex
        rw [h] at hi; cases hi
      obtain ⟨hun,o,ho,hall⟩:=mem_ready.1 hi
      have his:i<ops.size:=(Array.getElem?_eq_some_iff.1 ho).1
      have hil:i<listed.size:=by rw [hd.size]; exact his
      have hun':listed.getD i false=false:=by simpa [hil] using hun
      have hpi:di ops i=preds o:=by simp [di,ho]
      have hdo:bX ops i=o.dst:=by simp [bX,ho]
      have hc1:=List.all_eq_true.1 hcov i (by simpa using his)
      simp only [Bool.and_eq_true,Bool.or_eq_true,List.contains_iff_mem] at hc1
      have hprd:∀ p ∈ preds o,listed.getD p false=true:=fun p hp=>by
        obtain ⟨e,h1,h2,h3⟩:=gU hp
        exact h3▸hall e h1 h2
      obtain ⟨⟨⟨⟨hcq,hcp⟩,hcm⟩,hcb⟩,hco⟩:=hc1
      have hbm:∀ q ∈ (kS ops).getD i [],listed.getD q false=true:=fun q hq=>yK (S:=fun j=>listed.getD j false=true) hvb hord (fun i o h1 h2=>hd.cl i o h1 h2) i o ho hprd q hq
      have hbmn:∀ j,((kS ops).getD j []).contains i=true→listed.getD j false=false:=fun j hj=>by
        cases hbj:listed.getD j false with
        | false=>rfl
        | true =>
          exfalso
          have hjs:j<ops.size:=by
            rcases Nat.lt_or_ge j ops.size with h | h
            · exact h
            · rw [← hd.size] at h; simp [Array.getElem?_eq_none h] at hbj
          have:=yK (S:=fun j=>listed.getD j false=true) hvb hord (fun i o h1 h2=>hd.cl i o h1 h2) j ops[j] (Array.getElem?_eq_getElem hjs) (hd.cl j _ hbj (Array.getElem?_eq_getElem hjs)) i (by simpa using hj)
          rw [hun'] at this; cases this
      have hold:Fr a n ds (lI L1 (ol i) L0):=aBC hd.fr fun q hq v hv=>hd.olds q v hv fun j hj=>by
        have h:=List.all_eq_true.1 hco q hq
        simp only [yD,Bool.and_eq_true] at h
        have hjs:j<ops.size:=by
          rcases Nat.lt_or_ge j ops.size with h' | h'
          · exact h'
          · simp [bX,Array.getElem?_eq_none h'] at hj
        have h:=List.all_eq_true.1 h.2 j (by simpa using hjs)
        simp only [hj,Nat.beq_refl,Bool.not_true,Bool.false_or,Bool.or_eq_true] at h
        rcases h with h | h
        · rw [Nat.eq_of_beq_eq_true h]; exact hun'
        · exact hbmn j h
      have hsp:∀ p ∈ ml i,seen mk listed p=true:=fun p hp=>by
        have h:=List.all_eq_true.1 hcm p hp
        simp only [Bool.and_eq_true,List.contains_iff_mem] at h
        simp only [seen,Bool.and_eq_true,List.contains_iff_mem]
        exact ⟨h.2,hbm p h.1⟩
      have hsb:∀ j ∈ bl i,seen mk listed j=false:=fun j hj=>by
        have h:=List.all_eq_true.1 hcb j hj
        simp only [seen,hbmn j h,Bool.and_false]
      have hfr:Fr a n ds (slotsOf ops (val g) (pl i) (lI L1 (ol i) L0)):=jv hold fun j hj d hdd=>by
        have:=List.all_eq_true.1 hcp j hj
        rw [hpi] at this
        exact hd.slot j d (hprd j (by simpa using this)) hdd
      have hcnt:fuel+(listed.setIfInBounds i true).toList.count true=ops.size:=by
        rw [Array.toList_setIfInBounds,gN _ _ (by simpa [Array.getD_eq_getD_getElem?,List.getD_eq_getElem?_getD] using hun)]
        omega
      have hback:∀ j,(listed.setIfInBounds i true).getD j false=true→j=i∨listed.getD j false=true:=fun j hj=>by
        by_cases e:i=j
        · exact .inl e.symm
        · rw [getD_set_ne false e] at hj; exact .inr hj
      have hfwd:∀ j,listed.getD j false=true→(listed.setIfInBounds i true).getD j false=true:=fun j hj=>by
        by_cases e:i=j
        · subst e; simp [hil]
        · rw [getD_set_ne false e]; exact hj
      have hcl':∀ j o',(listed.setIfInBounds i true).getD j false=true→ops[j]? = some o'→∀ p ∈ preds o',(listed.setIfInBounds i true).getD p false=true:=fun j o' hj hjo p hp=>by
        rcases hback j hj with rfl | h1
        · rw [ho] at hjo; injection hjo with hjo; subst hjo; exact hfwd p (hprd p hp)
        · exact hfwd p (hd.cl j o' h1 hjo p hp)
      have hfrm:∀ a',Fr a' n ds []→Kept o a a'→Fr a' n ds L0:=fun a' h1 h2=>⟨h1.size,h1.defers,fun q v hq=>by
        rw [h2 q (fun e=>hbase i q v his (hdo.trans e) hq)]; exact hd.fr.get q v hq⟩
      have hslot:∀ a' (g':γ),Kept o a a'→(∀ d,bX ops i=some d→a'.tmps[d]? = some (val g' i))→(∀ j,listed.getD j false=true→val g' j=val g j)→∀ j d,(listed.setIfInBounds i true).getD j false=true→bX ops j=some d→a'.tmps[d]? = some (val g' j):=by
        intro a' g' hk hi' hg j d hj hjd
        rcases hback j hj with rfl | h1
        · exact hi' d hjd
        · have hne:j≠i:=fun e=>by rw [e,hun'] at h1; cases h1
          have hjs:j<ops.size:=by
            rcases Nat.lt_or_ge j ops.size with h | h
            · exact h
            · rw [← hd.size] at h; simp [Array.getElem?_eq_none h] at h1
          rw [hk d (fun e=>hap j i d hjs his hne hjd (hdo.trans e)),hg j h1]
          exact hd.slot j d h1 hjd
      have holds':∀ a',Kept o a a'→∀ q v,lk L1 q=some v→(∀ j,bX ops j=some q→(listed.setIfInBounds i true).getD j false=false)→a'.tmps[q]? = some v:=fun a' hk q v hq hj=>by
        have hne:o.dst≠some q:=fun e=>by
          have:=hj i (hdo.trans e)
          simp [hil] at this
        rw [hk q hne]
        exact hd.olds q v hq fun j hjq=>by
          have h1:=hj j hjq
          cases h2:listed.getD j false with
          | false=>rfl
          | true=>rw [hfwd j h2] at h1; cases h1
      by_cases him:i ∈ mk
      · have hs0:seen mk listed i=false:=by simp only [seen,hun',Bool.and_false]
        refine wpOpIn_mono (fun a' w' hR=>?_) (O.keep ho (Obl.get hm i him _ g w hs0 hsp hsb hd.D a hfr))
        obtain ⟨⟨g',h1,h2,h3,h4⟩,h5⟩:=hR
        refine ih _ a' w' g' hcnt ⟨hfrm a' h1 h5,holds' a' h5,hslot a' g' h5 h2 (fun j hj=>h3 j (fun e=>by rw [e,hun'] at hj; cases hj) ?_),hcl',?_,by simpa using hd.size⟩
        · cases hbj:(al i).contains j with
          | false=>rfl
          | true =>
            exfalso
            have h6:=List.all_eq_true.1 (List.all_eq_true.1 hal i him) j (by simpa using hbj)
            simp only [List.contains_iff_mem] at h6
            have hjs:j<ops.size:=by
              rcases Nat.lt_or_ge j ops.size with h | h
              · exact h
              · rw [← hd.size] at h; simp [Array.getElem?_eq_none h] at hj
            have:=yK (S:=fun j=>listed.getD j false=true) hvb hord (fun i o h1 h2=>hd.cl i o h1 h2) j ops[j] (Array.getElem?_eq_getElem hjs) (hd.cl j _ hj (Array.getElem?_eq_getElem hjs)) i h6
            rw [hun'] at this; cases this
        · have e1:seen mk (listed.setIfInBounds i true)=upd (seen mk listed) i:=by
            funext j
            unfold upd
            cases hji:Nat.beq j i with
            | true =>
              have:=Nat.eq_of_beq_eq_true hji
              subst this
              simp [seen,him,hil]
            | false =>
              have hne:i≠j:=fun e=>by rw [e] at hji; simp [Nat.beq_refl] at hji
              simp only [seen]
              rw [getD_set_ne false hne]
          rw [e1]; exact h4
      · have hiq:i ∈ qs:=by
          rcases hcq with h | h
          · exact h
          · exact absurd h him
        refine wpOpIn_mono (fun a' w' hR=>?_) (O.keep ho (Obl.get hq i hiq _ g w hsp hsb hd.D a hfr))
        obtain ⟨⟨h1,h2,h3⟩,h5⟩:=hR
        refine ih _ a' w' g hcnt ⟨hfrm a' h1 h5,holds' a' h5,hslot a' g h5 h2 (fun _ _=>rfl),hcl',?_,by simpa using hd.size⟩
        have e1:seen mk (listed.setIfInBounds i true)=seen mk listed:=by
          funext j
          simp only [seen]
          by_cases hji:i=j
          · subst hji; simp [him]
          · rw [getD_set_ne false hji]
        rw [e1]; exact h3
  have e0:seen mk (Array.replicate ops.size false)=fun _=>false:=by
    funext j
    simp only [seen]
    by_cases h:j<ops.size <;> simp [h]
  refine key ops.size (Array.replicate ops.size false) a { w with drawn:=w.drawn+1 } g0 (by simp [List.count_replicate]) ⟨hf,fun q v hq _=>hf1.get q v hq,fun j d hj=>?_,fun j o hj=>?_,by rw [e0]; exact h0,by simp⟩
  · exfalso
    by_cases h:j<ops.size <;> simp [h] at hj
  · exfalso
    by_cases h:j<ops.size <;> simp [h] at hj
end
section
variable {P:Program} {w:World} {n:Nat} {ds:List Deferred} {L:List (Nat × Value)} {ty t:TypeId} {x y z:Operand} {v:Value} {k:IntKind} {p q c:Int}
def sub64Row:Array Value→Sem Value:=fun args=>do
  let (x,y,b) ← Extern.MathBitsCarry.three "Sub64" args
  pure (Extern.MathBitsCarry.pair ((x+Extern.MathBitsCarry.m64-y-b) % Extern.MathBitsCarry.m64) (if x<y+b then 1 else 0))
def sub64d (p q c:Int):Int:=((p.toNat+18446744073709551616-q.toNat-c.toNat) % 18446744073709551616:Nat)
def sub64b (p q c:Int):Int:=(if p.toNat<q.toNat+c.toNat then 1 else 0:Nat)
def add64Row:Array Value→Sem Value:=fun args=>do
  let (x,y,c) ← Extern.MathBitsCarry.three "Add64" args
  pure (Extern.MathBitsCarry.pair ((x+y+c) % Extern.MathBitsCarry.m64) ((x+y+c)/Extern.MathBitsCarry.m64))
def add64s (p q c:Int):Int:=((p.toNat+q.toNat+c.toNat) % 18446744073709551616:Nat)
def add64c (p q c:Int):Int:=((p.toNat+q.toNat+c.toNat)/18446744073709551616:Nat)
def aEG (P:Program) (f:FuncId) (e:Array Value→Sem Value):Prop:=∀ args w v,(e args).run P w=.ok v w→(callFunc f args).run P w=.ok (.value v) w
theorem aA.ext {f:Operand} {fid:FuncId} {e:Array Value→Sem Value} {args:Array Operand} {at_:Array TypeId} {vs:List Value} (hE:aEG P fid e) (hx:ev L f=some (.func (.func fid) #[] #[])) (hv:evA L args.toList=some vs) (he:∀ w,(e vs.toArray).run P w=.ok v w) :
    aA P n ds L (.call ⟨.value f,args,at_⟩) ty w v w:=fun a d pos af g hf=>by
  have hargs:args.map a.eval=vs.toArray:=by apply Array.ext'; rw [Array.toList_map,hf.evA hv]
  have h1:=hE vs.toArray w v (he w)
  simp only [execOp,resolve,Sem.run_bind,Sem.run_pure,Result.andThen,hargs,hf.eval hx,Deferred.ofValue,invoke]
  simpa using h1
def strIdx (s:ByteArray) (i:Int):Option Int:=if 0≤i then (s[i.toNat]?).map (fun b=>(b.toNat:Int)) else none
end
abbrev Iv (x:Int):Value:=.int .i64 x
abbrev Uv (x:Int):Value:=.int .u64 x
abbrev Bv (x:Bool):Value:=.bool x
abbrev Pv (b o:Nat):Value:=.pointer (some ⟨b,o,none⟩)
abbrev Cs (c:Array Value) (t:TypeId):Obj:=.cells c t (0,0)
end Go.SL
