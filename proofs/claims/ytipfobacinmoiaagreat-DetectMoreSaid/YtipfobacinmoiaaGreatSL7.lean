/- Slices as values: what is read (rd), what the call owns (sl), their elements; lists of numbers and of Bools. -/
import Derived.Test.YtipfobacinmoiaaGreatSL6
set_option linter.unusedVariables false
set_option linter.unusedSimpArgs false
namespace Go.SL
open Go
def rdOK (h:Hp) (sz:Nat) (v:Value) (n:Nat) (xs:List Value):Prop :=
  xs.length=n*sz∧n≤maxLen∧∃ A c,v=.slice A n c∧(0<n→∃ a cur e z,A=some a∧a.spot=none∧h a.block=some (.cells cur e z)∧∀ j u,xs[j]? = some u→cur[a.off+j]? = some u)
def rdv (sz:Nat) (v:Value) (n:Nat) (xs:List Value):Asr :=
  ⟨fun k=>0<n∧v.ownBlock=some k,fun h=>rdOK h sz v n xs,fun h h' hk hh=>by
    obtain ⟨h1,h2,A,c,rfl,h3⟩:=hh
    refine ⟨h1,h2,A,c,rfl,fun hn=>?_⟩
    obtain ⟨a,cur,e,z,rfl,hs,hb,hc⟩:=h3 hn
    exact ⟨a,cur,e,z,rfl,hs,by rw [hk a.block ⟨hn,rfl⟩]; exact hb,hc⟩⟩
theorem slOK.rd {h:Hp} {e:TypeId} {sz:Nat} {v:Value} {n:Nat} {xs:List Value} (hs:slOK h e sz v n xs):rdOK h sz v n xs:=by
  rcases hs.2 with ⟨rfl,rfl⟩ | ⟨g,cap,cur,rfl,hg,h1,h2,h3,h4⟩
  · exact ⟨hs.1,Nat.zero_le _,none,0,rfl,fun h=>by omega⟩
  · refine ⟨hs.1,Nat.le_trans h1 h2,_,cap,rfl,fun _=>⟨⟨g,0,none⟩,cur,e,(0,0),rfl,rfl,hg,fun j u hu=>?_⟩⟩
    have:=take_get h4 hu
    rw [Nat.zero_add,← Array.getElem?_toList]; exact this
def ix:Value→Nat→Value
  | .slice A _ _,m=>.pointer (A.map (·.add m))
  | _,_=>undef
def vlen:Value→Nat
  | .slice _ n _=>n
  | _=>0
section
variable {P:Program} {n:Nat} {ds:List Deferred} {L:List (Nat × Value)} {ty t e:TypeId} {w:World} {x y:Operand} {v u:Value} {N sz m:Nat} {xs us:List Value} {k:IntKind} {p:Int} {j o:Nat}
theorem RunV.lenV {at_:Array TypeId} (he:(at_[0]?).bind (tElem P)=some e) (hv:ev L x=some v) (hr:rdOK (hp w) sz v N xs):RunV P n ds L (.call ⟨.builtin .len,#[x],at_⟩) ty w (.int .i64 (N:Int)) w:=by
  obtain ⟨_,_,A,c,rfl,_⟩:=hr
  exact RunV.len he hv
theorem RunV.ixV (he:tElem P t=some e) (hs:tSize P e=some sz) (hx:ev L x=some v) (hy:ev L y=some (.int k p)) (hr:rdOK (hp w) sz v N xs) (hj:p=(j:Int)) (hlt:j<N) (hm:j*sz=m):RunV P n ds L (.indexAddr t x y) ty w (ix v m) w:=by
  obtain ⟨_,_,A,c,rfl,h3⟩:=hr
  obtain ⟨a,cur,e',z,rfl,hsp,hb,hc⟩:=h3 (by omega)
  obtain ⟨b,off,spot⟩:=a
  simp only at hsp
  subst hsp
  subst hm
  have:=RunV.indexSl (P:=P) (n:=n) (ds:=ds) (L:=L) (ty:=ty) (w:=w) (m:=off+j*sz) he hs hx hy hj hlt rfl
  simpa only [ix,Option.map_some,add_none] using this
theorem RunV.ld1 (ha:tAgg P t=some false) (hx:ev L x=some (ix v m)) (hr:rdOK (hp w) sz v N xs) (hv:xs[m]? = some u):RunV P n ds L (.load t x) ty w u w:=by
  obtain ⟨hl,_,A,c,rfl,h3⟩:=hr
  have hN:0<N:=by
    have:=(List.getElem?_eq_some_iff.1 hv).1
    rw [hl] at this
    rcases Nat.eq_zero_or_pos N with h | h
    · subst h; simp at this
    · exact h
  obtain ⟨a,cur,e',z,rfl,hsp,hb,hc⟩:=h3 hN
  obtain ⟨b,o,spot⟩:=a
  simp only at hsp
  subst hsp
  simp only [ix,Option.map_some,add_none] at hx
  exact RunV.load1 (e:=e') (zz:=z) (cs:=cur) ha hx hb (hc m u hv)
theorem RunV.ldN {q:Nat} (ha:tAgg P t=some true) (hs:tSize P t=some q) (hq:Nat.blt 0 q=true) (hx:ev L x=some (ix v m)) (hr:rdOK (hp w) sz v N xs) (hl:us.length=q) (hv:∀ k u,us[k]? = some u→xs[m+k]? = some u):RunV P n ds L (.load t x) ty w (.agg us.toArray) w:=by
  have hq:0<q:=by simpa using hq
  obtain ⟨hl',_,A,c,rfl,h3⟩:=hr
  have hN:0<N:=by
    have h0:us[0]? = some us[0]:=List.getElem?_eq_getElem (by omega)
    have:=(List.getElem?_eq_some_iff.1 (hv 0 _ h0)).1
    rw [hl'] at this
    rcases Nat.eq_zero_or_pos N with h | h
    · subst h; simp at this
    · exact h
  obtain ⟨a,cur,e',z,rfl,hsp,hb,hc⟩:=h3 hN
  obtain ⟨b,o,spot⟩:=a
  simp only at hsp
  subst hsp
  simp only [ix,Option.map_some,add_none] at hx
  obtain ⟨h5,h6⟩:=extract_of_get (cur:=cur) (o:=o+m) hl (fun k u hu=>by rw [Nat.add_assoc]; exact hc _ _ (hv k u hu))
  exact RunV.loadN (e:=e') (zz:=z) (cs:=cur) ha hs hx hb (h6 hq) h5
end
section
variable {r:Option Nat} {P:Program} {Q:Exit→Act→World→Prop} {ops:Array Oper} {i:Nat} {rest:List Nat} {a:Act} {w w0 w':World} {n:Nat} {ds:List Deferred} {L:List (Nat × Value)}
  {d:Nat} {op:Op} {ty t e:TypeId} {pos:String} {af:Array Edge} {v u:Value} {X:Nat→Prop} {B M M':List Asr} {x y:Operand} {b o j m:Nat} {N sz:Nat} {xs xs':List Value}
theorem St.slAt (h:St w0 w X B M) (hi:M[j]? = some (SL.sl e sz v N xs)):slOK (hp w) e sz v N xs:=h.at_ hi
theorem St.slr (h:St w0 w X B M) (hi:M[j]? = some (SL.sl e sz v N xs)):rdOK (hp w) sz v N xs:=(h.at_ hi:slOK (hp w) e sz v N xs).rd
theorem St.rdAt (h:St w0 w X B M) (hi:B[j]? = some (rdv sz v N xs)):rdOK (hp w) sz v N xs:=h.bat hi
theorem wr_toList:∀ (l:List Value) (c:Array Value) (o k:Nat),(wr c o l)[k]? = if k<c.size∧o≤k∧k<o+l.length then l[k-o]? else c[k]?
  | [],c,o,k=>by simp only [wr,List.length_nil]; rw [if_neg (by omega)]
  | u::t,c,o,k=>by
    simp only [wr]
    rw [wr_toList t]
    simp only [Array.size_setIfInBounds,List.length_cons]
    by_cases h1:k<c.size
    · by_cases h2:o=k
      · subst h2
        rw [if_neg (by omega),if_pos (by omega),Array.getElem?_setIfInBounds_self_of_lt h1]
        simp
      · rw [Array.getElem?_setIfInBounds_ne h2]
        by_cases h3:o+1≤k∧k<o+1+t.length
        · rw [if_pos ⟨h1,h3⟩,if_pos (by omega)]
          have:k-o=(k-(o+1))+1:=by omega
          rw [this,List.getElem?_cons_succ]
        · rw [if_neg (by omega),if_neg (by omega)]
    · rw [if_neg (by omega),if_neg (by omega),Array.getElem?_eq_none (by simp; omega),Array.getElem?_eq_none (by omega)]
theorem O.storeSl {m':Nat} (hf:Fr a n ds L) (hS:St w0 w X B M) (ho:ops[i]? = some ⟨none,.store t x y,ty,pos,af,none⟩) (hx:ev L x=some (ix v m)) (hy:ev L y=some u)
    (hs:tSize P t=some 1) (hc:u.cells=#[u]) (h1:oneCells [u]=true) (hM:M[j]? = some (SL.sl e sz v N xs)) (hlt:m<xs.length) (hxs:xs.set m u=xs') (hM':M.set j (SL.sl e sz v N xs')=M') (hd:m'=m)
    (k:∀ w',St w0 w' X B M'→O r P ops Q rest a w'):O r P ops Q (i::rest) a w:=by
  subst hxs hM'
  have hsl:=hS.slAt hM
  have hN:0<N:=by
    rw [hsl.1] at hlt
    rcases Nat.eq_zero_or_pos N with h | h
    · subst h; simp at hlt
    · exact h
  obtain ⟨g,cap,rfl⟩:=hsl.form hN
  obtain ⟨cur,_,hg,hcs,htk,hle,hmx⟩:=hsl.block
  have hlen:=hsl.1
  have hcap:N*sz≤cap*sz:=Nat.mul_le_mul_right _ hle
  have hmlt:m<cur.size:=by rw [hcs]; omega
  have hx':ev L x=some (.pointer (some ⟨g,m,none⟩)):=by simpa only [ix,Option.map_some,add_none,Nat.zero_add] using hx
  have hcell:u.cells.toList=[u]:=by rw [hc]
  refine O.unit (w':=setB w g (.cells (wr cur m u.cells.toList) e (0,0))) hf ho rfl ?_ (k _ ?_)
  · intro a d pos af g' hf
    simp only [execOp,hf.eval hx',hf.eval hy]
    refine run_u ?_
    have hrs:=run_storeVar (P:=P) (b:=g) (o:=m) (e:=e) (v:=u) (c:=cur) (w:=w) hs (by rw [hc]; rfl) hg (by omega) (by rw [hcell]; exact h1)
    simp only [Instr.storeAt,Instr.sureAddr,Sem.run_bind,Sem.run_pure,Result.andThen,hrs]
  · refine hS.write hM rfl rfl rfl (by rw [setB_size]; exact Nat.le_refl _) (fun b _ hb=>setB_ne (fun e=>hb (by subst e; rfl))) ?_ (fun b hb=>⟨.inl hb,?_⟩)
    · refine ⟨by rw [List.length_set]; exact hlen,.inr ⟨g,cap,_,rfl,setB_at hg,hle,hmx,by rw [size_wr]; exact hcs,?_⟩⟩
      apply List.ext_getElem?
      intro q
      rw [hcell]
      subst htk
      rw [List.getElem?_take,Array.getElem?_toList,wr_toList,List.getElem?_set]
      simp only [List.length_take,Array.length_toList,List.length_cons,List.length_nil,List.getElem?_take,Array.getElem?_toList]
      by_cases hqm:m=q
      · subst hqm
        have hlt':m<N*sz:=by
          have:=hlt
          simp only [List.length_take,Array.length_toList] at this
          omega
        rw [if_pos hlt',if_pos (by omega),if_pos rfl,if_pos (by omega)]
        simp
      · rw [if_neg hqm]
        split
        · rw [if_neg (by omega)]
        · rfl
    · rw [setB_size]
      have hb:some g=some b:=hb
      injection hb with hb
      subst hb
      exact (Array.getElem?_eq_some_iff.1 hg).1
end
def ints (l:List Int):List Value:=l.map (Value.int .i64)
def bools (l:List Bool):List Value:=l.map Value.bool
section
variable {l:List Int} {bs:List Bool} {j:Nat}
theorem ints_get (h:j<l.length):(ints l)[j]? = some (.int .i64 (l.getD j 0)):=by
  simp [ints,List.getElem?_eq_getElem h]
theorem bools_get (h:j<bs.length):(bools bs)[j]? = some (.bool (bs.getD j false)):=by
  simp [bools,List.getElem?_eq_getElem h]
theorem ints_len:(ints l).length=l.length:=by simp [ints]
theorem bools_len:(bools bs).length=bs.length:=by simp [bools]
theorem ints_app (a b:List Int):ints (a++b)=ints a++ints b:=by simp [ints]
theorem bools_app (a b:List Bool):bools (a++b)=bools a++bools b:=by simp [bools]
theorem bools_set {b:Bool}:(bools bs).set j (.bool b)=bools (bs.set j b):=by simp [bools,List.map_set]
theorem ints_set {z:Int}:(ints l).set j (.int .i64 z)=ints (l.set j z):=by simp [ints,List.map_set]
theorem made_bools (n:Nat):(madeCells (Value.cells (.bool false)) (n*1)).toList=bools (List.replicate n false):=by
  apply List.ext_getElem?
  intro i
  simp only [madeCells,Value.cells,Array.toList_map,Array.toList_range,Nat.mul_one,bools,List.map_replicate,List.getElem?_map,List.getElem?_replicate]
  by_cases h:i<n
  · simp [h,List.getElem?_range,Nat.mod_one]
  · simp [h]
theorem made_ints (n:Nat):(madeCells (Value.cells (.int .i64 0)) (n*1)).toList=ints (List.replicate n 0):=by
  apply List.ext_getElem?
  intro i
  simp only [madeCells,Value.cells,Array.toList_map,Array.toList_range,Nat.mul_one,ints,List.map_replicate,List.getElem?_map,List.getElem?_replicate]
  by_cases h:i<n
  · simp [h,List.getElem?_range,Nat.mod_one]
  · simp [h]
end
end Go.SL
namespace Go.SL
open Go
section
variable {w w0:World} {X:Nat→Prop} {B M:List Asr} {sz n e:Nat} {v:Value} {xs:List Value} {p q:Asr} {i j:Nat}
theorem rdOK.lt {k:Nat} (h:rdOK (hp w) sz v n xs) (hn:0<n) (hk:v.ownBlock=some k):k<w.heap.size:=by
  obtain ⟨_,_,A,c,rfl,h3⟩:=h
  obtain ⟨a,cur,e,z,rfl,_,hb,_⟩:=h3 hn
  simp only [Value.ownBlock,Option.some.injEq] at hk
  subst hk
  exact (Array.getElem?_eq_some_iff.1 hb).1
theorem St.lend (hS:St w w X B M) (h:rdOK (hp w) sz v n xs) (hX:∀ b,0<n→v.ownBlock=some b→¬ X b):St w w X (rdv sz v n xs::B) M :=
  ⟨hS.os,hS.tape,hS.output,hS.size,hS.old,hS.sep,fun p hp=>by
    rcases List.mem_cons.1 hp with rfl | hp
    · exact ⟨h,fun b hb=>⟨h.lt hb.1 hb.2,hX b hb.1 hb.2⟩⟩
    · exact hS.bor p hp⟩
theorem St.lend0 (hS:St w w noX B M) (h:rdOK (hp w) sz v n xs):St w w noX (rdv sz v n xs::B) M:=hS.lend h (fun _ _ _ h=>h)
theorem St.own (h:slOK (hp w) e sz v n xs):St w w (fun b=>v.ownBlock=some b) [] [sl e sz v n xs] :=
  ⟨rfl,rfl,rfl,Nat.le_refl _,fun _ _ _=>rfl,⟨⟨h,fun b hb=>⟨((slOK_iff.1 h).lt b hb).2,.inl hb⟩,by simp⟩,trivial⟩,by simp⟩
theorem St.apart (hS:St w0 w X B M) (hi:M[i]? = some p) (hj:B[j]? = some q):∀ b,q.fp b→¬ p.fp b:=fun b hq hp=>by
  have h1:=(hS.bor q (List.mem_of_getElem? hj)).2 b hq
  rcases ((hS.sep.get hi).2 b hp).2 with h2 | h2
  · exact h1.2 h2
  · omega
theorem sl_ints (v:Value) (l:List Int) (z:Int):sl e 1 v (l.length+1) (ints l++[.int .i64 z])=sl e 1 v (l++[z]).length (ints (l++[z])):=by
  rw [ints_app,List.length_append]; rfl
theorem sl_bools (v:Value) (l:List Bool) (z:Bool):sl e 1 v (l.length+1) (bools l++[.bool z])=sl e 1 v (l++[z]).length (bools (l++[z])):=by
  rw [bools_app,List.length_append]; rfl
theorem slOK.nle {h:Hp} (hs:slOK h e sz v n xs):n≤maxLen:=by
  rcases hs.2 with ⟨_,h0⟩ | ⟨g,cap,cur,_,_,h1,h2,_⟩
  · subst h0; exact Nat.zero_le _
  · exact Nat.le_trans h1 h2
end
section
variable {w w0:World} {X:Nat→Prop} {B M M':List Asr} {e:TypeId} {j b:Nat}
theorem St.ptSl {cs:Array Value} {n sz:Nat} {xs:List Value} (hS:St w0 w X B M) (hi:M[j]? = some (pt b (.cells cs e (0,0)))) (hn:n≤maxLen) (hc:cs.size=n*sz) (hx:cs.toList=xs) (hM:M.set j (sl e sz (.slice (some ⟨b,0,none⟩) n n) n xs)=M'):St w0 w X B M':=by
  subst hM hx
  refine hS.conv hi (fun h=>?_) (fun k hk=>?_)
  · refine ⟨by simpa using hc,.inr ⟨b,n,cs,rfl,h,Nat.le_refl _,hn,hc,?_⟩⟩
    rw [List.take_of_length_le (by simp [hc])]
  · have hk:some b=some k:=hk
    injection hk with hk
    exact hk.symm
end
end Go.SL
