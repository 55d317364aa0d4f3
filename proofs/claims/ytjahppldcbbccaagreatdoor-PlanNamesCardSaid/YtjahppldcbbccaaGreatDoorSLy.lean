/- Part of a proof: laws. -/
import Derived.Test.YtjahppldcbbccaaGreatDoorSL19
import Derived.ArgAppend
import Derived.Test.YtjahppldcbbccaaGreatDoorSL11
set_option linter.unusedVariables false
set_option linter.unusedSimpArgs false
namespace Go.SL
open Go
def vfull:Value→Value
  | .slice A n _=>.slice A n n
  | _=>undef
section
variable {T:Type} {enc:T→List Value} {sz:Nat} {l m:List T}
variable {r:Option Nat} {P:Program} {Q:Exit→Act→World→Prop} {ops:Array Oper} {i:Nat} {rest:List Nat} {a:Act} {w w0 w':World} {n:Nat} {ds:List Deferred} {L:List (Nat × Value)}
  {d:Nat} {op:Op} {ty t e:TypeId} {pos:String} {af:Array Edge} {v u z:Value} {X:Nat→Prop} {B M M':List Asr} {x y hi mx:Operand} {b o j jj N by_ c:Nat} {k k':IntKind} {cs:Array Value} {zz:Nat × Nat}
theorem Z.sliceFull {p q:Int} (he:tElem P t=some e) (hs:tSize P e=some sz) (hx:ev L x=some v) (hh:ev L hi=some (.int k p)) (hm:ev L mx=some (.int k' q)) (hr:rdEOK (hp w) sz enc v l) (hp':p=l.length) (hq:q=l.length) :
    RunV P n ds L (.slice t x none (some hi) (some mx)) ty w (vfull v) w:=fun a d pos af g hf=>by
  subst hp' hq
  simp only [execOp,hf.eval hx,Option.map_some,Option.map_none,hf.eval hh,hf.eval hm]
  obtain ⟨⟨h1,h2,A,c,rfl,h3⟩,hfit⟩:=hr
  have hfit:l.length≤c:=hfit
  have ht:=und_elem he
  have ht:P.underlying t=some (.slice (P.elem t)):=by rw [ht]; simp [Program.elem,ht]
  have hel:P.elem t=e:=by
    have:=und_elem he
    rw [this] at ht
    simpa using ht.symm
  have hsz:(sizeOf (P.elem t)).run P w=.ok sz w:=by rw [hel]; exact run_sizeOf hs
  refine run_v ?_
  rw [run_sliceAt_slice _ _ _ _ _ _ ht,run_slice_hm _ _ _ _ _ ht _ _ _ _ (by omega) (by omega) (by omega),hsz]
  simp only [Result.andThen,sliced,vfull,Int.toNat_natCast,Nat.sub_zero,Nat.zero_mul]
  congr 2
  split
  · rfl
  · rename_i h0
    obtain ⟨p,cur,e',z',rfl,hsp,_⟩:=h3 (by omega)
    obtain ⟨g,o,s⟩:=p
    simp only at hsp; subst hsp; simp [add_none]
theorem O.appendFull {l':List T} {bo:Nat} (hf:Fr a n ds L) (hS:St w0 w X B M) (ho:ops[i]? = some ⟨some d,.call ⟨.builtin .append,#[x,y],#[t,t]⟩,ty,pos,af,none⟩) (hd:Nat.blt d n=true)
    (he:tElem P t=some e) (hs:tSize P e=some sz) (hby:tBytes P e=some by_) (hz:tZero P e=some z) (hzs:z.cells.size=sz) (h0:Nat.blt 0 sz=true) (hx:ev L x=some (vfull v)) (hy:ev L y=some (.slice (some ⟨bo,0,none⟩) N c))
    (hr:rdEOK (hp w) sz enc v l) (hMs:M[jj]? = some (pt bo (.cells cs e zz))) (hl:cs.size=N*sz) (hcs:cs.toList=encs enc m) (hN:m.length=N) (h1:oneCells cs.toList=true) (hN0:Nat.blt 0 N=true) (hN1:Nat.ble N 1000=true) (hmax:(l.length:Int)≤4294967296) (hb:Nat.ble by_ 16000=true) (hl':l++m=l')
    (k:∀ v' w' a',St w0 w' X B (slE e sz enc v' l'::M)→Fr a' n ds ((d,v')::L)→O r P ops Q rest a' w'):O r P ops Q (i::rest) a w:=by
  subst hl'
  have hb:=Nat.le_of_ble_eq_true hb
  have hN1:=Nat.le_of_ble_eq_true hN1
  have hN0:0<N:=by simpa using hN0
  have h0:0<sz:=by simpa using h0
  have h9:(l.length+N)*by_≤140737488355328:=by
    refine Nat.le_trans (Nat.mul_le_mul (show l.length+N≤4294968296 by omega) hb) ?_
    decide
  have h63:l.length+N≤maxLen:=by unfold maxLen; omega
  unfold tSize at hs
  unfold tBytes at hby
  unfold tZero at hz
  obtain ⟨inf,hi,hsz⟩:=Option.map_eq_some_iff.1 hs
  rw [hi] at hby hz
  simp only [Option.map_some,Option.some.injEq,Option.bind_some] at hby hz
  have hnews:∀ q u,cs.toList[q]? = some u→w.cell? (Addr.add ⟨bo,0,none⟩ q)=some u:=fun q u hu=>by
    rw [add_none,cell_at (hS.ptAt hMs),← Array.getElem?_toList,Nat.zero_add]; exact hu
  have key:∃ v' w',(Builtin.append_ #[t,t] ty #[vfull v,.slice (some ⟨bo,0,none⟩) N c]).run P w=.ok v' w'∧w'.ownsRow w.heap.size e sz v' (l.length+N) (encs enc l++cs.toList)∧w.grownBy w' none:=by
    obtain ⟨⟨g1,g2,A,cc,rfl,g3⟩,hfit⟩:=hr
    cases A with
    | some b =>
      refine run_append_arg_grows (P:=P) w t ty e inf z sz by_ (und_elem he) hi hz hsz hby hzs h0 b l.length l.length (encs enc l) g1 (fun q u hu=>?_) ⟨bo,0,none⟩ N c cs.toList (by simpa using hl) hnews (by omega) h63 h9
      rcases Nat.eq_zero_or_pos l.length with h | h
      · have:=(List.getElem?_eq_some_iff.1 hu).1
        rw [g1,h,Nat.zero_mul] at this; omega
      · obtain ⟨p,cur,e',z',hp,hsp,hgb,hgc⟩:=g3 h
        injection hp with hp
        subst hp
        obtain ⟨g,o,s⟩:=b
        simp only at hsp hgb hgc
        subst hsp
        rw [add_none,cell_at (show w.heap[g]? = some (.cells cur e' z') from hgb)]
        exact hgc q u hu
    | none =>
      have hl0:l.length=0:=by
        rcases Nat.eq_zero_or_pos l.length with h | h
        · exact h
        · obtain ⟨p,_,_,_,hp,_⟩:=g3 h; cases hp
      have hown:w.ownsRow w.heap.size e sz (.slice none 0 0) 0 []:=⟨by simp,.inl ⟨rfl,rfl⟩⟩
      obtain ⟨v',w1,h2,h3,h4,_,h5⟩:=run_append_own_at (P:=P) w w.heap.size t ty e inf z sz by_ (und_elem he) hi hz hsz hby hzs h0 (.slice none 0 0) 0 [] hown ⟨bo,0,none⟩ N c cs.toList (by simpa using hl) hnews (oneCell_of h1) (by omega) (by rw [hl0] at h9; exact h9) (Nat.le_refl _)
      have hl1:l=[]:=List.length_eq_zero_iff.1 hl0
      subst hl1
      refine ⟨v',w1,h2,by simpa [encs] using h3,?_⟩
      simpa [Value.ownBlock] using h4
  obtain ⟨v',w1,h2,h3,h4⟩:=key
  refine O.val (w':=w1) (v:=v') hf ho rfl hd ?_ (fun a' hf'=>k v' w1 a' ?_ hf')
  · intro a d pos af g hf
    refine run_builtin (vs:=[vfull v,.slice (some ⟨bo,0,none⟩) N c]) hf (by simp [evA,hx,hy]) ?_
    simp only [builtin]
    exact run_v h2
  · refine hS.push h4.os h4.tape h4.output h4.size (fun q hq=>h4.block q hq (by simp)) ?_ (fun q hq=>?_)
    · have e1:slE e sz enc v' (l++m)=sl e sz v' (l.length+N) (encs enc l++cs.toList):=by
        unfold slE; rw [encs_app,hcs,List.length_append,hN]
      rw [e1]
      refine slOK_iff.2 ?_
      refine ⟨h3.1,?_⟩
      rcases h3.2 with h | ⟨g,cap,cur,h,_,hrest⟩
      · exact .inl h
      · exact .inr ⟨g,cap,cur,h,Nat.zero_le _,hrest⟩
    · have hq:v'.ownBlock=some q:=hq
      exact h3.lt q hq
end
end Go.SL

namespace Go.SL
open Go
section
variable {T:Type} {enc:T→List Value} {sz:Nat} {l:List T} {w w0:World} {X:Nat→Prop} {B M M':List Asr} {v:Value} {e:TypeId} {i j:Nat} {c:Bool} {p:Asr}
end
end Go.SL

namespace Go.SL
open Go
abbrev MTab:=List (Int × Int × Value)
def mKey (p q:Int):Value:=.agg #[.int .i64 p,.int .i64 q]
def mVal {T:Type} (v:Value) (r:List T × Int × Int):Value:=.agg #[v,.int .i64 r.2.1,.int .i64 r.2.2]
def memoOK {T:Type} (e sz:Nat) (enc:T→List Value) (f:Int→Int→List T × Int × Int) (b:Nat) (tb:MTab) (h:Hp):Prop :=
  (∃ es clock,h b=some (.map es clock)∧es.toList.map (fun x=>(x.key,x.val))=tb.map fun t=>(mKey t.1 t.2.1,mVal t.2.2 (f t.1 t.2.1))) ∧
  ∀ t ∈ tb,slOK h e sz t.2.2 (f t.1 t.2.1).1.length (encs enc (f t.1 t.2.1).1)
def memoA {T:Type} (e sz:Nat) (enc:T→List Value) (f:Int→Int→List T × Int × Int) (b:Nat) (tb:MTab):Asr :=
  ⟨fun k=>k=b∨∃ t ∈ tb,t.2.2.ownBlock=some k,memoOK e sz enc f b tb,fun h h' hk ⟨⟨es,c,h1,h2⟩,h3⟩=>⟨⟨es,c,by rw [hk b (.inl rfl)]; exact h1,h2⟩,fun t ht=>(sl e sz t.2.2 _ _).loc h h' (fun k hk'=>hk k (.inr ⟨t,ht,hk'⟩)) (h3 t ht)⟩⟩
def memIn {T:Type} (f:Int→Int→List T × Int × Int) (tb:MTab) (v:Value) (l:List T):Asr :=
  ⟨fun _=>False,fun _=>∃ t ∈ tb,t.2.2=v∧(f t.1 t.2.1).1=l,fun _ _ _ h=>h⟩
def memoH {T:Type} (w:World) (e sz:Nat) (enc:T→List Value) (f:Int→Int→List T × Int × Int) (b:Nat) (tb:MTab):Prop :=
  Lent w (memoA e sz enc f b tb)
section
variable {T:Type} {enc:T→List Value} {sz:Nat} {l m:List T} {f:Int→Int→List T × Int × Int} {tb:MTab}
variable {r:Option Nat} {P:Program} {Q:Exit→Act→World→Prop} {ops:Array Oper} {i:Nat} {rest:List Nat} {a:Act} {w w0 w':World} {n:Nat} {ds:List Deferred} {L:List (Nat × Value)}
  {d:Nat} {op:Op} {ty t e kt:TypeId} {pos:String} {af:Array Edge} {v u z:Value} {X:Nat→Prop} {B M M':List Asr} {x y zz:Operand} {b o j jj:Nat} {k k':IntKind} {p q:Int} {A:Asr}
theorem St.ownG (h:Lent w A) (hB:∀ p ∈ B,Lent w p) (ha:∀ p ∈ B,∀ k,p.fp k→¬ A.fp k):St w w (fun k=>A.fp k) B [A] :=
  ⟨rfl,rfl,rfl,Nat.le_refl _,fun _ _ _=>rfl,⟨⟨h.1,fun k hk=>⟨h.2 k hk,.inl hk⟩,by simp⟩,trivial⟩,fun p hp=>⟨(hB p hp).1,fun k hk=>⟨(hB p hp).2 k hk,ha p hp k hk⟩⟩⟩
theorem St.lentAt (hS:St w0 w X B M) (hi:M[i]? = some A):Lent w A:=⟨(hS.sep.get hi).1,fun b hb=>((hS.sep.get hi).2 b hb).1⟩
theorem St.memRd (hS:St w0 w X B M) (hi:M[i]? = some (memoA e sz enc f b tb)) (hj:M[j]? = some (memIn f tb v l)):rdEOK (hp w) sz enc v l:=by
  obtain ⟨t,ht,rfl,rfl⟩:∃ t ∈ tb,t.2.2=v∧(f t.1 t.2.1).1=l:=hS.at_ hj
  have h2:memoOK e sz enc f b tb (hp w):=hS.at_ hi
  exact ⟨(h2.2 t ht).rd,(h2.2 t ht).fit⟩
theorem St.memOwn (hS:St w0 w X B M) (hi:M[i]? = some (memoA e sz enc f b tb)) (hj:M[j]? = some (memIn f tb v l)) (hM:M.set i (slE e sz enc v l)=M'):St w0 w X B M':=by
  subst hM
  obtain ⟨t,ht,rfl,rfl⟩:∃ t ∈ tb,t.2.2=v∧(f t.1 t.2.1).1=l:=hS.at_ hj
  exact hS.conv hi (fun h=>h.2 t ht) (fun k hk=>.inr ⟨t,ht,hk⟩)
def tMemo (P:Program) (t:TypeId):Option (TypeId × Value) :=
  match P.underlying t with
  | some (.map k e)=>match tArr P k with
    | some (2,q)=>match tInt P q,tZero P e with
      | some .i64,some z'=>if P.cellsOf q=1∧(P.info? q).isSome=true∧tAgg P q=some false∧tSize P q=some 1 then some (k,z') else none
      | _,_=>none
    | _=>none
  | _=>none
theorem tMemo_spec (h:tMemo P t=some (kt,z)):∃ e q,P.underlying t=some (.map kt e)∧tArr P kt=some (2,q)∧tInt P q=some .i64∧tZero P e=some z∧P.cellsOf q=1∧(P.info? q).isSome=true∧tAgg P q=some false∧tSize P q=some 1:=by
  unfold tMemo at h
  split at h
  · rename_i k e hu
    split at h
    · rename_i q hq
      split at h
      · rename_i z' h1 h2
        split at h
        · rename_i hc
          simp only [Option.some.injEq,Prod.mk.injEq] at h
          obtain ⟨rfl,rfl⟩:=h
          exact ⟨e,q,hu,hq,h1,h2,hc.1,hc.2.1,hc.2.2.1,hc.2.2.2⟩
        · cases h
      · cases h
    · cases h
  · cases h
theorem run_memoKey {c:TypeId} (h1:tArr P kt=some (2,c)) (h2:tInt P c=some .i64) (h5:tAgg P c=some false) (h6:tSize P c=some 1) (em:Bool):(Instr.checkKey em 10000 kt (mKey p q)).run P w=.ok () w:=by
  have hp0:(part c #[.int .i64 p,.int .i64 q] 0).run P w=.ok (.int .i64 p) w:=PartR.one (v:=.int .i64 p) h5 rfl w
  have hp1:(part c #[.int .i64 p,.int .i64 q] 1).run P w=.ok (.int .i64 q) w:=PartR.one (v:=.int .i64 q) h5 rfl w
  have hc:∀ (v:Value),(Instr.checkKey em 9999 c v).run P w=.ok () w:=fun v=>by
    unfold Instr.checkKey
    simp only [Sem.run_bind,run_underlying (und_int h2),Result.andThen]
    rfl
  unfold Instr.checkKey mKey
  simp only [Sem.run_bind,run_underlying (und_arr h1),Result.andThen]
  simp [List.range',Sem.run_bind,run_sizeOf h6,hp0,hp1,hc,Result.andThen]
theorem run_eqKey {c:TypeId} {p' q':Int} (h1:tArr P kt=some (2,c)) (h2:tInt P c=some .i64) (h3:P.cellsOf c=1) (h4:(P.info? c).isSome=true) (h5:tAgg P c=some false):(Op.equal kt (mKey p q) (mKey p' q')).run P w=.ok (p == p'&&(q == q'&&true)) w:=by
  have hI:EqI P 9999 c 1 #[.int .i64 p,.int .i64 q] #[.int .i64 p',.int .i64 q'] [0,1] (p == p'&&(q == q'&&true)) :=
    EqI.cons (PartR.one (v:=.int .i64 p) h5 rfl) (PartR.one (v:=.int .i64 p') h5 rfl) (EqR.int h2) (EqI.cons (PartR.one (v:=.int .i64 q) h5 rfl) (PartR.one (v:=.int .i64 q') h5 rfl) (EqR.int h2) EqI.nil)
  have:=(EqR.arr (d:=9999) h1 h3 h4 hI) w
  simpa [Op.equal,Op.maxDepth,mKey] using this
def posM (p q:Int):List (Int × Int × Value)→Nat→Option (Nat × Int × Int × Value)
  | [],_=>none
  | x::t,i=>if p=x.1∧q=x.2.1 then some (i,x) else posM p q t (i+1)
theorem posM_some:∀ {tb:MTab} {i:Nat} {j:Nat × Int × Int × Value},posM p q tb i=some j→∃ m,j.1=i+m∧tb[m]? = some j.2∧j.2.1=p∧j.2.2.1=q
  | [],i,j,h=>by simp [posM] at h
  | x::t,i,j,h=>by
    simp only [posM] at h
    split at h
    · rename_i hx; simp only [Option.some.injEq] at h; subst h; exact ⟨0,rfl,rfl,hx.1.symm,hx.2.symm⟩
    · obtain ⟨m,h1,h2⟩:=posM_some h; exact ⟨m+1,by omega,by simpa using h2.1,h2.2⟩
theorem run_findAsk {c:TypeId} (h1:tArr P kt=some (2,c)) (h2:tInt P c=some .i64) (h3:P.cellsOf c=1) (h4:(P.info? c).isSome=true) (h5:tAgg P c=some false):∀ (es:List MapEntry) (tb:MTab) (i:Nat),
    es.map (fun x=>(x.key,x.val))=tb.map (fun t=>(mKey t.1 t.2.1,mVal t.2.2 (f t.1 t.2.1))) →
    (Instr.findAsking kt (mKey p q) es i).run P w=.ok ((posM p q tb i).map fun j=>(j.1,mVal j.2.2.2 (f p q))) w
  | [],[],i,_=>rfl
  | [],_::_,_,h=>by simp at h
  | _::_,[],_,h=>by simp at h
  | x::es,t::tb,i,h=>by
    simp only [List.map_cons,List.cons.injEq,Prod.mk.injEq] at h
    have ih:=run_findAsk h1 h2 h3 h4 h5 es tb (i+1) h.2
    simp only [Instr.findAsking,Sem.run_bind,h.1.1,run_eqKey h1 h2 h3 h4 h5,Result.andThen,Bool.and_true]
    by_cases hx:p=t.1∧q=t.2.1
    · obtain ⟨rfl,rfl⟩:=hx
      simp [posM,h.1.2]
    · have hb:(p == t.1&&q == t.2.1)=false:=by
        simp only [Bool.and_eq_false_iff,beq_eq_false_iff_ne,ne_eq]
        by_cases hp:p=t.1
        · exact .inr (fun hq=>hx ⟨hp,hq⟩)
        · exact .inl hp
      simp only [hb,Bool.false_eq_true,if_false,posM,hx]
      exact ih
theorem run_findMemo {c:TypeId} (h1:tArr P kt=some (2,c)) (h2:tInt P c=some .i64) (h3:P.cellsOf c=1) (h4:(P.info? c).isSome=true) (h5:tAgg P c=some false) {es:List MapEntry} {tb:MTab}
    (h:es.map (fun x=>(x.key,x.val))=tb.map (fun t=>(mKey t.1 t.2.1,mVal t.2.2 (f t.1 t.2.1)))) :
    (Instr.findKey kt (mKey p q) es).run P w=.ok ((posM p q tb 0).map fun j=>(j.1,mVal j.2.2.2 (f p q))) w:=by
  unfold Instr.findKey
  simp only [Sem.run_bind,run_underlying (und_arr h1),Result.andThen]
  match es,tb,h with
  | [],[],_=>rfl
  | x::es,t::tb,h =>
    simp only [List.map_cons,List.cons.injEq,Prod.mk.injEq] at h
    have:Instr.findNow (.array 2 c) (mKey p q) (x::es) 0=none:=by simp [Instr.findNow,Instr.sameNow]
    rw [this]
    exact run_findAsk h1 h2 h3 h4 h5 (x::es) (t::tb) 0 (by simp [h])
theorem St.memoLook (hS:St w0 w X B M) (hi:M[i]? = some (memoA e sz enc f b tb)) (ht:tMemo P t=some (kt,z)) (p q:Int) :
    (∃ v,(∃ x ∈ tb,x.2.2=v∧(f x.1 x.2.1).1=(f p q).1)∧(Instr.lookup t (.map (some b)) (mKey p q) true).run P w=.ok (.tuple #[mVal v (f p q),.bool true]) w) ∨
    (Instr.lookup t (.map (some b)) (mKey p q) true).run P w=.ok (.tuple #[z,.bool false]) w:=by
  obtain ⟨ee,c,g1,g2,g3,g4,g5,g6,g7,g8⟩:=tMemo_spec ht
  have h2:memoOK e sz enc f b tb (hp w):=hS.at_ hi
  obtain ⟨⟨es,cl,hb,hm⟩,hsl⟩:=h2
  have hb':w.heap[b]? = some (.map es cl):=hb
  have hL:∀ o,posM p q tb 0=o→(Instr.lookup t (.map (some b)) (mKey p q) true).run P w=(match o with | some j=>.ok (.tuple #[mVal j.2.2.2 (f p q),.bool true]) w | none=>.ok (.tuple #[z,.bool false]) w):=fun o ho=>by
    unfold Instr.lookup
    simp only [Sem.run_bind,run_underlying g1,Result.andThen,MapKept.run_getObj_map hb',Sem.run_pure,run_memoKey g2 g3 g7 g8,run_findMemo g2 g3 g5 g6 g7 hm,ho]
    cases o with
    | none=>simp only [Option.map_none,Sem.run_bind,run_zero g4,Result.andThen,Sem.run_pure]; rfl
    | some j=>rfl
  cases ho:posM p q tb 0 with
  | none=>exact .inr (hL _ ho)
  | some j =>
    obtain ⟨m,_,hm',h3,h4⟩:=posM_some ho
    exact .inl ⟨j.2.2.2,⟨j.2,List.mem_of_getElem? hm',rfl,by rw [h3,h4]⟩,hL _ ho⟩
theorem Z.lk {c:Bool} {kv:Value} (hx:ev L x=some u) (hy:ev L y=some kv) (h:(Instr.lookup t u kv c).run P w=.ok v w):RunV P n ds L (.lookup t x y c) ty w v w:=fun a d pos af g hf=>by
  simp only [execOp,hf.eval hx,hf.eval hy]
  exact run_v h
theorem St.inMemo (hS:St w0 w X B M) (h:∃ t ∈ tb,t.2.2=v∧(f t.1 t.2.1).1=l):St w0 w X B (memIn f tb v l::M):=hS.pushE (q:=memIn f tb v l) h (fun _ h=>h)
theorem O.makeMemo (e sz:Nat) (enc:T→List Value) (f:Int→Int→List T × Int × Int) (hf:Fr a n ds L) (hS:St w0 w X B M) (ho:ops[i]? = some ⟨some d,.makeMap t none,ty,pos,af,none⟩) (hd:Nat.blt d n=true)
    (k:∀ b w' a',St w0 w' X B (memoA e sz enc f b []::M)→Fr a' n ds ((d,.map (some b))::L)→O r P ops Q rest a' w'):O r P ops Q (i::rest) a w:=by
  refine O.val (w':=w.alloc (.map #[] 0)) hf ho rfl hd (v:=.map (some w.heap.size)) ?_ (fun a' hf'=>k _ _ a' ?_ hf')
  · intro a d pos af g hf
    simp only [execOp]
    exact run_v rfl
  · refine (hS.alloc (.map #[] 0)).conv (i:=0) (p:=pt w.heap.size (.map #[] 0)) (q:=memoA e sz enc f w.heap.size []) rfl (fun h=>⟨⟨#[],0,h,rfl⟩,by simp⟩) (fun b hb=>?_)
    rcases hb with hb | ⟨t,ht,_⟩
    · exact hb
    · simp at ht
theorem O.memoPut {v1 v2:Int} (hf:Fr a n ds L) (hS:St w0 w X B (slE e sz enc v l::memoA e sz enc f b tb::M)) (ho:ops[i]? = some ⟨none,.mapUpdate t x y zz,ty,pos,af,none⟩) (ht:tMemo P t=some (kt,z)) (hx:ev L x=some (.map (some b)))
    (hy:ev L y=some (.agg #[.int .i64 p,.int .i64 q])) (hz:ev L zz=some (.agg #[v,.int .i64 v1,.int .i64 v2])) (hfx:f p q=(l,v1,v2))
    (k:∀ tb' w',St w0 w' X B (memIn f tb' v l::memoA e sz enc f b tb'::M)→O r P ops Q rest a w'):O r P ops Q (i::rest) a w:=by
  obtain ⟨ee,c,g1,g2,g3,g4,g5,g6,g7,g8⟩:=tMemo_spec ht
  have hsl:slOK (hp w) e sz v l.length (encs enc l):=hS.at_ (i:=0) rfl
  have h2:memoOK e sz enc f b tb (hp w):=hS.at_ (i:=1) rfl
  obtain ⟨⟨es,cl,hb,hm⟩,hall⟩:=h2
  have hb':w.heap[b]? = some (.map es cl):=hb
  have hat:∀ es' c',hp (putMap w b es' c') b=some (.map es' c'):=fun es' c'=>Array.getElem?_setIfInBounds_self_of_lt (Array.getElem?_eq_some_iff.1 hb').1
  have hne:∀ es' c' k,k≠b→hp (putMap w b es' c') k=hp w k:=fun es' c' k hk=>by
    simp only [hp,SL.putMap]; exact Array.getElem?_setIfInBounds_ne (fun e=>hk e.symm)
  have hdisj:∀ k,v.ownBlock=some k→¬ (k=b∨∃ t ∈ tb,t.2.2.ownBlock=some k):=fun k hk=>hS.sep.disj (i:=0) (j:=1) rfl rfl (by decide) k hk
  have hmap:∀ x:Int × Int × Value,x ∈ tb→x.2.2.ownBlock≠some b:=fun x hx hxb=>by
    have h3:=hall x hx
    rcases h3.2 with ⟨h4,_⟩ | ⟨g,cap,cur,h4,h5,_⟩
    · rw [h4] at hxb; simp [Value.ownBlock] at hxb
    · rw [h4] at hxb
      simp only [Value.ownBlock,Option.some.injEq] at hxb
      subst hxb
      rw [hb] at h5; simp at h5
  have hkeep:∀ es' c' (x:Value) (k:Nat) (xs:List Value),x.ownBlock≠some b→slOK (hp w) e sz x k xs→slOK (hp (putMap w b es' c')) e sz x k xs:=fun es' c' x k xs hx h3 =>
    (sl e sz x k xs).loc _ _ (fun g hg=>hne es' c' g (fun e=>hx (by subst e; exact hg))) h3
  have hvb:v.ownBlock≠some b:=fun h=>hdisj b h (.inl rfl)
  have key:∃ es' c' tb',(Instr.mapUpdate t (.map (some b)) (mKey p q) (mVal v (l,v1,v2))).run P w=.ok () (putMap w b es' c')∧memoOK e sz enc f b tb' (hp (putMap w b es' c'))∧(∀ x ∈ tb',x=(p,q,v)∨x ∈ tb)∧(p,q,v) ∈ tb':=by
    have hL:=run_findMemo (P:=P) (p:=p) (q:=q) (w:=w) g2 g3 g5 g6 g7 hm
    cases ho:posM p q tb 0 with
    | none =>
      rw [ho] at hL
      refine ⟨es.push { key:=mKey p q,val:=mVal v (l,v1,v2),born:=cl },cl+1,tb++[(p,q,v)],?_,⟨⟨_,_,hat _ _,?_⟩,fun x hx=>?_⟩,fun x hx=>?_,by simp⟩
      · unfold Instr.mapUpdate
        simp only [Sem.run_bind,run_underlying g1,Result.andThen,MapKept.run_getObj_map hb',run_memoKey g2 g3 g7 g8,hL,Option.map_none,MapKept.run_setObj_map _ hb']
        rfl
      · simp [hm,hfx]
      · rcases List.mem_append.1 hx with hx | hx
        · exact hkeep _ _ _ _ _ (hmap x hx) (hall x hx)
        · simp only [List.mem_singleton] at hx
          subst hx
          simp only [hfx]
          exact hkeep _ _ _ _ _ hvb hsl
      · rcases List.mem_append.1 hx with hx | hx
        · exact .inr hx
        · simp only [List.mem_singleton] at hx; exact .inl hx
    | some j =>
      rw [ho] at hL
      obtain ⟨m,hj,hm',hp',hq'⟩:=posM_some ho
      obtain ⟨j1,j2⟩:=j
      simp only [Nat.zero_add] at hj hm' hp' hq'
      subst hj
      have hml:j1<tb.length:=(List.getElem?_eq_some_iff.1 hm').1
      have hsz:es.size=tb.length:=by have:=congrArg List.length hm; simpa using this
      have hen:∃ en,es[j1]? = some en∧en.key=mKey p q:=by
        have h1:(es.toList.map (fun x=>(x.key,x.val)))[j1]? = some (mKey j2.1 j2.2.1,mVal j2.2.2 (f j2.1 j2.2.1)):=by rw [hm,List.getElem?_map,hm']; rfl
        rw [List.getElem?_map,Option.map_eq_some_iff] at h1
        obtain ⟨en,he,h2⟩:=h1
        simp only [Prod.mk.injEq] at h2
        exact ⟨en,by simpa using he,by rw [h2.1,hp',hq']⟩
      obtain ⟨en,hen,henk⟩:=hen
      refine ⟨es.modify j1 fun x=>{ x with key:=mKey p q,val:=mVal v (l,v1,v2) },cl,tb.set j1 (p,q,v),?_,⟨⟨_,_,hat _ _,?_⟩,fun x hx=>?_⟩,fun x hx=>?_,?_⟩
      · unfold Instr.mapUpdate
        simp only [Sem.run_bind,run_underlying g1,Result.andThen,MapKept.run_getObj_map hb',run_memoKey g2 g3 g7 g8,hL,Option.map_some,hen,henk,Option.getD_some,Instr.keyThatStays]
        have:Instr.sameBits 10000 (mKey p q) (mKey p q)=true:=by simp [Instr.sameBits,mKey]
        simp only [this,if_true,Sem.run_pure,MapKept.run_setObj_map _ hb']
        rfl
      · apply List.ext_getElem?
        intro s
        have hms:(es.toList.map (fun x=>(x.key,x.val)))[s]? = (tb.map fun t=>(mKey t.1 t.2.1,mVal t.2.2 (f t.1 t.2.1)))[s]?:=by rw [hm]
        simp only [List.getElem?_map,Array.getElem?_toList] at hms
        simp only [List.getElem?_map,Array.getElem?_toList,Array.getElem?_modify,List.getElem?_set]
        by_cases hs:j1=s
        · subst hs
          simp [hen,hml,hfx]
        · simp only [hs,if_false]; exact hms
      · rcases List.mem_or_eq_of_mem_set hx with hx | hx
        · exact hkeep _ _ _ _ _ (hmap x hx) (hall x hx)
        · subst hx
          simp only [hfx]
          exact hkeep _ _ _ _ _ hvb hsl
      · rcases List.mem_or_eq_of_mem_set hx with hx | hx
        · exact .inr hx
        · exact .inl hx
      · exact List.mem_iff_getElem?.2 ⟨j1,by rw [List.getElem?_set_self hml]⟩
  obtain ⟨es',c',tb',hr,hok,hsub,hin⟩:=key
  refine O.unit (w':=putMap w b es' c') hf ho rfl ?_ (k tb' _ ?_)
  · intro a d pos af g hf
    simp only [execOp,hf.eval hx,hf.eval hy,hf.eval hz]
    exact run_u hr
  ·
    have hbl:=(hS.sep.get (i:=1) rfl).2 b (.inl rfl)
    have hfp:∀ k,(memoA e sz enc f b tb').fp k→v.ownBlock=some k∨(memoA e sz enc f b tb).fp k:=fun k hk=>by
      rcases hk with hk | ⟨x,hx,hxk⟩
      · exact .inr (.inl hk)
      · rcases hsub x hx with rfl | hx
        · exact .inl hxk
        · exact .inr (.inr ⟨x,hx,hxk⟩)
    have hsep:=hS.sep
    have hM2:=hsep.2.2
    have hlt:∀ k,(v.ownBlock=some k∨(memoA e sz enc f b tb).fp k)→k<w.heap.size∧(X k∨w0.heap.size≤k):=fun k hk=>by
      rcases hk with hk | hk
      · exact (hsep.get (i:=0) rfl).2 k hk
      · exact (hsep.get (i:=1) rfl).2 k hk
    have hapart:∀ p ∈ M,∀ k,p.fp k→k≠b:=fun p hp k hk e=>by
      subst e
      exact hsep.2.1.2.2 p hp _ (.inl rfl) hk
    refine ⟨hS.os,hS.tape,hS.output,by simpa [SL.putMap] using hS.size,fun k hk hX=>?_,?_,hS.bor⟩
    · have:k≠b:=fun e=>by
        subst e
        rcases hbl.2 with h | h
        · exact hX h
        · omega
      exact (hne es' c' k this).trans (hS.old k hk hX)
    · refine ⟨⟨⟨(p,q,v),hin,rfl,by rw [hfx]⟩,fun _ h=>h.elim,fun _ _ _ h=>h.elim⟩,⟨hok,fun k hk=>?_,fun p hp k hk hpk=>?_⟩,?_⟩
      · have:=hlt k (hfp k hk)
        simpa [SL.putMap] using this
      · rcases hfp k hk with h | h
        · exact hsep.1.2.2 p (List.mem_cons_of_mem _ hp) _ h hpk
        · exact hsep.2.1.2.2 p hp _ h hpk
      · refine Sep.weak hM2 (fun p hp k hk=>hne es' c' k (hapart p hp k hk)) (by simp [SL.putMap]) (fun _ _ h=>h)
end
end Go.SL
