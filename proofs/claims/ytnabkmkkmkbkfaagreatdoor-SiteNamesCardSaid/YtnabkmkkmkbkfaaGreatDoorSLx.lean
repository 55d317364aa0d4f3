/- Part of a proof: laws. -/
import Derived.Test.YtnabkmkkmkbkfaaGreatDoorSL29
import Derived.Test.YtnabkmkkmkbkfaaGreatDoorSL30
set_option linter.unusedVariables false
set_option linter.unusedSimpArgs false
namespace Go.SL
open Go
def sget (ins:List Bool) (k:Int):Bool:=if k<0 then false else ins.getD k.toNat false
section
variable {r:Option Nat} {P:Program} {ops:Array Oper} {Q:Exit→Act→World→Prop} {a:Act} {w w0:World} {n:Nat} {ds:List Deferred} {L:List (Nat × Value)} {X:Nat→Prop} {B M M':List Asr}
  {d i j b:Nat} {ty t kt:TypeId} {pos:String} {af:Array Edge} {rest:List Nat} {x y z:Operand} {ins:List Bool} {k:Int}
end
end Go.SL

namespace Go.SL
open Go
section
variable {r:Option Nat} {P:Program} {ops:Array Oper} {Q:Exit→Act→World→Prop} {a:Act} {w w0:World} {n n':Nat} {ds:List Deferred} {L:List (Nat × Value)} {X:Nat→Prop} {B M M':List Asr}
  {d i j b:Nat} {op:Op} {ty t e:TypeId} {pos:String} {af:Array Edge} {rest:List Nat} {x y z:Operand} {f:FuncId}
theorem O.callI {R:Value→World→Prop} {fn:Func} {c:Code} {lv:List Value} (hf:Fr a n ds L) (ho:ops[i]? = some ⟨some d,op,ty,pos,af,none⟩) (hnd:noDefer op=true) (hd:Nat.blt d n=true)
    (hr:RunE P n ds L op ty w f lv.toArray) (hfn:P.funcs[f]? = some fn) (hb:fn.body=some c) (hn:fn.ntmps=n') (hl:Nat.ble lv.length n'=true)
    (h:∀ a,Fr a n' [] (argsL 0 lv)→W none P c (bodyPost P fn (fun e w'=>∃ v,e=.returned v∧R v w')) a w)
    (k:∀ v w',R v w'→∀ a',Fr a' n ds ((d,v)::L)→O r P ops Q rest a' w'):O r P ops Q (i::rest) a w :=
  O.call hf ho hnd hd hr (calls_of_W hfn hb hn hl h) k
def Exit.stl (Q:Exit→Act→World→Prop):Exit→Act→World→Prop
  | .goto _,_,_=>False
  | e,a,w=>Q e a w
theorem stepS_scope {P:Program} {b:Frame} {a:Act} {k:List Item} {cs:List Frame} {w:World} {c:Code}:step P (lone (b.atR a (.code (.scope c)::k)) cs w)=.next (lone (b.atR a (.code c::.inScope c::k)) cs w) :=
  step_lone_go (by simp [stepG,stepG.exec,Frame.atR])
theorem stepS_inScope {P:Program} {b:Frame} {a:Act} {k:List Item} {cs:List Frame} {w:World} {c:Code}:step P (lone (b.atR a (.inScope c::k)) cs w)=.next (lone (b.atR a k) cs w) :=
  step_lone_go (by simp [stepG,stepG.exec,Frame.atR])
theorem k_stl_ret (h:Q .ret a w):Exit.stl Q .ret a w:=h
theorem Z.sliceArr {len sz o m:Nat} {lo:Operand} {k:IntKind} {p:Nat} (ha:tArr P t=some (len,e)) (hs:tSize P e=some sz) (hx:ev L x=some (.pointer (some ⟨b,o,none⟩))) (hl:ev L lo=some (.int k (p:Int))) (hp:Nat.blt p len=true) (hm:o+p*sz=m) :
    RunV P n ds L (.slice t x (some lo) none none) ty w (.slice (some ⟨b,m,none⟩) (len-p) (len-p)) w:=fun a d pos af g hf=>by
  have hu:=run_underlying (w:=w) (und_arr ha)
  have hp:=Nat.le_of_ble_eq_true hp
  simp only [execOp,hf.eval hx,Option.map_some,Option.map_none,hf.eval hl]
  refine run_v ?_
  subst hm
  have h0:(0:Int)≤(p:Int)∧(p:Int)≤(len:Int):=⟨by omega,by omega⟩
  have hsz:=run_sizeOf (w:=w) hs
  have e1:(if len=p then (⟨b,o,none⟩:Addr) else Addr.add ⟨b,o,none⟩ (p*sz))=⟨b,o+p*sz,none⟩:=by
    rw [if_neg (by omega)]
    exact add_none _ _ _
  simp only [Instr.sliceAt,Instr.sureAddr,Instr.sliceBounds,Instr.sliceBound,asIntOf,Sem.run_bind,Sem.run_pure,Result.andThen,hu,Int.toNat_natCast,hsz,if_pos h0,Bool.false_eq_true,if_false,Option.isSome_none,e1]
end
end Go.SL

namespace Go.SL
open Go
section
variable {r:Option Nat} {P:Program} {ops:Array Oper} {Q:Exit→Act→World→Prop} {a:Act} {w w0:World} {n:Nat} {ds:List Deferred} {L:List (Nat × Value)} {X:Nat→Prop} {B M:List Asr}
theorem obC {i d j m len:Nat} {t ty e:TypeId} {rest:List Nat} {pos:String} {af:Array Edge} {z:Value} {c:Bool} {p:Asr} {parts:Array (Nat × Operand)} {vs:List (Nat × Value)} {cs' zs:Array Value}
    (hf:Fr a n ds L) (hS:St w0 w X B M) (hj:M[j]? = some (condA c p)) (hc:c=false) (ho:ops[i]? = some ⟨some d,.buildSlice t len parts,ty,pos,af,none⟩) (hd:Nat.blt d n=true)
    (he:tElem P t=some e) (hs:tSize P e=some m) (hz:tZero P e=some z) (h0:Nat.ble (len*m) 16777216=true) (h1:Nat.blt 0 (len*m)=true) (hzs:((List.range (len*m)).map (z.cells[· % z.cells.size]!)).toArray=zs)
    (hv:evP L parts.toList=some vs) (hb:Instr.fill (fun i=>some (i*m,m)) zs vs=some cs')
    (k:∀ b w' a',St w0 w' X B (M.set j (pt b (.cells cs' e (0,0))))→Fr a' n ds ((d,.slice (some ⟨b,0,none⟩) len len)::L)→O r P ops Q rest a' w'):O r P ops Q (i::rest) a w:=by
  refine O.buildSlice hf hS ho hd he hs hz h0 h1 hzs hv hb (fun b w' a' hb hS' hf'=>k b w' a' ?_ hf')
  subst hc
  have h1:=hS'.sep
  obtain ⟨hjl,hje⟩:=List.getElem?_eq_some_iff.1 hj
  refine ⟨hS'.os,hS'.tape,hS'.output,hS'.size,hS'.old,?_,hS'.bor⟩
  have hp:=h1.1
  have hM:=h1.2
  clear h1 hS hS' k hf hf' ho
  revert j
  induction M with
  | nil=>intro j hj hjl _; simp at hj
  | cons q t ih =>
    intro j hj hjl hje
    cases j with
    | zero =>
      simp only [List.set_cons_zero]
      exact ⟨⟨hp.1,hp.2.1,fun s hs=>hp.2.2 s (by simp [hs])⟩,hM.2⟩
    | succ j =>
      simp only [List.set_cons_succ]
      have h2:=ih ⟨hp.1,hp.2.1,fun s hs=>hp.2.2 s (by simp [hs])⟩ hM.2 (j:=j) (by simpa using hj) (by simpa using hjl) (by simpa using hje)
      refine ⟨⟨hM.1.1,hM.1.2.1,fun s hs b' hb' hsb=>?_⟩,h2⟩
      rcases List.mem_or_eq_of_mem_set hs with h3 | h3
      · exact hM.1.2.2 s h3 b' hb' hsb
      · subst h3
        exact hp.2.2 q (by simp) b' hsb hb'
end
section
variable {r:Option Nat} {P:Program} {ops:Array Oper} {Q:Exit→Act→World→Prop} {a:Act} {w w0:World} {n:Nat} {ds:List Deferred} {γ:Type} {X:Nat→Prop} {B M:List Asr}
theorem W.drawK {id:Nat} {L0 L1:List (Nat × Value)} (g0:γ) (mk al qs:List Nat) (pl ma af ol:Nat→List Nat) (lov hiv:Nat→Nat) (val:γ→Nat→Value) (D:Nat→(Nat→Bool)→γ→World→Prop)
    (hmo:P.follows .mixedOrders=true)
    (hk:((mk++al++qs).all (fun i=>(mk.take (lov i)++ma i) == mk.take (lov i)++ma i&&(mk.drop (hiv i)) == mk.drop (hiv i)&&(ma i).all al.contains&&Nat.ble (lov i) mk.length)&&(List.range mk.length).all (fun j=>Nat.beq (lov (mk.getD j 0)) j&&!al.contains (mk.getD j 0)&&(List.range j).all fun t=>!Nat.beq (mk.getD t 0) (mk.getD j 0))&&(ordB ops&&ops.all (fun o=>noDefer o.op)&&distinctDst ops (baseKeys L0)&&(List.range ops.size).all (fun i=>(qs.contains i||(mk++al).contains i)&&(pl i).all (fun p=>(predsAt ops i).contains p)&&((mk.take (lov i)++ma i)).all (fun p=>((mkBm ops).getD i []).contains p&&(mk++al).contains p)&&((mk.drop (hiv i))).all (fun j=>((mkBm ops).getD j []).contains i)&&(ol i).all (oldOK ops L1 i))&&(mk++al).all (fun i=>Nat.blt i ops.size)
      && vBm ops (mkBm ops)&&(mk++al).all (fun i=>(af i).all fun j=>((mkBm ops).getD j []).contains i)&&qs.all (fun i=>!(mk++al).contains i)))=true)
    (hf:Fr a n ds L0) (hf1:Fr a n ds L1) (h0:D 0 (fun _=>false) g0 w.drew)
    (hq:Obl (fun i=>∀ k s g w,lov i≤k→k≤hiv i→(∀ p ∈ ma i,s p=true)→D k s g w→∀ a,Fr a n ds (slotsOf ops (val g) (pl i) (oldL L1 (ol i) L0))→O r P ops (fun e a' w'=>e=.normal∧Fr a' n ds []∧(∀ d,dstOf ops i=some d→a'.tmps[d]? = some (val g i))∧D k s g w') [i] a w) qs)
    (hm:Stages (fun k i=>∀ s g w,(∀ p ∈ ma i,s p=true)→D k s g w→∀ a,Fr a n ds (slotsOf ops (val g) (pl i) (oldL L1 (ol i) L0))→O r P ops (fun e a' w'=>e=.normal∧∃ g',Fr a' n ds []∧(∀ d,dstOf ops i=some d→a'.tmps[d]? = some (val g' i))∧(∀ j,j≠i→(af i).contains j=false→val g' j=val g j)∧D (k+1) s g' w') [i] a w) 0 mk)
    (ha:Obl (fun i=>∀ k s g w,lov i≤k→k≤hiv i→s i=false→D k s g w→∀ a,Fr a n ds (slotsOf ops (val g) (pl i) (oldL L1 (ol i) L0))→O r P ops (fun e a' w'=>e=.normal∧∃ g',Fr a' n ds []∧(∀ d,dstOf ops i=some d→a'.tmps[d]? = some (val g' i))∧(∀ j,j≠i→(af i).contains j=false→val g' j=val g j)∧D k (upd s i) g' w') [i] a w) al)
    (hend:∀ s g a w,(∀ i ∈ al,s i=true)→Fr a n ds (slotsOf ops (val g) (List.range ops.size) L0)→D mk.length s g w→Q .normal a w):W r P (.region id ops true) Q a w:=by
  simp only [Bool.and_eq_true] at hk
  obtain ⟨⟨k1,k2⟩,k3⟩:=hk
  exact W.drawC g0 mk al qs pl (fun i=>mk.take (lov i)++ma i) (fun i=>mk.drop (hiv i)) ma af ol lov hiv val D hmo (by simpa only [Bool.and_eq_true] using k1) (by simpa only [Bool.and_eq_true] using k2) (by simpa only [Bool.and_eq_true] using k3) hf hf1 h0 hq hm ha hend
theorem oj {T:Type} {x y:T} (h:some x=some y):x=y:=Option.some.inj h
def Lq (v:Nat→Value) (i:Nat) (l:List Nat) (N:Nat):List Value:=(List.range N).map fun j=>match Nat.beq j i||l.contains j with
  | true=>undef
  | false=>v j
theorem jl {v v':Nat→Value} {i:Nat} {l:List Nat} (N:Nat) (h:Lq v' i l N=Lq v i l N) (ht:∀ j,v' (j+N)=v (j+N)) (j:Nat) (hj:j≠i) (hk:l.contains j=false):v' j=v j:=by
  by_cases hN:j<N
  · have h1:(Lq v' i l N)[j]? = (Lq v i l N)[j]?:=by rw [h]
    have hb:(Nat.beq j i||l.contains j)=false:=by
      rw [hk,Bool.or_false]
      cases hh:Nat.beq j i with
      | false=>rfl
      | true=>exact absurd (Nat.eq_of_beq_eq_true hh) hj
    simp only [Lq,List.getElem?_map,List.getElem?_range hN,Option.map_some,hb] at h1
    exact Option.some.inj h1
  · have:=ht (j-N)
    rwa [Nat.sub_add_cancel (by omega)] at this
theorem nE {γ:Type} {L:List (Nat × Value)} {v:γ→Value} {i:Nat} {C2:γ→Prop} {D:γ→World→Prop} (q:Nat) (hf:Fr a n ds L) (g:γ) (hd:dstOf ops i=some q) (hv:lk L q=some (v g)) (h2:C2 g) (h3:D g w):O r P ops (fun e a' w'=>e=.normal∧∃ g',Fr a' n ds []∧(∀ d,dstOf ops i=some d→a'.tmps[d]? = some (v g'))∧C2 g'∧D g' w') [] a w :=
  O.nil ⟨rfl,g,hf.to trivial,gt (d:=q) hf hd hv,h2,h3⟩
theorem St.cz {X':Nat→Prop} {N R1 R:List Asr} {pp:Asr} {w':World} (hS:St w0 w X B M) (hc:St w w' X' [] N) (i:Nat) [h:Del i M pp R1] (hX:∀ b,X' b→pp.fp b) [h2:App N R1 R]:St w0 w' X B R:=by
  have:=hS.callX1 hc h.get hX
  rw [h.eq,h2.eq] at this
  exact this
end
end Go.SL

namespace Go.SL
open Go
section
variable {P:Program} {w w0:World} {n:Nat} {ds:List Deferred} {L:List (Nat × Value)} {ty t t':TypeId} {x y:Operand} {X:Nat→Prop} {B M:List Asr} {s1 s2:ByteArray}
theorem Z.neStr (hx:ev L x=some (.string s1)) (hy:ev L y=some (.string s2)):RunV P n ds L (.binOp .neq t x y t') ty w (.bool (!(s1.data.toList == s2.data.toList))) w:=fun a d pos af g hf=>by
  simp only [execOp,hf.eval hx,hf.eval hy]
  have e1:(eqGuard .neq t x y (.string s1) (.string s2)).run P w=.ok () w:=by simp [eqGuard]
  have e2:(binOp .neq t (.string s1) (.string s2)).run P w=.ok (.bool (!(s1.data.toList == s2.data.toList))) w:=by
    simp [binOp,Op.stringOp,ByteArray.toList_eq]
  simp only [Sem.run_bind,e1,e2,Result.andThen_ok,Sem.run_pure]
end
section
variable {r:Option Nat} {P:Program} {Q:Exit→Act→World→Prop} {a:Act} {w:World}
def Exit.jmp (l:Nat) (J:Act→World→Prop) (Q:Exit→Act→World→Prop):Exit→Act→World→Prop
  | .goto l',a,w=>l'=l∧J a w
  | e,a,w=>Q e a w
theorem W.scopeU {c rest:Code} {l:Nat} (hl:findLabel c l=some rest) (h:W r P c (Exit.jmp l (fun a w=>W r P rest (Exit.stl Q) a w) Q) a w):W r P (.scope c) Q a w:=by
  intro b k cs hro hb hr
  have h0:(lone (b.atR a (.code (.scope c)::k)) cs w).fenced P (FW r):=fenced_calm hb hr rfl
  have hx:∀ id,exitTo id (.inScope c::k)=exitTo id k:=fun id=>by simp [exitTo]
  have hg:gotoIn l (.inScope c::k)=some (.code rest::.inScope c::k):=by simp [gotoIn,hl]
  obtain ⟨e,a₁,w₁,hq,harr⟩:=h b (.inScope c::k) cs hro hb hr
  cases e with
  | normal=>exact ⟨.normal,a₁,w₁,hq,.head h0 stepS_scope (StepsIn.trans harr (.one (fenced_calm hb hr rfl) stepS_inScope))⟩
  | exit id =>
    exact ⟨.exit id,a₁,w₁,hq,fun k' hk=>.head h0 stepS_scope (harr.1 k' (by rw [hx]; exact hk)),
      fun hr' hk=>let ⟨k₁,h1,h2⟩:=harr.2 hr' (by rw [hx]; exact hk); ⟨k₁,h1,.head h0 stepS_scope h2⟩⟩
  | goto l' =>
    obtain ⟨rfl,hJ⟩:=hq
    have hgo:StepsIn (Machine.fenced P (FW r)) P (lone (b.atR a (.code (.scope c)::k)) cs w) (lone (b.atR a₁ (.code rest::.inScope c::k)) cs w₁):=.head h0 stepS_scope (harr.1 _ hg)
    obtain ⟨e,a₂,w₂,hq,harr⟩:=hJ b (.inScope c::k) cs hro hb hr
    cases e with
    | normal=>exact ⟨.normal,a₂,w₂,hq,StepsIn.trans hgo (StepsIn.trans harr (.one (fenced_calm hb hr rfl) stepS_inScope))⟩
    | exit id =>
      exact ⟨.exit id,a₂,w₂,hq,fun k' hk=>StepsIn.trans hgo (harr.1 k' (by rw [hx]; exact hk)),
        fun hr' hk=>let ⟨k₁,h1,h2⟩:=harr.2 hr' (by rw [hx]; exact hk); ⟨k₁,h1,StepsIn.trans hgo h2⟩⟩
    | goto l=>exact hq.elim
    | ret=>exact ⟨_,a₂,w₂,hq,.of_steps hgo harr⟩
    | panic ch=>exact ⟨_,a₂,w₂,hq,.of_steps hgo harr⟩
    | outgrown=>exact ⟨_,a₂,w₂,hq,.of_steps hgo harr⟩
  | ret=>exact ⟨_,a₁,w₁,hq,.of_steps (.one h0 stepS_scope) harr⟩
  | panic ch=>exact ⟨_,a₁,w₁,hq,.of_steps (.one h0 stepS_scope) harr⟩
  | outgrown=>exact ⟨_,a₁,w₁,hq,.of_steps (.one h0 stepS_scope) harr⟩
variable {l:Nat} {J:Act→World→Prop}
theorem k_jmp_goto (h:J a w):Exit.jmp l J Q (.goto l) a w:=⟨rfl,h⟩
theorem k_jmp_ret (h:Q .ret a w):Exit.jmp l J Q .ret a w:=h
end
end Go.SL
