/- Part of a proof: laws. -/
import Derived.Test.YtfaflenaajafgaaGreatDoorSL29
import Derived.Test.YtfaflenaajafgaaGreatDoorSL30
import Derived.Test.YtfaflenaajafgaaGreatDoorSL27
set_option linter.unusedVariables false
set_option linter.unusedSimpArgs false
namespace Go.SL
open Go
def sget (ins:List Bool) (k:Int):Bool:=if k<0 then false else ins.getD k.toNat false
section
variable {r:Option Nat} {P:Program} {ops:Array Oper} {Q:Exit→Act→World→Prop} {a:Act} {w w0:World} {n:Nat} {ds:List Deferred} {L:List (Nat × Value)} {X:Nat→Prop} {B M M':List Asr}
  {d i j b:Nat} {ty t kt:TypeId} {pos:String} {af:Array Edge} {rest:List Nat} {x y z:Operand} {ins:List Bool} {k:Int}
end
end Go.SL

namespace Go.SL
open Go
section
variable {r:Option Nat} {P:Program} {ops:Array Oper} {Q:Exit→Act→World→Prop} {a:Act} {w w0:World} {n n':Nat} {ds:List Deferred} {L:List (Nat × Value)} {X:Nat→Prop} {B M M':List Asr}
  {d i j b:Nat} {op:Op} {ty t e:TypeId} {pos:String} {af:Array Edge} {rest:List Nat} {x y z:Operand} {f:FuncId}
theorem O.callI {R:Value→World→Prop} {fn:Func} {c:Code} {lv:List Value} (hf:Fr a n ds L) (ho:ops[i]? = some ⟨some d,op,ty,pos,af,none⟩) (hnd:noDefer op=true) (hd:Nat.blt d n=true)
    (hr:RunE P n ds L op ty w f lv.toArray) (hfn:P.funcs[f]? = some fn) (hb:fn.body=some c) (hn:fn.ntmps=n') (hl:Nat.ble lv.length n'=true)
    (h:∀ a,Fr a n' [] (argsL 0 lv)→W none P c (bodyPost P fn (fun e w'=>∃ v,e=.returned v∧R v w')) a w)
    (k:∀ v w',R v w'→∀ a',Fr a' n ds ((d,v)::L)→O r P ops Q rest a' w'):O r P ops Q (i::rest) a w :=
  O.call hf ho hnd hd hr (calls_of_W hfn hb hn hl h) k
def Exit.stl (Q:Exit→Act→World→Prop):Exit→Act→World→Prop
  | .goto _,_,_=>False
  | e,a,w=>Q e a w
theorem stepS_scope {P:Program} {b:Frame} {a:Act} {k:List Item} {cs:List Frame} {w:World} {c:Code}:step P (lone (b.atR a (.code (.scope c)::k)) cs w)=.next (lone (b.atR a (.code c::.inScope c::k)) cs w) :=
  step_lone_go (by simp [stepG,stepG.exec,Frame.atR])
theorem stepS_inScope {P:Program} {b:Frame} {a:Act} {k:List Item} {cs:List Frame} {w:World} {c:Code}:step P (lone (b.atR a (.inScope c::k)) cs w)=.next (lone (b.atR a k) cs w) :=
  step_lone_go (by simp [stepG,stepG.exec,Frame.atR])
theorem wsc {c:Code} (h:W r P c (Exit.stl Q) a w):W r P (.scope c) Q a w:=by
  intro b k cs hro hb hr
  have h0:(lone (b.atR a (.code (.scope c)::k)) cs w).fenced P (FW r):=fenced_calm hb hr rfl
  obtain ⟨e,a₁,w₁,hq,harr⟩:=h b (.inScope c::k) cs hro hb hr
  cases e with
  | normal=>exact ⟨.normal,a₁,w₁,hq,.head h0 stepS_scope (StepsIn.trans harr (.one (fenced_calm hb hr rfl) stepS_inScope))⟩
  | exit id =>
    have hx:exitTo id (.inScope c::k)=exitTo id k:=by simp [exitTo]
    exact ⟨.exit id,a₁,w₁,hq,fun k' hk=>.head h0 stepS_scope (harr.1 k' (by rw [hx]; exact hk)),
      fun hr' hk=>let ⟨k₁,h1,h2⟩:=harr.2 hr' (by rw [hx]; exact hk); ⟨k₁,h1,.head h0 stepS_scope h2⟩⟩
  | goto l=>exact hq.elim
  | ret=>exact ⟨_,a₁,w₁,hq,.of_steps (.one h0 stepS_scope) harr⟩
  | panic ch=>exact ⟨_,a₁,w₁,hq,.of_steps (.one h0 stepS_scope) harr⟩
  | outgrown=>exact ⟨_,a₁,w₁,hq,.of_steps (.one h0 stepS_scope) harr⟩
theorem k_stl_ret (h:Q .ret a w):Exit.stl Q .ret a w:=h
theorem Z.sliceArr {len sz o m:Nat} {lo:Operand} {k:IntKind} {p:Nat} (ha:tArr P t=some (len,e)) (hs:tSize P e=some sz) (hx:ev L x=some (.pointer (some ⟨b,o,none⟩))) (hl:ev L lo=some (.int k (p:Int))) (hp:Nat.blt p len=true) (hm:o+p*sz=m) :
    RunV P n ds L (.slice t x (some lo) none none) ty w (.slice (some ⟨b,m,none⟩) (len-p) (len-p)) w:=fun a d pos af g hf=>by
  have hu:=run_underlying (w:=w) (und_arr ha)
  have hp:=Nat.le_of_ble_eq_true hp
  simp only [execOp,hf.eval hx,Option.map_some,Option.map_none,hf.eval hl]
  refine run_v ?_
  subst hm
  have h0:(0:Int)≤(p:Int)∧(p:Int)≤(len:Int):=⟨by omega,by omega⟩
  have hsz:=run_sizeOf (w:=w) hs
  have e1:(if len=p then (⟨b,o,none⟩:Addr) else Addr.add ⟨b,o,none⟩ (p*sz))=⟨b,o+p*sz,none⟩:=by
    rw [if_neg (by omega)]
    exact add_none _ _ _
  simp only [Instr.sliceAt,Instr.sureAddr,Instr.sliceBounds,Instr.sliceBound,asIntOf,Sem.run_bind,Sem.run_pure,Result.andThen,hu,Int.toNat_natCast,hsz,if_pos h0,Bool.false_eq_true,if_false,Option.isSome_none,e1]
end
end Go.SL

namespace Go.SL
open Go
section
variable {r:Option Nat} {P:Program} {ops:Array Oper} {Q:Exit→Act→World→Prop} {a:Act} {w w0:World} {n:Nat} {ds:List Deferred} {L:List (Nat × Value)} {X:Nat→Prop} {B M:List Asr}
end
section
variable {r:Option Nat} {P:Program} {ops:Array Oper} {Q:Exit→Act→World→Prop} {a:Act} {w w0:World} {n:Nat} {ds:List Deferred} {γ:Type} {X:Nat→Prop} {B M:List Asr}
theorem W.drawK {id:Nat} {L0 L1:List (Nat × Value)} (g0:γ) (mk al qs:List Nat) (pl ma af ol:Nat→List Nat) (lov hiv:Nat→Nat) (val:γ→Nat→Value) (D:Nat→(Nat→Bool)→γ→World→Prop)
    (hmo:P.follows .mixedOrders=true)
    (hk:((mk++al++qs).all (fun i=>(mk.take (lov i)++ma i) == mk.take (lov i)++ma i&&(mk.drop (hiv i)) == mk.drop (hiv i)&&(ma i).all al.contains&&Nat.ble (lov i) mk.length)&&(List.range mk.length).all (fun j=>Nat.beq (lov (mk.getD j 0)) j&&!al.contains (mk.getD j 0)&&(List.range j).all fun t=>!Nat.beq (mk.getD t 0) (mk.getD j 0))&&(ordB ops&&ops.all (fun o=>noDefer o.op)&&distinctDst ops (baseKeys L0)&&(List.range ops.size).all (fun i=>(qs.contains i||(mk++al).contains i)&&(pl i).all (fun p=>(predsAt ops i).contains p)&&((mk.take (lov i)++ma i)).all (fun p=>((mkBm ops).getD i []).contains p&&(mk++al).contains p)&&((mk.drop (hiv i))).all (fun j=>((mkBm ops).getD j []).contains i)&&(ol i).all (oldOK ops L1 i))&&(mk++al).all (fun i=>Nat.blt i ops.size)
      && vBm ops (mkBm ops)&&(mk++al).all (fun i=>(af i).all fun j=>((mkBm ops).getD j []).contains i)&&qs.all (fun i=>!(mk++al).contains i)))=true)
    (hf:Fr a n ds L0) (hf1:Fr a n ds L1) (h0:D 0 (fun _=>false) g0 w.drew)
    (hq:Obl (fun i=>∀ k s g w,lov i≤k→k≤hiv i→(∀ p ∈ ma i,s p=true)→D k s g w→∀ a,Fr a n ds (slotsOf ops (val g) (pl i) (oldL L1 (ol i) L0))→O r P ops (fun e a' w'=>e=.normal∧Fr a' n ds []∧(∀ d,dstOf ops i=some d→a'.tmps[d]? = some (val g i))∧D k s g w') [i] a w) qs)
    (hm:Stages (fun k i=>∀ s g w,(∀ p ∈ ma i,s p=true)→D k s g w→∀ a,Fr a n ds (slotsOf ops (val g) (pl i) (oldL L1 (ol i) L0))→O r P ops (fun e a' w'=>e=.normal∧∃ g',Fr a' n ds []∧(∀ d,dstOf ops i=some d→a'.tmps[d]? = some (val g' i))∧(∀ j,j≠i→(af i).contains j=false→val g' j=val g j)∧D (k+1) s g' w') [i] a w) 0 mk)
    (ha:Obl (fun i=>∀ k s g w,lov i≤k→k≤hiv i→s i=false→D k s g w→∀ a,Fr a n ds (slotsOf ops (val g) (pl i) (oldL L1 (ol i) L0))→O r P ops (fun e a' w'=>e=.normal∧∃ g',Fr a' n ds []∧(∀ d,dstOf ops i=some d→a'.tmps[d]? = some (val g' i))∧(∀ j,j≠i→(af i).contains j=false→val g' j=val g j)∧D k (upd s i) g' w') [i] a w) al)
    (hend:∀ s g a w,(∀ i ∈ al,s i=true)→Fr a n ds (slotsOf ops (val g) (List.range ops.size) L0)→D mk.length s g w→Q .normal a w):W r P (.region id ops true) Q a w:=by
  simp only [Bool.and_eq_true] at hk
  obtain ⟨⟨k1,k2⟩,k3⟩:=hk
  exact W.drawC g0 mk al qs pl (fun i=>mk.take (lov i)++ma i) (fun i=>mk.drop (hiv i)) ma af ol lov hiv val D hmo (by simpa only [Bool.and_eq_true] using k1) (by simpa only [Bool.and_eq_true] using k2) (by simpa only [Bool.and_eq_true] using k3) hf hf1 h0 hq hm ha hend
theorem oj {T:Type} {x y:T} (h:some x=some y):x=y:=Option.some.inj h
def Lq (v:Nat→Value) (i:Nat) (l:List Nat) (N:Nat):List Value:=(List.range N).map fun j=>match Nat.beq j i||l.contains j with
  | true=>undef
  | false=>v j
theorem jl {v v':Nat→Value} {i:Nat} {l:List Nat} (N:Nat) (h:Lq v' i l N=Lq v i l N) (ht:∀ j,v' (j+N)=v (j+N)) (j:Nat) (hj:j≠i) (hk:l.contains j=false):v' j=v j:=by
  by_cases hN:j<N
  · have h1:(Lq v' i l N)[j]? = (Lq v i l N)[j]?:=by rw [h]
    have hb:(Nat.beq j i||l.contains j)=false:=by
      rw [hk,Bool.or_false]
      cases hh:Nat.beq j i with
      | false=>rfl
      | true=>exact absurd (Nat.eq_of_beq_eq_true hh) hj
    simp only [Lq,List.getElem?_map,List.getElem?_range hN,Option.map_some,hb] at h1
    exact Option.some.inj h1
  · have:=ht (j-N)
    rwa [Nat.sub_add_cancel (by omega)] at this
theorem nE {γ:Type} {L:List (Nat × Value)} {v:γ→Value} {i:Nat} {C2:γ→Prop} {D:γ→World→Prop} (q:Nat) (hf:Fr a n ds L) (g:γ) (hd:dstOf ops i=some q) (hv:lk L q=some (v g)) (h2:C2 g) (h3:D g w):O r P ops (fun e a' w'=>e=.normal∧∃ g',Fr a' n ds []∧(∀ d,dstOf ops i=some d→a'.tmps[d]? = some (v g'))∧C2 g'∧D g' w') [] a w :=
  O.nil ⟨rfl,g,hf.to trivial,gt (d:=q) hf hd hv,h2,h3⟩
theorem St.cz {X':Nat→Prop} {N R1 R:List Asr} {pp:Asr} {w':World} (hS:St w0 w X B M) (hc:St w w' X' [] N) (i:Nat) [h:Del i M pp R1] (hX:∀ b,X' b→pp.fp b) [h2:App N R1 R]:St w0 w' X B R:=by
  have:=hS.callX1 hc h.get hX
  rw [h.eq,h2.eq] at this
  exact this
end
end Go.SL

namespace Go.SL
open Go
section
variable {P:Program} {w w0:World} {n:Nat} {ds:List Deferred} {L:List (Nat × Value)} {ty t t':TypeId} {x y:Operand} {X:Nat→Prop} {B M:List Asr} {s1 s2:ByteArray}
end
section
variable {r:Option Nat} {P:Program} {Q:Exit→Act→World→Prop} {a:Act} {w:World}
def Exit.jmp (l:Nat) (J:Act→World→Prop) (Q:Exit→Act→World→Prop):Exit→Act→World→Prop
  | .goto l',a,w=>l'=l∧J a w
  | e,a,w=>Q e a w
variable {l:Nat} {J:Act→World→Prop}
end
end Go.SL

namespace Go.SL
open Go
def spos (s:ByteArray) (p:Int):Int:=((p.toNat+(Utf8.decode s p.toNat).2:Nat):Int)
def srun (s:ByteArray) (p:Int):Int:=(Utf8.decode s p.toNat).1
def shas (s:ByteArray) (p:Int):Bool:=Nat.blt p.toNat s.size
def sidx (p:Int):Int:=((p.toNat:Nat):Int)
section
variable {r:Option Nat} {P:Program} {ops:Array Oper} {Q:Exit→Act→World→Prop} {a:Act} {w w0:World} {n:Nat} {ds:List Deferred} {L:List (Nat × Value)} {X:Nat→Prop} {B M M':List Asr}
  {d i j b:Nat} {ty t:TypeId} {pos:String} {af:Array Edge} {rest:List Nat} {x:Operand} {s:ByteArray} {p:Int}
theorem O.rangeS (hf:Fr a n ds L) (hS:St w0 w X B M) (ho:ops[i]? = some ⟨some d,.range t x,ty,pos,af,none⟩) (hd:Nat.blt d n=true) (hx:ev L x=some (.string s)) (ht:P.underlying t=some .string)
    (k:∀ b w a,St w0 w X B (pt b (.stringIter s (Int.toNat 0))::M)→Fr a n ds ((d,.pointer (some ⟨b,0,none⟩))::L)→O r P ops Q rest a w):O r P ops Q (i::rest) a w :=
  O.val hf ho rfl hd (Z.rangeS hx ht) fun a hf=>k _ _ a (hS.iter s) hf
theorem O.nextT (hf:Fr a n ds L) (hS:St w0 w X B M) (ho:ops[i]? = some ⟨some d,.next x true,ty,pos,af,none⟩) (hd:Nat.blt d n=true) (hx:ev L x=some (.pointer (some ⟨b,0,none⟩)))
    (hi:M[j]? = some (pt b (.stringIter s (Int.toNat p)))) (hp:shas s p=true) (hM:M.set j (pt b (.stringIter s (Int.toNat (spos s p))))=M')
    (k:∀ w a,St w0 w X B M'→Fr a n ds ((d,.tuple #[.bool true,.int .i64 (sidx p),.int .i32 (srun s p)])::L)→O r P ops Q rest a w):O r P ops Q (i::rest) a w :=
  O.val hf ho rfl hd (Z.nextS hx (hS.ptAt hi) (Nat.le_of_ble_eq_true hp)) fun a hf=>k _ a (hM▸hS.setIter hi) hf
theorem O.nextF (hf:Fr a n ds L) (hS:St w0 w X B M) (ho:ops[i]? = some ⟨some d,.next x true,ty,pos,af,none⟩) (hd:Nat.blt d n=true) (hx:ev L x=some (.pointer (some ⟨b,0,none⟩)))
    (hi:M[j]? = some (pt b (.stringIter s (Int.toNat p)))) (hp:shas s p=false)
    (k:∀ a,Fr a n ds ((d,.tuple #[.bool false])::L)→O r P ops Q rest a w):O r P ops Q (i::rest) a w :=
  O.val hf ho rfl hd (Z.nextE hx (hS.ptAt hi) (fun h=>by
    have:shas s p=true:=Nat.ble_eq_true_of_le h
    rw [hp] at this; cases this)) k
end
end Go.SL

namespace Go.SL
def AllT {K R:Type} (P:K→R→Prop):List (K × R)→Prop
  | []=>True
  | e::t=>P e.1 e.2∧AllT P t
def lkT {K R:Type} (eq:K→K→Bool) (k:K):List (K × R)→Option R
  | []=>none
  | e::t=>match eq e.1 k with
    | true=>some e.2
    | false=>lkT eq k t
theorem lkT_ok {K R:Type} {eq:K→K→Bool} (he:∀ a b,eq a b=true→a=b) {P:K→R→Prop} {k:K} {r:R}:∀ {T:List (K × R)},AllT P T→lkT eq k T=some r→P k r
  | [],_,h=>by cases h
  | e::t,⟨h1,h2⟩,h=>by
    unfold lkT at h
    split at h
    · rename_i hk
      have:=he _ _ hk
      subst this
      simp only [Option.some.injEq] at h
      subst h; exact h1
    · exact lkT_ok he h2 h
def eqI1 (a b:Int):Bool:=decide (a=b)
theorem eqI1_ok (a b:Int) (h:eqI1 a b=true):a=b:=of_decide_eq_true h
def eqI2 (a b:Int × Int):Bool:=match decide (a.1=b.1) with
  | true=>decide (a.2=b.2)
  | false=>false
theorem eqI2_ok (a b:Int × Int) (h:eqI2 a b=true):a=b:=by
  unfold eqI2 at h
  split at h
  · rename_i h1
    exact Prod.ext (of_decide_eq_true h1) (of_decide_eq_true h)
  · cases h
def eqI3 (a b:Int × Int × Int):Bool:=match decide (a.1=b.1) with
  | true=>eqI2 a.2 b.2
  | false=>false
theorem eqI3_ok (a b:Int × Int × Int) (h:eqI3 a b=true):a=b:=by
  unfold eqI3 at h
  split at h
  · rename_i h1
    exact Prod.ext (of_decide_eq_true h1) (eqI2_ok _ _ h)
  · cases h
open Go
section
variable {r:Option Nat} {P:Program} {ops:Array Oper} {Q:Exit→Act→World→Prop} {a:Act} {w w0:World} {n:Nat} {ds:List Deferred} {L:List (Nat × Value)} {X:Nat→Prop} {B M:List Asr}
  {d i:Nat} {rest:List Nat}
theorem oq {f:FuncId} {av:Array Value} {G:Type} {u:G→Value} {N R:G→List Asr} [h:∀ g,App (N g) M (R g)] (hf:Fr a n ds L) (hS:St w0 w X B M) (h1:clk n L ops[i]? = some (d,f,av)) (hk:cOK P f=true)
    (hc:Ret P f av w u (fun g w'=>St w w' noX [] (N g)))
    (k:∀ g w',St w0 w' X B (R g)→∀ a',Fr a' n ds ((d,u g)::L)→O r P ops Q rest a' w'):O r P ops Q (i::rest) a w :=
  oc hf h1 hk hc fun g w' hS1 a' hf'=>k g w' (hS.cl hS1) a' hf'
end
theorem hb {α β:Type} {x:Option α} {f:α→Option β} {r:β} {p:Prop} (h:x.bind f=some r) (k:∀ a,x=some a→f a=some r→p):p :=
  let ⟨a,h1,h2⟩:=hm_b h
  k a h1 h2
end Go.SL
