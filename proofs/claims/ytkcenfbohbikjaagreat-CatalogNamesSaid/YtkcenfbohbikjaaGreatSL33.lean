/- Calls walked in place, scopes that nothing jumps in, parts of arrays, the greatest of three. -/
import Derived.Test.YtkcenfbohbikjaaGreatSL31
set_option linter.unusedVariables false
set_option linter.unusedSimpArgs false
namespace Go.SL
open Go
section
variable {r:Option Nat} {P:Program} {ops:Array Oper} {Q:Exit→Act→World→Prop} {a:Act} {w w0:World} {n n':Nat} {ds:List Deferred} {L:List (Nat × Value)} {X:Nat→Prop} {B M M':List Asr}
  {d i j b:Nat} {op:Op} {ty t e:TypeId} {pos:String} {af:Array Edge} {rest:List Nat} {x y z:Operand} {f:FuncId}
theorem O.callI {R:Value→World→Prop} {fn:Func} {c:Code} {lv:List Value} (hf:Fr a n ds L) (ho:ops[i]? = some ⟨some d,op,ty,pos,af,none⟩) (hnd:noDefer op=true) (hd:Nat.blt d n=true)
    (hr:RunE P n ds L op ty w f lv.toArray) (hfn:P.funcs[f]? = some fn) (hb:fn.body=some c) (hn:fn.ntmps=n') (hl:Nat.ble lv.length n'=true)
    (h:∀ a,Fr a n' [] (argsL 0 lv)→W none P c (bodyPost P fn (fun e w'=>∃ v,e=.returned v∧R v w')) a w)
    (k:∀ v w',R v w'→∀ a',Fr a' n ds ((d,v)::L)→O r P ops Q rest a' w'):O r P ops Q (i::rest) a w :=
  O.call hf ho hnd hd hr (calls_of_W hfn hb hn hl h) k
def Exit.stl (Q:Exit→Act→World→Prop):Exit→Act→World→Prop
  | .goto _,_,_=>False
  | e,a,w=>Q e a w
theorem stepS_scope {P:Program} {b:Frame} {a:Act} {k:List Item} {cs:List Frame} {w:World} {c:Code}:step P (lone (b.atR a (.code (.scope c)::k)) cs w)=.next (lone (b.atR a (.code c::.inScope c::k)) cs w) :=
  step_lone_go (by simp [stepG,stepG.exec,Frame.atR])
theorem stepS_inScope {P:Program} {b:Frame} {a:Act} {k:List Item} {cs:List Frame} {w:World} {c:Code}:step P (lone (b.atR a (.inScope c::k)) cs w)=.next (lone (b.atR a k) cs w) :=
  step_lone_go (by simp [stepG,stepG.exec,Frame.atR])
theorem W.scopeS {c:Code} (h:W r P c (Exit.stl Q) a w):W r P (.scope c) Q a w:=by
  intro b k cs hro hb hr
  have h0:(lone (b.atR a (.code (.scope c)::k)) cs w).fenced P (FW r):=fenced_calm hb hr rfl
  obtain ⟨e,a₁,w₁,hq,harr⟩:=h b (.inScope c::k) cs hro hb hr
  cases e with
  | normal=>exact ⟨.normal,a₁,w₁,hq,.head h0 stepS_scope (StepsIn.trans harr (.one (fenced_calm hb hr rfl) stepS_inScope))⟩
  | exit id =>
    have hx:exitTo id (.inScope c::k)=exitTo id k:=by simp [exitTo]
    exact ⟨.exit id,a₁,w₁,hq,fun k' hk=>.head h0 stepS_scope (harr.1 k' (by rw [hx]; exact hk)),
      fun hr' hk=>let ⟨k₁,h1,h2⟩:=harr.2 hr' (by rw [hx]; exact hk); ⟨k₁,h1,.head h0 stepS_scope h2⟩⟩
  | goto l=>exact hq.elim
  | ret=>exact ⟨_,a₁,w₁,hq,.of_steps (.one h0 stepS_scope) harr⟩
  | panic ch=>exact ⟨_,a₁,w₁,hq,.of_steps (.one h0 stepS_scope) harr⟩
  | outgrown=>exact ⟨_,a₁,w₁,hq,.of_steps (.one h0 stepS_scope) harr⟩
theorem k_stl_ret (h:Q .ret a w):Exit.stl Q .ret a w:=h
theorem RunV.max3 {k:IntKind} {p q s:Int} {at_:Array TypeId} (hx:ev L x=some (.int k p)) (hy:ev L y=some (.int k q)) (hz:ev L z=some (.int k s)):RunV P n ds L (.call ⟨.builtin .max,#[x,y,z],at_⟩) ty w (.int k (if (if p<q then q else p)<s then s else (if p<q then q else p))) w:=fun a d pos af g hf=>by
  refine run_builtin (vs:=[.int k p,.int k q,.int k s]) hf (by simp [evA,hx,hy,hz]) ?_
  simp only [builtin]
  refine run_v ?_
  simp [Builtin.max_,Builtin.max2]
theorem RunV.sliceArr {len sz o m:Nat} {lo:Operand} {k:IntKind} {p:Nat} (ha:tArr P t=some (len,e)) (hs:tSize P e=some sz) (hx:ev L x=some (.pointer (some ⟨b,o,none⟩))) (hl:ev L lo=some (.int k (p:Int))) (hp:Nat.blt p len=true) (hm:o+p*sz=m) :
    RunV P n ds L (.slice t x (some lo) none none) ty w (.slice (some ⟨b,m,none⟩) (len-p) (len-p)) w:=fun a d pos af g hf=>by
  have hu:=run_underlying (w:=w) (und_arr ha)
  have hp:=Nat.le_of_ble_eq_true hp
  simp only [execOp,hf.eval hx,Option.map_some,Option.map_none,hf.eval hl]
  refine run_v ?_
  subst hm
  have h0:(0:Int)≤(p:Int)∧(p:Int)≤(len:Int):=⟨by omega,by omega⟩
  have hsz:=run_sizeOf (w:=w) hs
  have e1:(if len=p then (⟨b,o,none⟩:Addr) else Addr.add ⟨b,o,none⟩ (p*sz))=⟨b,o+p*sz,none⟩:=by
    rw [if_neg (by omega)]
    exact add_none _ _ _
  simp only [Instr.sliceAt,Instr.sureAddr,Instr.sliceBounds,Instr.sliceBound,asIntOf,Sem.run_bind,Sem.run_pure,Result.andThen,hu,Int.toNat_natCast,hsz,if_pos h0,Bool.false_eq_true,if_false,Option.isSome_none,e1]
end
end Go.SL
