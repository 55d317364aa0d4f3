/- A map of pairs of numbers to values that hold slices of one's own: the memo of a function. -/
import Derived.Test.YtipfobacinmoiaaGreatSL21
import Derived.Test.YtipfobacinmoiaaGreatSL11
set_option linter.unusedVariables false
set_option linter.unusedSimpArgs false
namespace Go.SL
open Go
abbrev MTab:=List (Int × Int × Value)
def mKey (p q:Int):Value:=.agg #[.int .i64 p,.int .i64 q]
def mVal {T:Type} (v:Value) (r:List T × Int × Int):Value:=.agg #[v,.int .i64 r.2.1,.int .i64 r.2.2]
def memoOK {T:Type} (e sz:Nat) (enc:T→List Value) (f:Int→Int→List T × Int × Int) (b:Nat) (tb:MTab) (h:Hp):Prop :=
  (∃ es clock,h b=some (.map es clock)∧es.toList.map (fun x=>(x.key,x.val))=tb.map fun t=>(mKey t.1 t.2.1,mVal t.2.2 (f t.1 t.2.1))) ∧
  ∀ t ∈ tb,slOK h e sz t.2.2 (f t.1 t.2.1).1.length (encs enc (f t.1 t.2.1).1)
def memoA {T:Type} (e sz:Nat) (enc:T→List Value) (f:Int→Int→List T × Int × Int) (b:Nat) (tb:MTab):Asr :=
  ⟨fun k=>k=b∨∃ t ∈ tb,t.2.2.ownBlock=some k,memoOK e sz enc f b tb,fun h h' hk ⟨⟨es,c,h1,h2⟩,h3⟩=>⟨⟨es,c,by rw [hk b (.inl rfl)]; exact h1,h2⟩,fun t ht=>(sl e sz t.2.2 _ _).loc h h' (fun k hk'=>hk k (.inr ⟨t,ht,hk'⟩)) (h3 t ht)⟩⟩
def memIn {T:Type} (f:Int→Int→List T × Int × Int) (tb:MTab) (v:Value) (l:List T):Asr :=
  ⟨fun _=>False,fun _=>∃ t ∈ tb,t.2.2=v∧(f t.1 t.2.1).1=l,fun _ _ _ h=>h⟩
def memoH {T:Type} (w:World) (e sz:Nat) (enc:T→List Value) (f:Int→Int→List T × Int × Int) (b:Nat) (tb:MTab):Prop :=
  Lent w (memoA e sz enc f b tb)
section
variable {T:Type} {enc:T→List Value} {sz:Nat} {l m:List T} {f:Int→Int→List T × Int × Int} {tb:MTab}
variable {r:Option Nat} {P:Program} {Q:Exit→Act→World→Prop} {ops:Array Oper} {i:Nat} {rest:List Nat} {a:Act} {w w0 w':World} {n:Nat} {ds:List Deferred} {L:List (Nat × Value)}
  {d:Nat} {op:Op} {ty t e kt:TypeId} {pos:String} {af:Array Edge} {v u z:Value} {X:Nat→Prop} {B M M':List Asr} {x y zz:Operand} {b o j jj:Nat} {k k':IntKind} {p q:Int} {A:Asr}
def tMemo (P:Program) (t:TypeId):Option (TypeId × Value) :=
  match P.underlying t with
  | some (.map k e)=>match tArr P k with
    | some (2,q)=>match tInt P q,tZero P e with
      | some .i64,some z'=>if P.cellsOf q=1∧(P.info? q).isSome=true∧tAgg P q=some false∧tSize P q=some 1 then some (k,z') else none
      | _,_=>none
    | _=>none
  | _=>none
def posM (p q:Int):List (Int × Int × Value)→Nat→Option (Nat × Int × Int × Value)
  | [],_=>none
  | x::t,i=>if p=x.1∧q=x.2.1 then some (i,x) else posM p q t (i+1)
theorem RunV.lk {c:Bool} {kv:Value} (hx:ev L x=some u) (hy:ev L y=some kv) (h:(Instr.lookup t u kv c).run P w=.ok v w):RunV P n ds L (.lookup t x y c) ty w v w:=fun a d pos af g hf=>by
  simp only [execOp,hf.eval hx,hf.eval hy]
  exact run_v h
end
end Go.SL
