/- Regions that draw their order and hold operations that turn memory, in whatever partial order. -/
import Derived.Test.YtipfobacinmoiaaGreatSL15
import Derived.Laws.Externs
set_option linter.unusedVariables false
set_option linter.unusedSimpArgs false
namespace Go.SL
open Go
section
variable {r:Option Nat} {P:Program} {ops:Array Oper} {Q:Exit→Act→World→Prop} {a:Act} {w:World} {n:Nat} {ds:List Deferred} {γ:Type}
def upd (s:Nat→Bool) (i:Nat):Nat→Bool:=fun j=>match Nat.beq j i with
  | true=>true
  | false=>s j
def seen (mk:List Nat) (listed:Array Bool):Nat→Bool:=fun j=>mk.contains j&&listed.getD j false
structure Dp (ops:Array Oper) (n:Nat) (ds:List Deferred) (L0:List (Nat × Value)) (L1:List (Nat × Value)) (val:γ→Nat→Value) (mk:List Nat) (D:(Nat→Bool)→γ→World→Prop) (listed:Array Bool) (a:Act) (w:World) (g:γ):Prop where
  fr:Fr a n ds L0
  olds:∀ q v,lk L1 q=some v→(∀ j,dstOf ops j=some q→listed.getD j false=false)→a.tmps[q]? = some v
  slot:∀ j d,listed.getD j false=true→dstOf ops j=some d→a.tmps[d]? = some (val g j)
  cl:∀ j o,listed.getD j false=true→ops[j]? = some o→∀ p ∈ preds o,listed.getD p false=true
  D:D (seen mk listed) g w
  size:listed.size=ops.size
def oldOK (ops:Array Oper) (L1:List (Nat × Value)) (i:Nat) (q:Nat):Bool :=
  (baseKeys L1).contains q&&(List.range ops.size).all fun j=>match dstOf ops j with
    | some d=>!Nat.beq d q||Nat.beq j i||((mkBm ops).getD j []).contains i
    | none=>true
def oldL (L1:List (Nat × Value)):List Nat→List (Nat × Value)→List (Nat × Value)
  | [],L=>L
  | q::t,L=>match lk L1 q with
    | some v=>(q,v)::oldL L1 t L
    | none=>oldL L1 t L
end
section
variable {P:Program} {w:World} {n:Nat} {ds:List Deferred} {L:List (Nat × Value)} {ty t:TypeId} {x y z:Operand} {v:Value} {k:IntKind} {p q c:Int}
def sub64Row:Array Value→Sem Value:=fun args=>do
  let (x,y,b) ← Extern.MathBitsCarry.three "Sub64" args
  pure (Extern.MathBitsCarry.pair ((x+Extern.MathBitsCarry.m64-y-b) % Extern.MathBitsCarry.m64) (if x<y+b then 1 else 0))
def sub64d (p q c:Int):Int:=((p.toNat+18446744073709551616-q.toNat-c.toNat) % 18446744073709551616:Nat)
def sub64b (p q c:Int):Int:=(if p.toNat<q.toNat+c.toNat then 1 else 0:Nat)
def add64Row:Array Value→Sem Value:=fun args=>do
  let (x,y,c) ← Extern.MathBitsCarry.three "Add64" args
  pure (Extern.MathBitsCarry.pair ((x+y+c) % Extern.MathBitsCarry.m64) ((x+y+c)/Extern.MathBitsCarry.m64))
def add64s (p q c:Int):Int:=((p.toNat+q.toNat+c.toNat) % 18446744073709551616:Nat)
def add64c (p q c:Int):Int:=((p.toNat+q.toNat+c.toNat)/18446744073709551616:Nat)
def ExtIs (P:Program) (f:FuncId) (e:Array Value→Sem Value):Prop:=∀ args w v,(e args).run P w=.ok v w→(callFunc f args).run P w=.ok (.value v) w
theorem RunV.ext {f:Operand} {fid:FuncId} {e:Array Value→Sem Value} {args:Array Operand} {at_:Array TypeId} {vs:List Value} (hE:ExtIs P fid e) (hx:ev L f=some (.func (.func fid) #[] #[])) (hv:evA L args.toList=some vs) (he:∀ w,(e vs.toArray).run P w=.ok v w) :
    RunV P n ds L (.call ⟨.value f,args,at_⟩) ty w v w:=fun a d pos af g hf=>by
  have hargs:args.map a.eval=vs.toArray:=by apply Array.ext'; rw [Array.toList_map,hf.evA hv]
  have h1:=hE vs.toArray w v (he w)
  simp only [execOp,resolve,Sem.run_bind,Sem.run_pure,Result.andThen,hargs,hf.eval hx,Deferred.ofValue,invoke]
  simpa using h1
def strIdx (s:ByteArray) (i:Int):Option Int:=if 0≤i then (s[i.toNat]?).map (fun b=>(b.toNat:Int)) else none
theorem RunV.indexStr {s:ByteArray} {u:Int} (ht:P.underlying t=some .string) (hx:ev L x=some (.string s)) (hy:ev L y=some (.int k p)) (h:strIdx s p=some u):RunV P n ds L (.index t x y) ty w (.int .u8 u) w:=fun a d pos af g hf=>by
  simp only [execOp,hf.eval hx,hf.eval hy]
  refine run_v ?_
  unfold strIdx at h
  split at h
  · rename_i h0
    obtain ⟨b,hb,rfl⟩:=Option.map_eq_some_iff.1 h
    simp only [Instr.index,asIntOf,Sem.run_bind,Sem.run_pure,Result.andThen,run_underlying ht,h0,if_true,hb]
  · cases h
end
abbrev Iv (x:Int):Value:=.int .i64 x
abbrev Uv (x:Int):Value:=.int .u64 x
abbrev Bv (x:Bool):Value:=.bool x
abbrev Pv (b o:Nat):Value:=.pointer (some ⟨b,o,none⟩)
abbrev Cs (c:Array Value) (t:TypeId):Obj:=.cells c t (0,0)
end Go.SL
