/- More for printed walks: lending, equality of structs, fields of values, bits. -/
import Derived.Test.YtmgmoedcpndppaaSL14
import Derived.ChangeKeysEq
set_option linter.unusedVariables false
set_option linter.unusedSimpArgs false
namespace Go.SL
open Go
section
variable {T:Type} {enc:T→List Value} {sz:Nat} {l:List T} {h:Hp} {v:Value} {w:World} {b:Nat} {o:Obj} {p:Asr} {B M:List Asr}
theorem rdEOK_cells (hr:rdEOK h sz enc v l):v.cells=#[v]:=(rdOK.cells hr.1).1
theorem rdEOK_one (hr:rdEOK h sz enc v l):oneCells [v]=true:=(rdOK.cells hr.1).2
theorem rdEOK_nil:rdEOK h sz enc (.slice none 0 0) ([]:List T):=⟨⟨by simp [encs],Nat.zero_le _,none,0,rfl,fun h=>absurd h (Nat.lt_irrefl 0)⟩,Nat.le_refl 0⟩
abbrev Lent (w:World) (p:Asr):Prop:=p.holds (hp w)∧∀ b,p.fp b→b<w.heap.size
theorem lendRd (hr:rdEOK (hp w) sz enc v l):Lent w (rdE sz enc v l):=⟨hr,fun b hb=>rdOK.lt hr.1 hb.1 hb.2⟩
theorem lendPt (hb:w.heap[b]? = some o):Lent w (pt b o):=⟨hb,fun k hk=>by
  have hk:k=b:=hk
  subst hk; exact (Array.getElem?_eq_some_iff.1 hb).1⟩
theorem lendAll_nil:∀ p ∈ ([]:List Asr),Lent w p:=by simp
theorem lendAll_cons (h1:Lent w p) (h2:∀ p ∈ B,Lent w p):∀ q ∈ p::B,Lent w q:=fun q hq=>by
  rcases List.mem_cons.1 hq with rfl | hq
  · exact h1
  · exact h2 q hq
variable {w0:World} {X:Nat→Prop} {B' M':List Asr}
theorem St.selB (hS:St w0 w X B M) (is:List Nat) (h:(is.map (fun i=>B[i]?))=B'.map some):St w0 w X B' M:=by
  refine ⟨hS.os,hS.tape,hS.output,hS.size,hS.old,hS.sep,fun p hp=>?_⟩
  have h1:some p ∈ B'.map some:=List.mem_map.2 ⟨p,hp,rfl⟩
  rw [← h] at h1
  obtain ⟨i,_,hi⟩:=List.mem_map.1 h1
  exact hS.bor p (List.mem_of_getElem? hi)
end
section
variable {T:Type} {enc:T→List Value} {sz:Nat} {l:List T} {x0:T}
variable {P:Program} {w:World} {n:Nat} {ds:List Deferred} {L:List (Nat × Value)} {ty t t' e:TypeId} {x y:Operand} {u v:Value} {b o m q:Nat} {cs cs':Array Value} {k:IntKind} {p p':Int} {b1 b2:Bool}
def tFld (P:Program) (t:TypeId) (f:Nat):Option (TypeId × Nat) :=
  match P.underlying t with
  | some (.struct fs)=>(fs[f]?).map fun g=>(g.type,g.offset)
  | _=>none
def bitand (k:IntKind) (x y:Int):Int:=k.wrap ((BitVec.ofInt k.bits x&&&BitVec.ofInt k.bits y).toNat:Int)
def bitor (k:IntKind) (x y:Int):Int:=k.wrap ((BitVec.ofInt k.bits x|||BitVec.ofInt k.bits y).toNat:Int)
def bitxor (k:IntKind) (x y:Int):Int:=k.wrap ((BitVec.ofInt k.bits x ^^^ BitVec.ofInt k.bits y).toNat:Int)
def bitandNot (k:IntKind) (x y:Int):Int:=k.wrap ((BitVec.ofInt k.bits x&&&~~~(BitVec.ofInt k.bits y)).toNat:Int)
theorem RunV.bitand (hx:ev L x=some (.int k p)) (hy:ev L y=some (.int k p')):RunV P n ds L (.binOp .and t x y t') ty w (.int k (bitand k p p')) w:=RunV.bits rfl hx hy rfl
theorem RunV.bitor (hx:ev L x=some (.int k p)) (hy:ev L y=some (.int k p')):RunV P n ds L (.binOp .or t x y t') ty w (.int k (bitor k p p')) w:=RunV.bits rfl hx hy rfl
theorem RunV.bitxor (hx:ev L x=some (.int k p)) (hy:ev L y=some (.int k p')):RunV P n ds L (.binOp .xor t x y t') ty w (.int k (bitxor k p p')) w:=RunV.bits rfl hx hy rfl
def EqR (P:Program) (d:Nat) (t:TypeId) (x y:Value) (r:Bool):Prop:=∀ w,(Op.equalIn d t x y).run P w=.ok r w
def PartR (P:Program) (t:TypeId) (xs:Array Value) (off:Nat) (v:Value):Prop:=∀ w,(part t xs off).run P w=.ok v w
def EqF (P:Program) (d:Nat) (xs ys:Array Value) (fs:List Field) (r:Bool):Prop:=∀ w,(Op.eqFields d xs ys fs).run P w=.ok r w
def EqI (P:Program) (d:Nat) (e:TypeId) (c:Nat) (xs ys:Array Value) (is:List Nat) (r:Bool):Prop:=∀ w,(Op.eqItems d e c xs ys is).run P w=.ok r w
theorem EqR.bool {d:Nat} (ht:P.underlying t=some .bool):EqR P (d+1) t (.bool b1) (.bool b2) (b1 == b2):=fun w=>by
  simp [Op.equalIn,run_underlying ht]
def EqL (P:Program) (d:Nat) (xs ys:Array Value):List (TypeId × Nat)→Bool→Prop
  | [],r=>r=true
  | (t,o)::l,r=>∃ x y b1 b2,PartR P t xs o x∧PartR P t ys o y∧EqR P d t x y b1∧EqL P d xs ys l b2∧r=(b1&&b2)
def tFs (P:Program) (t:TypeId):Option (List (TypeId × Nat)) :=
  match P.underlying t with
  | some (.struct fs)=>if (fs.toList.all (fun f=>f.name != "_")&&!P.stoodInHeld t)=true then some (fs.toList.map fun f=>(f.type,f.offset)) else none
  | _=>none
theorem RunV.eqBool (ht:P.underlying t=some .bool) (hx:ev L x=some (.bool b1)) (hy:ev L y=some (.bool b2)):RunV P n ds L (.binOp .eql t x y t') ty w (.bool (b1 == b2)) w:=fun a d pos af g hf=>by
  simp only [execOp,hf.eval hx,hf.eval hy]
  have e1:(eqGuard .eql t x y (.bool b1) (.bool b2)).run P w=.ok () w:=by simp [eqGuard]
  have e2:(binOp .eql t (.bool b1) (.bool b2)).run P w=.ok (.bool (b1 == b2)) w:=by
    have:=(EqR.bool (d:=9999) ht:EqR P 10000 t (.bool b1) (.bool b2) (b1 == b2)) w
    simp only [binOp,Op.equal,Op.maxDepth,Sem.run_bind,this,Result.andThen_ok,Sem.run_pure]
  simp only [Sem.run_bind,e1,e2,Result.andThen_ok,Sem.run_pure]
theorem RunV.neBool (ht:P.underlying t=some .bool) (hx:ev L x=some (.bool b1)) (hy:ev L y=some (.bool b2)):RunV P n ds L (.binOp .neq t x y t') ty w (.bool (!(b1 == b2))) w:=fun a d pos af g hf=>by
  simp only [execOp,hf.eval hx,hf.eval hy]
  have e1:(eqGuard .neq t x y (.bool b1) (.bool b2)).run P w=.ok () w:=by simp [eqGuard]
  have e2:(binOp .neq t (.bool b1) (.bool b2)).run P w=.ok (.bool (!(b1 == b2))) w:=by
    have:=(EqR.bool (d:=9999) ht:EqR P 10000 t (.bool b1) (.bool b2) (b1 == b2)) w
    simp only [binOp,Op.equal,Op.maxDepth,Sem.run_bind,this,Result.andThen_ok,Sem.run_pure]
  simp only [Sem.run_bind,e1,e2,Result.andThen_ok,Sem.run_pure]
end
end Go.SL
