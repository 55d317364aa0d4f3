/- More for printed walks: lending, equality of structs, fields of values, bits. -/
import Derived.Test.YtipfobacinmoiaaGreatSL14
import Derived.ChangeKeysEq
set_option linter.unusedVariables false
set_option linter.unusedSimpArgs false
namespace Go.SL
open Go
section
variable {T:Type} {enc:T→List Value} {sz:Nat} {l:List T} {h:Hp} {v:Value} {w:World} {b:Nat} {o:Obj} {p:Asr} {B M:List Asr}
theorem rdEOK_nil:rdEOK h sz enc (.slice none 0 0) ([]:List T):=⟨⟨by simp [encs],Nat.zero_le _,none,0,rfl,fun h=>absurd h (Nat.lt_irrefl 0)⟩,Nat.le_refl 0⟩
abbrev Lent (w:World) (p:Asr):Prop:=p.holds (hp w)∧∀ b,p.fp b→b<w.heap.size
variable {w0:World} {X:Nat→Prop} {B' M':List Asr}
end
section
variable {T:Type} {enc:T→List Value} {sz:Nat} {l:List T} {x0:T}
variable {P:Program} {w:World} {n:Nat} {ds:List Deferred} {L:List (Nat × Value)} {ty t t' e:TypeId} {x y:Operand} {u v:Value} {b o m q:Nat} {cs cs':Array Value} {k:IntKind} {p p':Int} {b1 b2:Bool}
def tFld (P:Program) (t:TypeId) (f:Nat):Option (TypeId × Nat) :=
  match P.underlying t with
  | some (.struct fs)=>(fs[f]?).map fun g=>(g.type,g.offset)
  | _=>none
theorem tFld_spec {f:Nat} {ft:TypeId} (h:tFld P t f=some (ft,o)):∃ fs fl,P.underlying t=some (.struct fs)∧fs[f]? = some fl∧fl.type=ft∧fl.offset=o:=by
  unfold tFld at h
  split at h
  · rename_i fs hfs
    obtain ⟨fl,h1,h2⟩:=Option.map_eq_some_iff.1 h
    simp only [Prod.mk.injEq] at h2
    exact ⟨fs,fl,hfs,h1,h2.1,h2.2⟩
  · cases h
theorem RunV.fieldV1 {f:Nat} {ft:TypeId} (hF:tFld P t f=some (ft,o)) (ha:tAgg P ft=some false) (hx:ev L x=some (.agg cs)) (hv:cs[o]? = some v) :
    RunV P n ds L (.field t x f) ty w v w:=fun a d pos af g hfr=>by
  obtain ⟨fs,fl,hu,h1,rfl,rfl⟩:=tFld_spec hF
  simp only [execOp,hfr.eval hx]
  refine run_v ?_
  simp only [Instr.field,Sem.run_bind,run_underlying hu,Result.andThen,h1,asAgg,Sem.run_pure,part,run_isAgg ha,Bool.false_eq_true,if_false,hv]
theorem RunV.fieldVN {f:Nat} {ft:TypeId} (hF:tFld P t f=some (ft,o)) (ha:tAgg P ft=some true) (hs:tSize P ft=some m) (hx:ev L x=some (.agg cs)) (hv:cs.extract o (o+m)=cs') :
    RunV P n ds L (.field t x f) ty w (.agg cs') w:=fun a d pos af g hfr=>by
  obtain ⟨fs,fl,hu,h1,rfl,rfl⟩:=tFld_spec hF
  simp only [execOp,hfr.eval hx]
  refine run_v ?_
  simp only [Instr.field,Sem.run_bind,run_underlying hu,Result.andThen,h1,asAgg,Sem.run_pure,part,run_isAgg ha,if_true,run_sizeOf hs,hv]
def bitand (k:IntKind) (x y:Int):Int:=k.wrap ((BitVec.ofInt k.bits x&&&BitVec.ofInt k.bits y).toNat:Int)
def bitor (k:IntKind) (x y:Int):Int:=k.wrap ((BitVec.ofInt k.bits x|||BitVec.ofInt k.bits y).toNat:Int)
def bitxor (k:IntKind) (x y:Int):Int:=k.wrap ((BitVec.ofInt k.bits x ^^^ BitVec.ofInt k.bits y).toNat:Int)
def bitandNot (k:IntKind) (x y:Int):Int:=k.wrap ((BitVec.ofInt k.bits x&&&~~~(BitVec.ofInt k.bits y)).toNat:Int)
theorem RunV.bitand (hx:ev L x=some (.int k p)) (hy:ev L y=some (.int k p')):RunV P n ds L (.binOp .and t x y t') ty w (.int k (bitand k p p')) w:=RunV.bits rfl hx hy rfl
theorem RunV.bitor (hx:ev L x=some (.int k p)) (hy:ev L y=some (.int k p')):RunV P n ds L (.binOp .or t x y t') ty w (.int k (bitor k p p')) w:=RunV.bits rfl hx hy rfl
theorem RunV.bitxor (hx:ev L x=some (.int k p)) (hy:ev L y=some (.int k p')):RunV P n ds L (.binOp .xor t x y t') ty w (.int k (bitxor k p p')) w:=RunV.bits rfl hx hy rfl
theorem RunV.bitandNot (hx:ev L x=some (.int k p)) (hy:ev L y=some (.int k p')):RunV P n ds L (.binOp .andNot t x y t') ty w (.int k (bitandNot k p p')) w:=RunV.bits rfl hx hy rfl
def EqR (P:Program) (d:Nat) (t:TypeId) (x y:Value) (r:Bool):Prop:=∀ w,(Op.equalIn d t x y).run P w=.ok r w
def PartR (P:Program) (t:TypeId) (xs:Array Value) (off:Nat) (v:Value):Prop:=∀ w,(part t xs off).run P w=.ok v w
def EqF (P:Program) (d:Nat) (xs ys:Array Value) (fs:List Field) (r:Bool):Prop:=∀ w,(Op.eqFields d xs ys fs).run P w=.ok r w
def EqI (P:Program) (d:Nat) (e:TypeId) (c:Nat) (xs ys:Array Value) (is:List Nat) (r:Bool):Prop:=∀ w,(Op.eqItems d e c xs ys is).run P w=.ok r w
theorem EqR.int {d:Nat} (ht:tInt P t=some k):EqR P (d+1) t (.int k p) (.int k p') (p == p'):=fun w=>by
  simp [Op.equalIn,run_underlying (und_int ht)]
theorem EqR.bool {d:Nat} (ht:P.underlying t=some .bool):EqR P (d+1) t (.bool b1) (.bool b2) (b1 == b2):=fun w=>by
  simp [Op.equalIn,run_underlying ht]
theorem EqR.str {d:Nat} {s1 s2:ByteArray} (ht:P.underlying t=some .string):EqR P (d+1) t (.string s1) (.string s2) (s1 == s2):=fun w=>by
  simp [Op.equalIn,run_underlying ht]
theorem PartR.one (ha:tAgg P t=some false) (hv:cs[o]? = some v):PartR P t cs o v:=fun w=>by
  simp only [part,Sem.run_bind,run_isAgg ha,Result.andThen,Bool.false_eq_true,if_false,hv,Sem.run_pure]
theorem PartR.agg (ha:tAgg P t=some true) (hs:tSize P t=some m) (hv:cs.extract o (o+m)=cs'):PartR P t cs o (.agg cs'):=fun w=>by
  simp only [part,Sem.run_bind,run_isAgg ha,Result.andThen,if_true,run_sizeOf hs,hv,Sem.run_pure]
def EqL (P:Program) (d:Nat) (xs ys:Array Value):List (TypeId × Nat)→Bool→Prop
  | [],r=>r=true
  | (t,o)::l,r=>∃ x y b1 b2,PartR P t xs o x∧PartR P t ys o y∧EqR P d t x y b1∧EqL P d xs ys l b2∧r=(b1&&b2)
theorem EqL.nil {d:Nat} {xs ys:Array Value}:EqL P d xs ys [] true:=rfl
theorem EqL.cons {d:Nat} {xs ys:Array Value} {l:List (TypeId × Nat)} {x y:Value} (hx:PartR P t xs o x) (hy:PartR P t ys o y) (h1:EqR P d t x y b1) (h2:EqL P d xs ys l b2):EqL P d xs ys ((t,o)::l) (b1&&b2):=⟨x,y,b1,b2,hx,hy,h1,h2,rfl⟩
theorem EqF.of {d:Nat} {xs ys:Array Value}:∀ {fs:List Field} {r:Bool},fs.all (fun f=>f.name != "_")=true→EqL P d xs ys (fs.map fun f=>(f.type,f.offset)) r→EqF P d xs ys fs r
  | [],r,_,h=>fun w=>by
    have h:r=true:=h
    subst h; simp [Op.eqFields]
  | f::fs,r,hn,h=>fun w=>by
    simp only [List.all_cons,Bool.and_eq_true,bne_iff_ne] at hn
    obtain ⟨x,y,c1,c2,hx,hy,h1,h2,rfl⟩:=h
    have h3:=EqF.of hn.2 h2
    simp only [Op.eqFields,hn.1,ne_eq,not_false_eq_true,if_true,Sem.run_bind,hx w,hy w,h1 w,Result.andThen_ok]
    cases c1
    · simp
    · simpa using h3 w
def tFs (P:Program) (t:TypeId):Option (List (TypeId × Nat)) :=
  match P.underlying t with
  | some (.struct fs)=>if (fs.toList.all (fun f=>f.name != "_")&&!P.stoodInHeld t)=true then some (fs.toList.map fun f=>(f.type,f.offset)) else none
  | _=>none
theorem EqI.nil {d c:Nat} {xs ys:Array Value}:EqI P d e c xs ys [] true:=fun w=>by simp [Op.eqItems]
theorem EqI.cons {d c i:Nat} {is:List Nat} {xs ys:Array Value} {x y:Value} (hx:PartR P e xs (i*c) x) (hy:PartR P e ys (i*c) y) (h1:EqR P d e x y b1) (h2:EqI P d e c xs ys is b2):EqI P d e c xs ys (i::is) (b1&&b2):=fun w=>by
  simp only [Op.eqItems,Sem.run_bind,hx w,hy w,h1 w,Result.andThen_ok]
  cases b1
  · simp
  · simpa using h2 w
theorem EqR.struct {d:Nat} {xs ys:Array Value} {l:List (TypeId × Nat)} (hu:tFs P t=some l) (h:EqL P d xs ys l b1):EqR P (d+1) t (.agg xs) (.agg ys) b1:=fun w=>by
  unfold tFs at hu
  split at hu
  · rename_i fs hfs
    split at hu
    · rename_i hc
      simp only [Bool.and_eq_true,Bool.not_eq_true'] at hc
      simp only [Option.some.injEq] at hu
      subst hu
      have e:P.fieldsOf t=fs:=by simp [Program.fieldsOf,hfs]
      rw [run_equalIn_struct w d t xs ys (by rw [e]; exact hfs) hc.2,e]
      exact EqF.of hc.1 h w
    · cases hu
  · cases hu
theorem EqR.arr {d c:Nat} {xs ys:Array Value} (ha:tArr P t=some (m,e)) (hc:P.cellsOf e=c) (hi:(P.info? e).isSome=true) (h:EqI P d e c xs ys (List.range m) b1):EqR P (d+1) t (.agg xs) (.agg ys) b1:=fun w=>by
  obtain ⟨i,hi⟩:=Option.isSome_iff_exists.1 hi
  subst hc
  rw [run_equalIn_array w d xs ys (und_arr ha) hi]; exact h w
theorem RunV.eqAgg {d:Nat} (hd:d+9990=10000) (hg:P.eqGuardType P.depth t=false) (hx:ev L x=some (.agg cs)) (hy:ev L y=some (.agg cs')) (h:EqR P 10000 t (.agg cs) (.agg cs') b1):RunV P n ds L (.binOp .eql t x y t') ty w (.bool b1) w:=fun a d pos af g hf=>by
  simp only [execOp,hf.eval hx,hf.eval hy]
  have e1:(eqGuard .eql t x y (.agg cs) (.agg cs')).run P w=.ok () w:=by
    simp [eqGuard,run_program,hg]
  have e2:(binOp .eql t (.agg cs) (.agg cs')).run P w=.ok (.bool b1) w:=by
    have:=h w
    simp [binOp,Op.equal,Op.maxDepth,Sem.run_bind,this]
  simp only [Sem.run_bind,e1,e2,Result.andThen_ok,Sem.run_pure]
theorem RunV.neAgg {d:Nat} (hd:d+9990=10000) (hg:P.eqGuardType P.depth t=false) (hx:ev L x=some (.agg cs)) (hy:ev L y=some (.agg cs')) (h:EqR P 10000 t (.agg cs) (.agg cs') b1):RunV P n ds L (.binOp .neq t x y t') ty w (.bool (!b1)) w:=fun a d pos af g hf=>by
  simp only [execOp,hf.eval hx,hf.eval hy]
  have e1:(eqGuard .neq t x y (.agg cs) (.agg cs')).run P w=.ok () w:=by
    simp [eqGuard,run_program,hg]
  have e2:(binOp .neq t (.agg cs) (.agg cs')).run P w=.ok (.bool (!b1)) w:=by
    have:=h w
    simp [binOp,Op.equal,Op.maxDepth,Sem.run_bind,this]
  simp only [Sem.run_bind,e1,e2,Result.andThen_ok,Sem.run_pure]
theorem RunV.eqBool (ht:P.underlying t=some .bool) (hx:ev L x=some (.bool b1)) (hy:ev L y=some (.bool b2)):RunV P n ds L (.binOp .eql t x y t') ty w (.bool (b1 == b2)) w:=fun a d pos af g hf=>by
  simp only [execOp,hf.eval hx,hf.eval hy]
  have e1:(eqGuard .eql t x y (.bool b1) (.bool b2)).run P w=.ok () w:=by simp [eqGuard]
  have e2:(binOp .eql t (.bool b1) (.bool b2)).run P w=.ok (.bool (b1 == b2)) w:=by
    have:=(EqR.bool (d:=9999) ht:EqR P 10000 t (.bool b1) (.bool b2) (b1 == b2)) w
    simp only [binOp,Op.equal,Op.maxDepth,Sem.run_bind,this,Result.andThen_ok,Sem.run_pure]
  simp only [Sem.run_bind,e1,e2,Result.andThen_ok,Sem.run_pure]
theorem RunV.neBool (ht:P.underlying t=some .bool) (hx:ev L x=some (.bool b1)) (hy:ev L y=some (.bool b2)):RunV P n ds L (.binOp .neq t x y t') ty w (.bool (!(b1 == b2))) w:=fun a d pos af g hf=>by
  simp only [execOp,hf.eval hx,hf.eval hy]
  have e1:(eqGuard .neq t x y (.bool b1) (.bool b2)).run P w=.ok () w:=by simp [eqGuard]
  have e2:(binOp .neq t (.bool b1) (.bool b2)).run P w=.ok (.bool (!(b1 == b2))) w:=by
    have:=(EqR.bool (d:=9999) ht:EqR P 10000 t (.bool b1) (.bool b2) (b1 == b2)) w
    simp only [binOp,Op.equal,Op.maxDepth,Sem.run_bind,this,Result.andThen_ok,Sem.run_pure]
  simp only [Sem.run_bind,e1,e2,Result.andThen_ok,Sem.run_pure]
end
end Go.SL
