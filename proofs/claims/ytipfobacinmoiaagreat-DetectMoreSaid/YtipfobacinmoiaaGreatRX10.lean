/- Operations with all that hangs on the text alone done first: a kernel that keeps what it has reckoned does that once. -/
import Derived.Test.YtipfobacinmoiaaGreatRX9
set_option linter.unusedVariables false
set_option linter.unusedSimpArgs false
namespace Go.RX
open Go Go.SL
universe u u'
structure HB where
  run:List (Nat × Ent)→S→V→V→R V
structure HI where
  run:IntKind→IntKind→Int→Int→R V
def hkk (f:IntKind→Int→Int→R V):HI:=⟨fun k k' p q=>match kEq k k' with
  | false=>R.fail
  | true=>f k p q⟩
def harith (op:BinOp):HI:=match op with
  | .shl=>⟨fun k _ p q=>(askP (0≤q)).bind fun _=>R.pure (.c (.int k (k.wrap (p*2^(min q.toNat k.bits)))))⟩
  | .shr=>⟨fun k _ p q=>(askP (0≤q)).bind fun _=>R.pure (.c (.int k (p.fdiv (2^(min q.toNat k.bits)))))⟩
  | .add=>hkk fun k p q=>R.pure (.c (.int k (k.wrap (p+q))))
  | .sub=>hkk fun k p q=>R.pure (.c (.int k (k.wrap (p-q))))
  | .mul=>hkk fun k p q=>R.pure (.c (.int k (k.wrap (p*q))))
  | .quo=>hkk fun k p q=>(askP (q≠0)).bind fun _=>R.pure (.c (.int k (k.wrap (p.tdiv q))))
  | .rem=>hkk fun k p q=>(askP (q≠0)).bind fun _=>R.pure (.c (.int k (p.tmod q)))
  | .and=>hkk fun k p q=>R.pure (.c (.int k (SL.bitand k p q)))
  | .or=>hkk fun k p q=>R.pure (.c (.int k (SL.bitor k p q)))
  | .xor=>hkk fun k p q=>R.pure (.c (.int k (SL.bitxor k p q)))
  | .andNot=>hkk fun k p q=>R.pure (.c (.int k (SL.bitandNot k p q)))
  | .eql=>hkk fun _ p q=>R.pure (.c (.bool (decide (p=q))))
  | .neq=>hkk fun _ p q=>R.pure (.c (.bool (decide (p≠q))))
  | .lss=>hkk fun _ p q=>R.pure (.c (.bool (decide (p<q))))
  | .leq=>hkk fun _ p q=>R.pure (.c (.bool (decide (p≤q))))
  | .gtr=>hkk fun _ p q=>R.pure (.c (.bool (decide (p>q))))
  | .geq=>hkk fun _ p q=>R.pure (.c (.bool (decide (p≥q))))
theorem harith_eq (op:BinOp) (k k':IntKind) (p q:Int):(harith op).run k k' p q=xarith op k k' p q:=by
  cases op <;> first | rfl | (simp only [harith,hkk,xarith]; cases kEq k k' <;> rfl)
def hbin (P:Program) (t:TypeId) (op:BinOp):HB:=⟨fun B s u v=>match asC u with
  | some a=>match asC v with
    | some b=>match asS a with
      | .i k p=>match asS b with
        | .i k' q=>(harith op).run k k' p q
        | _=>xbinM P B s t op u v
      | _=>xbinM P B s t op u v
    | none=>xbinM P B s t op u v
  | none=>xbinM P B s t op u v⟩
theorem hbin_eq (P:Program) (t:TypeId) (op:BinOp) (B:List (Nat × Ent)) (s:S) (u v:V):(hbin P t op).run B s u v=xbinM P B s t op u v:=by
  simp only [hbin]
  split
  · rename_i a ha
    have:=asC_some ha
    subst this
    split
    · rename_i b hb
      have:=asC_some hb
      subst this
      split
      · rename_i k p hk
        have:=asS_i hk
        subst this
        split
        · rename_i k' q hq
          have:=asS_i hq
          subst this
          rw [harith_eq]; rfl
        · rfl
      · rfl
    · rfl
  · rfl
structure HR1 where
  run:List (Nat × Ent)→S→R V
structure HX where
  run:S→Option V
def hgs (z:Sl):HX:=⟨fun s=>z.get s.fr⟩
def hget:Operand→HX
  | .tmp t=>hgs (slot 6 t)
  | .const v=>⟨fun _=>some (toV v)⟩
  | .func f=>⟨fun _=>some (.fn f [])⟩
  | .global g=>⟨fun _=>some (.c (.pointer (some ⟨g,0,none⟩)))⟩
theorem hget_eq (x:Operand) (s:S):(hget x).run s=xev s.fr x:=by cases x <;> rfl
def on1 (x:Operand) (f:V→R V):HR1:=⟨fun _ s=>(R.lift ((hget x).run s)).bind f⟩
def on2 (x y:Operand) (f:V→V→R V):HR1:=⟨fun _ s=>(R.lift ((hget x).run s)).bind fun u=>(R.lift ((hget y).run s)).bind fun v=>f u v⟩
theorem on1_eq (x:Operand) (f:V→R V) (B:List (Nat × Ent)) (s:S):(on1 x f).run B s=(getX s x).bind f:=by simp only [on1,hget_eq]; rfl
theorem on2_eq (x y:Operand) (f:V→V→R V) (B:List (Nat × Ent)) (s:S):(on2 x y f).run B s=(getX s x).bind fun u=>(getX s y).bind fun v=>f u v:=by simp only [on2,hget_eq]; rfl
def hread (P:Program) (op:Op):HR1:=match op with
  | .move x=>⟨fun _ s=>R.lift ((hget x).run s)⟩
  | .assign x=>⟨fun _ s=>R.lift ((hget x).run s)⟩
  | .binOp o t x y _=>⟨fun B s=>(R.lift ((hget x).run s)).bind fun u=>(R.lift ((hget y).run s)).bind fun v=>(hbin P t o).run B s u v⟩
  | .unOp o _ x=>on1 x (xun o)
  | .convert t t' x=>on1 x (xconv P t t')
  | .extract x k=>on1 x (xext k)
  | .field t x f=>on1 x (xfield P t f)
  | .fieldAddr t x f=>on1 x (xfieldA P t f)
  | .index t x y=>on2 x y (xindex P t)
  | .nilCheck x=>on1 x xnil
  | .load t x=>match tSize P t with
    | some (_+1)=>⟨fun B s=>(R.lift ((hget x).run s)).bind fun u=>xload P B s t u⟩
    | _=>⟨fun _ _=>R.fail⟩
  | .indexAddr t x y=>⟨fun B s=>(R.lift ((hget x).run s)).bind fun u=>(R.lift ((hget y).run s)).bind fun v=>xindexA P B s t u v⟩
  | op=>⟨fun B s=>xread P B s op⟩
theorem hread_eq (P:Program) (op:Op) (B:List (Nat × Ent)) (s:S):(hread P op).run B s=xread P B s op:=by
  unfold hread
  split
  · simp only [hget_eq]; rfl
  · simp only [hget_eq]; rfl
  · simp only [hget_eq,hbin_eq]; rfl
  · rw [on1_eq]; rfl
  · rw [on1_eq]; rfl
  · rw [on1_eq]; rfl
  · rw [on1_eq]; rfl
  · rw [on1_eq]; rfl
  · rw [on2_eq]; rfl
  · rw [on1_eq]; rfl
  · split
    · rename_i h; simp only [hget_eq,xread,h]; try rfl
    · rename_i h
      simp only [xread]
  · simp only [hget_eq]; rfl
  · rfl
structure HO where
  run:List (Nat × Ent)→Tab→S→R S
def hps (z:Sl) (h:HR1):HO:=⟨fun B _ s=>match s with
  | ⟨fr,H,nx,df⟩=>(h.run B ⟨fr,H,nx,df⟩).bind fun u=>R.pure ⟨z.put fr u,H,nx,df⟩⟩
def hput (n:Nat) (dst:Option Tmp) (h:HR1):HO:=match dst with
  | some d=>match Nat.blt d n with
    | true=>hps (slot 6 d) h
    | false=>⟨fun B _ s=>(h.run B s).bind fun _=>R.fail⟩
  | none=>⟨fun B _ s=>(h.run B s).bind fun _=>R.pure s⟩
theorem hput_eq (n:Nat) (dst:Option Tmp) (h:HR1) (B:List (Nat × Ent)) (T:Tab) (s:S):(hput n dst h).run B T s=(h.run B s).bind fun u=>putS n s dst u:=by
  unfold hput putS
  split
  · split <;> (rename_i hb; simp only [hb]; try rfl)
  · rfl
def hone (P:Program) (n:Nat) (dst:Option Tmp) (op:Op):HO:=match op with
  | .alloc t=>⟨fun _ _ s=>xalloc P n s dst t⟩
  | .box t x=>⟨fun _ _ s=>xbox n s dst t x⟩
  | .store t x y=>⟨fun _ _ s=>xstore P s dst t x y⟩
  | .buildSlice t len parts=>⟨fun _ _ s=>xbuildSlice P n s dst t len parts.toList⟩
  | .makeSlice t x y=>⟨fun _ _ s=>xmake P n s dst t x y⟩
  | .call ⟨.builtin .append,args,at_⟩=>⟨fun B _ s=>xappend P B n s dst args.toList at_.toList⟩
  | .call ⟨.value f,args,_⟩=>⟨fun B T s=>xcall P B T n s dst f args.toList⟩
  | .makeMap _ none=>⟨fun _ _ s=>xmakeMap n s dst⟩
  | .mapUpdate t x y z=>⟨fun _ _ s=>xmapUpd P s dst t x y z⟩
  | .call ⟨.builtin .delete,args,at_⟩=>⟨fun _ _ s=>xmapDel P s dst at_.toList args.toList⟩
  | op=>hput n dst (hread P op)
theorem hone_eq (P:Program) (n:Nat) (dst:Option Tmp) (op:Op) (B:List (Nat × Ent)) (T:Tab) (s:S):(hone P n dst op).run B T s=xone P B T n s dst op:=by
  unfold hone xone
  split
  · rfl
  · rfl
  · rfl
  · rfl
  · rfl
  · rfl
  · rfl
  · rfl
  · rfl
  · rfl
  · rw [hput_eq]; simp only [hread_eq]
def hoper (P:Program) (n:Nat) (ops:Array Oper) (o:Oper):HO:=match o.guard with
  | none=>hone P n o.dst o.op
  | some _=>⟨fun B T s=>xoper P B T n ops s o⟩
theorem hoper_eq (P:Program) (n:Nat) (ops:Array Oper) (o:Oper) (B:List (Nat × Ent)) (T:Tab) (s:S):(hoper P n ops o).run B T s=xoper P B T n ops s o:=by
  unfold hoper
  split
  · rename_i h; rw [hone_eq]; simp only [xoper,h]
  · rfl
def hops (P:Program) (n:Nat) (ops:Array Oper):List Oper→HO
  | []=>⟨fun _ _ s=>R.pure s⟩
  | o::t=>⟨fun B T s=>((hoper P n ops o).run B T s).bind fun s1=>(hops P n ops t).run B T s1⟩
theorem hops_eq (P:Program) (n:Nat) (ops:Array Oper) (B:List (Nat × Ent)) (T:Tab):∀ (l:List Oper) (s:S),(hops P n ops l).run B T s=xops P B T n ops l s
  | [],s=>rfl
  | o::t,s=>by
    simp only [hops,xops,hoper_eq]
    congr 1
    funext s1
    exact hops_eq P n ops B T t s1
end Go.RX
