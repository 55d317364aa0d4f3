/- Part of a proof: laws and walks. -/
import Derived.Test.YtipfobacinmoiaaGreatTaq
import Derived.Test.YtipfobacinmoiaaGreatTad
import Derived.Test.YtipfobacinmoiaaGreatTaf
import Derived.Test.YtipfobacinmoiaaGreatTao
import Derived.Test.YtipfobacinmoiaaGreatTag
import Derived.Test.YtipfobacinmoiaaGreatTal
set_option linter.unusedVariables false
set_option linter.unusedSimpArgs false
namespace Go.RX
open Go Go.SL
universe u u'
structure HB where
  run:List (Nat × Ent)→S→V→V→R V
structure HI where
  run:IntKind→IntKind→Int→Int→R V
def hkk (f:IntKind→Int→Int→R V):HI:=⟨fun k k' p q=>match kEq k k' with
  | false=>R.fail
  | true=>f k p q⟩
def harith (op:BinOp):HI:=match op with
  | .shl=>⟨fun k _ p q=>(iD (0≤q)).bind fun _=>R.pure (.c (.int k (k.wrap (p*2^(min q.toNat k.bits)))))⟩
  | .shr=>⟨fun k _ p q=>(iD (0≤q)).bind fun _=>R.pure (.c (.int k (p.fdiv (2^(min q.toNat k.bits)))))⟩
  | .add=>hkk fun k p q=>R.pure (.c (.int k (k.wrap (p+q))))
  | .sub=>hkk fun k p q=>R.pure (.c (.int k (k.wrap (p-q))))
  | .mul=>hkk fun k p q=>R.pure (.c (.int k (k.wrap (p*q))))
  | .quo=>hkk fun k p q=>(iD (q≠0)).bind fun _=>R.pure (.c (.int k (k.wrap (p.tdiv q))))
  | .rem=>hkk fun k p q=>(iD (q≠0)).bind fun _=>R.pure (.c (.int k (p.tmod q)))
  | .and=>hkk fun k p q=>R.pure (.c (.int k (SL.bitand k p q)))
  | .or=>hkk fun k p q=>R.pure (.c (.int k (SL.bitor k p q)))
  | .xor=>hkk fun k p q=>R.pure (.c (.int k (SL.bitxor k p q)))
  | .andNot=>hkk fun k p q=>R.pure (.c (.int k (SL.jY k p q)))
  | .eql=>hkk fun _ p q=>R.pure (.c (.bool (decide (p=q))))
  | .neq=>hkk fun _ p q=>R.pure (.c (.bool (decide (p≠q))))
  | .lss=>hkk fun _ p q=>R.pure (.c (.bool (decide (p<q))))
  | .leq=>hkk fun _ p q=>R.pure (.c (.bool (decide (p≤q))))
  | .gtr=>hkk fun _ p q=>R.pure (.c (.bool (decide (p>q))))
  | .geq=>hkk fun _ p q=>R.pure (.c (.bool (decide (p≥q))))
theorem aCm (op:BinOp) (k k':IntKind) (p q:Int):(harith op).run k k' p q=xarith op k k' p q:=by
  cases op <;> first | rfl | (simp only [harith,hkk,xarith]; cases kEq k k' <;> rfl)
def hbin (P:Program) (t:TypeId) (op:BinOp):HB:=⟨fun B s u v=>match asC u with
  | some a=>match asC v with
    | some b=>match asS a with
      | .i k p=>match asS b with
        | .i k' q=>(harith op).run k k' p q
        | _=>oo P B s t op u v
      | _=>oo P B s t op u v
    | none=>oo P B s t op u v
  | none=>oo P B s t op u v⟩
theorem aF7 (P:Program) (t:TypeId) (op:BinOp) (B:List (Nat × Ent)) (s:S) (u v:V):(hbin P t op).run B s u v=oo P B s t op u v:=by
  simp only [hbin]
  split
  · rename_i a ha
    have:=gL ha
    subst this
    split
    · rename_i b hb
      have:=gL hb
      subst this
      split
      · rename_i k p hk
        have:=yT hk
        subst this
        split
        · rename_i k' q hq
          have:=yT hq
          subst this
          rw [aCm]; rfl
        · rfl
      · rfl
    · rfl
  · rfl
structure HR1 where
  run:List (Nat × Ent)→S→R V
structure HX where
  run:S→Option V
def hgs (z:Sl):HX:=⟨fun s=>z.get s.fr⟩
def hget:Operand→HX
  | .tmp t=>hgs (slot 6 t)
  | .const v=>⟨fun _=>some (toV v)⟩
  | .func f=>⟨fun _=>some (.fn f [])⟩
  | .global g=>⟨fun _=>some (.c (.pointer (some ⟨g,0,none⟩)))⟩
theorem jG (x:Operand) (s:S):(hget x).run s=xev s.fr x:=by cases x <;> rfl
def on1 (x:Operand) (f:V→R V):HR1:=⟨fun _ s=>(R.lift ((hget x).run s)).bind f⟩
def on2 (x y:Operand) (f:V→V→R V):HR1:=⟨fun _ s=>(R.lift ((hget x).run s)).bind fun u=>(R.lift ((hget y).run s)).bind fun v=>f u v⟩
theorem oI (x:Operand) (f:V→R V) (B:List (Nat × Ent)) (s:S):(on1 x f).run B s=(dm s x).bind f:=by simp only [on1,jG]; rfl
theorem aHO (x y:Operand) (f:V→V→R V) (B:List (Nat × Ent)) (s:S):(on2 x y f).run B s=(dm s x).bind fun u=>(dm s y).bind fun v=>f u v:=by simp only [on2,jG]; rfl
def hread (P:Program) (op:Op):HR1:=match op with
  | .move x=>⟨fun _ s=>R.lift ((hget x).run s)⟩
  | .assign x=>⟨fun _ s=>R.lift ((hget x).run s)⟩
  | .binOp o t x y _=>⟨fun B s=>(R.lift ((hget x).run s)).bind fun u=>(R.lift ((hget y).run s)).bind fun v=>(hbin P t o).run B s u v⟩
  | .unOp o _ x=>on1 x (xun o)
  | .convert t t' x=>on1 x (xconv P t t')
  | .extract x k=>on1 x (xext k)
  | .field t x f=>on1 x (xfield P t f)
  | .fieldAddr t x f=>on1 x (qA P t f)
  | .index t x y=>on2 x y (xindex P t)
  | .nilCheck x=>on1 x xnil
  | .load t x=>match ay P t with
    | some (_+1)=>⟨fun B s=>(R.lift ((hget x).run s)).bind fun u=>xload P B s t u⟩
    | _=>⟨fun _ _=>R.fail⟩
  | .indexAddr t x y=>⟨fun B s=>(R.lift ((hget x).run s)).bind fun u=>(R.lift ((hget y).run s)).bind fun v=>pO P B s t u v⟩
  | op=>⟨fun B s=>xread P B s op⟩
theorem aDy (P:Program) (op:Op) (B:List (Nat × Ent)) (s:S):(hread P op).run B s=xread P B s op:=by
  unfold hread
  split
  · simp only [jG]; rfl
  · simp only [jG]; rfl
  · simp only [jG,aF7]; rfl
  · rw [oI]; rfl
  · rw [oI]; rfl
  · rw [oI]; rfl
  · rw [oI]; rfl
  · rw [oI]; rfl
  · rw [aHO]; rfl
  · rw [oI]; rfl
  · split
    · rename_i h; simp only [jG,xread,h]; try rfl
    · rename_i h
      simp only [xread]
  · simp only [jG]; rfl
  · rfl
structure HO where
  run:List (Nat × Ent)→Tab→S→R S
def hps (z:Sl) (h:HR1):HO:=⟨fun B _ s=>match s with
  | ⟨fr,H,nx,df⟩=>(h.run B ⟨fr,H,nx,df⟩).bind fun u=>R.pure ⟨z.put fr u,H,nx,df⟩⟩
def hput (n:Nat) (dst:Option Tmp) (h:HR1):HO:=match dst with
  | some d=>match Nat.blt d n with
    | true=>hps (slot 6 d) h
    | false=>⟨fun B _ s=>(h.run B s).bind fun _=>R.fail⟩
  | none=>⟨fun B _ s=>(h.run B s).bind fun _=>R.pure s⟩
theorem aFO (n:Nat) (dst:Option Tmp) (h:HR1) (B:List (Nat × Ent)) (T:Tab) (s:S):(hput n dst h).run B T s=(h.run B s).bind fun u=>aDH n s dst u:=by
  unfold hput aDH
  split
  · split <;> (rename_i hb; simp only [hb]; try rfl)
  · rfl
def hone (P:Program) (n:Nat) (dst:Option Tmp) (op:Op):HO:=match op with
  | .alloc t=>⟨fun _ _ s=>xalloc P n s dst t⟩
  | .box t x=>⟨fun _ _ s=>xbox n s dst t x⟩
  | .store t x y=>⟨fun _ _ s=>xstore P s dst t x y⟩
  | .buildSlice t len parts=>⟨fun _ _ s=>jJ P n s dst t len parts.toList⟩
  | .makeSlice t x y=>⟨fun _ _ s=>xmake P n s dst t x y⟩
  | .call ⟨.builtin .append,args,at_⟩=>⟨fun B _ s=>xappend P B n s dst args.toList at_.toList⟩
  | .call ⟨.value f,args,_⟩=>⟨fun B T s=>xcall P B T n s dst f args.toList⟩
  | .makeMap _ none=>⟨fun _ _ s=>qF n s dst⟩
  | .mapUpdate t x y z=>⟨fun _ _ s=>p8 P s dst t x y z⟩
  | .call ⟨.builtin .delete,args,at_⟩=>⟨fun _ _ s=>pu P s dst at_.toList args.toList⟩
  | op=>hput n dst (hread P op)
theorem aFk (P:Program) (n:Nat) (dst:Option Tmp) (op:Op) (B:List (Nat × Ent)) (T:Tab) (s:S):(hone P n dst op).run B T s=xone P B T n s dst op:=by
  unfold hone xone
  split
  · rfl
  · rfl
  · rfl
  · rfl
  · rfl
  · rfl
  · rfl
  · rfl
  · rfl
  · rfl
  · rw [aFO]; simp only [aDy]
def hoper (P:Program) (n:Nat) (ops:Array Oper) (o:Oper):HO:=match o.guard with
  | none=>hone P n o.dst o.op
  | some _=>⟨fun B T s=>xoper P B T n ops s o⟩
theorem q8 (P:Program) (n:Nat) (ops:Array Oper) (o:Oper) (B:List (Nat × Ent)) (T:Tab) (s:S):(hoper P n ops o).run B T s=xoper P B T n ops s o:=by
  unfold hoper
  split
  · rename_i h; rw [aFk]; simp only [xoper,h]
  · rfl
def hops (P:Program) (n:Nat) (ops:Array Oper):List Oper→HO
  | []=>⟨fun _ _ s=>R.pure s⟩
  | o::t=>⟨fun B T s=>((hoper P n ops o).run B T s).bind fun s1=>(hops P n ops t).run B T s1⟩
theorem aBb (P:Program) (n:Nat) (ops:Array Oper) (B:List (Nat × Ent)) (T:Tab):∀ (l:List Oper) (s:S),(hops P n ops l).run B T s=xops P B T n ops l s
  | [],s=>rfl
  | o::t,s=>by
    simp only [hops,xops,q8]
    congr 1
    funext s1
    exact aBb P n ops B T t s1
end Go.RX

namespace Go.RX
open Go Go.SL
universe u u'
def dd:List Nat→List Nat
  | []=>[]
  | k::t=>match (dd t).contains k with
    | true=>dd t
    | false=>k::dd t
theorem nA:∀ l:List Nat,nodupB (dd l)=true
  | []=>rfl
  | k::t=>by
    simp only [dd]
    split
    · exact nA t
    · rename_i h
      simp only [nodupB,h,Bool.not_false,Bool.true_and]
      exact nA t
theorem nZ {e:Nat}:∀ {l:List Nat},e ∈ dd l↔e ∈ l
  | []=>Iff.rfl
  | k::t=>by
    simp only [dd]
    split
    · rename_i h
      rw [nZ,List.mem_cons]
      refine ⟨fun h1=>.inr h1,fun h1=>?_⟩
      rcases h1 with rfl | h1
      · exact nZ.1 (by simpa using h)
      · exact h1
    · simp only [List.mem_cons,nZ]
def tmpsOf (ops:Array Oper) (o:Oper):List Nat :=
  (match o.guard with
    | some (j,_)=>match ai ops j with
      | some d=>[d]
      | none=>[]
    | none=>[])++o.op.operands.toList.filterMap fun x=>match x with
    | .tmp t=>some t
    | _=>none
def aH9 (ops:Array Oper) (i q:Nat):Bool:=(List.range ops.size).all fun j=>match ai ops j with
  | some d=>!Nat.beq d q||Nat.beq j i||(preB ops j).contains i
  | none=>true
def uG (ops:Array Oper) (q:Nat):List Nat→Option Nat
  | []=>none
  | p::t=>match ai ops p with
    | some d=>match Nat.beq d q with
      | true=>some p
      | false=>uG ops q t
    | none=>uG ops q t
def sQ (s:S) (ops:Array Oper) (done:List OpR) (i q:Nat):Option V:=match uG ops q (dA ops i) with
  | some p=>(done[p]?).bind (·.v)
  | none=>match aH9 ops i q with
    | true=>lkV s.fr q
    | false=>none
def aET (wrF:FuncId→Bool) (all:List Nat) (fr:Fm) (o:Op):List Nat:=match o with
  | .store _ x _=>match xev fr x with
    | some u=>dd (r9 u)
    | none=>[]
  | .mapUpdate _ x _ _=>match xev fr x with
    | some u=>dd (r9 u)
    | none=>[]
  | .call ⟨.builtin .delete,args,_⟩=>match args.toList with
    | x::_=>match xev fr x with
      | some u=>dd (r9 u)
      | none=>[]
    | []=>[]
  | .call ⟨.builtin .append,args,_⟩=>match args.toList with
    | x::_=>match xev fr x with
      | some u=>dd (r9 u)
      | none=>[]
    | []=>[]
  | .call ⟨.builtin .copy,args,_⟩=>match args.toList with
    | x::_=>match xev fr x with
      | some u=>dd (r9 u)
      | none=>[]
    | []=>[]
  | .call ⟨.value f,_,_⟩=>match xev fr f with
    | some (.fn fid _)=>match wrF fid with
      | true=>all
      | false=>[]
    | some (.bf fid _)=>match wrF fid with
      | true=>all
      | false=>[]
    | some (.yd _)=>all
    | _=>[]
  | _=>[]
def l8 (ops:Array Oper) (i:Nat) (a:OpR) (j:Nat) (b:OpR):Bool :=
  (preB ops j).contains i||((b.own++b.ro).all (fun e=>!a.touch e)&&b.own.all (fun e=>!a.ro.contains e))
def pM (ops:Array Oper) (i:Nat) (a:OpR):Nat→List OpR→Bool
  | _,[]=>true
  | j,b::t=>l8 ops i a j b&&pM ops i a (j+1) t
def wO (ops:Array Oper):Nat→List OpR→Bool
  | _,[]=>true
  | i,a::t=>pM ops i a (i+1) t&&wO ops (i+1) t
theorem rH {ops:Array Oper} {i:Nat} {a:OpR}:∀ {t:List OpR} {j:Nat},pM ops i a j t=true→∀ k b,t[k]? = some b→l8 ops i a (j+k) b=true
  | [],_,_,k,b,h=>by simp at h
  | b0::t,j,h,k,b,hk=>by
    simp only [pM,Bool.and_eq_true] at h
    cases k with
    | zero=>simp only [List.getElem?_cons_zero,Option.some.injEq] at hk; subst hk; exact h.1
    | succ k =>
      simp only [List.getElem?_cons_succ] at hk
      have:=rH h.2 k b hk
      rw [← this]; congr 1; omega
theorem sZ {ops:Array Oper}:∀ {t:List OpR} {i:Nat},wO ops i t=true→∀ k l a b,t[k]? = some a→t[l]? = some b→k<l→l8 ops (i+k) a (i+l) b=true
  | [],_,_,k,l,a,b,h,_,_=>by simp at h
  | a0::t,i,h,k,l,a,b,hk,hl,hlt=>by
    simp only [wO,Bool.and_eq_true] at h
    cases l with
    | zero=>omega
    | succ l =>
      simp only [List.getElem?_cons_succ] at hl
      cases k with
      | zero =>
        simp only [List.getElem?_cons_zero,Option.some.injEq] at hk
        subst hk
        have:=rH h.1 l b hl
        rw [← this]; congr 1; omega
      | succ k =>
        simp only [List.getElem?_cons_succ] at hk
        have:=sZ h.2 k l a b hk hl (by omega)
        rw [← this]; congr 1 <;> omega
def aJD:Op→Bool
  | .move _=>false
  | .assign _=>false
  | .binOp _ _ _ _ _=>false
  | .unOp _ _ _=>false
  | .convert _ _ _=>false
  | .extract _ _=>false
  | .field _ _ _=>false
  | .fieldAddr _ _ _=>false
  | .nilCheck _=>false
  | .index _ _ _=>false
  | .alloc _=>false
  | _=>true
structure Good (P:Program) (B:List (Nat × Ent)) (n:Nat) (ops:Array Oper) (s:S) (done:List OpR) (o:Oper) (r:OpR):Prop where
  st:∃ (fr:Fm) (s':S),(∀ q u,lkV fr q=some u→sQ s ops done done.length q=some u)∧(∀ r0 w0 X,zI r0 P w0 X (pick (ver s done allT) r.ro++B) n ops ⟨fr,pick (ver s done allT) r.own,r.nx,s.df⟩ o s')∧s'.H=r.aft∧s'.nx=r.nx'∧s'.df=s.df∧∀ d,o.dst=some d→∃ u,r.v=some u∧lkV s'.fr d=some u
  nx:r.nx=kH s done
  le:r.nx≤r.nx'
  nd:nodupB r.own=true∧nodupB r.ro=true
  lt:∀ e,e ∈ r.own∨e ∈ r.ro→e<r.nx
  ks:∀ e,e ∈ cK r.aft→r.touch e=true
  dj:∀ e,e ∈ r.ro→e ∉ r.own
structure AccD where
  mf:Fm
  H:List (Nat × Ent)
  nx:Nat
  rs:List OpR
  qt:Bool
  df:List Df
def xH:List Df→List Df→Bool
  | [],[]=>true
  | .mark e::t,.mark e'::t'=>Nat.beq e e'&&xH t t'
  | _,_=>false
theorem aBs:∀ {l m:List Df},xH l m=true→l=m
  | [],[],_=>rfl
  | [],_::_,h=>by cases h
  | .call _ _::_,_,h=>by cases h
  | .mark _::_,[],h=>by cases h
  | .mark _::_,.call _ _::_,h=>by cases h
  | .mark e::t,.mark e'::t',h=>by
    simp only [xH,Bool.and_eq_true] at h
    rw [Nat.eq_of_beq_eq_true h.1,aBs h.2]
structure HFr where
  run:Fm→Fm
  vals:Fm→List V
def hfr:List Nat→HFr
  | []=>⟨fun _=>.e,fun _=>[]⟩
  | q::t=>⟨fun mf=>match (slot 6 q).get mf with
    | some u=>(slot 6 q).put ((hfr t).run mf) u
    | none=>(hfr t).run mf,fun mf=>match (slot 6 q).get mf with
    | some u=>u::(hfr t).vals mf
    | none=>(hfr t).vals mf⟩
def okQ (ops:Array Oper) (i q:Nat):Bool:=match uG ops q (dA ops i) with
  | some p=>Nat.blt p i
  | none=>aH9 ops i q&&(List.range i).all fun j=>match ai ops j with
    | some d=>!Nat.beq d q
    | none=>true
def aIS (wrF:FuncId→Bool) (o:Op) (get:Nat→Option Ent) (fr:Fm) (vs:List V):List Nat × List Nat:=match o with
  | .call ⟨.value _,_,_⟩=>(fun all=>(fun own=>(own,all.filter fun e=>!own.contains e)) (aET wrF all fr o)) (clos get 1000 (ru vs) [])
  | _=>(fun all=>(fun own=>(own,all.filter fun e=>!own.contains e)) (aET wrF all fr o)) (dd (ru vs))
structure HDr where
  run:List (Nat × Ent)→Tab→AccD→R AccD
def aIH (fr:Fm) (d:Option Tmp):Option (Option V):=match d with
  | none=>some none
  | some d=>match lkV fr d with
    | some u=>some (some u)
    | none=>none
def aCM (mf:Fm) (d:Option Tmp) (v:Option V):Fm:=match d with
  | none=>mf
  | some d=>match v with
    | some u=>kG mf d u
    | none=>mf
def aHN (z:AccD) (own ro:List Nat):Bool:=nodupB own&&(nodupB ro&&((own++ro).all (fun e=>Nat.blt e z.nx)&&ro.all (fun e=>!own.contains e)))
def aIe (z:AccD) (own:List Nat) (s':S):Bool:=Nat.ble z.nx s'.nx&&(cK s'.H).all fun e=>own.contains e||(Nat.ble z.nx e&&Nat.blt e s'.nx)
def aHG (z:AccD) (own ro:List Nat) (s':S) (d:Option Tmp) (v:Option V):AccD:=match z with
  | ⟨mf,H,nx,rs,qt,df⟩=>match s' with
    | ⟨_,H',nx',_⟩=>match own,Nat.beq nx nx' with
      | [],true=>⟨aCM mf d v,H,nx',⟨[],ro,nx,nx',v,H'⟩::rs,qt,df⟩
      | [],false=>⟨aCM mf d v,H'++H,nx',⟨[],ro,nx,nx',v,H'⟩::rs,false,df⟩
      | _,_=>⟨aCM mf d v,H'++H.filter (fun p=>!(⟨own,ro,nx,nx',v,H'⟩:OpR).touch p.1),nx',⟨own,ro,nx,nx',v,H'⟩::rs,false,df⟩
def aGF (z:AccD) (own ro:List Nat) (d:Option Tmp) (s':S):R AccD:=match aIe z own s' with
  | false=>R.fail
  | true=>match xH s'.df z.df with
    | false=>R.fail
    | true=>match aIH s'.fr d with
      | none=>R.fail
      | some v=>R.pure (aHG z own ro s' d v)
def hdM (P:Program) (n:Nat) (ops:Array Oper) (o:Oper) (B:List (Nat × Ent)) (T:Tab) (z:AccD) (fr:Fm):List Nat × List Nat→R AccD
  | (own,ro)=>match aHN z own ro with
    | false=>R.fail
    | true=>((hoper P n ops o).run (pick (lkE z.H) ro++B) T ⟨fr,pick (lkE z.H) own,z.nx,z.df⟩).bind (aGF z own ro o.dst)
def hd1 (P:Program) (wrF:FuncId→Bool) (n:Nat) (ops:Array Oper) (i:Nat) (o:Oper):HDr:=match (tmpsOf ops o).all (okQ ops i) with
  | false=>⟨fun _ _ _=>R.fail⟩
  | true=>match aJD o.op with
    | false=>⟨fun B T z=>match z with
      | ⟨mf,H,nx,rs,qt,df⟩=>((hoper P n ops o).run B T ⟨(hfr (tmpsOf ops o)).run mf,[],nx,df⟩).bind (aGF ⟨mf,H,nx,rs,qt,df⟩ [] [] o.dst)⟩
    | true=>⟨fun B T z=>(fun fr=>hdM P n ops o B T z fr (aIS wrF o.op (lkE z.H) fr ((hfr (tmpsOf ops o)).vals z.mf))) ((hfr (tmpsOf ops o)).run z.mf)⟩
def hdL (P:Program) (wrF:FuncId→Bool) (n:Nat) (ops:Array Oper):Nat→List Oper→HDr
  | _,[]=>⟨fun _ _ z=>R.pure z⟩
  | i,o::t=>⟨fun B T z=>((hd1 P wrF n ops i o).run B T z).bind fun z'=>(hdL P wrF n ops (i+1) t).run B T z'⟩
def mP:Nat→List (Nat × Ent)→Bool
  | _,[]=>true
  | k,(e,_)::t=>match Nat.blt e k with
    | true=>mP e t
    | false=>false
def aIU:List (Nat × Ent)→Bool
  | []=>true
  | (e,_)::t=>mP e t
def vg (nx:Nat):List (Nat × Ent)→Bool
  | []=>true
  | (k,_)::t=>match Nat.blt k nx with
    | true=>vg nx t
    | false=>false
theorem uE {nx:Nat}:∀ {H:List (Nat × Ent)},vg nx H=true→∀ e,e ∈ cK H→e<nx
  | [],_,e,he=>by cases he
  | (k,x)::t,h,e,he=>by
    simp only [vg] at h
    split at h
    · rename_i hb
      simp only [cK,List.map_cons,List.mem_cons] at he
      rcases he with rfl | he
      · simpa using hb
      · exact uE h e he
    · cases h
def aEn (H:List (Nat × Ent)):List (Nat × Ent):=match aIU H with
  | true=>H
  | false=>pick (lkE H) (dd (cK H))
def hdraw (P:Program) (wrF:FuncId→Bool) (n:Nat) (ops:Array Oper):HO:=match P.follows .mixedOrders&&rq ops&&ops.all (fun o=>bJ o.op)&&dQ ops [] with
  | false=>⟨fun _ _ _=>R.fail⟩
  | true=>⟨fun B T s=>match xH s.df s.df&&vg s.nx s.H with
    | false=>R.fail
    | true=>((hdL P wrF n ops 0 ops.toList).run B T ⟨s.fr,s.H,s.nx,[],true,s.df⟩).bind fun z=>match z.qt||wO ops 0 z.rs.reverse with
      | false=>R.fail
      | true=>R.pure ⟨z.mf,aEn z.H,z.nx,s.df⟩⟩
def bmF (acc:List (List Nat)) (o:Oper):List (List Nat):=acc++[((preds o)++(preds o).flatMap fun p=>acc.getD p []).eraseDups]
def aFS (ops:List Oper) (acc:List (List Nat)):Prop:=acc.length=ops.length∧∀ i o,ops[i]? = some o→∀ j ∈ acc.getD i [],j ∈ preds o∨∃ p ∈ preds o,j ∈ acc.getD p []
theorem xS {acc:List (List Nat)} {x:List Nat} {i:Nat} {j:Nat} (h:j ∈ acc.getD i []):j ∈ (acc++[x]).getD i []:=by
  have hi:i<acc.length:=by
    rcases Nat.lt_or_ge i acc.length with h1 | h1
    · exact h1
    · rw [List.getD_eq_getElem?_getD,List.getElem?_eq_none h1] at h; simp at h
  rw [List.getD_eq_getElem?_getD,List.getElem?_append_left hi,← List.getD_eq_getElem?_getD]; exact h
theorem aBK:∀ (l done:List Oper) (acc:List (List Nat)),aFS done acc→aFS (done++l) (l.foldl bmF acc)
  | [],done,acc,h=>by simpa using h
  | o::t,done,acc,h=>by
    have h2:aFS (done++[o]) (bmF acc o):=by
      obtain ⟨h1,h3⟩:=h
      refine ⟨by simp [bmF,h1],fun i o' hi j hj=>?_⟩
      rcases Nat.lt_or_ge i done.length with hl | hl
      · rw [List.getElem?_append_left hl] at hi
        have e:(bmF acc o).getD i []=acc.getD i []:=by
          unfold bmF
          rw [List.getD_eq_getElem?_getD,List.getElem?_append_left (by omega),← List.getD_eq_getElem?_getD]
        rw [e] at hj
        rcases h3 i o' hi j hj with h4 | ⟨p,hp,h4⟩
        · exact .inl h4
        · exact .inr ⟨p,hp,xS h4⟩
      · have hi':i=done.length:=by
          have:=(List.getElem?_eq_some_iff.1 hi).1
          simp at this; omega
        subst hi'
        rw [List.getElem?_append_right (by omega)] at hi
        simp only [Nat.sub_self,List.getElem?_cons_zero,Option.some.injEq] at hi
        subst hi
        have e:(bmF acc o).getD done.length []=((preds o)++(preds o).flatMap fun p=>acc.getD p []).eraseDups:=by
          unfold bmF
          rw [List.getD_eq_getElem?_getD,← h1,List.getElem?_append_right (by omega)]
          simp
        rw [e,List.mem_eraseDups,List.mem_append,List.mem_flatMap] at hj
        rcases hj with h4 | ⟨p,hp,h4⟩
        · exact .inl h4
        · exact .inr ⟨p,hp,xS h4⟩
    have h5:=aBK t (done++[o]) (bmF acc o) h2
    simpa using h5
theorem aHL (ops:Array Oper):vBm ops (jA ops)=true:=by
  have h:aFS ops.toList (jA ops):=by
    have:=aBK ops.toList [] [] ⟨rfl,by simp⟩
    rw [List.nil_append] at this
    exact this
  unfold vBm
  rw [List.all_eq_true]
  intro i hi
  rw [List.all_eq_true]
  intro j hj
  obtain ⟨o,ho⟩:∃ o,ops[i]? = some o:=⟨ops[i]'(by simpa using hi),by simp at hi; simp [hi]⟩
  have hp:dA ops i=preds o:=by unfold dA; rw [ho]
  rw [hp]
  rcases h.2 i o (by simpa using ho) j hj with h1 | ⟨p,h1,h2⟩
  · simp [h1]
  · rw [Bool.or_eq_true,List.any_eq_true]
    exact .inr ⟨p,h1,by simpa using h2⟩
structure Inv (ops:Array Oper) (s:S) (done:List OpR) (z:AccD):Prop where
  mf:∀ q u,lkV z.mf q=some u→(∃ j r,done[j]? = some r∧ai ops j=some q∧r.v=some u)∨(lkV s.fr q=some u∧∀ j,j<done.length→ai ops j≠some q)
  H:∀ e,lkE z.H e=ver s done allT e
  nx:z.nx=kH s done
  rs:z.rs.reverse=done
  qt:z.qt=true→∀ r ∈ done,r.own=[]∧r.nx=r.nx'
  df:z.df=s.df
  kb:∀ e,e ∈ cK z.H→e<z.nx
theorem jq {ops:Array Oper} {q p:Nat}:∀ {l:List Nat},uG ops q l=some p→p ∈ l∧ai ops p=some q
  | [],h=>by cases h
  | k::t,h=>by
    simp only [uG] at h
    split at h
    · rename_i d hd
      split at h
      · rename_i hb
        have:=Nat.eq_of_beq_eq_true hb
        subst this
        simp only [Option.some.injEq] at h
        subst h
        exact ⟨by simp,hd⟩
      · have:=jq h; exact ⟨by simp [this.1],this.2⟩
    · have:=jq h; exact ⟨by simp [this.1],this.2⟩
theorem aBe {ops:Array Oper} (hd:dQ ops []=true) {i j d:Nat} (h1:ai ops i=some d) (h2:ai ops j=some d):i=j:=by
  have hs:∀ k,ai ops k=some d→k<ops.size:=fun k hk=>by
    rcases Nat.lt_or_ge k ops.size with h | h
    · exact h
    · simp [ai,Array.getElem?_eq_none h] at hk
  have key:∀ i j,i<ops.size→j<i→ai ops i=some d→ai ops j=some d→False:=fun i j hi hji h1 h2=>by
    have h:=List.all_eq_true.1 hd i (by simpa using hi)
    simp only [h1,Bool.and_eq_true] at h
    have h:=List.all_eq_true.1 h.2 j (by simpa using hji)
    simp [h2,Nat.beq_refl] at h
  rcases Nat.lt_trichotomy i j with h | h | h
  · exact (key j i (hs j h2) h h2 h1).elim
  · exact h
  · exact (key i j (hs i h1) h h1 h2).elim
theorem gW {s:S}:∀ (l:List OpR) (r:OpR),kH s (l++[r])=r.nx'
  | [],r=>rfl
  | [a],r=>rfl
  | a::b::t,r=>by
    have:=gW (s:=s) (b::t) r
    simpa [kH] using this
theorem vJ {mf:Fm}:∀ {ts:List Nat} {q:Nat} {u:V},lkV ((hfr ts).run mf) q=some u→q ∈ ts∧lkV mf q=some u
  | [],_,_,h=>by rw [show (hfr []).run mf=.e from rfl,aDp] at h; cases h
  | t::r,q,u,h=>by
    have h0:(hfr (t::r)).run mf=match lkV mf t with
      | some u=>kG ((hfr r).run mf) t u
      | none=>(hfr r).run mf:=rfl
    rw [h0] at h
    cases hx:lkV mf t with
    | some u' =>
      rw [hx] at h
      rcases qR h with ⟨rfl,rfl⟩ | ⟨_,h2⟩
      · exact ⟨by simp,hx⟩
      · have:=vJ h2; exact ⟨by simp [this.1],this.2⟩
    | none =>
      rw [hx] at h
      have:=vJ h; exact ⟨by simp [this.1],this.2⟩
theorem Inv.slot {ops:Array Oper} {s:S} {done:List OpR} {z:AccD} (h:Inv ops s done z) (hd:dQ ops []=true) {q:Nat} {u:V} (hq:okQ ops done.length q=true) (hu:lkV z.mf q=some u):sQ s ops done done.length q=some u:=by
  unfold okQ at hq
  unfold sQ
  split at hq
  · rename_i p hp
    have hlt:p<done.length:=by simpa using hq
    have hdp:=(jq hp).2
    rcases h.mf q u hu with ⟨j,r,h1,h2,h3⟩ | ⟨_,h2⟩
    · have:=aBe hd h2 hdp
      subst this
      simp only [h1,Option.bind_some]
      exact h3
    · exact absurd hdp (h2 p hlt)
  · rename_i hp
    simp only [Bool.and_eq_true,List.all_eq_true] at hq
    simp only [hq.1]
    rcases h.mf q u hu with ⟨j,r,h1,h2,h3⟩ | ⟨h1,_⟩
    · have hj:j<done.length:=(List.getElem?_eq_some_iff.1 h1).1
      have:=hq.2 j (by simpa using hj)
      rw [h2] at this
      simp [Nat.beq_refl] at this
    · exact h1
theorem aE2 {mf:Fm} {d:Option Tmp} {v:Option V} {q:Nat} {u:V} (h:lkV (aCM mf d v) q=some u):(d=some q∧v=some u)∨(d≠some q∧lkV mf q=some u)∨(d=some q∧v=none):=by
  unfold aCM at h
  cases d with
  | none=>exact .inr (.inl ⟨by simp,h⟩)
  | some d=>cases v with
    | none =>
      by_cases e:d=q
      · subst e; exact .inr (.inr ⟨rfl,rfl⟩)
      · exact .inr (.inl ⟨by simpa using e,h⟩)
    | some w =>
      rcases qR h with ⟨rfl,rfl⟩ | ⟨h1,h2⟩
      · exact .inl ⟨rfl,rfl⟩
      · exact .inr (.inl ⟨by simpa using (Ne.symm h1),h2⟩)
theorem qN {s:S} {done:List OpR} {r:OpR} {e:Nat}:ver s (done++[r]) allT e=match r.touch e with
  | true=>lkE r.aft e
  | false=>ver s done allT e:=by
  unfold ver
  rw [jW]
  simp only [lastT,allT,Bool.true_and]
  cases r.touch e <;> rfl
theorem rX {p:Nat→Bool} {e:Nat}:∀ {H:List (Nat × Ent)},lkE (H.filter fun x=>p x.1) e=(match p e with
    | true=>lkE H e
    | false=>none)
  | []=>by cases p e <;> rfl
  | (k,x)::t=>by
    have ih:=rX (p:=p) (e:=e) (H:=t)
    cases hk:p k with
    | true =>
      rw [List.filter_cons_of_pos (by simpa using hk)]
      simp only [lkE]
      cases hb:Nat.beq k e with
      | true =>
        have:=Nat.eq_of_beq_eq_true hb
        subst this
        rw [hk]
      | false=>exact ih
    | false =>
      rw [List.filter_cons_of_neg (by simp [hk])]
      simp only [lkE]
      cases hb:Nat.beq k e with
      | true =>
        have:=Nat.eq_of_beq_eq_true hb
        subst this
        rw [ih,hk]
      | false=>exact ih
theorem kP {H:List (Nat × Ent)} {e:Nat} (h:e ∉ cK H):lkE H e=none:=by
  cases hx:lkE H e with
  | none=>rfl
  | some x=>exact absurd (List.mem_map.2 ⟨(e,x),jl hx,rfl⟩) h
theorem aDo {ops:Array Oper} {s:S} {done:List OpR} {z:AccD} (h:Inv ops s done z) {own ro:List Nat} {s':S} {d:Option Tmp} {v:Option V} (hd:ai ops done.length=d) (hv:∀ q,d=some q→∃ u,v=some u)
    (hown:∀ e,e ∈ own→e<z.nx) (hle:z.nx≤s'.nx) (hks:∀ e,e ∈ cK s'.H→(⟨own,ro,z.nx,s'.nx,v,s'.H⟩:OpR).touch e=true) :
    Inv ops s (done++[⟨own,ro,z.nx,s'.nx,v,s'.H⟩]) (aHG z own ro s' d v):=by
  have hmf:∀ q u,lkV (aCM z.mf d v) q=some u→(∃ j r,(done++[(⟨own,ro,z.nx,s'.nx,v,s'.H⟩:OpR)])[j]? = some r∧ai ops j=some q∧r.v=some u)∨(lkV s.fr q=some u∧∀ j,j<(done++[(⟨own,ro,z.nx,s'.nx,v,s'.H⟩:OpR)]).length→ai ops j≠some q):=fun q u hq=>by
    rcases aE2 hq with ⟨h1,h2⟩ | ⟨h1,h2⟩ | ⟨h1,h2⟩
    · exact .inl ⟨done.length,⟨own,ro,z.nx,s'.nx,v,s'.H⟩,by simp,by rw [hd]; exact h1,h2⟩
    · rcases h.mf q u h2 with ⟨j,r,h3,h4,h5⟩ | ⟨h3,h4⟩
      · have hj:j<done.length:=(List.getElem?_eq_some_iff.1 h3).1
        exact .inl ⟨j,r,by rw [List.getElem?_append_left hj]; exact h3,h4,h5⟩
      · refine .inr ⟨h3,fun j hj=>?_⟩
        simp only [List.length_append,List.length_cons,List.length_nil] at hj
        by_cases e:j=done.length
        · subst e; rw [hd]; exact h1
        · exact h4 j (by omega)
    · obtain ⟨u,hu⟩:=hv q h1
      rw [h2] at hu; cases hu
  obtain ⟨mf,H,nx,rs,qt,df⟩:=z
  obtain ⟨fr',H',nx',df'⟩:=s'
  unfold aHG
  simp only at *
  split
  · rename_i hb
    have hb:nx=nx':=Nat.eq_of_beq_eq_true hb
    have hno:∀ e,(⟨[],ro,nx,nx',v,H'⟩:OpR).touch e=false:=fun e=>by
      simp only [OpR.touch,List.contains_nil,Bool.false_or]
      cases h1:Nat.ble nx e with
      | false=>rfl
      | true =>
        cases h2:Nat.blt e nx' with
        | false=>rfl
        | true =>
          have:=Nat.le_of_ble_eq_true h1
          have:e<nx':=by simpa using h2
          omega
    refine ⟨hmf,fun e=>?_,by rw [gW],by simp [h.rs],fun hq r hr=>?_,h.df,fun e he=>Nat.lt_of_lt_of_le (h.kb e he) hle⟩
    · rw [qN,hno e]; exact h.H e
    · rcases List.mem_append.1 hr with hr | hr
      · exact h.qt hq r hr
      · rw [List.mem_singleton] at hr; subst hr; exact ⟨rfl,hb⟩
  · refine ⟨hmf,fun e=>?_,by rw [gW],by simp [h.rs],(fun hq=>by cases hq),h.df,fun e he=>?_⟩
    · rw [qN,pI]
      cases ht:(⟨[],ro,nx,nx',v,H'⟩:OpR).touch e with
      | true =>
        have hn:lkE H e=none:=kP fun hc=>by
          have h1:=h.kb e hc
          simp only [OpR.touch,List.contains_nil,Bool.false_or,Bool.and_eq_true] at ht
          have h2:=Nat.le_of_ble_eq_true ht.1
          exact absurd h1 (Nat.not_lt.2 h2)
        rw [hn]
        simp only
        cases lkE H' e <;> rfl
      | false =>
        have:lkE H' e=none:=kP fun hc=>by rw [hks e hc] at ht; cases ht
        rw [this]
        exact h.H e
    · have he:e ∈ cK H'++cK H:=by simpa [cK] using he
      rcases List.mem_append.1 he with he | he
      · have ht:=hks e he
        simp only [OpR.touch,List.contains_nil,Bool.false_or,Bool.and_eq_true] at ht
        simpa using ht.2
      · exact Nat.lt_of_lt_of_le (h.kb e he) hle
  · rename_i own _ _ _ _
    refine ⟨hmf,fun e=>?_,by rw [gW],by simp [h.rs],(fun hq=>by cases hq),h.df,fun e he=>?_⟩
    rotate_left
    · have he:e ∈ cK H'++cK (H.filter fun p=>!(⟨own,ro,nx,nx',v,H'⟩:OpR).touch p.1):=by simpa [cK] using he
      rcases List.mem_append.1 he with he | he
      · have ht:=hks e he
        simp only [OpR.touch,Bool.or_eq_true,Bool.and_eq_true] at ht
        rcases ht with ht | ht
        · exact Nat.lt_of_lt_of_le (hown e (by simpa using ht)) hle
        · simpa using ht.2
      · obtain ⟨p,hp,rfl⟩:=List.mem_map.1 he
        exact Nat.lt_of_lt_of_le (h.kb p.1 (List.mem_map.2 ⟨p,(List.mem_filter.1 hp).1,rfl⟩)) hle
    rw [qN,pI,rX (p:=fun k=>!(⟨own,ro,nx,nx',v,H'⟩:OpR).touch k)]
    cases ht:(⟨own,ro,nx,nx',v,H'⟩:OpR).touch e with
    | true =>
      simp only [Bool.not_true]
      cases lkE H' e <;> rfl
    | false =>
      have:lkE H' e=none:=kP fun hc=>by rw [hks e hc] at ht; cases ht
      rw [this]
      exact h.H e
theorem aB6 {P:Program} {B:List (Nat × Ent)} {n:Nat} {ops:Array Oper} {s:S} {done:List OpR} {z:AccD} (h:Inv ops s done z) {o:Oper} {fr:Fm} {own ro:List Nat} (hdo:ai ops done.length=o.dst)
    (hfr:∀ q u,lkV fr q=some u→sQ s ops done done.length q=some u) (hfit:aHN z own ro=true) (s':S)
    (hs':∀ r0 w0 X,zI r0 P w0 X (pick (ver s done allT) ro++B) n ops ⟨fr,pick (ver s done allT) own,z.nx,s.df⟩ o s') :
    (aGF z own ro o.dst s').Ok fun z'=>∃ r,Good P B n ops s done o r∧Inv ops s (done++[r]) z':=by
  unfold aGF
  split
  · exact R.Ok.fail
  · rename_i hc
    split
    · exact R.Ok.fail
    · rename_i hdf
      split
      · exact R.Ok.fail
      · rename_i v hv
        simp only [aIe,Bool.and_eq_true,List.all_eq_true] at hc
        simp only [aHN,Bool.and_eq_true,List.all_eq_true] at hfit
        have hle:=Nat.le_of_ble_eq_true hc.1
        have hdv:∀ d,o.dst=some d→∃ u,v=some u∧lkV s'.fr d=some u:=fun d hd=>by
          rw [hd] at hv
          simp only [aIH] at hv
          split at hv
          · rename_i u hu
            injection hv with hv
            exact ⟨u,hv.symm,hu⟩
          · cases hv
        refine R.Ok.pure ⟨⟨own,ro,z.nx,s'.nx,v,s'.H⟩,⟨⟨fr,s',hfr,hs',rfl,rfl,(aBs hdf).trans h.df,hdv⟩,h.nx,hle,⟨hfit.1,hfit.2.1⟩,fun e he=>?_,fun e he=>hc.2 e he,fun e he=>?_⟩,aDo h hdo (fun q hq=>?_) (fun e he=>by
          have:=hfit.2.2.1 e (by simp [he])
          simpa using this) hle fun e he=>hc.2 e he⟩
        · have:=hfit.2.2.1 e (by simpa using he)
          simpa using this
        · have:=hfit.2.2.2 e he
          simpa using this
        · obtain ⟨u,h1,_⟩:=hdv q hq
          exact ⟨u,h1⟩
theorem aH3 {P:Program} {B:List (Nat × Ent)} {T:Tab} {wrF:FuncId→Bool} {n:Nat} {ops:Array Oper} {s:S} {done:List OpR} {z:AccD} {o:Oper} (hT:TabOK P T) (hd:dQ ops []=true) (ho:ops[done.length]? = some o) (h:Inv ops s done z) :
    ((hd1 P wrF n ops done.length o).run B T z).Ok fun z'=>∃ r,Good P B n ops s done o r∧Inv ops s (done++[r]) z':=by
  have hdo:ai ops done.length=o.dst:=by simp [ai,ho]
  have hH:lkE z.H=ver s done allT:=funext h.H
  unfold hd1
  split
  · exact R.Ok.fail
  · rename_i hq
    have hfr:∀ q u,lkV ((hfr (tmpsOf ops o)).run z.mf) q=some u→sQ s ops done done.length q=some u:=fun q u hu=>by
      obtain ⟨h1,h2⟩:=vJ hu
      exact h.slot hd (List.all_eq_true.1 hq q h1) h2
    split
    · obtain ⟨mf,H,nx,rs,qt,df⟩:=z
      have hz:df=s.df:=h.df
      subst hz
      simp only [q8]
      refine R.Ok.andThen (R.Ok.all fun r0=>R.Ok.all fun w0=>R.Ok.all fun X=>ql (r:=r0) (w0:=w0) (X:=X) hT) fun s' hs'=>?_
      exact aB6 (own:=[]) (ro:=[]) h hdo hfr rfl s' hs'
    · simp only
      generalize aIS wrF o.op (lkE z.H) _ _=z0
      obtain ⟨own,ro⟩:=z0
      · unfold hdM
        simp only
        split
        · exact R.Ok.fail
        · rename_i hfit
          rw [hH,q8,h.df]
          refine R.Ok.andThen (R.Ok.all fun r0=>R.Ok.all fun w0=>R.Ok.all fun X=>ql (r:=r0) (w0:=w0) (X:=X) hT) fun s' hs'=>?_
          exact aB6 h hdo hfr hfit s' hs'
theorem aDv {P:Program} {B:List (Nat × Ent)} {T:Tab} {wrF:FuncId→Bool} {n:Nat} {ops:Array Oper} {s:S} (hT:TabOK P T) (hd:dQ ops []=true):∀ (l:List Oper) (done:List OpR) (z:AccD),(∀ k o,l[k]? = some o→ops[done.length+k]? = some o)→Inv ops s done z →
    ((hdL P wrF n ops done.length l).run B T z).Ok fun z'=>∃ rs,rs.length=done.length+l.length∧rs.take done.length=done∧(∀ k o,l[k]? = some o→∃ r,rs[done.length+k]? = some r∧Good P B n ops s (rs.take (done.length+k)) o r)∧Inv ops s rs z'
  | [],done,z,_,h=>R.Ok.pure ⟨done,by simp,by simp,fun k o h=>by simp at h,h⟩
  | o::t,done,z,hl,h=>by
    simp only [hdL]
    refine (aH3 hT hd (by simpa using hl 0 o rfl) h).andThen fun z1 hz1=>?_
    obtain ⟨r,hr,hi⟩:=hz1
    have hlen:(done++[r]).length=done.length+1:=by simp
    have ih:=aDv (B:=B) (T:=T) (wrF:=wrF) (n:=n) hT hd t (done++[r]) z1 (fun k o' hk=>by
      have:=hl (k+1) o' (by simpa using hk)
      rw [hlen]; rw [← this]; congr 1; omega) hi
    rw [hlen] at ih
    refine ih.mono fun z' hz'=>?_
    obtain ⟨rs,h1,h2,h3,h4⟩:=hz'
    have hd':rs.take done.length=done:=by
      have:=congrArg (List.take done.length) h2
      rw [List.take_take] at this
      simpa [Nat.min_eq_left (Nat.le_succ _)] using this
    have hr0:rs[done.length]? = some r:=by
      have:=congrArg (fun l=>l[done.length]?) h2
      simp only [List.getElem?_take] at this
      rw [if_pos (by omega)] at this
      simpa using this
    refine ⟨rs,by simp only [List.length_cons]; omega,hd',fun k o' hk=>?_,h4⟩
    cases k with
    | zero =>
      simp only [List.getElem?_cons_zero,Option.some.injEq] at hk
      subst hk
      exact ⟨r,by simpa using hr0,by rw [Nat.add_zero,hd']; exact hr⟩
    | succ k =>
      simp only [List.getElem?_cons_succ] at hk
      obtain ⟨r',h5,h6⟩:=h3 k o' hk
      have e1:done.length+(k+1)=done.length+1+k:=by omega
      exact ⟨r',by rw [e1]; exact h5,by rw [e1]; exact h6⟩
theorem zL {ops:Array Oper} {i j:Nat} {a b:OpR} (ha:a.own=[]∧a.nx=a.nx') (hb:b.own=[]∧b.nx=b.nx'):l8 ops i a j b=true:=by
  have hno:∀ e,a.touch e=false:=fun e=>by
    simp only [OpR.touch,ha.1,List.contains_nil,Bool.false_or]
    cases h1:Nat.ble a.nx e with
    | false=>rfl
    | true =>
      cases h2:Nat.blt e a.nx' with
      | false=>rfl
      | true =>
        have:=Nat.le_of_ble_eq_true h1
        have:e<a.nx':=by simpa using h2
        have:=ha.2
        omega
  simp [l8,hb.1,hno]
theorem uQ:∀ {H:List (Nat × Ent)} {k:Nat},mP k H=true→∀ e ∈ cK H,e<k
  | [],_,_,e,he=>by cases he
  | (e0,x)::t,k,h,e,he=>by
    simp only [mP] at h
    split at h
    · rename_i hb
      have hb:e0<k:=by simpa using hb
      simp only [cK,List.map_cons,List.mem_cons] at he
      rcases he with rfl | he
      · exact hb
      · have:=uQ h e he; omega
    · cases h
theorem u7:∀ {H:List (Nat × Ent)} {k:Nat},mP k H=true→nodupB (cK H)=true∧∀ e x,(e,x) ∈ H→lkE H e=some x
  | [],_,_=>⟨rfl,fun e x h=>by cases h⟩
  | (e0,y)::t,k,h=>by
    simp only [mP] at h
    split at h
    · have h1:=uQ h
      obtain ⟨h2,h3⟩:=u7 h
      refine ⟨?_,fun e x hx=>?_⟩
      · simp only [cK,List.map_cons,nodupB,Bool.and_eq_true,Bool.not_eq_true']
        refine ⟨?_,h2⟩
        cases hc:(t.map (·.1)).contains e0 with
        | false=>rfl
        | true =>
          have:=h1 e0 (by simpa [cK] using hc)
          omega
      · simp only [lkE]
        rcases List.mem_cons.1 hx with hx | hx
        · injection hx with e1 e2; subst e1; subst e2
          rw [Nat.beq_refl]
        · have h4:=h1 e (List.mem_map.2 ⟨(e,x),hx,rfl⟩)
          have:Nat.beq e0 e=false:=by
            cases hb:Nat.beq e0 e with
            | false=>rfl
            | true=>have:=Nat.eq_of_beq_eq_true hb; omega
          rw [this]; exact h3 e x hx
    · cases h
theorem aBt {H:List (Nat × Ent)}:nodupB (cK (aEn H))=true∧∀ e x,(e,x) ∈ aEn H→lkE H e=some x:=by
  unfold aEn
  split
  · rename_i h
    cases H with
    | nil=>exact ⟨rfl,fun e x h=>by cases h⟩
    | cons a t =>
      obtain ⟨e0,y⟩:=a
      exact u7 (k:=e0+1) (by
        simp only [mP]
        have:Nat.blt e0 (e0+1)=true:=by simp
        rw [this]; exact h)
  · exact ⟨jm (nA _),fun e x hx=>(fO hx).2⟩
end Go.RX

namespace Go.RX
open Go Go.SL
section
variable {P:Program} {w0:World} {X:Nat→Prop} {B:List (Nat × Ent)} {n:Nat} {s:S} {ρ0:Env} {BM:List Asr} {ops:Array Oper} {rs:List OpR}
structure Recs (P:Program) (B:List (Nat × Ent)) (n:Nat) (ops:Array Oper) (s:S) (rs:List OpR):Prop where
  len:rs.length=ops.size
  good:∀ i o,ops[i]? = some o→∃ r,rs[i]? = some r∧Good P B n ops s (rs.take i) o r
  pair:∀ i j a b,rs[i]? = some a→rs[j]? = some b→i<j→l8 ops i a j b=true
  dist:dQ ops []=true
theorem Recs.get (h:Recs P B n ops s rs) {i:Nat} {r:OpR} (hr:rs[i]? = some r):∃ o,ops[i]? = some o∧Good P B n ops s (rs.take i) o r:=by
  have hi:i<ops.size:=by rw [← h.len]; exact (List.getElem?_eq_some_iff.1 hr).1
  have ho:ops[i]? = some ops[i]:=Array.getElem?_eq_getElem hi
  obtain ⟨r',h1,h2⟩:=h.good i _ ho
  rw [hr] at h1; injection h1 with h1; subst h1
  exact ⟨_,ho,h2⟩
theorem mO {i:Nat} {r:OpR} (hr:rs[i]? = some r):rs.take (i+1)=rs.take i++[r]:=by
  obtain ⟨h,rfl⟩:=List.getElem?_eq_some_iff.1 hr
  rw [List.take_succ_eq_append_getElem h]
theorem Recs.chain (h:Recs P B n ops s rs):∀ (k i:Nat) (r:OpR),rs[i]? = some r→i<k→r.nx'≤kH s (rs.take k)∧True
  | 0,_,_,_,hk=>absurd hk (Nat.not_lt_zero _)
  | k+1,i,r,hr,hk=>by
    by_cases hlen:k<rs.length
    · have hk0:rs[k]? = some rs[k]:=List.getElem?_eq_getElem hlen
      rw [mO hk0,gW]
      by_cases e:i=k
      · subst e; rw [hr] at hk0; injection hk0 with hk0; rw [← hk0]; exact ⟨Nat.le_refl _,trivial⟩
      · have h1:=(Recs.chain h k i r hr (by omega)).1
        obtain ⟨o,_,hg⟩:=h.get hk0
        have h2:=hg.nx
        have h3:=hg.le
        exact ⟨by omega,trivial⟩
    · have e1:rs.take (k+1)=rs.take k:=by rw [List.take_of_length_le (by omega),List.take_of_length_le (by omega)]
      rw [e1]
      have:i<rs.length:=(List.getElem?_eq_some_iff.1 hr).1
      exact Recs.chain h k i r hr (by omega)
theorem Recs.base (h:Recs P B n ops s rs):∀ k,s.nx≤kH s (rs.take k)
  | 0=>by simp [kH]
  | k+1=>by
    by_cases hlen:k<rs.length
    · have hk0:rs[k]? = some rs[k]:=List.getElem?_eq_getElem hlen
      rw [mO hk0,gW]
      have h1:=Recs.base h k
      obtain ⟨o,_,hg⟩:=h.get hk0
      have h2:=hg.nx
      have h3:=hg.le
      omega
    · have e1:rs.take (k+1)=rs.take k:=by rw [List.take_of_length_le (by omega),List.take_of_length_le (by omega)]
      rw [e1]; exact Recs.base h k
theorem Recs.lt (h:Recs P B n ops s rs) {i j:Nat} {a b:OpR} (hi:rs[i]? = some a) (hj:rs[j]? = some b) (hij:i<j):a.nx'≤b.nx:=by
  obtain ⟨o,_,hg⟩:=h.get hj
  rw [hg.nx]
  exact (h.chain j i a hi hij).1
theorem DR.bM {ρ ρ':Env} (h:ρ.sub ρ'):∀ {l ds},DR ρ l ds→DR ρ' l ds
  | _,_,.nil=>.nil
  | _,_,.call a t=>.call (a.bM h) (DR.bM h t)
  | _,_,.mark a t=>.mark (h _ _ a) (DR.bM h t)
theorem DR.uniq {ρ:Env}:∀ {l ds ds'},xH l l=true→DR ρ l ds→DR ρ l ds'→ds=ds'
  | _,_,_,_,.nil,.nil=>rfl
  | _,_,_,h,.call _ _,.call _ _=>by cases h
  | _,_,_,h,.mark a t,.mark a' t'=>by
    simp only [xH,Bool.and_eq_true] at h
    rw [a] at a'
    injection a' with a'; injection a' with a'; injection a' with a'; injection a' with a' _ _
    subst a'
    rw [DR.uniq h.2 t t']
structure Mid (P:Program) (w0:World) (X:Nat→Prop) (n:Nat) (s:S) (ρ0:Env) (BM:List Asr) (ops:Array Oper) (rs:List OpR) (ds:List Deferred) (sel:Nat→Bool) (a:Act) (w:World):Prop where
  ex:∃ (ρ:Env) (Hs:List (Nat × Ent)) (M:List Asr),
    Fr a n ds [] ∧
    (∀ q u,lkV s.fr q=some u→(∀ j,ai ops j=some q→sel j=false)→∃ v,a.tmps[q]? = some v∧VR ρ0 u v) ∧
    (∀ j r d,sel j=true→rs[j]? = some r→ai ops j=some d→∃ u v,r.v=some u∧a.tmps[d]? = some v∧VR (ρ.cut r.nx') u v) ∧
    (∀ e,lkE Hs e=ver s rs sel e) ∧
    HR (fun e ent p=>ER (ρ.cut (bnd s rs sel e)) e ent p) Hs M ∧
    St w0 w X BM M ∧
    (∀ e,e<s.nx→ρ e=ρ0 e) ∧
    (∀ j r e,rs[j]? = some r→sel j=false→r.nx≤e→e<r.nx'→ρ e=none) ∧
    ρ.nx=kH s rs
theorem aEq {a:Act}:∀ {l:List Nat} {k:Nat} {v:Value},lk (l.map fun q=>(q,a.tmps.getD q undef)) k=some v→v=a.tmps.getD k undef
  | [],_,_,h=>by simp [lk] at h
  | q::t,k,v,h=>by
    simp only [List.map_cons,lk] at h
    split at h
    · rename_i hb
      have:=Nat.eq_of_beq_eq_true hb
      subst this
      simp only [Option.some.injEq] at h
      exact h.symm
    · exact aEq h
theorem aDi {a:Act}:∀ {l:List Nat} {k:Nat},k ∈ l→lk (l.map fun q=>(q,a.tmps.getD q undef)) k=some (a.tmps.getD k undef)
  | [],_,h=>by cases h
  | q::t,k,h=>by
    simp only [List.map_cons,lk]
    split
    · rename_i hb
      have:=Nat.eq_of_beq_eq_true hb
      subst this; rfl
    · rename_i hb
      rcases List.mem_cons.1 h with h1 | h1
      · subst h1; rw [Nat.beq_refl] at hb; cases hb
      · exact aDi h1
theorem xX {a:Act} {ds:List Deferred} {fr:Fm} {ρ:Env} (ha:Fr a n ds []) (h:∀ q u,lkV fr q=some u→∃ v,a.tmps[q]? = some v∧VR ρ u v):∃ L,FR ρ fr L∧Fr a n ds L:=by
  refine ⟨(List.range n).map fun q=>(q,a.tmps.getD q undef),fun k u hk=>?_,ha.size,ha.defers,fun k v hk=>?_⟩
  · obtain ⟨v,h1,h2⟩:=h k u hk
    have hlt:k<n:=by rw [← ha.size]; exact (Array.getElem?_eq_some_iff.1 h1).1
    refine ⟨_,aDi (List.mem_range.2 hlt),?_⟩
    have:a.tmps.getD k undef=v:=by simp [Array.getD_eq_getD_getElem?,h1]
    rw [this]; exact h2
  · have h1:=aEq hk
    have hlt:k<n:=by
      have:=wU hk
      clear h1 hk h
      rcases Nat.lt_or_ge k n with h | h
      · exact h
      · exfalso
        have key:∀ (l:List Nat) ,k ∈ fT (l.map fun q=>(q,a.tmps.getD q undef))→k ∈ l:=by
          intro l
          induction l with
          | nil=>intro h; exact h
          | cons q t ih =>
            intro h
            simp only [List.map_cons,fT,List.mem_cons] at h
            rcases h with h | h
            · simp [h]
            · simp [ih h]
        have:=List.mem_range.1 (key _ this)
        omega
    rw [h1]
    have:k<a.tmps.size:=by rw [ha.size]; exact hlt
    simp [this]
theorem y9 {F:Nat→Ent→Asr→Prop} {w:World} {ρ:Env} {BM0:List Asr} {H:List (Nat × Ent)} {M:List Asr} (hh:HR F H M) (hS:St w0 w X BM0 M):∀ {H2:List (Nat × Ent)},(∀ e x,(e,x) ∈ H2→lkE H e=some x∧∀ p,F e x p→ER ρ e x p) →
    ∃ BM2,HR (EB ρ) H2 BM2∧∀ p ∈ BM2,p.holds (hp w)∧∀ b,p.fp b→∃ q ∈ M,q.fp b
  | [],_=>⟨[],.nil,by simp⟩
  | (e,x)::t,hm=>by
    obtain ⟨BM2,h1,h2⟩:=y9 hh hS (H2:=t) fun e' x' h=>hm e' x' (by simp [h])
    obtain ⟨hx,hF⟩:=hm e x (by simp)
    obtain ⟨p,hp,hp'⟩:=hh.get hx
    have hE:=hF p hp'
    have hmem:=List.mem_of_getElem? hp
    cases x with
    | cel l ty =>
      obtain ⟨b,cs,h3,h4,rfl⟩:=hE
      refine ⟨pt b (.cells cs.toArray ty (0,0))::BM2,.cons ⟨b,cs,h3,h4,rfl⟩ h1,fun q hq=>?_⟩
      rcases List.mem_cons.1 hq with rfl | hq
      · exact ⟨hS.at_ hp,fun k hk=>⟨_,hmem,hk⟩⟩
      · exact h2 q hq
    | arr ty k xs =>
      obtain ⟨v,ys,h3,h4,rfl⟩:=hE
      refine ⟨rdE k.cd.sz (ja k.cd.sz) v ys::BM2,.cons ⟨v,ys,h3,h4,rfl⟩ h1,fun q hq=>?_⟩
      rcases List.mem_cons.1 hq with rfl | hq
      · exact ⟨hS.rdS hp,fun k' hk=>⟨_,hmem,hk.2⟩⟩
      · exact h2 q hq
    | loop z =>
      refine ⟨p::BM2,.cons hE h1,fun q hq=>?_⟩
      rcases List.mem_cons.1 hq with rfl | hq
      · exact ⟨hS.at_ hp,fun k hk=>⟨_,hmem,hk⟩⟩
      · exact h2 q hq
    | mark =>
      refine ⟨p::BM2,.cons hE h1,fun q hq=>?_⟩
      rcases List.mem_cons.1 hq with rfl | hq
      · exact ⟨hS.at_ hp,fun k hk=>⟨_,hmem,hk⟩⟩
      · exact h2 q hq
    | gl g l ty =>
      refine ⟨p::BM2,.cons hE h1,fun q hq=>?_⟩
      rcases List.mem_cons.1 hq with rfl | hq
      · exact ⟨hS.at_ hp,fun k hk=>⟨_,hmem,hk⟩⟩
      · exact h2 q hq
    | map l =>
      refine ⟨p::BM2,.cons hE h1,fun q hq=>?_⟩
      rcases List.mem_cons.1 hq with rfl | hq
      · exact ⟨hS.at_ hp,fun k hk=>⟨_,hmem,hk⟩⟩
      · exact h2 q hq
theorem Sep.mem {h:Hp} {k:Nat} {old:Nat→Prop} {M:List Asr} {p:Asr} (hs:Sep h k old M) (hp:p ∈ M):p.holds h∧∀ b,p.fp b→b<k∧old b:=by
  obtain ⟨i,hi⟩:=List.getElem?_of_mem hp
  exact hs.get hi
theorem Sep.left {h:Hp} {k:Nat} {old old':Nat→Prop}:∀ {M1 M2:List Asr},Sep h k old (M1++M2)→(∀ p ∈ M1,∀ b,p.fp b→old' b)→Sep h k old' M1
  | [],_,_,_=>trivial
  | p::t,M2,hs,ho=>⟨⟨hs.1.1,fun b hb=>⟨(hs.1.2.1 b hb).1,ho p (by simp) b hb⟩,fun q hq=>hs.1.2.2 q (by simp [hq])⟩,Sep.left hs.2 fun q hq=>ho q (by simp [hq])⟩
theorem Sep.aEU {h:Hp} {k:Nat} {old:Nat→Prop}:∀ {M1 M2:List Asr},Sep h k old (M1++M2)→∀ p ∈ M1,∀ q ∈ M2,∀ b,p.fp b→¬ q.fp b
  | p0::t,M2,hs,p,hp,q,hq,b,hb=>by
    rcases List.mem_cons.1 hp with rfl | hp
    · exact hs.1.2.2 q (by simp [hq]) b hb
    · exact Sep.aEU hs.2 p hp q hq b hb
theorem touch_of {r:OpR} {e:Nat} (h:r.touch e=true):e ∈ r.own∨(r.nx≤e∧e<r.nx'):=by
  simp only [OpR.touch,Bool.or_eq_true,Bool.and_eq_true] at h
  rcases h with h | h
  · exact .inl (by simpa using h)
  · exact .inr ⟨Nat.le_of_ble_eq_true h.1,by simpa using h.2⟩
theorem tY {r:OpR} {e:Nat} (h:e ∈ r.own):r.touch e=true:=by
  simp only [OpR.touch,Bool.or_eq_true]; exact .inl (by simpa using h)
theorem Recs.yS (h:Recs P B n ops s rs) {i:Nat} {r:OpR} {sel:Nat→Bool} {e:Nat} (hr:rs[i]? = some r) (hi:sel i=false) (hpre:∀ p ∈ preB ops i,sel p=true) (hpost:∀ j,i ∈ preB ops j→sel j=false) (he:e ∈ r.own∨e ∈ r.ro) :
    lastT sel e 0 none rs=lastT allT e 0 none (rs.take i):=by
  obtain ⟨o,ho,hg⟩:=h.get hr
  have hlt:=hg.lt e he
  conv=>lhs; rw [← List.take_append_drop i rs]
  rw [jW,iZ,jC]
  · intro j b hj ht
    rw [Nat.zero_add]
    have hji:j<i:=by
      have:=(List.getElem?_eq_some_iff.1 hj).1
      rw [List.length_take] at this; omega
    have hjb:rs[j]? = some b:=by rw [List.getElem?_take,if_pos hji] at hj; exact hj
    have hp:=h.pair j i b r hjb hr hji
    simp only [l8,Bool.or_eq_true,Bool.and_eq_true,List.all_eq_true,Bool.not_eq_true'] at hp
    rcases hp with hp | hp
    · rw [hpre j (by simpa using hp)]; rfl
    · have:=hp.1 e (by simpa using he)
      rw [ht] at this; cases this
  · intro j b hj ht
    have hib:i+j<rs.length:=by
      have:=(List.getElem?_eq_some_iff.1 hj).1
      rw [List.length_drop] at this; omega
    have hil:(rs.take i).length=i:=by rw [List.length_take]; omega
    rw [hil,Nat.zero_add]
    have hjb:rs[i+j]? = some b:=by rw [List.getElem?_drop] at hj; exact hj
    cases j with
    | zero=>exact hi
    | succ j =>
      apply hpost
      have hp:=h.pair i (i+(j+1)) r b hr hjb (by omega)
      simp only [l8,Bool.or_eq_true,Bool.and_eq_true,List.all_eq_true,Bool.not_eq_true'] at hp
      rcases hp with hp | hp
      · simpa using hp
      · exfalso
        rcases touch_of ht with h1 | h1
        · rcases he with he | he
          · have:=hp.1 e (by simp [h1])
            rw [tY he] at this; cases this
          · have:=hp.2 e h1
            have h2:r.ro.contains e=true:=by simpa using he
            rw [h2] at this; cases this
        · have:=h.lt hr hjb (by omega)
          have:=hg.le
          omega
end
end Go.RX

namespace Go.RX
open Go Go.SL
section
variable {P:Program} {w0:World} {X:Nat→Prop} {B:List (Nat × Ent)} {n:Nat} {s:S} {ρ0:Env} {BM:List Asr} {ops:Array Oper} {rs:List OpR}
theorem uM:∀ {a b:List Nat},nodupB a=true→nodupB b=true→(∀ e,e ∈ a→e ∉ b)→nodupB (a++b)=true
  | [],b,_,h,_=>h
  | k::t,b,h1,h2,h3=>by
    simp only [nodupB,Bool.and_eq_true,Bool.not_eq_true'] at h1
    simp only [List.cons_append,nodupB,Bool.and_eq_true,Bool.not_eq_true']
    refine ⟨?_,uM h1.2 h2 fun e he=>h3 e (by simp [he])⟩
    cases hc:(t++b).contains k with
    | false=>rfl
    | true =>
      have hm:k ∈ t++b:=by simpa using hc
      rcases List.mem_append.1 hm with h | h
      · have:t.contains k=true:=by simpa using h
        rw [this] at h1; simp at h1
      · exact absurd h (h3 k (by simp))
theorem ER.name {ρ:Env} {e:Nat} {x:Ent} {p:Asr} (h:ER ρ e x p):∃ v,ρ e=some v:=by
  cases x with
  | cel l ty=>obtain ⟨b,cs,h1,_⟩:=h; exact ⟨_,h1⟩
  | arr ty k xs=>obtain ⟨v,ys,h1,_⟩:=h; exact ⟨_,h1⟩
  | loop z=>obtain ⟨l,rec,L,h1,_⟩:=h; exact ⟨_,h1⟩
  | mark=>obtain ⟨D,h1,_⟩:=h; exact ⟨_,h1⟩
  | map l=>obtain ⟨b,kvs,h1,_⟩:=h; exact ⟨_,h1⟩
  | gl g l ty=>obtain ⟨cs,h1,_⟩:=h; exact ⟨_,h1⟩
theorem jk {k:Nat} {ρ:Env}:(ρ.cut k).sub ρ:=fun e v hv=>by
  have h1:e<k:=Env.lt hv
  rwa [Env.kL h1] at hv
theorem aCH {H H':List (Nat × Ent)}:cK (H++H')=cK H++cK H':=by simp [cK]
theorem mem_keys {H:List (Nat × Ent)} {e:Nat} {x:Ent} (h:(e,x) ∈ H):e ∈ cK H:=by
  simp only [cK,List.mem_map]; exact ⟨_,h,rfl⟩
def Env.mix (ρ ρ':Env) (a b:Nat) (hb:b≤ρ.nx):Env:=⟨fun e=>match Nat.ble a e&&Nat.blt e b with
  | true=>ρ' e
  | false=>ρ e,ρ.nx,fun e he=>by
    have:(Nat.ble a e&&Nat.blt e b)=false:=by
      cases h:(Nat.ble a e&&Nat.blt e b) with
      | false=>rfl
      | true =>
        simp only [Bool.and_eq_true] at h
        have:e<b:=by simpa using h.2
        omega
    simp only [this]; exact ρ.dom e he⟩
theorem Env.aHP {ρ ρ':Env} {a b e:Nat} {hb:b≤ρ.nx} (h1:a≤e) (h2:e<b):(ρ.mix ρ' a b hb) e=ρ' e:=by
  show (match Nat.ble a e&&Nat.blt e b with
    | true=>ρ' e
    | false=>ρ e)=_
  have:(Nat.ble a e&&Nat.blt e b)=true:=by simp [h1,h2]
  rw [this]
theorem Env.pF {ρ ρ':Env} {a b e:Nat} {hb:b≤ρ.nx} (h:¬ (a≤e∧e<b)):(ρ.mix ρ' a b hb) e=ρ e:=by
  show (match Nat.ble a e&&Nat.blt e b with
    | true=>ρ' e
    | false=>ρ e)=_
  have:(Nat.ble a e&&Nat.blt e b)=false:=by
    cases h2:(Nat.ble a e&&Nat.blt e b) with
    | false=>rfl
    | true =>
      simp only [Bool.and_eq_true] at h2
      exact absurd ⟨Nat.le_of_ble_eq_true h2.1,by simpa using h2.2⟩ h
  rw [this]
theorem bU {sel:Nat→Bool} {i:Nat}:upd sel i i=true:=by simp [upd,Nat.beq_refl]
theorem upd_ne {sel:Nat→Bool} {i j:Nat} (h:j≠i):upd sel i j=sel j:=by
  unfold upd
  cases hb:Nat.beq j i with
  | true=>exact absurd (Nat.eq_of_beq_eq_true hb) h
  | false=>rfl
theorem Recs.uJ (h:Recs P B n ops s rs) {i:Nat} {r:OpR} {sel:Nat→Bool} {e:Nat} (hr:rs[i]? = some r) (hpost:∀ j,i ∈ preB ops j→sel j=false) (ht:r.touch e=true):lastT (upd sel i) e 0 none rs=some r:=by
  obtain ⟨o,ho,hg⟩:=h.get hr
  have hil:i<rs.length:=(List.getElem?_eq_some_iff.1 hr).1
  conv=>lhs; rw [← List.take_append_drop (i+1) rs]
  rw [jW,iZ,mO hr,jW]
  · have:(rs.take i).length=i:=by rw [List.length_take]; omega
    simp only [this,lastT,Nat.zero_add,bU,ht,Bool.and_true]
  · intro j b hj htb
    have hlen:(rs.take (i+1)).length=i+1:=by rw [List.length_take]; omega
    rw [hlen,Nat.zero_add,upd_ne (by omega)]
    have hjb:rs[i+1+j]? = some b:=by rw [List.getElem?_drop] at hj; exact hj
    apply hpost
    have hp:=h.pair i (i+1+j) r b hr hjb (by omega)
    simp only [l8,Bool.or_eq_true,Bool.and_eq_true,List.all_eq_true,Bool.not_eq_true'] at hp
    rcases hp with hp | hp
    · simpa using hp
    · exfalso
      have h3:=h.lt hr hjb (by omega)
      rcases touch_of htb with h1 | h1
      · have:=hp.1 e (by simp [h1])
        rw [ht] at this; cases this
      · have h4:=hg.le
        rcases touch_of ht with h2 | h2
        · have:=hg.lt e (.inl h2); omega
        · omega
theorem Recs.rD (h:Recs P B n ops s rs) {i:Nat} {r:OpR} {sel:Nat→Bool} {e:Nat} (hr:rs[i]? = some r) (ht:r.touch e=false):lastT (upd sel i) e 0 none rs=lastT sel e 0 none rs:=by
  refine jC fun j b hj htb=>?_
  rw [Nat.zero_add]
  refine upd_ne fun hji=>?_
  subst hji
  rw [hr] at hj; injection hj with hj; subst hj
  rw [ht] at htb; cases htb
theorem mid_step {ds:List Deferred} (h:Recs P B n ops s rs) (hde:xH s.df s.df=true) (hdr:DR ρ0 s.df ds) (hB:HR (EB ρ0) B BM) (hρ:ρ0.nx=s.nx) {r0:Option Nat} {i:Nat} {o:Oper} {sel:Nat→Bool} {a:Act} {w:World} (ho:ops[i]? = some o) (hi:sel i=false) (hprd:∀ p ∈ preds o,sel p=true) (hpre:∀ p ∈ preB ops i,sel p=true) (hpost:∀ j,i ∈ preB ops j→sel j=false)
    (hm:Mid P w0 X n s ρ0 BM ops rs ds sel a w):O r0 P ops (fun e a' w'=>e=.normal∧(Kept o a a'→Mid P w0 X n s ρ0 BM ops rs ds (upd sel i) a' w')) [i] a w:=by
  obtain ⟨ρ,Hs,M,hfr,hold,hslot,hs,hr,hst,hlo,hfree,hnx⟩:=hm.ex
  obtain ⟨r,hri,hg⟩:=h.good i o ho
  have hil:i<rs.length:=(List.getElem?_eq_some_iff.1 hri).1
  have hdl:(rs.take i).length=i:=by rw [List.length_take]; omega
  obtain ⟨fr,s',hfrs,hstep,haft,hnx',hdf,hdst⟩:=hg.st
  rw [hdl] at hfrs
  have hbase:s.nx≤r.nx:=by rw [hg.nx]; exact h.base i
  have hdoi:ai ops i=o.dst:=by simp [ai,ho]
  have hsub0:ρ0.sub (ρ.cut r.nx):=fun e v hv=>by
    have h1:=Env.lt hv
    rw [hρ] at h1
    rw [Env.kL (by omega),hlo e h1]; exact hv
  have hver:∀ e,e ∈ r.own∨e ∈ r.ro→ver s rs sel e=ver s (rs.take i) allT e:=fun e he=>by
    unfold ver; rw [h.yS hri hi hpre hpost he]
  have hbnd:∀ e,e ∈ r.own∨e ∈ r.ro→bnd s rs sel e≤r.nx:=fun e he=>by
    unfold bnd; rw [h.yS hri hi hpre hpost he]
    cases hl:lastT allT e 0 none (rs.take i) with
    | none=>exact hbase
    | some q =>
      rcases uh hl with h1 | ⟨j,h1,_,_⟩
      · cases h1
      · have hji:j<i:=by
          have:=(List.getElem?_eq_some_iff.1 h1).1
          omega
        rw [List.getElem?_take,if_pos hji] at h1
        exact h.lt h1 hri hji
  have hrange:∀ e x,lkE Hs e=some x→¬ (r.nx≤e∧e<r.nx'):=fun e x hx hc=>by
    obtain ⟨p,_,hp⟩:=hr.get hx
    obtain ⟨v,hv⟩:=ER.name hp
    have:=jk _ _ hv
    rw [hfree i r e hri hi hc.1 hc.2] at this; cases this
  have hsel:=St.aG7 hr hst (H2:=pick (ver s (rs.take i) allT) r.own++pick (lkE Hs) (dd ((cK Hs).filter fun e=>!r.own.contains e)))
    (by
      rw [aCH]
      refine uM (jm hg.nd.1) (jm (nA _)) fun e h1 h2=>?_
      have h1:=oM h1
      have h2:=(List.mem_filter.1 (nZ.1 (oM h2))).2
      have h3:r.own.contains e=true:=by simpa using h1
      rw [h3] at h2; cases h2)
    (by
      intro e x hx
      rcases List.mem_append.1 hx with h1 | h1
      · obtain ⟨h2,h3⟩:=fO h1
        rw [hs,hver e (.inl h2)]; exact h3
      · exact (fO h1).2)
  obtain ⟨M2,hM2,hst2,_⟩:=hsel
  obtain ⟨Mo,Mx,rfl,hMo,hMx⟩:=HR.split hM2
  have hrest:∀ e x,lkE Hs e=some x→e ∉ r.own→lkE (pick (lkE Hs) (dd ((cK Hs).filter fun e=>!r.own.contains e))) e=some x:=fun e x hx hn=>by
    have:e ∈ dd ((cK Hs).filter fun e=>!r.own.contains e):=by
      rw [nZ,List.mem_filter]
      refine ⟨mem_keys (jl hx),?_⟩
      simpa using hn
    rw [pK this]; exact hx
  have hrestm:∀ e x,(e,x) ∈ pick (lkE Hs) (dd ((cK Hs).filter fun e=>!r.own.contains e))→lkE Hs e=some x∧e ∉ r.own∧r.touch e=false:=fun e x hx=>by
    obtain ⟨h1,h2⟩:=fO hx
    have h3:=(List.mem_filter.1 (nZ.1 h1)).2
    have h4:e ∉ r.own:=fun hc=>by
      have:r.own.contains e=true:=by simpa using hc
      rw [this] at h3; cases h3
    refine ⟨h2,h4,?_⟩
    cases ht:r.touch e with
    | false=>rfl
    | true =>
      rcases touch_of ht with h5 | h5
      · exact absurd h5 h4
      · exact absurd h5 (hrange e x h2)
  obtain ⟨L,hFR,hFr⟩:=xX (ρ:=ρ.cut r.nx) (fr:=fr) hfr fun q u hq=>by
    have hq:=hfrs q u hq
    unfold sQ at hq
    split at hq
    · rename_i p hp
      obtain ⟨h1,h2⟩:=jq hp
      obtain ⟨rp,h3,h4⟩:=Option.bind_eq_some_iff.1 hq
      have hpi:p<i:=by
        have:=(List.getElem?_eq_some_iff.1 h3).1
        omega
      rw [List.getElem?_take,if_pos hpi] at h3
      have hpp:p ∈ preds o:=by simpa [dA,ho] using h1
      obtain ⟨u',v,h5,h6,h7⟩:=hslot p rp q (hprd p hpp) h3 h2
      rw [h4] at h5; injection h5 with h5; subst h5
      exact ⟨v,h6,h7.bM (Env.wF (h.lt h3 hri hpi))⟩
    · split at hq
      · rename_i hob
        obtain ⟨v,h1,h2⟩:=hold q u hq fun j hj=>by
          have hjs:j<ops.size:=by
            rcases Nat.lt_or_ge j ops.size with h' | h'
            · exact h'
            · simp [ai,Array.getElem?_eq_none h'] at hj
          have h3:=List.all_eq_true.1 hob j (by simpa using hjs)
          simp only [hj,Nat.beq_refl,Bool.not_true,Bool.false_or,Bool.or_eq_true] at h3
          rcases h3 with h3 | h3
          · rw [Nat.eq_of_beq_eq_true h3]; exact hi
          · exact hpost j (by simpa using h3)
        exact ⟨v,h1,h2.bM hsub0⟩
      · cases hq
  obtain ⟨BMr,hBMr,hBr⟩:=y9 (ρ:=ρ.cut r.nx) hMx (hst2.sub (List.sublist_append_right _ _)) (H2:=pick (ver s (rs.take i) allT) r.ro) fun e x hx=>by
    obtain ⟨h1,h2⟩:=fO hx
    refine ⟨hrest e x (by rw [hs,hver e (.inr h1)]; exact h2) (hg.dj e h1),fun p hp=>hp.bM (Env.wF (hbnd e (.inr h1)))⟩
  have hap:=Sep.aEU hst2.sep
  have hstm:St w w (fun b=>∃ p ∈ Mo,p.fp b) (BMr++BM) Mo:=by
    refine ⟨rfl,rfl,rfl,Nat.le_refl _,fun _ _ _=>rfl,Sep.left hst2.sep fun p hp b hb=>.inl ⟨p,hp,hb⟩,fun p hp=>?_⟩
    rcases List.mem_append.1 hp with hp | hp
    · obtain ⟨h1,h2⟩:=hBr p hp
      refine ⟨h1,fun b hb=>?_⟩
      obtain ⟨q,hq,hqb⟩:=h2 b hb
      refine ⟨((Sep.mem hst2.sep (by simp [hq])).2 b hqb).1,?_⟩
      rintro ⟨p',hp',hb'⟩
      exact hap p' hp' q hq b hb' hqb
    · obtain ⟨h1,h2⟩:=hst2.bor p hp
      refine ⟨p.loc _ _ (fun b hb=>hst2.old b (h2 b hb).1 (h2 b hb).2) h1,fun b hb=>⟨Nat.lt_of_lt_of_le (h2 b hb).1 hst2.size,?_⟩⟩
      rintro ⟨p',hp',hb'⟩
      rcases ((Sep.mem hst2.sep (by simp [hp'])).2 b hb').2 with h3 | h3
      · exact (h2 b hb).2 h3
      · have:=(h2 b hb).1; omega
  have hRl:Rl w (fun b=>∃ p ∈ Mo,p.fp b) (pick (ver s (rs.take i) allT) r.ro++B) n ⟨fr,pick (ver s (rs.take i) allT) r.own,r.nx,s.df⟩ (ρ.cut r.nx) L (BMr++BM) Mo ds a w :=
    ⟨rfl,hFR,hBMr.app (hB.mono fun _ _ _ h=>h.bM hsub0),hMo.aBp fun e x p hx hp=>hp.bM (Env.wF (hbnd e (.inl (fO hx).1))),hdr.bM hsub0,hFr,hstm⟩
  refine hstep r0 w _ _ L _ Mo ds a w hRl _ i [] ho ?_
  intro ρ' L' M' ds' a' w' hle hR
  refine O.nil ⟨rfl,fun hk=>?_⟩
  have hds:ds=ds':=by
    have h1:=hR.df
    rw [hdf] at h1
    exact DR.uniq hde ((hdr.bM hsub0).mono hle) h1
  subst hds
  have hend:r.nx'≤ρ.nx:=by
    rw [hnx]
    have:=(h.chain rs.length i r hri hil).1
    rwa [List.take_of_length_le (Nat.le_refl _)] at this
  have hrn:ρ'.nx=r.nx':=hR.dom.trans hnx'
  have sub1:ρ'.sub ((ρ.mix ρ' r.nx r.nx' hend).cut r.nx'):=fun e v hv=>by
    have h1:=Env.lt hv
    rw [hrn] at h1
    rw [Env.kL h1]
    by_cases h2:r.nx≤e
    · rw [Env.aHP h2 h1]; exact hv
    · rw [Env.pF (by omega)]
      have:=hle.eq e (by show e<r.nx; omega)
      rw [Env.kL (by omega)] at this
      rw [← this]; exact hv
  have sub2:∀ k,(ρ.cut k).sub ((ρ.mix ρ' r.nx r.nx' hend).cut k):=fun k e v hv=>by
    have h1:e<k:=Env.lt hv
    rw [Env.kL h1] at hv ⊢
    rw [Env.pF]; exact hv
    rintro ⟨h2,h3⟩
    rw [hfree i r e hri hi h2 h3] at hv; cases hv
  have hks:∀ e x,(e,x) ∈ s'.H→r.touch e=true:=fun e x hx=>hg.ks e (by rw [← haft]; exact mem_keys hx)
  refine ⟨ρ.mix ρ' r.nx r.nx' hend,s'.H++pick (lkE Hs) (dd ((cK Hs).filter fun e=>!r.own.contains e)),M'++Mx,⟨hR.act.size,hR.act.defers,fun k v hk=>by simp [lk] at hk⟩,?_,?_,?_,?_,?_,?_,?_,hnx⟩
  · intro q u hq hno
    have hne:o.dst≠some q:=fun e=>by
      have:=hno i (hdoi.trans e)
      rw [bU] at this; cases this
    obtain ⟨v,h1,h2⟩:=hold q u hq fun j hj=>by
      have hji:j≠i:=fun e=>by subst e; exact hne (hdoi.symm.trans hj)
      rw [← upd_ne (sel:=sel) hji]; exact hno j hj
    exact ⟨v,by rw [hk q hne]; exact h1,h2⟩
  · intro j r' d hj hjr hjd
    by_cases hji:j=i
    · subst hji
      rw [hri] at hjr; injection hjr with hjr; subst hjr
      obtain ⟨u,h1,h2⟩:=hdst d (hdoi.symm.trans hjd)
      obtain ⟨v,h3,h4⟩:=hR.fr d u h2
      exact ⟨u,v,h1,hR.act.get d v h3,h4.bM sub1⟩
    · rw [upd_ne hji] at hj
      obtain ⟨u,v,h1,h2,h3⟩:=hslot j r' d hj hjr hjd
      have hne:o.dst≠some d:=fun e=>hji (aBe h.dist hjd (hdoi.trans e))
      exact ⟨u,v,h1,by rw [hk d hne]; exact h2,h3.bM (sub2 _)⟩
  · intro e
    rw [pI]
    cases ht:r.touch e with
    | true =>
      have h1:ver s rs (upd sel i) e=lkE s'.H e:=by
        unfold ver; rw [h.uJ hri hpost ht,haft]; rfl
      rw [h1]
      cases hx:lkE s'.H e with
      | some x=>rfl
      | none =>
        simp only
        cases hy:lkE (pick (lkE Hs) (dd ((cK Hs).filter fun e=>!r.own.contains e))) e with
        | none=>rfl
        | some y =>
          have:=(hrestm e y (jl hy)).2.2
          rw [ht] at this; cases this
    | false =>
      have h1:lkE s'.H e=none:=by
        cases hx:lkE s'.H e with
        | none=>rfl
        | some x =>
          have:=hks e x (jl hx)
          rw [ht] at this; cases this
      rw [h1]
      have h2:ver s rs (upd sel i) e=ver s rs sel e:=by
        unfold ver; rw [h.rD hri ht]
      rw [h2,← hs]
      have hno:e ∉ r.own:=fun hc=>by rw [tY hc] at ht; cases ht
      cases hx:lkE Hs e with
      | some x=>exact hrest e x hx hno
      | none =>
        cases hy:lkE (pick (lkE Hs) (dd ((cK Hs).filter fun e=>!r.own.contains e))) e with
        | none=>rfl
        | some y =>
          have:=(hrestm e y (jl hy)).1
          rw [hx] at this; cases this
  · refine HR.app (hR.hm.aBp fun e x p hx hp=>?_) (hMx.aBp fun e x p hx hp=>?_)
    · have h1:bnd s rs (upd sel i) e=r.nx':=by
        unfold bnd; rw [h.uJ hri hpost (hks e x hx)]; rfl
      rw [h1]; exact hp.bM sub1
    · have h1:bnd s rs (upd sel i) e=bnd s rs sel e:=by
        unfold bnd; rw [h.rD hri (hrestm e x hx).2.2]
      rw [h1]; exact hp.bM (sub2 _)
  · refine hst2.aD6 hR.st.noB (fun b hb=>?_) (List.sublist_append_right _ _) (fun p hp b hb=>?_)
    · obtain ⟨p,h1,h2⟩:=hb
      exact ⟨p,by simp [h1],h2⟩
    · rintro ⟨p',h1,h2⟩
      exact hap p' h1 p hp b h2 hb
  · intro e he
    rw [Env.pF (by omega)]; exact hlo e he
  · intro j r' e hj hsj h1 h2
    have hji:j≠i:=fun e=>by rw [e,bU] at hsj; cases hsj
    rw [upd_ne hji] at hsj
    rw [Env.pF]
    · exact hfree j r' e hj hsj h1 h2
    · rintro ⟨h3,h4⟩
      rcases Nat.lt_or_gt_of_ne hji with h5 | h5
      · have:=h.lt hj hri h5; omega
      · have:=h.lt hri hj h5; omega
theorem aD9 {wrF:FuncId→Bool} {T:Tab} (hT:TabOK P T):aB1 P (fun B n ops s=>(hdraw P wrF n ops).run B T s):=by
  intro r0 w0 X B n id ops s
  simp only [hdraw]
  split
  · exact R.Ok.fail
  · rename_i hb
    simp only [Bool.and_eq_true] at hb
    obtain ⟨⟨⟨hmo,hord⟩,hnd⟩,hdist⟩:=hb
    have hvb:=aHL ops
    simp only
    split
    · exact R.Ok.fail
    · rename_i hdf0
      rw [Bool.and_eq_true] at hdf0
      have hdf:=hdf0.1
      refine (aDv hT hdist ops.toList [] ⟨s.fr,s.H,s.nx,[],true,s.df⟩ (fun k o hk=>by simpa using hk) ⟨fun q u h=>.inr ⟨h,fun j hj=>by simp at hj⟩,fun e=>rfl,rfl,rfl,(fun _ r h=>by cases h),rfl,uE hdf0.2⟩).andThen fun z hz=>?_
      obtain ⟨rs,h1,_,h3,hinv⟩:=hz
      split
      · exact R.Ok.fail
      · rename_i hq
        have hpair:∀ i j a b,rs[i]? = some a→rs[j]? = some b→i<j→l8 ops i a j b=true:=fun i j a b ha hb hij=>by
          simp only [Bool.or_eq_true] at hq
          rcases hq with hq | hq
          · exact zL (hinv.qt hq a (List.mem_of_getElem? ha)) (hinv.qt hq b (List.mem_of_getElem? hb))
          · rw [hinv.rs] at hq
            simpa using sZ hq i j a b ha hb hij
        have hrec:Recs P B n ops s rs:=⟨by simpa using h1,fun i o ho=>by simpa using h3 i o (by simpa using ho),hpair,hdist⟩
        refine R.Ok.pure ?_
        intro ρ L BM M ds a w h Q K
        have hN:s.nx≤kH s rs:=by
          have:=hrec.base rs.length
          rwa [List.take_of_length_le (Nat.le_refl _)] at this
        refine W.aIG (Mid P w0 X n s ρ BM ops rs ds) (by simpa using hmo) hord hnd hvb ?_ (fun i o sel a w ho hi hprd hpre hpost hm=>mid_step hrec hdf h.df h.hb h.dom ho hi hprd hpre hpost hm) ?_
        · refine ⟨⟨ρ.get,kH s rs,fun e he=>ρ.dom e (by rw [h.dom]; omega)⟩,s.H,M,⟨h.act.size,h.act.defers,fun k v hk=>by simp [lk] at hk⟩,?_,?_,?_,?_,h.st.drew,fun _ _=>rfl,?_,rfl⟩
          · intro q u hq _
            obtain ⟨v,h4,h5⟩:=h.fr q u hq
            exact ⟨v,h.act.get q v h4,h5⟩
          · intro j r d hj; cases hj
          · intro e
            unfold ver; rw [iZ (fun _ _ _ _=>rfl)]; rfl
          · refine h.hm.mono fun e x p hp=>?_
            have:bnd s rs (fun _=>false) e=s.nx:=by unfold bnd; rw [iZ (fun _ _ _ _=>rfl)]; rfl
            rw [this]
            refine hp.bM fun e v hv=>?_
            have h6:=Env.lt hv
            rw [h.dom] at h6
            rw [Env.kL h6]; exact hv
          · intro j r e hj _ h4 _
            obtain ⟨o,_,hg⟩:=hrec.get hj
            have:=hrec.base j
            have:=hg.nx
            exact ρ.dom e (by rw [h.dom]; omega)
        · intro sel a' w' hall hm
          obtain ⟨ρ',Hs,M',hfr,hold,hslot,hs,hr,hst,hlo,hfree,hnx⟩:=hm.ex
          have hsel:∀ j r,rs[j]? = some r→sel j=true:=fun j r hj=>hall j (by rw [← hrec.len]; exact (List.getElem?_eq_some_iff.1 hj).1)
          have hver:∀ e,ver s rs sel e=ver s rs allT e:=fun e=>by
            unfold ver
            rw [jC (sel':=allT) fun j r hj _=>by rw [Nat.zero_add,hsel j r hj]; rfl]
          obtain ⟨L',hFR,hFr⟩:=xX (ρ:=ρ') (fr:=z.mf) hfr fun q u hq=>by
            rcases hinv.mf q u hq with ⟨j,r,h4,h5,h6⟩ | ⟨hq,hno⟩
            ·
              obtain ⟨u2,v,h7,h8,h9⟩:=hslot j r q (hsel j r h4) h4 h5
              rw [h6] at h7; injection h7 with h7; subst h7
              exact ⟨v,h8,h9.bM jk⟩
            · obtain ⟨v,h4,h5⟩:=hold q u hq fun j hj=>by
                exfalso
                have hjs:j<ops.size:=by
                  rcases Nat.lt_or_ge j ops.size with h' | h'
                  · exact h'
                  · simp [ai,Array.getElem?_eq_none h'] at hj
                exact hno j (by rw [hrec.len]; exact hjs) hj
              refine ⟨v,h4,h5.bM fun e v hv=>?_⟩
              have h6:=Env.lt hv
              rw [h.dom] at h6
              rw [hlo e h6]; exact hv
          obtain ⟨M2,hM2,hst2,_⟩:=St.aG7 hr hst (H2:=aEn z.H) aBt.1 fun e x hx=>by
            rw [hs,hver,← hinv.H]; exact aBt.2 e x hx
          refine K ρ' L' M2 ds a' w' ⟨by rw [h.dom,hnx]; exact hN,fun e he=>hlo e (by rw [h.dom] at he; exact he)⟩ ⟨hnx.trans hinv.nx.symm,hFR,h.hb.mono fun _ _ _ hp=>hp.bM fun e v hv=>?_,hM2.mono fun _ _ _ hp=>hp.bM jk,h.df.bM (fun e v hv=>?_),hFr,hst2⟩
          · have h6:=Env.lt hv
            rw [h.dom] at h6
            rw [hlo e h6]; exact hv
          · have h6:=Env.lt hv
            rw [h.dom] at h6
            rw [hlo e h6]; exact hv
end
end Go.RX

namespace Go.RX
open Go Go.SL
universe u u'
def hDw (P:Program) (wrF:FuncId→Bool) (T:Tab):Drw:=fun B n ops s=>(hdraw P wrF n ops).run B T s
structure HC where
  run:List (Nat × Ent)→Tab→S→R (Ex × S)
def hcode (P:Program) (wrF:FuncId→Bool) (F:Nat) (rg:Bool) (n:Nat):Code→HC
  | .skip=>⟨fun _ _ s=>R.pure (.n,s)⟩
  | .region _ ops dr=>match dr with
    | false=>⟨fun B T s=>((hops P n ops ops.toList).run B T s).bind fun s'=>R.pure (.n,s')⟩
    | true=>⟨fun B T s=>((hdraw P wrF n ops).run B T s).bind fun s'=>R.pure (.n,s')⟩
  | .seq a b=>⟨fun B T s=>((hcode P wrF F rg n a).run B T s).bind fun z=>match z.1 with
    | .n=>(hcode P wrF F rg n b).run B T z.2
    | .r=>R.pure (.r,z.2)
    | .x id=>R.pure (.x id,z.2)⟩
  | .cond c a b=>⟨fun B T s=>(R.lift ((hget c).run s)).bind fun u=>match u with
    | .c (.bool z)=>(zq z).bind fun z'=>match z' with
      | true=>(hcode P wrF F rg n a).run B T s
      | false=>(hcode P wrF F rg n b).run B T s
    | _=>R.fail⟩
  | .block id c=>⟨fun B T s=>((hcode P wrF F rg n c).run B T s).bind fun z=>match z.1 with
    | .x k=>match Nat.beq k id with
      | true=>R.pure (.n,z.2)
      | false=>R.pure (.x k,z.2)
    | .n=>R.pure (.n,z.2)
    | .r=>R.pure (.r,z.2)⟩
  | .loop c=>⟨fun B T s=>xloop F (fun s=>(hcode P wrF F rg n c).run B T s) s⟩
  | .exit id=>⟨fun _ _ s=>R.pure (.x id,s)⟩
  | .ret=>⟨fun _ _ s=>R.pure (.r,s)⟩
  | .label l=>⟨fun _ _ s=>R.pure (.n,s)⟩
  | .rangeFunc g ps asg body=>⟨fun B T s=>xcode P B T (hDw P wrF T) F rg n (.rangeFunc g ps asg body) s⟩
  | .scope c=>hcode P wrF F rg n c
  | .goto _=>⟨fun _ _ _=>R.fail⟩
  | .refuse _=>⟨fun _ _ _=>R.fail⟩
theorem gK (P:Program) (wrF:FuncId→Bool) (F:Nat) (rg:Bool) (n:Nat) (B:List (Nat × Ent)) (T:Tab):∀ (c:Code) (s:S),(hcode P wrF F rg n c).run B T s=xcode P B T (hDw P wrF T) F rg n c s
  | .skip,s=>rfl
  | .region _ ops false,s=>by simp only [hcode,xcode,aBb]
  | .region _ ops true,s=>rfl
  | .seq a b,s=>by
    simp only [hcode,xcode,gK P wrF F rg n B T a]
    congr 1
    funext z
    obtain ⟨e,s'⟩:=z
    cases e with
    | n=>exact gK P wrF F rg n B T b s'
    | r=>rfl
    | x id=>rfl
  | .cond c a b,s=>by
    simp only [hcode,xcode,jG,gK P wrF F rg n B T a,gK P wrF F rg n B T b]; rfl
  | .block id c,s=>by
    simp only [hcode,xcode,gK P wrF F rg n B T c]
    congr 1
    funext z
    obtain ⟨e,s'⟩:=z
    cases e <;> rfl
  | .loop c,s=>by
    simp only [hcode,xcode]
    congr 1
    funext s'
    exact gK P wrF F rg n B T c s'
  | .exit id,s=>rfl
  | .ret,s=>rfl
  | .label l,s=>rfl
  | .rangeFunc g ps asg body,s=>rfl
  | .scope c,s=>gK P wrF F rg n B T c s
  | .goto _,s=>rfl
  | .refuse _,s=>rfl
structure HF where
  run:List (Nat × Ent)→Tab→List V→List (Nat × Ent)→Nat→R An
def hfun (P:Program) (kp:FuncId→Bool) (wrF:FuncId→Bool) (F:Nat) (f:FuncId):HF:=match P.funcs[f]? with
  | none=>⟨fun _ _ _ _ _=>R.fail⟩
  | some fn=>match fn.body with
    | none=>⟨fun _ _ _ _ _=>R.fail⟩
    | some c=>⟨fun B T vs H nx=>match Nat.ble vs.length fn.ntmps with
      | false=>R.fail
      | true=>((hcode P wrF F true fn.ntmps c).run B T ⟨uX 0 vs,H,nx,[]⟩).bind fun z=>match z.1 with
        | .x _=>R.fail
        | _=>(R.lift (mG z.2.df z.2.H)).bind fun H2=>(R.lift (qz P ⟨z.2.fr,H2,z.2.nx,[]⟩ fn.results.toList)).bind fun l=>R.pure ⟨mF l,aGS (!kp f&&aAs vs) nx (mF l) H2,z.2.nx⟩⟩
theorem aGJ (P:Program) (kp:FuncId→Bool) (wrF:FuncId→Bool) (F:Nat) (f:FuncId) (B:List (Nat × Ent)) (T:Tab) (vs:List V) (H:List (Nat × Ent)) (nx:Nat):(hfun P kp wrF F f).run B T vs H nx=xfun P kp B T (hDw P wrF T) F f vs H nx:=by
  unfold hfun xfun
  cases P.funcs[f]? with
  | none=>rfl
  | some fn =>
    cases hb:fn.body with
    | none=>simp only [hb]
    | some c=>simp only [hb,gK]; rfl
abbrev SmT:=FuncId→Option (List (Nat × Ent)→List V→List (Nat × Ent)→Nat→R An)
def hT (P:Program) (kp:FuncId→Bool) (Sm:SmT) (wrF:FuncId→Bool) (F:Nat):Nat→Tab
  | 0=>⟨fun _ _ _ _ _=>R.fail,fun _ _ _ _=>R.fail⟩
  | m+1=>⟨fun B f vs H nx=>match Sm f with
    | some g=>g B vs H nx
    | none=>(hfun P kp wrF F f).run B (hT P kp Sm wrF F m) vs H nx,
    fun B n c s=>(hcode P wrF F false n c).run B (hT P kp Sm wrF F m) s⟩
theorem aGi (P:Program) (kp:FuncId→Bool) (Sm:SmT) (wrF:FuncId→Bool) (F:Nat):∀ m,hT P kp Sm wrF F m=xT P kp Sm (hDw P wrF) F m
  | 0=>rfl
  | m+1=>by
    simp only [hT,xT,aGi P kp Sm wrF F m,aGJ,gK]; rfl
theorem aIE {P:Program} {kp:FuncId→Bool} {Sm:SmT} {wrF:FuncId→Bool} {F:Nat} (hS:∀ f g,Sm f=some g→∀ w0 X B vs H nx,(g B vs H nx).Ok (oz P w0 X B f vs H nx)) (m:Nat):TabOK P (hT P kp Sm wrF F m):=by
  rw [aGi]; exact aGw hS (fun T hT=>aD9 hT) m
end Go.RX

namespace Go.RX
open Go Go.SL
structure SortedK (P:Program) (f nk:FuncId) (ti tset:TypeId):Prop where
  spec:∀ (b bm:Nat) (ins:List Bool) (w0:World),w0.heap[b]? = some (.cells #[.map (some bm)] tset (0,0))→iE (hp w0) bm ins→ins.length≤10000 →
    Ret P f #[.func (.func nk) #[] #[.pointer (some ⟨b,0,none⟩)]] w0 (G:=Value) (fun v=>v) (fun v w=>St w0 w noX [] [SL.sl ti 1 v (Det.asc ins ins.length).length (ints (Det.asc ins ins.length))])
def isTrue (v:Value):Bool:=match asS v with
  | .b x=>x
  | .i _ _=>false
  | .s _=>false
  | .o=>false
theorem aCj {v:Value} (h:isTrue v=true):v=.bool true:=by
  unfold isTrue at h
  split at h
  · rename_i x hx; subst h; exact aDu hx
  · cases h
  · cases h
  · cases h
def aD8 (v:Value):Option Int:=match asS v with
  | .i k n=>match kEq k .i64 with
    | true=>some n
    | false=>none
  | .b _=>none
  | .s _=>none
  | .o=>none
theorem aEC {v:Value} {n:Int} (h:aD8 v=some n):v=.int .i64 n:=by
  unfold aD8 at h
  split at h
  · rename_i k m hm
    split at h
    · rename_i hk
      simp only [Option.some.injEq] at h
      subst h
      rw [yT hm,mR hk]
    · cases h
  · cases h
  · cases h
  · cases h
def sP:List (V × V)→Option (List Int)
  | []=>some []
  | (k,v)::t=>match asC k with
    | none=>none
    | some a=>match asC v with
      | none=>none
      | some b=>match isTrue b with
        | false=>none
        | true=>match aD8 a with
          | none=>none
          | some n=>match sP t with
            | none=>none
            | some l=>some (n::l)
theorem xI {ρ:Env}:∀ {l:List (V × V)} {es:List MapEntry} {ks:List Int},KVR ρ l (es.map kvE)→sP l=some ks→es.map (·.key)=ks.map (Value.int .i64)∧∀ e ∈ es,e.val=.bool true
  | [],[],ks,_,h=>by
    simp only [sP,Option.some.injEq] at h
    subst h; exact ⟨rfl,by simp⟩
  | [],_::_,_,h,_=>by cases h
  | _::_,[],_,h,_=>by cases h
  | (k,v)::t,e::es,ks,h,hk=>by
    simp only [List.map_cons,kvE] at h
    cases h with
    | cons h1 h2 ht =>
      simp only [sP] at hk
      split at hk
      · cases hk
      · rename_i a ha
        split at hk
        · cases hk
        · rename_i b hb
          split at hk
          · cases hk
          · rename_i hv
            split at hk
            · cases hk
            · rename_i n hn
              split at hk
              · cases hk
              · rename_i l' hl
                simp only [Option.some.injEq] at hk
                subst hk
                have:=gL ha
                subst this
                have:=gL hb
                subst this
                obtain ⟨g1,g2⟩:=xI ht hl
                cases h1 with
                | c=>cases h2 with
                  | c =>
                    refine ⟨by simp only [List.map_cons,g1,aEC hn],fun e' he=>?_⟩
                    rcases List.mem_cons.1 he with rfl | he
                    · exact aCj hv
                    · exact g2 e' he
def ji:List Int→Nat
  | []=>0
  | k::t=>Nat.max (k.toNat+1) (ji t)
def aAN (i:Nat):List Int→Bool
  | []=>false
  | k::t=>match decide (k=(i:Int)) with
    | true=>true
    | false=>aAN i t
def wV (ks:List Int) (n:Nat):List Bool:=(List.range n).map fun i=>aAN i ks
def qW:List Int→Bool
  | []=>true
  | k::t=>decide (0≤k)&&(!(t.any fun x=>decide (x=k))&&qW t)
theorem qL {i:Nat}:∀ {ks:List Int},aAN i ks=true↔(i:Int) ∈ ks
  | []=>by simp [aAN]
  | k::t=>by
    simp only [aAN,List.mem_cons]
    split
    · rename_i h; have:=of_decide_eq_true h; simp [this]
    · rename_i h
      have h:=of_decide_eq_false h
      rw [qL]
      constructor
      · exact .inr
      · rintro (h1 | h1)
        · exact absurd h1.symm h
        · exact h1
theorem aA2 {k:Int}:∀ {ks:List Int},k ∈ ks→k.toNat<ji ks
  | [],h=>by cases h
  | x::t,h=>by
    have hm:ji (x::t)=max (x.toNat+1) (ji t):=rfl
    rw [hm]
    rcases List.mem_cons.1 h with rfl | h
    · exact Nat.lt_of_lt_of_le (Nat.lt_succ_self _) (Nat.le_max_left _ _)
    · exact Nat.lt_of_lt_of_le (aA2 h) (Nat.le_max_right _ _)
theorem u6:∀ {ks:List Int},qW ks=true→ks.Nodup∧∀ k ∈ ks,0≤k
  | [],_=>⟨.nil,by simp⟩
  | k::t,h=>by
    simp only [qW,Bool.and_eq_true,decide_eq_true_eq,Bool.not_eq_true',List.any_eq_false] at h
    obtain ⟨h1,h2,h3⟩:=h
    obtain ⟨g1,g2⟩:=u6 h3
    exact ⟨List.nodup_cons.2 ⟨fun hm=>h2 k hm rfl,g1⟩,fun x hx=>by
      rcases List.mem_cons.1 hx with rfl | hx
      · exact h1
      · exact g2 x hx⟩
theorem aHV {ρ:Env} {l:List (V × V)} {kvs:List (Value × Value)} {h:Hp} {b:Nat} {ks:List Int} (hm:sI h b kvs) (hr:KVR ρ l kvs) (hk:sP l=some ks) (hn:qW ks=true):iE h b (wV ks (ji ks)):=by
  obtain ⟨es,c,h1,rfl,h3,h4⟩:=hm
  obtain ⟨g1,g2⟩:=xI hr hk
  obtain ⟨g3,g4⟩:=u6 hn
  refine ⟨es,c,ks,h1,⟨g1,g2,h3,h4,g3⟩,g4,fun i=>?_⟩
  rw [← qL]
  simp only [wV,List.getD_eq_getElem?_getD,List.getElem?_map]
  by_cases hi:i<ji ks
  · simp [hi]
  · have:aAN i ks=false:=by
      cases hh:aAN i ks with
      | false=>rfl
      | true=>exact absurd (aA2 (qL.1 hh)) (by simpa using hi)
    simp [hi,this]
def aBx:Ent→Option (Nat × TypeId)
  | .cel l ty=>match l with
    | u::t=>match t with
      | []=>match u with
        | .mp m=>some (m,ty)
        | _=>none
      | _=>none
    | []=>none
  | _=>none
def vV (nk:FuncId) (ti tset:TypeId):List (Nat × Ent)→List V→List (Nat × Ent)→Nat→R An:=fun B vs H nx=>match vs with
  | [.fn nk' [.p e 0]]=>match Nat.beq nk' nk with
    | false=>R.fail
    | true=>match (rdA ⟨.e,H,0,[]⟩ B e).bind aBx with
      | none=>R.fail
      | some (m,ty)=>match Nat.beq ty tset with
        | false=>R.fail
        | true=>match rdA ⟨.e,H,0,[]⟩ B m with
          | some (.map l)=>match sP l with
            | none=>R.fail
            | some ks=>match qW ks&&Nat.ble (ji ks) 10000 with
              | false=>R.fail
              | true=>R.pure ⟨.sl nx,(nx,.arr ti (.row 1) ((Det.asc (wV ks (ji ks)) (ji ks)).map fun i=>[V.c (.int .i64 i)]))::H,nx+1⟩
          | _=>R.fail
  | _=>R.fail
theorem aBS {ρ:Env}:∀ l:List Int,∃ ys:List (Row 1),RL ρ (Ck.row 1).cd (l.map fun i=>[V.c (.int .i64 i)]) ys∧encs (ja 1) ys=ints l
  | []=>⟨[],.nil,rfl⟩
  | i::t=>by
    obtain ⟨ys,h1,h2⟩:=aBS (ρ:=ρ) t
    refine ⟨⟨[.int .i64 i],rfl,rfl⟩::ys,.cons (.cons .c .nil) h1,?_⟩
    show [Value.int .i64 i]++encs (ja 1) ys=_
    rw [h2]; rfl
theorem zX {P:Program} {f nk:FuncId} {ti tset:TypeId} (hs:SortedK P f nk ti tset) (w0:World) (X:Nat→Prop) (B:List (Nat × Ent)) (vs:List V) (H:List (Nat × Ent)) (nx:Nat):(vV nk ti tset B vs H nx).Ok (oz P w0 X B f vs H nx):=by
  unfold vV
  split
  · rename_i nk' e
    split
    · exact R.Ok.fail
    · rename_i hnk
      have:=Nat.eq_of_beq_eq_true hnk
      subst this
      split
      · exact R.Ok.fail
      · rename_i m ty hc
        split
        · exact R.Ok.fail
        · rename_i hty
          have:=Nat.eq_of_beq_eq_true hty
          subst this
          split
          · rename_i l hl
            split
            · exact R.Ok.fail
            · rename_i ks hks
              split
              · exact R.Ok.fail
              · rename_i hb
                simp only [Bool.and_eq_true] at hb
                refine R.Ok.pure ?_
                intro ρ BM M w vals hdom hv hB hH hst
                have hS:Sees ρ B ⟨.e,H,0,[]⟩ [] w:=⟨(fun k u h=>by rw [aDp] at h; cases h),fun e' ent he=>by
                  unfold rdA at he
                  split at he
                  · rename_i x hx
                    simp only [Option.some.injEq] at he
                    subst he
                    obtain ⟨p,h1,h2⟩:=hH.get hx
                    cases x with
                    | cel l ty=>obtain ⟨b,cs,h3,h4,rfl⟩:=h2; exact ⟨b,cs,h3,h4,hst.jS h1⟩
                    | arr ty k xs=>obtain ⟨v,ys,h3,h4,rfl⟩:=h2; exact ⟨v,ys,h3,h4,hst.rdS h1⟩
                    | loop z=>trivial
                    | mark=>trivial
                    | map l=>obtain ⟨b,kvs,h3,h4,rfl⟩:=h2; exact ⟨b,kvs,h3,h4,hst.at_ h1⟩
                    | gl g l ty=>obtain ⟨cs,h3,h4,rfl⟩:=h2; exact ⟨cs,h4,hst.jS h1⟩
                  · obtain ⟨p,h1,h2⟩:=hB.get he
                    cases ent with
                    | cel l ty=>obtain ⟨b,cs,h3,h4,rfl⟩:=h2; exact ⟨b,cs,h3,h4,hst.eF h1⟩
                    | arr ty k xs=>obtain ⟨v,ys,h3,h4,rfl⟩:=h2; exact ⟨v,ys,h3,h4,hst.rdB h1⟩
                    | loop z=>trivial
                    | mark=>trivial
                    | map l=>obtain ⟨b,kvs,h3,h4,rfl⟩:=h2; exact ⟨b,kvs,h3,h4,hst.bat h1⟩
                    | gl g l ty=>obtain ⟨cs,h3,h4,rfl⟩:=h2; exact ⟨cs,h4,hst.eF h1⟩⟩
                obtain ⟨ent,he,hce⟩:=Option.bind_eq_some_iff.1 hc
                have hcell:ent=.cel [.mp m] ty:=by
                  unfold aBx at hce
                  split at hce
                  · split at hce
                    · split at hce
                      · split at hce
                        · simp only [Option.some.injEq,Prod.mk.injEq] at hce
                          obtain ⟨rfl,rfl⟩:=hce
                          rfl
                        · cases hce
                      · cases hce
                    · cases hce
                  · cases hce
                subst hcell
                obtain ⟨b,cs,h1,h2,h3⟩:=hS.en e _ he
                obtain ⟨bm,kvs,h4,h5,h6⟩:=hS.en m _ hl
                cases h2 with
                | cons h2 ht=>cases ht with
                  | nil=>cases h2 with
                    | mp hh =>
                      rw [hh] at h4; injection h4 with h4; injection h4 with h4; injection h4 with h4; subst h4
                      cases hv with
                      | cons hv hvt=>cases hvt with
                        | nil=>cases hv with
                          | fn hcap=>cases hcap with
                            | cons hp hpt=>cases hpt with
                              | nil=>cases hp with
                                | p hpp =>
                                  rw [h1] at hpp; injection hpp with hpp; injection hpp with hpp; injection hpp with hpp; injection hpp with hpp _ _; subst hpp
                                  have hset:=aHV h6 h5 hks hb.1
                                  have hlen:(wV ks (ji ks)).length=ji ks:=by simp [wV]
                                  refine Calls.mono (hs.spec _ _ _ w h3 hset (by rw [hlen]; exact Nat.le_of_ble_eq_true hb.2)) ?_
                                  rintro e' w' ⟨v,rfl,hw⟩
                                  rw [hlen] at hw
                                  obtain ⟨ys,g1,g2⟩:=aBS (ρ:=ρ.upd v) (Det.asc (wV ks (ji ks)) (ji ks))
                                  have hyl:ys.length=(Det.asc (wV ks (ji ks)) (ji ks)).length:=g1.len.symm.trans (List.length_map (fun i:Int=>[V.c (Value.int .i64 i)]))
                                  have hsl:aCp v=true:=by
                                    obtain ⟨_,h7⟩:=hw.at_ (i:=0) rfl
                                    rcases h7 with ⟨rfl,_⟩ | ⟨g,cap,cur,rfl,_⟩ <;> rfl
                                  refine ⟨v,rfl,ρ.upd v,_,Env.fM,congrArg (·+1) hdom,.sl (Env.bU hdom) hsl,.cons ⟨v,ys,Env.bU hdom,g1,rfl⟩ (hH.mono fun _ _ _=>ER.mono Env.fM),?_⟩
                                  have:=hst.call hw
                                  have e0:slE ti (Ck.row 1).cd.sz (ja (Ck.row 1).cd.sz) v ys=SL.sl ti 1 v (Det.asc (wV ks (ji ks)) (ji ks)).length (ints (Det.asc (wV ks (ji ks)) (ji ks))):=by
                                    show SL.sl ti 1 v ys.length (encs (ja 1) ys)=_
                                    rw [hyl,g2]
                                  rw [e0]
                                  exact this
          · exact R.Ok.fail
  · exact R.Ok.fail
end Go.RX

namespace Go.RX
open Go Go.SL
def aGt (P:Program) (f:FuncId) (c:Value):Prop:=∀ w,Calls P f #[] w fun e w'=>e=.returned c∧St w w' noX [] []
def aIk (x:Option An) (c:Value):Prop:=∃ H nx,x=some ⟨.c c,H,nx⟩
theorem aEk {P:Program} {kp:FuncId→Bool} {Sm:SmT} {wrF:FuncId→Bool} {F m:Nat} {f:FuncId} {c:Value} (hS:∀ f g,Sm f=some g→∀ w0 X B vs H nx,(g B vs H nx).Ok (oz P w0 X B f vs H nx))
    (h:aIk ((hT P kp Sm wrF F m).call [] f [] [] 0).conc c):aGt P f c:=fun w=>by
  obtain ⟨H,nx,h⟩:=h
  have hk:=((aIE hS m).call w noX [] f [] [] 0).conc _ h ⟨fun _=>none,0,fun _ _=>rfl⟩ [] [] w [] rfl .nil .nil .nil (St.refl w)
  refine Calls.mono hk fun e w' he=>?_
  obtain ⟨v',rfl,ρ',M',_,_,h3,h4,h5⟩:=he
  cases h3 with
  | c=>exact ⟨rfl,h5.sub (List.nil_sublist _)⟩
def gPure (c:Value):List (Nat × Ent)→List V→List (Nat × Ent)→Nat→R An:=fun _ vs H nx=>match vs with
  | []=>R.pure ⟨.c c,H,nx⟩
  | _::_=>R.fail
def aBR (x:Option An):Bool:=match x with
  | some z=>match z.v with
    | .c (.bool b)=>b
    | _=>false
  | none=>false
theorem yA {x:Option An} (h:aBR x=true):aIk x (.bool true):=by
  unfold aBR at h
  split at h
  · rename_i z
    split at h
    · rename_i b hb
      subst h
      obtain ⟨v,H,nx⟩:=z
      simp only at hb
      subst hb
      exact ⟨H,nx,rfl⟩
    · cases h
  · cases h
end Go.RX

namespace Go.Proofs.YtipfobacinmoiaaGreat
open Go Go.SL Go.RX Go.Proofs Go.Shelf Go.RowKit Go.Maps
theorem aDf:SortedK Tryz.prog 63 90 3 82:=⟨lg⟩
set_option maxRecDepth 1000000
def wr:FuncId→Bool:=fun f=>match f with
  | 49 | 44 | 69 | 81 | 119=>true
  | _=>false
def nW:FuncId→Bool:=fun _=>false
noncomputable def smA:SmT:=fun f=>match f with
  | 63=>some (vV 90 3 82)
  | _=>none
theorem aHt:∀ f g,smA f=some g→∀ w0 X B vs H nx,(g B vs H nx).Ok (oz Tryz.prog w0 X B f vs H nx):=by
  intro f g h
  unfold smA at h
  split at h
  · obtain rfl:=Option.some.inj h
    exact fun w0 X B vs H nx=>zX aDf w0 X B vs H nx
  · cases h
theorem aAR:aGt Tryz.prog 15 (.bool true):=aEk (kp:=nW) (wrF:=wr) (F:=1000) (m:=50) aHt (yA (by kernel_rfl))
theorem kD (w0:World):Ret Tryz.prog 15 #[] w0 (G:=Unit) (fun _=>.bool true) (fun _ w=>St w0 w noX [] []) :=
  Calls.mono (aAR w0) fun e w' ⟨he,hS⟩=>⟨(),he,hS⟩
end Go.Proofs.YtipfobacinmoiaaGreat

namespace Go.SL
open Go Go.Proofs Go.Shelf Go.RowKit Go.Sort Go.Lib
section
variable {T:Type} [Inhabited T] {E:T→List Value} {k:Nat}
end
abbrev BV:=Value × Det.Blob
def eB (p:BV):List Value:=[p.1,.int .i64 p.2.peak,.int .i64 p.2.sum]
def pickB (L:List BV) (is:List Nat):List BV:=is.map fun i=>L.getD i default
section
variable {L:List BV} {is:List Nat} {w0 w:World} {X:Nat→Prop} {B M:List Asr}
end
end Go.SL

namespace Det
noncomputable def found (P:List Int) (W H:Nat) (least:Int) (lv:List Int) (ps:List (List Int)) (k:Nat):List (List Int):=(ps.take k).flatMap (aM P W H least lv)
noncomputable def aIT (fW fH thr least:Int) (zs:List Int) (bs:List Bool) (lv:List Int):Int:=open Classical in
  if bC fW fH zs then (if 20<lv.length then 4 else if ze fW fH zs bs thr least=0 then (if rising lv then (if 500<(aGo zs fW.toNat fH.toNat least lv (bright zs bs thr zs.length)).length then 4 else 0) else 2) else ze fW fH zs bs thr least) else 8
noncomputable def findR (fW fH thr least:Int) (zs:List Int) (bs:List Bool) (lv:List Int):List Blob :=
  if aIT fW fH thr least zs bs lv=0 then aHY zs (aGo zs fW.toNat fH.toNat least lv (bright zs bs thr zs.length)) else []
section
variable {fW fH thr least:Int} {zs lv:List Int} {bs:List Bool}
end
section
variable {P lv:List Int} {W H:Nat} {least:Int} {bs:List Bool} {ps:List (List Int)} {k:Nat}
end
end Det

namespace Go.SL
open Go
section
variable {w0 w:World} {X:Nat→Prop} {B M:List Asr} {i:Nat}
end
section
variable {T:Type} [Inhabited T] {P:Program} {w:World} {n:Nat} {ds:List Deferred} {L:List (Nat × Value)} {ty t:TypeId} {x:Operand} {v u:Value} {enc:T→List Value} {l:List T} {sz q j o:Nat}
end
end Go.SL
namespace Det
noncomputable def foundB (P:List Int) (W H:Nat) (least:Int) (lv:List Int) (ps:List (List Int)) (k:Nat):List Blob:=(found P W H least lv ps k).map (aBw P)
section
variable {P lv:List Int} {W H:Nat} {least:Int} {bs:List Bool} {ps:List (List Int)} {k:Nat}
end
end Det

namespace Go.SL
open Go
section
variable {w0 w:World} {X:Nat→Prop} {B M:List Asr} {j:Nat} {O L:List BV}
noncomputable def zipB (P:List Int) (sts:List Value) (D:List (List Int)):List BV:=(List.range sts.length).map fun i=>(sts.getD i undef,Det.aBw P (D.getD i []))
variable {P:List Int} {sts:List Value} {D:List (List Int)} {k:Nat}
end
end Go.SL
namespace Det
section
variable {P l:List Int} {k:Nat} {m:Int}
end
end Det

namespace Det
theorem aAS {W H:Nat} {zs:List Int} (h:bC (W:Int) (H:Int) zs):(1≤W∧W≤100)∧(1≤H∧H≤100):=by
  obtain ⟨h1,h2,h3,h4,_⟩:=h
  omega
end Det
