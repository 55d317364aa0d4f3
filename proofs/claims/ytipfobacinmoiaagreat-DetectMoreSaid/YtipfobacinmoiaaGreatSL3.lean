/- The operations that look at types, read or write memory, or call. -/
import Derived.Test.YtipfobacinmoiaaGreatSL2
import Derived.Laws.Entries
import Derived.Laws.IdiomCopy
set_option linter.unusedVariables false
set_option linter.unusedSimpArgs false
namespace Go.SL
open Go
def tSize (P:Program) (t:TypeId):Option Nat:=(P.info? t).map (·.size)
def tBytes (P:Program) (t:TypeId):Option Nat:=(P.info? t).map (·.bytes)
def tZero (P:Program) (t:TypeId):Option Value:=(P.info? t).bind (·.zero)
def descAgg:TypeDesc→Bool
  | .struct _ | .array _ _=>true
  | _=>false
def tAgg (P:Program) (t:TypeId):Option Bool:=(P.underlying t).map descAgg
def tField (P:Program) (t:TypeId) (k:Nat):Option Nat :=
  match P.underlying t with
  | some (.struct fs)=>match fs[k]? with
    | some f=>match tSize P f.type with
      | some 0=>none
      | some _=>some f.offset
      | none=>none
    | none=>none
  | _=>none
def tPlaces (P:Program) (t:TypeId):Option (Array (Nat × Nat)) :=
  match P.underlying t with
  | some (.struct fs)=>fs.mapM fun f=>(tSize P f.type).map fun s=>(f.offset,s)
  | _=>none
def tElem (P:Program) (t:TypeId):Option TypeId :=
  match P.underlying t with
  | some (.slice e)=>some e
  | _=>none
def tArr (P:Program) (t:TypeId):Option (Nat × TypeId) :=
  match P.underlying t with
  | some (.array n e)=>some (n,e)
  | _=>none
def tInt (P:Program) (t:TypeId):Option IntKind :=
  match P.underlying t with
  | some (.int k)=>some k
  | _=>none
def callOK (P:Program) (f:FuncId):Bool :=
  match P.funcs[f]? with
  | some fn=>fn.name != "runtime.NumGoroutine"&&fn.body.isSome
  | none=>false
section
variable {P:Program} {w:World} {t e:TypeId} {m:Nat} {v z:Value} {b:Bool} {k:IntKind}
theorem run_sizeOf (h:tSize P t=some m):(sizeOf t).run P w=.ok m w:=by
  unfold tSize at h
  obtain ⟨i,hi,rfl⟩:=Option.map_eq_some_iff.1 h
  simp [sizeOf,typeInfo,hi]
theorem run_zero (h:tZero P t=some z):(zeroValue t).run P w=.ok z w:=by
  unfold tZero at h
  obtain ⟨i,hi,hz⟩:=Option.bind_eq_some_iff.1 h
  simp [zeroValue,typeInfo,hi,hz]
theorem run_isAgg (h:tAgg P t=some b):(isAgg t).run P w=.ok b w:=by
  unfold tAgg at h
  obtain ⟨d,hd,rfl⟩:=Option.map_eq_some_iff.1 h
  simp only [isAgg,Sem.run_bind,run_underlying hd,Result.andThen]
  cases d <;> rfl
theorem und_elem (h:tElem P t=some e):P.underlying t=some (.slice e):=by
  unfold tElem at h
  split at h
  · rename_i e' he; simp only [Option.some.injEq] at h; subst h; exact he
  · cases h
theorem und_arr (h:tArr P t=some (m,e)):P.underlying t=some (.array m e):=by
  unfold tArr at h
  split at h
  · rename_i e' he; simp only [Option.some.injEq,Prod.mk.injEq] at h; obtain ⟨rfl,rfl⟩:=h; exact he
  · cases h
theorem und_int (h:tInt P t=some k):P.underlying t=some (.int k):=by
  unfold tInt at h
  split at h
  · rename_i e' he; simp only [Option.some.injEq] at h; subst h; exact he
  · cases h
end
section
variable {P:Program} {w:World} {b o:Nat} {c:Array Value} {e:TypeId} {z:Nat × Nat} {v:Value}
theorem cell_at (h:w.heap[b]? = some (.cells c e z)):w.cell? ⟨b,o,none⟩=c[o]?:=by simp [World.cell?,h]
theorem run_load1 {i:Nat} (h:w.heap[b]? = some (.cells c e z)) (hv:c[o+i]? = some v):(load (Addr.add ⟨b,o,none⟩ i)).run P w=.ok v w:=by
  have ha:Addr.add ⟨b,o,none⟩ i=⟨b,o+i,none⟩:=by unfold Addr.add; split <;> simp_all
  rw [ha]
  simp [load,Sem.run,cell_at h,hv]
theorem run_loadFrom (h:w.heap[b]? = some (.cells c e z)):∀ (n i:Nat) (acc:Array Value),o+i+n≤c.size →
    (loadCellsFrom ⟨b,o,none⟩ i n acc).run P w=.ok (acc++c.extract (o+i) (o+i+n)) w
  | 0,i,acc,_=>by
    have he:c.extract (o+i) (o+i+0)=#[]:=by simp; omega
    rw [he,Array.append_empty]; rfl
  | n+1,i,acc,hle=>by
    have hv:c[o+i]? = some (c[o+i]'(by omega)):=Array.getElem?_eq_getElem (by omega)
    simp only [loadCellsFrom,Sem.run_bind,run_load1 h hv,Result.andThen]
    rw [run_loadFrom h n (i+1) _ (by omega)]
    congr 1
    apply Array.ext'
    have hc:o+i<c.toList.length:=by simpa using (by omega:o+i<c.size)
    simp only [Array.toList_append,Array.toList_push,Array.toList_extract,List.extract_eq_take_drop,List.append_assoc]
    congr 1
    have h1:o+(i+1)+n-(o+(i+1))=n:=by omega
    have h2:o+i+(n+1)-(o+i)=n+1:=by omega
    rw [h1,h2,List.drop_eq_getElem_cons hc,List.take_succ_cons]
    simp [Nat.add_assoc]
theorem run_loadCells {n:Nat} (h:w.heap[b]? = some (.cells c e z)) (hle:o+n≤c.size):(loadCells ⟨b,o,none⟩ n).run P w=.ok (c.extract o (o+n)) w:=by
  unfold loadCells
  rw [run_loadFrom h n 0 #[] (by omega)]
  simp
theorem run_loadVar1 {t:TypeId} (ha:tAgg P t=some false) (h:w.heap[b]? = some (.cells c e z)) (hv:c[o]? = some v):(loadVar t ⟨b,o,none⟩).run P w=.ok v w:=by
  have:=run_load1 (P:=P) (i:=0) h (by simpa using hv)
  simp only [loadVar,Sem.run_bind,run_isAgg ha,Result.andThen]
  simpa [Addr.add] using this
theorem run_loadVarN {t:TypeId} {n:Nat} (ha:tAgg P t=some true) (hs:tSize P t=some n) (h:w.heap[b]? = some (.cells c e z)) (hle:o+n≤c.size) :
    (loadVar t ⟨b,o,none⟩).run P w=.ok (.agg (c.extract o (o+n))) w:=by
  simp only [loadVar,Sem.run_bind,run_isAgg ha,Result.andThen,if_true,run_sizeOf hs,run_loadCells h hle]
  rfl
def wr:Array Value→Nat→List Value→Array Value
  | c,_,[]=>c
  | c,o,v::t=>wr (c.setIfInBounds o v) (o+1) t
theorem size_wr:∀ (l:List Value) (c:Array Value) (o:Nat),(wr c o l).size=c.size
  | [],_,_=>rfl
  | v::t,c,o=>by simp [wr,size_wr t]
def oneCells:List Value→Bool
  | []=>true
  | .agg _::_=>false
  | .tuple _::_=>false
  | _::t=>oneCells t
def setB (w:World) (b:Nat) (o:Obj):World:={ w with heap:=w.heap.setIfInBounds b o }
theorem setB_at {w:World} {b:Nat} {o o':Obj} (h:w.heap[b]? = some o'):(setB w b o).heap[b]? = some o:=by
  have hb:b<w.heap.size:=(Array.getElem?_eq_some_iff.1 h).1
  simp [setB,hb]
theorem setB_ne {w:World} {b k:Nat} {o:Obj} (h:k≠b):(setB w b o).heap[k]? = w.heap[k]?:=by
  simp only [setB]
  exact Array.getElem?_setIfInBounds_ne (fun e=>h e.symm)
theorem setB_size {w:World} {b:Nat} {o:Obj}:(setB w b o).heap.size=w.heap.size:=by simp [setB]
theorem setB_setB {w:World} {b:Nat} {o o':Obj}:setB (setB w b o) b o'=setB w b o':=by simp [setB,Array.setIfInBounds_setIfInBounds]
theorem setB_self {w:World} {b:Nat} {o:Obj} (h:w.heap[b]? = some o):setB w b o=w:=by
  have hb:b<w.heap.size:=(Array.getElem?_eq_some_iff.1 h).1
  have:w.heap[b]=o:=by simpa [Array.getElem?_eq_getElem hb] using h
  have hh:w.heap.setIfInBounds b o=w.heap:=by
    apply Array.ext (by simp)
    intro i h1 h2
    by_cases e:b=i
    · subst e; simp [this]
    · exact Array.getElem_setIfInBounds_ne h2 e
  unfold setB
  rw [hh]
theorem setCell_setB (h:w.heap[b]? = some (.cells c e z)):w.setCell ⟨b,o,none⟩ v=setB w b (.cells (c.setIfInBounds o v) e z):=by
  have hb:b<w.heap.size:=(Array.getElem?_eq_some_iff.1 h).1
  have hg:w.heap[b]=.cells c e z:=by simpa [Array.getElem?_eq_getElem hb] using h
  unfold World.setCell setB
  congr 1
  apply Array.ext (by simp)
  intro i h1 h2
  by_cases he:b=i
  · subst he; simp [Array.getElem_modify,hg]
  · rw [Array.getElem_setIfInBounds_ne (by simpa using h1) he]; simp [Array.getElem_modify,he]
theorem run_store1 {i:Nat} (h:w.heap[b]? = some (.cells c e (0,0))) (hlt:o+i<c.size) (hv:oneCells [v]=true):(store (Addr.add ⟨b,o,none⟩ i) v).run P w=.ok () (setB w b (.cells (c.setIfInBounds (o+i) v) e (0,0))):=by
  have ha:Addr.add ⟨b,o,none⟩ i=⟨b,o+i,none⟩:=by unfold Addr.add; split <;> simp_all
  have hc:w.cell? ⟨b,o+i,none⟩=some c[o+i]:=by rw [cell_at h]; exact Array.getElem?_eq_getElem hlt
  have hz:w.frozen? ⟨b,o+i,none⟩=false:=by simp [World.frozen?,h]
  rw [ha,← setCell_setB h]
  cases v <;> simp [oneCells] at hv <;> simp [store,Sem.run,hc,hz]
theorem oneCells_cons {u:Value} {t:List Value} (h:oneCells (u::t)=true):oneCells [u]=true∧oneCells t=true:=by
  cases u <;> simp [oneCells] at h ⊢ <;> exact h
theorem run_storeCells:∀ (l:List Value) (i:Nat) (w:World) (c:Array Value),w.heap[b]? = some (.cells c e (0,0))→o+i+l.length≤c.size→oneCells l=true →
    (storeCells ⟨b,o,none⟩ l i).run P w=.ok () (setB w b (.cells (wr c (o+i) l) e (0,0)))
  | [],i,w,c,h,_,_=>by simp only [storeCells,wr]; rw [setB_self h]; rfl
  | v::t,i,w,c,h,hle,ho=>by
    obtain ⟨h1,h2⟩:=oneCells_cons ho
    simp only [List.length_cons] at hle
    have hs1:=run_store1 (P:=P) (o:=o) (i:=i) h (by omega) h1
    simp only [storeCells,Sem.run_bind,hs1,Result.andThen]
    rw [run_storeCells t (i+1) _ _ (setB_at h) (by simp; omega) h2,setB_setB]
    simp only [wr,Nat.add_assoc]
theorem run_storeVar {t:TypeId} {n:Nat} (hs:tSize P t=some n) (hn:v.cells.size=n) (h:w.heap[b]? = some (.cells c e (0,0))) (hle:o+n≤c.size) (ho:oneCells v.cells.toList=true) :
    (storeVar t ⟨b,o,none⟩ v).run P w=.ok () (setB w b (.cells (wr c o v.cells.toList) e (0,0))):=by
  simp only [storeVar,Sem.run_bind,run_sizeOf hs,Result.andThen,hn]
  simp only [ne_eq,not_true_eq_false,if_false]
  have:=run_storeCells (P:=P) (b:=b) (o:=o) (e:=e) v.cells.toList 0 w c h (by simp; omega) ho
  simpa using this
end
def evA (L:List (Nat × Value)):List Operand→Option (List Value)
  | []=>some []
  | x::t=>match ev L x with
    | some v=>match evA L t with
      | some vs=>some (v::vs)
      | none=>none
    | none=>none
def evP (L:List (Nat × Value)):List (Nat × Operand)→Option (List (Nat × Value))
  | []=>some []
  | (i,x)::t=>match ev L x with
    | some v=>match evP L t with
      | some vs=>some ((i,v)::vs)
      | none=>none
    | none=>none
theorem Fr.evA {a:Act} {n:Nat} {ds:List Deferred} {L:List (Nat × Value)} (h:Fr a n ds L):∀ {xs:List Operand} {vs:List Value},SL.evA L xs=some vs→xs.map a.eval=vs
  | [],vs,hx=>by simp only [SL.evA,Option.some.injEq] at hx; subst hx; rfl
  | x::t,vs,hx=>by
    simp only [SL.evA] at hx
    split at hx
    · rename_i v hv
      split at hx
      · rename_i us hu
        simp only [Option.some.injEq] at hx
        subst hx
        simp [h.eval hv,Fr.evA h hu]
      · cases hx
    · cases hx
theorem Fr.evP {a:Act} {n:Nat} {ds:List Deferred} {L:List (Nat × Value)} (h:Fr a n ds L):∀ {xs:List (Nat × Operand)} {vs:List (Nat × Value)},SL.evP L xs=some vs→xs.map (fun p=>(p.1,a.eval p.2))=vs
  | [],vs,hx=>by simp only [SL.evP,Option.some.injEq] at hx; subst hx; rfl
  | (i,x)::t,vs,hx=>by
    simp only [SL.evP] at hx
    split at hx
    · rename_i v hv
      split at hx
      · rename_i us hu
        simp only [Option.some.injEq] at hx
        subst hx
        simp [h.eval hv,Fr.evP h hu]
      · cases hx
    · cases hx
section
variable {P:Program} {w:World} {n:Nat} {ds:List Deferred} {L:List (Nat × Value)} {ty t t' e:TypeId} {x y c:Operand} {u v z:Value} {b o:Nat} {k:IntKind} {p q:Int} {cs:Array Value} {zz:Nat × Nat}
theorem run_v {s:Sem Value} {w':World} (h:s.run P w=.ok v w'):(do pure (Next.value (← s)):Sem Next).run P w=.ok (.value v) w':=by
  simp only [Sem.run_bind,h,Result.andThen]; rfl
theorem run_u {s:Sem Unit} {w':World} (h:s.run P w=.ok () w'):(do s; pure .skip:Sem Next).run P w=.ok .skip w':=by
  simp only [Sem.run_bind,h,Result.andThen]; rfl
theorem RunV.lss (hx:ev L x=some (.int k p)) (hy:ev L y=some (.int k q)):RunV P n ds L (.binOp .lss t x y t') ty w (.bool (decide (p<q))) w :=
  run_int2 hx hy rfl (by simp [binOp,Op.intCmp])
theorem RunV.leq (hx:ev L x=some (.int k p)) (hy:ev L y=some (.int k q)):RunV P n ds L (.binOp .leq t x y t') ty w (.bool (decide (p≤q))) w :=
  run_int2 hx hy rfl (by simp [binOp,Op.intCmp])
theorem RunV.gtr (hx:ev L x=some (.int k p)) (hy:ev L y=some (.int k q)):RunV P n ds L (.binOp .gtr t x y t') ty w (.bool (decide (p>q))) w :=
  run_int2 hx hy rfl (by simp [binOp,Op.intCmp])
theorem RunV.geq (hx:ev L x=some (.int k p)) (hy:ev L y=some (.int k q)):RunV P n ds L (.binOp .geq t x y t') ty w (.bool (decide (p≥q))) w :=
  run_int2 hx hy rfl (by simp [binOp,Op.intCmp])
theorem RunV.eql (hx:ev L x=some (.int k p)) (hy:ev L y=some (.int k q)):RunV P n ds L (.binOp .eql t x y t') ty w (.bool (decide (p=q))) w :=
  run_int2 hx hy rfl (by simp [binOp,Op.intCmp]; rfl)
theorem RunV.neq (hx:ev L x=some (.int k p)) (hy:ev L y=some (.int k q)):RunV P n ds L (.binOp .neq t x y t') ty w (.bool (decide (p≠q))) w :=
  run_int2 hx hy rfl (by simp [binOp,Op.intCmp,bne]; rfl)
theorem RunV.quo (hx:ev L x=some (.int k p)) (hy:ev L y=some (.int k q)) (h0:q≠0):RunV P n ds L (.binOp .quo t x y t') ty w (.int k (k.wrap (p.tdiv q))) w :=
  run_int2 hx hy rfl (by simp [binOp,Op.intDiv,h0])
theorem RunV.rem (hx:ev L x=some (.int k p)) (hy:ev L y=some (.int k q)) (h0:q≠0):RunV P n ds L (.binOp .rem t x y t') ty w (.int k (p.tmod q)) w :=
  run_int2 hx hy rfl (by simp [binOp,Op.intDiv,h0])
theorem RunV.bits {op:BinOp} (hop:(match op with | .and | .or | .xor | .andNot=>true | _=>false)=true) (hx:ev L x=some (.int k p)) (hy:ev L y=some (.int k q)) (hr:(Op.intBits op k p q)=(pure v:Sem Value)):RunV P n ds L (.binOp op t x y t') ty w v w :=
  run_int2 hx hy (by cases op <;> simp at hop ⊢) (by cases op <;> simp at hop <;> simp [binOp,hr])
theorem run_shift {op:BinOp} {k':IntKind} (hop:(match op with | .shl | .shr=>true | _=>false)=true) (hx:ev L x=some (.int k p)) (hy:ev L y=some (.int k' q)) (hr:(Op.shift op k p k' q).run P w=.ok v w):RunV P n ds L (.binOp op t x y t') ty w v w:=fun a d pos af g hf=>by
  simp only [execOp,hf.eval hx,hf.eval hy]
  have hg:eqGuard op t x y (.int k p) (.int k' q)=(pure ():Sem Unit):=by
    unfold eqGuard
    cases op <;> simp at hop ⊢
  have hb:binOp op t (.int k p) (.int k' q)=Op.shift op k p k' q:=by cases op <;> simp at hop <;> rfl
  rw [hg,hb]
  show (Sem.bind (Op.shift op k p k' q) fun z=>Sem.pure (Next.value z)).run P w=_
  show (Op.shift op k p k' q >>= fun z=>pure (Next.value z)).run P w=_
  simp only [Sem.run_bind,hr]
  rfl
theorem RunV.shl {k':IntKind} (hx:ev L x=some (.int k p)) (hy:ev L y=some (.int k' q)) (h0:0≤q):RunV P n ds L (.binOp .shl t x y t') ty w (.int k (k.wrap (p*2^(min q.toNat k.bits)))) w :=
  run_shift rfl hx hy (by simp [Op.shift,Int.not_lt.2 h0])
theorem RunV.shr {k':IntKind} (hx:ev L x=some (.int k p)) (hy:ev L y=some (.int k' q)) (h0:0≤q):RunV P n ds L (.binOp .shr t x y t') ty w (.int k (p.fdiv (2^(min q.toNat k.bits)))) w :=
  run_shift rfl hx hy (by simp [Op.shift,Int.not_lt.2 h0])
theorem RunV.conv {k':IntKind} (ht:(P.underlying t).isSome=true) (hT:tInt P t'=some k') (hx:ev L x=some (.int k p)):RunV P n ds L (.convert t t' x) ty w (.int k' (k'.wrap p)) w:=fun a d pos af g hf=>by
  obtain ⟨du,hd⟩:=Option.isSome_iff_exists.1 ht
  simp only [execOp,hf.eval hx]
  refine run_v ?_
  simp only [convert,Sem.run_bind,run_underlying hd,run_underlying (und_int hT),Result.andThen]
  cases du <;> rfl
theorem add_none (b o i:Nat):Addr.add ⟨b,o,none⟩ i=⟨b,o+i,none⟩:=by
  unfold Addr.add
  split
  · rename_i h; rw [h,Nat.add_zero]
  · rfl
theorem RunV.field {k off m:Nat} (hF:tField P t k=some off) (hx:ev L x=some (.pointer (some ⟨b,o,none⟩))) (hq:o+off=m):RunV P n ds L (.fieldAddr t x k) ty w (.pointer (some ⟨b,m,none⟩)) w:=fun a d pos af g hf=>by
  simp only [execOp,hf.eval hx]
  refine run_v ?_
  unfold tField at hF
  split at hF
  · rename_i fs hfs
    split at hF
    · rename_i f hfk
      have hpl:∀ s,tSize P f.type=some (s+1)→(fieldPlace ⟨b,o,none⟩ f).run P w=.ok ⟨b,o+f.offset,none⟩ w:=fun s hs=>by
        simp only [fieldPlace,Sem.run_bind,run_sizeOf hs,Result.andThen]
        rw [if_neg (by omega),add_none]
        rfl
      generalize hs:tSize P f.type=os at hF
      match os,hF with
      | some 0,hF=>cases hF
      | none,hF=>cases hF
      | some (s+1),hF =>
        simp only [Option.some.injEq] at hF
        subst hF
        subst hq
        simp only [Instr.fieldAt,Sem.run_bind,run_underlying hfs,Result.andThen,hfk,Instr.sureAddr,Sem.run_pure,hpl s hs]
    · cases hF
  · cases hF
end
end Go.SL
