/- Operations that read memory, make or write it, and calls. -/
import Derived.Test.YtipfobacinmoiaaGreatSL3
set_option linter.unusedVariables false
set_option linter.unusedSimpArgs false
namespace Go.SL
open Go
section
variable {P:Program} {w:World} {n:Nat} {ds:List Deferred} {L:List (Nat × Value)} {ty t t' e:TypeId} {x y c:Operand} {u v z:Value} {b o:Nat} {k:IntKind} {p q:Int} {cs:Array Value} {zz:Nat × Nat}
theorem RunV.load1 (ha:tAgg P t=some false) (hx:ev L x=some (.pointer (some ⟨b,o,none⟩))) (hb:w.heap[b]? = some (.cells cs e zz)) (hv:cs[o]? = some v):RunV P n ds L (.load t x) ty w v w:=fun a d pos af g hf=>by
  simp only [execOp,hf.eval hx]
  refine run_v ?_
  simp only [Instr.loadAt,Instr.sureAddr,Sem.run_bind,Sem.run_pure,Result.andThen,run_loadVar1 ha hb hv]
theorem RunV.loadN {m:Nat} {cs':Array Value} (ha:tAgg P t=some true) (hs:tSize P t=some m) (hx:ev L x=some (.pointer (some ⟨b,o,none⟩))) (hb:w.heap[b]? = some (.cells cs e zz)) (hle:o+m≤cs.size) (hv:cs.extract o (o+m)=cs') :
    RunV P n ds L (.load t x) ty w (.agg cs') w:=fun a d pos af g hf=>by
  simp only [execOp,hf.eval hx]
  refine run_v ?_
  simp only [Instr.loadAt,Instr.sureAddr,Sem.run_bind,Sem.run_pure,Result.andThen,run_loadVarN ha hs hb hle,hv]
theorem RunV.indexSl {sz len cap j m:Nat} {bo:Nat} (he:tElem P t=some e) (hs:tSize P e=some sz) (hx:ev L x=some (.slice (some ⟨bo,o,none⟩) len cap)) (hy:ev L y=some (.int k p)) (hj:p=(j:Int)) (hlt:j<len) (hm:o+j*sz=m) :
    RunV P n ds L (.indexAddr t x y) ty w (.pointer (some ⟨bo,m,none⟩)) w:=fun a d pos af g hf=>by
  simp only [execOp,hf.eval hx,hf.eval hy]
  refine run_v ?_
  subst hj
  subst hm
  have hu:=run_underlying (und_elem he) w
  simp only [Instr.indexAt,asIntOf,Sem.run_bind,Sem.run_pure,Result.andThen,hu,Bool.and_false,Bool.false_eq_true,if_false]
  have h0:(0:Int)≤(j:Int)∧(j:Int)<(len:Int):=⟨by omega,by omega⟩
  simp only [Sem.run_bind,Result.andThen,if_pos h0,run_sizeOf hs,add_none,Int.toNat_natCast,Sem.run_pure]
theorem RunV.indexArr {sz len j m:Nat} {bo:Nat} (he:tArr P t=some (len,e)) (hs:tSize P e=some sz) (hx:ev L x=some (.pointer (some ⟨bo,o,none⟩))) (hy:ev L y=some (.int k p)) (hj:p=(j:Int)) (hlt:j<len) (hm:o+j*sz=m) :
    RunV P n ds L (.indexAddr t x y) ty w (.pointer (some ⟨bo,m,none⟩)) w:=fun a d pos af g hf=>by
  simp only [execOp,hf.eval hx,hf.eval hy]
  refine run_v ?_
  subst hj
  subst hm
  have hu:=run_underlying (und_arr he) w
  have h0:(0:Int)≤(j:Int)∧(j:Int)<(len:Int):=⟨by omega,by omega⟩
  simp only [Instr.indexAt,asIntOf,Instr.sureAddr,Sem.run_bind,Sem.run_pure,Result.andThen,hu,if_pos h0,run_sizeOf hs,add_none,Int.toNat_natCast]
theorem RunV.index1 {sz len j:Nat} (he:tArr P t=some (len,e)) (ha:tAgg P e=some false) (hs:tSize P e=some sz) (hx:ev L x=some (.agg cs)) (hy:ev L y=some (.int k p)) (hj:p=(j:Int)) (hlt:j<len) (hv:cs[j*sz]? = some v) :
    RunV P n ds L (.index t x y) ty w v w:=fun a d pos af g hf=>by
  simp only [execOp,hf.eval hx,hf.eval hy]
  refine run_v ?_
  subst hj
  have hu:=run_underlying (und_arr he) w
  have h0:(0:Int)≤(j:Int)∧(j:Int)<(len:Int):=⟨by omega,by omega⟩
  simp only [Instr.index,asIntOf,Sem.run_bind,Sem.run_pure,Result.andThen,hu,if_pos h0,run_sizeOf hs,Int.toNat_natCast,part,run_isAgg ha,Bool.false_eq_true,if_false,hv]
theorem RunV.indexN {sz len j:Nat} {cs':Array Value} (he:tArr P t=some (len,e)) (ha:tAgg P e=some true) (hs:tSize P e=some sz) (hx:ev L x=some (.agg cs)) (hy:ev L y=some (.int k p)) (hj:p=(j:Int)) (hlt:j<len) (hv:cs.extract (j*sz) (j*sz+sz)=cs') :
    RunV P n ds L (.index t x y) ty w (.agg cs') w:=fun a d pos af g hf=>by
  simp only [execOp,hf.eval hx,hf.eval hy]
  refine run_v ?_
  subst hj
  subst hv
  have hu:=run_underlying (und_arr he) w
  have h0:(0:Int)≤(j:Int)∧(j:Int)<(len:Int):=⟨by omega,by omega⟩
  simp only [Instr.index,asIntOf,Sem.run_bind,Sem.run_pure,Result.andThen,hu,if_pos h0,run_sizeOf hs,Int.toNat_natCast,part,run_isAgg ha,if_true]
theorem run_places {fs:Array Field} {pl:Array (Nat × Nat)} (h:fs.mapM (fun f=>(tSize P f.type).map fun s=>(f.offset,s))=some pl) (w:World) :
    (fs.mapM fun f=>do pure (f.offset,← sizeOf f.type):Sem (Array (Nat × Nat))).run P w=.ok pl w:=by
  rw [Array.mapM_eq_mapM_toList] at h ⊢
  obtain ⟨l⟩:=fs
  simp only at h ⊢
  obtain ⟨pl',hpl,rfl⟩:=Option.map_eq_some_iff.1 (by simpa using h)
  have key:∀ (l:List Field) (pl':List (Nat × Nat)),l.mapM (fun f=>(tSize P f.type).map fun s=>(f.offset,s))=some pl'→(l.mapM fun f=>do pure (f.offset,← sizeOf f.type):Sem (List (Nat × Nat))).run P w=.ok pl' w:=by
    intro l
    induction l with
    | nil=>intro pl' h; simp only [List.mapM_nil] at h ⊢; cases h; rfl
    | cons f t ih =>
      intro pl' h
      simp only [List.mapM_cons,Option.bind_eq_bind,Option.bind_eq_some_iff] at h
      obtain ⟨q,hq,rest,hrest,hpl⟩:=h
      obtain ⟨s,hs,rfl⟩:=Option.map_eq_some_iff.1 hq
      simp only [Option.pure_def,Option.some.injEq] at hpl
      subst hpl
      simp only [List.mapM_cons,Sem.run_bind,run_sizeOf hs,Result.andThen,Sem.run_pure,ih _ hrest]
  have hk:=key l pl' (by simpa using hpl)
  show ((List.toArray <$> (l.mapM fun f=>do pure (f.offset,← sizeOf f.type):Sem (List (Nat × Nat)))):Sem _).run P w=_
  rw [← bind_pure_comp]
  simp only [Sem.run_bind,hk,Result.andThen,Sem.run_pure]
theorem und_places {pl:Array (Nat × Nat)} (h:tPlaces P t=some pl):∃ fs,P.underlying t=some (.struct fs)∧fs.mapM (fun f=>(tSize P f.type).map fun s=>(f.offset,s))=some pl:=by
  unfold tPlaces at h
  split at h
  · rename_i fs hfs; exact ⟨fs,hfs,h⟩
  · cases h
theorem RunV.buildS {pl:Array (Nat × Nat)} {parts:Array (Nat × Operand)} {vs:List (Nat × Value)} {cs':Array Value} (hp:tPlaces P t=some pl) (hz:tZero P t=some z) (hv:evP L parts.toList=some vs) (hb:Instr.fill (pl[·]?) z.cells vs=some cs') :
    RunV P n ds L (.build t parts) ty w (.agg cs') w:=fun a d pos af g hf=>by
  obtain ⟨fs,hu,hm⟩:=und_places hp
  have he:(parts.map fun p=>(p.1,a.eval p.2)).toList=vs:=by rw [Array.toList_map]; exact hf.evP hv
  simp only [execOp]
  refine run_v ?_
  simp only [Instr.build,Sem.run_bind,run_zero hz,run_underlying hu,Result.andThen,run_places hm]
  have:(parts.map fun (x:Nat × Operand)=>match x with | (i,x)=>(i,a.eval x)).toList=vs:=he
  rw [this,hb]
  rfl
theorem RunV.buildA {len sz:Nat} {parts:Array (Nat × Operand)} {vs:List (Nat × Value)} {cs':Array Value} (he:tArr P t=some (len,e)) (hs:tSize P e=some sz) (hz:tZero P t=some z) (hv:evP L parts.toList=some vs) (hb:Instr.fill (fun i=>some (i*sz,sz)) z.cells vs=some cs') :
    RunV P n ds L (.build t parts) ty w (.agg cs') w:=fun a d pos af g hf=>by
  have he':(parts.map fun p=>(p.1,a.eval p.2)).toList=vs:=by rw [Array.toList_map]; exact hf.evP hv
  simp only [execOp]
  refine run_v ?_
  simp only [Instr.build,Sem.run_bind,run_zero hz,run_underlying (und_arr he),Result.andThen,run_sizeOf hs]
  have:(parts.map fun (x:Nat × Operand)=>match x with | (i,x)=>(i,a.eval x)).toList=vs:=he'
  rw [this,hb]
  rfl
theorem run_builtin {bi:Builtin} {args:Array Operand} {at_:Array TypeId} {vs:List Value} {a:Act} {d:Option Tmp} {pos:String} {af:Array Edge} {g:Option (Nat × Bool)} (hf:Fr a n ds L) (hv:evA L args.toList=some vs) {w:World} {res:Result Next}
    (hr:(builtin bi at_ ty (args.map fun | .const _=>true | _=>false) vs.toArray).run P w=res):(execOp a.eval ⟨d,.call ⟨.builtin bi,args,at_⟩,ty,pos,af,g⟩).run P w=res:=by
  have he:args.map a.eval=vs.toArray:=by
    apply Array.ext'
    rw [Array.toList_map,hf.evA hv]
  simp only [execOp,resolve,Sem.run_bind,Sem.run_pure,Result.andThen,invoke,he]
  exact hr
theorem RunV.len {len cap:Nat} {A:Option Addr} {at_:Array TypeId} (he:(at_[0]?).bind (tElem P)=some e) (hv:ev L x=some (.slice A len cap)):RunV P n ds L (.call ⟨.builtin .len,#[x],at_⟩) ty w (.int .i64 (len:Int)) w:=fun a d pos af g hf=>by
  obtain ⟨t,ht,he'⟩:=Option.bind_eq_some_iff.1 he
  refine run_builtin (vs:=[.slice A len cap]) hf (by simp [evA,hv]) ?_
  simp only [builtin]
  refine run_v ?_
  simp [Builtin.len_,ht,run_underlying (und_elem he')]
  rfl
theorem RunV.min {at_:Array TypeId} (hx:ev L x=some (.int k p)) (hy:ev L y=some (.int k q)):RunV P n ds L (.call ⟨.builtin .min,#[x,y],at_⟩) ty w (.int k (if q<p then q else p)) w:=fun a d pos af g hf=>by
  refine run_builtin (vs:=[.int k p,.int k q]) hf (by simp [evA,hx,hy]) ?_
  simp only [builtin]
  refine run_v ?_
  simp [Builtin.min_,Builtin.min2]
theorem RunV.max {at_:Array TypeId} (hx:ev L x=some (.int k p)) (hy:ev L y=some (.int k q)):RunV P n ds L (.call ⟨.builtin .max,#[x,y],at_⟩) ty w (.int k (if p<q then q else p)) w:=fun a d pos af g hf=>by
  refine run_builtin (vs:=[.int k p,.int k q]) hf (by simp [evA,hx,hy]) ?_
  simp only [builtin]
  refine run_v ?_
  simp [Builtin.max_,Builtin.max2]
theorem RunE.call {f:Operand} {fid:FuncId} {first captured:Array Value} {args:Array Operand} {at_:Array TypeId} {vs:List Value} {av:Array Value} (hk:callOK P fid=true) (hx:ev L f=some (.func (.func fid) first captured)) (hv:evA L args.toList=some vs) (ha:first++vs.toArray++captured=av) :
    RunE P n ds L (.call ⟨.value f,args,at_⟩) ty w fid av:=fun a d pos af g hf=>by
  have he:args.map a.eval=vs.toArray:=by
    apply Array.ext'
    rw [Array.toList_map,hf.evA hv]
  subst ha
  unfold callOK at hk
  simp only [execOp,resolve,Sem.run_bind,Sem.run_pure,Result.andThen,he,hf.eval hx,Deferred.ofValue,invoke,callFunc]
  split at hk
  · rename_i fn hfn
    simp only [Bool.and_eq_true,bne_iff_ne,ne_eq] at hk
    obtain ⟨h1,h2⟩:=hk
    have h3:fn.body.isNone=false:=by cases hb:fn.body <;> simp_all
    have hp:(program).run P w=.ok P w:=rfl
    simp only [hp,hfn]
    simp [h1,h3]
  · cases hk
end
section
variable {r:Option Nat} {P:Program} {Q:Exit→Act→World→Prop} {ops:Array Oper} {i:Nat} {rest:List Nat} {a:Act} {w w0 w':World} {n:Nat} {ds:List Deferred} {L:List (Nat × Value)}
  {d:Nat} {op:Op} {ty t e:TypeId} {pos:String} {af:Array Edge} {v z:Value} {X:Nat→Prop} {B M M':List Asr} {x y:Operand} {b o j:Nat} {cs:Array Value}
theorem St.alloc (h:St w0 w X B M) (o:Obj):St w0 (w.alloc o) X B (pt w.heap.size o::M):=by
  refine h.push (w':=w.alloc o) rfl rfl rfl (by simp) (fun b hb=>heap_alloc_old w o b hb) (heap_alloc_new w o) (fun b hb=>?_)
  have hb:b=w.heap.size:=hb
  subst hb
  exact ⟨Nat.le_refl _,by simp⟩
theorem O.alloc (hf:Fr a n ds L) (hS:St w0 w X B M) (ho:ops[i]? = some ⟨some d,.alloc t,ty,pos,af,none⟩) (hd:Nat.blt d n=true) (hz:tZero P t=some z) (hc:z.cells=cs)
    (k:∀ b w' a',w0.heap.size≤b→St w0 w' X B (pt b (.cells cs t (0,0))::M)→Fr a' n ds ((d,.pointer (some ⟨b,0,none⟩))::L)→O r P ops Q rest a' w'):O r P ops Q (i::rest) a w:=by
  subst hc
  refine O.val (w':=w.alloc (.cells z.cells t)) hf ho rfl hd (v:=.pointer (some ⟨w.heap.size,0,none⟩)) ?_ (fun a' hf'=>k _ _ a' hS.size (hS.alloc _) hf')
  intro a d pos af g hf
  simp only [execOp]
  refine run_v ?_
  simp only [Instr.alloc,Sem.run_bind,run_zero hz,Result.andThen,newVar,newRow,newObj,Sem.run,Sem.run_pure]
  rfl
theorem O.box (hf:Fr a n ds L) (hS:St w0 w X B M) (ho:ops[i]? = some ⟨some d,.box t x,ty,pos,af,none⟩) (hd:Nat.blt d n=true) (hx:ev L x=some v) (hc:v.cells=cs)
    (k:∀ b w' a',w0.heap.size≤b→St w0 w' X B (pt b (.cells cs t (0,0))::M)→Fr a' n ds ((d,.pointer (some ⟨b,0,none⟩))::L)→O r P ops Q rest a' w'):O r P ops Q (i::rest) a w:=by
  subst hc
  refine O.val (w':=w.alloc (.cells v.cells t)) hf ho rfl hd (v:=.pointer (some ⟨w.heap.size,0,none⟩)) ?_ (fun a' hf'=>k _ _ a' hS.size (hS.alloc _) hf')
  intro a d pos af g hf
  simp only [execOp,hf.eval hx]
  refine run_v ?_
  simp only [Instr.box,Sem.run_bind,Result.andThen,newVar,newRow,newObj,Sem.run,Sem.run_pure]
  rfl
theorem St.setB (h:St w0 w X B M) (hi:M[j]? = some (pt b (.cells cs e (0,0)))) (o:Obj):St w0 (SL.setB w b o) X B (M.set j (pt b o)):=by
  have hb:w.heap[b]? = some _:=h.at_ hi
  exact h.write (w':=SL.setB w b o) hi rfl rfl rfl (by rw [setB_size]; exact Nat.le_refl _) (fun k _ hk=>setB_ne hk) (setB_at hb) (fun k hk=>⟨.inl hk,by
    have hk:k=b:=hk
    subst hk
    rw [setB_size]
    exact (Array.getElem?_eq_some_iff.1 hb).1⟩)
theorem O.store {m:Nat} {cs':Array Value} (hf:Fr a n ds L) (hS:St w0 w X B M) (ho:ops[i]? = some ⟨none,.store t x y,ty,pos,af,none⟩) (hx:ev L x=some (.pointer (some ⟨b,o,none⟩))) (hy:ev L y=some v)
    (hs:tSize P t=some m) (hv:v.cells.size=m) (h1:oneCells v.cells.toList=true) (hM:M[j]? = some (pt b (.cells cs e (0,0)))) (hle:o+m≤cs.size) (hc:wr cs o v.cells.toList=cs') (hM':M.set j (pt b (.cells cs' e (0,0)))=M')
    (k:∀ w',St w0 w' X B M'→O r P ops Q rest a w'):O r P ops Q (i::rest) a w:=by
  subst hc
  subst hM'
  refine O.unit (w':=setB w b (.cells (wr cs o v.cells.toList) e (0,0))) hf ho rfl ?_ (k _ (hS.setB hM _))
  intro a d pos af g hf
  simp only [execOp,hf.eval hx,hf.eval hy]
  refine run_u ?_
  simp only [Instr.storeAt,Instr.sureAddr,Sem.run_bind,Sem.run_pure,Result.andThen,run_storeVar hs hv (hS.ptAt hM) hle h1]
theorem O.buildSlice {m len:Nat} {parts:Array (Nat × Operand)} {vs:List (Nat × Value)} {cs' zs:Array Value} (hf:Fr a n ds L) (hS:St w0 w X B M) (ho:ops[i]? = some ⟨some d,.buildSlice t len parts,ty,pos,af,none⟩) (hd:Nat.blt d n=true)
    (he:tElem P t=some e) (hs:tSize P e=some m) (hz:tZero P e=some z) (h0:Nat.ble (len*m) 16777216=true) (h1:Nat.blt 0 (len*m)=true) (hzs:((List.range (len*m)).map (z.cells[· % z.cells.size]!)).toArray=zs)
    (hv:evP L parts.toList=some vs) (hb:Instr.fill (fun i=>some (i*m,m)) zs vs=some cs')
    (k:∀ b w' a',w0.heap.size≤b→St w0 w' X B (pt b (.cells cs' e (0,0))::M)→Fr a' n ds ((d,.slice (some ⟨b,0,none⟩) len len)::L)→O r P ops Q rest a' w'):O r P ops Q (i::rest) a w:=by
  have hzs':(Array.range (len*m)).map (z.cells[· % z.cells.size]!)=zs:=by
    rw [← hzs]
    apply Array.ext'
    simp
  subst hzs'
  refine O.val (w':=w.alloc (.cells cs' e)) hf ho rfl hd (v:=.slice (some ⟨w.heap.size,0,none⟩) len len) ?_ (fun a' hf'=>k _ _ a' hS.size (hS.alloc _) hf')
  intro a d pos af g hf
  have he':(parts.map fun p=>(p.1,a.eval p.2)).toList=vs:=by rw [Array.toList_map]; exact hf.evP hv
  have h0:¬ len*m>16777216:=by have:=Nat.le_of_ble_eq_true h0; omega
  have h1 : ¬ len * m = 0 := by have : 0 < len * m := by simpa using h1
                                omega
  simp only [execOp]
  refine run_v ?_
  simp only [Instr.buildSlice,Sem.run_bind,run_underlying (und_elem he),Result.andThen,run_sizeOf hs]
  rw [if_neg (by simpa using h0)]
  simp only [Sem.run_bind,Result.andThen,Sem.run_pure,if_neg h1,run_zero hz]
  have:(parts.map fun (x:Nat × Operand)=>match x with | (i,x)=>(i,a.eval x)).toList=vs:=he'
  rw [this,hb]
  simp only [Sem.run_bind,Result.andThen,newRow,newObj,Sem.run,Sem.run_pure]
  rfl
end
end Go.SL
