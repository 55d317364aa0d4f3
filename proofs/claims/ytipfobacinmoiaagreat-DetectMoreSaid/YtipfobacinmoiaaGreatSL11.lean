/- Maps of integers to true: a set of small numbers, told by a list of marks. -/
import Derived.Test.YtipfobacinmoiaaGreatSL10
import Derived.MapKept
set_option linter.unusedVariables false
set_option linter.unusedSimpArgs false
namespace Go.SL
open Go
def eKey (e:MapEntry):Value:=e.key
structure MOK (es:Array MapEntry) (clock:Nat) (ks:List Int):Prop where
  keys:es.toList.map (·.key)=ks.map (Value.int .i64)
  vals:∀ e ∈ es.toList,e.val=.bool true
  born:∀ e ∈ es.toList,e.born<clock
  apart:(es.toList.map (·.born)).Nodup
  nodup:ks.Nodup
def setOK (h:Hp) (b:Nat) (ins:List Bool):Prop :=
  ∃ es clock ks,h b=some (.map es clock)∧MOK es clock ks∧(∀ k ∈ ks,0≤k)∧∀ i:Nat,((i:Int) ∈ ks↔ins.getD i false=true)
def ms (b:Nat) (ins:List Bool):Asr:=⟨fun k=>k=b,fun h=>setOK h b ins,fun h h' hk ⟨es,c,ks,h1,h2⟩=>⟨es,c,ks,by rw [hk b rfl]; exact h1,h2⟩⟩
def tSet (P:Program) (t:TypeId):Option TypeId :=
  match P.underlying t with
  | some (.map k e)=>match P.underlying k with
    | some (.int _)=>match tZero P e with
      | some (.bool false)=>some k
      | _=>none
    | _=>none
  | _=>none
section
variable {P:Program} {w:World} {t kt:TypeId} {k:Int}
theorem tSet_spec (h:tSet P t=some kt):∃ e q,P.underlying t=some (.map kt e)∧P.underlying kt=some (.int q)∧tZero P e=some (.bool false):=by
  unfold tSet at h
  split at h
  · rename_i k e hu
    split at h
    · rename_i q hq
      split at h
      · rename_i hz
        simp only [Option.some.injEq] at h
        subst h
        exact ⟨e,q,hu,hq,hz⟩
      · cases h
    · cases h
  · cases h
theorem run_underlying {d:TypeDesc} (h:P.underlying t=some d):(underlying t).run P w=.ok d w:=by
  simp [underlying,h]
def posK (k:Int):List Int→Nat→Option Nat
  | [],_=>none
  | x::t,i=>if k=x then some i else posK k t (i+1)
theorem posK_none:∀ {ks:List Int} {i:Nat},posK k ks i=none↔k ∉ ks
  | [],i=>by simp [posK]
  | x::t,i=>by
    simp only [posK,List.mem_cons,not_or]
    split
    · rename_i h; simp [h]
    · rename_i h; rw [posK_none]; simp [h]
theorem posK_some:∀ {ks:List Int} {i j:Nat},posK k ks i=some j→∃ m,j=i+m∧ks[m]? = some k
  | [],i,j,h=>by simp [posK] at h
  | x::t,i,j,h=>by
    simp only [posK] at h
    split at h
    · rename_i hx; simp only [Option.some.injEq] at h; exact ⟨0,h.symm,by simp [hx]⟩
    · obtain ⟨m,h1,h2⟩:=posK_some h; exact ⟨m+1,by omega,by simpa using h2⟩
theorem findNow_set {q:IntKind}:∀ (es:List MapEntry) (ks:List Int) (i:Nat),es.map (·.key)=ks.map (Value.int .i64)→(∀ e ∈ es,e.val=.bool true) →
    Instr.findNow (.int q) (.int .i64 k) es i=some ((posK k ks i).map fun j=>(j,.bool true))
  | [],[],i,_,_=>rfl
  | [],_::_,i,h,_=>by simp at h
  | _::_,[],i,h,_=>by simp at h
  | e::es,x::ks,i,h,hv=>by
    simp only [List.map_cons,List.cons.injEq] at h
    simp only [Instr.findNow,h.1,Instr.sameNow,if_true,posK]
    by_cases hx:k=x
    · subst hx
      simp [hv e (by simp)]
    · have:(k == x)=false:=by simpa using hx
      rw [this]
      simp only [hx,if_false]
      exact findNow_set es ks (i+1) h.2 (fun e he=>hv e (by simp [he]))
theorem run_findKey {q:IntKind} {es:Array MapEntry} {c:Nat} {ks:List Int} (hk:P.underlying kt=some (.int q)) (hm:MOK es c ks) :
    (Instr.findKey kt (.int .i64 k) es.toList).run P w=.ok ((posK k ks 0).map fun j=>(j,.bool true)) w:=by
  unfold Instr.findKey
  simp only [Sem.run_bind,run_underlying hk,Result.andThen,findNow_set es.toList ks 0 hm.keys hm.vals]
  rfl
theorem run_checkKey {q:IntKind} (hk:P.underlying kt=some (.int q)) (b:Bool):(Instr.checkKey b 10000 kt (.int .i64 k)).run P w=.ok () w:=by
  unfold Instr.checkKey
  simp only [Sem.run_bind,run_underlying hk]
  rfl
section
variable {es:Array MapEntry} {c:Nat} {ks:List Int}
theorem MOK.push (h:MOK es c ks) (hk:k ∉ ks):MOK (es.push { key:=.int .i64 k,val:=.bool true,born:=c }) (c+1) (ks++[k]):=by
  refine ⟨by simp [h.keys],fun e he=>?_,fun e he=>?_,?_,?_⟩
  · simp only [Array.toList_push,List.mem_append,List.mem_singleton] at he
    rcases he with he | rfl
    · exact h.vals e he
    · rfl
  · simp only [Array.toList_push,List.mem_append,List.mem_singleton] at he
    rcases he with he | rfl
    · have:=h.born e he; omega
    · exact Nat.lt_succ_self _
  · simp only [Array.toList_push,List.map_append,List.map_cons,List.map_nil]
    rw [List.nodup_append]
    refine ⟨h.apart,by simp,fun x hx y hy=>?_⟩
    simp only [List.mem_singleton] at hy
    subst hy
    obtain ⟨e,he,rfl⟩:=List.mem_map.1 hx
    have:=h.born e he; omega
  · rw [List.nodup_append]
    exact ⟨h.nodup,by simp,fun x hx y hy e=>by simp only [List.mem_singleton] at hy; subst hy; exact hk (e▸hx)⟩
theorem getKey (h:MOK es c ks) {m:Nat} (hm:ks[m]? = some k):∃ e,es[m]? = some e∧e.key=.int .i64 k:=by
  have h1:(es.toList.map (·.key))[m]? = some (.int .i64 k):=by rw [h.keys,List.getElem?_map,hm]; rfl
  rw [List.getElem?_map,Option.map_eq_some_iff] at h1
  obtain ⟨e,he,h2⟩:=h1
  exact ⟨e,by simpa using he,h2⟩
theorem MOK.same (h:MOK es c ks) {m:Nat} (hm:ks[m]? = some k):MOK (es.modify m fun e=>{ e with key:=.int .i64 k,val:=.bool true }) c ks:=by
  obtain ⟨e,he,hek⟩:=getKey h hm
  have:(es.modify m fun e=>{ e with key:=.int .i64 k,val:=.bool true })=es:=by
    apply Array.ext (by simp)
    intro i h1 h2
    by_cases hi:m=i
    · subst hi
      have he':es[m]=e:=by simpa [h2] using he
      rw [Array.getElem_modify,if_pos rfl,he']
      have hv:=h.vals e (by rw [← he']; simp)
      cases e
      simp only at hek hv
      subst hek hv
      rfl
    · rw [Array.getElem_modify,if_neg hi]
  rw [this]
  exact h
theorem map_eraseIdx {α β:Type} (f:α→β):∀ (l:List α) (m:Nat),(l.eraseIdx m).map f=(l.map f).eraseIdx m
  | [],_=>rfl
  | _::_,0=>rfl
  | a::t,m+1=>by simp [map_eraseIdx f t m]
theorem MOK.erase (h:MOK es c ks) {m:Nat} (hm:m<ks.length):MOK (es.eraseIdxIfInBounds m) c (ks.eraseIdx m):=by
  have hsz:es.size=ks.length:=by have:=congrArg List.length h.keys; simpa using this
  have e1:(es.eraseIdxIfInBounds m).toList=es.toList.eraseIdx m:=by simp [Array.eraseIdxIfInBounds,hsz,hm]
  refine ⟨by rw [e1,map_eraseIdx,h.keys,map_eraseIdx],fun e he=>?_,fun e he=>?_,?_,?_⟩
  · rw [e1] at he; exact h.vals e (List.mem_of_mem_eraseIdx he)
  · rw [e1] at he; exact h.born e (List.mem_of_mem_eraseIdx he)
  · rw [e1,map_eraseIdx]; exact h.apart.sublist (List.eraseIdx_sublist _ _)
  · exact h.nodup.sublist (List.eraseIdx_sublist _ _)
theorem mem_erase (h:ks.Nodup) {m:Nat} (hm:ks[m]? = some k) (x:Int):x ∈ ks.eraseIdx m↔x ∈ ks∧x≠k:=by
  have hml:m<ks.length:=(List.getElem?_eq_some_iff.1 hm).1
  have hk:ks[m]=k:=(List.getElem?_eq_some_iff.1 hm).2
  constructor
  · intro hx
    refine ⟨List.mem_of_mem_eraseIdx hx,fun e=>?_⟩
    subst e
    rw [List.mem_eraseIdx_iff_getElem] at hx
    obtain ⟨i,hi,hne,he⟩:=hx
    exact hne ((List.getElem_inj h).1 (he.trans hk.symm))
  · rintro ⟨hx,hne⟩
    rw [List.mem_eraseIdx_iff_getElem]
    obtain ⟨i,hi,rfl⟩:=List.mem_iff_getElem.1 hx
    exact ⟨i,hi,fun e=>hne (by subst e; exact hk),rfl⟩
end
def putMap (w:World) (b:Nat) (es:Array MapEntry) (c:Nat):World:={ w with heap:=w.heap.setIfInBounds b (.map es c) }
variable {b:Nat} {ins:List Bool} {i:Nat}
theorem run_lookup_set (ht:tSet P t=some kt) (h:setOK (hp w) b ins):(Instr.lookup t (.map (some b)) (.int .i64 (i:Int)) false).run P w=.ok (.bool (ins.getD i false)) w:=by
  obtain ⟨e,q,h1,h2,h3⟩:=tSet_spec ht
  obtain ⟨es,c,ks,hb,hm,h0,hk⟩:=h
  have hb':w.heap[b]? = some (.map es c):=hb
  unfold Instr.lookup
  simp only [Sem.run_bind,run_underlying h1,Result.andThen,MapKept.run_getObj_map hb',Sem.run_pure,run_checkKey h2,run_findKey h2 hm]
  have hki:=hk i
  cases hp:posK (i:Int) ks 0 with
  | none =>
    have:=posK_none.1 hp
    have hf:ins.getD i false=false:=by
      cases hh:ins.getD i false with
      | false=>rfl
      | true=>exact absurd (hki.2 hh) this
    simp only [Option.map_none,Sem.run_bind,run_zero h3,Result.andThen,Sem.run_pure,hf]
    rfl
  | some j =>
    obtain ⟨m,-,hm'⟩:=posK_some hp
    have:=hki.1 (List.mem_of_getElem? hm')
    simp only [Option.map_some,Sem.run_bind,Sem.run_pure,Result.andThen,this]
    rfl
theorem run_update_set (ht:tSet P t=some kt) (h:setOK (hp w) b ins) (hi:i<ins.length):∃ es c,(Instr.mapUpdate t (.map (some b)) (.int .i64 (i:Int)) (.bool true)).run P w=.ok () (putMap w b es c)∧setOK (hp (putMap w b es c)) b (ins.set i true):=by
  obtain ⟨e,q,h1,h2,h3⟩:=tSet_spec ht
  obtain ⟨es,c,ks,hb,hm,h0,hk⟩:=h
  have hb':w.heap[b]? = some (.map es c):=hb
  have hat:∀ es' c',hp (putMap w b es' c') b=some (.map es' c'):=fun es' c'=>Array.getElem?_setIfInBounds_self_of_lt (Array.getElem?_eq_some_iff.1 hb').1
  have hset:∀ x:Nat,(ins.set i true).getD x false=true↔(x=i∨ins.getD x false=true):=fun x=>by
    simp only [List.getD_eq_getElem?_getD,List.getElem?_set]
    by_cases hx:i=x
    · subst hx; simp [hi]
    · have:¬ x=i:=fun e=>hx e.symm
      simp [hx,this]
  cases hp:posK (i:Int) ks 0 with
  | none =>
    have hn:=posK_none.1 hp
    refine ⟨es.push { key:=.int .i64 (i:Int),val:=.bool true,born:=c },c+1,?_,_,_,_,hat _ _,hm.push hn,?_,fun x=>?_⟩
    · unfold Instr.mapUpdate
      simp only [Sem.run_bind,run_underlying h1,Result.andThen,MapKept.run_getObj_map hb',run_checkKey h2,run_findKey h2 hm,hp,Option.map_none,MapKept.run_setObj_map _ hb']
      rfl
    · intro x hx
      rcases List.mem_append.1 hx with hx | hx
      · exact h0 x hx
      · simp only [List.mem_singleton] at hx; omega
    · rw [hset x,List.mem_append,hk x,List.mem_singleton]
      constructor
      · rintro (h | h)
        · exact .inr h
        · exact .inl (by omega)
      · rintro (h | h)
        · exact .inr (by omega)
        · exact .inl h
  | some j =>
    obtain ⟨m,hj,hm'⟩:=posK_some hp
    rw [Nat.zero_add] at hj
    subst hj
    obtain ⟨en,hen,henk⟩:=getKey hm hm'
    refine ⟨es.modify j fun e=>{ e with key:=.int .i64 (i:Int),val:=.bool true },c,?_,_,_,_,hat _ _,hm.same hm',h0,fun x=>?_⟩
    · unfold Instr.mapUpdate
      simp only [Sem.run_bind,run_underlying h1,Result.andThen,MapKept.run_getObj_map hb',run_checkKey h2,run_findKey h2 hm,hp,Option.map_some,hen,henk,Option.getD_some,Instr.keyThatStays]
      have:Instr.sameBits 10000 (.int .i64 (i:Int)) (.int .i64 (i:Int))=true:=by simp [Instr.sameBits]
      simp only [this,if_true,Sem.run_pure,MapKept.run_setObj_map _ hb']
      rfl
    · rw [hset x,hk x]
      constructor
      · exact .inr
      · rintro (rfl | h)
        · exact (hk x).1 (List.mem_of_getElem? hm')
        · exact h
theorem run_delete_set {ty0:TypeId} {aty:Array TypeId} (ht:tSet P t=some kt) (hat0:aty[0]? = some t) (h:setOK (hp w) b ins):∃ es c,(Builtin.delete_ aty ty0 #[.map (some b),.int .i64 (i:Int)]).run P w=.ok (.tuple #[]) (putMap w b es c)∧setOK (hp (putMap w b es c)) b (ins.set i false):=by
  obtain ⟨e,q,h1,h2,h3⟩:=tSet_spec ht
  obtain ⟨es,c,ks,hb,hm,h0,hk⟩:=h
  have hb':w.heap[b]? = some (.map es c):=hb
  have hat:∀ es' c',hp (putMap w b es' c') b=some (.map es' c'):=fun es' c'=>Array.getElem?_setIfInBounds_self_of_lt (Array.getElem?_eq_some_iff.1 hb').1
  have hset:∀ x:Nat,(ins.set i false).getD x false=true↔(x≠i∧ins.getD x false=true):=fun x=>by
    simp only [List.getD_eq_getElem?_getD,List.getElem?_set]
    by_cases hx:i=x
    · subst hx; by_cases hl:i<ins.length <;> simp [hl]
    · have:¬ x=i:=fun e=>hx e.symm
      simp [hx,this]
  cases hp:posK (i:Int) ks 0 with
  | none =>
    have hn:=posK_none.1 hp
    refine ⟨es,c,?_,_,_,_,hat _ _,hm,h0,fun x=>?_⟩
    · unfold Builtin.delete_
      simp only [hat0,List.getElem?_toArray,List.getElem?_cons_zero,List.getElem?_cons_succ,Sem.run_bind,run_underlying h1,Result.andThen,MapKept.run_getObj_map hb',run_checkKey h2,run_findKey h2 hm,hp,Option.map_none,MapKept.run_setObj_map _ hb']
      rfl
    · rw [hset x,hk x]
      exact ⟨fun h=>⟨fun e=>hn ((hk i).2 (e▸h)),h⟩,fun h=>h.2⟩
  | some j =>
    obtain ⟨m,hj,hm'⟩:=posK_some hp
    rw [Nat.zero_add] at hj
    subst hj
    refine ⟨es.eraseIdxIfInBounds j,c,?_,_,_,_,hat _ _,hm.erase (List.getElem?_eq_some_iff.1 hm').1,fun x hx=>h0 x (List.mem_of_mem_eraseIdx hx),fun x=>?_⟩
    · unfold Builtin.delete_
      simp only [hat0,List.getElem?_toArray,List.getElem?_cons_zero,List.getElem?_cons_succ,Sem.run_bind,run_underlying h1,Result.andThen,MapKept.run_getObj_map hb',run_checkKey h2,run_findKey h2 hm,hp,Option.map_some,MapKept.run_setObj_map _ hb']
      rfl
    · rw [hset x,mem_erase hm.nodup hm',hk x]
      constructor
      · rintro ⟨h,hne⟩; exact ⟨fun e=>hne (by rw [e]),h⟩
      · rintro ⟨hne,h⟩; exact ⟨h,fun e=>hne (by omega)⟩
end
section
variable {r:Option Nat} {P:Program} {ops:Array Oper} {Q:Exit→Act→World→Prop} {a:Act} {w w0:World} {n:Nat} {ds:List Deferred} {L:List (Nat × Value)} {X:Nat→Prop} {B M M':List Asr}
  {d i j b:Nat} {ty t kt:TypeId} {pos:String} {af:Array Edge} {rest:List Nat} {x y z:Operand} {ins:List Bool} {q:Nat}
theorem RunV.lookupS (ht:tSet P t=some kt) (hx:ev L x=some (.map (some b))) (hy:ev L y=some (.int .i64 (q:Int))) (h:setOK (hp w) b ins):RunV P n ds L (.lookup t x y false) ty w (.bool (ins.getD q false)) w:=fun a d pos af g hf=>by
  simp only [execOp,hf.eval hx,hf.eval hy]
  exact run_v (run_lookup_set ht h)
theorem St.msAt (h:St w0 w X B M) (hi:M[j]? = some (ms b ins)):setOK (hp w) b ins:=h.at_ hi
theorem St.putMap (h:St w0 w X B M) (hi:M[j]? = some (ms b ins)) {es:Array MapEntry} {c:Nat} {ins':List Bool} (hs:setOK (hp (SL.putMap w b es c)) b ins'):St w0 (SL.putMap w b es c) X B (M.set j (ms b ins')):=by
  have hl:=(h.sep.get hi).2 b rfl
  refine h.write (w':=SL.putMap w b es c) hi rfl rfl rfl (by simp [SL.putMap]) (fun k _ hk=>?_) hs (fun k hk=>⟨.inl hk,by
    have hk:k=b:=hk
    subst hk
    simpa [SL.putMap] using hl.1⟩)
  simp only [SL.putMap]
  exact Array.getElem?_setIfInBounds_ne (fun e=>hk e.symm)
theorem O.makeMap (hf:Fr a n ds L) (hS:St w0 w X B M) (ho:ops[i]? = some ⟨some d,.makeMap t none,ty,pos,af,none⟩) (hd:Nat.blt d n=true) (ins:List Bool) (hins:∀ q,ins.getD q false=false)
    (k:∀ b w' a',w0.heap.size≤b→St w0 w' X B (ms b ins::M)→Fr a' n ds ((d,.map (some b))::L)→O r P ops Q rest a' w'):O r P ops Q (i::rest) a w:=by
  refine O.val (w':=w.alloc (.map #[] 0)) hf ho rfl hd (v:=.map (some w.heap.size)) ?_ (fun a' hf'=>k _ _ a' hS.size ?_ hf')
  · intro a d pos af g hf
    simp only [execOp]
    exact run_v rfl
  · refine (hS.alloc (.map #[] 0)).conv (i:=0) (p:=pt w.heap.size (.map #[] 0)) (q:=ms w.heap.size ins) rfl (fun h=>⟨#[],0,[],h,⟨rfl,by simp,by simp,by simp,by simp⟩,by simp,fun q=>?_⟩) (fun b hb=>hb)
    rw [hins q]; simp
theorem O.mapSet (hf:Fr a n ds L) (hS:St w0 w X B M) (ho:ops[i]? = some ⟨none,.mapUpdate t x y z,ty,pos,af,none⟩) (ht:tSet P t=some kt) (hx:ev L x=some (.map (some b))) (hy:ev L y=some (.int .i64 (q:Int))) (hz:ev L z=some (.bool true))
    (hM:M[j]? = some (ms b ins)) (hq:q<ins.length) (hM':M.set j (ms b (ins.set q true))=M') (k:∀ w',St w0 w' X B M'→O r P ops Q rest a w'):O r P ops Q (i::rest) a w:=by
  obtain ⟨es,c,h1,h2⟩:=run_update_set (P:=P) ht (hS.msAt hM) hq
  refine O.unit (w':=putMap w b es c) hf ho rfl ?_ (k _ (hM'▸hS.putMap hM h2))
  intro a d pos af g hf
  simp only [execOp,hf.eval hx,hf.eval hy,hf.eval hz]
  exact run_u h1
theorem O.mapDel {at_:Array TypeId} (hf:Fr a n ds L) (hS:St w0 w X B M) (ho:ops[i]? = some ⟨none,.call ⟨.builtin .delete,#[x,y],at_⟩,ty,pos,af,none⟩) (ht:tSet P t=some kt) (hat:at_[0]? = some t) (hx:ev L x=some (.map (some b))) (hy:ev L y=some (.int .i64 (q:Int)))
    (hM:M[j]? = some (ms b ins)) (hM':M.set j (ms b (ins.set q false))=M') (k:∀ w',St w0 w' X B M'→O r P ops Q rest a w'):O r P ops Q (i::rest) a w:=by
  obtain ⟨es,c,h1,h2⟩:=run_delete_set (P:=P) (ty0:=ty) (i:=q) ht hat (hS.msAt hM)
  refine O.val0 (w':=putMap w b es c) (v:=.tuple #[]) hf ho rfl ?_ (k _ (hM'▸hS.putMap hM h2))
  intro a d pos af g hf
  refine run_builtin (vs:=[.map (some b),.int .i64 (q:Int)]) hf (by simp [evA,hx,hy]) ?_
  simp only [builtin]
  exact run_v h1
end
end Go.SL
