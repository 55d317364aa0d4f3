/- Regions that draw their order and hold operations that turn memory, in whatever partial order. -/
import Derived.Test.YtfaflenaajafgaaGreatDoorSL15
import Derived.Laws.Externs
set_option linter.unusedVariables false
set_option linter.unusedSimpArgs false
namespace Go.SL
open Go
section
variable {r:Option Nat} {P:Program} {ops:Array Oper} {Q:Exit→Act→World→Prop} {a:Act} {w:World} {n:Nat} {ds:List Deferred} {γ:Type}
def upd (s:Nat→Bool) (i:Nat):Nat→Bool:=fun j=>match Nat.beq j i with
  | true=>true
  | false=>s j
def seen (mk:List Nat) (listed:Array Bool):Nat→Bool:=fun j=>mk.contains j&&listed.getD j false
structure Dp (ops:Array Oper) (n:Nat) (ds:List Deferred) (L0:List (Nat × Value)) (L1:List (Nat × Value)) (val:γ→Nat→Value) (mk:List Nat) (D:(Nat→Bool)→γ→World→Prop) (listed:Array Bool) (a:Act) (w:World) (g:γ):Prop where
  fr:Fr a n ds L0
  olds:∀ q v,lk L1 q=some v→(∀ j,dstOf ops j=some q→listed.getD j false=false)→a.tmps[q]? = some v
  slot:∀ j d,listed.getD j false=true→dstOf ops j=some d→a.tmps[d]? = some (val g j)
  cl:∀ j o,listed.getD j false=true→ops[j]? = some o→∀ p ∈ preds o,listed.getD p false=true
  D:D (seen mk listed) g w
  size:listed.size=ops.size
def oldOK (ops:Array Oper) (L1:List (Nat × Value)) (i:Nat) (q:Nat):Bool :=
  (baseKeys L1).contains q&&(List.range ops.size).all fun j=>match dstOf ops j with
    | some d=>!Nat.beq d q||Nat.beq j i||((mkBm ops).getD j []).contains i
    | none=>true
def oldL (L1:List (Nat × Value)):List Nat→List (Nat × Value)→List (Nat × Value)
  | [],L=>L
  | q::t,L=>match lk L1 q with
    | some v=>(q,v)::oldL L1 t L
    | none=>oldL L1 t L
theorem fr_old {L0 L1:List (Nat × Value)} (hf:Fr a n ds L0):∀ {l:List Nat},(∀ q ∈ l,∀ v,lk L1 q=some v→a.tmps[q]? = some v)→Fr a n ds (oldL L1 l L0)
  | [],_=>hf
  | q::t,h=>by
    have ih:=fr_old hf (l:=t) (fun j' hj'=>h j' (by simp [hj']))
    simp only [oldL]
    cases hd:lk L1 q with
    | none=>exact ih
    | some d =>
      refine ⟨ih.size,ih.defers,fun k v hk=>?_⟩
      simp only [lk] at hk
      cases hb:Nat.beq q k with
      | true =>
        rw [hb] at hk
        have:=Nat.eq_of_beq_eq_true hb
        subst this
        simp only [Option.some.injEq] at hk
        subst hk
        exact h q (by simp) d hd
      | false=>rw [hb] at hk; exact ih.get k v hk
theorem W.drawP {id:Nat} {L0 L1:List (Nat × Value)} (g0:γ) (mk qs:List Nat) (pl ml bl al ol:Nat→List Nat) (val:γ→Nat→Value) (D:(Nat→Bool)→γ→World→Prop)
    (hmo:P.follows .mixedOrders=true)
    (hchk:(ordB ops&&ops.all (fun o=>noDefer o.op)&&distinctDst ops (baseKeys L0)&&(List.range ops.size).all (fun i=>(qs.contains i||mk.contains i)&&(pl i).all (fun p=>(predsAt ops i).contains p)&&(ml i).all (fun p=>((mkBm ops).getD i []).contains p&&mk.contains p)&&(bl i).all (fun j=>((mkBm ops).getD j []).contains i)&&(ol i).all (oldOK ops L1 i))&&mk.all (fun i=>Nat.blt i ops.size)
      && vBm ops (mkBm ops)&&mk.all (fun i=>(al i).all fun j=>((mkBm ops).getD j []).contains i)&&qs.all (fun i=>!mk.contains i))=true)
    (hf:Fr a n ds L0) (hf1:Fr a n ds L1) (h0:D (fun _=>false) g0 w.drew)
    (hq:Obl (fun i=>∀ s g w,(∀ p ∈ ml i,s p=true)→(∀ j ∈ bl i,s j=false)→D s g w→∀ a,Fr a n ds (slotsOf ops (val g) (pl i) (oldL L1 (ol i) L0))→O r P ops (fun e a' w'=>e=.normal∧Fr a' n ds []∧(∀ d,dstOf ops i=some d→a'.tmps[d]? = some (val g i))∧D s g w') [i] a w) qs)
    (hm:Obl (fun i=>∀ s g w,s i=false→(∀ p ∈ ml i,s p=true)→(∀ j ∈ bl i,s j=false)→D s g w→∀ a,Fr a n ds (slotsOf ops (val g) (pl i) (oldL L1 (ol i) L0))→O r P ops (fun e a' w'=>e=.normal∧∃ g',Fr a' n ds []∧(∀ d,dstOf ops i=some d→a'.tmps[d]? = some (val g' i))∧(∀ j,j≠i→(al i).contains j=false→val g' j=val g j)∧D (upd s i) g' w') [i] a w) mk)
    (hend:∀ s g a w,(∀ i ∈ mk,s i=true)→Fr a n ds (slotsOf ops (val g) (List.range ops.size) L0)→D s g w→Q .normal a w):W r P (.region id ops true) Q a w:=by
  simp only [Bool.and_eq_true] at hchk
  obtain ⟨⟨⟨⟨⟨⟨⟨hord,hnd⟩,hdist⟩,hcov⟩,hmk⟩,hvb⟩,hal⟩,hqm⟩:=hchk
  refine wpIn_region_any hmo ?_
  have hap:∀ i j d,i<ops.size→j<ops.size→i≠j→dstOf ops i=some d→dstOf ops j≠some d:=by
    intro i j d hi hj hij hdi hdj
    have key:∀ i j,i<ops.size→j<i→dstOf ops i=some d→dstOf ops j=some d→False:=fun i j hi hji h1 h2=>by
      have h:=List.all_eq_true.1 hdist i (by simpa using hi)
      simp only [h1,Bool.and_eq_true] at h
      have h:=List.all_eq_true.1 h.2 j (by simpa using hji)
      simp [h2,Nat.beq_refl] at h
    rcases Nat.lt_or_gt_of_ne hij with h | h
    · exact key j i hj h hdj hdi
    · exact key i j hi h hdi hdj
  have hbase:∀ i d v,i<ops.size→dstOf ops i=some d→lk L0 d≠some v:=fun i d v hi hd hl=>by
    have h:=List.all_eq_true.1 hdist i (by simpa using hi)
    simp only [hd,Bool.and_eq_true] at h
    have:=lk_mem hl
    simp [this] at h
  have key:∀ (fuel:Nat) (listed:Array Bool) (a:Act) (w:World) (g:γ),fuel+listed.toList.count true=ops.size→Dp ops n ds L0 L1 val mk D listed a w g →
      wpAnyIn (FW r) 0 P .any ops Q fuel listed a w:=by
    intro fuel
    induction fuel with
    | zero =>
      intro listed a w g hc hd
      have hall:∀ i,i<ops.size→listed.getD i true=true:=by
        intro i hi
        have hcl:listed.toList.count true=listed.toList.length:=by
          have:listed.toList.length=ops.size:=by simpa using hd.size
          omega
        have:=List.count_eq_length.1 hcl
        have hi':i<listed.size:=by rw [hd.size]; exact hi
        have:=this listed[i] (by simp)
        simp [hi',← this]
      have hall':∀ i,i<ops.size→listed.getD i false=true:=fun i hi=>by
        have:=hall i hi
        have hi':i<listed.size:=by rw [hd.size]; exact hi
        simpa [hi'] using this
      refine ⟨?_,hend _ g a w (fun i hi=>?_) (fr_slots hd.fr fun j hj d hdd=>hd.slot j d (hall' j (by simpa using hj)) hdd) hd.D⟩
      · apply List.eq_nil_iff_forall_not_mem.2
        intro i hi
        have h1:=mem_ready.1 hi
        obtain ⟨h1,o,ho,_⟩:=h1
        rw [hall i (Array.getElem?_eq_some_iff.1 ho).1] at h1
        cases h1
      · have hb:=List.all_eq_true.1 hmk i hi
        simp only [seen,Bool.and_eq_true,List.contains_iff_mem]
        exact ⟨hi,hall' i (by simpa using hb)⟩
    | succ fuel ih =>
      intro listed a w g hc hd
      have hex:∃ i,i<ops.size∧listed.getD i true=false:=by
        apply Classical.byContradiction
        intro hno
        have hcl:listed.toList.count true=listed.toList.length:=by
          refine List.count_eq_length.2 fun b hb=>?_
          obtain ⟨i,hi,rfl⟩:=List.mem_iff_getElem.1 hb
          have hi':i<listed.size:=by simpa using hi
          cases hbv:listed[i] with
          | true=>simp [hbv]
          | false=>exact absurd ⟨i,by rw [← hd.size]; exact hi',by simp [hi',hbv]⟩ hno
        have:listed.toList.length=ops.size:=by simpa using hd.size
        omega
      refine ⟨fun h=>?_,fun i hi=>?_⟩
      · obtain ⟨i,hi⟩:=exists_ready hord hd.size hex
        rw [h] at hi; cases hi
      obtain ⟨hun,o,ho,hall⟩:=mem_ready.1 hi
      have his:i<ops.size:=(Array.getElem?_eq_some_iff.1 ho).1
      have hil:i<listed.size:=by rw [hd.size]; exact his
      have hun':listed.getD i false=false:=by simpa [hil] using hun
      have hpi:predsAt ops i=preds o:=by simp [predsAt,ho]
      have hdo:dstOf ops i=o.dst:=by simp [dstOf,ho]
      have hc1:=List.all_eq_true.1 hcov i (by simpa using his)
      simp only [Bool.and_eq_true,Bool.or_eq_true,List.contains_iff_mem] at hc1
      have hprd:∀ p ∈ preds o,listed.getD p false=true:=fun p hp=>by
        obtain ⟨e,h1,h2,h3⟩:=of_mem_preds hp
        exact h3▸hall e h1 h2
      obtain ⟨⟨⟨⟨hcq,hcp⟩,hcm⟩,hcb⟩,hco⟩:=hc1
      have hbm:∀ q ∈ (mkBm ops).getD i [],listed.getD q false=true:=fun q hq=>bm_in (S:=fun j=>listed.getD j false=true) hvb hord (fun i o h1 h2=>hd.cl i o h1 h2) i o ho hprd q hq
      have hbmn:∀ j,((mkBm ops).getD j []).contains i=true→listed.getD j false=false:=fun j hj=>by
        cases hbj:listed.getD j false with
        | false=>rfl
        | true =>
          exfalso
          have hjs:j<ops.size:=by
            rcases Nat.lt_or_ge j ops.size with h | h
            · exact h
            · rw [← hd.size] at h; simp [Array.getElem?_eq_none h] at hbj
          have:=bm_in (S:=fun j=>listed.getD j false=true) hvb hord (fun i o h1 h2=>hd.cl i o h1 h2) j ops[j] (Array.getElem?_eq_getElem hjs) (hd.cl j _ hbj (Array.getElem?_eq_getElem hjs)) i (by simpa using hj)
          rw [hun'] at this; cases this
      have hold:Fr a n ds (oldL L1 (ol i) L0):=fr_old hd.fr fun q hq v hv=>hd.olds q v hv fun j hj=>by
        have h:=List.all_eq_true.1 hco q hq
        simp only [oldOK,Bool.and_eq_true] at h
        have hjs:j<ops.size:=by
          rcases Nat.lt_or_ge j ops.size with h' | h'
          · exact h'
          · simp [dstOf,Array.getElem?_eq_none h'] at hj
        have h:=List.all_eq_true.1 h.2 j (by simpa using hjs)
        simp only [hj,Nat.beq_refl,Bool.not_true,Bool.false_or,Bool.or_eq_true] at h
        rcases h with h | h
        · rw [Nat.eq_of_beq_eq_true h]; exact hun'
        · exact hbmn j h
      have hsp:∀ p ∈ ml i,seen mk listed p=true:=fun p hp=>by
        have h:=List.all_eq_true.1 hcm p hp
        simp only [Bool.and_eq_true,List.contains_iff_mem] at h
        simp only [seen,Bool.and_eq_true,List.contains_iff_mem]
        exact ⟨h.2,hbm p h.1⟩
      have hsb:∀ j ∈ bl i,seen mk listed j=false:=fun j hj=>by
        have h:=List.all_eq_true.1 hcb j hj
        simp only [seen,hbmn j h,Bool.and_false]
      have hfr:Fr a n ds (slotsOf ops (val g) (pl i) (oldL L1 (ol i) L0)):=fr_slots hold fun j hj d hdd=>by
        have:=List.all_eq_true.1 hcp j hj
        rw [hpi] at this
        exact hd.slot j d (hprd j (by simpa using this)) hdd
      have hcnt:fuel+(listed.setIfInBounds i true).toList.count true=ops.size:=by
        rw [Array.toList_setIfInBounds,count_set_true _ _ (by simpa [Array.getD_eq_getD_getElem?,List.getD_eq_getElem?_getD] using hun)]
        omega
      have hback:∀ j,(listed.setIfInBounds i true).getD j false=true→j=i∨listed.getD j false=true:=fun j hj=>by
        by_cases e:i=j
        · exact .inl e.symm
        · rw [getD_set_ne false e] at hj; exact .inr hj
      have hfwd:∀ j,listed.getD j false=true→(listed.setIfInBounds i true).getD j false=true:=fun j hj=>by
        by_cases e:i=j
        · subst e; simp [hil]
        · rw [getD_set_ne false e]; exact hj
      have hcl':∀ j o',(listed.setIfInBounds i true).getD j false=true→ops[j]? = some o'→∀ p ∈ preds o',(listed.setIfInBounds i true).getD p false=true:=fun j o' hj hjo p hp=>by
        rcases hback j hj with rfl | h1
        · rw [ho] at hjo; injection hjo with hjo; subst hjo; exact hfwd p (hprd p hp)
        · exact hfwd p (hd.cl j o' h1 hjo p hp)
      have hfrm:∀ a',Fr a' n ds []→Kept o a a'→Fr a' n ds L0:=fun a' h1 h2=>⟨h1.size,h1.defers,fun q v hq=>by
        rw [h2 q (fun e=>hbase i q v his (hdo.trans e) hq)]; exact hd.fr.get q v hq⟩
      have hslot:∀ a' (g':γ),Kept o a a'→(∀ d,dstOf ops i=some d→a'.tmps[d]? = some (val g' i))→(∀ j,listed.getD j false=true→val g' j=val g j)→∀ j d,(listed.setIfInBounds i true).getD j false=true→dstOf ops j=some d→a'.tmps[d]? = some (val g' j):=by
        intro a' g' hk hi' hg j d hj hjd
        rcases hback j hj with rfl | h1
        · exact hi' d hjd
        · have hne:j≠i:=fun e=>by rw [e,hun'] at h1; cases h1
          have hjs:j<ops.size:=by
            rcases Nat.lt_or_ge j ops.size with h | h
            · exact h
            · rw [← hd.size] at h; simp [Array.getElem?_eq_none h] at h1
          rw [hk d (fun e=>hap j i d hjs his hne hjd (hdo.trans e)),hg j h1]
          exact hd.slot j d h1 hjd
      have holds':∀ a',Kept o a a'→∀ q v,lk L1 q=some v→(∀ j,dstOf ops j=some q→(listed.setIfInBounds i true).getD j false=false)→a'.tmps[q]? = some v:=fun a' hk q v hq hj=>by
        have hne:o.dst≠some q:=fun e=>by
          have:=hj i (hdo.trans e)
          simp [hil] at this
        rw [hk q hne]
        exact hd.olds q v hq fun j hjq=>by
          have h1:=hj j hjq
          cases h2:listed.getD j false with
          | false=>rfl
          | true=>rw [hfwd j h2] at h1; cases h1
      by_cases him:i ∈ mk
      · have hs0:seen mk listed i=false:=by simp only [seen,hun',Bool.and_false]
        refine wpOpIn_mono (fun a' w' hR=>?_) (O.keep ho (Obl.get hm i him _ g w hs0 hsp hsb hd.D a hfr))
        obtain ⟨⟨g',h1,h2,h3,h4⟩,h5⟩:=hR
        refine ih _ a' w' g' hcnt ⟨hfrm a' h1 h5,holds' a' h5,hslot a' g' h5 h2 (fun j hj=>h3 j (fun e=>by rw [e,hun'] at hj; cases hj) ?_),hcl',?_,by simpa using hd.size⟩
        · cases hbj:(al i).contains j with
          | false=>rfl
          | true =>
            exfalso
            have h6:=List.all_eq_true.1 (List.all_eq_true.1 hal i him) j (by simpa using hbj)
            simp only [List.contains_iff_mem] at h6
            have hjs:j<ops.size:=by
              rcases Nat.lt_or_ge j ops.size with h | h
              · exact h
              · rw [← hd.size] at h; simp [Array.getElem?_eq_none h] at hj
            have:=bm_in (S:=fun j=>listed.getD j false=true) hvb hord (fun i o h1 h2=>hd.cl i o h1 h2) j ops[j] (Array.getElem?_eq_getElem hjs) (hd.cl j _ hj (Array.getElem?_eq_getElem hjs)) i h6
            rw [hun'] at this; cases this
        · have e1:seen mk (listed.setIfInBounds i true)=upd (seen mk listed) i:=by
            funext j
            unfold upd
            cases hji:Nat.beq j i with
            | true =>
              have:=Nat.eq_of_beq_eq_true hji
              subst this
              simp [seen,him,hil]
            | false =>
              have hne:i≠j:=fun e=>by rw [e] at hji; simp [Nat.beq_refl] at hji
              simp only [seen]
              rw [getD_set_ne false hne]
          rw [e1]; exact h4
      · have hiq:i ∈ qs:=by
          rcases hcq with h | h
          · exact h
          · exact absurd h him
        refine wpOpIn_mono (fun a' w' hR=>?_) (O.keep ho (Obl.get hq i hiq _ g w hsp hsb hd.D a hfr))
        obtain ⟨⟨h1,h2,h3⟩,h5⟩:=hR
        refine ih _ a' w' g hcnt ⟨hfrm a' h1 h5,holds' a' h5,hslot a' g h5 h2 (fun _ _=>rfl),hcl',?_,by simpa using hd.size⟩
        have e1:seen mk (listed.setIfInBounds i true)=seen mk listed:=by
          funext j
          simp only [seen]
          by_cases hji:i=j
          · subst hji; simp [him]
          · rw [getD_set_ne false hji]
        rw [e1]; exact h3
  have e0:seen mk (Array.replicate ops.size false)=fun _=>false:=by
    funext j
    simp only [seen]
    by_cases h:j<ops.size <;> simp [h]
  refine key ops.size (Array.replicate ops.size false) a { w with drawn:=w.drawn+1 } g0 (by simp [List.count_replicate]) ⟨hf,fun q v hq _=>hf1.get q v hq,fun j d hj=>?_,fun j o hj=>?_,by rw [e0]; exact h0,by simp⟩
  · exfalso
    by_cases h:j<ops.size <;> simp [h] at hj
  · exfalso
    by_cases h:j<ops.size <;> simp [h] at hj
end
section
variable {P:Program} {w:World} {n:Nat} {ds:List Deferred} {L:List (Nat × Value)} {ty t:TypeId} {x y z:Operand} {v:Value} {k:IntKind} {p q c:Int}
def sub64Row:Array Value→Sem Value:=fun args=>do
  let (x,y,b) ← Extern.MathBitsCarry.three "Sub64" args
  pure (Extern.MathBitsCarry.pair ((x+Extern.MathBitsCarry.m64-y-b) % Extern.MathBitsCarry.m64) (if x<y+b then 1 else 0))
def sub64d (p q c:Int):Int:=((p.toNat+18446744073709551616-q.toNat-c.toNat) % 18446744073709551616:Nat)
def sub64b (p q c:Int):Int:=(if p.toNat<q.toNat+c.toNat then 1 else 0:Nat)
def add64Row:Array Value→Sem Value:=fun args=>do
  let (x,y,c) ← Extern.MathBitsCarry.three "Add64" args
  pure (Extern.MathBitsCarry.pair ((x+y+c) % Extern.MathBitsCarry.m64) ((x+y+c)/Extern.MathBitsCarry.m64))
def add64s (p q c:Int):Int:=((p.toNat+q.toNat+c.toNat) % 18446744073709551616:Nat)
def add64c (p q c:Int):Int:=((p.toNat+q.toNat+c.toNat)/18446744073709551616:Nat)
def ExtIs (P:Program) (f:FuncId) (e:Array Value→Sem Value):Prop:=∀ args w v,(e args).run P w=.ok v w→(callFunc f args).run P w=.ok (.value v) w
theorem Z.ext {f:Operand} {fid:FuncId} {e:Array Value→Sem Value} {args:Array Operand} {at_:Array TypeId} {vs:List Value} (hE:ExtIs P fid e) (hx:ev L f=some (.func (.func fid) #[] #[])) (hv:evA L args.toList=some vs) (he:∀ w,(e vs.toArray).run P w=.ok v w) :
    RunV P n ds L (.call ⟨.value f,args,at_⟩) ty w v w:=fun a d pos af g hf=>by
  have hargs:args.map a.eval=vs.toArray:=by apply Array.ext'; rw [Array.toList_map,hf.evA hv]
  have h1:=hE vs.toArray w v (he w)
  simp only [execOp,resolve,Sem.run_bind,Sem.run_pure,Result.andThen,hargs,hf.eval hx,Deferred.ofValue,invoke]
  simpa using h1
def strIdx (s:ByteArray) (i:Int):Option Int:=if 0≤i then (s[i.toNat]?).map (fun b=>(b.toNat:Int)) else none
theorem Z.indexStr {s:ByteArray} {u:Int} (ht:P.underlying t=some .string) (hx:ev L x=some (.string s)) (hy:ev L y=some (.int k p)) (h:strIdx s p=some u):RunV P n ds L (.index t x y) ty w (.int .u8 u) w:=fun a d pos af g hf=>by
  simp only [execOp,hf.eval hx,hf.eval hy]
  refine run_v ?_
  unfold strIdx at h
  split at h
  · rename_i h0
    obtain ⟨b,hb,rfl⟩:=Option.map_eq_some_iff.1 h
    simp only [Instr.index,asIntOf,Sem.run_bind,Sem.run_pure,Result.andThen,run_underlying ht,h0,if_true,hb]
  · cases h
end
abbrev Iv (x:Int):Value:=.int .i64 x
abbrev Uv (x:Int):Value:=.int .u64 x
abbrev Bv (x:Bool):Value:=.bool x
abbrev Pv (b o:Nat):Value:=.pointer (some ⟨b,o,none⟩)
abbrev Cs (c:Array Value) (t:TypeId):Obj:=.cells c t (0,0)
end Go.SL
