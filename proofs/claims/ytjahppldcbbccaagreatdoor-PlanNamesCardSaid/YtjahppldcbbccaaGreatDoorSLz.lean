/- Part of a proof: laws. -/
import Derived.Test.YtjahppldcbbccaaGreatDoorSLy
import Derived.RecoverIn
set_option linter.unusedVariables false
set_option linter.unusedSimpArgs false
namespace Go.SL
open Go
section
variable {r:Option Nat} {P:Program} {Q:Exit→Act→World→Prop} {ops:Array Oper} {i:Nat} {rest:List Nat} {a:Act} {w:World} {n:Nat} {ds:List Deferred} {L:List (Nat × Value)}
  {op:Op} {ty:TypeId} {pos:String} {af:Array Edge} {dst:Option Tmp}
theorem O.unguard {jj dj:Nat} {want c:Bool} (hf:Fr a n ds L) (ho:ops[i]? = some ⟨dst,op,ty,pos,af,some (jj,want)⟩) (hj:(ops[jj]?).bind (·.dst)=some dj) (hv:lk L dj=some (.bool c)) (hc:c=want)
    (h:O r P #[⟨dst,op,ty,pos,af,none⟩] (fun e a w=>e=.normal∧O r P ops Q rest a w) [0] a w):O r P ops Q (i::rest) a w:=by
  subst hc
  refine O.cutN (l₁:=[i]) (l₂:=rest) (fun a w=>O r P ops Q rest a w) rfl ?_ (fun _ _ h=>h)
  unfold O wpOpsIn at h ⊢
  simp only [ho]
  rw [if_pos (by rw [wanted_some hf hj hv]; simp)]
  simp only [List.getElem?_toArray,List.getElem?_cons_zero] at h
  rw [if_pos (by simp [Region.wanted])] at h
  exact h
end
end Go.SL

namespace Go.SL
open Go
section
variable {T:Type} {enc:T→List Value} {sz:Nat} {l m l':List T}
variable {r:Option Nat} {P:Program} {Q:Exit→Act→World→Prop} {ops:Array Oper} {i:Nat} {rest:List Nat} {a:Act} {w w0:World} {n:Nat} {ds:List Deferred} {L:List (Nat × Value)}
  {d:Nat} {ty t e:TypeId} {pos:String} {af:Array Edge} {v u z:Value} {X:Nat→Prop} {B M M':List Asr} {x y:Operand} {j k:Nat} {p1 p2:Int} {x0:T}
theorem zero_encs (h0:0<sz) (he:∀ x,(enc x).length=sz) (hz:z.cells.toList=enc x0) (n:Nat):(Builtin.zeroCells z.cells n).toList=encs enc (List.replicate n x0):=by
  have hs:z.cells.size=sz:=by rw [← Array.length_toList,hz,he]
  rw [← made_encs h0 he hz]
  unfold Builtin.zeroCells madeCells
  rw [hs]
theorem run_clearW (he:tElem P t=some e) (hs:tSize P e=some sz) (hz:tZero P e=some z) (hz0:z.cells.toList=enc x0) (h0:0<sz) (hS:St w0 w X B M) (hM:M[j]? = some (slE e sz enc v l)) (henc:∀ x,(enc x).length=sz) (hone:∀ x,oneCells (enc x)=true)
    (hb:sbd p1 p2 (l.length:Int)) (hk:p2.toNat-p1.toNat=k) :
    ∃ w',(Builtin.clear_ #[t] ty #[vsub sz v p1 p2]).run P w=.ok (.tuple #[]) w'∧St w0 w' X B (M.set j (slE e sz enc v (lcopy l (List.replicate k x0) p1 k))):=by
  have hsl:=hS.slS hM
  have hu:=und_elem he
  obtain ⟨b1,b2,b3⟩:=hb
  obtain ⟨D,dc,hv⟩:∃ D dc,vsub sz v p1 p2=.slice D (p2.toNat-p1.toNat) dc:=by
    rcases hsl.2 with ⟨rfl,h0⟩ | ⟨g,cap,cur,rfl,_⟩ <;> exact ⟨_,_,rfl⟩
  rcases Nat.eq_zero_or_pos k with rfl | hk0
  · refine ⟨w,?_,?_⟩
    · rw [hv,hk]
      cases D <;> simp [Builtin.clear_,run_underlying hu]
    · have e1:lcopy l (List.replicate 0 x0) p1 0=l:=by simp [lcopy]
      rw [e1]
      have e2:M.set j (slE e sz enc v l)=M:=by
        apply List.ext_getElem?
        intro q
        by_cases hq:q=j
        · subst hq
          rw [List.getElem?_set_self (List.getElem?_eq_some_iff.1 hM).1,hM]
        · rw [List.getElem?_set_ne (fun h=>hq h.symm)]
      rw [e2]; exact hS
  · obtain ⟨g,cap,rfl⟩:=hsl.form (by omega)
    obtain ⟨cur,_,hg,hcs,htk,hcap,hmx⟩:=hsl.block
    have hv2:vsub sz (.slice (some ⟨g,0,none⟩) l.length cap) p1 p2=.slice (some ⟨g,p1.toNat*sz,none⟩) (p2.toNat-p1.toNat) (cap-p1.toNat):=by
      unfold vsub
      simp only
      rw [if_neg (by omega)]
      simp [add_none]
    have htake:(List.replicate k x0).take k=List.replicate k x0:=by simp
    have hlen:(encs enc (List.replicate k x0)).length=k*sz:=by rw [encs_len henc,List.length_replicate]
    have hfit:p1.toNat*sz+0+(encs enc (List.replicate k x0)).length≤cur.size:=by
      rw [hlen,hcs,Nat.add_zero,← Nat.add_mul]
      exact Nat.mul_le_mul_right _ (by omega)
    have hst:=run_storeCells (P:=P) (b:=g) (o:=p1.toNat*sz) (e:=e) (encs enc (List.replicate k x0)) 0 w cur hg hfit (oneCells_encs hone _)
    simp only [Nat.add_zero] at hst
    refine ⟨setB w g (.cells (wr cur (p1.toNat*sz) (encs enc (List.replicate k x0))) e (0,0)),?_,?_⟩
    · rw [hv2,hk]
      obtain ⟨k',rfl⟩:∃ k',k=k'+1:=⟨k-1,by omega⟩
      simp [Builtin.clear_,run_underlying hu,run_zero hz,zero_encs h0 henc hz0,hst]
    · refine hS.write hM rfl rfl rfl (by rw [setB_size]; exact Nat.le_refl _) (fun b _ hb=>setB_ne (fun e=>hb (by subst e; rfl))) ?_ (fun b hb=>⟨.inl hb,?_⟩)
      · have hll:(lcopy l (List.replicate k x0) p1 k).length=l.length:=by unfold lcopy; simp; omega
        refine ⟨by rw [encs_len henc],.inr ⟨g,cap,_,by rw [hll],setB_at hg,by rw [hll]; exact hcap,hmx,by rw [size_wr]; exact hcs,?_⟩⟩
        rw [hll]
        unfold lcopy
        rw [encs_copy henc (by omega) (by simp),htake]
        have h6:(p1.toNat*sz)+(encs enc (List.replicate k x0)).length≤l.length*sz:=by rw [hlen,← Nat.add_mul]; exact Nat.mul_le_mul_right _ (by omega)
        apply List.ext_getElem?
        intro s
        rw [spl_get (by rw [encs_len henc l]; exact h6),← htk,List.getElem?_take,Array.getElem?_toList,wr_toList,List.getElem?_take,Array.getElem?_toList]
        have h7:l.length*sz≤cap*sz:=Nat.mul_le_mul_right _ hcap
        by_cases h8:s<l.length*sz
        · simp only [h8,if_true]
          by_cases h9:p1.toNat*sz≤s∧s<p1.toNat*sz+(encs enc (List.replicate k x0)).length
          · rw [if_pos h9,if_pos ⟨by omega,h9⟩]
          · rw [if_neg h9,if_neg (fun h=>h9 h.2),Array.getElem?_toList]
        · simp only [h8,if_false]
          rw [if_neg (by omega)]
      · have hb':some g=some b:=hb
        injection hb' with hb'
        subst hb'
        rw [setB_size]
        exact (Array.getElem?_eq_some_iff.1 hg).1
theorem O.clearW (hf:Fr a n ds L) (hS:St w0 w X B M) (ho:ops[i]? = some ⟨none,.call ⟨.builtin .clear,#[x],#[t]⟩,ty,pos,af,none⟩)
    (he:tElem P t=some e) (hs:tSize P e=some sz) (hz:tZero P e=some z) (hz0:z.cells.toList=enc x0) (h0:0<sz) (hx:ev L x=some (vsub sz v p1 p2)) (hM:M[j]? = some (slE e sz enc v l)) (henc:∀ x,(enc x).length=sz) (hone:∀ x,oneCells (enc x)=true)
    (hb:sbd p1 p2 (l.length:Int)) (hk:p2.toNat-p1.toNat=k) (hM':M.set j (slE e sz enc v (lcopy l (List.replicate k x0) p1 k))=M')
    (K:∀ w',St w0 w' X B M'→O r P ops Q rest a w'):O r P ops Q (i::rest) a w:=by
  subst hM'
  obtain ⟨w',h1,h2⟩:=run_clearW (P:=P) (ty:=ty) he hs hz hz0 h0 hS hM henc hone hb hk
  refine O.val0 (w':=w') (v:=.tuple #[]) hf ho rfl ?_ (K w' h2)
  intro a d pos af g hf
  refine run_builtin (vs:=[vsub sz v p1 p2]) hf (by simp [evA,hx]) ?_
  simp only [builtin]
  exact run_v h1
end
end Go.SL

namespace Go.SL
open Go
section
variable {P:Program} {Q:Exit→Act→World→Prop} {ops:Array Oper} {i:Nat} {rest:List Nat} {a:Act} {w w0:World} {n:Nat} {ds:List Deferred} {L:List (Nat × Value)}
  {d:Nat} {ty t:TypeId} {pos:String} {af:Array Edge} {v u z:Value} {X:Nat→Prop} {B M:List Asr} {x y:Operand} {f:FuncId} {fn:Func} {c:Code} {lv vs:List Value}
theorem LH.loop {r:Option Nat} {G:Type} (I:G→Act→World→Prop) (μ:G→Nat) (g:G) (h₀:I g a w)
    (round:∀ g a w,I g a w→W r P c (Exit.then (fun a' w'=>∃ g',I g' a' w'∧μ g'<μ g) Q) a w):LH r P c Q a w:=by
  have key:∀ j g a w,μ g=j→I g a w→LH r P c Q a w:=by
    intro j
    induction j using Nat.strongRecOn with
    | _ j ih =>
      intro g a w hn hI
      exact LH.step ((round g a w hI).mono (fun e a' w' hq=>by
        cases e with
        | normal =>
          obtain ⟨g',hI',hlt⟩:=hq
          exact ih (μ g') (hn▸hlt) g' a' w' rfl hI'
        | _=>exact hq))
  exact key _ g a w rfl h₀
def dfr (f:FuncId) (vs:List Value):Deferred:={ target:=.fn (.func f) #[],args:=vs.toArray }
theorem O.defer {args:Array Operand} {at_:Array TypeId} (hf:Fr a n ds L) (ho:ops[i]? = some ⟨none,.defer ⟨.value (.func f),args,at_⟩,ty,pos,af,none⟩) (hv:evA L args.toList=some vs)
    (k:∀ a',Fr a' n (dfr f vs::ds) L→O none P ops Q rest a' w):O none P ops Q (i::rest) a w:=by
  unfold O wpOpsIn
  simp only [ho]
  rw [if_pos (by simp [Region.wanted])]
  refine ⟨fun _ _=>trivial,?_⟩
  have h1:(Oper.semAt (FW none).round a.eval ⟨none,.defer ⟨.value (.func f),args,at_⟩,ty,pos,af,none⟩).run P w=.ok (.defer (dfr f vs)) w:=by
    show (execOp a.eval ⟨none,.defer ⟨.value (.func f),args,at_⟩,ty,pos,af,none⟩).run P w=_
    have h2:args.map a.eval=vs.toArray:=by
      apply Array.ext'; rw [Array.toList_map,hf.evA hv]
    simp [execOp,resolve,Deferred.ofValue,Act.eval,h2,dfr]
  rw [h1]
  exact k _ ⟨hf.size,by show dfr f vs::a.defers=_; rw [hf.defers],hf.get⟩
theorem postD {R:Ending→World→Prop} (hS:St w0 w X B M) (hf:Fr a n [dfr f vs] L) (hi:cOK P f=true) (hc:CallsDIn (FW none) 0 P f vs.toArray .returning w (fun e u' w'=>u'=.returning∧e=.returned (.tuple #[])∧w'=w))
    (h:∀ w' a',Fr a' n [] L→St w0 w' X B M→bodyPost P fn R .ret a' w'):bodyPostDIn (FW none) 0 P fn R .ret a w:=by
  show LeavesIn (FW none) 0 P fn a.tmps R a.defers .returning w
  rw [hf.defers]
  refine leavesIn_cons (by simp) (by simp [FW]) (show (invoke (.fn (.func f) #[]) vs.toArray).run P w=.ok (.enter f vs.toArray) w by simpa [invoke] using callOK_enter hi vs.toArray w) (fun _ _=>trivial) ?_
  refine hc.mono (fun e u' w' hh=>?_)
  obtain ⟨rfl,rfl,rfl⟩:=hh
  obtain ⟨_,v,h1,h2⟩:=h w' { a with defers:=[] } ⟨hf.size,rfl,hf.get⟩ hS
  exact ⟨v,h1,h2⟩
theorem ret_of_WD {G:Type} {v:G→Value} {R:G→World→Prop} (hf:P.funcs[f]? = some fn) (hb:fn.body=some c) (hn:fn.ntmps=n) (hl:Nat.ble lv.length n=true)
    (h:∀ a,Fr a n [] (argsL 0 lv)→W none P c (bodyPostDIn (FW none) 0 P fn (fun e w'=>∃ g,e=.returned (v g)∧R g w')) a w):Ret P f lv.toArray w v R:=by
  refine (callsIn_FW (r:=none) (n:=0)).1 (callsIn_of_wp_defers hf hb trivial ?_ rfl)
  exact h _ (Fr.start rfl (by simpa using hl) (by rw [hn]))
theorem recoverNil {r0:Nat} (hf:P.funcs[f]? = some fn) (hb:fn.body=some (.seq (.region r0 #[⟨some d,.call ⟨.builtin .recover,#[],#[]⟩,ty,pos,af,none⟩] false) c)) (hn:fn.ntmps=n) (hl:Nat.ble lv.length n=true) (hd:Nat.blt d n=true)
    (h:∀ a,Fr a n [] ((d,.nilIface)::argsL 0 lv)→W none P c (bodyPost P fn (fun e w'=>e=.returned (.tuple #[])∧w'=w)) a w) :
    CallsDIn (FW none) 0 P f lv.toArray .returning w (fun e u' w'=>u'=.returning∧e=.returned (.tuple #[])∧w'=w):=by
  refine callsDIn_of_wpSIn hf hb trivial (fun c0 cs hm=>wpSIn_seq (wpSIn_region ?_))
  have hF:=Fr.start (l:=lv) (n:=n) (m:=n-lv.toArray.size) rfl (by simpa using hl) rfl
  show wpOpsSIn _ _ _ _ _ [0] _ _ _
  unfold wpOpsSIn
  simp only [List.getElem?_toArray,List.getElem?_cons_zero]
  refine ⟨fun _ _=>trivial,?_⟩
  rw [if_pos (by simp [Region.wanted])]
  have h1:∀ ρ,(execOp ρ ⟨some d,.call ⟨.builtin .recover,#[],#[]⟩,ty,pos,af,none⟩).run P w=.ok .recover w:=fun ρ=>by
    simp [execOp,resolve,invoke,builtin]
  rw [h1]
  have h2:recoverD (c0::cs)=none:=by simp [recoverD,hm]
  simp only [h2]
  unfold wpOpsSIn
  rw [hn]
  refine wpSIn_of_wpIn rfl ?_
  have h3:=h _ (hF.put hd .nilIface)
  refine wpIn_mono h3 (fun e a' w' hq=>?_)
  have hc0:({ c0 with mode:=.returning }:Frame)=c0:=by rw [← hm]
  cases e with
  | normal =>
    obtain ⟨g1,v,g2,g3⟩:=hq
    exact ⟨g1,.returning,by rw [hc0],v,g2,rfl,g3⟩
  | ret =>
    obtain ⟨g1,v,g2,g3⟩:=hq
    exact ⟨g1,.returning,by rw [hc0],v,g2,rfl,g3⟩
  | panic ch =>
    obtain ⟨g1,g2,g3⟩:=hq
    cases g2
  | exit id=>exact hq.elim
  | goto l=>exact hq.elim
  | outgrown=>exact ⟨.returning,by obtain ⟨g1,_⟩:=hq; cases g1⟩
theorem EqR.nilI {d:Nat} {ms} (ht:P.underlying t=some (.interface ms)):EqR P (d+1) t .nilIface .nilIface true:=fun w=>by
  simp [Op.equalIn,run_underlying ht]
def tIface (P:Program) (t:TypeId):Bool:=match P.underlying t with
  | some (.interface _)=>true
  | _=>false
theorem Z.eqNilI {t':TypeId} (ht:tIface P t=true) (hx:ev L x=some .nilIface):RunV P n ds L (.binOp .eql t x (.const .nilIface) t') ty w (.bool true) w:=fun a d pos af g hf=>by
  simp only [execOp,hf.eval hx]
  have e0:a.eval (.const .nilIface)=.nilIface:=rfl
  rw [e0]
  have e1:(eqGuard .eql t x (.const .nilIface) .nilIface .nilIface).run P w=.ok () w:=by simp [eqGuard]
  have e2:(binOp .eql t .nilIface .nilIface).run P w=.ok (.bool true) w:=by
    unfold tIface at ht
    split at ht
    · rename_i ms hms
      have this:=(EqR.nilI (d:=9999) hms:EqR P 10000 t .nilIface .nilIface true) w
      simp only [binOp,Op.equal,Op.maxDepth,Sem.run_bind,this,Result.andThen_ok,Sem.run_pure]
    · cases ht
  simp only [Sem.run_bind,e1,e2,Result.andThen_ok,Sem.run_pure]
end
end Go.SL
