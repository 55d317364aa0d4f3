/- Part of a proof: laws. -/
import Derived.Test.YtfaflenaajafgaaGreatDoorSLy
import Derived.RecoverIn
set_option linter.unusedVariables false
set_option linter.unusedSimpArgs false
namespace Go.SL
open Go
section
variable {r:Option Nat} {P:Program} {Q:Exit→Act→World→Prop} {ops:Array Oper} {i:Nat} {rest:List Nat} {a:Act} {w:World} {n:Nat} {ds:List Deferred} {L:List (Nat × Value)}
  {op:Op} {ty:TypeId} {pos:String} {af:Array Edge} {dst:Option Tmp}
theorem O.unguard {jj dj:Nat} {want c:Bool} (hf:Fr a n ds L) (ho:ops[i]? = some ⟨dst,op,ty,pos,af,some (jj,want)⟩) (hj:(ops[jj]?).bind (·.dst)=some dj) (hv:lk L dj=some (.bool c)) (hc:c=want)
    (h:O r P #[⟨dst,op,ty,pos,af,none⟩] (fun e a w=>e=.normal∧O r P ops Q rest a w) [0] a w):O r P ops Q (i::rest) a w:=by
  subst hc
  refine O.cutN (l₁:=[i]) (l₂:=rest) (fun a w=>O r P ops Q rest a w) rfl ?_ (fun _ _ h=>h)
  unfold O wpOpsIn at h ⊢
  simp only [ho]
  rw [if_pos (by rw [wanted_some hf hj hv]; simp)]
  simp only [List.getElem?_toArray,List.getElem?_cons_zero] at h
  rw [if_pos (by simp [Region.wanted])] at h
  exact h
end
end Go.SL

namespace Go.SL
open Go
section
variable {T:Type} {enc:T→List Value} {sz:Nat} {l m l':List T}
variable {r:Option Nat} {P:Program} {Q:Exit→Act→World→Prop} {ops:Array Oper} {i:Nat} {rest:List Nat} {a:Act} {w w0:World} {n:Nat} {ds:List Deferred} {L:List (Nat × Value)}
  {d:Nat} {ty t e:TypeId} {pos:String} {af:Array Edge} {v u z:Value} {X:Nat→Prop} {B M M':List Asr} {x y:Operand} {j k:Nat} {p1 p2:Int} {x0:T}
end
end Go.SL

namespace Go.SL
open Go
section
variable {P:Program} {Q:Exit→Act→World→Prop} {ops:Array Oper} {i:Nat} {rest:List Nat} {a:Act} {w w0:World} {n:Nat} {ds:List Deferred} {L:List (Nat × Value)}
  {d:Nat} {ty t:TypeId} {pos:String} {af:Array Edge} {v u z:Value} {X:Nat→Prop} {B M:List Asr} {x y:Operand} {f:FuncId} {fn:Func} {c:Code} {lv vs:List Value}
theorem LH.loop {r:Option Nat} {G:Type} (I:G→Act→World→Prop) (μ:G→Nat) (g:G) (h₀:I g a w)
    (round:∀ g a w,I g a w→W r P c (Exit.then (fun a' w'=>∃ g',I g' a' w'∧μ g'<μ g) Q) a w):LH r P c Q a w:=by
  have key:∀ j g a w,μ g=j→I g a w→LH r P c Q a w:=by
    intro j
    induction j using Nat.strongRecOn with
    | _ j ih =>
      intro g a w hn hI
      exact LH.step ((round g a w hI).mono (fun e a' w' hq=>by
        cases e with
        | normal =>
          obtain ⟨g',hI',hlt⟩:=hq
          exact ih (μ g') (hn▸hlt) g' a' w' rfl hI'
        | _=>exact hq))
  exact key _ g a w rfl h₀
def dfr (f:FuncId) (vs:List Value):Deferred:={ target:=.fn (.func f) #[],args:=vs.toArray }
theorem O.defer {args:Array Operand} {at_:Array TypeId} (hf:Fr a n ds L) (ho:ops[i]? = some ⟨none,.defer ⟨.value (.func f),args,at_⟩,ty,pos,af,none⟩) (hv:evA L args.toList=some vs)
    (k:∀ a',Fr a' n (dfr f vs::ds) L→O none P ops Q rest a' w):O none P ops Q (i::rest) a w:=by
  unfold O wpOpsIn
  simp only [ho]
  rw [if_pos (by simp [Region.wanted])]
  refine ⟨fun _ _=>trivial,?_⟩
  have h1:(Oper.semAt (FW none).round a.eval ⟨none,.defer ⟨.value (.func f),args,at_⟩,ty,pos,af,none⟩).run P w=.ok (.defer (dfr f vs)) w:=by
    show (execOp a.eval ⟨none,.defer ⟨.value (.func f),args,at_⟩,ty,pos,af,none⟩).run P w=_
    have h2:args.map a.eval=vs.toArray:=by
      apply Array.ext'; rw [Array.toList_map,hf.evA hv]
    simp [execOp,resolve,Deferred.ofValue,Act.eval,h2,dfr]
  rw [h1]
  exact k _ ⟨hf.size,by show dfr f vs::a.defers=_; rw [hf.defers],hf.get⟩
theorem postD {R:Ending→World→Prop} (hS:St w0 w X B M) (hf:Fr a n [dfr f vs] L) (hi:cOK P f=true) (hc:CallsDIn (FW none) 0 P f vs.toArray .returning w (fun e u' w'=>u'=.returning∧e=.returned (.tuple #[])∧w'=w))
    (h:∀ w' a',Fr a' n [] L→St w0 w' X B M→bodyPost P fn R .ret a' w'):bodyPostDIn (FW none) 0 P fn R .ret a w:=by
  show LeavesIn (FW none) 0 P fn a.tmps R a.defers .returning w
  rw [hf.defers]
  refine leavesIn_cons (by simp) (by simp [FW]) (show (invoke (.fn (.func f) #[]) vs.toArray).run P w=.ok (.enter f vs.toArray) w by simpa [invoke] using callOK_enter hi vs.toArray w) (fun _ _=>trivial) ?_
  refine hc.mono (fun e u' w' hh=>?_)
  obtain ⟨rfl,rfl,rfl⟩:=hh
  obtain ⟨_,v,h1,h2⟩:=h w' { a with defers:=[] } ⟨hf.size,rfl,hf.get⟩ hS
  exact ⟨v,h1,h2⟩
theorem ret_of_WD {G:Type} {v:G→Value} {R:G→World→Prop} (hf:P.funcs[f]? = some fn) (hb:fn.body=some c) (hn:fn.ntmps=n) (hl:Nat.ble lv.length n=true)
    (h:∀ a,Fr a n [] (argsL 0 lv)→W none P c (bodyPostDIn (FW none) 0 P fn (fun e w'=>∃ g,e=.returned (v g)∧R g w')) a w):Ret P f lv.toArray w v R:=by
  refine (callsIn_FW (r:=none) (n:=0)).1 (callsIn_of_wp_defers hf hb trivial ?_ rfl)
  exact h _ (Fr.start rfl (by simpa using hl) (by rw [hn]))
theorem recoverNil {r0:Nat} (hf:P.funcs[f]? = some fn) (hb:fn.body=some (.seq (.region r0 #[⟨some d,.call ⟨.builtin .recover,#[],#[]⟩,ty,pos,af,none⟩] false) c)) (hn:fn.ntmps=n) (hl:Nat.ble lv.length n=true) (hd:Nat.blt d n=true)
    (h:∀ a,Fr a n [] ((d,.nilIface)::argsL 0 lv)→W none P c (bodyPost P fn (fun e w'=>e=.returned (.tuple #[])∧w'=w)) a w) :
    CallsDIn (FW none) 0 P f lv.toArray .returning w (fun e u' w'=>u'=.returning∧e=.returned (.tuple #[])∧w'=w):=by
  refine callsDIn_of_wpSIn hf hb trivial (fun c0 cs hm=>wpSIn_seq (wpSIn_region ?_))
  have hF:=Fr.start (l:=lv) (n:=n) (m:=n-lv.toArray.size) rfl (by simpa using hl) rfl
  show wpOpsSIn _ _ _ _ _ [0] _ _ _
  unfold wpOpsSIn
  simp only [List.getElem?_toArray,List.getElem?_cons_zero]
  refine ⟨fun _ _=>trivial,?_⟩
  rw [if_pos (by simp [Region.wanted])]
  have h1:∀ ρ,(execOp ρ ⟨some d,.call ⟨.builtin .recover,#[],#[]⟩,ty,pos,af,none⟩).run P w=.ok .recover w:=fun ρ=>by
    simp [execOp,resolve,invoke,builtin]
  rw [h1]
  have h2:recoverD (c0::cs)=none:=by simp [recoverD,hm]
  simp only [h2]
  unfold wpOpsSIn
  rw [hn]
  refine wpSIn_of_wpIn rfl ?_
  have h3:=h _ (hF.put hd .nilIface)
  refine wpIn_mono h3 (fun e a' w' hq=>?_)
  have hc0:({ c0 with mode:=.returning }:Frame)=c0:=by rw [← hm]
  cases e with
  | normal =>
    obtain ⟨g1,v,g2,g3⟩:=hq
    exact ⟨g1,.returning,by rw [hc0],v,g2,rfl,g3⟩
  | ret =>
    obtain ⟨g1,v,g2,g3⟩:=hq
    exact ⟨g1,.returning,by rw [hc0],v,g2,rfl,g3⟩
  | panic ch =>
    obtain ⟨g1,g2,g3⟩:=hq
    cases g2
  | exit id=>exact hq.elim
  | goto l=>exact hq.elim
  | outgrown=>exact ⟨.returning,by obtain ⟨g1,_⟩:=hq; cases g1⟩
theorem EqR.nilI {d:Nat} {ms} (ht:P.underlying t=some (.interface ms)):EqR P (d+1) t .nilIface .nilIface true:=fun w=>by
  simp [Op.equalIn,run_underlying ht]
def tIface (P:Program) (t:TypeId):Bool:=match P.underlying t with
  | some (.interface _)=>true
  | _=>false
theorem Z.eqNilI {t':TypeId} (ht:tIface P t=true) (hx:ev L x=some .nilIface):RunV P n ds L (.binOp .eql t x (.const .nilIface) t') ty w (.bool true) w:=fun a d pos af g hf=>by
  simp only [execOp,hf.eval hx]
  have e0:a.eval (.const .nilIface)=.nilIface:=rfl
  rw [e0]
  have e1:(eqGuard .eql t x (.const .nilIface) .nilIface .nilIface).run P w=.ok () w:=by simp [eqGuard]
  have e2:(binOp .eql t .nilIface .nilIface).run P w=.ok (.bool true) w:=by
    unfold tIface at ht
    split at ht
    · rename_i ms hms
      have this:=(EqR.nilI (d:=9999) hms:EqR P 10000 t .nilIface .nilIface true) w
      simp only [binOp,Op.equal,Op.maxDepth,Sem.run_bind,this,Result.andThen_ok,Sem.run_pure]
    · cases ht
  simp only [Sem.run_bind,e1,e2,Result.andThen_ok,Sem.run_pure]
end
end Go.SL
