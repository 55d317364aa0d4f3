/- Part of a proof: laws and walks. -/
import Derived.Test.YtgakdmmmljdpjaaDoorTab
import Derived.Laws.Slices
import Derived.MapKept
import Derived.RangeFuncOwn
import Derived.RangeFuncLeaves
import Derived.ArgAppend
import Derived.RecoverIn
import Derived.Laws.RangeString
import Derived.Shelf.SlSortCmp.NoneTotal
import Derived.Test.YtgakdmmmljdpjaaDoorTaa
import Derived.Sort.Grow
set_option linter.unusedVariables false
set_option linter.unusedSimpArgs false
namespace Go.SL
open Go
def vsub (sz:Nat) (v:Value) (a b:Int):Value :=
  match v with
  | .slice A _ c=>.slice (if c=a.toNat then A else A.map (·.add (a.toNat*sz))) (b.toNat-a.toNat) (c-a.toNat)
  | _=>undef
def lsub {T:Type} (l:List T) (a b:Int):List T:=(l.take b.toNat).drop a.toNat
def sbd (a b n:Int):Prop:=0≤a∧a≤b∧b≤n
instance (a b n:Int):Decidable (sbd a b n):=by unfold sbd; infer_instance
section
variable {T:Type} {enc:T→List Value} {sz:Nat} {l:List T} {h:Hp} {v:Value} {a b:Int} {x0:T}
theorem encs_take (he:∀ x,(enc x).length=sz):∀ (l:List T) (k:Nat),encs enc (l.take k)=(encs enc l).take (k*sz)
  | [],k=>by simp [encs]
  | x::t,0=>by simp [encs]
  | x::t,k+1=>by
    have ih:=encs_take he t k
    simp only [encs] at ih
    simp only [encs,List.take_succ_cons,List.flatMap_cons,ih]
    have h1:(k+1)*sz=sz+k*sz:=by rw [Nat.add_mul]; omega
    rw [List.take_append,he,h1,List.take_of_length_le (l:=enc x) (by rw [he]; omega),Nat.add_sub_cancel_left]
theorem encs_drop (he:∀ x,(enc x).length=sz):∀ (l:List T) (k:Nat),encs enc (l.drop k)=(encs enc l).drop (k*sz)
  | [],k=>by simp [encs]
  | x::t,0=>by simp
  | x::t,k+1=>by
    have ih:=encs_drop he t k
    simp only [encs] at ih
    simp only [encs,List.drop_succ_cons,List.flatMap_cons,ih]
    have h1:(k+1)*sz=sz+k*sz:=by rw [Nat.add_mul]; omega
    rw [List.drop_append,he,h1,List.drop_of_length_le (l:=enc x) (by rw [he]; omega),Nat.add_sub_cancel_left,List.nil_append]
theorem lsub_len (hb:sbd a b (l.length:Int)):(lsub l a b).length=b.toNat-a.toNat:=by
  unfold lsub; obtain ⟨h1,h2,h3⟩:=hb; simp; omega
theorem rdEOK.sub (hr:rdEOK h sz enc v l) (he:∀ x,(enc x).length=sz) (hb:sbd a b (l.length:Int)):rdEOK h sz enc (vsub sz v a b) (lsub l a b):=by
  obtain ⟨⟨h1,h2,A,c,rfl,h3⟩,hfit⟩:=hr
  have hfit:l.length≤c:=hfit
  have hl:=lsub_len hb
  obtain ⟨b1,b2,b3⟩:=hb
  refine ⟨⟨by rw [encs_len he],by omega,?_⟩,?_⟩
  · refine ⟨_,_,by rw [hl]; rfl,fun hn=>?_⟩
    rw [hl] at hn
    obtain ⟨p,cur,e,z,rfl,hs,hg,hc⟩:=h3 (by omega)
    refine ⟨p.add (a.toNat*sz),cur,e,z,?_,?_,?_,?_⟩
    · rw [if_neg (by omega)]; rfl
    · obtain ⟨g,o,s⟩:=p
      simp only at hs; subst hs; simp [add_none]
    · obtain ⟨g,o,s⟩:=p
      simp only at hs; subst hs; simpa [add_none] using hg
    · intro j u hu
      obtain ⟨g,o,s⟩:=p
      simp only at hs; subst hs
      simp only [add_none]
      rw [Nat.add_assoc]
      apply hc
      unfold lsub at hu
      rw [encs_drop he,encs_take he,List.getElem?_drop,List.getElem?_take] at hu
      split at hu
      · exact hu
      · cases hu
  · show b.toNat-a.toNat≤c-a.toNat
    omega
theorem slOK.sub {e:TypeId} (hs:slOK h e sz v l.length (encs enc l)) (he:∀ x,(enc x).length=sz) (hb:sbd 0 b (l.length:Int)):slOK h e sz (vsub sz v 0 b) (lsub l 0 b).length (encs enc (lsub l 0 b)):=by
  have hl:=lsub_len hb
  obtain ⟨b1,b2,b3⟩:=hb
  refine ⟨by rw [encs_len he],?_⟩
  rw [hl]
  rcases hs.2 with ⟨rfl,h0⟩ | ⟨g,cap,cur,rfl,hg,h1,h2,h3,h4⟩
  · have:b.toNat=0:=by omega
    refine .inl ⟨?_,by simp; omega⟩
    simp [vsub,this]
  · refine .inr ⟨g,cap,cur,?_,hg,by simp; omega,h2,h3,?_⟩
    · simp [vsub,add_none]
    · unfold lsub
      simp only [Int.toNat_zero,List.drop_zero,Nat.sub_zero]
      rw [encs_take he,← h4,List.take_take]
      congr 1
      have:b.toNat*sz≤l.length*sz:=Nat.mul_le_mul_right _ (by omega)
      omega
end
section
variable {T:Type} {enc:T→List Value} {sz:Nat} {l:List T} {x0:T}
variable {P:Program} {w w0:World} {n:Nat} {ds:List Deferred} {L:List (Nat × Value)} {ty t e:TypeId} {x y lo hi:Operand} {v:Value} {X:Nat→Prop} {B M M':List Asr} {p q:Int} {k k':IntKind} {j:Nat}
theorem run_sub (he:tElem P t=some e) (hs:tSize P e=some sz) (hr:rdEOK (hp w) sz enc v l) (lo' hi':Option Value)
    (hb:sbd p q (l.length:Int)) (hlo:lo'=none∧p=0∨∃ k,lo'=some (.int k p)) (hhi:hi'=none∧q=l.length∨∃ k,hi'=some (.int k q)) :
    (Instr.sliceAt t v lo' hi' none).run P w=.ok (vsub sz v p q) w:=by
  obtain ⟨⟨h1,h2,A,c,rfl,h3⟩,hfit⟩:=hr
  have hfit:l.length≤c:=hfit
  obtain ⟨b1,b2,b3⟩:=hb
  have ht:=und_elem he
  have ht:P.underlying t=some (.slice (P.elem t)):=by rw [ht]; simp [Program.elem,ht]
  have hel:P.elem t=e:=by
    have:=und_elem he
    rw [this] at ht
    simpa using ht.symm
  rw [run_sliceAt_slice _ _ _ _ _ _ ht]
  have hsz:(sizeOf (P.elem t)).run P w=.ok sz w:=by rw [hel]; exact run_sizeOf hs
  rcases hlo with ⟨rfl,rfl⟩ | ⟨k,rfl⟩ <;> rcases hhi with ⟨rfl,rfl⟩ | ⟨k',rfl⟩
  · rw [run_slice_all _ _ _ _ _ ht,hsz]; simp [sliced,vsub,Result.andThen]
  · rw [run_slice_h _ _ _ _ _ ht _ _ b2 (by omega),hsz]; simp [sliced,vsub,Result.andThen]
  · rw [run_slice_l _ _ _ _ _ ht _ _ b1 (by omega),hsz]; simp [sliced,vsub,Result.andThen]
  · rw [run_slice_lh _ _ _ _ _ ht _ _ _ _ b1 b2 (by omega),hsz]; simp [sliced,vsub,Result.andThen]
theorem RunV.sliceH (he:tElem P t=some e) (hs:tSize P e=some sz) (hx:ev L x=some v) (hh:ev L hi=some (.int k q)) (hr:rdEOK (hp w) sz enc v l) (hb:sbd 0 q (l.length:Int)) :
    RunV P n ds L (.slice t x none (some hi) none) ty w (vsub sz v 0 q) w:=fun a d pos af g hf=>by
  simp only [execOp,hf.eval hx,Option.map_some,Option.map_none,hf.eval hh]
  exact run_v (run_sub he hs hr _ _ hb (.inl ⟨rfl,rfl⟩) (.inr ⟨k,rfl⟩))
end
end Go.SL
namespace Go.SL
open Go
section
variable {T:Type} {enc:T→List Value} {sz:Nat} {l m:List T} {h:Hp} {v u:Value} {a b p q:Int} {x0:T} {k:Nat}
end
section
variable {T:Type} {enc:T→List Value} {sz:Nat} {l m:List T} {x0:T}
variable {r:Option Nat} {P:Program} {Q:Exit→Act→World→Prop} {ops:Array Oper} {i:Nat} {rest:List Nat} {a:Act} {w w0 w':World} {n:Nat} {ds:List Deferred} {L:List (Nat × Value)}
  {d:Nat} {op:Op} {ty t e:TypeId} {pos:String} {af:Array Edge} {v u z:Value} {X:Nat→Prop} {B M M':List Asr} {x y:Operand} {b o j:Nat} {k:IntKind} {p p1 p2:Int} {q q':Asr}
end
end Go.SL
namespace Go.SL
open Go
def lcopy {T:Type} (l m:List T) (a:Int) (k:Nat):List T:=l.take a.toNat++m.take k++l.drop (a.toNat+k)
section
variable {T:Type} {enc:T→List Value} {sz:Nat} {l m:List T} {h:Hp} {v u:Value} {p1 p2:Int} {e:TypeId}
end
section
variable {T:Type} {enc:T→List Value} {sz:Nat} {l m l':List T}
variable {r:Option Nat} {P:Program} {Q:Exit→Act→World→Prop} {ops:Array Oper} {i:Nat} {rest:List Nat} {a:Act} {w w0:World} {n:Nat} {ds:List Deferred} {L:List (Nat × Value)}
  {d:Nat} {ty t e:TypeId} {pos:String} {af:Array Edge} {v u:Value} {X:Nat→Prop} {B M M':List Asr} {x y:Operand} {j k:Nat} {p1 p2:Int}
end
end Go.SL
namespace Go.SL
open Go
theorem EqR.sl {P:Program} {t e:TypeId} {d:Nat} {A:Option Addr} {n c n' c':Nat} (ht:tElem P t=some e):EqR P (d+1) t (.slice A n c) (.slice none n' c') A.isNone:=fun w=>by
  cases A <;> simp [Op.equalIn,run_underlying (und_elem ht)]
theorem run_eqSl {P:Program} {w:World} {t e:TypeId} {v u:Value} {A A':Option Addr} {n c n' c':Nat} (ht:tElem P t=some e) (hv:v=.slice A n c) (hA:A'=none) (hu:u=.slice A' n' c'):(binOp .eql t v u).run P w=.ok (.bool A.isNone) w:=by
  subst hv hA hu
  have:=(EqR.sl (d:=9999) ht:EqR P 10000 t (.slice A n c) (.slice none n' c') A.isNone) w
  simp only [binOp,Op.equal,Op.maxDepth,Sem.run_bind,this,Result.andThen_ok,Sem.run_pure]
section
variable {P:Program} {w:World} {n:Nat} {ds:List Deferred} {L:List (Nat × Value)} {ty t t' e:TypeId} {x y:Operand} {v:Value} {k c:Nat} {a:Addr}
theorem RunV.eqNil1 (ht:tElem P t=some e) (hv:v=.slice none k c) (hx:ev L x=some v) (hy:ev L y=some (.slice none 0 0)):RunV P n ds L (.binOp .eql t x y t') ty w (.bool true) w:=fun a d pos af g hf=>by
  simp only [execOp,hf.eval hx,hf.eval hy]
  have e1:(eqGuard .eql t x y v (.slice none 0 0)).run P w=.ok () w:=by subst hv; simp [eqGuard]
  have e2:=run_eqSl (P:=P) (w:=w) (u:=.slice none 0 0) ht hv rfl rfl
  simp only [Sem.run_bind,e1,e2,Result.andThen_ok,Sem.run_pure]; rfl
theorem RunV.eqNil2 (ht:tElem P t=some e) (hv:v=.slice (some a) k c) (hx:ev L x=some v) (hy:ev L y=some (.slice none 0 0)):RunV P n ds L (.binOp .eql t x y t') ty w (.bool false) w:=fun a d pos af g hf=>by
  simp only [execOp,hf.eval hx,hf.eval hy]
  have e1:(eqGuard .eql t x y v (.slice none 0 0)).run P w=.ok () w:=by subst hv; simp [eqGuard]
  have e2:=run_eqSl (P:=P) (w:=w) (u:=.slice none 0 0) ht hv rfl rfl
  simp only [Sem.run_bind,e1,e2,Result.andThen_ok,Sem.run_pure]; rfl
end
end Go.SL
namespace Go.SL
open Go
section
variable {P:Program} {Q:Exit→Act→World→Prop} {ops:Array Oper} {a:Act} {w w0 w':World} {n:Nat} {ds:List Deferred} {L:List (Nat × Value)}
  {d:Nat} {op:Op} {ty:TypeId} {pos:String} {af:Array Edge} {v:Value} {X:Nat→Prop} {B M:List Asr} {f:FuncId} {args:Array Value}
theorem OQ.callRq {K:Act→Prop} {lo:List Oper} (hf:Fr a n ds L) (hd:Nat.blt d n=true) (hr:∀ w,St w0 w X B M→RunE P n ds L op ty w f args) (hc:∀ w,St w0 w X B M→Ret P f args w (fun _:Unit=>v) (fun _ w1=>St w w1 noX [] []))
    (k:∀ a',Fr a' n ds ((d,v)::L)→OQ P ops (fun w=>St w0 w X B M) K lo a'):OQ P ops (fun w=>St w0 w X B M) K (⟨some d,op,ty,pos,af,none⟩::lo) a :=
  OQ.call hf hd hr (fun w hw=>Calls.mono (hc w hw) fun _ w' ⟨_,he,hR⟩=>⟨he,(hw.call hR).dropN⟩) k
end
end Go.SL

namespace Go.SL
open Go
def eKey (e:MapEntry):Value:=e.key
structure MOK (es:Array MapEntry) (clock:Nat) (ks:List Int):Prop where
  keys:es.toList.map (·.key)=ks.map (Value.int .i64)
  vals:∀ e ∈ es.toList,e.val=.bool true
  born:∀ e ∈ es.toList,e.born<clock
  apart:(es.toList.map (·.born)).Nodup
  nodup:ks.Nodup
def setOK (h:Hp) (b:Nat) (ins:List Bool):Prop :=
  ∃ es clock ks,h b=some (.map es clock)∧MOK es clock ks∧(∀ k ∈ ks,0≤k)∧∀ i:Nat,((i:Int) ∈ ks↔ins.getD i false=true)
def ms (b:Nat) (ins:List Bool):Asr:=⟨fun k=>k=b,fun h=>setOK h b ins,fun h h' hk ⟨es,c,ks,h1,h2⟩=>⟨es,c,ks,by rw [hk b rfl]; exact h1,h2⟩⟩
def tSet (P:Program) (t:TypeId):Option TypeId :=
  match P.underlying t with
  | some (.map k e)=>match P.underlying k with
    | some (.int _)=>match tZero P e with
      | some (.bool false)=>some k
      | _=>none
    | _=>none
  | _=>none
section
variable {P:Program} {w:World} {t kt:TypeId} {k:Int}
theorem run_underlying {d:TypeDesc} (h:P.underlying t=some d):(underlying t).run P w=.ok d w:=by
  simp [underlying,h]
def posK (k:Int):List Int→Nat→Option Nat
  | [],_=>none
  | x::t,i=>if k=x then some i else posK k t (i+1)
section
variable {es:Array MapEntry} {c:Nat} {ks:List Int}
theorem MOK.push (h:MOK es c ks) (hk:k ∉ ks):MOK (es.push { key:=.int .i64 k,val:=.bool true,born:=c }) (c+1) (ks++[k]):=by
  refine ⟨by simp [h.keys],fun e he=>?_,fun e he=>?_,?_,?_⟩
  · simp only [Array.toList_push,List.mem_append,List.mem_singleton] at he
    rcases he with he | rfl
    · exact h.vals e he
    · rfl
  · simp only [Array.toList_push,List.mem_append,List.mem_singleton] at he
    rcases he with he | rfl
    · have:=h.born e he; omega
    · exact Nat.lt_succ_self _
  · simp only [Array.toList_push,List.map_append,List.map_cons,List.map_nil]
    rw [List.nodup_append]
    refine ⟨h.apart,by simp,fun x hx y hy=>?_⟩
    simp only [List.mem_singleton] at hy
    subst hy
    obtain ⟨e,he,rfl⟩:=List.mem_map.1 hx
    have:=h.born e he; omega
  · rw [List.nodup_append]
    exact ⟨h.nodup,by simp,fun x hx y hy e=>by simp only [List.mem_singleton] at hy; subst hy; exact hk (e▸hx)⟩
end
def putMap (w:World) (b:Nat) (es:Array MapEntry) (c:Nat):World:={ w with heap:=w.heap.setIfInBounds b (.map es c) }
variable {b:Nat} {ins:List Bool} {i:Nat}
end
section
variable {r:Option Nat} {P:Program} {ops:Array Oper} {Q:Exit→Act→World→Prop} {a:Act} {w w0:World} {n:Nat} {ds:List Deferred} {L:List (Nat × Value)} {X:Nat→Prop} {B M M':List Asr}
  {d i j b:Nat} {ty t kt:TypeId} {pos:String} {af:Array Edge} {rest:List Nat} {x y z:Operand} {ins:List Bool} {q:Nat}
theorem St.putMap (h:St w0 w X B M) (hi:M[j]? = some (ms b ins)) {es:Array MapEntry} {c:Nat} {ins':List Bool} (hs:setOK (hp (SL.putMap w b es c)) b ins'):St w0 (SL.putMap w b es c) X B (M.set j (ms b ins')):=by
  have hl:=(h.sep.get hi).2 b rfl
  refine h.write (w':=SL.putMap w b es c) hi rfl rfl rfl (by simp [SL.putMap]) (fun k _ hk=>?_) hs (fun k hk=>⟨.inl hk,by
    have hk:k=b:=hk
    subst hk
    simpa [SL.putMap] using hl.1⟩)
  simp only [SL.putMap]
  exact Array.getElem?_setIfInBounds_ne (fun e=>hk e.symm)
theorem O.makeMap (hf:Fr a n ds L) (hS:St w0 w X B M) (ho:ops[i]? = some ⟨some d,.makeMap t none,ty,pos,af,none⟩) (hd:Nat.blt d n=true) (ins:List Bool) (hins:∀ q,ins.getD q false=false)
    (k:∀ b w' a',w0.heap.size≤b→St w0 w' X B (ms b ins::M)→Fr a' n ds ((d,.map (some b))::L)→O r P ops Q rest a' w'):O r P ops Q (i::rest) a w:=by
  refine O.val (w':=w.alloc (.map #[] 0)) hf ho rfl hd (v:=.map (some w.heap.size)) ?_ (fun a' hf'=>k _ _ a' hS.size ?_ hf')
  · intro a d pos af g hf
    simp only [execOp]
    exact run_v rfl
  · refine (hS.alloc (.map #[] 0)).conv (i:=0) (p:=pt w.heap.size (.map #[] 0)) (q:=ms w.heap.size ins) rfl (fun h=>⟨#[],0,[],h,⟨rfl,by simp,by simp,by simp,by simp⟩,by simp,fun q=>?_⟩) (fun b hb=>hb)
    rw [hins q]; simp
end
end Go.SL

namespace Go.SL
open Go
def mkDs (Ds:List Nat):List Deferred:=Ds.map fun D=>{ target:=.collected D,args:=#[] }
def mkA (Ds:List Nat):Asr:=⟨fun b=>b ∈ Ds,fun h=>Ds.Nodup∧∀ D ∈ Ds,h D=some (.deferred (some [])),fun h h' hk hh=>⟨hh.1,fun D hD=>by rw [hk D hD]; exact hh.2 D hD⟩⟩
section
variable {P:Program} {a:Act} {w w0 w':World} {n:Nat} {ds:List Deferred} {L:List (Nat × Value)} {X:Nat→Prop} {B M:List Asr} {j b l D:Nat} {o o':Obj} {Ds:List Nat}
end
def IterR (P:Program) (gf:FuncId) (lb:Array Value) (xs:List Value) (Bs:List (Nat × Obj)):Prop :=
  ∀ (l:Nat) (R:Nat→World→Prop),(∀ k w,R k w→R k w.drew)→(∀ k w,R k w→∀ p ∈ Bs,w.heap[p.1]? = some p.2) →
    (∀ k x,xs[k]? = some x→∀ w,R k w→YieldAt (FW none) 0 P l #[x] w (fun e w'=>e=.returned (.bool true)∧R (k+1) w')) →
    ∀ w,R 0 w→Calls P gf (#[.func (.yield l) #[] #[]]++lb) w (fun e w'=>(∃ v,e=.returned v)∧R xs.length w')
section
variable {P:Program} {Q:Exit→Act→World→Prop} {a:Act} {w w0 w':World} {n:Nat} {ds:List Deferred} {L:List (Nat × Value)} {X:Nat→Prop} {B M:List Asr}
theorem callOK_enter {f:FuncId} (h:callOK P f=true) (args:Array Value) (w:World):(callFunc f args).run P w=.ok (.enter f args) w:=by
  unfold callOK at h
  split at h
  · rename_i fn hfn
    simp only [Bool.and_eq_true,bne_iff_ne,ne_eq] at h
    obtain ⟨h1,h2⟩:=h
    have h3:fn.body.isNone=false:=by cases hb:fn.body <;> simp_all
    have hp:(program).run P w=.ok P w:=rfl
    simp only [callFunc,Sem.run_bind,hp,Result.andThen,hfn]
    simp [h1,h3]
  · cases h
end
end Go.SL
namespace Go.SL
open Go
section
variable {r:Option Nat} {P:Program} {Q:Exit→Act→World→Prop} {ops:Array Oper} {i:Nat} {rest:List Nat} {a:Act} {w w0 w':World} {n:Nat} {ds:List Deferred} {L:List (Nat × Value)}
  {d:Nat} {op:Op} {ty:TypeId} {pos:String} {af:Array Edge} {v x:Value} {X:Nat→Prop} {B M:List Asr} {f y:Operand} {l:Nat} {R:World→Prop} {at_:Array TypeId}
theorem run_callYield {g:Option (Nat × Bool)} {dst:Option Tmp} (hf:Fr a n ds L) (hx:ev L f=some (.func (.yield l) #[] #[])) (hy:ev L y=some x) {res:Result Next} (h:(Instr.yield l #[x]).run P w=res) :
    (execOp a.eval ⟨dst,.call ⟨.value f,#[y],at_⟩,ty,pos,af,g⟩).run P w=res:=by
  simp only [execOp,resolve,Sem.run_bind,Sem.run_pure,Result.andThen,hf.eval hx,Deferred.ofValue,invoke]
  have e:(#[]++#[y].map a.eval++#[]:Array Value)=#[x]:=by simp [hf.eval hy]
  simp [hf.eval hy]
  exact h
theorem O.yield (hf:Fr a n ds L) (ho:ops[i]? = some ⟨some d,.call ⟨.value f,#[y],at_⟩,ty,pos,af,none⟩) (hd:Nat.blt d n=true) (hx:ev L f=some (.func (.yield l) #[] #[])) (hy:ev L y=some x)
    (hY:YieldAt (FW none) 0 P l #[x] w (fun e w'=>e=.returned (.bool true)∧R w'))
    (k:∀ w' a',R w'→Fr a' n ds ((d,.bool true)::L)→O none P ops Q rest a' w'):O none P ops Q (i::rest) a w:=by
  obtain ⟨fn,tmps,assign,body,h1,h2⟩:=hY
  unfold O wpOpsIn
  simp only [ho]
  rw [if_pos (by simp [Region.wanted])]
  refine ⟨fun _ _=>trivial,?_⟩
  rw [semAt_FW (o:=⟨some d,.call ⟨.value f,#[y],at_⟩,ty,pos,af,none⟩) rfl,run_callYield hf hx hy h1]
  refine ⟨fun h=>by simp [FW] at h,h2.mono ?_⟩
  rintro e w' ⟨rfl,hR⟩
  exact k w' _ hR (hf.put hd _)
end
end Go.SL
namespace Go.SL
end Go.SL
namespace Go.SL
end Go.SL

namespace Go.SL
open Go
def IterX (P:Program) (gf:FuncId) (lb:Array Value) (xs:List (Value × Value)) (Rd:World→Prop):Prop :=
  ∀ (l:Nat) (R:Nat→World→Prop) (S:World→Prop),(∀ k w,R k w→R k w.drew)→(∀ k w,R k w→Rd w) →
    (∀ k x,xs[k]? = some x→∀ w,R k w→YieldAt (FW none) 0 P l #[x.1,x.2] w (fun e w'=>(e=.returned (.bool true)∧R (k+1) w')∨(e=.returned (.bool false)∧S w'))) →
    ∀ w,R 0 w→Calls P gf (#[.func (.yield l) #[] #[]]++lb) w (fun e w'=>(∃ v,e=.returned v)∧(R xs.length w'∨S w'))
section
variable {P:Program} {Q:Exit→Act→World→Prop} {a:Act} {w w0 w':World} {n:Nat} {ds:List Deferred} {L:List (Nat × Value)} {X:Nat→Prop} {B M:List Asr}
end
end Go.SL
namespace Go.SL
open Go
section
variable {P:Program} {Q:Exit→Act→World→Prop} {ops:Array Oper} {i:Nat} {rest:List Nat} {a:Act} {w w0 w':World} {n:Nat} {ds:List Deferred} {L:List (Nat × Value)}
  {d:Nat} {ty:TypeId} {pos:String} {af:Array Edge} {x1 x2:Value} {f y1 y2:Operand} {l:Nat} {R S:World→Prop} {at_:Array TypeId}
end
def downL {T:Type} (l:List T):List (Int × T):=(l.zipIdx.map fun p=>((p.2:Int),p.1)).reverse
def RdAt {T:Type} (t:TypeId) (sz:Nat) (enc:T→List Value) (b:Nat) (s:Value) (l:List T) (w:World):Prop:=w.heap[b]? = some (.cells #[s] t (0,0))∧rdEOK (hp w) sz enc s l
end Go.SL
namespace Go.SL
end Go.SL
namespace Go.SL
open Go
end Go.SL
namespace Go.SL
open Go
section
variable {P:Program} {ops:Array Oper} {a:Act} {w0:World} {n:Nat} {ds:List Deferred} {L:List (Nat × Value)}
  {d:Nat} {op:Op} {ty:TypeId} {pos:String} {af:Array Edge} {v:Value} {X:Nat→Prop} {B M:List Asr} {f:FuncId} {args:Array Value}
end
end Go.SL

namespace Go.SL
open Go
def vfull:Value→Value
  | .slice A n _=>.slice A n n
  | _=>undef
section
variable {T:Type} {enc:T→List Value} {sz:Nat} {l m:List T}
variable {r:Option Nat} {P:Program} {Q:Exit→Act→World→Prop} {ops:Array Oper} {i:Nat} {rest:List Nat} {a:Act} {w w0 w':World} {n:Nat} {ds:List Deferred} {L:List (Nat × Value)}
  {d:Nat} {op:Op} {ty t e:TypeId} {pos:String} {af:Array Edge} {v u z:Value} {X:Nat→Prop} {B M M':List Asr} {x y hi mx:Operand} {b o j jj N by_ c:Nat} {k k':IntKind} {cs:Array Value} {zz:Nat × Nat}
end
end Go.SL

namespace Go.SL
open Go
section
variable {T:Type} {enc:T→List Value} {sz:Nat} {l:List T} {w w0:World} {X:Nat→Prop} {B M M':List Asr} {v:Value} {e:TypeId} {i j:Nat} {c:Bool} {p:Asr}
end
end Go.SL

namespace Go.SL
open Go
abbrev MTab:=List (Int × Int × Value)
def mKey (p q:Int):Value:=.agg #[.int .i64 p,.int .i64 q]
def mVal {T:Type} (v:Value) (r:List T × Int × Int):Value:=.agg #[v,.int .i64 r.2.1,.int .i64 r.2.2]
def memoOK {T:Type} (e sz:Nat) (enc:T→List Value) (f:Int→Int→List T × Int × Int) (b:Nat) (tb:MTab) (h:Hp):Prop :=
  (∃ es clock,h b=some (.map es clock)∧es.toList.map (fun x=>(x.key,x.val))=tb.map fun t=>(mKey t.1 t.2.1,mVal t.2.2 (f t.1 t.2.1))) ∧
  ∀ t ∈ tb,slOK h e sz t.2.2 (f t.1 t.2.1).1.length (encs enc (f t.1 t.2.1).1)
def memoA {T:Type} (e sz:Nat) (enc:T→List Value) (f:Int→Int→List T × Int × Int) (b:Nat) (tb:MTab):Asr :=
  ⟨fun k=>k=b∨∃ t ∈ tb,t.2.2.ownBlock=some k,memoOK e sz enc f b tb,fun h h' hk ⟨⟨es,c,h1,h2⟩,h3⟩=>⟨⟨es,c,by rw [hk b (.inl rfl)]; exact h1,h2⟩,fun t ht=>(sl e sz t.2.2 _ _).loc h h' (fun k hk'=>hk k (.inr ⟨t,ht,hk'⟩)) (h3 t ht)⟩⟩
def memIn {T:Type} (f:Int→Int→List T × Int × Int) (tb:MTab) (v:Value) (l:List T):Asr :=
  ⟨fun _=>False,fun _=>∃ t ∈ tb,t.2.2=v∧(f t.1 t.2.1).1=l,fun _ _ _ h=>h⟩
def memoH {T:Type} (w:World) (e sz:Nat) (enc:T→List Value) (f:Int→Int→List T × Int × Int) (b:Nat) (tb:MTab):Prop :=
  Lent w (memoA e sz enc f b tb)
section
variable {T:Type} {enc:T→List Value} {sz:Nat} {l m:List T} {f:Int→Int→List T × Int × Int} {tb:MTab}
variable {r:Option Nat} {P:Program} {Q:Exit→Act→World→Prop} {ops:Array Oper} {i:Nat} {rest:List Nat} {a:Act} {w w0 w':World} {n:Nat} {ds:List Deferred} {L:List (Nat × Value)}
  {d:Nat} {op:Op} {ty t e kt:TypeId} {pos:String} {af:Array Edge} {v u z:Value} {X:Nat→Prop} {B M M':List Asr} {x y zz:Operand} {b o j jj:Nat} {k k':IntKind} {p q:Int} {A:Asr}
theorem St.ownG (h:Lent w A) (hB:∀ p ∈ B,Lent w p) (ha:∀ p ∈ B,∀ k,p.fp k→¬ A.fp k):St w w (fun k=>A.fp k) B [A] :=
  ⟨rfl,rfl,rfl,Nat.le_refl _,fun _ _ _=>rfl,⟨⟨h.1,fun k hk=>⟨h.2 k hk,.inl hk⟩,by simp⟩,trivial⟩,fun p hp=>⟨(hB p hp).1,fun k hk=>⟨(hB p hp).2 k hk,ha p hp k hk⟩⟩⟩
theorem St.lentAt (hS:St w0 w X B M) (hi:M[i]? = some A):Lent w A:=⟨(hS.sep.get hi).1,fun b hb=>((hS.sep.get hi).2 b hb).1⟩
def tMemo (P:Program) (t:TypeId):Option (TypeId × Value) :=
  match P.underlying t with
  | some (.map k e)=>match tArr P k with
    | some (2,q)=>match tInt P q,tZero P e with
      | some .i64,some z'=>if P.cellsOf q=1∧(P.info? q).isSome=true∧tAgg P q=some false∧tSize P q=some 1 then some (k,z') else none
      | _,_=>none
    | _=>none
  | _=>none
def posM (p q:Int):List (Int × Int × Value)→Nat→Option (Nat × Int × Int × Value)
  | [],_=>none
  | x::t,i=>if p=x.1∧q=x.2.1 then some (i,x) else posM p q t (i+1)
theorem RunV.lk {c:Bool} {kv:Value} (hx:ev L x=some u) (hy:ev L y=some kv) (h:(Instr.lookup t u kv c).run P w=.ok v w):RunV P n ds L (.lookup t x y c) ty w v w:=fun a d pos af g hf=>by
  simp only [execOp,hf.eval hx,hf.eval hy]
  exact run_v h
end
end Go.SL

namespace Go.SL
open Go
section
variable {r:Option Nat} {P:Program} {Q:Exit→Act→World→Prop} {ops:Array Oper} {i:Nat} {rest:List Nat} {a:Act} {w:World} {n:Nat} {ds:List Deferred} {L:List (Nat × Value)}
  {op:Op} {ty:TypeId} {pos:String} {af:Array Edge} {dst:Option Tmp}
theorem O.unguard {jj dj:Nat} {want c:Bool} (hf:Fr a n ds L) (ho:ops[i]? = some ⟨dst,op,ty,pos,af,some (jj,want)⟩) (hj:(ops[jj]?).bind (·.dst)=some dj) (hv:lk L dj=some (.bool c)) (hc:c=want)
    (h:O r P #[⟨dst,op,ty,pos,af,none⟩] (fun e a w=>e=.normal∧O r P ops Q rest a w) [0] a w):O r P ops Q (i::rest) a w:=by
  subst hc
  refine O.cutN (l₁:=[i]) (l₂:=rest) (fun a w=>O r P ops Q rest a w) rfl ?_ (fun _ _ h=>h)
  unfold O wpOpsIn at h ⊢
  simp only [ho]
  rw [if_pos (by rw [wanted_some hf hj hv]; simp)]
  simp only [List.getElem?_toArray,List.getElem?_cons_zero] at h
  rw [if_pos (by simp [Region.wanted])] at h
  exact h
end
end Go.SL

namespace Go.SL
open Go
section
variable {T:Type} {enc:T→List Value} {sz:Nat} {l m l':List T}
variable {r:Option Nat} {P:Program} {Q:Exit→Act→World→Prop} {ops:Array Oper} {i:Nat} {rest:List Nat} {a:Act} {w w0:World} {n:Nat} {ds:List Deferred} {L:List (Nat × Value)}
  {d:Nat} {ty t e:TypeId} {pos:String} {af:Array Edge} {v u z:Value} {X:Nat→Prop} {B M M':List Asr} {x y:Operand} {j k:Nat} {p1 p2:Int} {x0:T}
end
end Go.SL

namespace Go.SL
open Go
section
variable {P:Program} {Q:Exit→Act→World→Prop} {ops:Array Oper} {i:Nat} {rest:List Nat} {a:Act} {w w0:World} {n:Nat} {ds:List Deferred} {L:List (Nat × Value)}
  {d:Nat} {ty t:TypeId} {pos:String} {af:Array Edge} {v u z:Value} {X:Nat→Prop} {B M:List Asr} {x y:Operand} {f:FuncId} {fn:Func} {c:Code} {lv vs:List Value}
theorem LH.loop {r:Option Nat} {G:Type} (I:G→Act→World→Prop) (μ:G→Nat) (g:G) (h₀:I g a w)
    (round:∀ g a w,I g a w→W r P c (Exit.then (fun a' w'=>∃ g',I g' a' w'∧μ g'<μ g) Q) a w):LH r P c Q a w:=by
  have key:∀ j g a w,μ g=j→I g a w→LH r P c Q a w:=by
    intro j
    induction j using Nat.strongRecOn with
    | _ j ih =>
      intro g a w hn hI
      exact LH.step ((round g a w hI).mono (fun e a' w' hq=>by
        cases e with
        | normal =>
          obtain ⟨g',hI',hlt⟩:=hq
          exact ih (μ g') (hn▸hlt) g' a' w' rfl hI'
        | _=>exact hq))
  exact key _ g a w rfl h₀
def dfr (f:FuncId) (vs:List Value):Deferred:={ target:=.fn (.func f) #[],args:=vs.toArray }
theorem O.defer {args:Array Operand} {at_:Array TypeId} (hf:Fr a n ds L) (ho:ops[i]? = some ⟨none,.defer ⟨.value (.func f),args,at_⟩,ty,pos,af,none⟩) (hv:evA L args.toList=some vs)
    (k:∀ a',Fr a' n (dfr f vs::ds) L→O none P ops Q rest a' w):O none P ops Q (i::rest) a w:=by
  unfold O wpOpsIn
  simp only [ho]
  rw [if_pos (by simp [Region.wanted])]
  refine ⟨fun _ _=>trivial,?_⟩
  have h1:(Oper.semAt (FW none).round a.eval ⟨none,.defer ⟨.value (.func f),args,at_⟩,ty,pos,af,none⟩).run P w=.ok (.defer (dfr f vs)) w:=by
    show (execOp a.eval ⟨none,.defer ⟨.value (.func f),args,at_⟩,ty,pos,af,none⟩).run P w=_
    have h2:args.map a.eval=vs.toArray:=by
      apply Array.ext'; rw [Array.toList_map,hf.evA hv]
    simp [execOp,resolve,Deferred.ofValue,Act.eval,h2,dfr]
  rw [h1]
  exact k _ ⟨hf.size,by show dfr f vs::a.defers=_; rw [hf.defers],hf.get⟩
theorem ret_of_WD {G:Type} {v:G→Value} {R:G→World→Prop} (hf:P.funcs[f]? = some fn) (hb:fn.body=some c) (hn:fn.ntmps=n) (hl:Nat.ble lv.length n=true)
    (h:∀ a,Fr a n [] (argsL 0 lv)→W none P c (bodyPostDIn (FW none) 0 P fn (fun e w'=>∃ g,e=.returned (v g)∧R g w')) a w):Ret P f lv.toArray w v R:=by
  refine (callsIn_FW (r:=none) (n:=0)).1 (callsIn_of_wp_defers hf hb trivial ?_ rfl)
  exact h _ (Fr.start rfl (by simpa using hl) (by rw [hn]))
theorem recoverNil {r0:Nat} (hf:P.funcs[f]? = some fn) (hb:fn.body=some (.seq (.region r0 #[⟨some d,.call ⟨.builtin .recover,#[],#[]⟩,ty,pos,af,none⟩] false) c)) (hn:fn.ntmps=n) (hl:Nat.ble lv.length n=true) (hd:Nat.blt d n=true)
    (h:∀ a,Fr a n [] ((d,.nilIface)::argsL 0 lv)→W none P c (bodyPost P fn (fun e w'=>e=.returned (.tuple #[])∧w'=w)) a w) :
    CallsDIn (FW none) 0 P f lv.toArray .returning w (fun e u' w'=>u'=.returning∧e=.returned (.tuple #[])∧w'=w):=by
  refine callsDIn_of_wpSIn hf hb trivial (fun c0 cs hm=>wpSIn_seq (wpSIn_region ?_))
  have hF:=Fr.start (l:=lv) (n:=n) (m:=n-lv.toArray.size) rfl (by simpa using hl) rfl
  show wpOpsSIn _ _ _ _ _ [0] _ _ _
  unfold wpOpsSIn
  simp only [List.getElem?_toArray,List.getElem?_cons_zero]
  refine ⟨fun _ _=>trivial,?_⟩
  rw [if_pos (by simp [Region.wanted])]
  have h1:∀ ρ,(execOp ρ ⟨some d,.call ⟨.builtin .recover,#[],#[]⟩,ty,pos,af,none⟩).run P w=.ok .recover w:=fun ρ=>by
    simp [execOp,resolve,invoke,builtin]
  rw [h1]
  have h2:recoverD (c0::cs)=none:=by simp [recoverD,hm]
  simp only [h2]
  unfold wpOpsSIn
  rw [hn]
  refine wpSIn_of_wpIn rfl ?_
  have h3:=h _ (hF.put hd .nilIface)
  refine wpIn_mono h3 (fun e a' w' hq=>?_)
  have hc0:({ c0 with mode:=.returning }:Frame)=c0:=by rw [← hm]
  cases e with
  | normal =>
    obtain ⟨g1,v,g2,g3⟩:=hq
    exact ⟨g1,.returning,by rw [hc0],v,g2,rfl,g3⟩
  | ret =>
    obtain ⟨g1,v,g2,g3⟩:=hq
    exact ⟨g1,.returning,by rw [hc0],v,g2,rfl,g3⟩
  | panic ch =>
    obtain ⟨g1,g2,g3⟩:=hq
    cases g2
  | exit id=>exact hq.elim
  | goto l=>exact hq.elim
  | outgrown=>exact ⟨.returning,by obtain ⟨g1,_⟩:=hq; cases g1⟩
theorem EqR.nilI {d:Nat} {ms} (ht:P.underlying t=some (.interface ms)):EqR P (d+1) t .nilIface .nilIface true:=fun w=>by
  simp [Op.equalIn,run_underlying ht]
def tIface (P:Program) (t:TypeId):Bool:=match P.underlying t with
  | some (.interface _)=>true
  | _=>false
theorem RunV.eqNilI {t':TypeId} (ht:tIface P t=true) (hx:ev L x=some .nilIface):RunV P n ds L (.binOp .eql t x (.const .nilIface) t') ty w (.bool true) w:=fun a d pos af g hf=>by
  simp only [execOp,hf.eval hx]
  have e0:a.eval (.const .nilIface)=.nilIface:=rfl
  rw [e0]
  have e1:(eqGuard .eql t x (.const .nilIface) .nilIface .nilIface).run P w=.ok () w:=by simp [eqGuard]
  have e2:(binOp .eql t .nilIface .nilIface).run P w=.ok (.bool true) w:=by
    unfold tIface at ht
    split at ht
    · rename_i ms hms
      have this:=(EqR.nilI (d:=9999) hms:EqR P 10000 t .nilIface .nilIface true) w
      simp only [binOp,Op.equal,Op.maxDepth,Sem.run_bind,this,Result.andThen_ok,Sem.run_pure]
    · cases ht
  simp only [Sem.run_bind,e1,e2,Result.andThen_ok,Sem.run_pure]
end
end Go.SL

namespace Go.SL
open Go
section
variable {w0 w w':World} {X X':Nat→Prop} {B M N:List Asr} {A1 A2:Asr} {i j:Nat}
end
end Go.SL

namespace Go.SL
open Go
section
variable {P:Program} {w w0:World} {n:Nat} {ds:List Deferred} {L:List (Nat × Value)} {ty t:TypeId} {x:Operand} {X:Nat→Prop} {B M:List Asr}
def World.setIter (w:World) (b:Nat) (s:ByteArray) (pos:Nat):World:={ w with heap:=w.heap.setIfInBounds b (.stringIter s pos) }
theorem St.setIter {i b pos pos':Nat} {s:ByteArray} (h:St w0 w X B M) (hi:M[i]? = some (pt b (.stringIter s pos))):St w0 (World.setIter w b s pos') X B (M.set i (pt b (.stringIter s pos'))):=by
  have hb:=h.ptAt hi
  have hlt:b<w.heap.size:=(Array.getElem?_eq_some_iff.1 hb).1
  refine h.write hi rfl rfl rfl (by simp [World.setIter]) (fun c hc hn=>?_) ?_ (fun c hc=>⟨.inl hc,?_⟩)
  · have hne:¬ b=c:=fun e=>hn (show c=b from e.symm)
    simp [World.setIter,Array.getElem?_setIfInBounds,hne]
  · show (World.setIter w b s pos').heap[b]? = _
    simp [World.setIter,Array.getElem?_setIfInBounds,hlt]
  · have:c=b:=hc
    subst this
    simpa [World.setIter] using hlt
end
end Go.SL

namespace Go.SL
open Go
def sget (ins:List Bool) (k:Int):Bool:=if k<0 then false else ins.getD k.toNat false
section
variable {r:Option Nat} {P:Program} {ops:Array Oper} {Q:Exit→Act→World→Prop} {a:Act} {w w0:World} {n:Nat} {ds:List Deferred} {L:List (Nat × Value)} {X:Nat→Prop} {B M M':List Asr}
  {d i j b:Nat} {ty t kt:TypeId} {pos:String} {af:Array Edge} {rest:List Nat} {x y z:Operand} {ins:List Bool} {k:Int}
end
end Go.SL

namespace Go.SL
open Go Go.Proofs Go.Shelf Go.RowKit Go.Sort Go.Lib
def srtF {T:Type} (lt:T→T→Bool) (l:List T):List T:=l.mergeSort fun x y=>!lt y x
theorem srtF_len {T:Type} (lt:T→T→Bool) (l:List T):(srtF lt l).length=l.length:=List.length_mergeSort _
section
variable {T:Type} [Inhabited T] {E:T→List Value} {k:Nat}
theorem encs_at (hk:∀ x,(E x).length=k) (l:List T) (j:Nat) (hj:j<l.length*k):(encs E l)[j]? = some ((E l.toArray[j/k]!)[j % k]!):=by
  have k0 : 0 < k := by rcases Nat.eq_zero_or_pos k with h | h; · subst h; omega
                        · exact h
  have h1:j/k<l.length:=(Nat.div_lt_iff_lt_mul k0).2 hj
  have h2:l[j/k]? = some l[j/k]:=List.getElem?_eq_getElem h1
  have h3:=encs_get (enc:=E) hk h2 (Nat.mod_lt j k0)
  rw [show j/k*k+j % k=j from by rw [Nat.mul_comm]; exact Nat.div_add_mod j k] at h3
  rw [h3]
  have h4:l.toArray[j/k]! = l[j/k]:=by simp [h1]
  rw [h4]
  have h5:j % k<(E l[j/k]).length:=by rw [hk]; exact Nat.mod_lt j k0
  rw [List.getElem?_eq_getElem h5,getElem!_pos (E l[j/k]) (j % k) h5]
theorem flat_at (hk:∀ x,(E x).length=k) (l:List T):(flatK E k l.toArray).toList=encs E l:=by
  apply List.ext_getElem?
  intro j
  have hs:(flatK E k l.toArray).size=l.length*k:=by simp
  by_cases hj:j<l.length*k
  · have h1:=get_flatK E k l.toArray j (by simpa using hj)
    rw [encs_at hk l j hj,← h1,Array.getElem?_toList,Array.getElem?_eq_getElem (by omega),getElem!_pos (flatK E k l.toArray) j (by omega)]
  · rw [List.getElem?_eq_none (by rw [Array.length_toList]; omega),List.getElem?_eq_none (by rw [encs_len hk]; omega)]
theorem holds_flat {w:World} {g:Nat} {cur:Array Value} {e:TypeId} {xs:Array Value} (hb:w.heap[g]? = some (.cells cur e (0,0))) (ht:cur.toList.take xs.size=xs.toList):Holds id w g 0 xs:=by
  intro j hj
  refine ⟨?_,by simp [World.frozen?,hb]⟩
  have h1:(cur.toList.take xs.size)[j]? = xs.toList[j]?:=by rw [ht]
  rw [List.getElem?_take_of_lt hj,Array.getElem?_toList,Array.getElem?_toList,Array.getElem?_eq_getElem hj] at h1
  simp only [World.cell?,hb,Nat.zero_add,Option.isSome_none,Bool.false_eq_true,if_false,id_eq]
  rw [h1,getElem!_pos xs j hj]
theorem take_put (cur F:Array Value) (h:F.size≤cur.size):(putCells id 0 F cur).toList.take F.size=F.toList:=by
  apply List.ext_getElem?
  intro j
  by_cases hj:j<F.size
  · rw [List.getElem?_take_of_lt hj,Array.getElem?_toList,Array.getElem?_toList]
    simp [putCells,hj,show j<cur.size by omega]
  · rw [List.getElem?_take_eq_none (by omega),List.getElem?_eq_none (by rw [Array.length_toList]; omega)]
theorem heap_put {w:World} {g n:Nat} {os:Array Obj} {cur:Array Value} {e:TypeId} {fr:Nat × Nat} (F:Array Value) (hb:w.heap[g]? = some (.cells cur e fr)) :
    (grow (putRow id (Sort.ahead w n) g 0 F) os).heap[g]? = some (.cells (putCells id 0 F cur) e fr):=by
  have hg:g<w.heap.size:=(Array.getElem?_eq_some_iff.1 hb).1
  rw [heap_grow_old _ _ (by simpa using hg)]
  simp [putRow,mapBlock,Sort.ahead,Array.getElem?_modify,hb,onCells]
theorem grown_put {w:World} {g n:Nat} {os:Array Obj} (F:Array Value):w.grownBy (grow (putRow id (Sort.ahead w n) g 0 F) os) (some g):=by
  refine ⟨rfl,rfl,rfl,by simp,fun k hk hne=>?_⟩
  rw [heap_grow_old _ _ (by simpa using hk)]
  have:g≠k:=fun e=>hne (by rw [e])
  simp [putRow,mapBlock,Sort.ahead,Array.getElem?_modify,this]
end
end Go.SL

namespace Go.SL
open Go Go.Sort
theorem ask_up {α:Type} (a:Ask α):∀ w:World,w.drawn≤(w.ask a).2.drawn:=by
  induction a with
  | done a=>intro w; exact Nat.le_refl _
  | ask what range k ih =>
    intro w
    simp only [World.ask]
    split
    · exact ih _ w
    · exact Nat.le_trans (Nat.le_succ w.drawn) (ih _ { w with drawn:=w.drawn+1 })
theorem sys_up (w:World) (c:Sys):w.drawn≤(w.sys c).2.drawn:=by
  have h:=ask_up (Kernel.perform c w.os) w
  unfold World.sys
  split
  · exact Nat.le_refl _
  · rename_i heq
    rw [heq] at h
    exact h
theorem ebind_ok {ε α β:Type} {x:Except ε α} {f:α→Except ε β} {y:β} (h:(x >>= f)=.ok y):∃ a,x=.ok a∧f a=.ok y:=by
  cases x with
  | error e=>cases h
  | ok a=>exact ⟨a,rfl,h⟩
theorem viewStore_up {p:Program} {w w':World} {at_:Addr} {u:TypeId} {a:Addr} {v:Value} {at':Bool} {l:List Addr} (h:w.viewStore p at_ u a v at'=.ok (w',l)):w.drawn≤w'.drawn:=by
  unfold World.viewStore at h
  split at h
  all_goals
    dsimp only at h
    split at h
    · obtain ⟨_,h1,_⟩:=ebind_ok h
      cases h1
    obtain ⟨x,_,h⟩:=ebind_ok h
  · split at h
    · obtain ⟨_,h1,_⟩:=ebind_ok h
      cases h1
    obtain ⟨c,_,h⟩:=ebind_ok h
    simp only [pure,Except.pure,Except.ok.injEq,Prod.mk.injEq] at h
    rw [← h.1]
    exact Nat.le_refl _
  · cases h
theorem farStore_up {p:Program} {w w':World} {a:Addr} {v:Value} {at':Bool} {l:List Addr} (h:w.farStore p a v at'=.ok (w',l)):w.drawn≤w'.drawn:=by
  unfold World.farStore at h
  split at h
  · split at h
    · rename_i heq
      cases h
      exact viewStore_up heq
    · cases h
  · cases h
def Rup {α:Type} (n:Nat):Result α→Prop
  | .ok _ w=>n≤w.drawn
  | .halt _ w=>n≤w.drawn
theorem freeze_drawn (w:World) (a:Addr) (n:Nat):(w.freeze a n).drawn=w.drawn:=by unfold World.freeze; split <;> rfl
theorem Rup.le {α:Type} {n n':Nat} {r:Result α} (h:Rup n' r) (hn:n≤n'):Rup n r:=by cases r <;> exact Nat.le_trans hn h
theorem run_up {α:Type} (p:Program) (s:Sem α):∀ w:World,Rup w.drawn (s.run p w):=by
  induction s with
  | pure a=>intro w; exact Nat.le_refl _
  | load m a k ih =>
    intro w
    simp only [Sem.run]
    repeat' split
    all_goals first
      | exact ih _ w
      | exact Nat.le_refl _
  | store m a v k ih =>
    intro w
    cases v
    case agg=>exact Nat.le_refl _
    case tuple=>exact Nat.le_refl _
    all_goals
      simp only [Sem.run]
      repeat' split
      all_goals first
        | exact Nat.le_refl _
        | exact ih (w.setCell _ _)
        | (rename_i heq; exact (ih _).le (farStore_up heq))
  | new o k ih=>intro w; exact ih _ _
  | shape r k ih=>intro w; exact ih _ w
  | freeze a n k ih=>intro w; exact (ih (w.freeze a n)).le (by rw [freeze_drawn]; exact Nat.le_refl _)
  | frozen a k ih=>intro w; exact ih _ w
  | getObj r k ih =>
    intro w
    simp only [Sem.run]
    repeat' split
    all_goals first
      | exact ih _ w
      | exact Nat.le_refl _
  | setObj r o k ih =>
    intro w
    simp only [Sem.run]
    repeat' split
    all_goals first
      | exact Nat.le_refl _
      | exact ih _
  | choose q k ih =>
    intro w
    simp only [Sem.run]
    split
    · exact ih _ w
    · exact (ih _ _).le (Nat.le_succ _)
  | sys c k ih=>intro w; exact (ih _ _).le (sys_up w c)
  | program k ih=>intro w; exact ih _ w
  | mark m k ih=>intro w; exact ih w
  | halt h=>intro w; exact Nat.le_refl _
theorem run_ok_up {α:Type} {p:Program} {s:Sem α} {w w':World} {a:α} (h:s.run p w=.ok a w'):w.drawn≤w'.drawn:=by
  have:=run_up p s w
  rw [h] at this
  exact this
theorem run_halt_up {α:Type} {p:Program} {s:Sem α} {w w':World} {a:Halt} (h:s.run p w=.halt a w'):w.drawn≤w'.drawn:=by
  have:=run_up p s w
  rw [h] at this
  exact this
def Gup (n:Nat):GStep→Prop
  | .go _ w _=>n≤w.drawn
  | .comm _ _ _ _ w _=>n≤w.drawn
  | .spawn _ _ w _=>n≤w.drawn
  | .count _ w _=>n≤w.drawn
  | .timer _ _ w _=>n≤w.drawn
  | .alone _ _ w _=>n≤w.drawn
  | .newcoro _ _ _ w _=>n≤w.drawn
  | .coroswitch _ _ _ w _=>n≤w.drawn
  | .collect _ w _=>n≤w.drawn
  | .watch _ w _=>n≤w.drawn
  | .ended _ _ _=>True
theorem Gup.after {n:Nat} {es:Array Event} {g:GStep} (h:Gup n g):Gup n (GStep.after es g):=by cases g <;> exact h
theorem Gup.le {n n':Nat} {g:GStep} (h:Gup n' g) (hn:n≤n'):Gup n g:=by cases g <;> first | trivial | exact Nat.le_trans hn h
def Sup (n:Nat):Stepped→Prop
  | .next m=>n≤m.world.drawn
  | .ended _ _=>True
theorem Gup.ite {n:Nat} {c:Prop} [Decidable c] {a b:GStep} (ha:Gup n a) (hb:Gup n b):Gup n (if c then a else b):=by split <;> assumption
theorem Gup.elim {α:Type} {n:Nat} {o:Option α} {a:GStep} {f:α→GStep} (ha:Gup n a) (hf:∀ x,Gup n (f x)):Gup n (o.elim a f):=by cases o <;> first | exact ha | exact hf _
theorem Sup.le {n n':Nat} {g:Stepped} (h:Sup n' g) (hn:n≤n'):Sup n g:=by cases g <;> first | trivial | exact Nat.le_trans hn h
theorem dieOf_up (fr:Frame) (ahead:List ByteArray) (m:String) (whole:Bool) (w:World):Gup w.drawn (dieOf fr ahead m whole w):=Nat.le_refl _
theorem endWith_up (n:Nat) (w:World) (fd:Nat) (text:ByteArray) (o:Outcome):Gup n (endWith w fd text o):=by
  unfold endWith
  simp only
  repeat' split
  all_goals trivial
theorem endPrinting_up (p:Program) (fr:Frame) (v:Value) (w:World):Gup w.drawn (endPrinting p fr v w):=by
  unfold endPrinting
  simp only
  repeat' split
  all_goals first
    | trivial
    | exact Nat.le_refl _
theorem endFatal_up (p:Program) (fr:Frame) (cs:List Frame) (dy:Option Dying) (m:String) (w:World):Gup w.drawn (endFatal p fr cs dy m w):=by
  unfold endFatal
  simp only
  split
  · rename_i heq
    exact (dieOf_up _ _ _ _ _).le (run_ok_up heq)
  · trivial
  · trivial
theorem writeOn_up (p:Program) (fr:Frame) (d:Dying) (f:Fatal) (w:World):Gup w.drawn (writeOn p fr d f w):=by
  unfold writeOn
  simp only [Sem.runT_eq]
  split
  · trivial
  · split
    all_goals first
      | trivial
      | (rename_i heq; injection heq with h1 h2; first | exact run_ok_up h1 | exact run_halt_up h1)
theorem die_up (p:Program) (fr:Frame) (d:Dying) (w:World):Gup w.drawn (die p fr d w):=by
  unfold die
  split
  · exact writeOn_up ..
  · split
    · split
      · exact Nat.le_refl _
      · exact endWith_up ..
    · simp only
      split
      · exact Nat.le_refl _
      · split
        · rename_i heq; exact run_ok_up heq
        · trivial
      · simp only [Sem.runT_eq]
        refine Gup.after ?_
        split
        all_goals first
          | trivial
          | (rename_i heq; exact run_ok_up heq)
          | (rename_i heq; exact (endPrinting_up ..).le (run_halt_up heq))
      · trivial
theorem early_up (p:Program) (fr:Frame) (cs:List Frame) (dy:Option Dying) (g:Nat) (w:World):Gup w.drawn (early p fr cs dy g w):=by
  unfold early
  simp only
  repeat' split
  all_goals first
    | trivial
    | exact Nat.le_refl _
    | (dsimp only [Gup]; apply run_ok_up; assumption)
theorem doReturn_up (p:Program) (main:Bool) (fr:Frame) (cs:List Frame) (dy:Option Dying) (v:Value) (w:World):Gup w.drawn (doReturn p main fr cs dy v w):=by
  unfold doReturn
  simp only
  repeat' split
  all_goals first
    | trivial
    | exact Nat.le_refl _
theorem callDeferred_up (p:Program) (fr:Frame) (cs:List Frame) (dy:Option Dying) (d:Deferred) (w:World):Gup w.drawn (callDeferred p fr cs dy d w):=by
  unfold callDeferred
  refine Gup.ite trivial ?_
  simp only [Sem.runT_eq]
  refine Gup.after ?_
  have h:=run_up p (invoke d.target d.args) w
  generalize Sem.run p (invoke d.target d.args) w=r at h
  cases r with
  | ok n w' =>
    cases n with
    | recover=>simp only; split <;> exact h
    | alone b v=>cases b <;> first | exact h | trivial
    | coroswitch c b=>cases b <;> first | exact h | trivial
    | _=>first | exact h | trivial
  | halt n w' =>
    cases n with
    | fatal m=>exact (endFatal_up ..).le h
    | throw m=>exact (dieOf_up ..).le h
    | _=>first | exact h | trivial
theorem unwind_up (p:Program) (main:Bool) (fr:Frame) (cs:List Frame) (dy:Option Dying) (w:World):Gup w.drawn (unwind p main fr cs dy w):=by
  unfold unwind
  split
  · simp only [Sem.runT_eq]
    refine Gup.after ?_
    split
    · rename_i heq; exact run_ok_up heq
    · trivial
  · exact callDeferred_up ..
  · split
    · trivial
    · split
      · trivial
      · split
        · exact Nat.le_refl _
        · split
          · split
            · exact Nat.le_refl _
            · split
              · rename_i heq; exact run_ok_up heq
              · trivial
              · trivial
          · split
            · exact endPrinting_up ..
            · trivial
    · split
      · exact doReturn_up ..
      · simp only [Sem.runT_eq]
        refine Gup.after ?_
        split
        · rename_i heq; exact (doReturn_up ..).le (run_ok_up heq)
        · trivial
        · trivial
theorem apply_up (p:Program) (l:Bool) (fr:Frame) (cs:List Frame) (dy:Option Dying) (s:Sem Next) (w:World):Gup w.drawn (stepG.apply p l fr cs dy s w):=by
  have hr:(if l=true then s.runT p w #[] else (s.run p w,#[])).1=s.run p w:=by cases l <;> simp
  unfold stepG.apply
  dsimp only
  generalize (if l=true then s.runT p w #[] else (s.run p w,#[]))=r at hr
  obtain ⟨r,es⟩:=r
  simp only at hr
  subst hr
  dsimp only
  refine Gup.after ?_
  have h:=run_up p s w
  generalize Sem.run p s w=r at h
  cases r with
  | ok n w' =>
    cases n with
    | recover=>simp only; split <;> exact h
    | callThen=>simp only; split <;> exact h
    | row=>simp only; split <;> exact h
    | stack=>simp only; split <;> exact h
    | spawn=>exact Gup.ite ((dieOf_up ..).le h) h
    | _=>first | exact h | trivial
  | halt n w' =>
    cases n with
    | fatal m=>exact (endFatal_up ..).le h
    | throw m=>exact (dieOf_up ..).le h
    | unsupported u=>cases u <;> first | trivial | exact (early_up ..).le h
    | _=>first | exact h | trivial
theorem oper_up (p:Program) (l:Bool) (fr:Frame) (cs:List Frame) (dy:Option Dying) (w:World):Gup w.drawn (stepG.oper p l fr cs dy w):=by
  unfold stepG.oper
  split
  · trivial
  · split
    · exact apply_up ..
    · exact apply_up ..
theorem exec_up (p:Program) (main l:Bool) (fr:Frame) (cs:List Frame) (dy:Option Dying) (w:World):Gup w.drawn (stepG.exec p main l fr cs dy w):=by
  unfold stepG.exec
  dsimp only
  split
  all_goals first
    | trivial
    | exact Nat.le_refl _
    | exact apply_up ..
    | skip
  all_goals (try refine Gup.elim ?_ (fun x=>?_))
  all_goals try simp only [Sem.runT_eq]
  all_goals first
    | exact Nat.le_refl _
    | skip
  all_goals (repeat' (first | exact apply_up .. | (refine (apply_up ..).le ?_; apply run_ok_up; assumption) | exact oper_up .. | (refine (doReturn_up ..).le ?_; apply run_ok_up; assumption) | refine Gup.after ?_ | split))
  all_goals first
    | trivial
    | exact Nat.le_refl _
    | exact apply_up ..
    | exact oper_up ..
    | (refine (doReturn_up ..).le ?_; apply run_ok_up; assumption)
    | (refine (apply_up ..).le ?_; apply run_ok_up; assumption)
    | (dsimp only [Gup]; apply run_ok_up; assumption)
    | (dsimp only [Gup]; apply run_halt_up; assumption)
theorem stepG_up (p:Program) (main:Bool) (g:Goroutine) (w:World) (l:Bool):Gup w.drawn (stepG p main g w l):=by
  obtain ⟨fr,cs,st,dy,off⟩:=g
  unfold stepG
  dsimp only
  split
  · exact die_up ..
  · exact exec_up ..
  · exact unwind_up ..
theorem look_up (p:Program) (gs:Array Goroutine) (rest:Rest) (w:World):Sup w.drawn (look p gs rest w):=by
  unfold look
  split
  · dsimp only
    split
    · trivial
    · split
      · trivial
      · split
        · dsimp only [Sup]; apply run_ok_up; assumption
        · trivial
        · trivial
  · trivial
theorem communicate_up (p:Program) (rest:Rest) (gs:Array Goroutine) (i:Nat) (g:Goroutine) (cases:Array CommCase) (bl:Bool) (sh:CommShape) (w:World):Sup w.drawn (communicate p rest gs i g cases bl sh w).1:=by
  unfold communicate
  dsimp only
  split
  · trivial
  split
  · split
    · split
      · rename_i heq
        dsimp only [Sup]
        unfold waitingAt at heq
        split at heq
        · split at heq
          · cases heq; exact Nat.le_refl _
          · cases heq
        · cases heq; exact Nat.le_refl _
      · trivial
    · exact Nat.le_refl _
  · split
    · trivial
    · rename_i heq
      have h:=run_ok_up heq
      repeat' split
      all_goals first
        | trivial
        | exact h
        | (refine Nat.le_trans h ?_; dsimp only; apply run_ok_up; assumption)
        | (refine Nat.le_trans h ?_; dsimp only; apply run_halt_up; assumption)
theorem drain_up (w:World) (c:Nat):(drain w c).2.drawn=w.drawn:=by
  unfold drain
  split <;> rfl
theorem retime_up (m:Machine) (k:Nat) (t:Timer) (a b:Nat):(retime m k t a b).2.world.drawn=m.world.drawn:=by
  unfold retime
  dsimp only
  split
  · exact drain_up ..
  · rfl
theorem named_up {m m':Machine} {var:Addr} {f:Nat→Timer→Value × Machine} {v:Value} (hf:∀ k t,(f k t).2.world.drawn=m.world.drawn) (h:timerOp.named m var f=.ok (v,m')):m'.world.drawn=m.world.drawn:=by
  unfold timerOp.named at h
  split at h
  · rename_i k _
    have:=hf k (m.rest.timers.getD k default)
    cases hx:f k (m.rest.timers.getD k default)
    rw [hx] at h this
    cases h
    exact this
  · cases h
theorem timerOp_up {m m':Machine} {op:TimerOp} {v:Value} (h:timerOp m op=.ok (v,m')):m'.world.drawn=m.world.drawn:=by
  unfold timerOp at h
  split at h
  · split at h
    · cases h; rfl
    · split at h
      · split at h
        · cases h
        · cases h; rfl
      · cases h
  · exact named_up (fun k t=>retime_up ..) h
  · split at h
    · rename_i m2 heq
      have h2:m2.world.drawn=m.world.drawn:=by
        unfold timerOp.opened at heq
        split at heq
        · split at heq
          · cases heq; rfl
          · cases heq
        · cases heq; rfl
      exact named_up (fun k t=>(retime_up ..).trans h2) h
    · cases h
  · cases h; rfl
theorem serve_up (p:Program) (m:Machine) (k:Nat):Sup m.world.drawn (serve p m k):=by
  unfold serve
  split
  · trivial
  · exact Nat.le_refl _
  · dsimp only
    split
    · trivial
    · exact Nat.le_refl _
theorem goM_up (p:Program) (m:Machine) (i:Nat) (l:Bool):Sup m.world.drawn (Go.runT p m i l).1:=by
  unfold Go.runT
  dsimp only
  have h:=stepG_up p (i == 0) (m.gs.swapAt! i { (default:Goroutine) with status:=.finished }).1 m.world l
  split
  all_goals (rename_i heq; rw [heq] at h; try dsimp only [Gup] at h)
  · trivial
  · have h2:=communicate_up p m.rest (m.gs.swapAt! i { (default:Goroutine) with status:=.finished }).2 i ‹_› ‹_› ‹_› ‹_› ‹_›
    generalize communicate p m.rest _ i _ _ _ _ _=c at h2 ⊢
    obtain ⟨r,more⟩:=c
    dsimp only at h2 ⊢
    cases r with
    | next m'=>exact Nat.le_trans h h2
    | ended=>trivial
  · exact h
  · exact h
  · split
    · trivial
    · exact h
  · exact h
  · exact (look_up ..).le h
  · exact h
  · exact h
  · dsimp only
    split
    · exact h
    · exact h
    · trivial
  · dsimp only
    split
    · rename_i heq2
      exact Nat.le_trans h (Nat.le_of_eq (timerOp_up heq2).symm)
    · exact h
    · trivial
    · trivial
def Mup (n:Nat):Move→Prop
  | .goroutine m _=>n≤m.world.drawn
  | .machine s _=>Sup n s
theorem Mup.le {n n':Nat} {g:Move} (h:Mup n' g) (hn:n≤n'):Mup n g:=by
  cases g with
  | goroutine=>exact Nat.le_trans hn h
  | machine s _=>exact Sup.le (n':=n') h hn
theorem pick_up (p:Program) (rs:List Nat) (m:Machine):Mup m.world.drawn (match (choose (.sched rs.length)).run p m.world with
      | .halt _ w=>.machine (.ended (.stuck "sched" "") w)
      | .ok k world =>
        if rs.length≤1 then .goroutine { m with world } (rs.getD k 0) else
        match (choose (.extern "sched.slice" 65536)).run p world with
        | .halt _ w=>.machine (.ended (.stuck "sched.slice" "") w)
        | .ok n world=>.goroutine { m with world,rest:={ m.rest with slice:=if n=0 then none else some (rs.getD k 0,n) } } (rs.getD k 0)):=by
  split
  · trivial
  · rename_i heq
    have h:=run_ok_up heq
    split
    · exact h
    · split
      · trivial
      · rename_i heq2; exact Nat.le_trans h (run_ok_up heq2)
theorem askOn_up (p:Program) (m:Machine):Mup m.world.drawn (askOn p m):=by
  unfold askOn
  dsimp only
  split
  · trivial
  · rename_i k world heq
    have h:m.world.drawn≤world.drawn:=run_ok_up heq
    split
    · exact Sup.le (n':=world.drawn) (serve_up ..) h
    · split
      · split
        · exact h
        · split
          · exact h
          · have h2:=endWith_up 0 world 2 (bytes ("fatal error: "++if (m.gs.any fun g=>g.status == .blocked||g.status == .parked)=true then "all goroutines are asleep - deadlock!" else "no goroutines (main called runtime.Goexit) - deadlock!")++bytes "\n") (.fatal "")
            split <;> trivial
      · split
        · exact (pick_up p _ { m with world }).le h
        · split
          · trivial
          · rename_i heq2
            exact (pick_up p _ { m with world:=_ }).le (Nat.le_trans h (run_ok_up heq2))
          · rename_i heq2
            have h3:=run_ok_up heq2
            exact Nat.le_trans h h3
          · rename_i heq2
            have h3:=run_ok_up heq2
            exact (pick_up p _ (Machine.advanceTo { m with world:=_ } _)).le (Nat.le_trans h h3)
theorem askM_up (p:Program) (m:Machine):Mup m.world.drawn (Go.ask p m):=by
  unfold Go.ask
  split
  · split
    · trivial
    · rename_i world heq
      have h:m.world.drawn≤world.drawn:=run_ok_up heq
      have h2:=look_up p m.gs m.rest world
      split
      · rename_i m' heq2
        rw [heq2] at h2
        exact (askOn_up p m').le (Nat.le_trans h h2)
      · exact Sup.le (n':=world.drawn) h2 h
    · rename_i world heq _
      exact (askOn_up p { m with world:=_ }).le (run_ok_up (by assumption))
  · exact askOn_up ..
theorem move_up (p:Program) (m:Machine):Mup m.world.drawn (move p m):=by
  unfold move
  split
  · split
    · exact Nat.le_refl _
    · trivial
  · split
    · split
      · exact Nat.le_refl _
      · exact askM_up p { m with rest:=_ }
    · exact askM_up ..
theorem step_up {p:Program} {m m':Machine} (h:step p m=.next m'):m.world.drawn≤m'.world.drawn:=by
  have h1:=move_up p m
  unfold step stepT at h
  split at h
  · rename_i m1 i1 heq
    rw [heq] at h1
    have h2:=goM_up p m1 i1 true
    rw [h] at h2
    exact Nat.le_trans h1 h2
  · rename_i heq
    rw [heq] at h1
    dsimp only at h
    subst h
    exact h1
theorem runN_up {p:Program}:∀ (n:Nat) {m m':Machine},runN p n m=.next m'→m.world.drawn≤m'.world.drawn
  | 0,m,m',h=>by
    simp only [runN,Stepped.next.injEq] at h
    rw [h]; exact Nat.le_refl _
  | n+1,m,m',h=>by
    unfold runN at h
    split at h
    · rename_i heq
      exact Nat.le_trans (step_up heq) (runN_up n h)
    · rename_i hn
      exact absurd h (hn _)
theorem comes_up {P:Program} {fr fr':Frame} {cs cs':List Frame} {w w':World} {e:Ending} (h:Comes P (lone fr cs w) (lone fr' cs' w') e):e=.outgrown∨w.drawn≤w'.drawn:=by
  cases e with
  | outgrown=>exact .inl rfl
  | returned v=>obtain ⟨n,hn⟩:=h; exact .inr (runN_up n hn)
  | panicked c=>obtain ⟨n,hn⟩:=h; exact .inr (runN_up n hn)
theorem calls_up {P:Program} {f:FuncId} {args:Array Value} {w:World} {R:Ending→World→Prop} (h:Calls P f args w R) :
    Calls P f args w fun e w'=>R e w'∧(e=.outgrown∨w.drawn≤w'.drawn):=fun cs=>by
  obtain ⟨e,w',fr,h1,h2,h3⟩:=h cs
  exact ⟨e,w',fr,⟨h1,comes_up h2⟩,h2,h3⟩
theorem St.grown {w w':World} {M:List Asr} (h:St w w' noX [] M) (hd:w.drawn≤w'.drawn):∃ q os',w'=grow (w.drewN q) os':=by
  refine ⟨w'.drawn-w.drawn,w'.heap.extract w.heap.size w'.heap.size,?_⟩
  have hh:w'.heap=w.heap++w'.heap.extract w.heap.size w'.heap.size:=by
    apply Array.ext_getElem?
    intro i
    by_cases hi:i<w.heap.size
    · rw [Array.getElem?_append_left hi]
      exact h.old i hi (fun h=>h)
    · have hs:=h.size
      rw [Array.getElem?_append_right (by omega),Array.getElem?_extract]
      by_cases h2:i<w'.heap.size
      · rw [if_pos (by omega)]
        congr 1
        omega
      · rw [if_neg (by omega),Array.getElem?_eq_none (by omega)]
  obtain ⟨hp',tp,dr,os,out⟩:=w'
  have h1:=h.os; have h2:=h.tape; have h3:=h.output
  simp only at h1 h2 h3 hh hd
  subst h1 h2 h3
  unfold grow World.drewN
  simp only [World.mk.injEq,and_true,true_and]
  exact ⟨hh,by omega⟩
theorem ret_grown {P:Program} {f:FuncId} {args:Array Value} {w:World} {G:Type} {rv:G→Value} {Q:G→World→Prop} (h:Ret P f args w rv Q) (hQ:∀ g w',Q g w'→∃ M,St w w' noX [] M) :
    Calls P f args w fun e w'=>∃ g,e=.returned (rv g)∧Q g w'∧∃ q os',w'=grow (w.drewN q) os' :=
  Calls.mono (calls_up h) fun e w' h=>by
    obtain ⟨⟨g,he,hq⟩,hu⟩:=h
    obtain ⟨M,hM⟩:=hQ g w' hq
    refine ⟨g,he,hq,hM.grown (hu.resolve_left (fun h=>?_))⟩
    rw [h] at he
    cases he
end Go.SL

namespace Go.SL
open Go
structure KeyOK (P:Program) (kt:TypeId) {K:Type} [DecidableEq K] (kE:K→Value) (G:World→K→Prop):Prop where
  chk:∀ (k:K) (b:Bool) (w:World),(Instr.checkKey b 10000 kt (kE k)).run P w=.ok () w
  und:∃ d,P.underlying kt=some d∧∀ k k':K,Instr.sameNow d (kE k) (kE k')=none
  eqk:∀ (k k':K) (w:World),G w k→G w k'→(Op.equal kt (kE k) (kE k')).run P w=.ok (decide (k=k')) w
  bits:∀ k:K,Instr.sameBits 10000 (kE k) (kE k)=true
section
variable {K:Type} [DecidableEq K]
def getP (k:K):List (K × Value)→Option Value
  | []=>none
  | p::t=>if k=p.1 then some p.2 else getP k t
def posP (k:K):List (K × Value)→Nat→Option (Nat × Value)
  | [],_=>none
  | p::t,i=>if k=p.1 then some (i,p.2) else posP k t (i+1)
def setP (k:K) (v:Value):List (K × Value)→List (K × Value)
  | []=>[(k,v)]
  | p::t=>if k=p.1 then (k,v)::t else p::setP k v t
theorem posP_get (k:K):∀ (l:List (K × Value)) (i:Nat),(posP k l i).map (·.2)=getP k l
  | [],_=>rfl
  | p::t,i=>by
    simp only [posP,getP]
    split
    · rfl
    · exact posP_get k t (i+1)
theorem getP_setP (k k':K) (v:Value):∀ l:List (K × Value),getP k' (setP k v l)=if k'=k then some v else getP k' l
  | []=>by simp only [setP,getP]
  | p::t=>by
    simp only [setP]
    split
    · rename_i h
      simp only [getP]
      split
      · rfl
      · rename_i h2; rw [if_neg (fun e=>h2 (e.trans h.symm))]
    · rename_i h
      simp only [getP]
      rw [getP_setP k k' v t]
      by_cases h1:k'=p.1
      · rw [if_pos h1,if_neg (fun e=>h (e.symm.trans h1)),if_pos h1]
      · rw [if_neg h1,if_neg h1]
theorem keys_setP (k:K) (v:Value):∀ l:List (K × Value),(setP k v l).map (·.1)=if k ∈ l.map (·.1) then l.map (·.1) else l.map (·.1)++[k]
  | []=>by simp [setP]
  | p::t=>by
    simp only [setP]
    split
    · rename_i h; subst h; simp
    · rename_i h
      simp only [List.map_cons,keys_setP k v t,List.mem_cons,h,false_or]
      split <;> rfl
theorem nodup_setP {k:K} {v:Value} {l:List (K × Value)} (h:(l.map (·.1)).Nodup):((setP k v l).map (·.1)).Nodup:=by
  rw [keys_setP]
  split
  · exact h
  · rename_i hk
    rw [List.nodup_append]
    exact ⟨h,by simp,fun a ha b hb e=>by simp only [List.mem_singleton] at hb; subst hb; subst e; exact hk ha⟩
theorem getP_mem {k:K} {v:Value}:∀ {l:List (K × Value)},getP k l=some v→(k,v) ∈ l
  | [],h=>by cases h
  | p::t,h=>by
    simp only [getP] at h
    split at h
    · rename_i hk; simp only [Option.some.injEq] at h; subst hk h; exact List.mem_cons_self
    · exact List.mem_cons_of_mem _ (getP_mem h)
theorem mem_getP {k:K} {v:Value}:∀ {l:List (K × Value)},(l.map (·.1)).Nodup→(k,v) ∈ l→getP k l=some v
  | p::t,hn,h=>by
    simp only [List.map_cons,List.nodup_cons] at hn
    simp only [getP]
    rcases List.mem_cons.1 h with h1 | h1
    · subst h1; rw [if_pos rfl]
    · rw [if_neg (fun e=>hn.1 (List.mem_map.2 ⟨_,h1,e⟩))]
      exact mem_getP hn.2 h1
def mpOK (kE:K→Value) (h:Hp) (b:Nat) (kvs:List (K × Value)):Prop :=
  ∃ es clock,h b=some (.map es clock)∧es.toList.map (fun e=>(e.key,e.val))=kvs.map (fun p=>(kE p.1,p.2))∧(∀ e ∈ es.toList,e.born<clock)∧(es.toList.map (·.born)).Nodup
def mp (kE:K→Value) (b:Nat) (kvs:List (K × Value)):Asr:=⟨fun k=>k=b,fun h=>mpOK kE h b kvs,fun h h' hk ⟨es,c,h1,h2⟩=>⟨es,c,by rw [hk b rfl]; exact h1,h2⟩⟩
variable {P:Program} {w w0:World} {t kt:TypeId} {kE:K→Value} {kvs:List (K × Value)} {b:Nat} {k:K} {z:Value} {G:World→K→Prop}
theorem run_findP (hk:KeyOK P kt kE G) (hgk:G w k) (hg:∀ p ∈ kvs,G w p.1) {es:List MapEntry} (h:es.map (fun e=>(e.key,e.val))=kvs.map (fun p=>(kE p.1,p.2))):(Instr.findKey kt (kE k) es).run P w=.ok (posP k kvs 0) w:=by
  obtain ⟨d,hd,hn⟩:=hk.und
  have key:∀ (es:List MapEntry) (kvs:List (K × Value)) (i:Nat),(∀ p ∈ kvs,G w p.1)→es.map (fun e=>(e.key,e.val))=kvs.map (fun p=>(kE p.1,p.2))→(Instr.findAsking kt (kE k) es i).run P w=.ok (posP k kvs i) w:=by
    intro es
    induction es with
    | nil =>
      intro kvs i hg h
      cases kvs with
      | nil=>rfl
      | cons=>simp at h
    | cons e es ih =>
      intro kvs i hg h
      cases kvs with
      | nil=>simp at h
      | cons p t =>
        simp only [List.map_cons,List.cons.injEq,Prod.mk.injEq] at h
        simp only [Instr.findAsking,Sem.run_bind,h.1.1,hk.eqk k p.1 w hgk (hg p List.mem_cons_self),Result.andThen,posP]
        by_cases hx:k=p.1
        · simp [hx,h.1.2]
        · simp only [hx,decide_false,Bool.false_eq_true,if_false]
          exact ih t (i+1) (fun p hp=>hg p (List.mem_cons_of_mem _ hp)) h.2
  unfold Instr.findKey
  simp only [Sem.run_bind,run_underlying hd,Result.andThen]
  cases es with
  | nil =>
    cases kvs with
    | nil=>rfl
    | cons=>simp at h
  | cons e es =>
    cases kvs with
    | nil=>simp at h
    | cons p t =>
      have h1:=h
      simp only [List.map_cons,List.cons.injEq,Prod.mk.injEq] at h1
      have:Instr.findNow d (kE k) (e::es) 0=none:=by simp [Instr.findNow,h1.1.1,hn]
      rw [this]
      exact key (e::es) (p::t) 0 hg h
def tMapOf (P:Program) (t:TypeId):Option (TypeId × Value) :=
  match P.underlying t with
  | some (.map k e)=>match tZero P e with
    | some z=>some (k,z)
    | none=>none
  | _=>none
theorem tMapOf_spec (h:tMapOf P t=some (kt,z)):∃ e,P.underlying t=some (.map kt e)∧tZero P e=some z:=by
  unfold tMapOf at h
  split at h
  · rename_i k e hu
    split at h
    · rename_i z' hz
      simp only [Option.some.injEq,Prod.mk.injEq] at h
      obtain ⟨rfl,rfl⟩:=h
      exact ⟨e,hu,hz⟩
    · cases h
  · cases h
theorem run_lookP (ht:tMapOf P t=some (kt,z)) (hk:KeyOK P kt kE G) (hgk:G w k) (hg:∀ p ∈ kvs,G w p.1) (h:mpOK kE (hp w) b kvs):(Instr.lookup t (.map (some b)) (kE k) false).run P w=.ok ((getP k kvs).getD z) w:=by
  obtain ⟨e,h1,h3⟩:=tMapOf_spec ht
  obtain ⟨es,c,hb,hm,_⟩:=h
  have hb':w.heap[b]? = some (.map es c):=hb
  unfold Instr.lookup
  simp only [Sem.run_bind,run_underlying h1,Result.andThen,MapKept.run_getObj_map hb',Sem.run_pure,hk.chk,run_findP hk hgk hg hm]
  rw [← posP_get k kvs 0]
  cases posP k kvs 0 with
  | none =>
    simp only [Option.map_none,Sem.run_bind,run_zero h3,Result.andThen,Sem.run_pure]
    rfl
  | some j =>
    simp only [Option.map_some,Sem.run_bind,Sem.run_pure,Result.andThen]
    rfl
theorem posP_none {k:K} {v:Value}:∀ {l:List (K × Value)} {i:Nat},posP k l i=none→k ∉ l.map (·.1)∧setP k v l=l++[(k,v)]
  | [],_,_=>by simp [setP]
  | p::t,i,h=>by
    simp only [posP] at h
    split at h
    · cases h
    · rename_i hk
      obtain ⟨h1,h2⟩:=posP_none (v:=v) h
      exact ⟨by simp only [List.map_cons,List.mem_cons,not_or]; exact ⟨hk,h1⟩,by simp only [setP,if_neg hk,h2,List.cons_append]⟩
theorem posP_some {k:K} {v:Value} {j:Nat × Value}:∀ {l:List (K × Value)} {i:Nat},posP k l i=some j→∃ m,j.1=i+m∧m<l.length∧(l[m]?).map (·.1)=some k∧setP k v l=l.set m (k,v)
  | [],_,h=>by cases h
  | p::t,i,h=>by
    simp only [posP] at h
    split at h
    · rename_i hk
      simp only [Option.some.injEq] at h
      subst h hk
      exact ⟨0,rfl,by simp,by simp,by simp [setP]⟩
    · rename_i hk
      obtain ⟨m,h1,h2,h3,h4⟩:=posP_some (v:=v) h
      exact ⟨m+1,by omega,by simp; omega,by simpa using h3,by simp only [setP,if_neg hk,h4,List.set_cons_succ]⟩
theorem run_putP (ht:tMapOf P t=some (kt,z)) (hk:KeyOK P kt kE G) (hgk:G w k) (hg:∀ p ∈ kvs,G w p.1) (h:mpOK kE (hp w) b kvs) (v:Value) :
    ∃ es c,(Instr.mapUpdate t (.map (some b)) (kE k) v).run P w=.ok () (putMap w b es c)∧mpOK kE (hp (putMap w b es c)) b (setP k v kvs):=by
  obtain ⟨e,h1,h3⟩:=tMapOf_spec ht
  obtain ⟨es,c,hb,hm,hbo,hnd⟩:=h
  have hb':w.heap[b]? = some (.map es c):=hb
  have hat:∀ es' c',hp (putMap w b es' c') b=some (.map es' c'):=fun es' c'=>Array.getElem?_setIfInBounds_self_of_lt (Array.getElem?_eq_some_iff.1 hb').1
  cases hp:posP k kvs 0 with
  | none =>
    obtain ⟨_,hs⟩:=posP_none (v:=v) hp
    refine ⟨es.push { key:=kE k,val:=v,born:=c },c+1,?_,_,_,hat _ _,?_,?_,?_⟩
    · unfold Instr.mapUpdate
      simp only [Sem.run_bind,run_underlying h1,Result.andThen,MapKept.run_getObj_map hb',hk.chk,run_findP hk hgk hg hm,hp,MapKept.run_setObj_map _ hb']
      rfl
    · rw [hs]; simp [hm]
    · intro x hx
      simp only [Array.toList_push,List.mem_append,List.mem_singleton] at hx
      rcases hx with hx | rfl
      · have:=hbo x hx; omega
      · exact Nat.lt_succ_self _
    · simp only [Array.toList_push,List.map_append,List.map_cons,List.map_nil]
      rw [List.nodup_append]
      refine ⟨hnd,by simp,fun x hx y hy=>?_⟩
      simp only [List.mem_singleton] at hy
      subst hy
      obtain ⟨e,he,rfl⟩:=List.mem_map.1 hx
      have:=hbo e he; omega
  | some j =>
    obtain ⟨m,hj,hml,hmk,hs⟩:=posP_some (v:=v) hp
    rw [Nat.zero_add] at hj
    have hlen:es.size=kvs.length:=by have:=congrArg List.length hm; simpa using this
    have hme:m<es.size:=by omega
    have hkey:es[m].key=kE k:=by
      have:=congrArg (fun l=>(l[m]?).map (·.1)) hm
      simp only [List.getElem?_map,Option.map_map] at this
      have e1:es.toList[m]? = some es[m]:=by simp [hme]
      rw [e1] at this
      simp only [Option.map_some] at this
      cases hkv:kvs[m]? with
      | none=>rw [hkv] at hmk; cases hmk
      | some q =>
        rw [hkv] at hmk this
        simp only [Option.map_some,Option.some.injEq,Function.comp_apply] at hmk this
        rw [this,hmk]
    obtain ⟨j1,j2⟩:=j
    simp only at hj
    subst hj
    refine ⟨es.modify j1 fun e=>{ e with key:=kE k,val:=v },c,?_,_,_,hat _ _,?_,?_,?_⟩
    · unfold Instr.mapUpdate
      simp only [Sem.run_bind,run_underlying h1,Result.andThen,MapKept.run_getObj_map hb',hk.chk,run_findP hk hgk hg hm,hp,Instr.keyThatStays]
      have he:es[j1]? = some es[j1]:=by simp [hme]
      simp only [he,Option.map_some,Option.getD_some,hkey,hk.bits,if_true,Sem.run_pure,Result.andThen,MapKept.run_setObj_map _ hb']
      rfl
    · rw [hs]
      apply List.ext_getElem?
      intro i
      have h0:=congrArg (fun l=>l[i]?) hm
      simp only [List.getElem?_map] at h0
      simp only [Array.toList_modify,List.getElem?_map,List.getElem?_modify,List.getElem?_set]
      by_cases hi:j1=i
      · subst hi
        simp [hme,hml]
      · simp only [hi,if_false]
        simpa using h0
    · intro x hx
      obtain ⟨i,hi,rfl⟩:=List.mem_iff_getElem.1 hx
      have hi':i<es.size:=by simpa using hi
      have h2:=hbo es[i] (by simp)
      simp only [Array.toList_modify,List.getElem_modify,Array.getElem_toList]
      split <;> exact h2
    · have:((es.modify j1 fun e=>{ e with key:=kE k,val:=v }).toList.map (·.born))=es.toList.map (·.born):=by
        apply List.ext_getElem?
        intro i
        simp only [Array.toList_modify,List.getElem?_map,List.getElem?_modify]
        cases es.toList[i]? with
        | none=>simp
        | some x=>by_cases hi:j1=i <;> simp [hi]
      rw [this]; exact hnd
end
section
variable {K:Type} {kE:K→Value} {kvs:List (K × Value)}
variable {r:Option Nat} {P:Program} {ops:Array Oper} {Q:Exit→Act→World→Prop} {a:Act} {w w0:World} {n:Nat} {ds:List Deferred} {L:List (Nat × Value)} {X:Nat→Prop} {B M M':List Asr}
  {d i j b:Nat} {ty t kt:TypeId} {pos:String} {af:Array Edge} {rest:List Nat}
theorem St.mpAt (h:St w0 w X B M) (hi:M[j]? = some (mp kE b kvs)):mpOK kE (hp w) b kvs:=h.at_ hi
theorem O.makeP (kE:K→Value) (hf:Fr a n ds L) (hS:St w0 w X B M) (ho:ops[i]? = some ⟨some d,.makeMap t none,ty,pos,af,none⟩) (hd:Nat.blt d n=true)
    (k:∀ b w' a',w0.heap.size≤b→St w0 w' X B (mp kE b []::M)→Fr a' n ds ((d,.map (some b))::L)→O r P ops Q rest a' w'):O r P ops Q (i::rest) a w:=by
  refine O.val (w':=w.alloc (.map #[] 0)) hf ho rfl hd (v:=.map (some w.heap.size)) ?_ (fun a' hf'=>k _ _ a' hS.size ?_ hf')
  · intro a d pos af g hf
    simp only [execOp]
    exact run_v rfl
  · exact (hS.alloc (.map #[] 0)).conv (i:=0) (p:=pt w.heap.size (.map #[] 0)) (q:=mp kE w.heap.size []) rfl (fun h=>⟨#[],0,h,rfl,by simp,by simp⟩) (fun b hb=>hb)
end
section
variable {K:Type} [DecidableEq K] {kE:K→Value} {kvs:List (K × Value)} {k:K} {G:World→K→Prop}
variable {r:Option Nat} {P:Program} {ops:Array Oper} {Q:Exit→Act→World→Prop} {a:Act} {w w0:World} {n:Nat} {ds:List Deferred} {L:List (Nat × Value)} {X:Nat→Prop} {B M M':List Asr}
  {d i j b:Nat} {ty t kt:TypeId} {pos:String} {af:Array Edge} {rest:List Nat} {x y zz:Operand} {v z u:Value}
theorem RunV.lookP (ht:tMapOf P t=some (kt,z)) (hk:KeyOK P kt kE G) (hgk:G w k) (hg:∀ p ∈ kvs,G w p.1) (hx:ev L x=some (.map (some b))) (hy:ev L y=some (kE k)) (h:mpOK kE (hp w) b kvs) (hu:(getP k kvs).getD z=u):RunV P n ds L (.lookup t x y false) ty w u w:=fun a d pos af g hf=>by
  simp only [execOp,hf.eval hx,hf.eval hy]
  subst hu
  exact run_v (run_lookP ht hk hgk hg h)
theorem O.putP (hf:Fr a n ds L) (hS:St w0 w X B M) (ho:ops[i]? = some ⟨none,.mapUpdate t x y zz,ty,pos,af,none⟩) (ht:tMapOf P t=some (kt,z)) (hk:KeyOK P kt kE G) (hgk:G w k) (hg:∀ p ∈ kvs,G w p.1) (hx:ev L x=some (.map (some b))) (hy:ev L y=some (kE k)) (hz:ev L zz=some v)
    (hM:M[j]? = some (mp kE b kvs)) (hM':M.set j (mp kE b (setP k v kvs))=M') (kk:∀ w',St w0 w' X B M'→O r P ops Q rest a w'):O r P ops Q (i::rest) a w:=by
  obtain ⟨es,c,h1,h2⟩:=run_putP (P:=P) ht hk hgk hg (hS.mpAt hM) v
  have hl:=(hS.sep.get hM).2 b rfl
  refine O.unit (w':=putMap w b es c) hf ho rfl ?_ (kk _ (hM'▸?_))
  · intro a d pos af g hf
    simp only [execOp,hf.eval hx,hf.eval hy,hf.eval hz]
    exact run_u h1
  · refine hS.write (w':=SL.putMap w b es c) hM rfl rfl rfl (by simp [SL.putMap]) (fun k _ hk=>?_) h2 (fun k hk=>⟨.inl hk,by
      have hk:k=b:=hk
      subst hk
      simpa [SL.putMap] using hl.1⟩)
    simp only [SL.putMap]
    exact Array.getElem?_setIfInBounds_ne (fun e=>hk e.symm)
end
def bigA (l:List Asr):Asr :=
  ⟨fun b=>∃ p ∈ l,p.fp b,fun h=>(∀ p ∈ l,p.holds h)∧l.Pairwise (fun p q:Asr=>∀ b:Nat,p.fp b→¬ q.fp b),
   fun h h' hk ⟨h1,h2⟩=>⟨fun p hp=>p.loc h h' (fun b hb=>hk b ⟨p,hp,hb⟩) (h1 p hp),h2⟩⟩
section
variable {h:Hp} {m:Nat} {old:Nat→Prop} {l l' N M:List Asr} {p q:Asr} {w0 w:World} {X:Nat→Prop} {B:List Asr}
theorem Sep.big:∀ {l:List Asr},Sep h m old (bigA l::M)↔Sep h m old (l++M)
  | []=>by
    constructor
    · exact fun hs=>hs.2
    · exact fun hs=>⟨⟨⟨by simp,.nil⟩,fun b ⟨p,hp,_⟩=>by simp at hp,fun q _ b ⟨p,hp,_⟩=>by simp at hp⟩,hs⟩
  | p::l=>by
    have ih:=Sep.big (l:=l)
    constructor
    · rintro ⟨⟨⟨h1,h2⟩,h3,h4⟩,h5⟩
      rw [List.pairwise_cons] at h2
      refine ⟨⟨h1 p List.mem_cons_self,fun b hb=>h3 b ⟨p,List.mem_cons_self,hb⟩,fun q hq b hb=>?_⟩,ih.1 ⟨⟨⟨fun q hq=>h1 q (List.mem_cons_of_mem _ hq),h2.2⟩,fun b ⟨q,hq,hb⟩=>h3 b ⟨q,List.mem_cons_of_mem _ hq,hb⟩,fun q hq b ⟨r,hr,hb⟩=>h4 q hq b ⟨r,List.mem_cons_of_mem _ hr,hb⟩⟩,h5⟩⟩
      rcases List.mem_append.1 hq with hq | hq
      · exact h2.1 q hq b hb
      · exact h4 q hq b ⟨p,List.mem_cons_self,hb⟩
    · rintro ⟨⟨h1,h2,h3⟩,h4⟩
      obtain ⟨⟨⟨g1,g2⟩,g3,g4⟩,g5⟩:=ih.2 h4
      refine ⟨⟨⟨fun q hq=>?_,List.pairwise_cons.2 ⟨fun q hq b hb=>h3 q (List.mem_append_left _ hq) b hb,g2⟩⟩,?_,?_⟩,g5⟩
      · rcases List.mem_cons.1 hq with rfl | hq
        · exact h1
        · exact g1 q hq
      · rintro b ⟨q,hq,hb⟩
        rcases List.mem_cons.1 hq with rfl | hq
        · exact h2 b hb
        · exact g3 b ⟨q,hq,hb⟩
      · rintro q hq b ⟨s,hs,hb⟩
        rcases List.mem_cons.1 hs with rfl | hs
        · exact h3 q (List.mem_append_right _ hq) b hb
        · exact g4 q hq b ⟨s,hs,hb⟩
theorem Sep.tail {M':List Asr} (he:∀ q ∈ M',∀ b,q.fp b→∃ q' ∈ M,q'.fp b) (hm:Sep h m old M→Sep h m old M'):∀ {N:List Asr},Sep h m old (N++M)→Sep h m old (N++M')
  | [],hs=>hm hs
  | p::N,hs=>⟨⟨hs.1.1,hs.1.2.1,fun q hq b hb hqb=>by
      rcases List.mem_append.1 hq with h1 | h1
      · exact hs.1.2.2 q (List.mem_append_left _ h1) b hb hqb
      · obtain ⟨q',h2,h3⟩:=he q h1 b hqb
        exact hs.1.2.2 q' (List.mem_append_right _ h2) b hb h3⟩,Sep.tail he hm hs.2⟩
theorem St.tail {M':List Asr} (hS:St w0 w X B (N++M)) (he:∀ q ∈ M',∀ b,q.fp b→∃ q' ∈ M,q'.fp b) (hm:Sep (hp w) w.heap.size (fun b=>X b∨w0.heap.size≤b) M→Sep (hp w) w.heap.size (fun b=>X b∨w0.heap.size≤b) M'):St w0 w X B (N++M') :=
  ⟨hS.os,hS.tape,hS.output,hS.size,hS.old,Sep.tail he hm hS.sep,hS.bor⟩
theorem St.bigOpen (hS:St w0 w X B (N++bigA l::M)):St w0 w X B (N++(l++M)) :=
  hS.tail (fun q hq b hb=>by
    rcases List.mem_append.1 hq with h1 | h1
    · exact ⟨_,List.mem_cons_self,q,h1,hb⟩
    · exact ⟨q,List.mem_cons_of_mem _ h1,hb⟩) Sep.big.1
theorem St.bigClose (hS:St w0 w X B (N++(l++M))):St w0 w X B (N++bigA l::M) :=
  hS.tail (fun q hq b hb=>by
    rcases List.mem_cons.1 hq with rfl | h1
    · obtain ⟨p,hp,hb⟩:=hb
      exact ⟨p,List.mem_append_left _ hp,hb⟩
    · exact ⟨q,List.mem_append_right _ h1,hb⟩) Sep.big.2
theorem St.bigCons (hS:St w0 w X B (N++bigA (p::l)::M)):St w0 w X B (N++p::bigA l::M):=by
  have h1:=hS.bigOpen
  have h2:St w0 w X B ((N++[p])++(l++M)):=by simpa using h1
  have h3:=h2.bigClose
  simpa using h3
theorem St.bigUncons (hS:St w0 w X B (N++p::bigA l::M)):St w0 w X B (N++bigA (p::l)::M):=by
  have h2:St w0 w X B ((N++[p])++bigA l::M):=by simpa using hS
  have h3:=h2.bigOpen
  have h4:St w0 w X B (N++((p::l)++M)):=by simpa using h3
  exact h4.bigClose
theorem bigA_perm_holds (hl:l.Perm l') (hh:(bigA l).holds h):(bigA l').holds h :=
  ⟨fun p hp=>hh.1 p (hl.mem_iff.2 hp),(hl.pairwise_iff (fun {a b} hab c hb ha=>hab c ha hb)).1 hh.2⟩
theorem St.bigPerm {i:Nat} (hS:St w0 w X B M) (hi:M[i]? = some (bigA l)) (hl:l.Perm l'):St w0 w X B (M.set i (bigA l')) :=
  hS.conv hi (bigA_perm_holds hl) (fun _ ⟨p,hp,hb⟩=>⟨p,hl.mem_iff.2 hp,hb⟩)
end
def wrongV (t:TypeId) (c:Int):Value:=.iface t (.agg #[.int .i64 c])
def RetP {G:Type} (P:Program) (t:TypeId) (f:FuncId) (args:Array Value) (w:World) (v:G→Value) (R:G→World→Prop) (Rp:Int→World→Prop):Prop :=
  Calls P f args w fun e w'=>(∃ g,e=.returned (v g)∧R g w')∨∃ c,e=.panicked [⟨wrongV t c,false,false⟩]∧Rp c w'
section
variable {r:Option Nat} {P:Program} {Q:Exit→Act→World→Prop} {ops:Array Oper} {i:Nat} {rest:List Nat} {a:Act} {w w0 w':World} {n:Nat} {ds:List Deferred} {L:List (Nat × Value)}
  {d:Nat} {op:Op} {ty t:TypeId} {pos:String} {af:Array Edge} {X:Nat→Prop} {B M:List Asr} {G:Type} {v:G→Value} {R:G→World→Prop} {Rp:Int→World→Prop} {f:FuncId} {args:Array Value} {x:Operand}
theorem retP_of_W {fn:Func} {c:Code} {lv:List Value} (hf:P.funcs[f]? = some fn) (hb:fn.body=some c) (hn:fn.ntmps=n) (hl:Nat.ble lv.length n=true)
    (h:∀ a,Fr a n [] (argsL 0 lv)→W none P c (bodyPost P fn (fun e w'=>(∃ g,e=.returned (v g)∧R g w')∨∃ c,e=.panicked [⟨wrongV t c,false,false⟩]∧Rp c w')) a w):RetP P t f lv.toArray w v R Rp:=calls_of_W hf hb hn hl h
theorem O.callP (hf:Fr a n ds L) (ho:ops[i]? = some ⟨some d,op,ty,pos,af,none⟩) (hnd:noDefer op=true) (hd:Nat.blt d n=true) (hr:RunE P n ds L op ty w f args) (hc:RetP P t f args w v R Rp)
    (k:∀ g w',R g w'→∀ a',Fr a' n ds ((d,v g)::L)→O r P ops Q rest a' w') (kp:∀ c w',Rp c w'→∀ a',Fr a' n ds L→Q (.panic [⟨wrongV t c,false,false⟩]) a' w'):O r P ops Q (i::rest) a w:=by
  unfold O wpOpsIn
  simp only [ho]
  rw [if_pos (by simp [Region.wanted])]
  refine ⟨fun _ _=>trivial,?_⟩
  rw [semAt_FW (o:=⟨some d,op,ty,pos,af,none⟩) hnd,hr a (some d) pos af none hf]
  refine ⟨fun h=>by simp [FW] at h,callsIn_FW.2 (Calls.mono hc ?_)⟩
  rintro e w1 (⟨g,rfl,hR⟩ | ⟨c,rfl,hR⟩)
  · exact k g w1 hR _ (hf.put hd (v g))
  · exact kp c w1 hR a hf
theorem O.panic {u:Value} (hf:Fr a n ds L) (ho:ops[i]? = some ⟨none,.panic x,ty,pos,af,none⟩) (hx:ev L x=some (.iface t u)) (k:Q (.panic [⟨.iface t u,false,false⟩]) a w):O r P ops Q (i::rest) a w:=by
  unfold O wpOpsIn
  simp only [ho]
  rw [if_pos (by simp [Region.wanted])]
  refine ⟨fun _ _=>trivial,?_⟩
  rw [semAt_FW (o:=⟨none,.panic x,ty,pos,af,none⟩) rfl]
  have he:(execOp a.eval ⟨none,.panic x,ty,pos,af,none⟩).run P w=.halt (.panic (.iface t u)) w:=by
    simp only [execOp,hf.eval hx,Instr.panic,goPanic,Sem.run_bind]
    rfl
  rw [he]
  exact k
theorem k_seq_panic {K:Act→World→Prop} {ch:List PanicEntry} (h:Q (.panic ch) a w):Exit.then K Q (.panic ch) a w:=h
theorem k_blk_panic {id:Nat} {ch:List PanicEntry} (h:Q (.panic ch) a w):Exit.inBlock id Q (.panic ch) a w:=h
theorem post_panic {fn:Func} {R':Ending→World→Prop} {ch:List PanicEntry} (hf:Fr a n [] L) (h:R' (.panicked ch) w):bodyPost P fn R' (.panic ch) a w:=⟨hf.defers,h⟩
end
end Go.SL
