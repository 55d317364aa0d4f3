/- Maps of integers to true: a set of small numbers, told by a list of marks. -/
import Derived.Test.YtfaflenaajafgaaGreatDoorSL10
import Derived.MapKept
set_option linter.unusedVariables false
set_option linter.unusedSimpArgs false
namespace Go.SL
open Go
def eKey (e:MapEntry):Value:=e.key
structure MOK (es:Array MapEntry) (clock:Nat) (ks:List Int):Prop where
  keys:es.toList.map (·.key)=ks.map (Value.int .i64)
  vals:∀ e ∈ es.toList,e.val=.bool true
  born:∀ e ∈ es.toList,e.born<clock
  apart:(es.toList.map (·.born)).Nodup
  nodup:ks.Nodup
def setOK (h:Hp) (b:Nat) (ins:List Bool):Prop :=
  ∃ es clock ks,h b=some (.map es clock)∧MOK es clock ks∧(∀ k ∈ ks,0≤k)∧∀ i:Nat,((i:Int) ∈ ks↔ins.getD i false=true)
def ms (b:Nat) (ins:List Bool):Asr:=⟨fun k=>k=b,fun h=>setOK h b ins,fun h h' hk ⟨es,c,ks,h1,h2⟩=>⟨es,c,ks,by rw [hk b rfl]; exact h1,h2⟩⟩
def tSet (P:Program) (t:TypeId):Option TypeId :=
  match P.underlying t with
  | some (.map k e)=>match P.underlying k with
    | some (.int _)=>match tZero P e with
      | some (.bool false)=>some k
      | _=>none
    | _=>none
  | _=>none
section
variable {P:Program} {w:World} {t kt:TypeId} {k:Int}
theorem run_underlying {d:TypeDesc} (h:P.underlying t=some d):(underlying t).run P w=.ok d w:=by
  simp [underlying,h]
def posK (k:Int):List Int→Nat→Option Nat
  | [],_=>none
  | x::t,i=>if k=x then some i else posK k t (i+1)
section
variable {es:Array MapEntry} {c:Nat} {ks:List Int}
theorem MOK.push (h:MOK es c ks) (hk:k ∉ ks):MOK (es.push { key:=.int .i64 k,val:=.bool true,born:=c }) (c+1) (ks++[k]):=by
  refine ⟨by simp [h.keys],fun e he=>?_,fun e he=>?_,?_,?_⟩
  · simp only [Array.toList_push,List.mem_append,List.mem_singleton] at he
    rcases he with he | rfl
    · exact h.vals e he
    · rfl
  · simp only [Array.toList_push,List.mem_append,List.mem_singleton] at he
    rcases he with he | rfl
    · have:=h.born e he; omega
    · exact Nat.lt_succ_self _
  · simp only [Array.toList_push,List.map_append,List.map_cons,List.map_nil]
    rw [List.nodup_append]
    refine ⟨h.apart,by simp,fun x hx y hy=>?_⟩
    simp only [List.mem_singleton] at hy
    subst hy
    obtain ⟨e,he,rfl⟩:=List.mem_map.1 hx
    have:=h.born e he; omega
  · rw [List.nodup_append]
    exact ⟨h.nodup,by simp,fun x hx y hy e=>by simp only [List.mem_singleton] at hy; subst hy; exact hk (e▸hx)⟩
theorem map_eraseIdx {α β:Type} (f:α→β):∀ (l:List α) (m:Nat),(l.eraseIdx m).map f=(l.map f).eraseIdx m
  | [],_=>rfl
  | _::_,0=>rfl
  | a::t,m+1=>by simp [map_eraseIdx f t m]
theorem MOK.erase (h:MOK es c ks) {m:Nat} (hm:m<ks.length):MOK (es.eraseIdxIfInBounds m) c (ks.eraseIdx m):=by
  have hsz:es.size=ks.length:=by have:=congrArg List.length h.keys; simpa using this
  have e1:(es.eraseIdxIfInBounds m).toList=es.toList.eraseIdx m:=by simp [Array.eraseIdxIfInBounds,hsz,hm]
  refine ⟨by rw [e1,map_eraseIdx,h.keys,map_eraseIdx],fun e he=>?_,fun e he=>?_,?_,?_⟩
  · rw [e1] at he; exact h.vals e (List.mem_of_mem_eraseIdx he)
  · rw [e1] at he; exact h.born e (List.mem_of_mem_eraseIdx he)
  · rw [e1,map_eraseIdx]; exact h.apart.sublist (List.eraseIdx_sublist _ _)
  · exact h.nodup.sublist (List.eraseIdx_sublist _ _)
end
def putMap (w:World) (b:Nat) (es:Array MapEntry) (c:Nat):World:={ w with heap:=w.heap.setIfInBounds b (.map es c) }
variable {b:Nat} {ins:List Bool} {i:Nat}
end
section
variable {r:Option Nat} {P:Program} {ops:Array Oper} {Q:Exit→Act→World→Prop} {a:Act} {w w0:World} {n:Nat} {ds:List Deferred} {L:List (Nat × Value)} {X:Nat→Prop} {B M M':List Asr}
  {d i j b:Nat} {ty t kt:TypeId} {pos:String} {af:Array Edge} {rest:List Nat} {x y z:Operand} {ins:List Bool} {q:Nat}
theorem St.putMap (h:St w0 w X B M) (hi:M[j]? = some (ms b ins)) {es:Array MapEntry} {c:Nat} {ins':List Bool} (hs:setOK (hp (SL.putMap w b es c)) b ins'):St w0 (SL.putMap w b es c) X B (M.set j (ms b ins')):=by
  have hl:=(h.sep.get hi).2 b rfl
  refine h.write (w':=SL.putMap w b es c) hi rfl rfl rfl (by simp [SL.putMap]) (fun k _ hk=>?_) hs (fun k hk=>⟨.inl hk,by
    have hk:k=b:=hk
    subst hk
    simpa [SL.putMap] using hl.1⟩)
  simp only [SL.putMap]
  exact Array.getElem?_setIfInBounds_ne (fun e=>hk e.symm)
theorem O.makeMap (hf:Fr a n ds L) (hS:St w0 w X B M) (ho:ops[i]? = some ⟨some d,.makeMap t none,ty,pos,af,none⟩) (hd:Nat.blt d n=true) (ins:List Bool) (hins:∀ q,ins.getD q false=false)
    (k:∀ b w' a',w0.heap.size≤b→St w0 w' X B (ms b ins::M)→Fr a' n ds ((d,.map (some b))::L)→O r P ops Q rest a' w'):O r P ops Q (i::rest) a w:=by
  refine O.val (w':=w.alloc (.map #[] 0)) hf ho rfl hd (v:=.map (some w.heap.size)) ?_ (fun a' hf'=>k _ _ a' hS.size ?_ hf')
  · intro a d pos af g hf
    simp only [execOp]
    exact run_v rfl
  · refine (hS.alloc (.map #[] 0)).conv (i:=0) (p:=pt w.heap.size (.map #[] 0)) (q:=ms w.heap.size ins) rfl (fun h=>⟨#[],0,[],h,⟨rfl,by simp,by simp,by simp,by simp⟩,by simp,fun q=>?_⟩) (fun b hb=>hb)
    rw [hins q]; simp
end
end Go.SL
