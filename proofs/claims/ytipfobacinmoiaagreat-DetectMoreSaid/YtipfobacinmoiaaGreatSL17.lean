/- Regions that draw their order: a chain of operations that turn memory, and new variables that may be made at any time before they are wanted. -/
import Derived.Test.YtipfobacinmoiaaGreatSL16
set_option linter.unusedVariables false
set_option linter.unusedSimpArgs false
namespace Go.SL
open Go
def empA:Asr:=⟨fun _=>False,fun _=>True,fun _ _ _ h=>h⟩
def condA (c:Bool) (p:Asr):Asr:=match c with
  | true=>p
  | false=>empA
section
variable {r:Option Nat} {P:Program} {ops:Array Oper} {Q:Exit→Act→World→Prop} {a:Act} {w w0:World} {n:Nat} {ds:List Deferred} {γ:Type} {X:Nat→Prop} {B M:List Asr}
theorem O.normal {Q':Exit→Act→World→Prop} {R:Act→World→Prop} {l:List Nat} (h:O r P ops (fun e a w=>e=.normal∧R a w) l a w) (hq:∀ a w,R a w→Q' .normal a w):O r P ops Q' l a w:=by
  have:=O.cut (Q:=Q') (l₂:=[]) R h (fun a w hr=>O.nil (hq a w hr))
  simpa using this
def inl (al:List Nat) (s:Nat→Bool):Nat→Bool:=fun p=>al.contains p&&s p
theorem Q.val {i d:Nat} {op:Op} {ty:TypeId} {pos:String} {af:Array Edge} {L:List (Nat × Value)} {v:Value} {R:World→Prop} (ho:ops[i]? = some ⟨some d,op,ty,pos,af,none⟩) (hnd:noDefer op=true) (hd:Nat.blt d n=true) (hR:R w) (hf:Fr a n ds L) (hr:RunV P n ds L op ty w v w) :
    O r P ops (fun e a' w'=>e=.normal∧Fr a' n ds []∧(∀ d',dstOf ops i=some d'→a'.tmps[d']? = some v)∧R w') [i] a w:=by
  refine O.val hf ho hnd hd hr (fun a' hf'=>O.nil ⟨rfl,hf'.to trivial,fun d' hd'=>?_,hR⟩)
  have e:dstOf ops i=some d:=by simp [dstOf,ho]
  rw [e] at hd'
  injection hd' with hd'
  subst hd'
  exact hf'.get _ _ (by simp [lk,Nat.beq_refl])
end
end Go.SL
