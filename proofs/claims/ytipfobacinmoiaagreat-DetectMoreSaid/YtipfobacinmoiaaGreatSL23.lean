/- A guarded operation whose guard holds, as one without a guard. -/
import Derived.Test.YtipfobacinmoiaaGreatSL22
set_option linter.unusedVariables false
set_option linter.unusedSimpArgs false
namespace Go.SL
open Go
section
variable {r:Option Nat} {P:Program} {Q:Exit→Act→World→Prop} {ops:Array Oper} {i:Nat} {rest:List Nat} {a:Act} {w:World} {n:Nat} {ds:List Deferred} {L:List (Nat × Value)}
  {op:Op} {ty:TypeId} {pos:String} {af:Array Edge} {dst:Option Tmp}
theorem O.unguard {jj dj:Nat} {want c:Bool} (hf:Fr a n ds L) (ho:ops[i]? = some ⟨dst,op,ty,pos,af,some (jj,want)⟩) (hj:(ops[jj]?).bind (·.dst)=some dj) (hv:lk L dj=some (.bool c)) (hc:c=want)
    (h:O r P #[⟨dst,op,ty,pos,af,none⟩] (fun e a w=>e=.normal∧O r P ops Q rest a w) [0] a w):O r P ops Q (i::rest) a w:=by
  subst hc
  refine O.cutN (l₁:=[i]) (l₂:=rest) (fun a w=>O r P ops Q rest a w) rfl ?_ (fun _ _ h=>h)
  unfold O wpOpsIn at h ⊢
  simp only [ho]
  rw [if_pos (by rw [wanted_some hf hj hv]; simp)]
  simp only [List.getElem?_toArray,List.getElem?_cons_zero] at h
  rw [if_pos (by simp [Region.wanted])] at h
  exact h
end
end Go.SL
