/- Shorter forms. -/
import Derived.Test.YtfaflenaajafgaaGreatDoorSL27
import Derived.Test.YtfaflenaajafgaaGreatDoorSL29
set_option linter.unusedVariables false
set_option linter.unusedSimpArgs false
namespace Go.SL
open Go
section
variable {r:Option Nat} {P:Program} {ops:Array Oper} {i n:Nat} {ds:List Deferred} {L:List (Nat × Value)} {a:Act} {w:World}
theorem gt {d:Nat} {v:Value} (hf:Fr a n ds L) (h:dstOf ops i=some d) (hl:lk L d=some v):∀ d',dstOf ops i=some d'→a.tmps[d']? = some v:=fun d' h'=>by
  rw [h] at h'
  cases h'
  exact hf.get _ _ hl
theorem nD {R:Act→World→Prop} (hf:Fr a n ds L) (h:R a w):O r P ops (fun e a' w'=>e=.normal∧Fr a' n ds []∧R a' w') [] a w:=O.nil ⟨rfl,hf.to trivial,h⟩
theorem nG {R:Unit→Act→World→Prop} (hf:Fr a n ds L) (h:R () a w):O r P ops (fun e a' w'=>e=.normal∧∃ g,Fr a' n ds []∧R g a' w') [] a w:=O.nil ⟨rfl,(),hf.to trivial,h⟩
theorem lN {w':World} {b o m:Nat} {cs cs':Array Value} {e t ty:TypeId} {zz:Nat × Nat} {x:Operand} (hA:tAgg P t=some true∧tSize P t=some m) (hx:ev L x=some (.pointer (some ⟨b,o,none⟩))) (hb:w'.heap[b]? = some (.cells cs e zz)) (hle:Nat.ble (o+m) cs.size=true) (hv:cs.extract o (o+m)=cs') :
    RunV P n ds L (.load t x) ty w' (.agg cs') w':=Z.loadN hA.1 hA.2 hx hb (bl hle) hv
theorem mv2 {r:Option Nat} {Q:Exit→Act→World→Prop} {j d d':Nat} {v v':Value} {rest:List Nat} (hf:Fr a n ds L) (h:mvk L n ops[i]? = some (d,v)) (h':mvk ((d,v)::L) n ops[j]? = some (d',v')) (k:∀ a',Fr a' n ds ((d',v')::(d,v)::L)→O r P ops Q rest a' w):O r P ops Q (i::j::rest) a w:=mv hf h fun _ hf=>mv hf h' k
theorem ex {r:Option Nat} {Q:Exit→Act→World→Prop} {d q:Nat} {vs:Array Value} {x:Operand} {ty:TypeId} {v:Value} {rest:List Nat} (hf:Fr a n ds L) (h:opk n ops[i]? = some (d,.extract x q,ty)) (hx:ev L x=some (.tuple vs)) (hv:vs[q]? = some v) (k:∀ a',Fr a' n ds ((d,v)::L)→O r P ops Q rest a' w):O r P ops Q (i::rest) a w:=ov hf h (Z.extract hx hv) k
end
end Go.SL
