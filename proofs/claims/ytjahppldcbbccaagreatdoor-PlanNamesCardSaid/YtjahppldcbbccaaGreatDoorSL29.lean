/- A string ranged over: the iterator as an owned entry. -/
import Derived.Test.YtjahppldcbbccaaGreatDoorSL28
import Derived.Laws.RangeString
set_option linter.unusedVariables false
set_option linter.unusedSimpArgs false
namespace Go.SL
open Go
section
variable {P:Program} {w w0:World} {n:Nat} {ds:List Deferred} {L:List (Nat × Value)} {ty t:TypeId} {x:Operand} {X:Nat→Prop} {B M:List Asr}
def World.setIter (w:World) (b:Nat) (s:ByteArray) (pos:Nat):World:={ w with heap:=w.heap.setIfInBounds b (.stringIter s pos) }
theorem St.setIter {i b pos pos':Nat} {s:ByteArray} (h:St w0 w X B M) (hi:M[i]? = some (pt b (.stringIter s pos))):St w0 (World.setIter w b s pos') X B (M.set i (pt b (.stringIter s pos'))):=by
  have hb:=h.ptAt hi
  have hlt:b<w.heap.size:=(Array.getElem?_eq_some_iff.1 hb).1
  refine h.write hi rfl rfl rfl (by simp [World.setIter]) (fun c hc hn=>?_) ?_ (fun c hc=>⟨.inl hc,?_⟩)
  · have hne:¬ b=c:=fun e=>hn (show c=b from e.symm)
    simp [World.setIter,Array.getElem?_setIfInBounds,hne]
  · show (World.setIter w b s pos').heap[b]? = _
    simp [World.setIter,Array.getElem?_setIfInBounds,hlt]
  · have:c=b:=hc
    subst this
    simpa [World.setIter] using hlt
end
end Go.SL
