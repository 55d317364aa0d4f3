/- A string ranged over: the iterator as an owned entry. -/
import Derived.Test.YtfaflenaajafgaaGreatDoorSL28
import Derived.Laws.RangeString
set_option linter.unusedVariables false
set_option linter.unusedSimpArgs false
namespace Go.SL
open Go
section
variable {P:Program} {w w0:World} {n:Nat} {ds:List Deferred} {L:List (Nat × Value)} {ty t:TypeId} {x:Operand} {X:Nat→Prop} {B M:List Asr}
theorem Z.rangeS {s:ByteArray} (hx:ev L x=some (.string s)) (ht:P.underlying t=some .string):RunV P n ds L (.range t x) ty w (.pointer (some ⟨w.heap.size,0,none⟩)) (w.iter s 0):=fun a d pos af g hf=>by
  simp only [execOp,hf.eval hx]
  show ((Instr.range t (.string s)) >>= fun z=>pure (Next.value z)).run P w=_
  rw [Sem.run_bind,run_range_string w t s ht]
  rfl
theorem St.iter (h:St w0 w X B M) (s:ByteArray):St w0 (w.iter s 0) X B (pt w.heap.size (.stringIter s 0)::M):=by
  have e:(w.iter s 0).heap=w.heap.push (.stringIter s 0):=rfl
  refine h.push rfl rfl rfl (by rw [e,Array.size_push]; omega) (fun b hb=>?_) (World.iter_heap w s 0) (fun b hb=>?_)
  · rw [e,Array.getElem?_push,if_neg (by omega)]
  · have hb':b=w.heap.size:=hb
    subst hb'
    exact ⟨Nat.le_refl _,by rw [e,Array.size_push]; omega⟩
def World.setIter (w:World) (b:Nat) (s:ByteArray) (pos:Nat):World:={ w with heap:=w.heap.setIfInBounds b (.stringIter s pos) }
theorem Z.nextS {s:ByteArray} {b pos:Nat} (hx:ev L x=some (.pointer (some ⟨b,0,none⟩))) (hb:w.heap[b]? = some (.stringIter s pos)) (hp:pos<s.size) :
    RunV P n ds L (.next x true) ty w (.tuple #[.bool true,.int .i64 pos,.int .i32 (Utf8.decode s pos).1]) (World.setIter w b s (pos+(Utf8.decode s pos).2)):=fun a d p af g hf=>by
  simp only [execOp,hf.eval hx]
  show ((Instr.next (.pointer (some ⟨b,0,none⟩)) true ty) >>= fun z=>pure (Next.value z)).run P w=_
  rw [Sem.run_bind]
  simp only [Instr.next,getObj,setObj,Sem.run_bind,Sem.run,hb,Result.andThen,hp,if_true]
  simp [goInt,Sem.run,hb,World.setIter]
theorem Z.nextE {s:ByteArray} {b pos:Nat} (hx:ev L x=some (.pointer (some ⟨b,0,none⟩))) (hb:w.heap[b]? = some (.stringIter s pos)) (hp:¬ pos<s.size) :
    RunV P n ds L (.next x true) ty w (.tuple #[.bool false]) w:=fun a d p af g hf=>by
  simp only [execOp,hf.eval hx]
  show ((Instr.next (.pointer (some ⟨b,0,none⟩)) true ty) >>= fun z=>pure (Next.value z)).run P w=_
  rw [Sem.run_bind]
  simp only [Instr.next,getObj,Sem.run_bind,Sem.run,hb,Result.andThen,hp,if_false]
  simp [Sem.run]
theorem St.setIter {i b pos pos':Nat} {s:ByteArray} (h:St w0 w X B M) (hi:M[i]? = some (pt b (.stringIter s pos))):St w0 (World.setIter w b s pos') X B (M.set i (pt b (.stringIter s pos'))):=by
  have hb:=h.ptAt hi
  have hlt:b<w.heap.size:=(Array.getElem?_eq_some_iff.1 hb).1
  refine h.write hi rfl rfl rfl (by simp [World.setIter]) (fun c hc hn=>?_) ?_ (fun c hc=>⟨.inl hc,?_⟩)
  · have hne:¬ b=c:=fun e=>hn (show c=b from e.symm)
    simp [World.setIter,Array.getElem?_setIfInBounds,hne]
  · show (World.setIter w b s pos').heap[b]? = _
    simp [World.setIter,Array.getElem?_setIfInBounds,hlt]
  · have:c=b:=hc
    subst this
    simpa [World.setIter] using hlt
end
end Go.SL
