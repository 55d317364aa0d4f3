/- A range over a function of two values whose body may return early; the iterator that goes down a slice. -/
import Derived.Test.YtipfobacinmoiaaGreatSL18
import Derived.Test.YtipfobacinmoiaaGreatSL12
set_option linter.unusedVariables false
set_option linter.unusedSimpArgs false
namespace Go.SL
open Go
def IterX (P:Program) (gf:FuncId) (lb:Array Value) (xs:List (Value × Value)) (Rd:World→Prop):Prop :=
  ∀ (l:Nat) (R:Nat→World→Prop) (S:World→Prop),(∀ k w,R k w→R k w.drew)→(∀ k w,R k w→Rd w) →
    (∀ k x,xs[k]? = some x→∀ w,R k w→YieldAt (FW none) 0 P l #[x.1,x.2] w (fun e w'=>(e=.returned (.bool true)∧R (k+1) w')∨(e=.returned (.bool false)∧S w'))) →
    ∀ w,R 0 w→Calls P gf (#[.func (.yield l) #[] #[]]++lb) w (fun e w'=>(∃ v,e=.returned v)∧(R xs.length w'∨S w'))
section
variable {P:Program} {Q:Exit→Act→World→Prop} {a:Act} {w w0 w':World} {n:Nat} {ds:List Deferred} {L:List (Nat × Value)} {X:Nat→Prop} {B M:List Asr}
end
end Go.SL
namespace Go.SL
open Go
section
variable {P:Program} {Q:Exit→Act→World→Prop} {ops:Array Oper} {i:Nat} {rest:List Nat} {a:Act} {w w0 w':World} {n:Nat} {ds:List Deferred} {L:List (Nat × Value)}
  {d:Nat} {ty:TypeId} {pos:String} {af:Array Edge} {x1 x2:Value} {f y1 y2:Operand} {l:Nat} {R S:World→Prop} {at_:Array TypeId}
end
def downL {T:Type} (l:List T):List (Int × T):=(l.zipIdx.map fun p=>((p.2:Int),p.1)).reverse
def RdAt {T:Type} (t:TypeId) (sz:Nat) (enc:T→List Value) (b:Nat) (s:Value) (l:List T) (w:World):Prop:=w.heap[b]? = some (.cells #[s] t (0,0))∧rdEOK (hp w) sz enc s l
end Go.SL
namespace Go.SL
end Go.SL
namespace Go.SL
open Go
theorem OQ.cutK {P:Program} {ops:Array Oper} {C:World→Prop} {K K':Act→Prop}:∀ (k:Nat) {lo:List Oper} {a:Act},OQ P ops C K' (lo.take k) a→(∀ a',K' a'→OQ P ops C K (lo.drop k) a')→OQ P ops C K lo a
  | 0,lo,a,h,h2=>h2 a h
  | k+1,[],a,h,h2=>h2 a h
  | k+1,o::t,a,h,h2=>by
    unfold OQ at *
    simp only [List.take_succ_cons,List.drop_succ_cons] at h h2
    unfold wpQuiet at h ⊢
    split at h
    · rename_i hw
      rw [if_pos hw]
      obtain ⟨u,h3,h4⟩:=h
      exact ⟨u,h3,OQ.cutK k h4 h2⟩
    · rename_i hw
      rw [if_neg hw]
      exact OQ.cutK k h h2
end Go.SL
namespace Go.SL
open Go
section
variable {P:Program} {ops:Array Oper} {a:Act} {w0:World} {n:Nat} {ds:List Deferred} {L:List (Nat × Value)}
  {d:Nat} {op:Op} {ty:TypeId} {pos:String} {af:Array Edge} {v:Value} {X:Nat→Prop} {B M:List Asr} {f:FuncId} {args:Array Value}
theorem OQ.gcallRq {K:Act→Prop} {lo:List Oper} {jj dj:Nat} {want c:Bool} (hf:Fr a n ds L) (hj:(ops[jj]?).bind (·.dst)=some dj) (hv:lk L dj=some (.bool c)) (hc:c=want) (hd:Nat.blt d n=true)
    (hr:∀ w,St w0 w X B M→RunE P n ds L op ty w f args) (hcl:∀ w,St w0 w X B M→Ret P f args w (fun _:Unit=>v) (fun _ w1=>St w w1 noX [] []))
    (k:∀ a',Fr a' n ds ((d,v)::L)→OQ P ops (fun w=>St w0 w X B M) K lo a'):OQ P ops (fun w=>St w0 w X B M) K (⟨some d,op,ty,pos,af,some (jj,want)⟩::lo) a:=by
  unfold OQ wpQuiet
  rw [if_pos (by rw [wanted_of hf hj hv,hc]; simp)]
  refine ⟨v,fun w hw=>?_,k _ (hf.put hd v)⟩
  unfold Oper.quietAt
  rw [hr w hw a (some d) pos af _ hf]
  exact ⟨rfl,Calls.mono (hcl w hw) fun _ w' ⟨_,he,hR⟩=>⟨he,(hw.call hR).dropN⟩⟩
end
end Go.SL
