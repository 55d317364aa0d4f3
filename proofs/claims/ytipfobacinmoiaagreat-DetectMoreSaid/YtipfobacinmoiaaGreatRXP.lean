/- Functions without arguments that the reckoner has reckoned: their contract, and as a summary for what calls them. -/
import Derived.Test.YtipfobacinmoiaaGreatRX14
set_option linter.unusedVariables false
set_option linter.unusedSimpArgs false
namespace Go.RX
open Go Go.SL
def Pure0 (P:Program) (f:FuncId) (c:Value):Prop:=∀ w,Calls P f #[] w fun e w'=>e=.returned c∧St w w' noX [] []
def ansC (x:Option An) (c:Value):Prop:=∃ H nx,x=some ⟨.c c,H,nx⟩
theorem pure0_of {P:Program} {kp:FuncId→Bool} {Sm:SmT} {wrF:FuncId→Bool} {F m:Nat} {f:FuncId} {c:Value} (hS:∀ f g,Sm f=some g→∀ w0 X B vs H nx,(g B vs H nx).Ok (FunOK P w0 X B f vs H nx))
    (h:ansC ((hT P kp Sm wrF F m).call [] f [] [] 0).conc c):Pure0 P f c:=fun w=>by
  obtain ⟨H,nx,h⟩:=h
  have hk:=((hT_ok hS m).call w noX [] f [] [] 0).conc _ h ⟨fun _=>none,0,fun _ _=>rfl⟩ [] [] w [] rfl .nil .nil .nil (St.refl w)
  refine Calls.mono hk fun e w' he=>?_
  obtain ⟨v',rfl,ρ',M',_,_,h3,h4,h5⟩:=he
  cases h3 with
  | c=>exact ⟨rfl,h5.sub (List.nil_sublist _)⟩
def gPure (c:Value):List (Nat × Ent)→List V→List (Nat × Ent)→Nat→R An:=fun _ vs H nx=>match vs with
  | []=>R.pure ⟨.c c,H,nx⟩
  | _::_=>R.fail
def isTrueA (x:Option An):Bool:=match x with
  | some z=>match z.v with
    | .c (.bool b)=>b
    | _=>false
  | none=>false
theorem isTrueA_ans {x:Option An} (h:isTrueA x=true):ansC x (.bool true):=by
  unfold isTrueA at h
  split at h
  · rename_i z
    split at h
    · rename_i b hb
      subst h
      obtain ⟨v,H,nx⟩:=z
      simp only at hb
      subst hb
      exact ⟨H,nx,rfl⟩
    · cases h
  · cases h
end Go.RX
