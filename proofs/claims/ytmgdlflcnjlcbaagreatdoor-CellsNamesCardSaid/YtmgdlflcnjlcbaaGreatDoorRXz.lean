/- Part of a proof: laws. -/
import Derived.Test.YtmgdlflcnjlcbaaGreatDoorRX14
set_option linter.unusedVariables false
set_option linter.unusedSimpArgs false
namespace Go.RX
open Go Go.SL
def Pure0 (P:Program) (f:FuncId) (c:Value):Prop:=∀ w,Calls P f #[] w fun e w'=>e=.returned c∧St w w' noX [] []
def ansC (x:Option An) (c:Value):Prop:=∃ H nx,x=some ⟨.c c,H,nx⟩
theorem pure0_of {P:Program} {kp:FuncId→Bool} {Sm:SmT} {wrF:FuncId→Bool} {F m:Nat} {f:FuncId} {c:Value} (hS:∀ f g,Sm f=some g→∀ w0 X B vs H nx,(g B vs H nx).Ok (FunOK P w0 X B f vs H nx))
    (h:ansC ((hT P kp Sm wrF F m).call [] f [] [] 0).conc c):Pure0 P f c:=fun w=>by
  obtain ⟨H,nx,h⟩:=h
  have hk:=((hT_ok hS m).call w noX [] f [] [] 0).conc _ h ⟨fun _=>none,0,fun _ _=>rfl⟩ [] [] w [] rfl .nil .nil .nil (St.refl w)
  refine Calls.mono hk fun e w' he=>?_
  obtain ⟨v',rfl,ρ',M',_,_,h3,h4,h5⟩:=he
  cases h3 with
  | c=>exact ⟨rfl,h5.sub (List.nil_sublist _)⟩
def gPure (c:Value):List (Nat × Ent)→List V→List (Nat × Ent)→Nat→R An:=fun _ vs H nx=>match vs with
  | []=>R.pure ⟨.c c,H,nx⟩
  | _::_=>R.fail
def isTrueA (x:Option An):Bool:=match x with
  | some z=>match z.v with
    | .c (.bool b)=>b
    | _=>false
  | none=>false
theorem isTrueA_ans {x:Option An} (h:isTrueA x=true):ansC x (.bool true):=by
  unfold isTrueA at h
  split at h
  · rename_i z
    split at h
    · rename_i b hb
      subst h
      obtain ⟨v,H,nx⟩:=z
      simp only at hb
      subst hb
      exact ⟨H,nx,rfl⟩
    · cases h
  · cases h
end Go.RX

namespace Go.RX
open Go Go.SL
inductive Cp where
  | s (v:Value)
  | a (l:List Value)
def cpV:Cp→V
  | .s v=>.c v
  | .a l=>.ag (l.map .c)
def cpW:Cp→Value
  | .s v=>v
  | .a l=>.agg l.toArray
def resV:List Cp→V
  | []=>.tu []
  | c::t=>match t with
    | []=>cpV c
    | _::_=>.tu ((c::t).map cpV)
def resW:List Cp→Value
  | []=>.tuple #[]
  | c::t=>match t with
    | []=>cpW c
    | _::_=>.tuple ((c::t).map cpW).toArray
theorem vrl_c {ρ:Env}:∀ l:List Value,VRL ρ (l.map .c) l
  | []=>.nil
  | _::t=>.cons .c (vrl_c t)
theorem cp_ok {ρ:Env}:∀ c:Cp,VR ρ (cpV c) (cpW c)
  | .s _=>.c
  | .a l=>.ag (vrl_c l)
theorem vrl_cp {ρ:Env}:∀ l:List Cp,VRL ρ (l.map cpV) (l.map cpW)
  | []=>.nil
  | c::t=>.cons (cp_ok c) (vrl_cp t)
theorem res_ok {ρ:Env}:∀ l:List Cp,VR ρ (resV l) (resW l)
  | []=>.tu .nil
  | [c]=>cp_ok c
  | c::d::t=>.tu (vrl_cp (c::d::t))
def cellsL:List V→Option (List Value)
  | []=>some []
  | u::t=>match asC u with
    | none=>none
    | some v=>match cellsL t with
      | none=>none
      | some r=>some (v::r)
theorem cellsL_ok {ρ:Env}:∀ {l:List V} {cs vals:List Value},cellsL l=some cs→VRL ρ l vals→vals=cs
  | [],cs,vals,h,hr=>by
    simp only [cellsL,Option.some.injEq] at h
    subst h
    cases hr; rfl
  | u::t,cs,vals,h,hr=>by
    simp only [cellsL] at h
    split at h
    · cases h
    · rename_i v hv
      split at h
      · cases h
      · rename_i r hr'
        simp only [Option.some.injEq] at h
        subst h
        have:=asC_some hv
        subst this
        cases hr with
        | cons h1 h2 =>
          cases h1
          rw [cellsL_ok hr' h2]
def val1 (u:V):Option Value:=match asC u with
  | some v=>some v
  | none=>match u with
    | .ag l=>match cellsL l with
      | none=>none
      | some cs=>some (.agg cs.toArray)
    | _=>none
theorem val1_ok {ρ:Env} {u:V} {x v:Value} (h:val1 u=some v) (hr:VR ρ u x):x=v:=by
  unfold val1 at h
  split at h
  · rename_i z hz
    have:=asC_some hz
    subst this
    simp only [Option.some.injEq] at h
    subst h
    cases hr; rfl
  · split at h
    · split at h
      · cases h
      · rename_i cs hc
        simp only [Option.some.injEq] at h
        subst h
        cases hr with
        | ag hl=>rw [cellsL_ok hc hl]
    · cases h
def valsV:List V→Option (List Value)
  | []=>some []
  | u::t=>match val1 u with
    | none=>none
    | some v=>match valsV t with
      | none=>none
      | some r=>some (v::r)
theorem valsV_ok {ρ:Env}:∀ {l:List V} {cs vals:List Value},valsV l=some cs→VRL ρ l vals→vals=cs
  | [],cs,vals,h,hr=>by
    simp only [valsV,Option.some.injEq] at h
    subst h
    cases hr; rfl
  | u::t,cs,vals,h,hr=>by
    simp only [valsV] at h
    split at h
    · cases h
    · rename_i v hv
      split at h
      · cases h
      · rename_i r hr'
        simp only [Option.some.injEq] at h
        subst h
        cases hr with
        | cons h1 h2=>rw [valsV_ok hr' h2,val1_ok hv h1]
structure LiftK (P:Program) (f:FuncId) (g:List Value→Option (List Cp)):Prop where
  spec:∀ vals r w,g vals=some r→Calls P f vals.toArray w fun e w'=>e=.returned (resW r)∧St w w' noX [] []
def gLift (g:List Value→Option (List Cp)):List (Nat × Ent)→List V→List (Nat × Ent)→Nat→R An:=fun _ vs H nx=>match valsV vs with
  | none=>R.fail
  | some vals=>match g vals with
    | none=>R.fail
    | some r=>R.pure ⟨resV r,H,nx⟩
theorem gLift_ok {P:Program} {f:FuncId} {g:List Value→Option (List Cp)} (h:LiftK P f g) (w0:World) (X:Nat→Prop) (B:List (Nat × Ent)) (vs:List V) (H:List (Nat × Ent)) (nx:Nat):(gLift g B vs H nx).Ok (FunOK P w0 X B f vs H nx):=by
  unfold gLift
  split
  · exact R.Ok.fail
  · rename_i vals hv
    split
    · exact R.Ok.fail
    · rename_i r hr
      refine R.Ok.pure ?_
      intro ρ BM M w vals' h1 h2 h3 h4 h5
      rw [valsV_ok hv h2]
      refine Calls.mono (h.spec vals r w hr) fun e w' he=>?_
      obtain ⟨rfl,h6⟩:=he
      exact ⟨_,rfl,ρ,M,Env.le.refl ρ,h1,res_ok r,h4,by simpa using h5.call h6⟩
def asI (k:IntKind) (v:Value):Option Int:=match asS v with
  | .i k' n=>match kEq k' k with
    | true=>some n
    | false=>none
  | .b _=>none
  | .s _=>none
  | .o=>none
theorem asI_ok {k:IntKind} {v:Value} {n:Int} (h:asI k v=some n):v=.int k n:=by
  unfold asI at h
  split at h
  · rename_i k' m hm
    split at h
    · rename_i hk
      simp only [Option.some.injEq] at h
      subst h
      rw [asS_i hm,kEq_ok hk]
    · cases h
  · cases h
  · cases h
  · cases h
def asB (v:Value):Option Bool:=match asS v with
  | .b x=>some x
  | .i _ _=>none
  | .s _=>none
  | .o=>none
def asT (v:Value):Option ByteArray:=match asS v with
  | .s x=>some x
  | .i _ _=>none
  | .b _=>none
  | .o=>none
theorem asT_ok {v:Value} {n:ByteArray} (h:asT v=some n):v=.string n:=by
  unfold asT at h
  split at h
  · rename_i x hx
    simp only [Option.some.injEq] at h
    subst h; exact asS_s hx
  · cases h
  · cases h
  · cases h
def aggs (v:Value):Option (List Value):=match v with
  | .agg a=>some a.toList
  | _=>none
theorem aggs_ok {v:Value} {l:List Value} (h:aggs v=some l):v=.agg l.toArray:=by
  unfold aggs at h
  split at h
  · simp only [Option.some.injEq] at h
    subst h; simp
  · cases h
end Go.RX
