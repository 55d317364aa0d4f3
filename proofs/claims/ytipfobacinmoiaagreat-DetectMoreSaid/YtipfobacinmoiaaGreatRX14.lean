/- Code with all that hangs on the text alone done first. -/
import Derived.Test.YtipfobacinmoiaaGreatRX13
set_option linter.unusedVariables false
set_option linter.unusedSimpArgs false
namespace Go.RX
open Go Go.SL
universe u u'
def hDw (P:Program) (wrF:FuncId→Bool) (T:Tab):Drw:=fun B n ops s=>(hdraw P wrF n ops).run B T s
structure HC where
  run:List (Nat × Ent)→Tab→S→R (Ex × S)
def hcode (P:Program) (wrF:FuncId→Bool) (F:Nat) (rg:Bool) (n:Nat):Code→HC
  | .skip=>⟨fun _ _ s=>R.pure (.n,s)⟩
  | .region _ ops dr=>match dr with
    | false=>⟨fun B T s=>((hops P n ops ops.toList).run B T s).bind fun s'=>R.pure (.n,s')⟩
    | true=>⟨fun B T s=>((hdraw P wrF n ops).run B T s).bind fun s'=>R.pure (.n,s')⟩
  | .seq a b=>⟨fun B T s=>((hcode P wrF F rg n a).run B T s).bind fun z=>match z.1 with
    | .n=>(hcode P wrF F rg n b).run B T z.2
    | .r=>R.pure (.r,z.2)
    | .x id=>R.pure (.x id,z.2)⟩
  | .cond c a b=>⟨fun B T s=>(R.lift ((hget c).run s)).bind fun u=>match u with
    | .c (.bool z)=>(askB z).bind fun z'=>match z' with
      | true=>(hcode P wrF F rg n a).run B T s
      | false=>(hcode P wrF F rg n b).run B T s
    | _=>R.fail⟩
  | .block id c=>⟨fun B T s=>((hcode P wrF F rg n c).run B T s).bind fun z=>match z.1 with
    | .x k=>match Nat.beq k id with
      | true=>R.pure (.n,z.2)
      | false=>R.pure (.x k,z.2)
    | .n=>R.pure (.n,z.2)
    | .r=>R.pure (.r,z.2)⟩
  | .loop c=>⟨fun B T s=>xloop F (fun s=>(hcode P wrF F rg n c).run B T s) s⟩
  | .exit id=>⟨fun _ _ s=>R.pure (.x id,s)⟩
  | .ret=>⟨fun _ _ s=>R.pure (.r,s)⟩
  | .label l=>⟨fun _ _ s=>R.pure (.n,s)⟩
  | .rangeFunc g ps asg body=>⟨fun B T s=>xcode P B T (hDw P wrF T) F rg n (.rangeFunc g ps asg body) s⟩
  | .scope c=>hcode P wrF F rg n c
  | .goto _=>⟨fun _ _ _=>R.fail⟩
  | .refuse _=>⟨fun _ _ _=>R.fail⟩
theorem hcode_eq (P:Program) (wrF:FuncId→Bool) (F:Nat) (rg:Bool) (n:Nat) (B:List (Nat × Ent)) (T:Tab):∀ (c:Code) (s:S),(hcode P wrF F rg n c).run B T s=xcode P B T (hDw P wrF T) F rg n c s
  | .skip,s=>rfl
  | .region _ ops false,s=>by simp only [hcode,xcode,hops_eq]
  | .region _ ops true,s=>rfl
  | .seq a b,s=>by
    simp only [hcode,xcode,hcode_eq P wrF F rg n B T a]
    congr 1
    funext z
    obtain ⟨e,s'⟩:=z
    cases e with
    | n=>exact hcode_eq P wrF F rg n B T b s'
    | r=>rfl
    | x id=>rfl
  | .cond c a b,s=>by
    simp only [hcode,xcode,hget_eq,hcode_eq P wrF F rg n B T a,hcode_eq P wrF F rg n B T b]; rfl
  | .block id c,s=>by
    simp only [hcode,xcode,hcode_eq P wrF F rg n B T c]
    congr 1
    funext z
    obtain ⟨e,s'⟩:=z
    cases e <;> rfl
  | .loop c,s=>by
    simp only [hcode,xcode]
    congr 1
    funext s'
    exact hcode_eq P wrF F rg n B T c s'
  | .exit id,s=>rfl
  | .ret,s=>rfl
  | .label l,s=>rfl
  | .rangeFunc g ps asg body,s=>rfl
  | .scope c,s=>hcode_eq P wrF F rg n B T c s
  | .goto _,s=>rfl
  | .refuse _,s=>rfl
structure HF where
  run:List (Nat × Ent)→Tab→List V→List (Nat × Ent)→Nat→R An
def hfun (P:Program) (kp:FuncId→Bool) (wrF:FuncId→Bool) (F:Nat) (f:FuncId):HF:=match P.funcs[f]? with
  | none=>⟨fun _ _ _ _ _=>R.fail⟩
  | some fn=>match fn.body with
    | none=>⟨fun _ _ _ _ _=>R.fail⟩
    | some c=>⟨fun B T vs H nx=>match Nat.ble vs.length fn.ntmps with
      | false=>R.fail
      | true=>((hcode P wrF F true fn.ntmps c).run B T ⟨argsV 0 vs,H,nx,[]⟩).bind fun z=>match z.1 with
        | .x _=>R.fail
        | _=>(R.lift (leaveH z.2.df z.2.H)).bind fun H2=>(R.lift (xresL P ⟨z.2.fr,H2,z.2.nx,[]⟩ fn.results.toList)).bind fun l=>R.pure ⟨oneRes l,endF (!kp f&&hidesV vs) nx (oneRes l) H2,z.2.nx⟩⟩
theorem hfun_eq (P:Program) (kp:FuncId→Bool) (wrF:FuncId→Bool) (F:Nat) (f:FuncId) (B:List (Nat × Ent)) (T:Tab) (vs:List V) (H:List (Nat × Ent)) (nx:Nat):(hfun P kp wrF F f).run B T vs H nx=xfun P kp B T (hDw P wrF T) F f vs H nx:=by
  unfold hfun xfun
  cases P.funcs[f]? with
  | none=>rfl
  | some fn =>
    cases hb:fn.body with
    | none=>simp only [hb]
    | some c=>simp only [hb,hcode_eq]; rfl
abbrev SmT:=FuncId→Option (List (Nat × Ent)→List V→List (Nat × Ent)→Nat→R An)
def hT (P:Program) (kp:FuncId→Bool) (Sm:SmT) (wrF:FuncId→Bool) (F:Nat):Nat→Tab
  | 0=>⟨fun _ _ _ _ _=>R.fail,fun _ _ _ _=>R.fail⟩
  | m+1=>⟨fun B f vs H nx=>match Sm f with
    | some g=>g B vs H nx
    | none=>(hfun P kp wrF F f).run B (hT P kp Sm wrF F m) vs H nx,
    fun B n c s=>(hcode P wrF F false n c).run B (hT P kp Sm wrF F m) s⟩
theorem hT_eq (P:Program) (kp:FuncId→Bool) (Sm:SmT) (wrF:FuncId→Bool) (F:Nat):∀ m,hT P kp Sm wrF F m=xT P kp Sm (hDw P wrF) F m
  | 0=>rfl
  | m+1=>by
    simp only [hT,xT,hT_eq P kp Sm wrF F m,hfun_eq,hcode_eq]; rfl
theorem hT_ok {P:Program} {kp:FuncId→Bool} {Sm:SmT} {wrF:FuncId→Bool} {F:Nat} (hS:∀ f g,Sm f=some g→∀ w0 X B vs H nx,(g B vs H nx).Ok (FunOK P w0 X B f vs H nx)) (m:Nat):TabOK P (hT P kp Sm wrF F m):=by
  rw [hT_eq]; exact xT_ok hS (fun T hT=>hdraw_ok hT) m
end Go.RX
