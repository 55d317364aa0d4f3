/- Part of a proof: laws. -/
import Derived.Test.YtnabkmkkmkbkfaaGreatDoorRX14
set_option linter.unusedVariables false
set_option linter.unusedSimpArgs false
namespace Go.RX
open Go Go.SL
def Pure0 (P:Program) (f:FuncId) (c:Value):Prop:=∀ w,Calls P f #[] w fun e w'=>e=.returned c∧St w w' noX [] []
def ansC (x:Option An) (c:Value):Prop:=∃ H nx,x=some ⟨.c c,H,nx⟩
theorem pure0_of {P:Program} {kp:FuncId→Bool} {Sm:SmT} {wrF:FuncId→Bool} {F m:Nat} {f:FuncId} {c:Value} (hS:∀ f g,Sm f=some g→∀ w0 X B vs H nx,(g B vs H nx).Ok (FunOK P w0 X B f vs H nx))
    (h:ansC ((hT P kp Sm wrF F m).call [] f [] [] 0).conc c):Pure0 P f c:=fun w=>by
  obtain ⟨H,nx,h⟩:=h
  have hk:=((hT_ok hS m).call w noX [] f [] [] 0).conc _ h ⟨fun _=>none,0,fun _ _=>rfl⟩ [] [] w [] rfl .nil .nil .nil (St.refl w)
  refine Calls.mono hk fun e w' he=>?_
  obtain ⟨v',rfl,ρ',M',_,_,h3,h4,h5⟩:=he
  cases h3 with
  | c=>exact ⟨rfl,h5.sub (List.nil_sublist _)⟩
def gPure (c:Value):List (Nat × Ent)→List V→List (Nat × Ent)→Nat→R An:=fun _ vs H nx=>match vs with
  | []=>R.pure ⟨.c c,H,nx⟩
  | _::_=>R.fail
def isTrueA (x:Option An):Bool:=match x with
  | some z=>match z.v with
    | .c (.bool b)=>b
    | _=>false
  | none=>false
theorem isTrueA_ans {x:Option An} (h:isTrueA x=true):ansC x (.bool true):=by
  unfold isTrueA at h
  split at h
  · rename_i z
    split at h
    · rename_i b hb
      subst h
      obtain ⟨v,H,nx⟩:=z
      simp only at hb
      subst hb
      exact ⟨H,nx,rfl⟩
    · cases h
  · cases h
end Go.RX

namespace Go.RX
open Go Go.SL
inductive Cp where
  | s (v:Value)
  | a (l:List Value)
def cpV:Cp→V
  | .s v=>.c v
  | .a l=>.ag (l.map .c)
def cpW:Cp→Value
  | .s v=>v
  | .a l=>.agg l.toArray
def resV:List Cp→V
  | []=>.tu []
  | c::t=>match t with
    | []=>cpV c
    | _::_=>.tu ((c::t).map cpV)
def resW:List Cp→Value
  | []=>.tuple #[]
  | c::t=>match t with
    | []=>cpW c
    | _::_=>.tuple ((c::t).map cpW).toArray
theorem vrl_c {ρ:Env}:∀ l:List Value,VRL ρ (l.map .c) l
  | []=>.nil
  | _::t=>.cons .c (vrl_c t)
theorem cp_ok {ρ:Env}:∀ c:Cp,VR ρ (cpV c) (cpW c)
  | .s _=>.c
  | .a l=>.ag (vrl_c l)
theorem vrl_cp {ρ:Env}:∀ l:List Cp,VRL ρ (l.map cpV) (l.map cpW)
  | []=>.nil
  | c::t=>.cons (cp_ok c) (vrl_cp t)
theorem res_ok {ρ:Env}:∀ l:List Cp,VR ρ (resV l) (resW l)
  | []=>.tu .nil
  | [c]=>cp_ok c
  | c::d::t=>.tu (vrl_cp (c::d::t))
def cellsL:List V→Option (List Value)
  | []=>some []
  | u::t=>match asC u with
    | none=>none
    | some v=>match cellsL t with
      | none=>none
      | some r=>some (v::r)
theorem cellsL_ok {ρ:Env}:∀ {l:List V} {cs vals:List Value},cellsL l=some cs→VRL ρ l vals→vals=cs
  | [],cs,vals,h,hr=>by
    simp only [cellsL,Option.some.injEq] at h
    subst h
    cases hr; rfl
  | u::t,cs,vals,h,hr=>by
    simp only [cellsL] at h
    split at h
    · cases h
    · rename_i v hv
      split at h
      · cases h
      · rename_i r hr'
        simp only [Option.some.injEq] at h
        subst h
        have:=asC_some hv
        subst this
        cases hr with
        | cons h1 h2 =>
          cases h1
          rw [cellsL_ok hr' h2]
def val1 (u:V):Option Value:=match asC u with
  | some v=>some v
  | none=>match u with
    | .ag l=>match cellsL l with
      | none=>none
      | some cs=>some (.agg cs.toArray)
    | _=>none
theorem val1_ok {ρ:Env} {u:V} {x v:Value} (h:val1 u=some v) (hr:VR ρ u x):x=v:=by
  unfold val1 at h
  split at h
  · rename_i z hz
    have:=asC_some hz
    subst this
    simp only [Option.some.injEq] at h
    subst h
    cases hr; rfl
  · split at h
    · split at h
      · cases h
      · rename_i cs hc
        simp only [Option.some.injEq] at h
        subst h
        cases hr with
        | ag hl=>rw [cellsL_ok hc hl]
    · cases h
def valsV:List V→Option (List Value)
  | []=>some []
  | u::t=>match val1 u with
    | none=>none
    | some v=>match valsV t with
      | none=>none
      | some r=>some (v::r)
theorem valsV_ok {ρ:Env}:∀ {l:List V} {cs vals:List Value},valsV l=some cs→VRL ρ l vals→vals=cs
  | [],cs,vals,h,hr=>by
    simp only [valsV,Option.some.injEq] at h
    subst h
    cases hr; rfl
  | u::t,cs,vals,h,hr=>by
    simp only [valsV] at h
    split at h
    · cases h
    · rename_i v hv
      split at h
      · cases h
      · rename_i r hr'
        simp only [Option.some.injEq] at h
        subst h
        cases hr with
        | cons h1 h2=>rw [valsV_ok hr' h2,val1_ok hv h1]
structure LiftK (P:Program) (f:FuncId) (g:List Value→Option (List Cp)):Prop where
  spec:∀ vals r w,g vals=some r→Calls P f vals.toArray w fun e w'=>e=.returned (resW r)∧St w w' noX [] []
def gLift (g:List Value→Option (List Cp)):List (Nat × Ent)→List V→List (Nat × Ent)→Nat→R An:=fun _ vs H nx=>match valsV vs with
  | none=>R.fail
  | some vals=>match g vals with
    | none=>R.fail
    | some r=>R.pure ⟨resV r,H,nx⟩
theorem gLift_ok {P:Program} {f:FuncId} {g:List Value→Option (List Cp)} (h:LiftK P f g) (w0:World) (X:Nat→Prop) (B:List (Nat × Ent)) (vs:List V) (H:List (Nat × Ent)) (nx:Nat):(gLift g B vs H nx).Ok (FunOK P w0 X B f vs H nx):=by
  unfold gLift
  split
  · exact R.Ok.fail
  · rename_i vals hv
    split
    · exact R.Ok.fail
    · rename_i r hr
      refine R.Ok.pure ?_
      intro ρ BM M w vals' h1 h2 h3 h4 h5
      rw [valsV_ok hv h2]
      refine Calls.mono (h.spec vals r w hr) fun e w' he=>?_
      obtain ⟨rfl,h6⟩:=he
      exact ⟨_,rfl,ρ,M,Env.le.refl ρ,h1,res_ok r,h4,by simpa using h5.call h6⟩
def asI (k:IntKind) (v:Value):Option Int:=match asS v with
  | .i k' n=>match kEq k' k with
    | true=>some n
    | false=>none
  | .b _=>none
  | .s _=>none
  | .o=>none
theorem asI_ok {k:IntKind} {v:Value} {n:Int} (h:asI k v=some n):v=.int k n:=by
  unfold asI at h
  split at h
  · rename_i k' m hm
    split at h
    · rename_i hk
      simp only [Option.some.injEq] at h
      subst h
      rw [asS_i hm,kEq_ok hk]
    · cases h
  · cases h
  · cases h
  · cases h
def asB (v:Value):Option Bool:=match asS v with
  | .b x=>some x
  | .i _ _=>none
  | .s _=>none
  | .o=>none
def asT (v:Value):Option ByteArray:=match asS v with
  | .s x=>some x
  | .i _ _=>none
  | .b _=>none
  | .o=>none
theorem asT_ok {v:Value} {n:ByteArray} (h:asT v=some n):v=.string n:=by
  unfold asT at h
  split at h
  · rename_i x hx
    simp only [Option.some.injEq] at h
    subst h; exact asS_s hx
  · cases h
  · cases h
  · cases h
def aggs (v:Value):Option (List Value):=match v with
  | .agg a=>some a.toList
  | _=>none
theorem aggs_ok {v:Value} {l:List Value} (h:aggs v=some l):v=.agg l.toArray:=by
  unfold aggs at h
  split at h
  · simp only [Option.some.injEq] at h
    subst h; simp
  · cases h
end Go.RX

namespace Go.RX
open Go Go.SL
inductive Ar where
  | v (x:Value)
  | l (rows:List (List Value))
  | g (cs:List Ar)
def AtOK (h:Hp):Ar→Value→Prop
  | .v x,u=>u=x
  | .l rows,u=>∃ sz,rdOK h sz u rows.length rows.flatten∧vfit u∧∀ r ∈ rows,r.length=sz
  | .g _,_=>False
inductive AtsOK (h:Hp):List Ar→List Value→Prop
  | nil:AtsOK h [] []
  | cons {a u as us} (h1:AtOK h a u) (t:AtsOK h as us):AtsOK h (a::as) (u::us)
def ArOK (h:Hp) (a:Ar) (u:Value):Prop:=match a with
  | .g cs=>∃ us:List Value,u=.agg us.toArray∧AtsOK h cs us
  | .v x=>u=x
  | .l rows=>∃ sz,rdOK h sz u rows.length rows.flatten∧vfit u∧∀ r ∈ rows,r.length=sz
inductive ArsOK (h:Hp):List Ar→List Value→Prop
  | nil:ArsOK h [] []
  | cons {a u as us} (h1:ArOK h a u) (t:ArsOK h as us):ArsOK h (a::as) (u::us)
def rowsL {α:Type} (C:Cd α):List α→Option (List (List Value))
  | []=>some []
  | x::t=>match cellsL (C.enc x) with
    | none=>none
    | some r=>match rowsL C t with
      | none=>none
      | some rs=>some (r::rs)
theorem rowsL_ok {α:Type} {C:Cd α} {ρ:Env}:∀ {xs:List α} {ys:List (Row C.sz)} {rs:List (List Value)},rowsL C xs=some rs→RL ρ C xs ys→rs=ys.map (·.1)
  | [],ys,rs,h,hr=>by
    simp only [rowsL,Option.some.injEq] at h
    subst h; cases hr; rfl
  | x::t,ys,rs,h,hr=>by
    simp only [rowsL] at h
    split at h
    · cases h
    · rename_i r h1
      split at h
      · cases h
      · rename_i rs' h2
        simp only [Option.some.injEq] at h
        subst h
        cases hr with
        | cons g1 g2 =>
          rw [rowsL_ok h2 g2,← cellsL_ok h1 g1]; rfl
def atQ (B H:List (Nat × Ent)) (u:V):Option Ar:=match u with
  | .sl e=>match rdA ⟨.e,H,0,[]⟩ B e with
    | some (.arr _ k xs)=>(rowsL k.cd xs).map .l
    | _=>none
  | _=>(val1 u).map .v
def atsQ (B H:List (Nat × Ent)):List V→Option (List Ar)
  | []=>some []
  | u::t=>match atQ B H u with
    | none=>none
    | some a=>match atsQ B H t with
      | none=>none
      | some r=>some (a::r)
def argQ (B H:List (Nat × Ent)) (u:V):Option Ar:=match atQ B H u with
  | some a=>some a
  | none=>match u with
    | .ag l=>(atsQ B H l).map .g
    | _=>none
def argsQ (B H:List (Nat × Ent)):List V→Option (List Ar)
  | []=>some []
  | u::t=>match argQ B H u with
    | none=>none
    | some a=>match argsQ B H t with
      | none=>none
      | some r=>some (a::r)
theorem flat_encW {sz:Nat}:∀ ys:List (Row sz),(ys.map (·.1)).flatten=encs (encW sz) ys
  | []=>rfl
  | y::t=>by
    show y.1++(t.map (·.1)).flatten=y.1++encs (encW sz) t
    rw [flat_encW t]
theorem atQ_ok {ρ:Env} {B H:List (Nat × Ent)} {u:V} {a:Ar} {x:Value} {w:World} (hS:Sees ρ B ⟨.e,H,0,[]⟩ [] w) (h:atQ B H u=some a) (hr:VR ρ u x):AtOK (hp w) a x:=by
  unfold atQ at h
  split at h
  · rename_i e
    split at h
    · rename_i ty k xs he
      obtain ⟨rs,h1,h2⟩:=Option.map_eq_some_iff.1 h
      subst h2
      obtain ⟨v,ys,g1,g2,g3⟩:=hS.en e _ he
      cases hr with
      | sl g4 g5 =>
        rw [g1] at g4
        simp only [Option.some.injEq] at g4
        subst g4
        have e1:=rowsL_ok h1 g2
        subst e1
        refine ⟨k.cd.sz,?_,g3.2,?_⟩
        · rw [List.length_map,flat_encW]; exact g3.1
        · intro r hr
          obtain ⟨y,_,rfl⟩:=List.mem_map.1 hr
          exact y.2.1
    · cases h
  · obtain ⟨v,h1,h2⟩:=Option.map_eq_some_iff.1 h
    subst h2
    exact val1_ok h1 hr
theorem AtOK.ar {h:Hp} {a:Ar} {u:Value} (k:AtOK h a u):ArOK h a u:=by
  cases a with
  | v x=>exact k
  | l r=>exact k
  | g c=>exact k.elim
theorem atsQ_ok {ρ:Env} {B H:List (Nat × Ent)} {w:World} (hS:Sees ρ B ⟨.e,H,0,[]⟩ [] w):∀ {us:List V} {as:List Ar} {xs:List Value},atsQ B H us=some as→VRL ρ us xs→AtsOK (hp w) as xs
  | [],as,xs,h,hr=>by
    simp only [atsQ,Option.some.injEq] at h
    subst h; cases hr; exact .nil
  | u::t,as,xs,h,hr=>by
    simp only [atsQ] at h
    split at h
    · cases h
    · rename_i a h1
      split at h
      · cases h
      · rename_i r h2
        simp only [Option.some.injEq] at h
        subst h
        cases hr with
        | cons g1 g2=>exact .cons (atQ_ok hS h1 g1) (atsQ_ok hS h2 g2)
theorem argQ_ok {ρ:Env} {B H:List (Nat × Ent)} {u:V} {a:Ar} {x:Value} {w:World} (hS:Sees ρ B ⟨.e,H,0,[]⟩ [] w) (h:argQ B H u=some a) (hr:VR ρ u x):ArOK (hp w) a x:=by
  unfold argQ at h
  split at h
  · rename_i b hb
    simp only [Option.some.injEq] at h
    subst h
    exact (atQ_ok hS hb hr).ar
  · split at h
    · obtain ⟨v,h1,h2⟩:=Option.map_eq_some_iff.1 h
      subst h2
      cases hr with
      | ag g=>exact ⟨_,rfl,atsQ_ok hS h1 g⟩
    · cases h
theorem argsQ_ok {ρ:Env} {B H:List (Nat × Ent)} {w:World} (hS:Sees ρ B ⟨.e,H,0,[]⟩ [] w):∀ {us:List V} {as:List Ar} {xs:List Value},argsQ B H us=some as→VRL ρ us xs→ArsOK (hp w) as xs
  | [],as,xs,h,hr=>by
    simp only [argsQ,Option.some.injEq] at h
    subst h; cases hr; exact .nil
  | u::t,as,xs,h,hr=>by
    simp only [argsQ] at h
    split at h
    · cases h
    · rename_i a h1
      split at h
      · cases h
      · rename_i r h2
        simp only [Option.some.injEq] at h
        subst h
        cases hr with
        | cons g1 g2=>exact .cons (argQ_ok hS h1 g1) (argsQ_ok hS h2 g2)
structure LiftS (P:Program) (f:FuncId) (ty:TypeId) (sz:Nat) (g:List Ar→Option (List (List Value) × List Cp)):Prop where
  spec:∀ args vals r w,ArsOK (hp w) args vals→g args=some r→Calls P f vals.toArray w fun e w'=>∃ v,e=.returned (.tuple (v::r.2.map cpW).toArray)∧(∀ x ∈ r.1,x.length=sz∧oneCells x=true)∧St w w' noX [] [SL.sl ty sz v r.1.length r.1.flatten]
def gLiftS (ty:TypeId) (sz:Nat) (g:List Ar→Option (List (List Value) × List Cp)):List (Nat × Ent)→List V→List (Nat × Ent)→Nat→R An:=fun B vs H nx=>match argsQ B H vs with
  | none=>R.fail
  | some args=>match g args with
    | none=>R.fail
    | some r=>R.pure ⟨.tu (.sl nx::r.2.map cpV),(nx,.arr ty (.row sz) (r.1.map fun x=>x.map V.c))::H,nx+1⟩
def arV:Ar→Option Value
  | .v x=>some x
  | _=>none
def mapO {T:Type} (d:List Value→Option T):List (List Value)→Option (List T)
  | []=>some []
  | r::t=>match d r with
    | none=>none
    | some x=>match mapO d t with
      | none=>none
      | some l=>some (x::l)
def isNil:Value→Bool
  | .slice none 0 0=>true
  | _=>false
def arL {T:Type} (d:List Value→Option T):Ar→Option (List T)
  | .l rows=>mapO d rows
  | .v x=>match isNil x with
    | true=>some []
    | false=>none
  | .g _=>none
theorem seesHB {ρ:Env} {B H:List (Nat × Ent)} {BM M:List Asr} {w0 w:World} {X:Nat→Prop} (hB:HR (EB ρ) B BM) (hH:HR (ER ρ) H M) (hst:St w0 w X BM M):Sees ρ B ⟨.e,H,0,[]⟩ [] w:=⟨(fun k u h=>by rw [lkV_e] at h; cases h),fun e' ent he=>by
    unfold rdA at he
    split at he
    · rename_i x hx
      simp only [Option.some.injEq] at he
      subst he
      obtain ⟨p,h1,h2⟩:=hH.get hx
      cases x with
      | cel l ty=>obtain ⟨b,cs,h3,h4,rfl⟩:=h2; exact ⟨b,cs,h3,h4,hst.ptAt h1⟩
      | arr ty k xs=>obtain ⟨v,ys,h3,h4,rfl⟩:=h2; exact ⟨v,ys,h3,h4,hst.rdS h1⟩
      | loop z=>trivial
      | mark=>trivial
      | map l=>obtain ⟨b,kvs,h3,h4,rfl⟩:=h2; exact ⟨b,kvs,h3,h4,hst.at_ h1⟩
    · obtain ⟨p,h1,h2⟩:=hB.get he
      cases ent with
      | cel l ty=>obtain ⟨b,cs,h3,h4,rfl⟩:=h2; exact ⟨b,cs,h3,h4,hst.bptAt h1⟩
      | arr ty k xs=>obtain ⟨v,ys,h3,h4,rfl⟩:=h2; exact ⟨v,ys,h3,h4,hst.rdB h1⟩
      | loop z=>trivial
      | mark=>trivial
      | map l=>obtain ⟨b,kvs,h3,h4,rfl⟩:=h2; exact ⟨b,kvs,h3,h4,hst.bat h1⟩⟩
theorem mapO_ok {T:Type} {d:List Value→Option T} {E:T→List Value} (hd:∀ r x,d r=some x→r=E x):∀ {rows:List (List Value)} {l:List T},mapO d rows=some l→rows=l.map E
  | [],l,h=>by
    simp only [mapO,Option.some.injEq] at h
    subst h; rfl
  | r::t,l,h=>by
    simp only [mapO] at h
    split at h
    · cases h
    · rename_i x h1
      split at h
      · cases h
      · rename_i l' h2
        simp only [Option.some.injEq] at h
        subst h
        rw [hd r x h1,mapO_ok hd h2]; rfl
theorem flat_map {T:Type} (E:T→List Value):∀ l:List T,(l.map E).flatten=encs E l
  | []=>rfl
  | x::t=>by
    show E x++(t.map E).flatten=E x++encs E t
    rw [flat_map E t]
theorem arL_ok {T:Type} {d:List Value→Option T} {E:T→List Value} {sz:Nat} {h:Hp} {a:Ar} {u:Value} {l:List T} (hd:∀ r x,d r=some x→r=E x) (hE:∀ x,(E x).length=sz) (ha:arL d a=some l) (hu:ArOK h a u):rdEOK h sz E u l:=by
  cases a with
  | g c=>cases ha
  | v x =>
    simp only [arL] at ha
    split at ha
    · rename_i hn
      simp only [Option.some.injEq] at ha
      subst ha
      have hu:u=x:=hu
      subst hu
      unfold isNil at hn
      split at hn
      · exact rdEOK_nil
      · cases hn
    · cases ha
  | l rows =>
    have e:=mapO_ok hd (show mapO d rows=some l from ha)
    obtain ⟨s',h1,h2,h3⟩:=hu
    rw [e,List.length_map,flat_map] at h1
    refine ⟨?_,h2⟩
    obtain ⟨g1,g2⟩:=h1
    exact ⟨by rw [encs_len hE],g2⟩
theorem arV_ok {h:Hp} {a:Ar} {u x:Value} (ha:arV a=some x) (hu:ArOK h a u):u=x:=by
  cases a with
  | v y =>
    simp only [arV,Option.some.injEq] at ha
    subst ha; exact hu
  | l r=>cases ha
  | g r=>cases ha
structure LiftA (P:Program) (f:FuncId) (g:List Ar→Option (List Cp)):Prop where
  spec:∀ args vals r w,ArsOK (hp w) args vals→g args=some r→Calls P f vals.toArray w fun e w'=>e=.returned (resW r)∧St w w' noX [] []
def gLiftA (g:List Ar→Option (List Cp)):List (Nat × Ent)→List V→List (Nat × Ent)→Nat→R An:=fun B vs H nx=>match argsQ B H vs with
  | none=>R.fail
  | some args=>match g args with
    | none=>R.fail
    | some r=>R.pure ⟨resV r,H,nx⟩
theorem gLiftA_ok {P:Program} {f:FuncId} {g:List Ar→Option (List Cp)} (h:LiftA P f g) (w0:World) (X:Nat→Prop) (B:List (Nat × Ent)) (vs:List V) (H:List (Nat × Ent)) (nx:Nat):(gLiftA g B vs H nx).Ok (FunOK P w0 X B f vs H nx):=by
  unfold gLiftA
  split
  · exact R.Ok.fail
  · rename_i vals hv
    split
    · exact R.Ok.fail
    · rename_i r hr
      refine R.Ok.pure ?_
      intro ρ BM M w vals' h1 h2 h3 h4 h5
      have hS:=seesHB h3 h4 h5
      refine Calls.mono (h.spec vals vals' r w (argsQ_ok hS hv h2) hr) fun e w' he=>?_
      obtain ⟨rfl,h6⟩:=he
      exact ⟨_,rfl,ρ,M,Env.le.refl ρ,h1,res_ok r,h4,by simpa using h5.call h6⟩
def arG:Ar→Option (List Ar)
  | .g cs=>some cs
  | .v x=>match x with
    | .agg a=>some (a.toList.map .v)
    | _=>none
  | .l _=>none
theorem atsV {h:Hp}:∀ l:List Value,AtsOK h (l.map .v) l
  | []=>.nil
  | _::t=>.cons rfl (atsV t)
theorem arG_ok {h:Hp} {a:Ar} {u:Value} {cs:List Ar} (ha:arG a=some cs) (hu:ArOK h a u):∃ us:List Value,u=.agg us.toArray∧AtsOK h cs us:=by
  cases a with
  | g c =>
    simp only [arG,Option.some.injEq] at ha
    subst ha; exact hu
  | v x =>
    have hu:u=x:=hu
    subst hu
    unfold arG at ha
    simp only at ha
    split at ha
    · simp only [Option.some.injEq] at ha
      subst ha
      exact ⟨_,by simp,atsV _⟩
    · cases ha
  | l r=>cases ha
end Go.RX
