/- Part of a proof: laws. -/
import Derived.Test.YtfaflenaajafgaaGreatDoorRX14
set_option linter.unusedVariables false
set_option linter.unusedSimpArgs false
namespace Go.RX
open Go Go.SL
def Pure0 (P:Program) (f:FuncId) (c:Value):Prop:=∀ w,Calls P f #[] w fun e w'=>e=.returned c∧St w w' noX [] []
def ansC (x:Option An) (c:Value):Prop:=∃ H nx,x=some ⟨.c c,H,nx⟩
def gPure (c:Value):List (Nat × Ent)→List V→List (Nat × Ent)→Nat→R An:=fun _ vs H nx=>match vs with
  | []=>R.pure ⟨.c c,H,nx⟩
  | _::_=>R.fail
def isTrueA (x:Option An):Bool:=match x with
  | some z=>match z.v with
    | .c (.bool b)=>b
    | _=>false
  | none=>false
theorem isTrueA_ans {x:Option An} (h:isTrueA x=true):ansC x (.bool true):=by
  unfold isTrueA at h
  split at h
  · rename_i z
    split at h
    · rename_i b hb
      subst h
      obtain ⟨v,H,nx⟩:=z
      simp only at hb
      subst hb
      exact ⟨H,nx,rfl⟩
    · cases h
  · cases h
end Go.RX

namespace Go.RX
open Go Go.SL
inductive Cp where
  | s (v:Value)
  | a (l:List Value)
def cpV:Cp→V
  | .s v=>.c v
  | .a l=>.ag (l.map .c)
def cpW:Cp→Value
  | .s v=>v
  | .a l=>.agg l.toArray
def resV:List Cp→V
  | []=>.tu []
  | c::t=>match t with
    | []=>cpV c
    | _::_=>.tu ((c::t).map cpV)
def resW:List Cp→Value
  | []=>.tuple #[]
  | c::t=>match t with
    | []=>cpW c
    | _::_=>.tuple ((c::t).map cpW).toArray
theorem vrl_c {ρ:Env}:∀ l:List Value,VRL ρ (l.map .c) l
  | []=>.nil
  | _::t=>.cons .c (vrl_c t)
theorem cp_ok {ρ:Env}:∀ c:Cp,VR ρ (cpV c) (cpW c)
  | .s _=>.c
  | .a l=>.ag (vrl_c l)
theorem vrl_cp {ρ:Env}:∀ l:List Cp,VRL ρ (l.map cpV) (l.map cpW)
  | []=>.nil
  | c::t=>.cons (cp_ok c) (vrl_cp t)
theorem res_ok {ρ:Env}:∀ l:List Cp,VR ρ (resV l) (resW l)
  | []=>.tu .nil
  | [c]=>cp_ok c
  | c::d::t=>.tu (vrl_cp (c::d::t))
def cellsL:List V→Option (List Value)
  | []=>some []
  | u::t=>match asC u with
    | none=>none
    | some v=>match cellsL t with
      | none=>none
      | some r=>some (v::r)
theorem cellsL_ok {ρ:Env}:∀ {l:List V} {cs vals:List Value},cellsL l=some cs→VRL ρ l vals→vals=cs
  | [],cs,vals,h,hr=>by
    simp only [cellsL,Option.some.injEq] at h
    subst h
    cases hr; rfl
  | u::t,cs,vals,h,hr=>by
    simp only [cellsL] at h
    split at h
    · cases h
    · rename_i v hv
      split at h
      · cases h
      · rename_i r hr'
        simp only [Option.some.injEq] at h
        subst h
        have:=asC_some hv
        subst this
        cases hr with
        | cons h1 h2 =>
          cases h1
          rw [cellsL_ok hr' h2]
def val1 (u:V):Option Value:=match asC u with
  | some v=>some v
  | none=>match u with
    | .ag l=>match cellsL l with
      | none=>none
      | some cs=>some (.agg cs.toArray)
    | _=>none
theorem val1_ok {ρ:Env} {u:V} {x v:Value} (h:val1 u=some v) (hr:VR ρ u x):x=v:=by
  unfold val1 at h
  split at h
  · rename_i z hz
    have:=asC_some hz
    subst this
    simp only [Option.some.injEq] at h
    subst h
    cases hr; rfl
  · split at h
    · split at h
      · cases h
      · rename_i cs hc
        simp only [Option.some.injEq] at h
        subst h
        cases hr with
        | ag hl=>rw [cellsL_ok hc hl]
    · cases h
def valsV:List V→Option (List Value)
  | []=>some []
  | u::t=>match val1 u with
    | none=>none
    | some v=>match valsV t with
      | none=>none
      | some r=>some (v::r)
theorem valsV_ok {ρ:Env}:∀ {l:List V} {cs vals:List Value},valsV l=some cs→VRL ρ l vals→vals=cs
  | [],cs,vals,h,hr=>by
    simp only [valsV,Option.some.injEq] at h
    subst h
    cases hr; rfl
  | u::t,cs,vals,h,hr=>by
    simp only [valsV] at h
    split at h
    · cases h
    · rename_i v hv
      split at h
      · cases h
      · rename_i r hr'
        simp only [Option.some.injEq] at h
        subst h
        cases hr with
        | cons h1 h2=>rw [valsV_ok hr' h2,val1_ok hv h1]
structure LiftK (P:Program) (f:FuncId) (g:List Value→Option (List Cp)):Prop where
  spec:∀ vals r w,g vals=some r→Calls P f vals.toArray w fun e w'=>e=.returned (resW r)∧St w w' noX [] []
def gLift (g:List Value→Option (List Cp)):List (Nat × Ent)→List V→List (Nat × Ent)→Nat→R An:=fun _ vs H nx=>match valsV vs with
  | none=>R.fail
  | some vals=>match g vals with
    | none=>R.fail
    | some r=>R.pure ⟨resV r,H,nx⟩
theorem gLift_ok {P:Program} {f:FuncId} {g:List Value→Option (List Cp)} (h:LiftK P f g) (w0:World) (X:Nat→Prop) (B:List (Nat × Ent)) (vs:List V) (H:List (Nat × Ent)) (nx:Nat):(gLift g B vs H nx).Ok (FunOK P w0 X B f vs H nx):=by
  unfold gLift
  split
  · exact R.Ok.fail
  · rename_i vals hv
    split
    · exact R.Ok.fail
    · rename_i r hr
      refine R.Ok.pure ?_
      intro ρ BM M w vals' h1 h2 h3 h4 h5
      rw [valsV_ok hv h2]
      refine Calls.mono (h.spec vals r w hr) fun e w' he=>?_
      obtain ⟨rfl,h6⟩:=he
      exact ⟨_,rfl,ρ,M,Env.le.refl ρ,h1,res_ok r,h4,by simpa using h5.call h6⟩
def asI (k:IntKind) (v:Value):Option Int:=match asS v with
  | .i k' n=>match kEq k' k with
    | true=>some n
    | false=>none
  | .b _=>none
  | .s _=>none
  | .o=>none
theorem asI_ok {k:IntKind} {v:Value} {n:Int} (h:asI k v=some n):v=.int k n:=by
  unfold asI at h
  split at h
  · rename_i k' m hm
    split at h
    · rename_i hk
      simp only [Option.some.injEq] at h
      subst h
      rw [asS_i hm,kEq_ok hk]
    · cases h
  · cases h
  · cases h
  · cases h
def asB (v:Value):Option Bool:=match asS v with
  | .b x=>some x
  | .i _ _=>none
  | .s _=>none
  | .o=>none
theorem asB_ok {v:Value} {n:Bool} (h:asB v=some n):v=.bool n:=by
  unfold asB at h
  split at h
  · rename_i x hx
    simp only [Option.some.injEq] at h
    subst h; exact asS_b hx
  · cases h
  · cases h
  · cases h
def asT (v:Value):Option ByteArray:=match asS v with
  | .s x=>some x
  | .i _ _=>none
  | .b _=>none
  | .o=>none
theorem asT_ok {v:Value} {n:ByteArray} (h:asT v=some n):v=.string n:=by
  unfold asT at h
  split at h
  · rename_i x hx
    simp only [Option.some.injEq] at h
    subst h; exact asS_s hx
  · cases h
  · cases h
  · cases h
def aggs (v:Value):Option (List Value):=match v with
  | .agg a=>some a.toList
  | _=>none
theorem aggs_ok {v:Value} {l:List Value} (h:aggs v=some l):v=.agg l.toArray:=by
  unfold aggs at h
  split at h
  · simp only [Option.some.injEq] at h
    subst h; simp
  · cases h
end Go.RX

namespace Go.RX
open Go Go.SL
inductive Ar where
  | v (x:Value)
  | l (rows:List (List Value))
  | g (cs:List Ar)
def AtOK (h:Hp):Ar→Value→Prop
  | .v x,u=>u=x
  | .l rows,u=>∃ sz,rdOK h sz u rows.length rows.flatten∧vfit u∧∀ r ∈ rows,r.length=sz
  | .g _,_=>False
inductive AtsOK (h:Hp):List Ar→List Value→Prop
  | nil:AtsOK h [] []
  | cons {a u as us} (h1:AtOK h a u) (t:AtsOK h as us):AtsOK h (a::as) (u::us)
def ArOK (h:Hp) (a:Ar) (u:Value):Prop:=match a with
  | .g cs=>∃ us:List Value,u=.agg us.toArray∧AtsOK h cs us
  | .v x=>u=x
  | .l rows=>∃ sz,rdOK h sz u rows.length rows.flatten∧vfit u∧∀ r ∈ rows,r.length=sz
inductive ArsOK (h:Hp):List Ar→List Value→Prop
  | nil:ArsOK h [] []
  | cons {a u as us} (h1:ArOK h a u) (t:ArsOK h as us):ArsOK h (a::as) (u::us)
def rowsL {α:Type} (C:Cd α):List α→Option (List (List Value))
  | []=>some []
  | x::t=>match cellsL (C.enc x) with
    | none=>none
    | some r=>match rowsL C t with
      | none=>none
      | some rs=>some (r::rs)
theorem rowsL_ok {α:Type} {C:Cd α} {ρ:Env}:∀ {xs:List α} {ys:List (Row C.sz)} {rs:List (List Value)},rowsL C xs=some rs→RL ρ C xs ys→rs=ys.map (·.1)
  | [],ys,rs,h,hr=>by
    simp only [rowsL,Option.some.injEq] at h
    subst h; cases hr; rfl
  | x::t,ys,rs,h,hr=>by
    simp only [rowsL] at h
    split at h
    · cases h
    · rename_i r h1
      split at h
      · cases h
      · rename_i rs' h2
        simp only [Option.some.injEq] at h
        subst h
        cases hr with
        | cons g1 g2 =>
          rw [rowsL_ok h2 g2,← cellsL_ok h1 g1]; rfl
def atQ (B H:List (Nat × Ent)) (u:V):Option Ar:=match u with
  | .sl e=>match rdA ⟨.e,H,0,[]⟩ B e with
    | some (.arr _ k xs)=>(rowsL k.cd xs).map .l
    | _=>none
  | _=>(val1 u).map .v
def atsQ (B H:List (Nat × Ent)):List V→Option (List Ar)
  | []=>some []
  | u::t=>match atQ B H u with
    | none=>none
    | some a=>match atsQ B H t with
      | none=>none
      | some r=>some (a::r)
def argQ (B H:List (Nat × Ent)) (u:V):Option Ar:=match atQ B H u with
  | some a=>some a
  | none=>match u with
    | .ag l=>(atsQ B H l).map .g
    | _=>none
def argsQ (B H:List (Nat × Ent)):List V→Option (List Ar)
  | []=>some []
  | u::t=>match argQ B H u with
    | none=>none
    | some a=>match argsQ B H t with
      | none=>none
      | some r=>some (a::r)
theorem flat_encW {sz:Nat}:∀ ys:List (Row sz),(ys.map (·.1)).flatten=encs (encW sz) ys
  | []=>rfl
  | y::t=>by
    show y.1++(t.map (·.1)).flatten=y.1++encs (encW sz) t
    rw [flat_encW t]
theorem atQ_ok {ρ:Env} {B H:List (Nat × Ent)} {u:V} {a:Ar} {x:Value} {w:World} (hS:Sees ρ B ⟨.e,H,0,[]⟩ [] w) (h:atQ B H u=some a) (hr:VR ρ u x):AtOK (hp w) a x:=by
  unfold atQ at h
  split at h
  · rename_i e
    split at h
    · rename_i ty k xs he
      obtain ⟨rs,h1,h2⟩:=Option.map_eq_some_iff.1 h
      subst h2
      obtain ⟨v,ys,g1,g2,g3⟩:=hS.en e _ he
      cases hr with
      | sl g4 g5 =>
        rw [g1] at g4
        simp only [Option.some.injEq] at g4
        subst g4
        have e1:=rowsL_ok h1 g2
        subst e1
        refine ⟨k.cd.sz,?_,g3.2,?_⟩
        · rw [List.length_map,flat_encW]; exact g3.1
        · intro r hr
          obtain ⟨y,_,rfl⟩:=List.mem_map.1 hr
          exact y.2.1
    · cases h
  · obtain ⟨v,h1,h2⟩:=Option.map_eq_some_iff.1 h
    subst h2
    exact val1_ok h1 hr
theorem AtOK.ar {h:Hp} {a:Ar} {u:Value} (k:AtOK h a u):ArOK h a u:=by
  cases a with
  | v x=>exact k
  | l r=>exact k
  | g c=>exact k.elim
theorem atsQ_ok {ρ:Env} {B H:List (Nat × Ent)} {w:World} (hS:Sees ρ B ⟨.e,H,0,[]⟩ [] w):∀ {us:List V} {as:List Ar} {xs:List Value},atsQ B H us=some as→VRL ρ us xs→AtsOK (hp w) as xs
  | [],as,xs,h,hr=>by
    simp only [atsQ,Option.some.injEq] at h
    subst h; cases hr; exact .nil
  | u::t,as,xs,h,hr=>by
    simp only [atsQ] at h
    split at h
    · cases h
    · rename_i a h1
      split at h
      · cases h
      · rename_i r h2
        simp only [Option.some.injEq] at h
        subst h
        cases hr with
        | cons g1 g2=>exact .cons (atQ_ok hS h1 g1) (atsQ_ok hS h2 g2)
theorem argQ_ok {ρ:Env} {B H:List (Nat × Ent)} {u:V} {a:Ar} {x:Value} {w:World} (hS:Sees ρ B ⟨.e,H,0,[]⟩ [] w) (h:argQ B H u=some a) (hr:VR ρ u x):ArOK (hp w) a x:=by
  unfold argQ at h
  split at h
  · rename_i b hb
    simp only [Option.some.injEq] at h
    subst h
    exact (atQ_ok hS hb hr).ar
  · split at h
    · obtain ⟨v,h1,h2⟩:=Option.map_eq_some_iff.1 h
      subst h2
      cases hr with
      | ag g=>exact ⟨_,rfl,atsQ_ok hS h1 g⟩
    · cases h
theorem argsQ_ok {ρ:Env} {B H:List (Nat × Ent)} {w:World} (hS:Sees ρ B ⟨.e,H,0,[]⟩ [] w):∀ {us:List V} {as:List Ar} {xs:List Value},argsQ B H us=some as→VRL ρ us xs→ArsOK (hp w) as xs
  | [],as,xs,h,hr=>by
    simp only [argsQ,Option.some.injEq] at h
    subst h; cases hr; exact .nil
  | u::t,as,xs,h,hr=>by
    simp only [argsQ] at h
    split at h
    · cases h
    · rename_i a h1
      split at h
      · cases h
      · rename_i r h2
        simp only [Option.some.injEq] at h
        subst h
        cases hr with
        | cons g1 g2=>exact .cons (argQ_ok hS h1 g1) (argsQ_ok hS h2 g2)
structure LiftS (P:Program) (f:FuncId) (ty:TypeId) (sz:Nat) (g:List Ar→Option (List (List Value) × List Cp)):Prop where
  spec:∀ args vals r w,ArsOK (hp w) args vals→g args=some r→Calls P f vals.toArray w fun e w'=>∃ v,e=.returned (.tuple (v::r.2.map cpW).toArray)∧(∀ x ∈ r.1,x.length=sz∧oneCells x=true)∧St w w' noX [] [SL.sl ty sz v r.1.length r.1.flatten]
def gLiftS (ty:TypeId) (sz:Nat) (g:List Ar→Option (List (List Value) × List Cp)):List (Nat × Ent)→List V→List (Nat × Ent)→Nat→R An:=fun B vs H nx=>match argsQ B H vs with
  | none=>R.fail
  | some args=>match g args with
    | none=>R.fail
    | some r=>R.pure ⟨.tu (.sl nx::r.2.map cpV),(nx,.arr ty (.row sz) (r.1.map fun x=>x.map V.c))::H,nx+1⟩
def arV:Ar→Option Value
  | .v x=>some x
  | _=>none
def mapO {T:Type} (d:List Value→Option T):List (List Value)→Option (List T)
  | []=>some []
  | r::t=>match d r with
    | none=>none
    | some x=>match mapO d t with
      | none=>none
      | some l=>some (x::l)
def isNil:Value→Bool
  | .slice none 0 0=>true
  | _=>false
def arL {T:Type} (d:List Value→Option T):Ar→Option (List T)
  | .l rows=>mapO d rows
  | .v x=>match isNil x with
    | true=>some []
    | false=>none
  | .g _=>none
theorem rl_rows {ρ:Env} {sz:Nat}:∀ {rows:List (List Value)},(∀ x ∈ rows,x.length=sz∧oneCells x=true)→∃ ys:List (Row sz),RL ρ (Ck.row sz).cd (rows.map fun x=>x.map V.c) ys∧ys.map (·.1)=rows
  | [],_=>⟨[],.nil,rfl⟩
  | x::t,h=>by
    obtain ⟨ys,h1,h2⟩:=rl_rows (ρ:=ρ) (rows:=t) (fun y hy=>h y (by simp [hy]))
    obtain ⟨h3,h4⟩:=h x (by simp)
    refine ⟨⟨x,h3,h4⟩::ys,.cons ?_ h1,(show x::ys.map (·.1)=x::t from by rw [h2])⟩
    show VRL ρ (padV sz (x.map V.c)) x
    have e:padV sz (x.map V.c)=x.map V.c:=by
      have:=padV_eq (x.map V.c)
      rw [List.length_map,h3] at this
      exact this
    rw [e]
    exact vrl_c x
theorem seesHB {ρ:Env} {B H:List (Nat × Ent)} {BM M:List Asr} {w0 w:World} {X:Nat→Prop} (hB:HR (EB ρ) B BM) (hH:HR (ER ρ) H M) (hst:St w0 w X BM M):Sees ρ B ⟨.e,H,0,[]⟩ [] w:=⟨(fun k u h=>by rw [lkV_e] at h; cases h),fun e' ent he=>by
    unfold rdA at he
    split at he
    · rename_i x hx
      simp only [Option.some.injEq] at he
      subst he
      obtain ⟨p,h1,h2⟩:=hH.get hx
      cases x with
      | cel l ty=>obtain ⟨b,cs,h3,h4,rfl⟩:=h2; exact ⟨b,cs,h3,h4,hst.ptAt h1⟩
      | arr ty k xs=>obtain ⟨v,ys,h3,h4,rfl⟩:=h2; exact ⟨v,ys,h3,h4,hst.rdS h1⟩
      | loop z=>trivial
      | mark=>trivial
      | map l=>obtain ⟨b,kvs,h3,h4,rfl⟩:=h2; exact ⟨b,kvs,h3,h4,hst.at_ h1⟩
      | gl g l ty=>obtain ⟨cs,h3,h4,rfl⟩:=h2; exact ⟨cs,h4,hst.ptAt h1⟩
    · obtain ⟨p,h1,h2⟩:=hB.get he
      cases ent with
      | cel l ty=>obtain ⟨b,cs,h3,h4,rfl⟩:=h2; exact ⟨b,cs,h3,h4,hst.bptAt h1⟩
      | arr ty k xs=>obtain ⟨v,ys,h3,h4,rfl⟩:=h2; exact ⟨v,ys,h3,h4,hst.rdB h1⟩
      | loop z=>trivial
      | mark=>trivial
      | map l=>obtain ⟨b,kvs,h3,h4,rfl⟩:=h2; exact ⟨b,kvs,h3,h4,hst.bat h1⟩
      | gl g l ty=>obtain ⟨cs,h3,h4,rfl⟩:=h2; exact ⟨cs,h4,hst.bptAt h1⟩⟩
theorem mapO_ok {T:Type} {d:List Value→Option T} {E:T→List Value} (hd:∀ r x,d r=some x→r=E x):∀ {rows:List (List Value)} {l:List T},mapO d rows=some l→rows=l.map E
  | [],l,h=>by
    simp only [mapO,Option.some.injEq] at h
    subst h; rfl
  | r::t,l,h=>by
    simp only [mapO] at h
    split at h
    · cases h
    · rename_i x h1
      split at h
      · cases h
      · rename_i l' h2
        simp only [Option.some.injEq] at h
        subst h
        rw [hd r x h1,mapO_ok hd h2]; rfl
theorem flat_map {T:Type} (E:T→List Value):∀ l:List T,(l.map E).flatten=encs E l
  | []=>rfl
  | x::t=>by
    show E x++(t.map E).flatten=E x++encs E t
    rw [flat_map E t]
theorem arL_ok {T:Type} {d:List Value→Option T} {E:T→List Value} {sz:Nat} {h:Hp} {a:Ar} {u:Value} {l:List T} (hd:∀ r x,d r=some x→r=E x) (hE:∀ x,(E x).length=sz) (ha:arL d a=some l) (hu:ArOK h a u):rdEOK h sz E u l:=by
  cases a with
  | g c=>cases ha
  | v x =>
    simp only [arL] at ha
    split at ha
    · rename_i hn
      simp only [Option.some.injEq] at ha
      subst ha
      have hu:u=x:=hu
      subst hu
      unfold isNil at hn
      split at hn
      · exact rdEOK_nil
      · cases hn
    · cases ha
  | l rows =>
    have e:=mapO_ok hd (show mapO d rows=some l from ha)
    obtain ⟨s',h1,h2,h3⟩:=hu
    rw [e,List.length_map,flat_map] at h1
    refine ⟨?_,h2⟩
    obtain ⟨g1,g2⟩:=h1
    exact ⟨by rw [encs_len hE],g2⟩
theorem rowsE_ok {T:Type} {E:T→List Value} {sz:Nat} (hE:∀ x,(E x).length=sz) (h1:∀ x,oneCells (E x)=true) (l:List T):∀ x ∈ l.map E,x.length=sz∧oneCells x=true:=fun x hx=>by
  obtain ⟨y,_,rfl⟩:=List.mem_map.1 hx
  exact ⟨hE y,h1 y⟩
theorem arV_ok {h:Hp} {a:Ar} {u x:Value} (ha:arV a=some x) (hu:ArOK h a u):u=x:=by
  cases a with
  | v y =>
    simp only [arV,Option.some.injEq] at ha
    subst ha; exact hu
  | l r=>cases ha
  | g r=>cases ha
structure LiftA (P:Program) (f:FuncId) (g:List Ar→Option (List Cp)):Prop where
  spec:∀ args vals r w,ArsOK (hp w) args vals→g args=some r→Calls P f vals.toArray w fun e w'=>e=.returned (resW r)∧St w w' noX [] []
def gLiftA (g:List Ar→Option (List Cp)):List (Nat × Ent)→List V→List (Nat × Ent)→Nat→R An:=fun B vs H nx=>match argsQ B H vs with
  | none=>R.fail
  | some args=>match g args with
    | none=>R.fail
    | some r=>R.pure ⟨resV r,H,nx⟩
theorem gLiftA_ok {P:Program} {f:FuncId} {g:List Ar→Option (List Cp)} (h:LiftA P f g) (w0:World) (X:Nat→Prop) (B:List (Nat × Ent)) (vs:List V) (H:List (Nat × Ent)) (nx:Nat):(gLiftA g B vs H nx).Ok (FunOK P w0 X B f vs H nx):=by
  unfold gLiftA
  split
  · exact R.Ok.fail
  · rename_i vals hv
    split
    · exact R.Ok.fail
    · rename_i r hr
      refine R.Ok.pure ?_
      intro ρ BM M w vals' h1 h2 h3 h4 h5
      have hS:=seesHB h3 h4 h5
      refine Calls.mono (h.spec vals vals' r w (argsQ_ok hS hv h2) hr) fun e w' he=>?_
      obtain ⟨rfl,h6⟩:=he
      exact ⟨_,rfl,ρ,M,Env.le.refl ρ,h1,res_ok r,h4,by simpa using h5.call h6⟩
def arG:Ar→Option (List Ar)
  | .g cs=>some cs
  | .v x=>match x with
    | .agg a=>some (a.toList.map .v)
    | _=>none
  | .l _=>none
theorem atsV {h:Hp}:∀ l:List Value,AtsOK h (l.map .v) l
  | []=>.nil
  | _::t=>.cons rfl (atsV t)
theorem arG_ok {h:Hp} {a:Ar} {u:Value} {cs:List Ar} (ha:arG a=some cs) (hu:ArOK h a u):∃ us:List Value,u=.agg us.toArray∧AtsOK h cs us:=by
  cases a with
  | g c =>
    simp only [arG,Option.some.injEq] at ha
    subst ha; exact hu
  | v x =>
    have hu:u=x:=hu
    subst hu
    unfold arG at ha
    simp only at ha
    split at ha
    · simp only [Option.some.injEq] at ha
      subst ha
      exact ⟨_,by simp,atsV _⟩
    · cases ha
  | l r=>cases ha
end Go.RX

namespace Go.RX
open Go Go.SL
def bodyOf (P:Program) (f:FuncId):Code:=match P.funcs[f]? with
  | some fn=>match fn.body with
    | some c=>c
    | none=>.skip
  | none=>.skip
def tmpsN (P:Program) (f:FuncId):Nat:=match P.funcs[f]? with
  | some fn=>fn.ntmps
  | none=>0
def hdc:Code→Code
  | .seq a _=>a
  | c=>c
def tlc:Nat→Code→Code
  | 0,c=>c
  | k+1,.seq _ b=>tlc k b
  | _+1,c=>c
def isSeq:Code→Bool
  | .seq _ _=>true
  | _=>false
theorem tlc_succ:∀ (k:Nat) (c:Code),isSeq (tlc k c)=true→tlc k c=.seq (hdc (tlc k c)) (tlc (k+1) c)
  | 0,.seq a b,_=>rfl
  | k+1,.seq a b,h=>tlc_succ k b h
  | 0,.skip,h=>by cases h
  | 0,.region ..,h=>by cases h
  | 0,.cond ..,h=>by cases h
  | 0,.block ..,h=>by cases h
  | 0,.loop ..,h=>by cases h
  | 0,.exit ..,h=>by cases h
  | 0,.ret,h=>by cases h
  | 0,.label ..,h=>by cases h
  | 0,.rangeFunc ..,h=>by cases h
  | 0,.scope ..,h=>by cases h
  | 0,.goto ..,h=>by cases h
  | 0,.refuse ..,h=>by cases h
  | k+1,.skip,h=>by cases h
  | k+1,.region ..,h=>by cases h
  | k+1,.cond ..,h=>by cases h
  | k+1,.block ..,h=>by cases h
  | k+1,.loop ..,h=>by cases h
  | k+1,.exit ..,h=>by cases h
  | k+1,.ret,h=>by cases h
  | k+1,.label ..,h=>by cases h
  | k+1,.rangeFunc ..,h=>by cases h
  | k+1,.scope ..,h=>by cases h
  | k+1,.goto ..,h=>by cases h
  | k+1,.refuse ..,h=>by cases h
def restr (ks es:List Nat) (s:S):S:=⟨(hfr ks).run s.fr,dropN es 0 s.H,s.nx,s.df⟩
def pieceR (ks es:List Nat):Option (Ex × S)→Option S
  | some (.n,s)=>some (restr ks es s)
  | _=>none
theorem pieceR_some {ks es:List Nat} {x:Option (Ex × S)} {s1:S} (h:pieceR ks es x=some s1):∃ s,x=some (.n,s)∧s1=restr ks es s:=by
  unfold pieceR at h
  split at h
  · rename_i s
    exact ⟨s,rfl,(Option.some.inj h).symm⟩
  · cases h
section
variable {P:Program} {wrF:FuncId→Bool} {F n:Nat} {B:List (Nat × Ent)} {T:Tab} {s s1:S} {z:Ex × S} {w0:World} {X:Nat→Prop} {ρ:Env} {L:List (Nat × Value)} {BM M:List Asr} {ds:List Deferred} {a:Act} {w:World}
theorem Rl.restr (h:Rl w0 X B n s ρ L BM M ds a w) (ks es:List Nat):∃ M',Rl w0 X B n (RX.restr ks es s) ρ L BM M' ds a w:=by
  obtain ⟨M',h1,h2⟩:=dropN_ok (ks:=es) (nx:=0) h.hm
  exact ⟨M',h.dom,fun k u hk=>h.fr k u (hfr_get hk).2,h.hb,h1,h.df,h.act,h.st.sub h2⟩
theorem hcode_Ok (hT:TabOK P T) (c:Code) (s:S):((hcode P wrF F true n c).run B T s).Ok (CodeOK none P w0 X B n s c):=by
  rw [hcode_eq]
  exact xcode_ok hT (hdraw_ok hT) (fun _=>rfl) c s
theorem chain (hT:TabOK P T) (k:Nat) {c:Code} {ks es:List Nat} (hk:isSeq (tlc k c)=true) (hA:pieceR ks es ((hcode P wrF F true n (hdc (tlc k c))).run B T s).conc=some s1)
    (hB:CodeOK none P w0 X B n s1 (tlc (k+1) c) z):CodeOK none P w0 X B n s (tlc k c) z:=by
  obtain ⟨s',h1,rfl⟩:=pieceR_some hA
  rw [tlc_succ k c hk]
  intro ρ L BM M ds a w hR Q hQ
  refine W.seq ?_
  refine (hcode_Ok (w0:=w0) (X:=X) hT _ _).conc _ h1 ρ L BM M ds a w hR _ ?_
  intro ρ' L' M' ds' a' w' hle hR'
  obtain ⟨M2,hR2⟩:=hR'.restr ks es
  refine hB ρ' L' BM M2 ds' a' w' hR2 Q ?_
  intro ρ2 L2 M3 ds2 a2 w2 hle2 hR3
  exact hQ ρ2 L2 M3 ds2 a2 w2 (hle.trans hle2) hR3
def fnOK (P:Program) (f:FuncId) (n m:Nat):Bool:=match P.funcs[f]? with
  | some fn=>match fn.body with
    | some _=>Nat.ble m fn.ntmps&&Nat.beq fn.ntmps n
    | none=>false
  | none=>false
def resOf (P:Program) (f:FuncId) (s:S):Option (List V × List (Nat × Ent)):=match P.funcs[f]? with
  | none=>none
  | some fn=>match leaveH s.df s.H with
    | none=>none
    | some H2=>match xresL P ⟨s.fr,H2,s.nx,[]⟩ fn.results.toList with
      | none=>none
      | some l=>some (l,H2)
theorem fun_of_code {f:FuncId} {fn:Func} {c:Code} {vs:List V} {H:List (Nat × Ent)} {nx:Nat} {s':S} {H2:List (Nat × Ent)} {l:List V} (hfn:P.funcs[f]? = some fn) (hc:fn.body=some c) (hle:Nat.ble vs.length fn.ntmps=true)
    (h1:CodeOK none P w0 X B fn.ntmps ⟨argsV 0 vs,H,nx,[]⟩ c (.r,s')) (hlv:leaveH s'.df s'.H=some H2) (hl:xresL P ⟨s'.fr,H2,s'.nx,[]⟩ fn.results.toList=some l):FunOK P w0 X B f vs H nx ⟨oneRes l,H2,s'.nx⟩:=by
  intro ρ BM M w vals hdom hv hb hm hst
  have hlen:Nat.ble vals.length fn.ntmps=true:=by rw [← hv.len]; exact hle
  refine (callsIn_FW (r:=none) (n:=0)).1 (callsIn_of_wp_marks hfn hc trivial ?_ rfl)
  have hf:=Fr.start (args:=vals.toArray) (l:=vals) (n:=fn.ntmps) (m:=fn.ntmps-vals.toArray.size) rfl (by simpa using hlen) rfl
  refine h1 ρ _ BM M [] _ w ⟨hdom,argsV_ok 0 hv,hb,hm,.nil,hf,hst⟩ _ ?_
  intro ρ' L' M' ds' a' w' hle' hR
  have post:bodyPostM (FW none) 0 P fn (fun e w'=>∃ v',e=.returned v'∧∃ ρ' M',ρ.le ρ'∧ρ'.nx=s'.nx∧VR ρ' (oneRes l) v'∧HR (ER ρ') H2 M'∧St w0 w' X BM M') .ret a' w':=by
    show LeavesInM (FW none) 0 P fn a'.tmps _ a'.defers .returning w'
    rw [hR.act.defers]
    refine leave_ok hR.df hR.hm hR.st hlv fun w2 M2 hm2 hs2=>?_
    have hR2:Rl w0 X B fn.ntmps ⟨s'.fr,H2,s'.nx,[]⟩ ρ' L' BM M2 [] { a' with defers:=[] } w2:=⟨hR.dom,hR.fr,hR.hb,hm2,.nil,⟨hR.act.size,rfl,hR.act.get⟩,hs2⟩
    obtain ⟨vs',h2,h3⟩:=xresL_ok (P:=P) hR2 hl
    have hres:∃ v',VR ρ' (oneRes l) v'∧(results fn a'.tmps).run P w2=.ok v' w2:=by
      have e0:=run_results (fn:=fn) { a' with defers:=[] }
      simp only at e0
      rw [e0,Array.mapM_eq_mapM_toList]
      have h3':((List.toArray <$> (fn.results.toList.mapM (resSem { a' with defers:=[] }))):Sem _).run P w2=.ok vs'.toArray w2:=by
        rw [← bind_pure_comp]
        simp only [Sem.run_bind,h3,Result.andThen,Sem.run_pure]
      cases h2 with
      | nil=>exact ⟨_,.tu (cs:=[]) .nil,by simp only [Sem.run_bind,h3',Result.andThen,Sem.run_pure]; rfl⟩
      | cons h4 h5=>cases h5 with
        | nil=>exact ⟨_,h4,by simp only [Sem.run_bind,h3',Result.andThen,Sem.run_pure]; rfl⟩
        | cons h6 h7=>exact ⟨_,.tu (.cons h4 (.cons h6 h7)),by simp only [Sem.run_bind,h3',Result.andThen,Sem.run_pure]; rfl⟩
    obtain ⟨v',h4,h5⟩:=hres
    exact ⟨v',h5,v',rfl,ρ',M2,hle',hR.dom,h4,hm2,hs2⟩
  exact post
end
end Go.RX

namespace Go.RX
open Go Go.SL
inductive Rc where
  | c (v:Value)
  | l (ty sz:Nat) (rows:List (List Value))
inductive Rp where
  | s (x:Rc)
  | a (xs:List Rc)
inductive RcsV:List Rc→List Value→List Asr→Prop
  | nil:RcsV [] [] []
  | c {v xs us M} (h:RcsV xs us M):RcsV (.c v::xs) (v::us) M
  | l {ty sz rows v xs us M} (hr:∀ x ∈ rows,x.length=sz∧oneCells x=true) (h:RcsV xs us M):RcsV (.l ty sz rows::xs) (v::us) (SL.sl ty sz v rows.length rows.flatten::M)
inductive RpsV:List Rp→List Value→List Asr→Prop
  | nil:RpsV [] [] []
  | s {x u M ps us M'} (h:RcsV [x] [u] M) (t:RpsV ps us M'):RpsV (.s x::ps) (u::us) (M++M')
  | a {xs cs M ps us M'} (h:RcsV xs cs M) (t:RpsV ps us M'):RpsV (.a xs::ps) (.agg cs.toArray::us) (M++M')
theorem RcsV.lE {T:Type} {E:T→List Value} {ty sz:Nat} {v:Value} {xs:List Rc} {us:List Value} {M:List Asr} (hE:∀ x,(E x).length=sz) (h1:∀ x,oneCells (E x)=true) {l:List T} (h:RcsV xs us M):RcsV (.l ty sz (l.map E)::xs) (v::us) (slE ty sz E v l::M):=by
  have:=RcsV.l (ty:=ty) (sz:=sz) (v:=v) (rows:=l.map E) (rowsE_ok hE h1 l) h
  rw [List.length_map,flat_map] at this
  exact this
def tupW (us:List Value):Value:=match us with
  | []=>.tuple #[]
  | u::t=>match t with
    | []=>u
    | _::_=>.tuple (u::t).toArray
def tupV (us:List V):V:=match us with
  | []=>.tu []
  | u::t=>match t with
    | []=>u
    | _::_=>.tu (u::t)
theorem tup_ok {ρ:Env}:∀ {us:List V} {vs:List Value},VRL ρ us vs→VR ρ (tupV us) (tupW vs)
  | [],_,.nil=>.tu .nil
  | [_],_,.cons h .nil=>h
  | _::_::_,_,.cons h (.cons h1 t)=>.tu (.cons h (.cons h1 t))
structure Rx where
  vs:List V
  es:List (Nat × Ent)
  nx:Nat
def rcsX:List Rc→Nat→Rx
  | [],nx=>⟨[],[],nx⟩
  | .c v::t,nx=>match rcsX t nx with
    | ⟨vs,es,n⟩=>⟨.c v::vs,es,n⟩
  | .l ty sz rows::t,nx=>match rcsX t (nx+1) with
    | ⟨vs,es,n⟩=>⟨.sl nx::vs,(nx,.arr ty (.row sz) (rows.map fun x=>x.map V.c))::es,n⟩
def rpsX:List Rp→Nat→Rx
  | [],nx=>⟨[],[],nx⟩
  | .s x::t,nx=>match rcsX [x] nx with
    | ⟨vs,es,n⟩=>match rpsX t n with
      | ⟨vs',es',n'⟩=>⟨vs++vs',es++es',n'⟩
  | .a xs::t,nx=>match rcsX xs nx with
    | ⟨vs,es,n⟩=>match rpsX t n with
      | ⟨vs',es',n'⟩=>⟨.ag vs::vs',es++es',n'⟩
theorem sl_isSl {w0 w:World} {X:Nat→Prop} {B M:List Asr} {ty sz n:Nat} {v:Value} {l:List Value} (h:St w0 w X B M) (hm:SL.sl ty sz v n l ∈ M):isSl v=true:=by
  obtain ⟨i,hi⟩:=List.mem_iff_getElem?.1 hm
  obtain ⟨_,h7⟩:=h.at_ (i:=i) hi
  rcases h7 with ⟨rfl,_⟩ | ⟨g,cap,cur,rfl,_⟩ <;> rfl
theorem rcsX_ok:∀ {xs:List Rc} {us:List Value} {M:List Asr} {ρ:Env} {nx:Nat},RcsV xs us M→ρ.nx=nx→(∀ ty sz v n l,SL.sl ty sz v n l ∈ M→isSl v=true) →
    ∃ ρ':Env,ρ.le ρ'∧ρ'.nx=(rcsX xs nx).nx∧VRL ρ' (rcsX xs nx).vs us∧HR (ER ρ') (rcsX xs nx).es M
  | _,_,_,ρ,nx,.nil,hn,_=>⟨ρ,Env.le.refl ρ,hn,.nil,.nil⟩
  | _,_,_,ρ,nx,.c (v:=v) (xs:=xs) h,hn,hs=>by
    obtain ⟨ρ',h1,h2,h3,h4⟩:=rcsX_ok h hn hs
    exact ⟨ρ',h1,h2,.cons .c h3,h4⟩
  | _,_,_,ρ,nx,.l (ty:=ty) (sz:=sz) (rows:=rows) (v:=v) (xs:=xs) hr h,hn,hs=>by
    obtain ⟨ρ',h1,h2,h3,h4⟩:=rcsX_ok (ρ:=ρ.upd v) (nx:=nx+1) h (congrArg (·+1) hn) (fun ty sz v n l hm=>hs ty sz v n l (List.mem_cons_of_mem _ hm))
    have hv:ρ' nx=some v:=h1.get (Env.upd_self hn)
    obtain ⟨ys,g1,g2⟩:=rl_rows (ρ:=ρ') hr
    refine ⟨ρ',Env.upd_le.trans h1,h2,.cons (.sl hv (hs ty sz v _ _ (List.mem_cons_self ..))) h3,.cons ⟨v,ys,hv,g1,?_⟩ h4⟩
    show SL.sl ty sz v rows.length rows.flatten=SL.sl ty sz v ys.length (encs (encW sz) ys)
    rw [← flat_encW,g2,← g2,List.length_map]
theorem rpsX_ok:∀ {ps:List Rp} {us:List Value} {M:List Asr} {ρ:Env} {nx:Nat},RpsV ps us M→ρ.nx=nx→(∀ ty sz v n l,SL.sl ty sz v n l ∈ M→isSl v=true) →
    ∃ ρ':Env,ρ.le ρ'∧ρ'.nx=(rpsX ps nx).nx∧VRL ρ' (rpsX ps nx).vs us∧HR (ER ρ') (rpsX ps nx).es M
  | _,_,_,ρ,nx,.nil,hn,_=>⟨ρ,Env.le.refl ρ,hn,.nil,.nil⟩
  | _,_,_,ρ,nx,.s h t,hn,hs=>by
    obtain ⟨ρ1,h1,h2,h3,h4⟩:=rcsX_ok h hn (fun ty sz v n l hm=>hs ty sz v n l (List.mem_append_left _ hm))
    obtain ⟨ρ2,k1,k2,k3,k4⟩:=rpsX_ok t h2 (fun ty sz v n l hm=>hs ty sz v n l (List.mem_append_right _ hm))
    exact ⟨ρ2,h1.trans k1,k2,(h3.mono k1).app k3,HR.app (h4.mono fun _ _ _=>ER.mono k1) k4⟩
  | _,_,_,ρ,nx,.a h t,hn,hs=>by
    obtain ⟨ρ1,h1,h2,h3,h4⟩:=rcsX_ok h hn (fun ty sz v n l hm=>hs ty sz v n l (List.mem_append_left _ hm))
    obtain ⟨ρ2,k1,k2,k3,k4⟩:=rpsX_ok t h2 (fun ty sz v n l hm=>hs ty sz v n l (List.mem_append_right _ hm))
    exact ⟨ρ2,h1.trans k1,k2,.cons (.ag (h3.mono k1)) k3,HR.app (h4.mono fun _ _ _=>ER.mono k1) k4⟩
structure LiftG (P:Program) (f:FuncId) (g:List Ar→Option (List Rp)):Prop where
  spec:∀ args vals r w,ArsOK (hp w) args vals→g args=some r→Calls P f vals.toArray w fun e w'=>∃ us M,e=.returned (tupW us)∧RpsV r us M∧St w w' noX [] M
def gLiftG (g:List Ar→Option (List Rp)):List (Nat × Ent)→List V→List (Nat × Ent)→Nat→R An:=fun B vs H nx=>match argsQ B H vs with
  | none=>R.fail
  | some args=>match g args with
    | none=>R.fail
    | some r=>match rpsX r nx with
      | ⟨us,es,n⟩=>R.pure ⟨tupV us,es++H,n⟩
theorem gLiftG_ok {P:Program} {f:FuncId} {g:List Ar→Option (List Rp)} (h:LiftG P f g) (w0:World) (X:Nat→Prop) (B:List (Nat × Ent)) (vs:List V) (H:List (Nat × Ent)) (nx:Nat):(gLiftG g B vs H nx).Ok (FunOK P w0 X B f vs H nx):=by
  unfold gLiftG
  split
  · exact R.Ok.fail
  · rename_i args hv
    split
    · exact R.Ok.fail
    · rename_i r hr
      split
      rename_i us es n he
      refine R.Ok.pure ?_
      intro ρ BM M w vals' h1 h2 h3 h4 h5
      have hS:=seesHB h3 h4 h5
      refine Calls.mono (h.spec args vals' r w (argsQ_ok hS hv h2) hr) fun e w' hh=>?_
      obtain ⟨us',M',rfl,k1,k2⟩:=hh
      obtain ⟨ρ',j1,j2,j3,j4⟩:=rpsX_ok k1 h1 (fun ty sz v n l hm=>sl_isSl k2 hm)
      rw [he] at j2 j3 j4
      exact ⟨_,rfl,ρ',M'++M,j1,j2,tup_ok j3,HR.app j4 (h4.mono fun _ _ _=>ER.mono j1),h5.call k2⟩
theorem pureG_of {P:Program} {kp:FuncId→Bool} {Sm:SmT} {wrF:FuncId→Bool} {F m:Nat} {f:FuncId} {c:Value} {g:Nat} {l:List Value} {ty:TypeId} (hS:∀ f g,Sm f=some g→∀ w0 X B vs H nx,(g B vs H nx).Ok (FunOK P w0 X B f vs H nx))
    (h:ansC ((hT P kp Sm wrF F m).call [(0,.gl g (l.map .c) ty)] f [] [] 1).conc c) (w:World) (hw:w.heap[g]? = some (.cells l.toArray ty (0,0))):Calls P f #[] w fun e w'=>e=.returned c∧St w w' noX [] []:=by
  obtain ⟨H,nx,h⟩:=h
  have hk:=((hT_ok hS m).call w noX [(0,.gl g (l.map .c) ty)] f [] [] 1).conc _ h ((⟨fun _=>none,0,fun _ _=>rfl⟩:Env).upd (.pointer (some ⟨g,0,none⟩))) [pt g (.cells l.toArray ty (0,0))] [] w [] rfl .nil
    (.cons ⟨l,Env.upd_self rfl,vrl_c l,rfl⟩ .nil) .nil (Sbw (lnc (lendPt hw) lnn))
  refine Calls.mono hk fun e w' he=>?_
  obtain ⟨v',rfl,ρ',M',_,_,h3,h4,h5⟩:=he
  cases h3 with
  | c=>exact ⟨rfl,(h5.sub (List.nil_sublist _)).noB⟩
theorem pureG_chain {P:Program} {n:Nat} {f:FuncId} {c:Value} {s':S} {g:Nat} {l:List Value} {ty:TypeId} (hfit:fnOK P f n 0=true) (h1:∀ w0,CodeOK none P w0 noX [(0,.gl g (l.map .c) ty)] n ⟨argsV 0 [],[],1,[]⟩ (bodyOf P f) (.r,s')) (hr:(match resOf P f s' with
      | some ([.c v],_)=>some v
      | _=>none)=some c) (w:World) (hw:w.heap[g]? = some (.cells l.toArray ty (0,0))):Calls P f #[] w fun e w'=>e=.returned c∧St w w' noX [] []:=by
  unfold fnOK at hfit
  unfold bodyOf at h1
  unfold resOf at hr
  cases hP:P.funcs[f]? with
  | none=>simp [hP] at hfit
  | some fn =>
    rw [hP] at hfit h1 hr
    simp only at hfit h1 hr
    cases hb:fn.body with
    | none=>simp [hb] at hfit
    | some cd =>
      rw [hb] at hfit h1
      simp only [Bool.and_eq_true] at hfit h1
      have hn:=Nat.eq_of_beq_eq_true hfit.2
      subst hn
      cases hl:leaveH s'.df s'.H with
      | none=>simp [hl] at hr
      | some H2 =>
        rw [hl] at hr
        simp only at hr
        cases hx:xresL P ⟨s'.fr,H2,s'.nx,[]⟩ fn.results.toList with
        | none=>simp [hx] at hr
        | some l2 =>
          rw [hx] at hr
          simp only at hr
          have hk:=fun_of_code (vs:=[]) (H:=[]) (nx:=1) hP hb hfit.1 (h1 w) hl hx ((⟨fun _=>none,0,fun _ _=>rfl⟩:Env).upd (.pointer (some ⟨g,0,none⟩))) [pt g (.cells l.toArray ty (0,0))] [] w [] rfl .nil
            (.cons ⟨l,Env.upd_self rfl,vrl_c l,rfl⟩ .nil) .nil (Sbw (lnc (lendPt hw) lnn))
          split at hr
          · rename_i v H3 heq
            simp only [Option.some.injEq,Prod.mk.injEq] at heq
            obtain ⟨rfl,rfl⟩:=heq
            simp only [Option.some.injEq] at hr
            subst hr
            refine Calls.mono hk fun e w' he=>?_
            obtain ⟨v',rfl,ρ',M',_,_,h3,h4,h5⟩:=he
            cases h3 with
            | c=>exact ⟨rfl,(h5.sub (List.nil_sublist _)).noB⟩
          · cases hr
theorem ebn {α β:Type} {x:Option α} {f:α→Option β} {r:β} (h:x.bind f=some r):∃ a,x=some a∧f a=some r:=Option.bind_eq_some_iff.1 h
theorem emp {α β:Type} {x:Option α} {f:α→β} {r:β} (h:x.map f=some r):∃ a,x=some a∧f a=r:=Option.map_eq_some_iff.1 h
theorem aI {h:Hp} {a:Ar} {v u:Value} {k:IntKind} {n:Int} (ha:arV a=some v) (hu:ArOK h a u) (hv:asI k v=some n):u=.int k n:=(arV_ok ha hu).trans (asI_ok hv)
theorem aB {h:Hp} {a:Ar} {v u:Value} {n:Bool} (ha:arV a=some v) (hu:ArOK h a u) (hv:asB v=some n):u=.bool n:=(arV_ok ha hu).trans (asB_ok hv)
def runs (P:Program) (wrF:FuncId→Bool) (F n:Nat) (B:List (Nat × Ent)) (T:Tab):Nat→Code→S→Option (Ex × S)
  | 0,_,s=>some (.n,s)
  | m+1,c,s=>match isSeq c with
    | false=>none
    | true=>match ((hcode P wrF F true n (hdc c)).run B T s).conc with
      | some (.n,s1)=>runs P wrF F n B T m (tlc 1 c) s1
      | _=>none
def toCp:V→Option Cp
  | .c v=>some (.s v)
  | .ag l=>(cellsL l).map .a
  | _=>none
def toCps:List V→Option (List Cp)
  | []=>some []
  | u::t=>match toCp u with
    | none=>none
    | some c=>match toCps t with
      | none=>none
      | some r=>some (c::r)
def toRes (u:V):Option (List Cp):=match u with
  | .tu l=>match l with
    | a::b::t=>toCps (a::b::t)
    | _=>none
  | _=>match toCp u with
    | some c=>some [c]
    | none=>none
theorem toCp_ok {ρ:Env} {u:V} {x:Value} {c:Cp} (h:toCp u=some c) (hr:VR ρ u x):x=cpW c:=by
  unfold toCp at h
  split at h
  · simp only [Option.some.injEq] at h; subst h; cases hr; rfl
  · obtain ⟨cs,h1,h2⟩:=Option.map_eq_some_iff.1 h
    subst h2
    cases hr with
    | ag g=>rw [cellsL_ok h1 g]; rfl
  · cases h
theorem toCps_ok {ρ:Env}:∀ {l:List V} {r:List Cp} {xs:List Value},toCps l=some r→VRL ρ l xs→xs=r.map cpW
  | [],r,xs,h,hr=>by
    simp only [toCps,Option.some.injEq] at h
    subst h; cases hr; rfl
  | u::t,r,xs,h,hr=>by
    simp only [toCps] at h
    split at h
    · cases h
    · rename_i c h1
      split at h
      · cases h
      · rename_i r' h2
        simp only [Option.some.injEq] at h
        subst h
        cases hr with
        | cons g1 g2=>rw [toCp_ok h1 g1,toCps_ok h2 g2]; rfl
theorem toCps_len:∀ {l:List V} {r:List Cp},toCps l=some r→r.length=l.length
  | [],r,h=>by
    simp only [toCps,Option.some.injEq] at h
    subst h; rfl
  | u::t,r,h=>by
    simp only [toCps] at h
    split at h
    · cases h
    · split at h
      · cases h
      · rename_i r' h2
        simp only [Option.some.injEq] at h
        subst h
        simp [toCps_len h2]
theorem toRes_ok {ρ:Env} {u:V} {x:Value} {r:List Cp} (h:toRes u=some r) (hr:VR ρ u x):x=resW r:=by
  unfold toRes at h
  split at h
  · split at h
    · rename_i a b t
      have hl:=toCps_len h
      cases hr with
      | tu g =>
        rw [toCps_ok h g]
        match r,hl with
        | _::_::_,_=>rfl
    · cases h
  · split at h
    · rename_i c hc
      simp only [Option.some.injEq] at h
      subst h
      exact toCp_ok hc hr
    · cases h
structure PureA (P:Program) (f:FuncId) (args:List Value) (r:List Cp):Prop where
  spec:∀ w,Calls P f args.toArray w fun e w'=>e=.returned (resW r)∧St w w' noX [] []
theorem pureA_of {P:Program} {kp:FuncId→Bool} {Sm:SmT} {wrF:FuncId→Bool} {F m:Nat} {f:FuncId} {args:List Value} {r:List Cp} (hS:∀ f g,Sm f=some g→∀ w0 X B vs H nx,(g B vs H nx).Ok (FunOK P w0 X B f vs H nx))
    (h:(((hT P kp Sm wrF F m).call [] f (args.map .c) [] 0).conc).bind (fun z=>toRes z.v)=some r):PureA P f args r:=⟨fun w=>by
  obtain ⟨z,h1,h2⟩:=Option.bind_eq_some_iff.1 h
  have hk:=((hT_ok hS m).call w noX [] f (args.map .c) [] 0).conc _ h1 ⟨fun _=>none,0,fun _ _=>rfl⟩ [] [] w args rfl (vrl_c args) .nil .nil (St.refl w)
  refine Calls.mono hk fun e w' he=>?_
  obtain ⟨v',rfl,ρ',M',_,_,h3,h4,h5⟩:=he
  exact ⟨by rw [toRes_ok h2 h3],h5.sub (List.nil_sublist _)⟩⟩
def eqSc:Value→Value→Bool
  | .int k n,.int k' n'=>match kEq k k' with
    | true=>decide (n=n')
    | false=>false
  | _,_=>false
theorem eqSc_ok {a b:Value} (h:eqSc a b=true):a=b:=by
  unfold eqSc at h
  split at h
  · split at h
    · rename_i hk; rw [kEq_ok hk,of_decide_eq_true h]
    · cases h
  · cases h
def eqScs:List Value→List Value→Bool
  | [],[]=>true
  | a::t,b::t'=>match eqSc a b with
    | true=>eqScs t t'
    | false=>false
  | _,_=>false
theorem eqScs_ok:∀ {a b:List Value},eqScs a b=true→a=b
  | [],[],_=>rfl
  | a::t,b::t',h=>by
    unfold eqScs at h
    split at h
    · rename_i h1; rw [eqSc_ok h1,eqScs_ok h]
    · cases h
  | [],_::_,h=>by cases h
  | _::_,[],h=>by cases h
def lkA:List (List Value × List Cp)→List Value→Option (List Cp)
  | [],_=>none
  | (a,r)::t,l=>match eqScs a l with
    | true=>some r
    | false=>lkA t l
def AllA (P:Program) (f:FuncId):List (List Value × List Cp)→Prop
  | []=>True
  | (a,r)::t=>PureA P f a r∧AllA P f t
theorem liftA_tab {P:Program} {f:FuncId}:∀ {T:List (List Value × List Cp)},AllA P f T→LiftK P f (lkA T)
  | [],_=>⟨fun _ _ _ h=>by cases h⟩
  | (a,r)::t,h=>⟨fun vals r' w hg=>by
    unfold lkA at hg
    split at hg
    · rename_i he
      simp only [Option.some.injEq] at hg
      subst hg
      rw [← eqScs_ok he]
      exact h.1.spec w
    · exact (liftA_tab h.2).spec vals r' w hg⟩
end Go.RX
