/- One operation: what it yields, and what it makes and writes. -/
import Derived.Test.YtipfobacinmoiaaGreatRXM
set_option linter.unusedVariables false
set_option linter.unusedSimpArgs false
namespace Go.RX
open Go Go.SL
universe u
section
variable {P:Program} {ρ:Env} {B:List (Nat × Ent)} {s:S} {L:List (Nat × Value)} {w:World} {op:Op} {ty t t' e:TypeId} {x y:Operand} {φ:V→Prop}
def xread (P:Program) (B:List (Nat × Ent)) (s:S) (op:Op):R V:=match op with
  | .move x=>getX s x
  | .assign x=>getX s x
  | .pick z x y=>(getX s z).bind fun z'=>(getX s x).bind fun x'=>(getX s y).bind fun y'=>xpick z' x' y'
  | .nilCheck x=>(getX s x).bind fun u=>xnil u
  | .binOp o t x y _=>(getX s x).bind fun u=>(getX s y).bind fun v=>xbinM P B s t o u v
  | .unOp o _ x=>(getX s x).bind fun u=>xun o u
  | .convert t t' x=>(getX s x).bind fun u=>xconv P t t' u
  | .extract x k=>(getX s x).bind fun u=>xext k u
  | .field t x f=>(getX s x).bind fun u=>xfield P t f u
  | .fieldAddr t x f=>(getX s x).bind fun u=>xfieldA P t f u
  | .index t x y=>(getX s x).bind fun u=>(getX s y).bind fun v=>xindex P t u v
  | .indexAddr t x y=>(getX s x).bind fun u=>(getX s y).bind fun v=>xindexA P B s t u v
  | .load t x=>match tSize P t with
    | some (_+1)=>(getX s x).bind fun u=>xload P B s t u
    | _=>R.fail
  | .build t parts=>xbuild P s t parts.toList
  | .makeFunc f first captured=>xmkfn s f first.toList captured.toList
  | .slice t x lo hi none=>(getX s x).bind fun u=>xslice P B s t u lo hi
  | .lookup t x y c=>(getX s x).bind fun u=>(getX s y).bind fun k=>xlookup P B s t c u k
  | .call ⟨.builtin .len,args,at_⟩=>match args.toList with
    | [x]=>(getX s x).bind fun u=>xlen P B s at_ u
    | _=>R.fail
  | .call ⟨.builtin .max,args,_⟩=>(R.lift (xevA s.fr args.toList)).bind fun l=>xmaxmin true l
  | .call ⟨.builtin .min,args,_⟩=>(R.lift (xevA s.fr args.toList)).bind fun l=>xmaxmin false l
  | _=>R.fail
theorem xread_ok (h:Sees ρ B s L w):(xread P B s op).Ok (fun u=>noDefer op=true∧Gives P ρ L op ty w u):=by
  have key:∀ {m:R V},noDefer op=true→m.Ok (Gives P ρ L op ty w)→m.Ok (fun u=>noDefer op=true∧Gives P ρ L op ty w u):=fun hn hm=>hm.mono fun _ hu=>⟨hn,hu⟩
  unfold xread
  split
  · exact key rfl ((getX_ok h _).mono fun u ⟨v,h1,h2⟩=>⟨v,h2,fun n ds=>RunV.move h1⟩)
  · exact key rfl ((getX_ok h _).mono fun u ⟨v,h1,h2⟩=>⟨v,h2,fun n ds=>RunV.assign h1⟩)
  · exact key rfl (getX_then h fun _ _ h1 h2=>getX_then h fun _ _ h3 h4=>getX_then h fun _ _ h5 h6=>xpick_ok h1 h3 h5 h2 h4 h6)
  · exact key rfl (getX_then h fun _ _ h1 h2=>xnil_ok h1 h2)
  · exact key rfl (getX_then h fun _ _ h1 h2=>getX_then h fun _ _ h3 h4=>xbinM_ok h h1 h3 h2 h4)
  · exact key rfl (getX_then h fun _ _ h1 h2=>xun_ok h1 h2)
  · exact key rfl (getX_then h fun _ _ h1 h2=>xconv_ok h1 h2)
  · exact key rfl (getX_then h fun _ _ h1 h2=>xext_ok h1 h2)
  · exact key rfl (getX_then h fun _ _ h1 h2=>xfield_ok h1 h2)
  · exact key rfl (getX_then h fun _ _ h1 h2=>xfieldA_ok h1 h2)
  · exact key rfl (getX_then h fun _ _ h1 h2=>getX_then h fun _ _ h3 h4=>xindex_ok h1 h3 h2 h4)
  · exact key rfl (getX_then h fun _ _ h1 h2=>getX_then h fun _ _ h3 h4=>xindexA_ok h h1 h3 h2 h4)
  · split
    · rename_i hs
      exact key rfl (getX_then h fun _ _ h1 h2=>xload_ok h h1 h2 (by rw [hs]; simp))
    · exact R.Ok.fail
  · exact key rfl (xbuild_ok h)
  · exact key rfl (xmkfn_ok h)
  · exact key rfl (getX_then h fun _ _ h1 h2=>xslice_ok h h1 h2)
  · exact key rfl (getX_then h fun _ _ h1 h2=>getX_then h fun _ _ h3 h4=>xlookup_ok h h1 h3 h2 h4)
  · rename_i args at_
    split
    · rename_i x ha
      have:args=#[x]:=by apply Array.ext'; exact ha
      subst this
      exact key rfl (getX_then h fun _ _ h1 h2=>xlen_ok h h1 h2)
    · exact R.Ok.fail
  · refine key rfl (R.Ok.bind (R.Ok.lift fun l hl=>?_))
    obtain ⟨vs,h1,h2⟩:=xevA_ok h hl
    exact xmax_ok h1 h2
  · refine key rfl (R.Ok.bind (R.Ok.lift fun l hl=>?_))
    obtain ⟨vs,h1,h2⟩:=xevA_ok h hl
    exact xmin_ok h1 h2
  · exact R.Ok.fail
end
section
variable {r:Option Nat} {P:Program} {w0 w:World} {X:Nat→Prop} {B:List (Nat × Ent)} {n:Nat} {ds:List Deferred} {s s':S} {ρ:Env} {L:List (Nat × Value)} {BM M:List Asr} {a:Act} {op:Op} {ty t e:TypeId} {dst:Option Tmp}
theorem Rl.sees (h:Rl w0 X B n s ρ L BM M ds a w):Sees ρ B s L w:=by
  refine ⟨h.fr,fun e ent he=>?_⟩
  unfold rdA at he
  split at he
  · rename_i x hx
    simp only [Option.some.injEq] at he
    subst he
    obtain ⟨p,h1,h2⟩:=h.hm.get hx
    cases x with
    | cel l ty=>obtain ⟨b,cs,h3,h4,rfl⟩:=h2; exact ⟨b,cs,h3,h4,h.st.ptAt h1⟩
    | arr ty k xs=>obtain ⟨v,ys,h3,h4,rfl⟩:=h2; exact ⟨v,ys,h3,h4,h.st.rdS h1⟩
    | loop z=>trivial
    | mark=>trivial
    | map l=>obtain ⟨b,kvs,h3,h4,rfl⟩:=h2; exact ⟨b,kvs,h3,h4,h.st.at_ h1⟩
    | gl g l ty=>obtain ⟨cs,h3,h4,rfl⟩:=h2; exact ⟨cs,h4,h.st.ptAt h1⟩
  · obtain ⟨p,h1,h2⟩:=h.hb.get he
    cases ent with
    | cel l ty=>obtain ⟨b,cs,h3,h4,rfl⟩:=h2; exact ⟨b,cs,h3,h4,h.st.bptAt h1⟩
    | arr ty k xs=>obtain ⟨v,ys,h3,h4,rfl⟩:=h2; exact ⟨v,ys,h3,h4,h.st.rdB h1⟩
    | loop z=>trivial
    | mark=>trivial
    | map l=>obtain ⟨b,kvs,h3,h4,rfl⟩:=h2; exact ⟨b,kvs,h3,h4,h.st.bat h1⟩
    | gl g l ty=>obtain ⟨cs,h3,h4,rfl⟩:=h2; exact ⟨cs,h4,h.st.bptAt h1⟩
def Go_ (w0:World) (X:Nat→Prop) (B:List (Nat × Ent)) (n:Nat) (s':S) (ρ:Env) (BM:List Asr) (K:Act→World→Prop):Prop :=
  ∀ ρ' L' M' ds' a' w',ρ.le ρ'→Rl w0 X B n s' ρ' L' BM M' ds' a' w'→K a' w'
def Step (r:Option Nat) (P:Program) (w0:World) (X:Nat→Prop) (B:List (Nat × Ent)) (n:Nat) (s:S) (dst:Option Tmp) (op:Op) (ty:TypeId) (s':S):Prop :=
  ∀ ρ L BM M ds a w,Rl w0 X B n s ρ L BM M ds a w→∀ (ops:Array Oper) Q i rest pos af,ops[i]? = some ⟨dst,op,ty,pos,af,none⟩→Go_ w0 X B n s' ρ BM (O r P ops Q rest)→O r P ops Q (i::rest) a w
def putS (n:Nat) (s:S) (dst:Option Tmp) (u:V):R S:=match dst with
  | some d=>match Nat.blt d n with
    | true=>R.pure ⟨putV s.fr d u,s.H,s.nx,s.df⟩
    | false=>R.fail
  | none=>R.pure s
theorem putS_ok {u:V} (hu:∀ ρ L w,Sees ρ B s L w→noDefer op=true∧Gives P ρ L op ty w u):(putS n s dst u).Ok (Step r P w0 X B n s dst op ty):=by
  unfold putS
  split
  · split
    · rename_i d hd
      refine R.Ok.pure ?_
      intro ρ L BM M ds a w hR ops Q i rest pos af ho K
      obtain ⟨hnd,v,hv,hr⟩:=hu ρ L w hR.sees
      exact O.val hR.act ho hnd hd (hr n ds) fun a' hf'=>K ρ _ M _ a' w (Env.le.refl ρ) ⟨hR.dom,hR.fr.put hv,hR.hb,hR.hm,hR.df,hf',hR.st⟩
    · exact R.Ok.fail
  · refine R.Ok.pure ?_
    intro ρ L BM M ds a w hR ops Q i rest pos af ho K
    obtain ⟨hnd,v,hv,hr⟩:=hu ρ L w hR.sees
    exact O.val0 hR.act ho hnd (hr n ds) (K ρ L M _ a w (Env.le.refl ρ) hR)
theorem xread_step:((xread P B s op).bind fun u=>putS n s dst u).Ok (Step r P w0 X B n s dst op ty):=by
  have h:(xread P B s op).Ok fun u=>∀ ρ L w,Sees ρ B s L w→noDefer op=true∧Gives P ρ L op ty w u :=
    R.Ok.all fun ρ=>R.Ok.all fun L=>R.Ok.all fun w=>⟨fun u e hs=>(xread_ok hs).conc u e,fun d u o d' e ha hs=>(xread_ok hs).sym d u o d' e ha⟩
  exact h.andThen fun u hu=>putS_ok hu
def Env.upd (ρ:Env) (v:Value):Env:=⟨fun k=>match Nat.beq k ρ.nx with
  | true=>some v
  | false=>ρ k,ρ.nx+1,fun e he=>by
    split
    · rename_i hb; have:=Nat.eq_of_beq_eq_true hb; omega
    · exact ρ.dom e (by omega)⟩
theorem Env.upd_le {ρ:Env} {v:Value}:ρ.le (ρ.upd v):=⟨Nat.le_succ _,fun e he=>by
  show (match Nat.beq e ρ.nx with
    | true=>some v
    | false=>ρ e)=ρ e
  split
  · rename_i hb; have:=Nat.eq_of_beq_eq_true hb; omega
  · rfl⟩
theorem Env.upd_self {ρ:Env} {v:Value} {e:Nat} (h:ρ.nx=e):(ρ.upd v) e=some v:=by
  subst h
  show (match Nat.beq ρ.nx ρ.nx with
    | true=>some v
    | false=>ρ ρ.nx)=some v
  rw [Nat.beq_refl]
theorem Rl.new (h:Rl w0 X B n s ρ L BM M ds a w) {d:Nat} {u:V} {ent:Ent} {v v':Value} {p:Asr} {a':Act} {w':World} (hf:Fr a' n ds ((d,v')::L)) (hS:St w0 w' X BM (p::M)) (hE:ER (ρ.upd v) s.nx ent p) (hv:VR (ρ.upd v) u v') :
    Rl w0 X B n ⟨putV s.fr d u,(s.nx,ent)::s.H,s.nx+1,s.df⟩ (ρ.upd v) ((d,v')::L) BM (p::M) ds a' w':=by
  have hle:ρ.le (ρ.upd v):=Env.upd_le
  exact ⟨congrArg (·+1) h.dom,(h.fr.mono hle).put hv,h.hb.mono fun _ _ _=>EB.mono hle,.cons hE (h.hm.mono fun _ _ _=>ER.mono hle),h.df.mono hle,hf,hS⟩
def newS (n:Nat) (s:S) (dst:Option Tmp) (u:V) (ent:Ent):R S:=match dst with
  | some d=>match Nat.blt d n with
    | true=>R.pure ⟨putV s.fr d u,(s.nx,ent)::s.H,s.nx+1,s.df⟩
    | false=>R.fail
  | none=>R.fail
theorem newS_ok {u:V} {ent:Ent} (h:∀ d,Nat.blt d n=true→Step r P w0 X B n s (some d) op ty ⟨putV s.fr d u,(s.nx,ent)::s.H,s.nx+1,s.df⟩):(newS n s dst u ent).Ok (Step r P w0 X B n s dst op ty):=by
  unfold newS
  split
  · split
    · rename_i hd; exact R.Ok.pure (h _ hd)
    · exact R.Ok.fail
  · exact R.Ok.fail
def xalloc (P:Program) (n:Nat) (s:S) (dst:Option Tmp) (t:TypeId):R S:=(R.lift (zeroV P t)).bind fun z=>newS n s dst (.p s.nx 0) (.cel z t)
theorem xalloc_ok:(xalloc P n s dst t).Ok (Step r P w0 X B n s dst (.alloc t) ty):=by
  refine R.Ok.bind (R.Ok.lift fun z hz=>newS_ok fun d hd=>?_)
  obtain ⟨zv,h3,rfl⟩:=Option.map_eq_some_iff.1 hz
  intro ρ L BM M ds a w h ops Q i rest pos af ho K
  refine O.alloc h.act h.st ho hd h3 rfl fun b w' a' _ hS hf=>?_
  exact K _ _ _ _ a' w' (Env.upd_le) (h.new hf hS ⟨b,_,(Env.upd_self h.dom),VRL.ofc _,by simp⟩ (.p (Env.upd_self h.dom)))
def xbox (n:Nat) (s:S) (dst:Option Tmp) (t:TypeId) (x:Operand):R S:=(getX s x).bind fun u=>(R.lift (cellsV u)).bind fun l=>newS n s dst (.p s.nx 0) (.cel l t)
theorem xbox_ok {x:Operand}:(xbox n s dst t x).Ok (Step r P w0 X B n s dst (.box t x) ty):=by
  refine R.Ok.bind (R.Ok.lift fun u hu=>R.Ok.bind (R.Ok.lift fun l hl=>newS_ok fun d hd=>?_))
  intro ρ L BM M ds a w h ops Q i rest pos af ho K
  obtain ⟨v,h1,h2⟩:=h.fr.ev hu
  refine O.box h.act h.st ho hd h1 rfl fun b w' a' _ hS hf=>?_
  have hle:ρ.le (ρ.upd (.pointer (some ⟨b,0,none⟩))):=Env.upd_le
  exact K _ _ _ _ a' w' hle (h.new hf hS ⟨b,_,(Env.upd_self h.dom),(cellsV_ok h2 hl).mono hle,by simp⟩ (.p (Env.upd_self h.dom)))
theorem oneV_all {l:List V} {cs:List Value}:VRL ρ l cs→l.all oneV=true→oneCells cs=true:=by
  intro h
  induction h using VRL.rec (motive_1:=fun _ _ _=>True) with
  | nil=>intro _; rfl
  | cons hv ht _ ih =>
    intro h1
    simp only [List.all_cons,Bool.and_eq_true] at h1
    exact oneCells_cc (oneV_ok hv h1.1) (ih h1.2)
  | _=>trivial
def decL (k:Ck):Nat→List V→Option (List k.ty)
  | 0,[]=>some []
  | 0,_::_=>none
  | m+1,l=>match k.cd.dec (l.take k.cd.sz) with
    | some x=>match decL k m (l.drop k.cd.sz) with
      | some xs=>some (x::xs)
      | none=>none
    | none=>none
theorem oneCells_take:∀ {l:List Value} (k:Nat),oneCells l=true→oneCells (l.take k)=true
  | _,0,_=>by simp [oneCells]
  | [],_+1,_=>rfl
  | v::t,k+1,h=>by
    obtain ⟨h1,h2⟩:=oneCells_cons h
    exact oneCells_cc h1 (oneCells_take k h2)
theorem oneCells_drop:∀ {l:List Value} (k:Nat),oneCells l=true→oneCells (l.drop k)=true
  | _,0,h=>h
  | [],_+1,_=>rfl
  | v::t,k+1,h=>oneCells_drop k (oneCells_cons h).2
theorem dec_row {k:Ck} {l:List V} {cs:List Value} {x:k.ty} (h:VRL ρ l cs) (h1:oneCells cs=true) (hd:k.cd.dec l=some x):∃ y:Row k.cd.sz,y.1=cs∧VRL ρ (k.cd.enc x) y.1:=by
  have he:=k.cd.hd l x hd
  have hl:=k.cd.hl x
  rw [he] at hl
  exact ⟨⟨cs,by rw [← h.len]; exact hl,h1⟩,rfl,by rw [he]; exact h⟩
theorem decL_ok {k:Ck}:∀ {m:Nat} {l:List V} {cs:List Value} {xs:List k.ty},VRL ρ l cs→oneCells cs=true→decL k m l=some xs→∃ ys,RL ρ k.cd xs ys∧encs (encW k.cd.sz) ys=cs∧xs.length=m
  | 0,[],cs,xs,h,_,hd=>by
    simp only [decL,Option.some.injEq] at hd
    subst hd
    cases h
    exact ⟨[],.nil,rfl,rfl⟩
  | 0,_::_,cs,xs,h,_,hd=>by cases hd
  | m+1,l,cs,xs,h,h1,hd=>by
    simp only [decL] at hd
    split at hd
    · rename_i x hx
      split at hd
      · rename_i xs' hxs
        simp only [Option.some.injEq] at hd
        subst hd
        obtain ⟨y,h2,h3⟩:=dec_row (h.take k.cd.sz) (oneCells_take _ h1) hx
        obtain ⟨ys,h4,h5,h6⟩:=decL_ok (h.drop k.cd.sz) (oneCells_drop _ h1) hxs
        refine ⟨y::ys,.cons h3 h4,?_,by simp [h6]⟩
        simp only [encs] at h5
        simp only [encs,List.flatMap_cons,h5]
        show y.1++_=_
        rw [h2,List.take_append_drop]
      · cases hd
    · cases hd
def askC (sz:Nat):R Ck:=⟨some (.row sz),fun d=>match d with
  | .cd c::r=>some (c,[],r)
  | _=>none⟩
theorem askC_ok {sz:Nat} {φ:Ck→Prop} (h:∀ k,φ k):(askC sz).Ok φ:=⟨fun x _=>h x,fun d x o d' e _=>h x⟩
def xbuildSlice (P:Program) (n:Nat) (s:S) (dst:Option Tmp) (t:TypeId) (len:Nat) (parts:List (Nat × Operand)):R S:=match tElem P t with
  | none=>R.fail
  | some e=>match tSize P e with
    | none=>R.fail
    | some m=>(askC m).bind fun k=>match Nat.beq k.cd.sz m with
      | false=>R.fail
      | true=>match len with
        | 0=>match parts with
          | []=>newS n s dst (.sl s.nx) (.arr e k [])
          | _::_=>R.fail
        | len+1=>match tZero P e with
          | none=>R.fail
          | some z=>match Nat.ble ((len+1)*m) 16777216&&Nat.blt 0 m&&Nat.ble (len+1) 1000 with
            | false=>R.fail
            | true=>(R.lift (xevP s.fr parts)).bind fun ps =>
              (R.lift (fillV (fun i=>some (i*m,m)) (((List.range ((len+1)*m)).map (z.cells[· % z.cells.size]!)).map .c) ps)).bind fun l =>
              match l.all oneV with
              | false=>R.fail
              | true=>(R.lift (decL k (len+1) l)).bind fun xs=>newS n s dst (.sl s.nx) (.arr e k xs)
theorem xbuildSlice_ok {len:Nat} {parts:Array (Nat × Operand)}:(xbuildSlice P n s dst t len parts.toList).Ok (Step r P w0 X B n s dst (.buildSlice t len parts) ty):=by
  unfold xbuildSlice
  split
  · exact R.Ok.fail
  · rename_i e he
    split
    · exact R.Ok.fail
    · rename_i m hm
      refine R.Ok.bind (askC_ok fun k=>?_)
      split
      · exact R.Ok.fail
      · rename_i hk
        have hk:=Nat.eq_of_beq_eq_true hk
        subst hk
        split
        · split
          · rename_i hp
            refine newS_ok fun d hd=>?_
            intro ρ L BM M ds a w h ops Q i rest pos af ho K
            have hp':parts=#[]:=by apply Array.ext'; exact hp
            refine O.buildSlice0 h.act h.st ho hd he hm hp' fun b w' a' _ hS hf=>?_
            refine K _ _ _ _ a' w' (Env.upd_le) (h.new hf hS ⟨_,[],(Env.upd_self h.dom),.nil,?_⟩ (.sl (Env.upd_self h.dom) rfl))
            simp [slE,encs]
          · exact R.Ok.fail
        · rename_i len
          split
          · exact R.Ok.fail
          · rename_i z hz
            split
            · exact R.Ok.fail
            · rename_i hb
              simp only [Bool.and_eq_true] at hb
              obtain ⟨⟨hb1,hb2⟩,hb3⟩:=hb
              refine R.Ok.bind (R.Ok.lift fun ps hps=>R.Ok.bind (R.Ok.lift fun l hl=>?_))
              split
              · exact R.Ok.fail
              · rename_i hall
                refine R.Ok.bind (R.Ok.lift fun xs hxs=>newS_ok fun d hd=>?_)
                intro ρ L BM M ds a w h ops Q i rest pos af ho K
                obtain ⟨vs,h1,h2⟩:=xevP_ok h.sees hps
                obtain ⟨cs',h4,h5⟩:=fillV_ok (cs:=((List.range ((len+1)*k.cd.sz)).map (z.cells[· % z.cells.size]!)).toArray) h2 (VRL.ofc (ρ:=ρ) _) hl
                obtain ⟨ys,h6,h7,h8⟩:=decL_ok h5 (oneV_all h5 hall) hxs
                refine O.buildSlice h.act h.st ho hd he hm hz hb1 (by
                  have:0<k.cd.sz:=by simpa using hb2
                  simpa using Nat.mul_pos (Nat.succ_pos len) this) rfl h1 h4 fun b w' a' _ hS hf=>?_
                have hlen:ys.length=len+1:=by rw [← h6.len,h8]
                have hsz:cs'.size=(len+1)*k.cd.sz:=by
                  have:=congrArg List.length h7
                  rw [encs_len encW_len,hlen] at this
                  simpa using this.symm
                have hS':=hS.ptE (j:=0) (enc:=encW k.cd.sz) (xs:=ys) (N:=len+1) rfl hb3 hlen hsz h7.symm rfl
                refine K _ _ _ _ a' w' (Env.upd_le) (h.new hf hS' ⟨_,ys,(Env.upd_self h.dom),h6.mono (Env.upd_le),rfl⟩ (.sl (Env.upd_self h.dom) rfl))
def xmake (P:Program) (n:Nat) (s:S) (dst:Option Tmp) (t:TypeId) (x y:Operand):R S:=match tElem P t with
  | none=>R.fail
  | some e=>match tSize P e,tBytes P e,zeroV P e with
    | some m,some by_,some z=>(askC m).bind fun k=>match Nat.beq k.cd.sz m&&Nat.blt 0 m&&Nat.ble by_ 32000&&z.all oneV with
      | false=>R.fail
      | true=>(getX s x).bind fun u=>(getX s y).bind fun v=>match u,v with
        | .c (.int _ p),.c (.int _ c)=>(askP (0≤p∧p≤c∧c≤4294967296)).bind fun _=>(R.lift (k.cd.dec z)).bind fun x0=>newS n s dst (.sl s.nx) (.arr e k (List.replicate p.toNat x0))
        | _,_=>R.fail
    | _,_,_=>R.fail
theorem xmake_ok {x y:Operand}:(xmake P n s dst t x y).Ok (Step r P w0 X B n s dst (.makeSlice t x y) ty):=by
  unfold xmake
  split
  · exact R.Ok.fail
  · rename_i e he
    split
    · rename_i m by_ z hm hby hz
      refine R.Ok.bind (askC_ok fun k=>?_)
      split
      · exact R.Ok.fail
      · rename_i hb
        simp only [Bool.and_eq_true] at hb
        obtain ⟨⟨⟨hb1,hb2⟩,hb3⟩,hb4⟩:=hb
        have hk:=Nat.eq_of_beq_eq_true hb1
        subst hk
        refine R.Ok.bind (R.Ok.lift fun u hu=>R.Ok.bind (R.Ok.lift fun v hv=>?_))
        split
        · rename_i k1 p k2 c
          refine (askP_ok _).andThen fun _ hp=>R.Ok.bind (R.Ok.lift fun x0 hx0=>newS_ok fun d hd=>?_)
          intro ρ L BM M ds a w h ops Q i rest pos af ho K
          obtain ⟨zv,h3,rfl⟩:=Option.map_eq_some_iff.1 hz
          obtain ⟨u1,h4,h5⟩:=h.fr.ev hu
          obtain ⟨v1,h6,h7⟩:=h.fr.ev hv
          cases h5; cases h7
          have hone:=oneV_all (VRL.ofc (ρ:=ρ) zv.cells.toList) hb4
          obtain ⟨y,hy1,hy2⟩:=dec_row (VRL.ofc (ρ:=ρ) zv.cells.toList) hone hx0
          refine O.makeCapE (enc:=encW k.cd.sz) (x0:=y) h.act h.st ho hd he hm hby h3 hb2 h4 h6 hp hb3 encW_len hy1.symm fun v' w' a' hS hf=>?_
          have hS:=hS
          have hsl:isSl v'=true:=by
            have:=(hS.slS (j:=0) rfl).isSlice
            obtain ⟨A,cap,rfl,_⟩:=this
            rfl
          exact K _ _ _ _ a' w' (Env.upd_le) (h.new hf hS ⟨_,_,(Env.upd_self h.dom),(RL.rep hy2 _).mono (Env.upd_le),rfl⟩ (.sl (Env.upd_self h.dom) hsl))
        · exact R.Ok.fail
    · exact R.Ok.fail
end
end Go.RX
