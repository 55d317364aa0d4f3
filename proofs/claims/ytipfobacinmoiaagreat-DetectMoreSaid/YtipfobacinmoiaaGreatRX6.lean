/- Memory written: store, append, copy; one operation of a region. -/
import Derived.Test.YtipfobacinmoiaaGreatRX5
set_option linter.unusedVariables false
set_option linter.unusedSimpArgs false
namespace Go.RX
open Go Go.SL
universe u
section
variable {r:Option Nat} {P:Program} {w0 w:World} {X:Nat→Prop} {B:List (Nat × Ent)} {n:Nat} {ds:List Deferred} {s s':S} {ρ:Env} {L:List (Nat × Value)} {BM M:List Asr} {a:Act} {op:Op} {ty t e:TypeId} {dst:Option Tmp} {x y:Operand}
theorem Rl.setE (h:Rl w0 X B n s ρ L BM M ds a w) {e:Nat} {ent ent':Ent} {p':Asr} {a':Act} {w':World} (he:lkE s.H e=some ent) (hE:ER ρ e ent' p') (hf:Fr a' n ds L) (hS:St w0 w' X BM (M.set (ixE s.H e) p')) :
    Rl w0 X B n ⟨s.fr,setE s.H e ent',s.nx,s.df⟩ ρ L BM (M.set (ixE s.H e) p') ds a' w' :=
  ⟨h.dom,h.fr,h.hb,h.hm.set he hE,h.df,hf,hS⟩
theorem wr_spl {cs:Array Value} {o:Nat} {us:List Value} (h:o+us.length≤cs.size):(wr cs o us).toList=spl cs.toList o us:=by
  apply List.ext_getElem?
  intro j
  rw [spl_get (by simpa using h),Array.getElem?_toList,wr_toList,Array.getElem?_toList]
  by_cases h1:o≤j∧j<o+us.length
  · rw [if_pos h1,if_pos ⟨by omega,h1⟩]
  · rw [if_neg h1,if_neg (fun h2=>h1 h2.2),Array.getElem?_toList]
theorem wrV_spl:∀ {l m:List V} {cs us:List Value} (o:Nat),VRL ρ l cs→VRL ρ m us→o+us.length≤cs.length→VRL ρ (wrV l o m) (spl cs o us):=fun {l m cs us} o h1 h2 h3=>by
  have:=wrV_ok (cs:=cs.toArray) o h1 h2
  rwa [wr_spl (by simpa using h3)] at this
theorem oneCells_app' {a b:List Value} (h1:oneCells a=true) (h2:oneCells b=true):oneCells (a++b)=true:=oneCells_app h1 h2
theorem oneCells_spl {cs us:List Value} {o:Nat} (h1:oneCells cs=true) (h2:oneCells us=true):oneCells (spl cs o us)=true :=
  oneCells_app' (oneCells_app' (oneCells_take _ h1) h2) (oneCells_drop _ h1)
def xstore (P:Program) (s:S) (dst:Option Tmp) (t:TypeId) (x y:Operand):R S:=match dst with
  | some _=>R.fail
  | none=>match tSize P t with
    | none=>R.fail
    | some q=>(getX s x).bind fun u=>(getX s y).bind fun v=>(R.lift (cellsV v)).bind fun m=>match Nat.beq m.length q&&m.all oneV with
      | false=>R.fail
      | true=>match u with
        | .p e o=>match lkE s.H e with
          | some (.cel l ty)=>match Nat.ble (o+q) l.length with
            | true=>R.pure ⟨s.fr,setE s.H e (.cel (wrV l o m) ty),s.nx,s.df⟩
            | false=>R.fail
          | _=>R.fail
        | .q e z i o=>match lkE s.H e with
          | some (.arr ty k xs)=>match Nat.beq z k.cd.sz with
            | false=>R.fail
            | true=>match Nat.beq o 0&&Nat.beq q k.cd.sz with
              | true=>(askP (inb xs.length i)).bind fun _=>(R.lift (k.cd.dec m)).bind fun x0=>R.pure ⟨s.fr,setE s.H e (.arr ty k (xs.set i.toNat x0)),s.nx,s.df⟩
              | false=>match Nat.ble (o+q) k.cd.sz with
                | false=>R.fail
                | true=>(askX ((SL.idx xs i).map k.cd.enc)).bind fun row=>(R.lift (k.cd.dec (wrV row o m))).bind fun x0=>R.pure ⟨s.fr,setE s.H e (.arr ty k (xs.set i.toNat x0)),s.nx,s.df⟩
          | _=>R.fail
        | _=>R.fail
theorem spl_all {cs us:List Value} (h:us.length=cs.length):spl cs 0 us=us:=by simp [spl,h]
theorem xstore_ok:(xstore P s dst t x y).Ok (Step r P w0 X B n s dst (.store t x y) ty):=by
  unfold xstore
  split
  · exact R.Ok.fail
  · split
    · exact R.Ok.fail
    · rename_i q hq
      refine R.Ok.bind (R.Ok.lift fun u hu=>R.Ok.bind (R.Ok.lift fun v hv=>R.Ok.bind (R.Ok.lift fun m hm=>?_)))
      split
      · exact R.Ok.fail
      · rename_i hb
        simp only [Bool.and_eq_true] at hb
        have hlen:=Nat.eq_of_beq_eq_true hb.1
        split
        · rename_i ee o
          split
          · rename_i l ty' he
            split
            · rename_i hle
              have hle:=Nat.le_of_ble_eq_true hle
              refine R.Ok.pure ?_
              intro ρ L BM M ds a w h ops Q i rest pos af ho K
              obtain ⟨u1,h1,h2⟩:=h.fr.ev hu
              obtain ⟨v1,h3,h4⟩:=h.fr.ev hv
              obtain ⟨p,h5,b,cs,h6,h7,rfl⟩:=h.hm.get he
              cases h2 with
              | p hh =>
                rw [hh] at h6; injection h6 with h6; injection h6 with h6; injection h6 with h6; injection h6 with h6 _ _; subst h6
                have hc:=cellsV_ok h4 hm
                have hcl:v1.cells.size=q:=by have:=hc.len; simp only [Array.length_toList] at this; omega
                have hone:=oneV_all hc hb.2
                refine O.store (m:=q) h.act h.st ho h1 h3 hq hcl hone h5 (by have:=h7.len; simp; omega) rfl rfl fun w' hS=>?_
                refine K ρ L _ _ a w' (Env.le.refl ρ) (h.setE he ⟨_,(wr cs.toArray o v1.cells.toList).toList,hh,wrV_ok (cs:=cs.toArray) o h7 hc,?_⟩ h.act hS)
                simp
            · exact R.Ok.fail
          · exact R.Ok.fail
        · rename_i ee z i0 o
          split
          · rename_i ty' k xs he
            split
            · exact R.Ok.fail
            · rename_i hz
              have hz:=Nat.eq_of_beq_eq_true hz
              subst hz
              split
              · rename_i hoq
                simp only [Bool.and_eq_true] at hoq
                have ho0:=Nat.eq_of_beq_eq_true hoq.1
                have hqz:=Nat.eq_of_beq_eq_true hoq.2
                subst ho0; subst hqz
                refine (askP_ok _).andThen fun _ hp=>R.Ok.bind (R.Ok.lift fun x0 hx0=>R.Ok.pure ?_)
                intro ρ L BM M ds a w h ops Q i rest pos af ho K
                obtain ⟨u1,h1,h2⟩:=h.fr.ev hu
                obtain ⟨v1,h3,h4⟩:=h.fr.ev hv
                obtain ⟨p,h5,vv,ys,h6,h7,rfl⟩:=h.hm.get he
                cases h2 with
                | q hh hs =>
                  rw [hh] at h6; injection h6 with h6; subst h6
                  have hc:=cellsV_ok h4 hm
                  have hcl:v1.cells.size=k.cd.sz:=by have:=hc.len; simp only [Array.length_toList] at this; omega
                  have hone:=oneV_all hc hb.2
                  rw [h7.len] at hp
                  obtain ⟨y0,hy0⟩:=inb_idx hp
                  obtain ⟨y,hy1,hy2⟩:=dec_row hc hone hx0
                  refine O.storeE (q:=k.cd.sz) (enc:=encW k.cd.sz) (y0:=y) h.act h.st ho h1 h3 hq hcl hone h5 encW_len hy0 (by simp) ?_ rfl rfl fun w' hS=>?_
                  · show y.1=spl y0.1 0 v1.cells.toList
                    rw [spl_all (by rw [← hy1,y.2.1,y0.2.1]),hy1]
                  · exact K ρ L _ _ a w' (Env.le.refl ρ) (h.setE he ⟨_,_,hh,h7.set _ hy2,rfl⟩ h.act hS)
              · split
                · exact R.Ok.fail
                · rename_i hle
                  have hle:=Nat.le_of_ble_eq_true hle
                  refine (askX_ok _).andThen fun row hrow=>R.Ok.bind (R.Ok.lift fun x0 hx0=>R.Ok.pure ?_)
                  intro ρ L BM M ds a w h ops Q i rest pos af ho K
                  obtain ⟨xi,hxi,rfl⟩:=Option.map_eq_some_iff.1 hrow
                  obtain ⟨u1,h1,h2⟩:=h.fr.ev hu
                  obtain ⟨v1,h3,h4⟩:=h.fr.ev hv
                  obtain ⟨p,h5,vv,ys,h6,h7,rfl⟩:=h.hm.get he
                  cases h2 with
                  | q hh hs =>
                    rw [hh] at h6; injection h6 with h6; subst h6
                    have hc:=cellsV_ok h4 hm
                    have hcl:v1.cells.size=q:=by have:=hc.len; simp only [Array.length_toList] at this; omega
                    have hone:=oneV_all hc hb.2
                    obtain ⟨y0,hy0,hyr⟩:=h7.idx hxi
                    have hsp:=wrV_spl o hyr hc (by rw [y0.2.1]; simp only [Array.length_toList]; omega)
                    obtain ⟨y,hy1,hy2⟩:=dec_row hsp (oneCells_spl y0.2.2 hone) hx0
                    refine O.storeE (q:=q) (enc:=encW k.cd.sz) (y0:=y) h.act h.st ho h1 h3 hq hcl hone h5 encW_len hy0 (by simpa using hle) hy1 rfl rfl fun w' hS=>?_
                    exact K ρ L _ _ a w' (Env.le.refl ρ) (h.setE he ⟨_,_,hh,h7.set _ hy2,rfl⟩ h.act hS)
          · exact R.Ok.fail
        · exact R.Ok.fail
def renE:List (Nat × Ent)→Nat→Nat→Ent→List (Nat × Ent)
  | [],_,_,_=>[]
  | (k,v)::t,j,j',x=>match Nat.beq k j with
    | true=>(j',x)::t
    | false=>(k,v)::renE t j j' x
theorem HR.ren {F:Nat→Ent→Asr→Prop}:∀ {H M} {e e':Nat} {ent ent':Ent} {p':Asr},HR F H M→lkE H e=some ent→F e' ent' p'→HR F (renE H e e' ent') (M.set (ixE H e) p')
  | _,_,_,_,_,_,_,.nil,h,_=>by cases h
  | _,_,e,e',ent,ent',p',.cons (e:=k) a t,h,hp=>by
    simp only [lkE] at h
    simp only [ixE,renE]
    split at h
    · rename_i hb
      have:=Nat.eq_of_beq_eq_true hb
      subst this
      simp only [hb]
      exact .cons hp t
    · rename_i hb
      simp only [hb]
      exact .cons a (HR.ren t h hp)
def rows (B:List (Nat × Ent)) (s:S) (k:Ck):V→Option (List k.ty)
  | .sl e=>match rdA s B e with
    | some (.arr _ k' xs)=>Ck.cast xs
    | _=>none
  | .sw e z a b=>match rdA s B e with
    | some (.arr _ k' xs)=>match Nat.beq z k'.cd.sz,decide (sbd a b (xs.length:Int)) with
      | true,true=>Ck.cast (lsub xs a b)
      | _,_=>none
    | _=>none
  | .c (.slice none 0 0)=>some []
  | .ez=>some []
  | _=>none
theorem cast_ok {a b:Ck} {xs:List a.ty} {xs':List b.ty} (h:Ck.cast xs=some xs'):∃ e:a=b,e▸xs=xs':=by
  unfold Ck.cast at h
  split at h
  · rename_i hb
    simp only [Option.some.injEq] at h
    exact ⟨Ck.eq_ok hb,h⟩
  · cases h
theorem RL.lsub {α:Type} {C:Cd α} {xs:List α} {ys:List (Row C.sz)} (h:RL ρ C xs ys) (a b:Int):RL ρ C (SL.lsub xs a b) (SL.lsub ys a b):=(h.take _).drop _
theorem rows_ok {k:Ck} {u':V} {u:Value} {xs:List k.ty} (h:Sees ρ B s L w) (hu:VR ρ u' u) (hr:rows B s k u'=some xs):∃ ys,RL ρ k.cd xs ys∧rdEOK (hp w) k.cd.sz (encW k.cd.sz) u ys:=by
  unfold rows at hr
  split at hr
  · split at hr
    · rename_i ty' k' xs' he
      obtain ⟨rfl,rfl⟩:=cast_ok hr
      cases hu with
      | sl hh hs =>
        obtain ⟨v,ys,h1,h2,h3⟩:=h.arr he
        rw [hh] at h1; injection h1 with h1; subst h1
        exact ⟨ys,h2,h3⟩
    · cases hr
  · split at hr
    · rename_i ty' k' xs' he
      split at hr
      · rename_i hz hb
        have hz:=Nat.eq_of_beq_eq_true hz
        subst hz
        have hb:=of_decide_eq_true hb
        obtain ⟨rfl,rfl⟩:=cast_ok hr
        cases hu with
        | sw hh hs =>
          obtain ⟨v,ys,h1,h2,h3⟩:=h.arr he
          rw [hh] at h1; injection h1 with h1; subst h1
          rw [h2.len] at hb
          exact ⟨_,h2.lsub _ _,h3.sub encW_len hb⟩
      · cases hr
    · cases hr
  · simp only [Option.some.injEq] at hr
    subst hr
    cases hu
    exact ⟨[],.nil,rdEOK_nil⟩
  · simp only [Option.some.injEq] at hr
    subst hr
    cases hu
    exact ⟨[],.nil,⟨by simp [encs],Nat.zero_le _,_,_,rfl,fun h=>absurd h (Nat.lt_irrefl 0)⟩,Nat.zero_le _⟩
  · cases hr
def kindOf (B:List (Nat × Ent)) (s:S):V→Option Ck
  | .sl e=>match rdA s B e with
    | some (.arr _ k _)=>some k
    | _=>none
  | .sw e _ _ _=>match rdA s B e with
    | some (.arr _ k _)=>some k
    | _=>none
  | _=>none
def xappend (P:Program) (B:List (Nat × Ent)) (n:Nat) (s:S) (dst:Option Tmp) (args:List Operand) (at_:List TypeId):R S:=match args,at_ with
  | [x,y],[t,t']=>match Nat.beq t t' with
    | false=>R.fail
    | true=>match tElem P t with
      | none=>R.fail
      | some e=>match tSize P e,tBytes P e,tZero P e with
        | some m,some by_,some z=>match Nat.beq z.cells.size m&&Nat.blt 0 m&&Nat.ble by_ 16000 with
          | false=>R.fail
          | true=>match dst with
            | none=>R.fail
            | some d=>match Nat.blt d n with
              | false=>R.fail
              | true=>(getX s x).bind fun u=>(getX s y).bind fun v=>match u with
                | .sl q=>match lkE s.H q with
                  | some (.arr ty k xs)=>match Nat.beq ty e&&Nat.beq k.cd.sz m with
                    | false=>R.fail
                    | true=>(R.lift (rows B s k v)).bind fun zs=>(askP ((xs.length:Int)≤4294967296∧(zs.length:Int)≤4294967296)).bind fun _ =>
                      R.pure ⟨putV s.fr d (.sl s.nx),renE s.H q s.nx (.arr e k (xs++zs)),s.nx+1,s.df⟩
                  | _=>R.fail
                | .c (.slice none 0 0)=>match kindOf B s v with
                  | some k=>match Nat.beq k.cd.sz m with
                    | false=>R.fail
                    | true=>(R.lift (rows B s k v)).bind fun zs=>(askP ((zs.length:Int)≤4294967296)).bind fun _=>R.pure ⟨putV s.fr d (.sl s.nx),(s.nx,.arr e k zs)::s.H,s.nx+1,s.df⟩
                  | none=>R.fail
                | _=>R.fail
        | _,_,_=>R.fail
  | _,_=>R.fail
theorem xappend_ok {args:Array Operand} {at_:Array TypeId}:(xappend P B n s dst args.toList at_.toList).Ok (Step r P w0 X B n s dst (.call ⟨.builtin .append,args,at_⟩) ty):=by
  unfold xappend
  split
  · rename_i x y t t' hargs hat
    have hargs:args=#[x,y]:=by apply Array.ext'; exact hargs
    have hat:at_=#[t,t']:=by apply Array.ext'; exact hat
    subst hargs hat
    split
    · exact R.Ok.fail
    · rename_i htt
      have htt:=Nat.eq_of_beq_eq_true htt
      subst htt
      split
      · exact R.Ok.fail
      · rename_i e he
        split
        · rename_i m by_ z hm hby hz
          split
          · exact R.Ok.fail
          · rename_i hb
            simp only [Bool.and_eq_true] at hb
            obtain ⟨⟨hb1,hb2⟩,hb3⟩:=hb
            have hb1:=Nat.eq_of_beq_eq_true hb1
            split
            · exact R.Ok.fail
            · rename_i d
              split
              · exact R.Ok.fail
              · rename_i hd
                refine R.Ok.bind (R.Ok.lift fun u hu=>R.Ok.bind (R.Ok.lift fun v hv=>?_))
                split
                · rename_i q
                  split
                  · rename_i ty' k xs hq
                    split
                    · exact R.Ok.fail
                    · rename_i hk
                      simp only [Bool.and_eq_true] at hk
                      have hk1:=Nat.eq_of_beq_eq_true hk.1
                      have hk2:=Nat.eq_of_beq_eq_true hk.2
                      subst hk1; subst hk2
                      refine R.Ok.bind (R.Ok.lift fun zs hzs=>(askP_ok _).andThen fun _ hp=>R.Ok.pure ?_)
                      intro ρ L BM M ds a w h ops Q i rest pos af ho K
                      obtain ⟨u1,h1,h2⟩:=h.fr.ev hu
                      obtain ⟨v1,h3,h4⟩:=h.fr.ev hv
                      obtain ⟨p,h5,vv,ys,h6,h7,rfl⟩:=h.hm.get hq
                      obtain ⟨ws,h8,h9⟩:=rows_ok h.sees h4 hzs
                      cases h2 with
                      | sl hh hs =>
                        rw [hh] at h6; injection h6 with h6; subst h6
                        refine O.appendEV h.act h.st ho hd he hm hby hz hb1 hb2 h1 h3 h5 h9 encW_one (by rw [← h7.len]; exact hp.1) (by rw [← h8.len]; exact hp.2) hb3 rfl fun v' w' a' hS hf=>?_
                        have hle:ρ.le (ρ.upd v'):=Env.upd_le
                        have hlt:ixE s.H q<M.length:=(List.getElem?_eq_some_iff.1 h5).1
                        have hsl:isSl v'=true:=by
                          have:=(hS.slS (j:=ixE s.H q) (by rw [List.getElem?_set_self hlt])).isSlice
                          obtain ⟨A,cap,rfl,_⟩:=this
                          rfl
                        exact K _ _ _ _ a' w' hle ⟨congrArg (·+1) h.dom,(h.fr.mono hle).put (.sl (Env.upd_self h.dom) hsl),h.hb.mono fun _ _ _=>EB.mono hle,(h.hm.mono fun _ _ _=>ER.mono hle).ren hq ⟨_,_,(Env.upd_self h.dom),(h7.app h8).mono hle,rfl⟩,h.df.mono hle,hf,hS⟩
                  · exact R.Ok.fail
                · split
                  · rename_i k hkd
                    split
                    · exact R.Ok.fail
                    · rename_i hk2
                      have hk2:=Nat.eq_of_beq_eq_true hk2
                      subst hk2
                      refine R.Ok.bind (R.Ok.lift fun zs hzs=>(askP_ok _).andThen fun _ hp=>R.Ok.pure ?_)
                      intro ρ L BM M ds a w h ops Q i rest pos af ho K
                      obtain ⟨u1,h1,h2⟩:=h.fr.ev hu
                      obtain ⟨v1,h3,h4⟩:=h.fr.ev hv
                      obtain ⟨ws,h8,h9⟩:=rows_ok h.sees h4 hzs
                      cases h2
                      have hS0:=h.st.nilE e k.cd.sz (encW k.cd.sz)
                      refine O.appendEV (j:=0) h.act hS0 ho hd he hm hby hz hb1 hb2 h1 h3 rfl h9 encW_one (by simp) (by rw [← h8.len]; exact hp) hb3 (List.nil_append _) fun v' w' a' hS hf=>?_
                      have hsl:isSl v'=true:=by
                        have:=(hS.slS (j:=0) rfl).isSlice
                        obtain ⟨A,cap,rfl,_⟩:=this
                        rfl
                      exact K _ _ _ _ a' w' (Env.upd_le) (h.new hf hS ⟨_,_,(Env.upd_self h.dom),h8.mono (Env.upd_le),rfl⟩ (.sl (Env.upd_self h.dom) hsl))
                  · exact R.Ok.fail
                · exact R.Ok.fail
        · exact R.Ok.fail
  · exact R.Ok.fail
end
end Go.RX
