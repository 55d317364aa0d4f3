/- Part of a proof: laws and walks. -/
import Derived.Test.YtipfobacinmoiaaGreatTap
import Derived.Test.YtipfobacinmoiaaGreatTac
import Derived.RangeFuncLeaves
import Derived.RangeFuncRecord
set_option linter.unusedVariables false
set_option linter.unusedSimpArgs false
namespace Go.RX
open Go Go.SL
universe u
section
variable {r:Option Nat} {P:Program} {w0 w:World} {X:Nat→Prop} {B:List (Nat × Ent)} {n:Nat} {ds:List Deferred} {s s':S} {ρ:Env} {L:List (Nat × Value)} {BM M:List Asr} {a:Act} {op:Op} {ty t e:TypeId} {dst:Option Tmp} {x y:Operand}
theorem Rl.iU (h:Rl w0 X B n s ρ L BM M ds a w) {e:Nat} {ent ent':Ent} {p':Asr} {a':Act} {w':World} (he:lkE s.H e=some ent) (hE:ER ρ e ent' p') (hf:Fr a' n ds L) (hS:St w0 w' X BM (M.set (ixE s.H e) p')) :
    Rl w0 X B n ⟨s.fr,iU s.H e ent',s.nx,s.df⟩ ρ L BM (M.set (ixE s.H e) p') ds a' w' :=
  ⟨h.dom,h.fr,h.hb,h.hm.set he hE,h.df,hf,hS⟩
theorem aHy {cs:Array Value} {o:Nat} {us:List Value} (h:o+us.length≤cs.size):(wr cs o us).toList=spl cs.toList o us:=by
  apply List.ext_getElem?
  intro j
  rw [p9 (by simpa using h),Array.getElem?_toList,kz,Array.getElem?_toList]
  by_cases h1:o≤j∧j<o+us.length
  · rw [if_pos h1,if_pos ⟨by omega,h1⟩]
  · rw [if_neg h1,if_neg (fun h2=>h1 h2.2),Array.getElem?_toList]
theorem aFC:∀ {l m:List V} {cs us:List Value} (o:Nat),VRL ρ l cs→VRL ρ m us→o+us.length≤cs.length→VRL ρ (wrV l o m) (spl cs o us):=fun {l m cs us} o h1 h2 h3=>by
  have:=vw (cs:=cs.toArray) o h1 h2
  rwa [aHy (by simpa using h3)] at this
theorem lY {a b:List Value} (h1:aQ a=true) (h2:aQ b=true):aQ (a++b)=true:=nP h1 h2
theorem ve {cs us:List Value} {o:Nat} (h1:aQ cs=true) (h2:aQ us=true):aQ (spl cs o us)=true :=
  lY (lY (jM _ h1) h2) (jL _ h1)
def xstore (P:Program) (s:S) (dst:Option Tmp) (t:TypeId) (x y:Operand):R S:=match dst with
  | some _=>R.fail
  | none=>match ay P t with
    | none=>R.fail
    | some q=>(dm s x).bind fun u=>(dm s y).bind fun v=>(R.lift (qa v)).bind fun m=>match Nat.beq m.length q&&m.all aAY with
      | false=>R.fail
      | true=>match u with
        | .p e o=>match lkE s.H e with
          | some (.cel l ty)=>match Nat.ble (o+q) l.length with
            | true=>R.pure ⟨s.fr,iU s.H e (.cel (wrV l o m) ty),s.nx,s.df⟩
            | false=>R.fail
          | _=>R.fail
        | .q e z i o=>match lkE s.H e with
          | some (.arr ty k xs)=>match Nat.beq z k.cd.sz with
            | false=>R.fail
            | true=>match Nat.beq o 0&&Nat.beq q k.cd.sz with
              | true=>(iD (inb xs.length i)).bind fun _=>(R.lift (k.cd.dec m)).bind fun x0=>R.pure ⟨s.fr,iU s.H e (.arr ty k (xs.set i.toNat x0)),s.nx,s.df⟩
              | false=>match Nat.ble (o+q) k.cd.sz with
                | false=>R.fail
                | true=>(aCC ((SL.idx xs i).map k.cd.enc)).bind fun row=>(R.lift (k.cd.dec (wrV row o m))).bind fun x0=>R.pure ⟨s.fr,iU s.H e (.arr ty k (xs.set i.toNat x0)),s.nx,s.df⟩
          | _=>R.fail
        | _=>R.fail
theorem aFd {cs us:List Value} (h:us.length=cs.length):spl cs 0 us=us:=by simp [spl,h]
theorem aCg:(xstore P s dst t x y).Ok (Step r P w0 X B n s dst (.store t x y) ty):=by
  unfold xstore
  split
  · exact R.Ok.fail
  · split
    · exact R.Ok.fail
    · rename_i q hq
      refine R.Ok.bind (R.Ok.lift fun u hu=>R.Ok.bind (R.Ok.lift fun v hv=>R.Ok.bind (R.Ok.lift fun m hm=>?_)))
      split
      · exact R.Ok.fail
      · rename_i hb
        simp only [Bool.and_eq_true] at hb
        have hlen:=Nat.eq_of_beq_eq_true hb.1
        split
        · rename_i ee o
          split
          · rename_i l ty' he
            split
            · rename_i hle
              have hle:=Nat.le_of_ble_eq_true hle
              refine R.Ok.pure ?_
              intro ρ L BM M ds a w h ops Q i rest pos af ho K
              obtain ⟨u1,h1,h2⟩:=h.fr.ev hu
              obtain ⟨v1,h3,h4⟩:=h.fr.ev hv
              obtain ⟨p,h5,b,cs,h6,h7,rfl⟩:=h.hm.get he
              cases h2 with
              | p hh =>
                rw [hh] at h6; injection h6 with h6; injection h6 with h6; injection h6 with h6; injection h6 with h6 _ _; subst h6
                have hc:=jV h4 hm
                have hcl:v1.cells.size=q:=by have:=hc.len; simp only [Array.length_toList] at this; omega
                have hone:=kU hc hb.2
                refine O.store (m:=q) h.act h.st ho h1 h3 hq hcl hone h5 (by have:=h7.len; simp; omega) rfl rfl fun w' hS=>?_
                refine K ρ L _ _ a w' (Env.le.refl ρ) (h.iU he ⟨_,(wr cs.toArray o v1.cells.toList).toList,hh,vw (cs:=cs.toArray) o h7 hc,?_⟩ h.act hS)
                simp
            · exact R.Ok.fail
          · exact R.Ok.fail
        · rename_i ee z i0 o
          split
          · rename_i ty' k xs he
            split
            · exact R.Ok.fail
            · rename_i hz
              have hz:=Nat.eq_of_beq_eq_true hz
              subst hz
              split
              · rename_i hoq
                simp only [Bool.and_eq_true] at hoq
                have ho0:=Nat.eq_of_beq_eq_true hoq.1
                have hqz:=Nat.eq_of_beq_eq_true hoq.2
                subst ho0; subst hqz
                refine (dM _).andThen fun _ hp=>R.Ok.bind (R.Ok.lift fun x0 hx0=>R.Ok.pure ?_)
                intro ρ L BM M ds a w h ops Q i rest pos af ho K
                obtain ⟨u1,h1,h2⟩:=h.fr.ev hu
                obtain ⟨v1,h3,h4⟩:=h.fr.ev hv
                obtain ⟨p,h5,vv,ys,h6,h7,rfl⟩:=h.hm.get he
                cases h2 with
                | q hh hs =>
                  rw [hh] at h6; injection h6 with h6; subst h6
                  have hc:=jV h4 hm
                  have hcl:v1.cells.size=k.cd.sz:=by have:=hc.len; simp only [Array.length_toList] at this; omega
                  have hone:=kU hc hb.2
                  rw [h7.len] at hp
                  obtain ⟨y0,hy0⟩:=vW hp
                  obtain ⟨y,hy1,hy2⟩:=pJ hc hone hx0
                  refine O.aDV (q:=k.cd.sz) (enc:=ja k.cd.sz) (y0:=y) h.act h.st ho h1 h3 hq hcl hone h5 fC hy0 (by simp) ?_ rfl rfl fun w' hS=>?_
                  · show y.1=spl y0.1 0 v1.cells.toList
                    rw [aFd (by rw [← hy1,y.2.1,y0.2.1]),hy1]
                  · exact K ρ L _ _ a w' (Env.le.refl ρ) (h.iU he ⟨_,_,hh,h7.set _ hy2,rfl⟩ h.act hS)
              · split
                · exact R.Ok.fail
                · rename_i hle
                  have hle:=Nat.le_of_ble_eq_true hle
                  refine (pG _).andThen fun row hrow=>R.Ok.bind (R.Ok.lift fun x0 hx0=>R.Ok.pure ?_)
                  intro ρ L BM M ds a w h ops Q i rest pos af ho K
                  obtain ⟨xi,hxi,rfl⟩:=Option.map_eq_some_iff.1 hrow
                  obtain ⟨u1,h1,h2⟩:=h.fr.ev hu
                  obtain ⟨v1,h3,h4⟩:=h.fr.ev hv
                  obtain ⟨p,h5,vv,ys,h6,h7,rfl⟩:=h.hm.get he
                  cases h2 with
                  | q hh hs =>
                    rw [hh] at h6; injection h6 with h6; subst h6
                    have hc:=jV h4 hm
                    have hcl:v1.cells.size=q:=by have:=hc.len; simp only [Array.length_toList] at this; omega
                    have hone:=kU hc hb.2
                    obtain ⟨y0,hy0,hyr⟩:=h7.idx hxi
                    have hsp:=aFC o hyr hc (by rw [y0.2.1]; simp only [Array.length_toList]; omega)
                    obtain ⟨y,hy1,hy2⟩:=pJ hsp (ve y0.2.2 hone) hx0
                    refine O.aDV (q:=q) (enc:=ja k.cd.sz) (y0:=y) h.act h.st ho h1 h3 hq hcl hone h5 fC hy0 (by simpa using hle) hy1 rfl rfl fun w' hS=>?_
                    exact K ρ L _ _ a w' (Env.le.refl ρ) (h.iU he ⟨_,_,hh,h7.set _ hy2,rfl⟩ h.act hS)
          · exact R.Ok.fail
        · exact R.Ok.fail
def aFn:List (Nat × Ent)→Nat→Nat→Ent→List (Nat × Ent)
  | [],_,_,_=>[]
  | (k,v)::t,j,j',x=>match Nat.beq k j with
    | true=>(j',x)::t
    | false=>(k,v)::aFn t j j' x
theorem HR.ren {F:Nat→Ent→Asr→Prop}:∀ {H M} {e e':Nat} {ent ent':Ent} {p':Asr},HR F H M→lkE H e=some ent→F e' ent' p'→HR F (aFn H e e' ent') (M.set (ixE H e) p')
  | _,_,_,_,_,_,_,.nil,h,_=>by cases h
  | _,_,e,e',ent,ent',p',.cons (e:=k) a t,h,hp=>by
    simp only [lkE] at h
    simp only [ixE,aFn]
    split at h
    · rename_i hb
      have:=Nat.eq_of_beq_eq_true hb
      subst this
      simp only [hb]
      exact .cons hp t
    · rename_i hb
      simp only [hb]
      exact .cons a (HR.ren t h hp)
def rows (B:List (Nat × Ent)) (s:S) (k:Ck):V→Option (List k.ty)
  | .sl e=>match rdA s B e with
    | some (.arr _ k' xs)=>Ck.cast xs
    | _=>none
  | .sw e z a b=>match rdA s B e with
    | some (.arr _ k' xs)=>match Nat.beq z k'.cd.sz,decide (sbd a b (xs.length:Int)) with
      | true,true=>Ck.cast (lsub xs a b)
      | _,_=>none
    | _=>none
  | .c (.slice none 0 0)=>some []
  | .ez=>some []
  | _=>none
theorem aBP {a b:Ck} {xs:List a.ty} {xs':List b.ty} (h:Ck.cast xs=some xs'):∃ e:a=b,e▸xs=xs':=by
  unfold Ck.cast at h
  split at h
  · rename_i hb
    simp only [Option.some.injEq] at h
    exact ⟨Ck.aBm hb,h⟩
  · cases h
theorem RL.lsub {α:Type} {C:Cd α} {xs:List α} {ys:List (Row C.sz)} (h:RL ρ C xs ys) (a b:Int):RL ρ C (SL.lsub xs a b) (SL.lsub ys a b):=(h.take _).drop _
theorem rows_ok {k:Ck} {u':V} {u:Value} {xs:List k.ty} (h:Sees ρ B s L w) (hu:VR ρ u' u) (hr:rows B s k u'=some xs):∃ ys,RL ρ k.cd xs ys∧dw (hp w) k.cd.sz (ja k.cd.sz) u ys:=by
  unfold rows at hr
  split at hr
  · split at hr
    · rename_i ty' k' xs' he
      obtain ⟨rfl,rfl⟩:=aBP hr
      cases hu with
      | sl hh hs =>
        obtain ⟨v,ys,h1,h2,h3⟩:=h.arr he
        rw [hh] at h1; injection h1 with h1; subst h1
        exact ⟨ys,h2,h3⟩
    · cases hr
  · split at hr
    · rename_i ty' k' xs' he
      split at hr
      · rename_i hz hb
        have hz:=Nat.eq_of_beq_eq_true hz
        subst hz
        have hb:=of_decide_eq_true hb
        obtain ⟨rfl,rfl⟩:=aBP hr
        cases hu with
        | sw hh hs =>
          obtain ⟨v,ys,h1,h2,h3⟩:=h.arr he
          rw [hh] at h1; injection h1 with h1; subst h1
          rw [h2.len] at hb
          exact ⟨_,h2.lsub _ _,h3.sub fC hb⟩
      · cases hr
    · cases hr
  · simp only [Option.some.injEq] at hr
    subst hr
    cases hu
    exact ⟨[],.nil,aCn⟩
  · simp only [Option.some.injEq] at hr
    subst hr
    cases hu
    exact ⟨[],.nil,⟨by simp [encs],Nat.zero_le _,_,_,rfl,fun h=>absurd h (Nat.lt_irrefl 0)⟩,Nat.zero_le _⟩
  · cases hr
def kindOf (B:List (Nat × Ent)) (s:S):V→Option Ck
  | .sl e=>match rdA s B e with
    | some (.arr _ k _)=>some k
    | _=>none
  | .sw e _ _ _=>match rdA s B e with
    | some (.arr _ k _)=>some k
    | _=>none
  | _=>none
def xappend (P:Program) (B:List (Nat × Ent)) (n:Nat) (s:S) (dst:Option Tmp) (args:List Operand) (at_:List TypeId):R S:=match args,at_ with
  | [x,y],[t,t']=>match Nat.beq t t' with
    | false=>R.fail
    | true=>match cZ P t with
      | none=>R.fail
      | some e=>match ay P e,gN P e,dL P e with
        | some m,some by_,some z=>match Nat.beq z.cells.size m&&Nat.blt 0 m&&Nat.ble by_ 16000 with
          | false=>R.fail
          | true=>match dst with
            | none=>R.fail
            | some d=>match Nat.blt d n with
              | false=>R.fail
              | true=>(dm s x).bind fun u=>(dm s y).bind fun v=>match u with
                | .sl q=>match lkE s.H q with
                  | some (.arr ty k xs)=>match Nat.beq ty e&&Nat.beq k.cd.sz m with
                    | false=>R.fail
                    | true=>(R.lift (rows B s k v)).bind fun zs=>(iD ((xs.length:Int)≤4294967296∧(zs.length:Int)≤4294967296)).bind fun _ =>
                      R.pure ⟨kG s.fr d (.sl s.nx),aFn s.H q s.nx (.arr e k (xs++zs)),s.nx+1,s.df⟩
                  | _=>R.fail
                | .c (.slice none 0 0)=>match kindOf B s v with
                  | some k=>match Nat.beq k.cd.sz m with
                    | false=>R.fail
                    | true=>(R.lift (rows B s k v)).bind fun zs=>(iD ((zs.length:Int)≤4294967296)).bind fun _=>R.pure ⟨kG s.fr d (.sl s.nx),(s.nx,.arr e k zs)::s.H,s.nx+1,s.df⟩
                  | none=>R.fail
                | _=>R.fail
        | _,_,_=>R.fail
  | _,_=>R.fail
theorem aAW {args:Array Operand} {at_:Array TypeId}:(xappend P B n s dst args.toList at_.toList).Ok (Step r P w0 X B n s dst (.call ⟨.builtin .append,args,at_⟩) ty):=by
  unfold xappend
  split
  · rename_i x y t t' hargs hat
    have hargs:args=#[x,y]:=by apply Array.ext'; exact hargs
    have hat:at_=#[t,t']:=by apply Array.ext'; exact hat
    subst hargs hat
    split
    · exact R.Ok.fail
    · rename_i htt
      have htt:=Nat.eq_of_beq_eq_true htt
      subst htt
      split
      · exact R.Ok.fail
      · rename_i e he
        split
        · rename_i m by_ z hm hby hz
          split
          · exact R.Ok.fail
          · rename_i hb
            simp only [Bool.and_eq_true] at hb
            obtain ⟨⟨hb1,hb2⟩,hb3⟩:=hb
            have hb1:=Nat.eq_of_beq_eq_true hb1
            split
            · exact R.Ok.fail
            · rename_i d
              split
              · exact R.Ok.fail
              · rename_i hd
                refine R.Ok.bind (R.Ok.lift fun u hu=>R.Ok.bind (R.Ok.lift fun v hv=>?_))
                split
                · rename_i q
                  split
                  · rename_i ty' k xs hq
                    split
                    · exact R.Ok.fail
                    · rename_i hk
                      simp only [Bool.and_eq_true] at hk
                      have hk1:=Nat.eq_of_beq_eq_true hk.1
                      have hk2:=Nat.eq_of_beq_eq_true hk.2
                      subst hk1; subst hk2
                      refine R.Ok.bind (R.Ok.lift fun zs hzs=>(dM _).andThen fun _ hp=>R.Ok.pure ?_)
                      intro ρ L BM M ds a w h ops Q i rest pos af ho K
                      obtain ⟨u1,h1,h2⟩:=h.fr.ev hu
                      obtain ⟨v1,h3,h4⟩:=h.fr.ev hv
                      obtain ⟨p,h5,vv,ys,h6,h7,rfl⟩:=h.hm.get hq
                      obtain ⟨ws,h8,h9⟩:=rows_ok h.sees h4 hzs
                      cases h2 with
                      | sl hh hs =>
                        rw [hh] at h6; injection h6 with h6; subst h6
                        refine O.yO h.act h.st ho hd he hm hby hz hb1 hb2 h1 h3 h5 h9 yw (by rw [← h7.len]; exact hp.1) (by rw [← h8.len]; exact hp.2) hb3 rfl fun v' w' a' hS hf=>?_
                        have hle:ρ.le (ρ.upd v'):=Env.fM
                        have hlt:ixE s.H q<M.length:=(List.getElem?_eq_some_iff.1 h5).1
                        have hsl:aCp v'=true:=by
                          have:=(hS.slS (j:=ixE s.H q) (by rw [List.getElem?_set_self hlt])).isSlice
                          obtain ⟨A,cap,rfl,_⟩:=this
                          rfl
                        exact K _ _ _ _ a' w' hle ⟨congrArg (·+1) h.dom,(h.fr.mono hle).put (.sl (Env.bU h.dom) hsl),h.hb.mono fun _ _ _=>EB.mono hle,(h.hm.mono fun _ _ _=>ER.mono hle).ren hq ⟨_,_,(Env.bU h.dom),(h7.app h8).mono hle,rfl⟩,h.df.mono hle,hf,hS⟩
                  · exact R.Ok.fail
                · split
                  · rename_i k hkd
                    split
                    · exact R.Ok.fail
                    · rename_i hk2
                      have hk2:=Nat.eq_of_beq_eq_true hk2
                      subst hk2
                      refine R.Ok.bind (R.Ok.lift fun zs hzs=>(dM _).andThen fun _ hp=>R.Ok.pure ?_)
                      intro ρ L BM M ds a w h ops Q i rest pos af ho K
                      obtain ⟨u1,h1,h2⟩:=h.fr.ev hu
                      obtain ⟨v1,h3,h4⟩:=h.fr.ev hv
                      obtain ⟨ws,h8,h9⟩:=rows_ok h.sees h4 hzs
                      cases h2
                      have hS0:=h.st.aJJ e k.cd.sz (ja k.cd.sz)
                      refine O.yO (j:=0) h.act hS0 ho hd he hm hby hz hb1 hb2 h1 h3 rfl h9 yw (by simp) (by rw [← h8.len]; exact hp) hb3 (List.nil_append _) fun v' w' a' hS hf=>?_
                      have hsl:aCp v'=true:=by
                        have:=(hS.slS (j:=0) rfl).isSlice
                        obtain ⟨A,cap,rfl,_⟩:=this
                        rfl
                      exact K _ _ _ _ a' w' (Env.fM) (h.new hf hS ⟨_,_,(Env.bU h.dom),h8.mono (Env.fM),rfl⟩ (.sl (Env.bU h.dom) hsl))
                  · exact R.Ok.fail
                · exact R.Ok.fail
        · exact R.Ok.fail
  · exact R.Ok.fail
end
end Go.RX

namespace Go.RX
open Go Go.SL
universe u
section
variable {r:Option Nat} {P:Program} {w0 w:World} {X:Nat→Prop} {B:List (Nat × Ent)} {n:Nat} {ds:List Deferred} {s s':S} {ρ:Env} {L:List (Nat × Value)} {BM M:List Asr} {a:Act} {op:Op} {ty t e:TypeId} {dst:Option Tmp} {x y z:Operand}
theorem St.aGy (h:St w0 w X BM M) {j b:Nat} {kvs kvs':List (Value × Value)} (hi:M[j]? = some (mpA b kvs)) {es:Array MapEntry} {c:Nat} (h1:es.toList.map kvE=kvs') (h2:∀ x ∈ es.toList,x.born<c) (h3:(es.toList.map (·.born)).Nodup):St w0 (SL.bZ w b es c) X BM (M.set j (mpA b kvs')):=by
  have hl:=(h.sep.get hi).2 b rfl
  refine h.write (w':=SL.bZ w b es c) hi rfl rfl rfl (by simp [SL.bZ]) (fun k _ hk=>?_) ?_ (fun k hk=>⟨.inl hk,by
    have hk:k=b:=hk
    subst hk
    simpa [SL.bZ] using hl.1⟩)
  · simp only [SL.bZ]
    exact Array.getElem?_setIfInBounds_ne (fun e=>hk e.symm)
  · obtain ⟨es0,c0,h4,_⟩:=h.at_ hi
    have h4:w.heap[b]? = some (.map es0 c0):=h4
    exact ⟨es,c,Array.getElem?_setIfInBounds_self_of_lt (Array.getElem?_eq_some_iff.1 h4).1,h1,h2,h3⟩
def qF (n:Nat) (s:S) (dst:Option Tmp):R S:=xD n s dst (.mp s.nx) (.map [])
theorem zB:(qF n s dst).Ok (Step r P w0 X B n s dst (.makeMap t none) ty):=by
  refine lD fun d hd=>?_
  intro ρ L BM M ds a w h ops Q i rest pos af ho K
  refine O.val (w':=w.alloc (.map #[] 0)) h.act ho rfl hd (v:=.map (some w.heap.size)) ?_ fun a' hf'=>?_
  · intro a d pos af g hf
    simp only [execOp]
    exact bn rfl
  · refine K _ _ _ _ a' _ Env.fM (h.new (v:=.map (some w.heap.size)) (p:=mpA w.heap.size []) hf' ((h.st.alloc (.map #[] 0)).conv (i:=0) (p:=pt w.heap.size (.map #[] 0)) (q:=mpA w.heap.size []) rfl (fun h=>⟨#[],0,h,rfl,by simp,by simp⟩) (fun b hb=>hb)) ⟨_,[],Env.bU h.dom,.nil,rfl⟩ (.mp (Env.bU h.dom)))
def p8 (P:Program) (s:S) (dst:Option Tmp) (t:TypeId) (x y z:Operand):R S:=match dst with
  | some _=>R.fail
  | none=>match mpT P t with
    | none=>R.fail
    | some (_,d,_)=>(dm s x).bind fun u=>(dm s y).bind fun k=>(dm s z).bind fun v=>(R.lift (asC k)).bind fun a=>match u with
      | .mp e=>match lkE s.H e with
        | some (.map l)=>(R.lift (sM d a l 0)).bind fun r=>R.pure ⟨s.fr,iU s.H e (.map (aBu l (.c a) v r)),s.nx,s.df⟩
        | _=>R.fail
      | _=>R.fail
theorem aAj:(p8 P s dst t x y z).Ok (Step r P w0 X B n s dst (.mapUpdate t x y z) ty):=by
  unfold p8
  split
  · exact R.Ok.fail
  · split
    · exact R.Ok.fail
    · rename_i kt d zv ht
      obtain ⟨e,g1,g2,g3,_⟩:=qf ht
      refine R.Ok.bind (R.Ok.lift fun u hu=>R.Ok.bind (R.Ok.lift fun k hk=>R.Ok.bind (R.Ok.lift fun v hv=>R.Ok.bind (R.Ok.lift fun a0 ha=>?_))))
      have:=gL ha
      subst this
      split
      · rename_i ee
        split
        · rename_i l he
          refine R.Ok.bind (R.Ok.lift fun rr hr=>R.Ok.pure ?_)
          intro ρ L BM M ds a w h ops Q i rest pos af ho K
          obtain ⟨u1,h1,h2⟩:=h.fr.ev hu
          obtain ⟨k1,h3,h4⟩:=h.fr.ev hk
          obtain ⟨v1,h5,h6⟩:=h.fr.ev hv
          obtain ⟨p,h7,b,kvs,h8,h9,rfl⟩:=h.hm.get he
          cases h2 with
          | mp hh =>
            rename_i b0
            rw [hh] at h8; injection h8 with h8; injection h8 with h8; injection h8 with h8; subst h8
            cases h4 with
            | c =>
              obtain ⟨es,c,q1,q2,q3,q4⟩:=h.st.at_ h7
              subst q2
              obtain ⟨es',c',r1,r2,r3,r4⟩:=aAK g1 g2 g3 q1 h9 q3 q4 hr h6
              refine O.unit (w':=SL.bZ w b0 es' c') h.act ho rfl ?_ ?_
              · intro a d pos af g hf
                simp only [execOp,hf.eval h1,hf.eval h3,hf.eval h5]
                exact tT r1
              · exact K ρ L _ _ a _ (Env.le.refl ρ) (h.iU he ⟨_,_,hh,r2,rfl⟩ h.act (St.aGy h.st h7 rfl r3 r4))
        · exact R.Ok.fail
      · exact R.Ok.fail
def pu (P:Program) (s:S) (dst:Option Tmp) (at_:List TypeId) (args:List Operand):R S:=match dst,args,at_ with
  | none,[x,y],t::_=>match mpT P t with
    | none=>R.fail
    | some (_,d,_)=>(dm s x).bind fun u=>(dm s y).bind fun k=>(R.lift (asC k)).bind fun a=>match u with
      | .mp e=>match lkE s.H e with
        | some (.map l)=>(R.lift (sM d a l 0)).bind fun r=>R.pure ⟨s.fr,iU s.H e (.map (aDe l r)),s.nx,s.df⟩
        | _=>R.fail
      | _=>R.fail
  | _,_,_=>R.fail
theorem zl {args:Array Operand} {at_:Array TypeId}:(pu P s dst at_.toList args.toList).Ok (Step r P w0 X B n s dst (.call ⟨.builtin .delete,args,at_⟩) ty):=by
  unfold pu
  split
  · rename_i x y t tl hargs hat
    have hat0:at_[0]? = some t:=by rw [← Array.getElem?_toList,hat]; rfl
    have hargs:args=#[x,y]:=by apply Array.ext'; exact hargs
    subst hargs
    split
    · exact R.Ok.fail
    · rename_i kt d zv ht
      obtain ⟨e,g1,g2,g3,_⟩:=qf ht
      refine R.Ok.bind (R.Ok.lift fun u hu=>R.Ok.bind (R.Ok.lift fun k hk=>R.Ok.bind (R.Ok.lift fun a0 ha=>?_)))
      have:=gL ha
      subst this
      split
      · rename_i ee
        split
        · rename_i l he
          refine R.Ok.bind (R.Ok.lift fun rr hr=>R.Ok.pure ?_)
          intro ρ L BM M ds a w h ops Q i rest pos af ho K
          obtain ⟨u1,h1,h2⟩:=h.fr.ev hu
          obtain ⟨k1,h3,h4⟩:=h.fr.ev hk
          obtain ⟨p,h7,b,kvs,h8,h9,rfl⟩:=h.hm.get he
          cases h2 with
          | mp hh =>
            rename_i b0
            rw [hh] at h8; injection h8 with h8; injection h8 with h8; injection h8 with h8; subst h8
            cases h4 with
            | c =>
              obtain ⟨es,c,q1,q2,q3,q4⟩:=h.st.at_ h7
              subst q2
              obtain ⟨es',c',r1,r2,r3,r4⟩:=zn (ty0:=ty) g1 g2 g3 hat0 q1 h9 q3 q4 hr
              refine O.aHB (w':=SL.bZ w b0 es' c') (v:=.tuple #[]) h.act ho rfl ?_ ?_
              · intro a d pos af g hf
                refine dO (vs:=[_,_]) hf (by simp [evA,h1,h3]; exact ⟨rfl,rfl⟩) ?_
                simp only [builtin]
                exact bn r1
              · exact K ρ L _ _ a _ (Env.le.refl ρ) (h.iU he ⟨_,_,hh,r2,rfl⟩ h.act (St.aGy h.st h7 rfl r3 r4))
        · exact R.Ok.fail
      · exact R.Ok.fail
  · exact R.Ok.fail
end
def Exit.still (Q:Exit→Act→World→Prop):Exit→Act→World→Prop
  | .goto _,_,_=>False
  | e,a,w=>Q e a w
theorem fe {P:Program} {b:Frame} {a:Act} {k:List Item} {cs:List Frame} {w:World} {c:Code}:step P (lone (b.atR a (.code (.scope c)::k)) cs w)=.next (lone (b.atR a (.code c::.inScope c::k)) cs w) :=
  step_lone_go (by simp [stepG,stepG.exec,Frame.atR])
theorem rz {P:Program} {b:Frame} {a:Act} {k:List Item} {cs:List Frame} {w:World} {c:Code}:step P (lone (b.atR a (.inScope c::k)) cs w)=.next (lone (b.atR a k) cs w) :=
  step_lone_go (by simp [stepG,stepG.exec,Frame.atR])
theorem W.scope {r:Option Nat} {P:Program} {Q:Exit→Act→World→Prop} {a:Act} {w:World} {c:Code} (h:W r P c (Exit.still Q) a w):W r P (.scope c) Q a w:=by
  intro b k cs hro hb hr
  have h0:(lone (b.atR a (.code (.scope c)::k)) cs w).fenced P (FW r):=fenced_calm hb hr rfl
  obtain ⟨e,a₁,w₁,hq,harr⟩:=h b (.inScope c::k) cs hro hb hr
  cases e with
  | normal=>exact ⟨.normal,a₁,w₁,hq,.head h0 fe (StepsIn.trans harr (.one (fenced_calm hb hr rfl) rz))⟩
  | exit id =>
    have hx:exitTo id (.inScope c::k)=exitTo id k:=by simp [exitTo]
    exact ⟨.exit id,a₁,w₁,hq,fun k' hk=>.head h0 fe (harr.1 k' (by rw [hx]; exact hk)),
      fun hr' hk=>let ⟨k₁,h1,h2⟩:=harr.2 hr' (by rw [hx]; exact hk); ⟨k₁,h1,.head h0 fe h2⟩⟩
  | goto l=>exact hq.elim
  | ret=>exact ⟨_,a₁,w₁,hq,.of_steps (.one h0 fe) harr⟩
  | panic ch=>exact ⟨_,a₁,w₁,hq,.of_steps (.one h0 fe) harr⟩
  | outgrown=>exact ⟨_,a₁,w₁,hq,.of_steps (.one h0 fe) harr⟩
end Go.RX

namespace Go.RX
open Go Go.SL
universe u u'
structure An where
  v:V
  H:List (Nat × Ent)
  nx:Nat
def oz (P:Program) (w0:World) (X:Nat→Prop) (B:List (Nat × Ent)) (f:FuncId) (vs:List V) (H:List (Nat × Ent)) (nx:Nat) (z:An):Prop :=
  ∀ (ρ:Env) BM M w vals,ρ.nx=nx→VRL ρ vs vals→HR (EB ρ) B BM→HR (ER ρ) H M→St w0 w X BM M →
    Calls P f vals.toArray w fun e w'=>∃ v',e=.returned v'∧∃ ρ' M',ρ.le ρ'∧ρ'.nx=z.nx∧VR ρ' z.v v'∧HR (ER ρ') z.H M'∧St w0 w' X BM M'
def aAi (r:Option Nat) (P:Program) (w0:World) (X:Nat→Prop) (B:List (Nat × Ent)) (n:Nat) (s:S) (c:Code) (z:Ex × S):Prop :=
  ∀ ρ L BM M ds a w,Rl w0 X B n s ρ L BM M ds a w→∀ Q,Go_ w0 X B n z.2 ρ BM (Q z.1.to)→W r P c Q a w
structure Tab where
  call:List (Nat × Ent)→FuncId→List V→List (Nat × Ent)→Nat→R An
  run:List (Nat × Ent)→Nat→Code→S→R (Ex × S)
structure TabOK (P:Program) (T:Tab):Prop where
  call:∀ w0 X B f vs H nx,(T.call B f vs H nx).Ok (oz P w0 X B f vs H nx)
  run:∀ r w0 X B n c s,(T.run B n c s).Ok (aAi r P w0 X B n s c)
section
variable {r:Option Nat} {P:Program} {w0 w:World} {X:Nat→Prop} {B:List (Nat × Ent)} {n:Nat} {ds:List Deferred} {s s':S} {ρ:Env} {L:List (Nat × Value)} {BM M:List Asr} {a:Act} {op:Op} {ty t e:TypeId} {dst:Option Tmp} {x y:Operand} {T:Tab}
def aCd:List Tmp→List V→Fm→Fm
  | p::ps,v::vs,fr=>aCd ps vs (kG fr p v)
  | _,_,fr=>fr
def rf:List Tmp→List Value→List (Nat × Value)→List (Nat × Value)
  | p::ps,v::vs,L=>rf ps vs ((p,v)::L)
  | _,_,L=>L
theorem aB2:∀ {ps:List Tmp} {vs:List V} {vals:List Value} {fr:Fm} {L:List (Nat × Value)},VRL ρ vs vals→FR ρ fr L→FR ρ (aCd ps vs fr) (rf ps vals L)
  | [],_,_,_,_,_,h=>by simpa [aCd,rf] using h
  | p::ps,_,_,fr,L,.nil,h=>by simpa [aCd,rf] using h
  | p::ps,_,_,fr,L,.cons hv t,h=>by
    simp only [aCd,rf]
    exact aB2 t (h.put hv)
theorem aBV {m:Nat}:∀ {ps:List Tmp} {vals:List Value} {tm:Array Value} {L:List (Nat × Value)},ps.all (fun p=>Nat.blt p m)=true→Fr ⟨tm,[]⟩ m [] L →
    Fr ⟨(ps.zip vals).foldl (fun t (x:Tmp × Value)=>t.setIfInBounds x.1 x.2) tm,[]⟩ m [] (rf ps vals L)
  | [],_,_,_,_,h=>by simpa [rf] using h
  | p::ps,[],_,_,_,h=>by simpa [rf] using h
  | p::ps,v::vs,tm,L,hp,h=>by
    simp only [List.all_cons,Bool.and_eq_true] at hp
    simp only [List.zip_cons_cons,List.foldl_cons,rf]
    exact aBV hp.2 (h.put hp.1 v)
def exB:Ex→Bool
  | .n=>true
  | _=>false
def aC7 (z:LoopE):Ex→LoopE
  | .n=>{ z with st:=0,pend:=.n }
  | e=>{ z with st:=2,pend:=e }
def xyield (B:List (Nat × Ent)) (T:Tab) (n:Nat) (s:S) (dst:Option Tmp) (e:Nat) (vs:List V):R S:=match lkE s.H e with
  | some (.loop z)=>match Nat.beq z.st 0&&Nat.beq vs.length z.ps.length&&z.ps.all (fun p=>Nat.blt p z.n) with
    | false=>R.fail
    | true=>(T.run B z.n z.asg ⟨aCd z.ps vs z.fr,s.H,s.nx,[]⟩).bind fun r1=>match r1.1,r1.2.df with
      | .n,[]=>match lkE r1.2.H e with
        | some (.loop z1)=>match Nat.beq z1.st 0 with
          | false=>R.fail
          | true=>(T.run B z.n z.body ⟨r1.2.fr,iU r1.2.H e (.loop { z1 with st:=1 }),r1.2.nx,[]⟩).bind fun r2=>match r2.2.df with
            | []=>match lkE r2.2.H e with
              | some (.loop z2)=>match dst with
                | some d=>match Nat.blt d n with
                  | true=>R.pure ⟨kG s.fr d (.c (.bool (exB r2.1))),iU r2.2.H e (.loop (aC7 z2 r2.1)),r2.2.nx,s.df⟩
                  | false=>R.fail
                | none=>R.pure ⟨s.fr,iU r2.2.H e (.loop (aC7 z2 r2.1)),r2.2.nx,s.df⟩
              | _=>R.fail
            | _::_=>R.fail
        | _=>R.fail
      | _,_=>R.fail
  | _=>R.fail
theorem rV {g:Option (Nat × Bool)} {f:Operand} {args:Array Operand} {at_:Array TypeId} {pos:String} {af:Array Edge} {vals:List Value} {l:Nat} (hf:Fr a n ds L) (hx:ev L f=some (.func (.yield l) #[] #[])) (hy:evA L args.toList=some vals) {res:Result Next} (h:(Instr.yield l vals.toArray).run P w=res) :
    (execOp a.eval ⟨dst,.call ⟨.value f,args,at_⟩,ty,pos,af,g⟩).run P w=res:=by
  have e:args.map a.eval=vals.toArray:=by apply Array.ext'; rw [Array.toList_map,hf.evA hy]
  simp only [execOp,resolve,Sem.run_bind,Sem.run_pure,Result.andThen,hf.eval hx,Deferred.ofValue,invoke,e]
  simp
  exact h
theorem jh (h:Rl w0 X B n s ρ L BM M ds a w) {e:Nat} {z z':LoopE} {l:Nat} {rec:Loop} {st:LoopState} {pend:Option Code} (he:lkE s.H e=some (.loop z)) (hl:w.heap[l]? = some (.loop rec)) (hρ:ρ e=some (.func (.yield l) #[] #[]))
    (hst:st=aG6 z'.st) (hpe:pend=z'.pend.code) (hz:z'.n=z.n∧z'.fr=z.fr∧z'.ps=z.ps∧z'.asg=z.asg∧z'.body=z.body) :
    ∃ M',HR (ER ρ) (iU s.H e (.loop z')) M'∧St w0 (w.putObj l (.loop { rec with state:=st,pending:=pend })) X BM M':=by
  obtain ⟨p,h1,l',rec',L',h2,rfl,h3,h4,h5,h6,h7,h8,h9,h10⟩:=h.hm.get he
  rw [hρ] at h2; injection h2 with h2; injection h2 with h2 _ _; injection h2 with h2; subst h2
  have hrec:rec'=rec:=by
    have:=h.st.jS h1
    rw [hl] at this
    injection this with this; injection this with this; exact this.symm
  subst hrec
  obtain ⟨e1,e2,e3,e4,e5⟩:=hz
  refine ⟨_,h.hm.set he (ent':=.loop z') (p':=pt l (.loop { rec' with state:=st,pending:=pend })) ?_,h.st.rF h1 _⟩
  exact ⟨l,_,L',hρ,rfl,hst,hpe,by rw [e3]; exact h5,by rw [e4]; exact h6,by rw [e5]; exact h7,by rw [e1]; exact h8,h9,by rw [e2]; exact h10⟩
theorem aDD {f:Operand} {args:Array Operand} {at_:Array TypeId} {e:Nat} {vs:List V} (hT:TabOK P T) (hg:xev s.fr f=some (.yd e)) (hvs:oP s.fr args.toList=some vs):(xyield B T n s dst e vs).Ok (Step r P w0 X B n s dst (.call ⟨.value f,args,at_⟩) ty):=by
  unfold xyield
  split
  · rename_i z hz
    split
    · exact R.Ok.fail
    · rename_i hb
      simp only [Bool.and_eq_true] at hb
      obtain ⟨⟨hb1,hb2⟩,hb3⟩:=hb
      have hst0:=Nat.eq_of_beq_eq_true hb1
      have hlen:=Nat.eq_of_beq_eq_true hb2
      refine R.Ok.andThen (R.Ok.all fun l:Nat=>hT.run (some l) w0 X B z.n z.asg _) fun r1 hr1=>?_
      obtain ⟨ex1,s1⟩:=r1
      simp only
      split
      · rename_i hdf1
        split
        · rename_i z1 hz1
          split
          · exact R.Ok.fail
          · rename_i hb4
            have hst1:=Nat.eq_of_beq_eq_true hb4
            refine R.Ok.andThen (R.Ok.all fun l:Nat=>hT.run (some l) w0 X B z.n z.body _) fun r2 hr2=>?_
            obtain ⟨ex2,s2⟩:=r2
            simp only
            split
            · rename_i hdf2
              split
              · rename_i z2 hz2
                have main:∀ {ρ L BM M ds a w} (h:Rl w0 X B n s ρ L BM M ds a w) {pos:String} {af:Array Edge} {g:Option (Nat × Bool)},∃ l fn tmps asg body,(execOp a.eval ⟨dst,.call ⟨.value f,args,at_⟩,ty,pos,af,g⟩).run P w=.ok (.round l fn tmps asg body) w ∧
                    RoundIn (FW r) 0 P l fn tmps asg body w fun e' w'=>e'=.returned (.bool (exB ex2))∧∃ ρ' M',ρ.le ρ'∧ρ'.nx=s2.nx∧HR (ER ρ') (iU s2.H e (.loop (aC7 z2 ex2))) M'∧St w0 w' X BM M':=by
                  intro ρ L BM M ds a w h pos af g
                  obtain ⟨fv,h1,h2⟩:=h.fr.ev hg
                  obtain ⟨vals,h3,h4⟩:=qO h.fr hvs
                  obtain ⟨p,h5,l,rec,Lz,h6,rfl,h7,h8,h9,h10,h11,h12,h13,h14⟩:=h.hm.get hz
                  cases h2 with
                  | yd hh =>
                    rename_i l0
                    rw [hh] at h6; injection h6 with h6; injection h6 with h6 _ _; injection h6 with h6; subst h6
                    have hlr:=h.st.jS h5
                    have hsz:vals.toArray.size=rec.params.size:=by
                      rw [h9]; simp only [List.size_toArray]; rw [← h4.len]; exact hlen
                    refine ⟨_,rec.fn,_,rec.assign,rec.body,rV h.act h1 h3 (run_yield hlr hsz),?_⟩
                    refine roundIn_of_wpIn (F:=FW r) trivial ?_
                    have hfr0:Fr ⟨(rec.params.zip vals.toArray).foldl (fun tmps (t,a)=>tmps.setIfInBounds t a) rec.tmps,[]⟩ z.n [] (rf z.ps vals Lz):=by
                      have:=aBV (vals:=vals) hb3 (show Fr ⟨rec.tmps,[]⟩ z.n [] Lz from ⟨h12,rfl,h13⟩)
                      rw [h9]
                      have e1:(z.ps.toArray.zip vals.toArray).foldl (fun tmps (x:Tmp × Value)=>tmps.setIfInBounds x.1 x.2) rec.tmps=(z.ps.zip vals).foldl (fun t (x:Tmp × Value)=>t.setIfInBounds x.1 x.2) rec.tmps:=by
                        rw [← Array.foldl_toList]; simp
                      have e2:(z.ps.toArray.zip vals.toArray).foldl (fun tmps (t,a)=>tmps.setIfInBounds t a) rec.tmps=(z.ps.toArray.zip vals.toArray).foldl (fun tmps (x:Tmp × Value)=>tmps.setIfInBounds x.1 x.2) rec.tmps:=rfl
                      rw [e2,e1]; exact this
                    have hW:=hr1 l0 ρ _ BM M [] _ w ⟨h.dom,aB2 h4 h14,h.hb,h.hm,.nil,hfr0,h.st⟩
                    rw [h10]
                    refine hW _ ?_
                    intro ρ1 L1 M1 ds1 a1 w1 hle1 hR1
                    have hds1:ds1=[]:=by
                      have:=hR1.df
                      rw [hdf1] at this
                      cases this; rfl
                    subst hds1
                    have hρ1:=hle1.get hh
                    obtain ⟨p1,g1,l1,rec1,Lz1,g2,rfl,g3,g4,g5,g6,g7,g8,g9,g10⟩:=hR1.hm.get hz1
                    rw [hρ1] at g2; injection g2 with g2; injection g2 with g2 _ _; injection g2 with g2; subst g2
                    have hlr1:=hR1.st.jS g1
                    refine ⟨_,run_beginRound hlr1 (by rw [g3,hst1]; rfl),?_⟩
                    obtain ⟨M1',g11,g12⟩:=jh hR1 (z':={ z1 with st:=1 }) (st:=.busy) (pend:=rec1.pending) hz1 hlr1 hρ1 rfl g4 ⟨rfl,rfl,rfl,rfl,rfl⟩
                    rw [h11]
                    refine hr2 _ ρ1 L1 BM M1' [] a1 _ ⟨hR1.dom,hR1.fr,hR1.hb,g11,.nil,hR1.act,g12⟩ _ ?_
                    intro ρ2 L2 M2 ds2 a2 w2 hle2 hR2
                    have hρ2:=hle2.get hρ1
                    obtain ⟨p2,k1,l2,rec2,Lz2,k2,rfl,k3,k4,k5,k6,k7,k8,k9,k10⟩:=hR2.hm.get hz2
                    rw [hρ2] at k2; injection k2 with k2; injection k2 with k2 _ _; injection k2 with k2; subst k2
                    have hlr2:=hR2.st.jS k1
                    cases ex2 with
                    | n =>
                      obtain ⟨M2',k11,k12⟩:=jh hR2 (z':=aC7 z2 .n) (st:=.ready) (pend:=none) hz2 hlr2 hρ2 rfl rfl ⟨rfl,rfl,rfl,rfl,rfl⟩
                      exact ⟨_,_,run_endRound none hlr2,rfl,ρ2,M2',hle1.trans hle2,hR2.dom,k11,k12⟩
                    | r =>
                      obtain ⟨M2',k11,k12⟩:=jh hR2 (z':=aC7 z2 .r) (st:=.done) (pend:=some .ret) hz2 hlr2 hρ2 rfl rfl ⟨rfl,rfl,rfl,rfl,rfl⟩
                      exact ⟨_,_,run_endRound (some .ret) hlr2,rfl,ρ2,M2',hle1.trans hle2,hR2.dom,k11,k12⟩
                    | x id =>
                      obtain ⟨M2',k11,k12⟩:=jh hR2 (z':=aC7 z2 (.x id)) (st:=.done) (pend:=some (.exit id)) hz2 hlr2 hρ2 rfl rfl ⟨rfl,rfl,rfl,rfl,rfl⟩
                      exact ⟨_,_,run_endRound (some (.exit id)) hlr2,rfl,ρ2,M2',hle1.trans hle2,hR2.dom,k11,k12⟩
                split
                · rename_i d
                  split
                  · rename_i hd
                    refine R.Ok.pure ?_
                    intro ρ L BM M ds a w h ops Q i rest pos af ho K
                    obtain ⟨l,fn,tmps,asg,body,h1,h2⟩:=main h (pos:=pos) (af:=af) (g:=none)
                    unfold O wpOpsIn
                    simp only [ho]
                    rw [if_pos (by simp [Region.wanted])]
                    refine ⟨fun _ _=>trivial,?_⟩
                    rw [dZ (o:=⟨some d,.call ⟨.value f,args,at_⟩,ty,pos,af,none⟩) rfl,h1]
                    refine ⟨fun h=>by simp [FW] at h,h2.mono ?_⟩
                    rintro e' w' ⟨rfl,ρ',M',g1,g2,g3,g4⟩
                    exact K ρ' ((d,.bool (exB ex2))::L) M' ds _ w' g1 ⟨g2,(h.fr.mono g1).put .c,h.hb.mono fun _ _ _=>EB.mono g1,g3,h.df.mono g1,h.act.put hd _,g4⟩
                  · exact R.Ok.fail
                · refine R.Ok.pure ?_
                  intro ρ L BM M ds a w h ops Q i rest pos af ho K
                  obtain ⟨l,fn,tmps,asg,body,h1,h2⟩:=main h (pos:=pos) (af:=af) (g:=none)
                  unfold O wpOpsIn
                  simp only [ho]
                  rw [if_pos (by simp [Region.wanted])]
                  refine ⟨fun _ _=>trivial,?_⟩
                  rw [dZ (o:=⟨none,.call ⟨.value f,args,at_⟩,ty,pos,af,none⟩) rfl,h1]
                  refine ⟨fun h=>by simp [FW] at h,h2.mono ?_⟩
                  rintro e' w' ⟨rfl,ρ',M',g1,g2,g3,g4⟩
                  exact K ρ' L M' ds _ w' g1 ⟨g2,h.fr.mono g1,h.hb.mono fun _ _ _=>EB.mono g1,g3,h.df.mono g1,h.act,g4⟩
              · exact R.Ok.fail
            · exact R.Ok.fail
        · exact R.Ok.fail
      · exact R.Ok.fail
  · exact R.Ok.fail
def xcall (P:Program) (B:List (Nat × Ent)) (T:Tab) (n:Nat) (s:S) (dst:Option Tmp) (f:Operand) (args:List Operand):R S:=(dm s f).bind fun g=>match g with
  | .fn fid caps=>match aW P fid with
    | false=>R.fail
    | true=>(R.lift (oP s.fr args)).bind fun vs=>(T.call B fid (vs++caps) s.H s.nx).bind fun z=>match dst with
      | some d=>match Nat.blt d n with
        | true=>R.pure ⟨kG s.fr d z.v,z.H,z.nx,s.df⟩
        | false=>R.fail
      | none=>R.pure ⟨s.fr,z.H,z.nx,s.df⟩
  | .bf fid caps=>match aW P fid with
    | false=>R.fail
    | true=>(R.lift (oP s.fr args)).bind fun vs=>(T.call B fid (caps++vs) s.H s.nx).bind fun z=>match dst with
      | some d=>match Nat.blt d n with
        | true=>R.pure ⟨kG s.fr d z.v,z.H,z.nx,s.df⟩
        | false=>R.fail
      | none=>R.pure ⟨s.fr,z.H,z.nx,s.df⟩
  | .yd e=>(R.lift (oP s.fr args)).bind fun vs=>xyield B T n s dst e vs
  | _=>R.fail
theorem aD2 {f:Operand} {args:Array Operand} {at_:Array TypeId} (hT:TabOK P T):(xcall P B T n s dst f args.toList).Ok (Step r P w0 X B n s dst (.call ⟨.value f,args,at_⟩) ty):=by
  unfold xcall
  refine R.Ok.bind (R.Ok.lift fun g hg=>?_)
  split
  · rename_i fid caps
    split
    · exact R.Ok.fail
    · rename_i hk
      refine R.Ok.bind (R.Ok.lift fun vs hvs=>R.Ok.bind ((hT.call w0 X B fid (vs++caps) s.H s.nx).mono fun z hz=>?_))
      have main:∀ {ρ L BM M ds a w} (h:Rl w0 X B n s ρ L BM M ds a w),∃ args',dJ P n ds L (.call ⟨.value f,args,at_⟩) ty w fid args'∧Calls P fid args' w fun e w'=>∃ v',e=.returned v'∧∃ ρ' M',ρ.le ρ'∧ρ'.nx=z.nx∧VR ρ' z.v v'∧HR (ER ρ') z.H M'∧St w0 w' X BM M':=by
        intro ρ L BM M ds a w h
        obtain ⟨g1,h1,h2⟩:=h.fr.ev hg
        obtain ⟨vals,h3,h4⟩:=lG h.sees hvs
        cases h2 with
        | fn h5 =>
          rename_i cs
          exact ⟨_,dJ.call hk h1 h3 (av:=(vals++cs).toArray) (by simp),hz ρ BM M w (vals++cs) h.dom (h4.app h5) h.hb h.hm h.st⟩
      cases dst with
      | some d =>
        simp only
        split
        · rename_i hd
          refine R.Ok.pure ?_
          intro ρ L BM M ds a w h ops Q i rest pos af ho K
          obtain ⟨args',h1,h2⟩:=main h
          refine O.call (R:=fun v' w'=>∃ ρ' M',ρ.le ρ'∧ρ'.nx=z.nx∧VR ρ' z.v v'∧HR (ER ρ') z.H M'∧St w0 w' X BM M') h.act ho rfl hd h1 h2 ?_
          rintro v' w' ⟨ρ',M',h3,h4,h5,h6,h7⟩ a' hf
          exact K ρ' _ M' _ a' w' h3 ⟨h4,(h.fr.mono h3).put h5,h.hb.mono fun _ _ _=>EB.mono h3,h6,h.df.mono h3,hf,h7⟩
        · exact R.Ok.fail
      | none =>
        refine R.Ok.pure ?_
        intro ρ L BM M ds a w h ops Q i rest pos af ho K
        obtain ⟨args',h1,h2⟩:=main h
        refine O.aGj (R:=fun v' w'=>∃ ρ' M',ρ.le ρ'∧ρ'.nx=z.nx∧VR ρ' z.v v'∧HR (ER ρ') z.H M'∧St w0 w' X BM M') h.act ho rfl h1 h2 ?_
        rintro v' w' ⟨ρ',M',h3,h4,h5,h6,h7⟩
        exact K ρ' _ M' _ a w' h3 ⟨h4,h.fr.mono h3,h.hb.mono fun _ _ _=>EB.mono h3,h6,h.df.mono h3,h.act,h7⟩
  · rename_i fid caps
    split
    · exact R.Ok.fail
    · rename_i hk
      refine R.Ok.bind (R.Ok.lift fun vs hvs=>R.Ok.bind ((hT.call w0 X B fid (caps++vs) s.H s.nx).mono fun z hz=>?_))
      have main:∀ {ρ L BM M ds a w} (h:Rl w0 X B n s ρ L BM M ds a w),∃ args',dJ P n ds L (.call ⟨.value f,args,at_⟩) ty w fid args'∧Calls P fid args' w fun e w'=>∃ v',e=.returned v'∧∃ ρ' M',ρ.le ρ'∧ρ'.nx=z.nx∧VR ρ' z.v v'∧HR (ER ρ') z.H M'∧St w0 w' X BM M':=by
        intro ρ L BM M ds a w h
        obtain ⟨g1,h1,h2⟩:=h.fr.ev hg
        obtain ⟨vals,h3,h4⟩:=lG h.sees hvs
        cases h2 with
        | bf h5 =>
          rename_i cs
          exact ⟨_,dJ.call hk h1 h3 (av:=(cs++vals).toArray) (by simp),hz ρ BM M w (cs++vals) h.dom (h5.app h4) h.hb h.hm h.st⟩
      cases dst with
      | some d =>
        simp only
        split
        · rename_i hd
          refine R.Ok.pure ?_
          intro ρ L BM M ds a w h ops Q i rest pos af ho K
          obtain ⟨args',h1,h2⟩:=main h
          refine O.call (R:=fun v' w'=>∃ ρ' M',ρ.le ρ'∧ρ'.nx=z.nx∧VR ρ' z.v v'∧HR (ER ρ') z.H M'∧St w0 w' X BM M') h.act ho rfl hd h1 h2 ?_
          rintro v' w' ⟨ρ',M',h3,h4,h5,h6,h7⟩ a' hf
          exact K ρ' _ M' _ a' w' h3 ⟨h4,(h.fr.mono h3).put h5,h.hb.mono fun _ _ _=>EB.mono h3,h6,h.df.mono h3,hf,h7⟩
        · exact R.Ok.fail
      | none =>
        refine R.Ok.pure ?_
        intro ρ L BM M ds a w h ops Q i rest pos af ho K
        obtain ⟨args',h1,h2⟩:=main h
        refine O.aGj (R:=fun v' w'=>∃ ρ' M',ρ.le ρ'∧ρ'.nx=z.nx∧VR ρ' z.v v'∧HR (ER ρ') z.H M'∧St w0 w' X BM M') h.act ho rfl h1 h2 ?_
        rintro v' w' ⟨ρ',M',h3,h4,h5,h6,h7⟩
        exact K ρ' _ M' _ a w' h3 ⟨h4,h.fr.mono h3,h.hb.mono fun _ _ _=>EB.mono h3,h6,h.df.mono h3,h.act,h7⟩
  · exact R.Ok.bind (R.Ok.lift fun vs hvs=>aDD hT hg hvs)
  · exact R.Ok.fail
def xone (P:Program) (B:List (Nat × Ent)) (T:Tab) (n:Nat) (s:S) (dst:Option Tmp) (op:Op):R S:=match op with
  | .alloc t=>xalloc P n s dst t
  | .box t x=>xbox n s dst t x
  | .store t x y=>xstore P s dst t x y
  | .buildSlice t len parts=>jJ P n s dst t len parts.toList
  | .makeSlice t x y=>xmake P n s dst t x y
  | .call ⟨.builtin .append,args,at_⟩=>xappend P B n s dst args.toList at_.toList
  | .call ⟨.value f,args,_⟩=>xcall P B T n s dst f args.toList
  | .makeMap _ none=>qF n s dst
  | .mapUpdate t x y z=>p8 P s dst t x y z
  | .call ⟨.builtin .delete,args,at_⟩=>pu P s dst at_.toList args.toList
  | op=>(xread P B s op).bind fun u=>aDH n s dst u
theorem aB3 (hT:TabOK P T):(xone P B T n s dst op).Ok (Step r P w0 X B n s dst op ty):=by
  unfold xone
  split
  · exact aC5
  · exact aFR
  · exact aCg
  · exact rW
  · exact aD7
  · exact aAW
  · exact aD2 hT
  · exact zB
  · exact aAj
  · exact zl
  · exact zQ
def zI (r:Option Nat) (P:Program) (w0:World) (X:Nat→Prop) (B:List (Nat × Ent)) (n:Nat) (ops:Array Oper) (s:S) (o:Oper) (s':S):Prop :=
  ∀ ρ L BM M ds a w,Rl w0 X B n s ρ L BM M ds a w→∀ Q i rest,ops[i]? = some o→Go_ w0 X B n s' ρ BM (O r P ops Q rest)→O r P ops Q (i::rest) a w
def xoper (P:Program) (B:List (Nat × Ent)) (T:Tab) (n:Nat) (ops:Array Oper) (s:S) (o:Oper):R S:=match o.guard with
  | none=>xone P B T n s o.dst o.op
  | some (j,want)=>match (ops[j]?).bind (·.dst) with
    | none=>R.fail
    | some dj=>match lkV s.fr dj with
      | some (.c (.bool c))=>(zq c).bind fun c'=>match c',want with
        | true,true=>xone P B T n s o.dst o.op
        | false,false=>xone P B T n s o.dst o.op
        | _,_=>match o.dst with
          | some d=>match Nat.blt d n with
            | true=>R.pure ⟨kG s.fr d (.c undef),s.H,s.nx,s.df⟩
            | false=>R.fail
          | none=>R.fail
      | some (.c (.tuple ⟨[]⟩))=>match o.dst with
        | some d=>match Nat.blt d n with
          | true=>R.pure ⟨kG s.fr d (.c undef),s.H,s.nx,s.df⟩
          | false=>R.fail
        | none=>R.fail
      | _=>R.fail
theorem ql {ops:Array Oper} {o:Oper} (hT:TabOK P T):(xoper P B T n ops s o).Ok (zI r P w0 X B n ops s o):=by
  obtain ⟨dst,op,ty,pos,af,g⟩:=o
  unfold xoper
  cases g with
  | none =>
    refine (aB3 (r:=r) (ty:=ty) (w0:=w0) (X:=X) hT).mono fun s' hs'=>?_
    intro ρ L BM M ds a w h Q i rest ho K
    exact hs' ρ L BM M ds a w h ops Q i rest pos af ho K
  | some g =>
    obtain ⟨j,want⟩:=g
    simp only
    split
    · exact R.Ok.fail
    · rename_i dj hj
      split
      · rename_i c hc
        have run:∀ {c':Bool},c=c'→c'=want→(xone P B T n s dst op).Ok (zI r P w0 X B n ops s ⟨dst,op,ty,pos,af,some (j,want)⟩):=by
          intro c' hcc hcw
          refine (aB3 (r:=r) (ty:=ty) (w0:=w0) (X:=X) hT).mono fun s' hs'=>?_
          intro ρ L BM M ds a w h Q i rest ho K
          obtain ⟨v,h1,h2⟩:=h.fr dj _ hc
          cases h2
          refine O.unguard h.act ho hj h1 (hcc.trans hcw) ?_
          refine hs' ρ L BM M ds a w h #[⟨dst,op,ty,pos,af,none⟩] _ 0 [] pos af rfl ?_
          intro ρ' L' M' ds' a' w' hle hR
          exact O.nil ⟨rfl,K ρ' L' M' ds' a' w' hle hR⟩
        have skp:∀ {c':Bool},c=c'→c'=(!want)→R.Ok (match dst with
            | some d=>match Nat.blt d n with
              | true=>R.pure ⟨kG s.fr d (.c undef),s.H,s.nx,s.df⟩
              | false=>R.fail
            | none=>R.fail) (zI r P w0 X B n ops s ⟨dst,op,ty,pos,af,some (j,want)⟩):=by
          intro c' hcc hcw
          split
          · split
            · rename_i d hd
              refine R.Ok.pure ?_
              intro ρ L BM M ds a w h Q i rest ho K
              obtain ⟨v,h1,h2⟩:=h.fr dj _ hc
              cases h2
              exact O.aJ h.act ho hj h1 (hcc.trans hcw) hd fun a' hf=>K ρ _ M _ a' w (Env.le.refl ρ) ⟨h.dom,h.fr.put .c,h.hb,h.hm,h.df,hf,h.st⟩
            · exact R.Ok.fail
          · exact R.Ok.fail
        refine (vQ _).andThen fun c' hcc=>?_
        split
        · exact run hcc rfl
        · exact run hcc rfl
        · rename_i h1 h2
          refine skp hcc ?_
          cases c' <;> cases want
          · exact absurd rfl (h2 rfl)
          · rfl
          · rfl
          · exact absurd rfl (h1 rfl)
      · rename_i hc
        split
        · split
          · rename_i d hd
            refine R.Ok.pure ?_
            intro ρ L BM M ds a w h Q i rest ho K
            obtain ⟨v,h1,h2⟩:=h.fr dj _ hc
            cases h2
            exact O.bS h.act ho hj h1 hd fun a' hf=>K ρ _ M _ a' w (Env.le.refl ρ) ⟨h.dom,h.fr.put .c,h.hb,h.hm,h.df,hf,h.st⟩
          · exact R.Ok.fail
        · exact R.Ok.fail
      · exact R.Ok.fail
def xops (P:Program) (B:List (Nat × Ent)) (T:Tab) (n:Nat) (ops:Array Oper):List Oper→S→R S
  | [],s=>R.pure s
  | o::t,s=>(xoper P B T n ops s o).bind fun s1=>xops P B T n ops t s1
theorem aB8 {ops:Array Oper} (hT:TabOK P T):∀ (l:List Oper) (k:Nat) (s:S),(∀ j o,l[j]? = some o→ops[k+j]? = some o)→(xops P B T n ops l s).Ok fun s' =>
    ∀ ρ L BM M ds a w,Rl w0 X B n s ρ L BM M ds a w→∀ Q,Go_ w0 X B n s' ρ BM (Q .normal)→O r P ops Q (List.range' k l.length) a w
  | [],k,s,_=>R.Ok.pure fun ρ L BM M ds a w h Q K=>O.nil (K ρ L M ds a w (Env.le.refl ρ) h)
  | o::t,k,s,hl=>by
    refine (ql (r:=r) (w0:=w0) (X:=X) hT).andThen fun s1 h1=>?_
    refine (aB8 hT t (k+1) s1 fun j o' hj=>by rw [Nat.add_assoc,Nat.add_comm 1 j]; exact hl (j+1) o' (by simpa using hj)).mono fun s' h2=>?_
    intro ρ L BM M ds a w h Q K
    refine h1 ρ L BM M ds a w h Q k _ (by simpa using hl 0 o rfl) ?_
    intro ρ' L' M' ds' a' w' hle hR
    exact h2 ρ' L' BM M' ds' a' w' hR Q fun ρ'' L'' M'' ds'' a'' w'' hle' hR'=>K ρ'' L'' M'' ds'' a'' w'' (hle.trans hle') hR'
def xloop:Nat→(S→R (Ex × S))→S→R (Ex × S)
  | 0,_,_=>R.fail
  | m+1,f,s=>(f s).bind fun z=>match z.1 with
    | .n=>xloop m f z.2
    | e=>R.pure (e,z.2)
abbrev Drw:=List (Nat × Ent)→Nat→Array Oper→S→R S
def xcode (P:Program) (B:List (Nat × Ent)) (T:Tab) (Dw:Drw) (F:Nat) (rg:Bool) (n:Nat):Code→S→R (Ex × S)
  | .skip,s=>R.pure (.n,s)
  | .region _ ops false,s=>(xops P B T n ops ops.toList s).bind fun s'=>R.pure (.n,s')
  | .region _ ops true,s=>(Dw B n ops s).bind fun s'=>R.pure (.n,s')
  | .seq a b,s=>(xcode P B T Dw F rg n a s).bind fun z=>match z.1 with
    | .n=>xcode P B T Dw F rg n b z.2
    | e=>R.pure (e,z.2)
  | .cond c a b,s=>(dm s c).bind fun u=>match u with
    | .c (.bool z)=>(zq z).bind fun z'=>match z' with
      | true=>xcode P B T Dw F rg n a s
      | false=>xcode P B T Dw F rg n b s
    | _=>R.fail
  | .block id c,s=>(xcode P B T Dw F rg n c s).bind fun z=>match z.1 with
    | .x k=>match Nat.beq k id with
      | true=>R.pure (.n,z.2)
      | false=>R.pure (.x k,z.2)
    | e=>R.pure (e,z.2)
  | .loop c,s=>xloop F (fun s=>xcode P B T Dw F rg n c s) s
  | .exit id,s=>R.pure (.x id,s)
  | .ret,s=>R.pure (.r,s)
  | .label _,s=>R.pure (.n,s)
  | .scope c,s=>xcode P B T Dw F rg n c s
  | .rangeFunc g ps asg body,s=>match rg with
    | false=>R.fail
    | true=>(dm s g).bind fun u=>match u with
      | .fn gf caps=>match aW P gf with
        | false=>R.fail
        | true=>(T.call B gf (.yd (s.nx+1)::caps) ((s.nx+1,.loop ⟨0,.n,n,s.fr,ps.toList,asg,body⟩)::(s.nx,.mark)::s.H) (s.nx+2)).bind fun z=>match lkE z.H (s.nx+1) with
          | some (.loop z')=>match Nat.beq z'.st 1 with
            | true=>R.fail
            | false=>R.pure (z'.pend,⟨s.fr,iU z.H (s.nx+1) (.loop { z' with st:=3 }),z.nx,.mark s.nx::s.df⟩)
          | _=>R.fail
      | _=>R.fail
  | _,_=>R.fail
def aB1 (P:Program) (Dw:Drw):Prop :=
  ∀ r w0 X B n id ops s,(Dw B n ops s).Ok fun s'=>aAi r P w0 X B n s (.region id ops true) (.n,s')
theorem Go_.trans {K:Act→World→Prop} {ρ':Env} (h:Go_ w0 X B n s ρ BM K) (hle:ρ.le ρ'):Go_ w0 X B n s ρ' BM K:=fun ρ'' L' M' ds' a' w' h1 h2=>h ρ'' L' M' ds' a' w' (hle.trans h1) h2
theorem gM {Dw:Drw} {F:Nat} {rg:Bool} (hT:TabOK P T) (hD:aB1 P Dw) (hrg:rg=true→r=none):∀ (c:Code) (s:S),(xcode P B T Dw F rg n c s).Ok (aAi r P w0 X B n s c)
  | .skip,s=>R.Ok.pure fun ρ L BM M ds a w h Q K=>W.skip (K ρ L M ds a w (Env.le.refl ρ) h)
  | .region _ ops false,s=>by
    unfold xcode
    refine R.Ok.andThen (aB8 (r:=r) (w0:=w0) (X:=X) hT ops.toList 0 s fun j o hj=>by simpa using hj) fun s' h1=>R.Ok.pure ?_
    intro ρ L BM M ds a w h Q K
    refine W.region ?_
    have:=h1 ρ L BM M ds a w h Q K
    rwa [← List.range_eq_range',Array.length_toList] at this
  | .region id ops true,s=>by
    unfold xcode
    exact R.Ok.bind ((hD r w0 X B n id ops s).mono fun s' h1=>R.Ok.pure h1)
  | .seq c d,s=>by
    unfold xcode
    refine (gM hT hD hrg c s).andThen fun z h1=>?_
    obtain ⟨e,s1⟩:=z
    cases e with
    | n =>
      refine (gM hT hD hrg d s1).mono fun z2 h2=>?_
      intro ρ L BM M ds a w h Q K
      refine W.seq (h1 ρ L BM M ds a w h _ ?_)
      intro ρ' L' M' ds' a' w' hle hR
      exact aF (h2 ρ' L' BM M' ds' a' w' hR Q (K.trans hle))
    | r =>
      refine R.Ok.pure ?_
      intro ρ L BM M ds a w h Q K
      refine W.seq (h1 ρ L BM M ds a w h _ ?_)
      intro ρ' L' M' ds' a' w' hle hR
      exact aK (K ρ' L' M' ds' a' w' hle hR)
    | x id =>
      refine R.Ok.pure ?_
      intro ρ L BM M ds a w h Q K
      refine W.seq (h1 ρ L BM M ds a w h _ ?_)
      intro ρ' L' M' ds' a' w' hle hR
      exact aD (K ρ' L' M' ds' a' w' hle hR)
  | .cond o c d,s=>by
    unfold xcode
    refine R.Ok.bind (R.Ok.lift fun u hu=>?_)
    split
    · refine (vQ _).andThen fun z' hz=>?_
      subst hz
      split
      · refine (gM hT hD hrg c s).mono fun z2 h2=>?_
        intro ρ L BM M ds a w h Q K
        obtain ⟨v,h3,h4⟩:=h.fr.ev hu
        cases h4
        exact W.aBT h.act h3 (h2 ρ L BM M ds a w h Q K)
      · refine (gM hT hD hrg d s).mono fun z2 h2=>?_
        intro ρ L BM M ds a w h Q K
        obtain ⟨v,h3,h4⟩:=h.fr.ev hu
        cases h4
        exact W.fP h.act h3 (h2 ρ L BM M ds a w h Q K)
    · exact R.Ok.fail
  | .block id c,s=>by
    unfold xcode
    refine (gM hT hD hrg c s).andThen fun z h1=>?_
    obtain ⟨e,s1⟩:=z
    cases e with
    | n =>
      refine R.Ok.pure ?_
      intro ρ L BM M ds a w h Q K
      refine W.block (h1 ρ L BM M ds a w h _ ?_)
      intro ρ' L' M' ds' a' w' hle hR
      exact aG (K ρ' L' M' ds' a' w' hle hR)
    | r =>
      refine R.Ok.pure ?_
      intro ρ L BM M ds a w h Q K
      refine W.block (h1 ρ L BM M ds a w h _ ?_)
      intro ρ' L' M' ds' a' w' hle hR
      exact aN (K ρ' L' M' ds' a' w' hle hR)
    | x k =>
      simp only
      split
      · rename_i hk
        have:=Nat.eq_of_beq_eq_true hk
        subst this
        refine R.Ok.pure ?_
        intro ρ L BM M ds a w h Q K
        refine W.block (h1 ρ L BM M ds a w h _ ?_)
        intro ρ' L' M' ds' a' w' hle hR
        exact bA (K ρ' L' M' ds' a' w' hle hR)
      · rename_i hk
        refine R.Ok.pure ?_
        intro ρ L BM M ds a w h Q K
        refine W.block (h1 ρ L BM M ds a w h _ ?_)
        intro ρ' L' M' ds' a' w' hle hR
        exact eu hk (K ρ' L' M' ds' a' w' hle hR)
  | .loop c,s=>by
    unfold xcode
    have key:∀ (m:Nat) (s:S),(xloop m (fun s=>xcode P B T Dw F rg n c s) s).Ok fun z=>∀ ρ L BM M ds a w,Rl w0 X B n s ρ L BM M ds a w→∀ Q,Go_ w0 X B n z.2 ρ BM (Q z.1.to)→LH r P c Q a w:=by
      intro m
      induction m with
      | zero=>intro s; exact R.Ok.fail
      | succ m ih =>
        intro s
        unfold xloop
        refine (gM hT hD hrg c s).andThen fun z h1=>?_
        obtain ⟨e,s1⟩:=z
        cases e with
        | n =>
          refine (ih s1).mono fun z2 h2=>?_
          intro ρ L BM M ds a w h Q K
          refine LH.step (h1 ρ L BM M ds a w h _ ?_)
          intro ρ' L' M' ds' a' w' hle hR
          exact aO (h2 ρ' L' BM M' ds' a' w' hR Q (K.trans hle))
        | r =>
          refine R.Ok.pure ?_
          intro ρ L BM M ds a w h Q K
          refine LH.step (h1 ρ L BM M ds a w h _ ?_)
          intro ρ' L' M' ds' a' w' hle hR
          exact aK (K ρ' L' M' ds' a' w' hle hR)
        | x id =>
          refine R.Ok.pure ?_
          intro ρ L BM M ds a w h Q K
          refine LH.step (h1 ρ L BM M ds a w h _ ?_)
          intro ρ' L' M' ds' a' w' hle hR
          exact aD (K ρ' L' M' ds' a' w' hle hR)
    exact (key F s).mono fun z h1 ρ L BM M ds a w h Q K=>W.aIl (h1 ρ L BM M ds a w h Q K)
  | .exit id,s=>R.Ok.pure fun ρ L BM M ds a w h Q K=>W.exit (K ρ L M ds a w (Env.le.refl ρ) h)
  | .ret,s=>R.Ok.pure fun ρ L BM M ds a w h Q K=>W.ret (K ρ L M ds a w (Env.le.refl ρ) h)
  | .label _,s=>R.Ok.pure fun ρ L BM M ds a w h Q K=>W.label (K ρ L M ds a w (Env.le.refl ρ) h)
  | .rangeFunc g ps asg body,s=>by
    unfold xcode
    split
    · exact R.Ok.fail
    · have hr0:=hrg rfl
      subst hr0
      refine R.Ok.bind (R.Ok.lift fun u hu=>?_)
      split
      · rename_i gf caps
        split
        · exact R.Ok.fail
        · rename_i hk
          refine R.Ok.bind ((hT.call w0 X B gf _ _ _).mono fun z hz=>?_)
          split
          · rename_i z' hz'
            split
            · exact R.Ok.fail
            · rename_i hst
              refine R.Ok.pure ?_
              intro ρ L BM M ds a w h Q K
              obtain ⟨fv,h1,h2⟩:=h.fr.ev hu
              cases h2 with
              | fn h3 =>
                rename_i cs
                refine wpIn_rangeFunc ?_
                intro fn hfn
                obtain ⟨rec,hrec⟩:∃ rec:Loop,rec={ state:=.ready,pending:=none,fn,tmps:=a.tmps,params:=ps,assign:=asg,body,defers:=w.heap.size }:=⟨_,rfl⟩
                obtain ⟨W1,hW1⟩:∃ W1,(w.alloc (.deferred (some []))).alloc (.loop rec)=W1:=⟨_,rfl⟩
                have hS1:St w0 W1 X BM (pt (w.heap.size+1) (.loop rec)::pt w.heap.size (.deferred (some []))::M):=by
                  have:=(h.st.alloc (.deferred (some []))).alloc (.loop rec)
                  rw [hW1,World.size_alloc] at this
                  exact this
                refine ⟨w.heap.size+1,[{ target:=.collected w.heap.size,args:=#[] }],W1,{ target:=.fn (.func gf) cs.toArray,args:=#[.func (.yield (w.heap.size+1)) #[] #[]] },W1,gf,
                  #[.func (.yield (w.heap.size+1)) #[] #[]]++cs.toArray,W1,?_,?_,?_,?_,fun h=>by simp [FW] at h,?_⟩
                · rw [← hW1,hrec]; exact run_enterLoop_outer _ _ _ _ _
                · simp only [resolve,h.act.eval h1]
                  simp [go_sem]
                · intro f' hf'; trivial
                · simp [invoke,go_sem,gP hk]
                · generalize w.heap.size+1=l at hS1 ⊢
                  generalize w.heap.size=D at hS1 ⊢ hrec
                  have hle1:ρ.le (ρ.upd (.pointer (some ⟨D,0,none⟩))):=Env.fM
                  have hle2:(ρ.upd (.pointer (some ⟨D,0,none⟩))).le ((ρ.upd (.pointer (some ⟨D,0,none⟩))).upd (.func (.yield l) #[] #[])):=Env.fM
                  have hle:=hle1.trans hle2
                  have hnx1:(ρ.upd (.pointer (some ⟨D,0,none⟩))).nx=s.nx+1:=congrArg (·+1) h.dom
                  have hnx2:((ρ.upd (.pointer (some ⟨D,0,none⟩))).upd (.func (.yield l) #[] #[])).nx=s.nx+2:=congrArg (·+1) hnx1
                  have hl:((ρ.upd (.pointer (some ⟨D,0,none⟩))).upd (.func (.yield l) #[] #[])) (s.nx+1)=some (.func (.yield l) #[] #[]):=Env.bU hnx1
                  have hD':((ρ.upd (.pointer (some ⟨D,0,none⟩))).upd (.func (.yield l) #[] #[])) s.nx=some (.pointer (some ⟨D,0,none⟩)):=hle2.get (Env.bU h.dom)
                  have hc:=hz _ BM _ W1 (.func (.yield l) #[] #[]::cs) hnx2 (.cons (.yd hl) (h3.mono hle)) (h.hb.mono fun _ _ _=>EB.mono hle)
                    (.cons (p:=pt l (.loop rec)) ⟨l,rec,L,hl,rfl,by rw [hrec]; rfl,by rw [hrec]; rfl,by rw [hrec],by rw [hrec],by rw [hrec],by rw [hrec]; exact h.act.size,by rw [hrec]; exact h.act.get,h.fr.mono hle⟩ (.cons ⟨D,hD',rfl⟩ (h.hm.mono fun _ _ _=>ER.mono hle))) hS1
                  have hargs:(#[.func (.yield l) #[] #[]]++cs.toArray:Array Value)=(.func (.yield l) #[] #[]::cs:List Value).toArray:=by apply Array.ext'; simp
                  rw [hargs]
                  refine dh.2 (hc.mono ?_)
                  rintro e w2 ⟨v',rfl,ρ',M',g1,g2,g3,g4,g5⟩
                  have hl2:=g1.get hl
                  obtain ⟨p,k1,l',rec',Lz,k2,rfl,k3,k4,k5⟩:=g4.get hz'
                  rw [hl2] at k2; injection k2 with k2; injection k2 with k2 _ _; injection k2 with k2; subst k2
                  have hlr:=g5.jS k1
                  have hnb:rec'.state≠.busy:=by
                    rw [k3]
                    intro hc
                    have:z'.st=1:=by
                      unfold aG6 at hc
                      split at hc <;> first | rfl | assumption | cases hc
                    rw [this] at hst; cases hst
                  refine ⟨z'.pend.code,w2.putObj l (.loop { rec' with state:=.exhausted }),by rw [← k4]; exact run_endLoop hlr hnb,?_⟩
                  have hM2:HR (ER ρ') (iU z.H (s.nx+1) (.loop { z' with st:=3 })) (M'.set (ixE z.H (s.nx+1)) (pt l (.loop { rec' with state:=.exhausted }))) :=
                    g4.set hz' ⟨l,_,Lz,hl2,rfl,rfl,k4,k5⟩
                  have hfin:Rl w0 X B n ⟨s.fr,iU z.H (s.nx+1) (.loop { z' with st:=3 }),z.nx,.mark s.nx::s.df⟩ ρ' L BM (M'.set (ixE z.H (s.nx+1)) (pt l (.loop { rec' with state:=.exhausted }))) ({ target:=.collected D,args:=#[] }::ds) { a with defers:=[{ target:=.collected D,args:=#[] }]++a.defers } (w2.putObj l (.loop { rec' with state:=.exhausted })) :=
                    ⟨g2,h.fr.mono (hle.trans g1),h.hb.mono fun _ _ _=>EB.mono (hle.trans g1),hM2,.mark (g1.get hD') (h.df.mono (hle.trans g1)),⟨h.act.size,by show _::a.defers=_; rw [h.act.defers],h.act.get⟩,g5.rF k1 _⟩
                  have hK:Q z'.pend.to { a with defers:=[{ target:=.collected D,args:=#[] }]++a.defers } (w2.putObj l (.loop { rec' with state:=.exhausted })):=K ρ' L _ _ _ _ (hle.trans g1) hfin
                  revert hK
                  cases z'.pend with
                  | n=>intro hK; exact hK
                  | r=>intro hK; exact W.ret (r:=none) hK
                  | x id=>intro hK; exact W.exit (r:=none) hK
          · exact R.Ok.fail
      · exact R.Ok.fail
  | .scope c,s=>by
    unfold xcode
    refine (gM hT hD hrg c s).mono fun z hz=>?_
    obtain ⟨e,s'⟩:=z
    intro ρ L BM M ds a w h Q K
    refine W.scope (hz ρ L BM M ds a w h _ ?_)
    intro ρ' L' M' ds' a' w' h1 h2
    have:=K ρ' L' M' ds' a' w' h1 h2
    cases e <;> exact this
  | .goto _,s=>R.Ok.fail
  | .refuse _,s=>R.Ok.fail
def uX:Nat→List V→Fm
  | _,[]=>.e
  | i,v::t=>kG (uX (i+1) t) i v
theorem zK:∀ {vs:List V} {l:List Value} (i:Nat),VRL ρ vs l→FR ρ (uX i vs) (lu i l)
  | _,_,i,.nil=>fun k u h=>by simp [uX,aDp] at h
  | _,_,i,.cons hv t=>by
    simp only [uX,lu]
    exact (zK (i+1) t).put hv
def aEz (P:Program) (s:S):ResultVar→Option V
  | .tmp t=>lkV s.fr t
  | .cell b t=>match lkV s.fr b with
    | some (.p e o)=>match lkE s.H e with
      | some (.cel l _)=>gI P t l o
      | _=>none
    | _=>none
def qz (P:Program) (s:S):List ResultVar→Option (List V)
  | []=>some []
  | r::t=>match aEz P s r with
    | some u=>match qz P s t with
      | some l=>some (u::l)
      | none=>none
    | none=>none
theorem aCL {l:List V} {cs:List Value} {ty':TypeId} {b o:Nat} {u:V} (h:VRL ρ l cs) (hb:w.heap[b]? = some (.cells cs.toArray ty' (0,0))) (hp:gI P t l o=some u):∃ v,VR ρ u v∧(loadVar t ⟨b,o,none⟩).run P w=.ok v w:=by
  unfold gI at hp
  split at hp
  · rename_i ha
    split at hp
    · rename_i m hs
      split at hp
      · rename_i hle
        have hle:=Nat.le_of_ble_eq_true hle
        simp only [Option.some.injEq] at hp
        subst hp
        refine ⟨.agg ((cs.drop o).take m).toArray,.ag ((h.drop o).take m),?_⟩
        rw [nR ha hs hb (by rw [h.len] at hle; simpa using hle)]
        congr 1
        congr 1
        apply Array.ext'
        simp only [Array.toList_extract,List.extract_eq_take_drop]
        congr 1; omega
      · cases hp
    · cases hp
  · rename_i ha
    obtain ⟨v,h4,h5⟩:=h.get hp
    exact ⟨v,h5,nJ ha hb (by simpa using h4)⟩
  · cases hp
theorem aDj {rv:ResultVar} {u:V} (h:Rl w0 X B n s ρ L BM M ds a w) (hr:aEz P s rv=some u):∃ v,VR ρ u v∧(jf a rv).run P w=.ok v w:=by
  cases rv with
  | tmp t =>
    obtain ⟨v,h1,h2⟩:=h.fr t u hr
    exact ⟨v,h2,by simp only [jf,h.act.getD h1,Sem.run_pure]⟩
  | cell b t =>
    simp only [aEz] at hr
    split at hr
    · rename_i e o hb
      split at hr
      · rename_i l ty' he
        obtain ⟨v,h1,h2⟩:=h.fr b _ hb
        cases h2 with
        | p hh =>
          obtain ⟨p,h5,bb,cs,h6,h7,rfl⟩:=h.hm.get he
          rw [hh] at h6; injection h6 with h6; injection h6 with h6; injection h6 with h6; injection h6 with h6 _ _; subst h6
          obtain ⟨v,h8,h9⟩:=aCL (P:=P) h7 (h.st.jS h5) hr
          exact ⟨v,h8,by simp only [jf,h.act.getD h1,asAddr,Sem.run_bind,Sem.run_pure,Result.andThen,h9]⟩
      · cases hr
    · cases hr
theorem xg (h:Rl w0 X B n s ρ L BM M ds a w):∀ {l:List ResultVar} {us:List V},qz P s l=some us→∃ vs,VRL ρ us vs∧(l.mapM (jf a)).run P w=.ok vs w
  | [],us,hr=>by
    simp only [qz,Option.some.injEq] at hr
    subst hr
    exact ⟨[],.nil,by simp⟩
  | rv::t,us,hr=>by
    simp only [qz] at hr
    split at hr
    · rename_i u hu
      split at hr
      · rename_i l hl
        simp only [Option.some.injEq] at hr
        subst hr
        obtain ⟨v,h1,h2⟩:=aDj h hu
        obtain ⟨vs,h3,h4⟩:=xg h hl
        refine ⟨v::vs,.cons h1 h3,?_⟩
        simp only [List.mapM_cons,Sem.run_bind,h2,h4,Result.andThen,Sem.run_pure]
      · cases hr
    · cases hr
def mF:List V→V
  | [u]=>u
  | l=>.tu l
def refs:V→Bool
  | .c _=>false
  | .un=>false
  | .ez=>false
  | .ag l=>refsL l
  | .tu l=>refsL l
  | .fn _ l=>refsL l
  | .bf _ l=>refsL l
  | _=>true
where refsL:List V→Bool
  | []=>false
  | u::t=>refs u||refsL t
mutual
def r9:V→List Nat
  | .c _=>[]
  | .un=>[]
  | .ez=>[]
  | .ag l=>ru l
  | .tu l=>ru l
  | .fn _ l=>ru l
  | .bf _ l=>ru l
  | .yd e=>[e]
  | .mp e=>[e]
  | .p e _=>[e]
  | .q e _ _ _=>[e]
  | .sl e=>[e]
  | .sw e _ _ _=>[e]
def ru:List V→List Nat
  | []=>[]
  | u::t=>r9 u++ru t
end
def aGu:List (List V)→List Nat
  | []=>[]
  | l::t=>ru l++aGu t
def aGs:List (V × V)→List Nat
  | []=>[]
  | (k,v)::t=>r9 k++(r9 v++aGs t)
def wm:Fm→List Nat
  | .e=>[]
  | .n v a b c d p q r s=>(match v with
    | some u=>r9 u
    | none=>[])++(wm a++(wm b++(wm c++(wm d++(wm p++(wm q++(wm r++wm s)))))))
def aI4:Ent→List Nat
  | .cel l _=>ru l
  | .arr _ k xs=>match k,xs with
    | .row _,xs=>aGu xs
    | .sc _ _,_=>[]
  | .loop z=>wm z.fr
  | .mark=>[]
  | .map l=>aGs l
  | .gl _ l _=>ru l
def aG4 (k:Nat):List Nat→Bool
  | []=>false
  | x::t=>match Nat.beq x k with
    | true=>true
    | false=>aG4 k t
def clos (get:Nat→Option Ent):Nat→List Nat→List Nat→List Nat
  | 0,_,acc=>acc
  | _+1,[],acc=>acc
  | m+1,e::t,acc=>match aG4 e acc with
    | true=>clos get m t acc
    | false=>match get e with
      | some x=>clos get m (aI4 x++t) (e::acc)
      | none=>clos get m t acc
def mr (ks:List Nat) (nx:Nat):List (Nat × Ent)→List (Nat × Ent)
  | []=>[]
  | (k,x)::t=>match Nat.blt k nx with
    | true=>(k,x)::t
    | false=>match aG4 k ks with
      | true=>(k,x)::mr ks nx t
      | false=>mr ks nx t
theorem yG {F:Nat→Ent→Asr→Prop} {ks:List Nat} {nx:Nat}:∀ {H M},HR F H M→∃ M',HR F (mr ks nx H) M'∧M'.Sublist M
  | _,_,.nil=>⟨[],.nil,List.Sublist.refl _⟩
  | _,_,.cons (e:=k) (ent:=x) (p:=q) h t=>by
    obtain ⟨M',h1,h2⟩:=yG (ks:=ks) (nx:=nx) t
    simp only [mr]
    split
    · exact ⟨_,.cons h t,List.Sublist.refl _⟩
    · split
      · exact ⟨q::M',.cons h h1,h2.cons_cons q⟩
      · exact ⟨M',h1,h2.cons q⟩
def aAs:List V→Bool
  | []=>true
  | u::t=>match u with
    | .yd _=>false
    | _=>aAs t
def aGS (thin:Bool) (nx:Nat) (u:V) (H:List (Nat × Ent)):List (Nat × Ent):=match thin with
  | false=>H
  | true=>match refs u with
    | false=>mr [] nx H
    | true=>mr (clos (lkE H) 1000 (r9 u) []) nx H
theorem aFA {F:Nat→Ent→Asr→Prop} {thin:Bool} {nx:Nat} {u:V} {H M} (h:HR F H M):∃ M',HR F (aGS thin nx u H) M'∧M'.Sublist M:=by
  unfold aGS
  split
  · exact ⟨M,h,List.Sublist.refl _⟩
  · split <;> exact yG h
def aFX:List (Nat × Ent)→Nat→List (Nat × Ent)
  | [],_=>[]
  | (k,v)::t,j=>match Nat.beq k j with
    | true=>t
    | false=>(k,v)::aFX t j
theorem HR.del {F:Nat→Ent→Asr→Prop}:∀ {H M} {e:Nat} {ent:Ent} {p':Asr},HR F H M→lkE H e=some ent→∃ M',HR F (aFX H e) M'∧M'.Sublist (M.set (ixE H e) p')
  | _,_,_,_,_,.nil,h=>by cases h
  | _,_,e,ent,p',.cons (e:=k) (p:=p) a t,h=>by
    simp only [lkE] at h
    simp only [ixE,aFX]
    split at h
    · rename_i hb
      have:=Nat.eq_of_beq_eq_true hb
      subst this
      simp only [hb]
      exact ⟨_,t,List.sublist_cons_self _ _⟩
    · rename_i hb
      simp only [hb]
      obtain ⟨M',h1,h2⟩:=HR.del (p':=p') t h
      exact ⟨p::M',.cons a h1,h2.cons_cons p⟩
def mG:List Df→List (Nat × Ent)→Option (List (Nat × Ent))
  | [],H=>some H
  | .mark e::t,H=>match lkE H e with
    | some .mark=>mG t (aFX H e)
    | _=>none
  | .call _ _::_,_=>none
def xfun (P:Program) (kp:FuncId→Bool) (B:List (Nat × Ent)) (T:Tab) (Dw:Drw) (F:Nat) (f:FuncId) (vs:List V) (H:List (Nat × Ent)) (nx:Nat):R An:=match P.funcs[f]? with
  | none=>R.fail
  | some fn=>match fn.body with
    | none=>R.fail
    | some c=>match Nat.ble vs.length fn.ntmps with
      | false=>R.fail
      | true=>(xcode P B T Dw F true fn.ntmps c ⟨uX 0 vs,H,nx,[]⟩).bind fun z=>match z.1 with
        | .x _=>R.fail
        | _=>(R.lift (mG z.2.df z.2.H)).bind fun H2=>(R.lift (qz P ⟨z.2.fr,H2,z.2.nx,[]⟩ fn.results.toList)).bind fun l=>R.pure ⟨mF l,aGS (!kp f&&aAs vs) nx (mF l) H2,z.2.nx⟩
theorem yQ {fn:Func} {R:Ending→World→Prop} {tm:Array Value}:∀ {df:List Df} {H H2:List (Nat × Ent)} {w:World} {M:List Asr} {ds:List Deferred},DR ρ df ds→HR (ER ρ) H M→St w0 w X BM M→mG df H=some H2 →
    (∀ w' M',HR (ER ρ) H2 M'→St w0 w' X BM M'→∃ v,(results fn tm).run P w'=.ok v w'∧R (.returned v) w')→LeavesInM (FW none) 0 P fn tm R ds .returning w
  | _,H,H2,w,M,_,.nil,hm,hs,hl,k=>by
    simp only [mG,Option.some.injEq] at hl
    subst hl
    exact k w M hm hs
  | _,H,H2,w,M,_,.call _ _,hm,hs,hl,k=>by cases hl
  | _,H,H2,w,M,_,.mark (e:=e) (D:=D) he t,hm,hs,hl,k=>by
    simp only [mG] at hl
    split at hl
    · rename_i hx
      obtain ⟨p,h1,D',h2,rfl⟩:=hm.get hx
      rw [he] at h2; injection h2 with h2; injection h2 with h2; injection h2 with h2; injection h2 with h2 _ _; subst h2
      obtain ⟨M',h3,h4⟩:=hm.del (p':=pt D (.deferred none)) hx
      refine ⟨by simp,.inl ⟨D,w.putObj D (.deferred none),rfl,run_takeDeferred (hs.jS h1),?_⟩⟩
      exact yQ t h3 ((hs.rF h1 _).sub h4) hl k
    · cases hl
theorem aGH {kp:FuncId→Bool} {Dw:Drw} {F:Nat} (hT:TabOK P T) (hD:aB1 P Dw):∀ w0 X B f vs H nx,(xfun P kp B T Dw F f vs H nx).Ok (oz P w0 X B f vs H nx):=by
  intro w0 X B f vs H nx
  unfold xfun
  split
  · exact R.Ok.fail
  · rename_i fn hfn
    split
    · exact R.Ok.fail
    · rename_i c hc
      split
      · exact R.Ok.fail
      · rename_i hle
        refine (gM (r:=none) (w0:=w0) (X:=X) hT hD (fun _=>rfl) c _).andThen fun z h1=>?_
        obtain ⟨e,s'⟩:=z
        have main:∀ (he:e.to=.normal∨e.to=.ret) {H2:List (Nat × Ent)} (hlv:mG s'.df s'.H=some H2) {l:List V} (hl:qz P ⟨s'.fr,H2,s'.nx,[]⟩ fn.results.toList=some l) {H':List (Nat × Ent)} (hH:∀ {F:Nat→Ent→Asr→Prop} {M},HR F H2 M→∃ M',HR F H' M'∧M'.Sublist M),
            oz P w0 X B f vs H nx ⟨mF l,H',s'.nx⟩:=by
          intro he H2 hlv l hl H' hH ρ BM M w vals hdom hv hb hm hst
          have hlen:Nat.ble vals.length fn.ntmps=true:=by rw [← hv.len]; exact hle
          refine (dh (r:=none) (n:=0)).1 (callsIn_of_wp_marks hfn hc trivial ?_ rfl)
          have hf:=Fr.start (args:=vals.toArray) (l:=vals) (n:=fn.ntmps) (m:=fn.ntmps-vals.toArray.size) rfl (by simpa using hlen) rfl
          refine h1 ρ _ BM M [] _ w ⟨hdom,zK 0 hv,hb,hm,.nil,hf,hst⟩ _ ?_
          intro ρ' L' M' ds' a' w' hle' hR
          have post:bodyPostM (FW none) 0 P fn (fun e w'=>∃ v',e=.returned v'∧∃ ρ' M',ρ.le ρ'∧ρ'.nx=s'.nx∧VR ρ' (mF l) v'∧HR (ER ρ') H' M'∧St w0 w' X BM M') .ret a' w':=by
            show LeavesInM (FW none) 0 P fn a'.tmps _ a'.defers .returning w'
            rw [hR.act.defers]
            refine yQ hR.df hR.hm hR.st hlv fun w2 M2 hm2 hs2=>?_
            have hR2:Rl w0 X B fn.ntmps ⟨s'.fr,H2,s'.nx,[]⟩ ρ' L' BM M2 [] { a' with defers:=[] } w2:=⟨hR.dom,hR.fr,hR.hb,hm2,.nil,⟨hR.act.size,rfl,hR.act.get⟩,hs2⟩
            obtain ⟨vs',h2,h3⟩:=xg (P:=P) hR2 hl
            have hres:∃ v',VR ρ' (mF l) v'∧(results fn a'.tmps).run P w2=.ok v' w2:=by
              have e0:=jF (fn:=fn) { a' with defers:=[] }
              simp only at e0
              rw [e0,Array.mapM_eq_mapM_toList]
              have h3':((List.toArray <$> (fn.results.toList.mapM (jf { a' with defers:=[] }))):Sem _).run P w2=.ok vs'.toArray w2:=by
                rw [← bind_pure_comp]
                simp only [Sem.run_bind,h3,Result.andThen,Sem.run_pure]
              cases h2 with
              | nil=>exact ⟨_,.tu (cs:=[]) .nil,by simp only [Sem.run_bind,h3',Result.andThen,Sem.run_pure]; rfl⟩
              | cons h4 h5=>cases h5 with
                | nil=>exact ⟨_,h4,by simp only [Sem.run_bind,h3',Result.andThen,Sem.run_pure]; rfl⟩
                | cons h6 h7=>exact ⟨_,.tu (.cons h4 (.cons h6 h7)),by simp only [Sem.run_bind,h3',Result.andThen,Sem.run_pure]; rfl⟩
            obtain ⟨v',h4,h5⟩:=hres
            obtain ⟨M3,h6,h7⟩:=hH hm2
            exact ⟨v',h5,v',rfl,ρ',M3,hle',hR.dom,h4,h6,hs2.sub h7⟩
          rcases he with he | he
          · rw [he]; exact post
          · rw [he]; exact post
        split
        · exact R.Ok.fail
        · rename_i hx
          have he:e.to=.normal∨e.to=.ret:=by
            cases e with
            | n=>exact .inl rfl
            | r=>exact .inr rfl
            | x id=>exact absurd rfl (hx id)
          refine R.Ok.bind (R.Ok.lift fun H2 hlv=>R.Ok.bind (R.Ok.lift fun l hl=>?_))
          exact R.Ok.pure (main he hlv hl fun {F M} h=>aFA h)
def xT (P:Program) (kp:FuncId→Bool) (Sm:FuncId→Option (List (Nat × Ent)→List V→List (Nat × Ent)→Nat→R An)) (Dw:Tab→Drw) (F:Nat):Nat→Tab
  | 0=>⟨fun _ _ _ _ _=>R.fail,fun _ _ _ _=>R.fail⟩
  | m+1=>⟨fun B f vs H nx=>match Sm f with
    | some g=>g B vs H nx
    | none=>xfun P kp B (xT P kp Sm Dw F m) (Dw (xT P kp Sm Dw F m)) F f vs H nx,
    fun B n c s=>xcode P B (xT P kp Sm Dw F m) (Dw (xT P kp Sm Dw F m)) F false n c s⟩
theorem aGw {kp:FuncId→Bool} {Sm:FuncId→Option (List (Nat × Ent)→List V→List (Nat × Ent)→Nat→R An)} {Dw:Tab→Drw} {F:Nat} (hS:∀ f g,Sm f=some g→∀ w0 X B vs H nx,(g B vs H nx).Ok (oz P w0 X B f vs H nx)) (hD:∀ T,TabOK P T→aB1 P (Dw T)):∀ m,TabOK P (xT P kp Sm Dw F m)
  | 0=>⟨fun _ _ _ _ _ _ _=>R.Ok.fail,fun _ _ _ _ _ _ _=>R.Ok.fail⟩
  | m+1=>by
    have ih:=aGw (kp:=kp) (F:=F) hS hD m
    refine ⟨fun w0 X B f vs H nx=>?_,fun r w0 X B n c s=>?_⟩
    · simp only [xT]
      split
      · rename_i g hg; exact hS f g hg w0 X B vs H nx
      · exact aGH ih (hD _ ih) w0 X B f vs H nx
    · simp only [xT]
      exact gM ih (hD _ ih) (fun h=>by cases h) c s
end
end Go.RX

namespace Go.SL
open Go
section
variable {r:Option Nat} {P:Program} {ops:Array Oper} {Q:Exit→Act→World→Prop} {a:Act} {w:World}
def preB (ops:Array Oper) (i:Nat):List Nat:=(jA ops).getD i []
theorem W.aIG {id:Nat} (J:(Nat→Bool)→Act→World→Prop)
    (hmo:P.follows .mixedOrders=true) (hord:rq ops=true) (hnd:ops.all (fun o=>bJ o.op)=true) (hvb:vBm ops (jA ops)=true)
    (h0:J (fun _=>false) a w.drew)
    (hstep:∀ i o s a w,ops[i]? = some o→s i=false→(∀ p ∈ preds o,s p=true)→(∀ p ∈ preB ops i,s p=true)→(∀ j,i ∈ preB ops j→s j=false)→J s a w→O r P ops (fun e a' w'=>e=.normal∧(Kept o a a'→J (upd s i) a' w')) [i] a w)
    (hend:∀ s a w,(∀ i,i<ops.size→s i=true)→J s a w→Q .normal a w):W r P (.region id ops true) Q a w:=by
  refine wpIn_region_any hmo ?_
  have key:∀ (fuel:Nat) (listed:Array Bool) (a:Act) (w:World),fuel+listed.toList.count true=ops.size→listed.size=ops.size →
      (∀ j o,listed.getD j false=true→ops[j]? = some o→∀ p ∈ preds o,listed.getD p false=true)→J (fun j=>listed.getD j false) a w →
      wpAnyIn (FW r) 0 P .any ops Q fuel listed a w:=by
    intro fuel
    induction fuel with
    | zero =>
      intro listed a w hc hsize hcl hd
      have hall:∀ i,i<ops.size→listed.getD i true=true:=by
        intro i hi
        have hcl:listed.toList.count true=listed.toList.length:=by
          have:listed.toList.length=ops.size:=by simpa using hsize
          omega
        have:=List.count_eq_length.1 hcl
        have hi':i<listed.size:=by rw [hsize]; exact hi
        have:=this listed[i] (by simp)
        simp [hi',← this]
      have hall':∀ i,i<ops.size→listed.getD i false=true:=fun i hi=>by
        have:=hall i hi
        have hi':i<listed.size:=by rw [hsize]; exact hi
        simpa [hi'] using this
      refine ⟨?_,hend _ a w hall' hd⟩
      apply List.eq_nil_iff_forall_not_mem.2
      intro i hi
      have h1:=mem_ready.1 hi
      obtain ⟨h1,o,ho,_⟩:=h1
      rw [hall i (Array.getElem?_eq_some_iff.1 ho).1] at h1
      cases h1
    | succ fuel ih =>
      intro listed a w hc hsize hcl hd
      have hex:∃ i,i<ops.size∧listed.getD i true=false:=by
        apply Classical.byContradiction
        intro hno
        have hcl:listed.toList.count true=listed.toList.length:=by
          refine List.count_eq_length.2 fun b hb=>?_
          obtain ⟨i,hi,rfl⟩:=List.mem_iff_getElem.1 hb
          have hi':i<listed.size:=by simpa using hi
          cases hbv:listed[i] with
          | true=>simp [hbv]
          | false=>exact absurd ⟨i,by rw [← hsize]; exact hi',by simp [hi',hbv]⟩ hno
        have:listed.toList.length=ops.size:=by simpa using hsize
        omega
      refine ⟨fun h=>?_,fun i hi=>?_⟩
      · obtain ⟨i,hi⟩:=jr hord hsize hex
        rw [h] at hi; cases hi
      obtain ⟨hun,o,ho,hall⟩:=mem_ready.1 hi
      have his:i<ops.size:=(Array.getElem?_eq_some_iff.1 ho).1
      have hil:i<listed.size:=by rw [hsize]; exact his
      have hun':listed.getD i false=false:=by simpa [hil] using hun
      have hprd:∀ p ∈ preds o,listed.getD p false=true:=fun p hp=>by
        obtain ⟨e,h1,h2,h3⟩:=fI hp
        exact h3▸hall e h1 h2
      have hbm:∀ q ∈ (jA ops).getD i [],listed.getD q false=true:=fun q hq=>vE (S:=fun j=>listed.getD j false=true) hvb hord (fun i o h1 h2=>hcl i o h1 h2) i o ho hprd q hq
      have hbmn:∀ j,i ∈ preB ops j→listed.getD j false=false:=fun j hj=>by
        cases hbj:listed.getD j false with
        | false=>rfl
        | true =>
          exfalso
          have hjs:j<ops.size:=by
            rcases Nat.lt_or_ge j ops.size with h | h
            · exact h
            · rw [← hsize] at h; simp [Array.getElem?_eq_none h] at hbj
          have:=vE (S:=fun j=>listed.getD j false=true) hvb hord (fun i o h1 h2=>hcl i o h1 h2) j ops[j] (Array.getElem?_eq_getElem hjs) (hcl j _ hbj (Array.getElem?_eq_getElem hjs)) i hj
          rw [hun'] at this; cases this
      have hcnt:fuel+(listed.setIfInBounds i true).toList.count true=ops.size:=by
        rw [Array.toList_setIfInBounds,fD _ _ (by simpa [Array.getD_eq_getD_getElem?,List.getD_eq_getElem?_getD] using hun)]
        omega
      have hback:∀ j,(listed.setIfInBounds i true).getD j false=true→j=i∨listed.getD j false=true:=fun j hj=>by
        by_cases e:i=j
        · exact .inl e.symm
        · rw [getD_set_ne false e] at hj; exact .inr hj
      have hfwd:∀ j,listed.getD j false=true→(listed.setIfInBounds i true).getD j false=true:=fun j hj=>by
        by_cases e:i=j
        · subst e; simp [hil]
        · rw [getD_set_ne false e]; exact hj
      have hcl':∀ j o',(listed.setIfInBounds i true).getD j false=true→ops[j]? = some o'→∀ p ∈ preds o',(listed.setIfInBounds i true).getD p false=true:=fun j o' hj hjo p hp=>by
        rcases hback j hj with rfl | h1
        · rw [ho] at hjo; injection hjo with hjo; subst hjo; exact hfwd p (hprd p hp)
        · exact hfwd p (hcl j o' h1 hjo p hp)
      have e1:(fun j=>(listed.setIfInBounds i true).getD j false)=upd (fun j=>listed.getD j false) i:=by
        funext j
        unfold upd
        cases hji:Nat.beq j i with
        | true =>
          have:=Nat.eq_of_beq_eq_true hji
          subst this
          simp [hil]
        | false =>
          have hne:i≠j:=fun e=>by rw [e] at hji; simp [Nat.beq_refl] at hji
          simp only
          rw [getD_set_ne false hne]
      refine wpOpIn_mono (fun a' w' hR=>?_) (O.keep ho (hstep i o (fun j=>listed.getD j false) a w ho hun' hprd hbm hbmn hd))
      obtain ⟨h1,h5⟩:=hR
      refine ih _ a' w' hcnt (by simpa using hsize) hcl' ?_
      rw [e1]; exact h1 h5
  have e0:(fun j=>(Array.replicate ops.size false).getD j false)=fun _=>false:=by
    funext j
    by_cases h:j<ops.size <;> simp [h]
  refine key ops.size (Array.replicate ops.size false) a { w with drawn:=w.drawn+1 } (by simp [List.count_replicate]) (by simp) (fun j o hj=>?_) (by rw [e0]; exact h0)
  exfalso
  by_cases h:j<ops.size <;> simp [h] at hj
end
end Go.SL

namespace Go.RX
open Go Go.SL
universe u
structure OpR where
  own:List Nat
  ro:List Nat
  nx:Nat
  nx':Nat
  v:Option V
  aft:List (Nat × Ent)
def OpR.touch (r:OpR) (e:Nat):Bool:=r.own.contains e||(Nat.ble r.nx e&&Nat.blt e r.nx')
def lastT (sel:Nat→Bool) (e:Nat):Nat→Option OpR→List OpR→Option OpR
  | _,acc,[]=>acc
  | k,acc,r::t=>lastT sel e (k+1) (match sel k&&r.touch e with
    | true=>some r
    | false=>acc) t
def aI3 (s:S) (e:Nat):Option OpR→Option Ent
  | some r=>lkE r.aft e
  | none=>lkE s.H e
def aI7 (s:S):Option OpR→Nat
  | some r=>r.nx'
  | none=>s.nx
def ver (s:S) (rs:List OpR) (sel:Nat→Bool) (e:Nat):Option Ent:=aI3 s e (lastT sel e 0 none rs)
def bnd (s:S) (rs:List OpR) (sel:Nat→Bool) (e:Nat):Nat:=aI7 s (lastT sel e 0 none rs)
def kH (s:S):List OpR→Nat
  | []=>s.nx
  | [r]=>r.nx'
  | _::r::t=>kH s (r::t)
def allT:Nat→Bool:=fun _=>true
theorem jC {sel sel':Nat→Bool} {e:Nat}:∀ {rs:List OpR} {k:Nat} {acc:Option OpR},(∀ j r,rs[j]? = some r→r.touch e=true→sel (k+j)=sel' (k+j))→lastT sel e k acc rs=lastT sel' e k acc rs
  | [],_,_,_=>rfl
  | r::t,k,acc,h=>by
    simp only [lastT]
    have h0:(sel k&&r.touch e)=(sel' k&&r.touch e):=by
      cases ht:r.touch e with
      | false=>simp
      | true=>have:=h 0 r rfl ht; simp only [Nat.add_zero] at this; rw [this]
    rw [h0]
    exact jC fun j r' hj ht=>by
      have:=h (j+1) r' (by simpa using hj) ht
      rwa [Nat.add_assoc,Nat.add_comm 1 j]
theorem jW {sel:Nat→Bool} {e:Nat}:∀ {rs ts:List OpR} {k:Nat} {acc:Option OpR},lastT sel e k acc (rs++ts)=lastT sel e (k+rs.length) (lastT sel e k acc rs) ts
  | [],ts,k,acc=>by simp [lastT]
  | r::t,ts,k,acc=>by
    simp only [List.cons_append,lastT,List.length_cons]
    rw [jW]
    congr 1; omega
theorem iZ {sel:Nat→Bool} {e:Nat}:∀ {rs:List OpR} {k:Nat} {acc:Option OpR},(∀ j r,rs[j]? = some r→r.touch e=true→sel (k+j)=false)→lastT sel e k acc rs=acc
  | [],_,_,_=>rfl
  | r::t,k,acc,h=>by
    simp only [lastT]
    have h0:(sel k&&r.touch e)=false:=by
      cases ht:r.touch e with
      | false=>simp
      | true=>have:=h 0 r rfl ht; simp only [Nat.add_zero] at this; rw [this]; rfl
    rw [h0]
    exact iZ fun j r' hj ht=>by
      have:=h (j+1) r' (by simpa using hj) ht
      rwa [Nat.add_assoc,Nat.add_comm 1 j]
theorem uh {sel:Nat→Bool} {e:Nat} {r0:OpR}:∀ {rs:List OpR} {k:Nat} {acc:Option OpR},lastT sel e k acc rs=some r0→acc=some r0∨∃ j,rs[j]? = some r0∧sel (k+j)=true∧r0.touch e=true
  | [],_,_,h=>.inl h
  | r::t,k,acc,h=>by
    simp only [lastT] at h
    rcases uh h with h1 | ⟨j,h1,h2,h3⟩
    · split at h1
      · rename_i hb
        simp only [Option.some.injEq] at h1
        subst h1
        simp only [Bool.and_eq_true] at hb
        exact .inr ⟨0,rfl,by simpa using hb.1,hb.2⟩
      · exact .inl h1
    · exact .inr ⟨j+1,by simpa using h1,by rw [← h2]; congr 1; omega,h3⟩
def Env.cut (k:Nat) (ρ:Env):Env:=⟨fun e=>match Nat.blt e k with
  | true=>ρ e
  | false=>none,k,fun e he=>by
    have:Nat.blt e k=false:=by
      cases h:Nat.blt e k with
      | false=>rfl
      | true => have : e < k := by simpa using h
                omega
    simp [this]⟩
theorem Env.kL {k e:Nat} {ρ:Env} (h:e<k):(ρ.cut k) e=ρ e:=by
  show (match Nat.blt e k with
    | true=>ρ e
    | false=>none)=_
  have:Nat.blt e k=true:=by simpa using h
  rw [this]
theorem Env.wF {k k':Nat} {ρ:Env} (h:k≤k'):(ρ.cut k).sub (ρ.cut k'):=fun e v hv=>by
  have h1:e<k:=Env.lt hv
  rw [Env.kL h1] at hv
  rw [Env.kL (Nat.lt_of_lt_of_le h1 h)]; exact hv
def cK (H:List (Nat × Ent)):List Nat:=H.map (·.1)
def nodupB:List Nat→Bool
  | []=>true
  | k::t=>!t.contains k&&nodupB t
theorem aBv:∀ {H:List (Nat × Ent)} {e e':Nat} {x x':Ent},lkE H e=some x→lkE H e'=some x'→e≠e'→ixE H e≠ixE H e'
  | [],_,_,_,_,h,_,_=>by cases h
  | (k,y)::t,e,e',x,x',h,h',hne=>by
    simp only [lkE] at h h'
    simp only [ixE]
    cases h1:Nat.beq k e with
    | true =>
      have e1:=Nat.eq_of_beq_eq_true h1
      subst e1
      have h2:Nat.beq k e'=false:=by
        cases h2:Nat.beq k e' with
        | false=>rfl
        | true=>exact absurd (Nat.eq_of_beq_eq_true h2) hne
      rw [h2]; simp
    | false =>
      rw [h1] at h
      cases h2:Nat.beq k e' with
      | true=>simp
      | false =>
        rw [h2] at h'
        simp only
        intro hc
        exact aBv h h' hne (by omega)
theorem St.aG7 {F:Nat→Ent→Asr→Prop} {w0 w:World} {X:Nat→Prop} {BM:List Asr} {H:List (Nat × Ent)} {M:List Asr} (hh:HR F H M) (hS:St w0 w X BM M):∀ {H2:List (Nat × Ent)},nodupB (cK H2)=true→(∀ e x,(e,x) ∈ H2→lkE H e=some x)→∃ M2,HR F H2 M2∧St w0 w X BM M2∧∀ p ∈ M2,∃ e x,(e,x) ∈ H2∧M[ixE H e]? = some p
  | [],_,_=>⟨[],.nil,hS.sub (List.nil_sublist _),by simp⟩
  | (e,x)::t,hn,hm=>by
    simp only [cK,List.map_cons,nodupB,Bool.and_eq_true] at hn
    obtain ⟨M2,h1,h2,h3⟩:=St.aG7 hh hS (H2:=t) hn.2 fun e' x' h=>hm e' x' (by simp [h])
    have hx:=hm e x (by simp)
    obtain ⟨p,hp,hF⟩:=hh.get hx
    refine ⟨p::M2,.cons hF h1,⟨h2.os,h2.tape,h2.output,h2.size,h2.old,⟨⟨(hS.sep.get hp).1,(hS.sep.get hp).2,fun q hq b hb=>?_⟩,h2.sep⟩,h2.bor⟩,?_⟩
    · obtain ⟨e',x',h4,h5⟩:=h3 q hq
      have hne:e≠e':=fun he=>by
        subst he
        have:(t.map (·.1)).contains e=true:=by
          simp only [List.contains_iff_mem,List.mem_map]
          exact ⟨(e,x'),h4,rfl⟩
        rw [this] at hn
        simp at hn
      exact hS.sep.disj hp h5 (aBv hx (hm e' x' (by simp [h4])) hne) b hb
    · intro q hq
      rcases List.mem_cons.1 hq with rfl | hq
      · exact ⟨e,x,by simp,hp⟩
      · obtain ⟨e',x',h4,h5⟩:=h3 q hq
        exact ⟨e',x',by simp [h4],h5⟩
theorem jl:∀ {H:List (Nat × Ent)} {e:Nat} {x:Ent},lkE H e=some x→(e,x) ∈ H
  | [],_,_,h=>by cases h
  | (k,y)::t,e,x,h=>by
    simp only [lkE] at h
    split at h
    · rename_i hb
      have:=Nat.eq_of_beq_eq_true hb
      subst this
      simp only [Option.some.injEq] at h
      subst h; simp
    · exact List.mem_cons_of_mem _ (jl h)
def pick (get:Nat→Option Ent):List Nat→List (Nat × Ent)
  | []=>[]
  | e::t=>match get e with
    | some x=>(e,x)::pick get t
    | none=>pick get t
theorem fO {get:Nat→Option Ent}:∀ {l:List Nat} {e:Nat} {x:Ent},(e,x) ∈ pick get l→e ∈ l∧get e=some x
  | [],_,_,h=>by cases h
  | k::t,e,x,h=>by
    simp only [pick] at h
    split at h
    · rename_i y hy
      rcases List.mem_cons.1 h with h1 | h1
      · injection h1 with h1 h2; subst h1; subst h2; exact ⟨by simp,hy⟩
      · have:=fO h1; exact ⟨by simp [this.1],this.2⟩
    · have:=fO h; exact ⟨by simp [this.1],this.2⟩
theorem oM {get:Nat→Option Ent}:∀ {l:List Nat} {e:Nat},e ∈ cK (pick get l)→e ∈ l:=fun {l e} h=>by
  simp only [cK,List.mem_map] at h
  obtain ⟨⟨e',x⟩,h1,rfl⟩:=h
  exact (fO h1).1
theorem jm {get:Nat→Option Ent}:∀ {l:List Nat},nodupB l=true→nodupB (cK (pick get l))=true
  | [],_=>rfl
  | k::t,h=>by
    simp only [nodupB,Bool.and_eq_true,Bool.not_eq_true'] at h
    have ih:=jm (get:=get) h.2
    simp only [pick]
    split
    · simp only [cK,List.map_cons,nodupB,Bool.and_eq_true,Bool.not_eq_true']
      refine ⟨?_,ih⟩
      cases hc:((pick get t).map (·.1)).contains k with
      | false=>rfl
      | true =>
        have:k ∈ t:=oM (by simpa [cK] using hc)
        simp [this] at h
    · exact ih
theorem pK {get:Nat→Option Ent}:∀ {l:List Nat} {e:Nat},e ∈ l→lkE (pick get l) e=get e
  | [],_,h=>by cases h
  | k::t,e,h=>by
    simp only [pick]
    by_cases he:k=e
    · subst he
      cases hg:get k with
      | some x=>simp only [lkE,Nat.beq_refl]
      | none =>
        simp only
        by_cases hk:k ∈ t
        · rw [pK hk,hg]
        · cases hl:lkE (pick get t) k with
          | none=>rfl
          | some x=>exact absurd (fO (jl hl)).1 hk
    · have ht:e ∈ t:=by
        rcases List.mem_cons.1 h with h1 | h1
        · exact absurd h1.symm he
        · exact h1
      have hb:Nat.beq k e=false:=by
        cases hb:Nat.beq k e with
        | false=>rfl
        | true=>exact absurd (Nat.eq_of_beq_eq_true hb) he
      cases hg:get k with
      | some x=>simp only [lkE,hb,pK ht]
      | none=>simp only [pK ht]
theorem pI:∀ {H H':List (Nat × Ent)} {e:Nat},lkE (H++H') e=match lkE H e with
    | some x=>some x
    | none=>lkE H' e
  | [],_,_=>rfl
  | (k,y)::t,H',e=>by
    simp only [List.cons_append,lkE]
    split
    · rfl
    · exact pI
theorem HR.app {F:Nat→Ent→Asr→Prop}:∀ {H M H' M'},HR F H M→HR F H' M'→HR F (H++H') (M++M')
  | _,_,_,_,.nil,h=>h
  | _,_,_,_,.cons a t,h=>.cons a (HR.app t h)
theorem HR.split {F:Nat→Ent→Asr→Prop}:∀ {H H' M},HR F (H++H') M→∃ M1 M2,M=M1++M2∧HR F H M1∧HR F H' M2
  | [],_,M,h=>⟨[],M,rfl,.nil,h⟩
  | (_,_)::t,H',_,.cons a h=>by
    obtain ⟨M1,M2,h1,h2,h3⟩:=HR.split h
    exact ⟨_::M1,M2,by rw [h1]; rfl,.cons a h2,h3⟩
theorem HR.aBp {F G:Nat→Ent→Asr→Prop}:∀ {H M},(∀ e ent p,(e,ent) ∈ H→F e ent p→G e ent p)→HR F H M→HR G H M
  | _,_,_,.nil=>.nil
  | _,_,h,.cons a t=>.cons (h _ _ _ (by simp) a) (HR.aBp (fun e ent p hm=>h e ent p (by simp [hm])) t)
end Go.RX
