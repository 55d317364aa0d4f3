/- Regions in the order of the text, calls, code, functions. -/
import Derived.Test.YtipfobacinmoiaaGreatRXN
import Derived.Test.YtipfobacinmoiaaGreatSL23
import Derived.Test.YtipfobacinmoiaaGreatSL12
import Derived.RangeFuncLeaves
import Derived.RangeFuncRecord
set_option linter.unusedVariables false
set_option linter.unusedSimpArgs false
namespace Go.RX
open Go Go.SL
universe u u'
structure An where
  v:V
  H:List (Nat × Ent)
  nx:Nat
def FunOK (P:Program) (w0:World) (X:Nat→Prop) (B:List (Nat × Ent)) (f:FuncId) (vs:List V) (H:List (Nat × Ent)) (nx:Nat) (z:An):Prop :=
  ∀ (ρ:Env) BM M w vals,ρ.nx=nx→VRL ρ vs vals→HR (EB ρ) B BM→HR (ER ρ) H M→St w0 w X BM M →
    Calls P f vals.toArray w fun e w'=>∃ v',e=.returned v'∧∃ ρ' M',ρ.le ρ'∧ρ'.nx=z.nx∧VR ρ' z.v v'∧HR (ER ρ') z.H M'∧St w0 w' X BM M'
def CodeOK (r:Option Nat) (P:Program) (w0:World) (X:Nat→Prop) (B:List (Nat × Ent)) (n:Nat) (s:S) (c:Code) (z:Ex × S):Prop :=
  ∀ ρ L BM M ds a w,Rl w0 X B n s ρ L BM M ds a w→∀ Q,Go_ w0 X B n z.2 ρ BM (Q z.1.to)→W r P c Q a w
structure Tab where
  call:List (Nat × Ent)→FuncId→List V→List (Nat × Ent)→Nat→R An
  run:List (Nat × Ent)→Nat→Code→S→R (Ex × S)
structure TabOK (P:Program) (T:Tab):Prop where
  call:∀ w0 X B f vs H nx,(T.call B f vs H nx).Ok (FunOK P w0 X B f vs H nx)
  run:∀ r w0 X B n c s,(T.run B n c s).Ok (CodeOK r P w0 X B n s c)
section
variable {r:Option Nat} {P:Program} {w0 w:World} {X:Nat→Prop} {B:List (Nat × Ent)} {n:Nat} {ds:List Deferred} {s s':S} {ρ:Env} {L:List (Nat × Value)} {BM M:List Asr} {a:Act} {op:Op} {ty t e:TypeId} {dst:Option Tmp} {x y:Operand} {T:Tab}
def zipF:List Tmp→List V→Fm→Fm
  | p::ps,v::vs,fr=>zipF ps vs (putV fr p v)
  | _,_,fr=>fr
def zipL:List Tmp→List Value→List (Nat × Value)→List (Nat × Value)
  | p::ps,v::vs,L=>zipL ps vs ((p,v)::L)
  | _,_,L=>L
theorem zipF_ok:∀ {ps:List Tmp} {vs:List V} {vals:List Value} {fr:Fm} {L:List (Nat × Value)},VRL ρ vs vals→FR ρ fr L→FR ρ (zipF ps vs fr) (zipL ps vals L)
  | [],_,_,_,_,_,h=>by simpa [zipF,zipL] using h
  | p::ps,_,_,fr,L,.nil,h=>by simpa [zipF,zipL] using h
  | p::ps,_,_,fr,L,.cons hv t,h=>by
    simp only [zipF,zipL]
    exact zipF_ok t (h.put hv)
theorem zipL_fr {m:Nat}:∀ {ps:List Tmp} {vals:List Value} {tm:Array Value} {L:List (Nat × Value)},ps.all (fun p=>Nat.blt p m)=true→Fr ⟨tm,[]⟩ m [] L →
    Fr ⟨(ps.zip vals).foldl (fun t (x:Tmp × Value)=>t.setIfInBounds x.1 x.2) tm,[]⟩ m [] (zipL ps vals L)
  | [],_,_,_,_,h=>by simpa [zipL] using h
  | p::ps,[],_,_,_,h=>by simpa [zipL] using h
  | p::ps,v::vs,tm,L,hp,h=>by
    simp only [List.all_cons,Bool.and_eq_true] at hp
    simp only [List.zip_cons_cons,List.foldl_cons,zipL]
    exact zipL_fr hp.2 (h.put hp.1 v)
def exB:Ex→Bool
  | .n=>true
  | _=>false
def endZ (z:LoopE):Ex→LoopE
  | .n=>{ z with st:=0,pend:=.n }
  | e=>{ z with st:=2,pend:=e }
def xyield (B:List (Nat × Ent)) (T:Tab) (n:Nat) (s:S) (dst:Option Tmp) (e:Nat) (vs:List V):R S:=match lkE s.H e with
  | some (.loop z)=>match Nat.beq z.st 0&&Nat.beq vs.length z.ps.length&&z.ps.all (fun p=>Nat.blt p z.n) with
    | false=>R.fail
    | true=>(T.run B z.n z.asg ⟨zipF z.ps vs z.fr,s.H,s.nx,[]⟩).bind fun r1=>match r1.1,r1.2.df with
      | .n,[]=>match lkE r1.2.H e with
        | some (.loop z1)=>match Nat.beq z1.st 0 with
          | false=>R.fail
          | true=>(T.run B z.n z.body ⟨r1.2.fr,setE r1.2.H e (.loop { z1 with st:=1 }),r1.2.nx,[]⟩).bind fun r2=>match r2.2.df with
            | []=>match lkE r2.2.H e with
              | some (.loop z2)=>match dst with
                | some d=>match Nat.blt d n with
                  | true=>R.pure ⟨putV s.fr d (.c (.bool (exB r2.1))),setE r2.2.H e (.loop (endZ z2 r2.1)),r2.2.nx,s.df⟩
                  | false=>R.fail
                | none=>R.pure ⟨s.fr,setE r2.2.H e (.loop (endZ z2 r2.1)),r2.2.nx,s.df⟩
              | _=>R.fail
            | _::_=>R.fail
        | _=>R.fail
      | _,_=>R.fail
  | _=>R.fail
theorem run_callYieldL {g:Option (Nat × Bool)} {f:Operand} {args:Array Operand} {at_:Array TypeId} {pos:String} {af:Array Edge} {vals:List Value} {l:Nat} (hf:Fr a n ds L) (hx:ev L f=some (.func (.yield l) #[] #[])) (hy:evA L args.toList=some vals) {res:Result Next} (h:(Instr.yield l vals.toArray).run P w=res) :
    (execOp a.eval ⟨dst,.call ⟨.value f,args,at_⟩,ty,pos,af,g⟩).run P w=res:=by
  have e:args.map a.eval=vals.toArray:=by apply Array.ext'; rw [Array.toList_map,hf.evA hy]
  simp only [execOp,resolve,Sem.run_bind,Sem.run_pure,Result.andThen,hf.eval hx,Deferred.ofValue,invoke,e]
  simp
  exact h
theorem setLoop_ok (h:Rl w0 X B n s ρ L BM M ds a w) {e:Nat} {z z':LoopE} {l:Nat} {rec:Loop} {st:LoopState} {pend:Option Code} (he:lkE s.H e=some (.loop z)) (hl:w.heap[l]? = some (.loop rec)) (hρ:ρ e=some (.func (.yield l) #[] #[]))
    (hst:st=stOf z'.st) (hpe:pend=z'.pend.code) (hz:z'.n=z.n∧z'.fr=z.fr∧z'.ps=z.ps∧z'.asg=z.asg∧z'.body=z.body) :
    ∃ M',HR (ER ρ) (setE s.H e (.loop z')) M'∧St w0 (w.putObj l (.loop { rec with state:=st,pending:=pend })) X BM M':=by
  obtain ⟨p,h1,l',rec',L',h2,rfl,h3,h4,h5,h6,h7,h8,h9,h10⟩:=h.hm.get he
  rw [hρ] at h2; injection h2 with h2; injection h2 with h2 _ _; injection h2 with h2; subst h2
  have hrec:rec'=rec:=by
    have:=h.st.ptAt h1
    rw [hl] at this
    injection this with this; injection this with this; exact this.symm
  subst hrec
  obtain ⟨e1,e2,e3,e4,e5⟩:=hz
  refine ⟨_,h.hm.set he (ent':=.loop z') (p':=pt l (.loop { rec' with state:=st,pending:=pend })) ?_,h.st.putO h1 _⟩
  exact ⟨l,_,L',hρ,rfl,hst,hpe,by rw [e3]; exact h5,by rw [e4]; exact h6,by rw [e5]; exact h7,by rw [e1]; exact h8,h9,by rw [e2]; exact h10⟩
theorem xyield_ok {f:Operand} {args:Array Operand} {at_:Array TypeId} {e:Nat} {vs:List V} (hT:TabOK P T) (hg:xev s.fr f=some (.yd e)) (hvs:xevA s.fr args.toList=some vs):(xyield B T n s dst e vs).Ok (Step r P w0 X B n s dst (.call ⟨.value f,args,at_⟩) ty):=by
  unfold xyield
  split
  · rename_i z hz
    split
    · exact R.Ok.fail
    · rename_i hb
      simp only [Bool.and_eq_true] at hb
      obtain ⟨⟨hb1,hb2⟩,hb3⟩:=hb
      have hst0:=Nat.eq_of_beq_eq_true hb1
      have hlen:=Nat.eq_of_beq_eq_true hb2
      refine R.Ok.andThen (R.Ok.all fun l:Nat=>hT.run (some l) w0 X B z.n z.asg _) fun r1 hr1=>?_
      obtain ⟨ex1,s1⟩:=r1
      simp only
      split
      · rename_i hdf1
        split
        · rename_i z1 hz1
          split
          · exact R.Ok.fail
          · rename_i hb4
            have hst1:=Nat.eq_of_beq_eq_true hb4
            refine R.Ok.andThen (R.Ok.all fun l:Nat=>hT.run (some l) w0 X B z.n z.body _) fun r2 hr2=>?_
            obtain ⟨ex2,s2⟩:=r2
            simp only
            split
            · rename_i hdf2
              split
              · rename_i z2 hz2
                have main:∀ {ρ L BM M ds a w} (h:Rl w0 X B n s ρ L BM M ds a w) {pos:String} {af:Array Edge} {g:Option (Nat × Bool)},∃ l fn tmps asg body,(execOp a.eval ⟨dst,.call ⟨.value f,args,at_⟩,ty,pos,af,g⟩).run P w=.ok (.round l fn tmps asg body) w ∧
                    RoundIn (FW r) 0 P l fn tmps asg body w fun e' w'=>e'=.returned (.bool (exB ex2))∧∃ ρ' M',ρ.le ρ'∧ρ'.nx=s2.nx∧HR (ER ρ') (setE s2.H e (.loop (endZ z2 ex2))) M'∧St w0 w' X BM M':=by
                  intro ρ L BM M ds a w h pos af g
                  obtain ⟨fv,h1,h2⟩:=h.fr.ev hg
                  obtain ⟨vals,h3,h4⟩:=xevA_okF h.fr hvs
                  obtain ⟨p,h5,l,rec,Lz,h6,rfl,h7,h8,h9,h10,h11,h12,h13,h14⟩:=h.hm.get hz
                  cases h2 with
                  | yd hh =>
                    rename_i l0
                    rw [hh] at h6; injection h6 with h6; injection h6 with h6 _ _; injection h6 with h6; subst h6
                    have hlr:=h.st.ptAt h5
                    have hsz:vals.toArray.size=rec.params.size:=by
                      rw [h9]; simp only [List.size_toArray]; rw [← h4.len]; exact hlen
                    refine ⟨_,rec.fn,_,rec.assign,rec.body,run_callYieldL h.act h1 h3 (run_yield hlr hsz),?_⟩
                    refine roundIn_of_wpIn (F:=FW r) trivial ?_
                    have hfr0:Fr ⟨(rec.params.zip vals.toArray).foldl (fun tmps (t,a)=>tmps.setIfInBounds t a) rec.tmps,[]⟩ z.n [] (zipL z.ps vals Lz):=by
                      have:=zipL_fr (vals:=vals) hb3 (show Fr ⟨rec.tmps,[]⟩ z.n [] Lz from ⟨h12,rfl,h13⟩)
                      rw [h9]
                      have e1:(z.ps.toArray.zip vals.toArray).foldl (fun tmps (x:Tmp × Value)=>tmps.setIfInBounds x.1 x.2) rec.tmps=(z.ps.zip vals).foldl (fun t (x:Tmp × Value)=>t.setIfInBounds x.1 x.2) rec.tmps:=by
                        rw [← Array.foldl_toList]; simp
                      have e2:(z.ps.toArray.zip vals.toArray).foldl (fun tmps (t,a)=>tmps.setIfInBounds t a) rec.tmps=(z.ps.toArray.zip vals.toArray).foldl (fun tmps (x:Tmp × Value)=>tmps.setIfInBounds x.1 x.2) rec.tmps:=rfl
                      rw [e2,e1]; exact this
                    have hW:=hr1 l0 ρ _ BM M [] _ w ⟨h.dom,zipF_ok h4 h14,h.hb,h.hm,.nil,hfr0,h.st⟩
                    rw [h10]
                    refine hW _ ?_
                    intro ρ1 L1 M1 ds1 a1 w1 hle1 hR1
                    have hds1:ds1=[]:=by
                      have:=hR1.df
                      rw [hdf1] at this
                      cases this; rfl
                    subst hds1
                    have hρ1:=hle1.get hh
                    obtain ⟨p1,g1,l1,rec1,Lz1,g2,rfl,g3,g4,g5,g6,g7,g8,g9,g10⟩:=hR1.hm.get hz1
                    rw [hρ1] at g2; injection g2 with g2; injection g2 with g2 _ _; injection g2 with g2; subst g2
                    have hlr1:=hR1.st.ptAt g1
                    refine ⟨_,run_beginRound hlr1 (by rw [g3,hst1]; rfl),?_⟩
                    obtain ⟨M1',g11,g12⟩:=setLoop_ok hR1 (z':={ z1 with st:=1 }) (st:=.busy) (pend:=rec1.pending) hz1 hlr1 hρ1 rfl g4 ⟨rfl,rfl,rfl,rfl,rfl⟩
                    rw [h11]
                    refine hr2 _ ρ1 L1 BM M1' [] a1 _ ⟨hR1.dom,hR1.fr,hR1.hb,g11,.nil,hR1.act,g12⟩ _ ?_
                    intro ρ2 L2 M2 ds2 a2 w2 hle2 hR2
                    have hρ2:=hle2.get hρ1
                    obtain ⟨p2,k1,l2,rec2,Lz2,k2,rfl,k3,k4,k5,k6,k7,k8,k9,k10⟩:=hR2.hm.get hz2
                    rw [hρ2] at k2; injection k2 with k2; injection k2 with k2 _ _; injection k2 with k2; subst k2
                    have hlr2:=hR2.st.ptAt k1
                    cases ex2 with
                    | n =>
                      obtain ⟨M2',k11,k12⟩:=setLoop_ok hR2 (z':=endZ z2 .n) (st:=.ready) (pend:=none) hz2 hlr2 hρ2 rfl rfl ⟨rfl,rfl,rfl,rfl,rfl⟩
                      exact ⟨_,_,run_endRound none hlr2,rfl,ρ2,M2',hle1.trans hle2,hR2.dom,k11,k12⟩
                    | r =>
                      obtain ⟨M2',k11,k12⟩:=setLoop_ok hR2 (z':=endZ z2 .r) (st:=.done) (pend:=some .ret) hz2 hlr2 hρ2 rfl rfl ⟨rfl,rfl,rfl,rfl,rfl⟩
                      exact ⟨_,_,run_endRound (some .ret) hlr2,rfl,ρ2,M2',hle1.trans hle2,hR2.dom,k11,k12⟩
                    | x id =>
                      obtain ⟨M2',k11,k12⟩:=setLoop_ok hR2 (z':=endZ z2 (.x id)) (st:=.done) (pend:=some (.exit id)) hz2 hlr2 hρ2 rfl rfl ⟨rfl,rfl,rfl,rfl,rfl⟩
                      exact ⟨_,_,run_endRound (some (.exit id)) hlr2,rfl,ρ2,M2',hle1.trans hle2,hR2.dom,k11,k12⟩
                split
                · rename_i d
                  split
                  · rename_i hd
                    refine R.Ok.pure ?_
                    intro ρ L BM M ds a w h ops Q i rest pos af ho K
                    obtain ⟨l,fn,tmps,asg,body,h1,h2⟩:=main h (pos:=pos) (af:=af) (g:=none)
                    unfold O wpOpsIn
                    simp only [ho]
                    rw [if_pos (by simp [Region.wanted])]
                    refine ⟨fun _ _=>trivial,?_⟩
                    rw [semAt_FW (o:=⟨some d,.call ⟨.value f,args,at_⟩,ty,pos,af,none⟩) rfl,h1]
                    refine ⟨fun h=>by simp [FW] at h,h2.mono ?_⟩
                    rintro e' w' ⟨rfl,ρ',M',g1,g2,g3,g4⟩
                    exact K ρ' ((d,.bool (exB ex2))::L) M' ds _ w' g1 ⟨g2,(h.fr.mono g1).put .c,h.hb.mono fun _ _ _=>EB.mono g1,g3,h.df.mono g1,h.act.put hd _,g4⟩
                  · exact R.Ok.fail
                · refine R.Ok.pure ?_
                  intro ρ L BM M ds a w h ops Q i rest pos af ho K
                  obtain ⟨l,fn,tmps,asg,body,h1,h2⟩:=main h (pos:=pos) (af:=af) (g:=none)
                  unfold O wpOpsIn
                  simp only [ho]
                  rw [if_pos (by simp [Region.wanted])]
                  refine ⟨fun _ _=>trivial,?_⟩
                  rw [semAt_FW (o:=⟨none,.call ⟨.value f,args,at_⟩,ty,pos,af,none⟩) rfl,h1]
                  refine ⟨fun h=>by simp [FW] at h,h2.mono ?_⟩
                  rintro e' w' ⟨rfl,ρ',M',g1,g2,g3,g4⟩
                  exact K ρ' L M' ds _ w' g1 ⟨g2,h.fr.mono g1,h.hb.mono fun _ _ _=>EB.mono g1,g3,h.df.mono g1,h.act,g4⟩
              · exact R.Ok.fail
            · exact R.Ok.fail
        · exact R.Ok.fail
      · exact R.Ok.fail
  · exact R.Ok.fail
def xcall (P:Program) (B:List (Nat × Ent)) (T:Tab) (n:Nat) (s:S) (dst:Option Tmp) (f:Operand) (args:List Operand):R S:=(getX s f).bind fun g=>match g with
  | .fn fid caps=>match callOK P fid with
    | false=>R.fail
    | true=>(R.lift (xevA s.fr args)).bind fun vs=>(T.call B fid (vs++caps) s.H s.nx).bind fun z=>match dst with
      | some d=>match Nat.blt d n with
        | true=>R.pure ⟨putV s.fr d z.v,z.H,z.nx,s.df⟩
        | false=>R.fail
      | none=>R.pure ⟨s.fr,z.H,z.nx,s.df⟩
  | .bf fid caps=>match callOK P fid with
    | false=>R.fail
    | true=>(R.lift (xevA s.fr args)).bind fun vs=>(T.call B fid (caps++vs) s.H s.nx).bind fun z=>match dst with
      | some d=>match Nat.blt d n with
        | true=>R.pure ⟨putV s.fr d z.v,z.H,z.nx,s.df⟩
        | false=>R.fail
      | none=>R.pure ⟨s.fr,z.H,z.nx,s.df⟩
  | .yd e=>(R.lift (xevA s.fr args)).bind fun vs=>xyield B T n s dst e vs
  | _=>R.fail
theorem xcall_ok {f:Operand} {args:Array Operand} {at_:Array TypeId} (hT:TabOK P T):(xcall P B T n s dst f args.toList).Ok (Step r P w0 X B n s dst (.call ⟨.value f,args,at_⟩) ty):=by
  unfold xcall
  refine R.Ok.bind (R.Ok.lift fun g hg=>?_)
  split
  · rename_i fid caps
    split
    · exact R.Ok.fail
    · rename_i hk
      refine R.Ok.bind (R.Ok.lift fun vs hvs=>R.Ok.bind ((hT.call w0 X B fid (vs++caps) s.H s.nx).mono fun z hz=>?_))
      have main:∀ {ρ L BM M ds a w} (h:Rl w0 X B n s ρ L BM M ds a w),∃ args',RunE P n ds L (.call ⟨.value f,args,at_⟩) ty w fid args'∧Calls P fid args' w fun e w'=>∃ v',e=.returned v'∧∃ ρ' M',ρ.le ρ'∧ρ'.nx=z.nx∧VR ρ' z.v v'∧HR (ER ρ') z.H M'∧St w0 w' X BM M':=by
        intro ρ L BM M ds a w h
        obtain ⟨g1,h1,h2⟩:=h.fr.ev hg
        obtain ⟨vals,h3,h4⟩:=xevA_ok h.sees hvs
        cases h2 with
        | fn h5 =>
          rename_i cs
          exact ⟨_,RunE.call hk h1 h3 (av:=(vals++cs).toArray) (by simp),hz ρ BM M w (vals++cs) h.dom (h4.app h5) h.hb h.hm h.st⟩
      cases dst with
      | some d =>
        simp only
        split
        · rename_i hd
          refine R.Ok.pure ?_
          intro ρ L BM M ds a w h ops Q i rest pos af ho K
          obtain ⟨args',h1,h2⟩:=main h
          refine O.call (R:=fun v' w'=>∃ ρ' M',ρ.le ρ'∧ρ'.nx=z.nx∧VR ρ' z.v v'∧HR (ER ρ') z.H M'∧St w0 w' X BM M') h.act ho rfl hd h1 h2 ?_
          rintro v' w' ⟨ρ',M',h3,h4,h5,h6,h7⟩ a' hf
          exact K ρ' _ M' _ a' w' h3 ⟨h4,(h.fr.mono h3).put h5,h.hb.mono fun _ _ _=>EB.mono h3,h6,h.df.mono h3,hf,h7⟩
        · exact R.Ok.fail
      | none =>
        refine R.Ok.pure ?_
        intro ρ L BM M ds a w h ops Q i rest pos af ho K
        obtain ⟨args',h1,h2⟩:=main h
        refine O.call0 (R:=fun v' w'=>∃ ρ' M',ρ.le ρ'∧ρ'.nx=z.nx∧VR ρ' z.v v'∧HR (ER ρ') z.H M'∧St w0 w' X BM M') h.act ho rfl h1 h2 ?_
        rintro v' w' ⟨ρ',M',h3,h4,h5,h6,h7⟩
        exact K ρ' _ M' _ a w' h3 ⟨h4,h.fr.mono h3,h.hb.mono fun _ _ _=>EB.mono h3,h6,h.df.mono h3,h.act,h7⟩
  · rename_i fid caps
    split
    · exact R.Ok.fail
    · rename_i hk
      refine R.Ok.bind (R.Ok.lift fun vs hvs=>R.Ok.bind ((hT.call w0 X B fid (caps++vs) s.H s.nx).mono fun z hz=>?_))
      have main:∀ {ρ L BM M ds a w} (h:Rl w0 X B n s ρ L BM M ds a w),∃ args',RunE P n ds L (.call ⟨.value f,args,at_⟩) ty w fid args'∧Calls P fid args' w fun e w'=>∃ v',e=.returned v'∧∃ ρ' M',ρ.le ρ'∧ρ'.nx=z.nx∧VR ρ' z.v v'∧HR (ER ρ') z.H M'∧St w0 w' X BM M':=by
        intro ρ L BM M ds a w h
        obtain ⟨g1,h1,h2⟩:=h.fr.ev hg
        obtain ⟨vals,h3,h4⟩:=xevA_ok h.sees hvs
        cases h2 with
        | bf h5 =>
          rename_i cs
          exact ⟨_,RunE.call hk h1 h3 (av:=(cs++vals).toArray) (by simp),hz ρ BM M w (cs++vals) h.dom (h5.app h4) h.hb h.hm h.st⟩
      cases dst with
      | some d =>
        simp only
        split
        · rename_i hd
          refine R.Ok.pure ?_
          intro ρ L BM M ds a w h ops Q i rest pos af ho K
          obtain ⟨args',h1,h2⟩:=main h
          refine O.call (R:=fun v' w'=>∃ ρ' M',ρ.le ρ'∧ρ'.nx=z.nx∧VR ρ' z.v v'∧HR (ER ρ') z.H M'∧St w0 w' X BM M') h.act ho rfl hd h1 h2 ?_
          rintro v' w' ⟨ρ',M',h3,h4,h5,h6,h7⟩ a' hf
          exact K ρ' _ M' _ a' w' h3 ⟨h4,(h.fr.mono h3).put h5,h.hb.mono fun _ _ _=>EB.mono h3,h6,h.df.mono h3,hf,h7⟩
        · exact R.Ok.fail
      | none =>
        refine R.Ok.pure ?_
        intro ρ L BM M ds a w h ops Q i rest pos af ho K
        obtain ⟨args',h1,h2⟩:=main h
        refine O.call0 (R:=fun v' w'=>∃ ρ' M',ρ.le ρ'∧ρ'.nx=z.nx∧VR ρ' z.v v'∧HR (ER ρ') z.H M'∧St w0 w' X BM M') h.act ho rfl h1 h2 ?_
        rintro v' w' ⟨ρ',M',h3,h4,h5,h6,h7⟩
        exact K ρ' _ M' _ a w' h3 ⟨h4,h.fr.mono h3,h.hb.mono fun _ _ _=>EB.mono h3,h6,h.df.mono h3,h.act,h7⟩
  · exact R.Ok.bind (R.Ok.lift fun vs hvs=>xyield_ok hT hg hvs)
  · exact R.Ok.fail
def xone (P:Program) (B:List (Nat × Ent)) (T:Tab) (n:Nat) (s:S) (dst:Option Tmp) (op:Op):R S:=match op with
  | .alloc t=>xalloc P n s dst t
  | .box t x=>xbox n s dst t x
  | .store t x y=>xstore P s dst t x y
  | .buildSlice t len parts=>xbuildSlice P n s dst t len parts.toList
  | .makeSlice t x y=>xmake P n s dst t x y
  | .call ⟨.builtin .append,args,at_⟩=>xappend P B n s dst args.toList at_.toList
  | .call ⟨.value f,args,_⟩=>xcall P B T n s dst f args.toList
  | .makeMap _ none=>xmakeMap n s dst
  | .mapUpdate t x y z=>xmapUpd P s dst t x y z
  | .call ⟨.builtin .delete,args,at_⟩=>xmapDel P s dst at_.toList args.toList
  | op=>(xread P B s op).bind fun u=>putS n s dst u
theorem xone_ok (hT:TabOK P T):(xone P B T n s dst op).Ok (Step r P w0 X B n s dst op ty):=by
  unfold xone
  split
  · exact xalloc_ok
  · exact xbox_ok
  · exact xstore_ok
  · exact xbuildSlice_ok
  · exact xmake_ok
  · exact xappend_ok
  · exact xcall_ok hT
  · exact xmakeMap_ok
  · exact xmapUpd_ok
  · exact xmapDel_ok
  · exact xread_step
def StepO (r:Option Nat) (P:Program) (w0:World) (X:Nat→Prop) (B:List (Nat × Ent)) (n:Nat) (ops:Array Oper) (s:S) (o:Oper) (s':S):Prop :=
  ∀ ρ L BM M ds a w,Rl w0 X B n s ρ L BM M ds a w→∀ Q i rest,ops[i]? = some o→Go_ w0 X B n s' ρ BM (O r P ops Q rest)→O r P ops Q (i::rest) a w
def xoper (P:Program) (B:List (Nat × Ent)) (T:Tab) (n:Nat) (ops:Array Oper) (s:S) (o:Oper):R S:=match o.guard with
  | none=>xone P B T n s o.dst o.op
  | some (j,want)=>match (ops[j]?).bind (·.dst) with
    | none=>R.fail
    | some dj=>match lkV s.fr dj with
      | some (.c (.bool c))=>(askB c).bind fun c'=>match c',want with
        | true,true=>xone P B T n s o.dst o.op
        | false,false=>xone P B T n s o.dst o.op
        | _,_=>match o.dst with
          | some d=>match Nat.blt d n with
            | true=>R.pure ⟨putV s.fr d (.c undef),s.H,s.nx,s.df⟩
            | false=>R.fail
          | none=>R.fail
      | some (.c (.tuple ⟨[]⟩))=>match o.dst with
        | some d=>match Nat.blt d n with
          | true=>R.pure ⟨putV s.fr d (.c undef),s.H,s.nx,s.df⟩
          | false=>R.fail
        | none=>R.fail
      | _=>R.fail
theorem xoper_ok {ops:Array Oper} {o:Oper} (hT:TabOK P T):(xoper P B T n ops s o).Ok (StepO r P w0 X B n ops s o):=by
  obtain ⟨dst,op,ty,pos,af,g⟩:=o
  unfold xoper
  cases g with
  | none =>
    refine (xone_ok (r:=r) (ty:=ty) (w0:=w0) (X:=X) hT).mono fun s' hs'=>?_
    intro ρ L BM M ds a w h Q i rest ho K
    exact hs' ρ L BM M ds a w h ops Q i rest pos af ho K
  | some g =>
    obtain ⟨j,want⟩:=g
    simp only
    split
    · exact R.Ok.fail
    · rename_i dj hj
      split
      · rename_i c hc
        have run:∀ {c':Bool},c=c'→c'=want→(xone P B T n s dst op).Ok (StepO r P w0 X B n ops s ⟨dst,op,ty,pos,af,some (j,want)⟩):=by
          intro c' hcc hcw
          refine (xone_ok (r:=r) (ty:=ty) (w0:=w0) (X:=X) hT).mono fun s' hs'=>?_
          intro ρ L BM M ds a w h Q i rest ho K
          obtain ⟨v,h1,h2⟩:=h.fr dj _ hc
          cases h2
          refine O.unguard h.act ho hj h1 (hcc.trans hcw) ?_
          refine hs' ρ L BM M ds a w h #[⟨dst,op,ty,pos,af,none⟩] _ 0 [] pos af rfl ?_
          intro ρ' L' M' ds' a' w' hle hR
          exact O.nil ⟨rfl,K ρ' L' M' ds' a' w' hle hR⟩
        have skp:∀ {c':Bool},c=c'→c'=(!want)→R.Ok (match dst with
            | some d=>match Nat.blt d n with
              | true=>R.pure ⟨putV s.fr d (.c undef),s.H,s.nx,s.df⟩
              | false=>R.fail
            | none=>R.fail) (StepO r P w0 X B n ops s ⟨dst,op,ty,pos,af,some (j,want)⟩):=by
          intro c' hcc hcw
          split
          · split
            · rename_i d hd
              refine R.Ok.pure ?_
              intro ρ L BM M ds a w h Q i rest ho K
              obtain ⟨v,h1,h2⟩:=h.fr dj _ hc
              cases h2
              exact O.skipB h.act ho hj h1 (hcc.trans hcw) hd fun a' hf=>K ρ _ M _ a' w (Env.le.refl ρ) ⟨h.dom,h.fr.put .c,h.hb,h.hm,h.df,hf,h.st⟩
            · exact R.Ok.fail
          · exact R.Ok.fail
        refine (askB_ok _).andThen fun c' hcc=>?_
        split
        · exact run hcc rfl
        · exact run hcc rfl
        · rename_i h1 h2
          refine skp hcc ?_
          cases c' <;> cases want
          · exact absurd rfl (h2 rfl)
          · rfl
          · rfl
          · exact absurd rfl (h1 rfl)
      · rename_i hc
        split
        · split
          · rename_i d hd
            refine R.Ok.pure ?_
            intro ρ L BM M ds a w h Q i rest ho K
            obtain ⟨v,h1,h2⟩:=h.fr dj _ hc
            cases h2
            exact O.skipU h.act ho hj h1 hd fun a' hf=>K ρ _ M _ a' w (Env.le.refl ρ) ⟨h.dom,h.fr.put .c,h.hb,h.hm,h.df,hf,h.st⟩
          · exact R.Ok.fail
        · exact R.Ok.fail
      · exact R.Ok.fail
def xops (P:Program) (B:List (Nat × Ent)) (T:Tab) (n:Nat) (ops:Array Oper):List Oper→S→R S
  | [],s=>R.pure s
  | o::t,s=>(xoper P B T n ops s o).bind fun s1=>xops P B T n ops t s1
theorem xops_ok {ops:Array Oper} (hT:TabOK P T):∀ (l:List Oper) (k:Nat) (s:S),(∀ j o,l[j]? = some o→ops[k+j]? = some o)→(xops P B T n ops l s).Ok fun s' =>
    ∀ ρ L BM M ds a w,Rl w0 X B n s ρ L BM M ds a w→∀ Q,Go_ w0 X B n s' ρ BM (Q .normal)→O r P ops Q (List.range' k l.length) a w
  | [],k,s,_=>R.Ok.pure fun ρ L BM M ds a w h Q K=>O.nil (K ρ L M ds a w (Env.le.refl ρ) h)
  | o::t,k,s,hl=>by
    refine (xoper_ok (r:=r) (w0:=w0) (X:=X) hT).andThen fun s1 h1=>?_
    refine (xops_ok hT t (k+1) s1 fun j o' hj=>by rw [Nat.add_assoc,Nat.add_comm 1 j]; exact hl (j+1) o' (by simpa using hj)).mono fun s' h2=>?_
    intro ρ L BM M ds a w h Q K
    refine h1 ρ L BM M ds a w h Q k _ (by simpa using hl 0 o rfl) ?_
    intro ρ' L' M' ds' a' w' hle hR
    exact h2 ρ' L' BM M' ds' a' w' hR Q fun ρ'' L'' M'' ds'' a'' w'' hle' hR'=>K ρ'' L'' M'' ds'' a'' w'' (hle.trans hle') hR'
def xloop:Nat→(S→R (Ex × S))→S→R (Ex × S)
  | 0,_,_=>R.fail
  | m+1,f,s=>(f s).bind fun z=>match z.1 with
    | .n=>xloop m f z.2
    | e=>R.pure (e,z.2)
abbrev Drw:=List (Nat × Ent)→Nat→Array Oper→S→R S
def xcode (P:Program) (B:List (Nat × Ent)) (T:Tab) (Dw:Drw) (F:Nat) (rg:Bool) (n:Nat):Code→S→R (Ex × S)
  | .skip,s=>R.pure (.n,s)
  | .region _ ops false,s=>(xops P B T n ops ops.toList s).bind fun s'=>R.pure (.n,s')
  | .region _ ops true,s=>(Dw B n ops s).bind fun s'=>R.pure (.n,s')
  | .seq a b,s=>(xcode P B T Dw F rg n a s).bind fun z=>match z.1 with
    | .n=>xcode P B T Dw F rg n b z.2
    | e=>R.pure (e,z.2)
  | .cond c a b,s=>(getX s c).bind fun u=>match u with
    | .c (.bool z)=>(askB z).bind fun z'=>match z' with
      | true=>xcode P B T Dw F rg n a s
      | false=>xcode P B T Dw F rg n b s
    | _=>R.fail
  | .block id c,s=>(xcode P B T Dw F rg n c s).bind fun z=>match z.1 with
    | .x k=>match Nat.beq k id with
      | true=>R.pure (.n,z.2)
      | false=>R.pure (.x k,z.2)
    | e=>R.pure (e,z.2)
  | .loop c,s=>xloop F (fun s=>xcode P B T Dw F rg n c s) s
  | .exit id,s=>R.pure (.x id,s)
  | .ret,s=>R.pure (.r,s)
  | .label _,s=>R.pure (.n,s)
  | .scope c,s=>xcode P B T Dw F rg n c s
  | .rangeFunc g ps asg body,s=>match rg with
    | false=>R.fail
    | true=>(getX s g).bind fun u=>match u with
      | .fn gf caps=>match callOK P gf with
        | false=>R.fail
        | true=>(T.call B gf (.yd (s.nx+1)::caps) ((s.nx+1,.loop ⟨0,.n,n,s.fr,ps.toList,asg,body⟩)::(s.nx,.mark)::s.H) (s.nx+2)).bind fun z=>match lkE z.H (s.nx+1) with
          | some (.loop z')=>match Nat.beq z'.st 1 with
            | true=>R.fail
            | false=>R.pure (z'.pend,⟨s.fr,setE z.H (s.nx+1) (.loop { z' with st:=3 }),z.nx,.mark s.nx::s.df⟩)
          | _=>R.fail
      | _=>R.fail
  | _,_=>R.fail
def DrwOK (P:Program) (Dw:Drw):Prop :=
  ∀ r w0 X B n id ops s,(Dw B n ops s).Ok fun s'=>CodeOK r P w0 X B n s (.region id ops true) (.n,s')
theorem Go_.trans {K:Act→World→Prop} {ρ':Env} (h:Go_ w0 X B n s ρ BM K) (hle:ρ.le ρ'):Go_ w0 X B n s ρ' BM K:=fun ρ'' L' M' ds' a' w' h1 h2=>h ρ'' L' M' ds' a' w' (hle.trans h1) h2
theorem xcode_ok {Dw:Drw} {F:Nat} {rg:Bool} (hT:TabOK P T) (hD:DrwOK P Dw) (hrg:rg=true→r=none):∀ (c:Code) (s:S),(xcode P B T Dw F rg n c s).Ok (CodeOK r P w0 X B n s c)
  | .skip,s=>R.Ok.pure fun ρ L BM M ds a w h Q K=>W.skip (K ρ L M ds a w (Env.le.refl ρ) h)
  | .region _ ops false,s=>by
    unfold xcode
    refine R.Ok.andThen (xops_ok (r:=r) (w0:=w0) (X:=X) hT ops.toList 0 s fun j o hj=>by simpa using hj) fun s' h1=>R.Ok.pure ?_
    intro ρ L BM M ds a w h Q K
    refine W.region ?_
    have:=h1 ρ L BM M ds a w h Q K
    rwa [← List.range_eq_range',Array.length_toList] at this
  | .region id ops true,s=>by
    unfold xcode
    exact R.Ok.bind ((hD r w0 X B n id ops s).mono fun s' h1=>R.Ok.pure h1)
  | .seq c d,s=>by
    unfold xcode
    refine (xcode_ok hT hD hrg c s).andThen fun z h1=>?_
    obtain ⟨e,s1⟩:=z
    cases e with
    | n =>
      refine (xcode_ok hT hD hrg d s1).mono fun z2 h2=>?_
      intro ρ L BM M ds a w h Q K
      refine W.seq (h1 ρ L BM M ds a w h _ ?_)
      intro ρ' L' M' ds' a' w' hle hR
      exact k_seq (h2 ρ' L' BM M' ds' a' w' hR Q (K.trans hle))
    | r =>
      refine R.Ok.pure ?_
      intro ρ L BM M ds a w h Q K
      refine W.seq (h1 ρ L BM M ds a w h _ ?_)
      intro ρ' L' M' ds' a' w' hle hR
      exact k_then_ret (K ρ' L' M' ds' a' w' hle hR)
    | x id =>
      refine R.Ok.pure ?_
      intro ρ L BM M ds a w h Q K
      refine W.seq (h1 ρ L BM M ds a w h _ ?_)
      intro ρ' L' M' ds' a' w' hle hR
      exact k_then_exit (K ρ' L' M' ds' a' w' hle hR)
  | .cond o c d,s=>by
    unfold xcode
    refine R.Ok.bind (R.Ok.lift fun u hu=>?_)
    split
    · refine (askB_ok _).andThen fun z' hz=>?_
      subst hz
      split
      · refine (xcode_ok hT hD hrg c s).mono fun z2 h2=>?_
        intro ρ L BM M ds a w h Q K
        obtain ⟨v,h3,h4⟩:=h.fr.ev hu
        cases h4
        exact W.if_tt h.act h3 (h2 ρ L BM M ds a w h Q K)
      · refine (xcode_ok hT hD hrg d s).mono fun z2 h2=>?_
        intro ρ L BM M ds a w h Q K
        obtain ⟨v,h3,h4⟩:=h.fr.ev hu
        cases h4
        exact W.if_ff h.act h3 (h2 ρ L BM M ds a w h Q K)
    · exact R.Ok.fail
  | .block id c,s=>by
    unfold xcode
    refine (xcode_ok hT hD hrg c s).andThen fun z h1=>?_
    obtain ⟨e,s1⟩:=z
    cases e with
    | n =>
      refine R.Ok.pure ?_
      intro ρ L BM M ds a w h Q K
      refine W.block (h1 ρ L BM M ds a w h _ ?_)
      intro ρ' L' M' ds' a' w' hle hR
      exact k_blk_normal (K ρ' L' M' ds' a' w' hle hR)
    | r =>
      refine R.Ok.pure ?_
      intro ρ L BM M ds a w h Q K
      refine W.block (h1 ρ L BM M ds a w h _ ?_)
      intro ρ' L' M' ds' a' w' hle hR
      exact k_blk_ret (K ρ' L' M' ds' a' w' hle hR)
    | x k =>
      simp only
      split
      · rename_i hk
        have:=Nat.eq_of_beq_eq_true hk
        subst this
        refine R.Ok.pure ?_
        intro ρ L BM M ds a w h Q K
        refine W.block (h1 ρ L BM M ds a w h _ ?_)
        intro ρ' L' M' ds' a' w' hle hR
        exact k_blk (K ρ' L' M' ds' a' w' hle hR)
      · rename_i hk
        refine R.Ok.pure ?_
        intro ρ L BM M ds a w h Q K
        refine W.block (h1 ρ L BM M ds a w h _ ?_)
        intro ρ' L' M' ds' a' w' hle hR
        exact k_blk_ne hk (K ρ' L' M' ds' a' w' hle hR)
  | .loop c,s=>by
    unfold xcode
    have key:∀ (m:Nat) (s:S),(xloop m (fun s=>xcode P B T Dw F rg n c s) s).Ok fun z=>∀ ρ L BM M ds a w,Rl w0 X B n s ρ L BM M ds a w→∀ Q,Go_ w0 X B n z.2 ρ BM (Q z.1.to)→LH r P c Q a w:=by
      intro m
      induction m with
      | zero=>intro s; exact R.Ok.fail
      | succ m ih =>
        intro s
        unfold xloop
        refine (xcode_ok hT hD hrg c s).andThen fun z h1=>?_
        obtain ⟨e,s1⟩:=z
        cases e with
        | n =>
          refine (ih s1).mono fun z2 h2=>?_
          intro ρ L BM M ds a w h Q K
          refine LH.step (h1 ρ L BM M ds a w h _ ?_)
          intro ρ' L' M' ds' a' w' hle hR
          exact k_then (h2 ρ' L' BM M' ds' a' w' hR Q (K.trans hle))
        | r =>
          refine R.Ok.pure ?_
          intro ρ L BM M ds a w h Q K
          refine LH.step (h1 ρ L BM M ds a w h _ ?_)
          intro ρ' L' M' ds' a' w' hle hR
          exact k_then_ret (K ρ' L' M' ds' a' w' hle hR)
        | x id =>
          refine R.Ok.pure ?_
          intro ρ L BM M ds a w h Q K
          refine LH.step (h1 ρ L BM M ds a w h _ ?_)
          intro ρ' L' M' ds' a' w' hle hR
          exact k_then_exit (K ρ' L' M' ds' a' w' hle hR)
    exact (key F s).mono fun z h1 ρ L BM M ds a w h Q K=>W.loopH (h1 ρ L BM M ds a w h Q K)
  | .exit id,s=>R.Ok.pure fun ρ L BM M ds a w h Q K=>W.exit (K ρ L M ds a w (Env.le.refl ρ) h)
  | .ret,s=>R.Ok.pure fun ρ L BM M ds a w h Q K=>W.ret (K ρ L M ds a w (Env.le.refl ρ) h)
  | .label _,s=>R.Ok.pure fun ρ L BM M ds a w h Q K=>W.label (K ρ L M ds a w (Env.le.refl ρ) h)
  | .rangeFunc g ps asg body,s=>by
    unfold xcode
    split
    · exact R.Ok.fail
    · have hr0:=hrg rfl
      subst hr0
      refine R.Ok.bind (R.Ok.lift fun u hu=>?_)
      split
      · rename_i gf caps
        split
        · exact R.Ok.fail
        · rename_i hk
          refine R.Ok.bind ((hT.call w0 X B gf _ _ _).mono fun z hz=>?_)
          split
          · rename_i z' hz'
            split
            · exact R.Ok.fail
            · rename_i hst
              refine R.Ok.pure ?_
              intro ρ L BM M ds a w h Q K
              obtain ⟨fv,h1,h2⟩:=h.fr.ev hu
              cases h2 with
              | fn h3 =>
                rename_i cs
                refine wpIn_rangeFunc ?_
                intro fn hfn
                obtain ⟨rec,hrec⟩:∃ rec:Loop,rec={ state:=.ready,pending:=none,fn,tmps:=a.tmps,params:=ps,assign:=asg,body,defers:=w.heap.size }:=⟨_,rfl⟩
                obtain ⟨W1,hW1⟩:∃ W1,(w.alloc (.deferred (some []))).alloc (.loop rec)=W1:=⟨_,rfl⟩
                have hS1:St w0 W1 X BM (pt (w.heap.size+1) (.loop rec)::pt w.heap.size (.deferred (some []))::M):=by
                  have:=(h.st.alloc (.deferred (some []))).alloc (.loop rec)
                  rw [hW1,World.size_alloc] at this
                  exact this
                refine ⟨w.heap.size+1,[{ target:=.collected w.heap.size,args:=#[] }],W1,{ target:=.fn (.func gf) cs.toArray,args:=#[.func (.yield (w.heap.size+1)) #[] #[]] },W1,gf,
                  #[.func (.yield (w.heap.size+1)) #[] #[]]++cs.toArray,W1,?_,?_,?_,?_,fun h=>by simp [FW] at h,?_⟩
                · rw [← hW1,hrec]; exact run_enterLoop_outer _ _ _ _ _
                · simp only [resolve,h.act.eval h1]
                  simp [go_sem]
                · intro f' hf'; trivial
                · simp [invoke,go_sem,callOK_enter hk]
                · generalize w.heap.size+1=l at hS1 ⊢
                  generalize w.heap.size=D at hS1 ⊢ hrec
                  have hle1:ρ.le (ρ.upd (.pointer (some ⟨D,0,none⟩))):=Env.upd_le
                  have hle2:(ρ.upd (.pointer (some ⟨D,0,none⟩))).le ((ρ.upd (.pointer (some ⟨D,0,none⟩))).upd (.func (.yield l) #[] #[])):=Env.upd_le
                  have hle:=hle1.trans hle2
                  have hnx1:(ρ.upd (.pointer (some ⟨D,0,none⟩))).nx=s.nx+1:=congrArg (·+1) h.dom
                  have hnx2:((ρ.upd (.pointer (some ⟨D,0,none⟩))).upd (.func (.yield l) #[] #[])).nx=s.nx+2:=congrArg (·+1) hnx1
                  have hl:((ρ.upd (.pointer (some ⟨D,0,none⟩))).upd (.func (.yield l) #[] #[])) (s.nx+1)=some (.func (.yield l) #[] #[]):=Env.upd_self hnx1
                  have hD':((ρ.upd (.pointer (some ⟨D,0,none⟩))).upd (.func (.yield l) #[] #[])) s.nx=some (.pointer (some ⟨D,0,none⟩)):=hle2.get (Env.upd_self h.dom)
                  have hc:=hz _ BM _ W1 (.func (.yield l) #[] #[]::cs) hnx2 (.cons (.yd hl) (h3.mono hle)) (h.hb.mono fun _ _ _=>EB.mono hle)
                    (.cons (p:=pt l (.loop rec)) ⟨l,rec,L,hl,rfl,by rw [hrec]; rfl,by rw [hrec]; rfl,by rw [hrec],by rw [hrec],by rw [hrec],by rw [hrec]; exact h.act.size,by rw [hrec]; exact h.act.get,h.fr.mono hle⟩ (.cons ⟨D,hD',rfl⟩ (h.hm.mono fun _ _ _=>ER.mono hle))) hS1
                  have hargs:(#[.func (.yield l) #[] #[]]++cs.toArray:Array Value)=(.func (.yield l) #[] #[]::cs:List Value).toArray:=by apply Array.ext'; simp
                  rw [hargs]
                  refine callsIn_FW.2 (hc.mono ?_)
                  rintro e w2 ⟨v',rfl,ρ',M',g1,g2,g3,g4,g5⟩
                  have hl2:=g1.get hl
                  obtain ⟨p,k1,l',rec',Lz,k2,rfl,k3,k4,k5⟩:=g4.get hz'
                  rw [hl2] at k2; injection k2 with k2; injection k2 with k2 _ _; injection k2 with k2; subst k2
                  have hlr:=g5.ptAt k1
                  have hnb:rec'.state≠.busy:=by
                    rw [k3]
                    intro hc
                    have:z'.st=1:=by
                      unfold stOf at hc
                      split at hc <;> first | rfl | assumption | cases hc
                    rw [this] at hst; cases hst
                  refine ⟨z'.pend.code,w2.putObj l (.loop { rec' with state:=.exhausted }),by rw [← k4]; exact run_endLoop hlr hnb,?_⟩
                  have hM2:HR (ER ρ') (setE z.H (s.nx+1) (.loop { z' with st:=3 })) (M'.set (ixE z.H (s.nx+1)) (pt l (.loop { rec' with state:=.exhausted }))) :=
                    g4.set hz' ⟨l,_,Lz,hl2,rfl,rfl,k4,k5⟩
                  have hfin:Rl w0 X B n ⟨s.fr,setE z.H (s.nx+1) (.loop { z' with st:=3 }),z.nx,.mark s.nx::s.df⟩ ρ' L BM (M'.set (ixE z.H (s.nx+1)) (pt l (.loop { rec' with state:=.exhausted }))) ({ target:=.collected D,args:=#[] }::ds) { a with defers:=[{ target:=.collected D,args:=#[] }]++a.defers } (w2.putObj l (.loop { rec' with state:=.exhausted })) :=
                    ⟨g2,h.fr.mono (hle.trans g1),h.hb.mono fun _ _ _=>EB.mono (hle.trans g1),hM2,.mark (g1.get hD') (h.df.mono (hle.trans g1)),⟨h.act.size,by show _::a.defers=_; rw [h.act.defers],h.act.get⟩,g5.putO k1 _⟩
                  have hK:Q z'.pend.to { a with defers:=[{ target:=.collected D,args:=#[] }]++a.defers } (w2.putObj l (.loop { rec' with state:=.exhausted })):=K ρ' L _ _ _ _ (hle.trans g1) hfin
                  revert hK
                  cases z'.pend with
                  | n=>intro hK; exact hK
                  | r=>intro hK; exact W.ret (r:=none) hK
                  | x id=>intro hK; exact W.exit (r:=none) hK
          · exact R.Ok.fail
      · exact R.Ok.fail
  | .scope c,s=>by
    unfold xcode
    refine (xcode_ok hT hD hrg c s).mono fun z hz=>?_
    obtain ⟨e,s'⟩:=z
    intro ρ L BM M ds a w h Q K
    refine W.scope (hz ρ L BM M ds a w h _ ?_)
    intro ρ' L' M' ds' a' w' h1 h2
    have:=K ρ' L' M' ds' a' w' h1 h2
    cases e <;> exact this
  | .goto _,s=>R.Ok.fail
  | .refuse _,s=>R.Ok.fail
def argsV:Nat→List V→Fm
  | _,[]=>.e
  | i,v::t=>putV (argsV (i+1) t) i v
theorem argsV_ok:∀ {vs:List V} {l:List Value} (i:Nat),VRL ρ vs l→FR ρ (argsV i vs) (argsL i l)
  | _,_,i,.nil=>fun k u h=>by simp [argsV,lkV_e] at h
  | _,_,i,.cons hv t=>by
    simp only [argsV,argsL]
    exact (argsV_ok (i+1) t).put hv
def xres1 (P:Program) (s:S):ResultVar→Option V
  | .tmp t=>lkV s.fr t
  | .cell b t=>match lkV s.fr b with
    | some (.p e o)=>match lkE s.H e with
      | some (.cel l _)=>partV P t l o
      | _=>none
    | _=>none
def xresL (P:Program) (s:S):List ResultVar→Option (List V)
  | []=>some []
  | r::t=>match xres1 P s r with
    | some u=>match xresL P s t with
      | some l=>some (u::l)
      | none=>none
    | none=>none
theorem run_partV {l:List V} {cs:List Value} {ty':TypeId} {b o:Nat} {u:V} (h:VRL ρ l cs) (hb:w.heap[b]? = some (.cells cs.toArray ty' (0,0))) (hp:partV P t l o=some u):∃ v,VR ρ u v∧(loadVar t ⟨b,o,none⟩).run P w=.ok v w:=by
  unfold partV at hp
  split at hp
  · rename_i ha
    split at hp
    · rename_i m hs
      split at hp
      · rename_i hle
        have hle:=Nat.le_of_ble_eq_true hle
        simp only [Option.some.injEq] at hp
        subst hp
        refine ⟨.agg ((cs.drop o).take m).toArray,.ag ((h.drop o).take m),?_⟩
        rw [run_loadVarN ha hs hb (by rw [h.len] at hle; simpa using hle)]
        congr 1
        congr 1
        apply Array.ext'
        simp only [Array.toList_extract,List.extract_eq_take_drop]
        congr 1; omega
      · cases hp
    · cases hp
  · rename_i ha
    obtain ⟨v,h4,h5⟩:=h.get hp
    exact ⟨v,h5,run_loadVar1 ha hb (by simpa using h4)⟩
  · cases hp
theorem xres1_ok {rv:ResultVar} {u:V} (h:Rl w0 X B n s ρ L BM M ds a w) (hr:xres1 P s rv=some u):∃ v,VR ρ u v∧(resSem a rv).run P w=.ok v w:=by
  cases rv with
  | tmp t =>
    obtain ⟨v,h1,h2⟩:=h.fr t u hr
    exact ⟨v,h2,by simp only [resSem,h.act.getD h1,Sem.run_pure]⟩
  | cell b t =>
    simp only [xres1] at hr
    split at hr
    · rename_i e o hb
      split at hr
      · rename_i l ty' he
        obtain ⟨v,h1,h2⟩:=h.fr b _ hb
        cases h2 with
        | p hh =>
          obtain ⟨p,h5,bb,cs,h6,h7,rfl⟩:=h.hm.get he
          rw [hh] at h6; injection h6 with h6; injection h6 with h6; injection h6 with h6; injection h6 with h6 _ _; subst h6
          obtain ⟨v,h8,h9⟩:=run_partV (P:=P) h7 (h.st.ptAt h5) hr
          exact ⟨v,h8,by simp only [resSem,h.act.getD h1,asAddr,Sem.run_bind,Sem.run_pure,Result.andThen,h9]⟩
      · cases hr
    · cases hr
theorem xresL_ok (h:Rl w0 X B n s ρ L BM M ds a w):∀ {l:List ResultVar} {us:List V},xresL P s l=some us→∃ vs,VRL ρ us vs∧(l.mapM (resSem a)).run P w=.ok vs w
  | [],us,hr=>by
    simp only [xresL,Option.some.injEq] at hr
    subst hr
    exact ⟨[],.nil,by simp⟩
  | rv::t,us,hr=>by
    simp only [xresL] at hr
    split at hr
    · rename_i u hu
      split at hr
      · rename_i l hl
        simp only [Option.some.injEq] at hr
        subst hr
        obtain ⟨v,h1,h2⟩:=xres1_ok h hu
        obtain ⟨vs,h3,h4⟩:=xresL_ok h hl
        refine ⟨v::vs,.cons h1 h3,?_⟩
        simp only [List.mapM_cons,Sem.run_bind,h2,h4,Result.andThen,Sem.run_pure]
      · cases hr
    · cases hr
def oneRes:List V→V
  | [u]=>u
  | l=>.tu l
def refs:V→Bool
  | .c _=>false
  | .un=>false
  | .ez=>false
  | .ag l=>refsL l
  | .tu l=>refsL l
  | .fn _ l=>refsL l
  | .bf _ l=>refsL l
  | _=>true
where refsL:List V→Bool
  | []=>false
  | u::t=>refs u||refsL t
mutual
def idsV:V→List Nat
  | .c _=>[]
  | .un=>[]
  | .ez=>[]
  | .ag l=>idsL l
  | .tu l=>idsL l
  | .fn _ l=>idsL l
  | .bf _ l=>idsL l
  | .yd e=>[e]
  | .mp e=>[e]
  | .p e _=>[e]
  | .q e _ _ _=>[e]
  | .sl e=>[e]
  | .sw e _ _ _=>[e]
def idsL:List V→List Nat
  | []=>[]
  | u::t=>idsV u++idsL t
end
def idsLL:List (List V)→List Nat
  | []=>[]
  | l::t=>idsL l++idsLL t
def idsKV:List (V × V)→List Nat
  | []=>[]
  | (k,v)::t=>idsV k++(idsV v++idsKV t)
def idsF:Fm→List Nat
  | .e=>[]
  | .n v a b c d p q r s=>(match v with
    | some u=>idsV u
    | none=>[])++(idsF a++(idsF b++(idsF c++(idsF d++(idsF p++(idsF q++(idsF r++idsF s)))))))
def idsE:Ent→List Nat
  | .cel l _=>idsL l
  | .arr _ k xs=>match k,xs with
    | .row _,xs=>idsLL xs
    | .sc _ _,_=>[]
  | .loop z=>idsF z.fr
  | .mark=>[]
  | .map l=>idsKV l
  | .gl _ l _=>idsL l
def memN (k:Nat):List Nat→Bool
  | []=>false
  | x::t=>match Nat.beq x k with
    | true=>true
    | false=>memN k t
def clos (get:Nat→Option Ent):Nat→List Nat→List Nat→List Nat
  | 0,_,acc=>acc
  | _+1,[],acc=>acc
  | m+1,e::t,acc=>match memN e acc with
    | true=>clos get m t acc
    | false=>match get e with
      | some x=>clos get m (idsE x++t) (e::acc)
      | none=>clos get m t acc
def dropN (ks:List Nat) (nx:Nat):List (Nat × Ent)→List (Nat × Ent)
  | []=>[]
  | (k,x)::t=>match Nat.blt k nx with
    | true=>(k,x)::t
    | false=>match memN k ks with
      | true=>(k,x)::dropN ks nx t
      | false=>dropN ks nx t
theorem dropN_ok {F:Nat→Ent→Asr→Prop} {ks:List Nat} {nx:Nat}:∀ {H M},HR F H M→∃ M',HR F (dropN ks nx H) M'∧M'.Sublist M
  | _,_,.nil=>⟨[],.nil,List.Sublist.refl _⟩
  | _,_,.cons (e:=k) (ent:=x) (p:=q) h t=>by
    obtain ⟨M',h1,h2⟩:=dropN_ok (ks:=ks) (nx:=nx) t
    simp only [dropN]
    split
    · exact ⟨_,.cons h t,List.Sublist.refl _⟩
    · split
      · exact ⟨q::M',.cons h h1,h2.cons_cons q⟩
      · exact ⟨M',h1,h2.cons q⟩
def hidesV:List V→Bool
  | []=>true
  | u::t=>match u with
    | .yd _=>false
    | _=>hidesV t
def endF (thin:Bool) (nx:Nat) (u:V) (H:List (Nat × Ent)):List (Nat × Ent):=match thin with
  | false=>H
  | true=>match refs u with
    | false=>dropN [] nx H
    | true=>dropN (clos (lkE H) 1000 (idsV u) []) nx H
theorem endF_ok {F:Nat→Ent→Asr→Prop} {thin:Bool} {nx:Nat} {u:V} {H M} (h:HR F H M):∃ M',HR F (endF thin nx u H) M'∧M'.Sublist M:=by
  unfold endF
  split
  · exact ⟨M,h,List.Sublist.refl _⟩
  · split <;> exact dropN_ok h
def delE:List (Nat × Ent)→Nat→List (Nat × Ent)
  | [],_=>[]
  | (k,v)::t,j=>match Nat.beq k j with
    | true=>t
    | false=>(k,v)::delE t j
theorem HR.del {F:Nat→Ent→Asr→Prop}:∀ {H M} {e:Nat} {ent:Ent} {p':Asr},HR F H M→lkE H e=some ent→∃ M',HR F (delE H e) M'∧M'.Sublist (M.set (ixE H e) p')
  | _,_,_,_,_,.nil,h=>by cases h
  | _,_,e,ent,p',.cons (e:=k) (p:=p) a t,h=>by
    simp only [lkE] at h
    simp only [ixE,delE]
    split at h
    · rename_i hb
      have:=Nat.eq_of_beq_eq_true hb
      subst this
      simp only [hb]
      exact ⟨_,t,List.sublist_cons_self _ _⟩
    · rename_i hb
      simp only [hb]
      obtain ⟨M',h1,h2⟩:=HR.del (p':=p') t h
      exact ⟨p::M',.cons a h1,h2.cons_cons p⟩
def leaveH:List Df→List (Nat × Ent)→Option (List (Nat × Ent))
  | [],H=>some H
  | .mark e::t,H=>match lkE H e with
    | some .mark=>leaveH t (delE H e)
    | _=>none
  | .call _ _::_,_=>none
def xfun (P:Program) (kp:FuncId→Bool) (B:List (Nat × Ent)) (T:Tab) (Dw:Drw) (F:Nat) (f:FuncId) (vs:List V) (H:List (Nat × Ent)) (nx:Nat):R An:=match P.funcs[f]? with
  | none=>R.fail
  | some fn=>match fn.body with
    | none=>R.fail
    | some c=>match Nat.ble vs.length fn.ntmps with
      | false=>R.fail
      | true=>(xcode P B T Dw F true fn.ntmps c ⟨argsV 0 vs,H,nx,[]⟩).bind fun z=>match z.1 with
        | .x _=>R.fail
        | _=>(R.lift (leaveH z.2.df z.2.H)).bind fun H2=>(R.lift (xresL P ⟨z.2.fr,H2,z.2.nx,[]⟩ fn.results.toList)).bind fun l=>R.pure ⟨oneRes l,endF (!kp f&&hidesV vs) nx (oneRes l) H2,z.2.nx⟩
theorem leave_ok {fn:Func} {R:Ending→World→Prop} {tm:Array Value}:∀ {df:List Df} {H H2:List (Nat × Ent)} {w:World} {M:List Asr} {ds:List Deferred},DR ρ df ds→HR (ER ρ) H M→St w0 w X BM M→leaveH df H=some H2 →
    (∀ w' M',HR (ER ρ) H2 M'→St w0 w' X BM M'→∃ v,(results fn tm).run P w'=.ok v w'∧R (.returned v) w')→LeavesInM (FW none) 0 P fn tm R ds .returning w
  | _,H,H2,w,M,_,.nil,hm,hs,hl,k=>by
    simp only [leaveH,Option.some.injEq] at hl
    subst hl
    exact k w M hm hs
  | _,H,H2,w,M,_,.call _ _,hm,hs,hl,k=>by cases hl
  | _,H,H2,w,M,_,.mark (e:=e) (D:=D) he t,hm,hs,hl,k=>by
    simp only [leaveH] at hl
    split at hl
    · rename_i hx
      obtain ⟨p,h1,D',h2,rfl⟩:=hm.get hx
      rw [he] at h2; injection h2 with h2; injection h2 with h2; injection h2 with h2; injection h2 with h2 _ _; subst h2
      obtain ⟨M',h3,h4⟩:=hm.del (p':=pt D (.deferred none)) hx
      refine ⟨by simp,.inl ⟨D,w.putObj D (.deferred none),rfl,run_takeDeferred (hs.ptAt h1),?_⟩⟩
      exact leave_ok t h3 ((hs.putO h1 _).sub h4) hl k
    · cases hl
theorem xfun_ok {kp:FuncId→Bool} {Dw:Drw} {F:Nat} (hT:TabOK P T) (hD:DrwOK P Dw):∀ w0 X B f vs H nx,(xfun P kp B T Dw F f vs H nx).Ok (FunOK P w0 X B f vs H nx):=by
  intro w0 X B f vs H nx
  unfold xfun
  split
  · exact R.Ok.fail
  · rename_i fn hfn
    split
    · exact R.Ok.fail
    · rename_i c hc
      split
      · exact R.Ok.fail
      · rename_i hle
        refine (xcode_ok (r:=none) (w0:=w0) (X:=X) hT hD (fun _=>rfl) c _).andThen fun z h1=>?_
        obtain ⟨e,s'⟩:=z
        have main:∀ (he:e.to=.normal∨e.to=.ret) {H2:List (Nat × Ent)} (hlv:leaveH s'.df s'.H=some H2) {l:List V} (hl:xresL P ⟨s'.fr,H2,s'.nx,[]⟩ fn.results.toList=some l) {H':List (Nat × Ent)} (hH:∀ {F:Nat→Ent→Asr→Prop} {M},HR F H2 M→∃ M',HR F H' M'∧M'.Sublist M),
            FunOK P w0 X B f vs H nx ⟨oneRes l,H',s'.nx⟩:=by
          intro he H2 hlv l hl H' hH ρ BM M w vals hdom hv hb hm hst
          have hlen:Nat.ble vals.length fn.ntmps=true:=by rw [← hv.len]; exact hle
          refine (callsIn_FW (r:=none) (n:=0)).1 (callsIn_of_wp_marks hfn hc trivial ?_ rfl)
          have hf:=Fr.start (args:=vals.toArray) (l:=vals) (n:=fn.ntmps) (m:=fn.ntmps-vals.toArray.size) rfl (by simpa using hlen) rfl
          refine h1 ρ _ BM M [] _ w ⟨hdom,argsV_ok 0 hv,hb,hm,.nil,hf,hst⟩ _ ?_
          intro ρ' L' M' ds' a' w' hle' hR
          have post:bodyPostM (FW none) 0 P fn (fun e w'=>∃ v',e=.returned v'∧∃ ρ' M',ρ.le ρ'∧ρ'.nx=s'.nx∧VR ρ' (oneRes l) v'∧HR (ER ρ') H' M'∧St w0 w' X BM M') .ret a' w':=by
            show LeavesInM (FW none) 0 P fn a'.tmps _ a'.defers .returning w'
            rw [hR.act.defers]
            refine leave_ok hR.df hR.hm hR.st hlv fun w2 M2 hm2 hs2=>?_
            have hR2:Rl w0 X B fn.ntmps ⟨s'.fr,H2,s'.nx,[]⟩ ρ' L' BM M2 [] { a' with defers:=[] } w2:=⟨hR.dom,hR.fr,hR.hb,hm2,.nil,⟨hR.act.size,rfl,hR.act.get⟩,hs2⟩
            obtain ⟨vs',h2,h3⟩:=xresL_ok (P:=P) hR2 hl
            have hres:∃ v',VR ρ' (oneRes l) v'∧(results fn a'.tmps).run P w2=.ok v' w2:=by
              have e0:=run_results (fn:=fn) { a' with defers:=[] }
              simp only at e0
              rw [e0,Array.mapM_eq_mapM_toList]
              have h3':((List.toArray <$> (fn.results.toList.mapM (resSem { a' with defers:=[] }))):Sem _).run P w2=.ok vs'.toArray w2:=by
                rw [← bind_pure_comp]
                simp only [Sem.run_bind,h3,Result.andThen,Sem.run_pure]
              cases h2 with
              | nil=>exact ⟨_,.tu (cs:=[]) .nil,by simp only [Sem.run_bind,h3',Result.andThen,Sem.run_pure]; rfl⟩
              | cons h4 h5=>cases h5 with
                | nil=>exact ⟨_,h4,by simp only [Sem.run_bind,h3',Result.andThen,Sem.run_pure]; rfl⟩
                | cons h6 h7=>exact ⟨_,.tu (.cons h4 (.cons h6 h7)),by simp only [Sem.run_bind,h3',Result.andThen,Sem.run_pure]; rfl⟩
            obtain ⟨v',h4,h5⟩:=hres
            obtain ⟨M3,h6,h7⟩:=hH hm2
            exact ⟨v',h5,v',rfl,ρ',M3,hle',hR.dom,h4,h6,hs2.sub h7⟩
          rcases he with he | he
          · rw [he]; exact post
          · rw [he]; exact post
        split
        · exact R.Ok.fail
        · rename_i hx
          have he:e.to=.normal∨e.to=.ret:=by
            cases e with
            | n=>exact .inl rfl
            | r=>exact .inr rfl
            | x id=>exact absurd rfl (hx id)
          refine R.Ok.bind (R.Ok.lift fun H2 hlv=>R.Ok.bind (R.Ok.lift fun l hl=>?_))
          exact R.Ok.pure (main he hlv hl fun {F M} h=>endF_ok h)
def xT (P:Program) (kp:FuncId→Bool) (Sm:FuncId→Option (List (Nat × Ent)→List V→List (Nat × Ent)→Nat→R An)) (Dw:Tab→Drw) (F:Nat):Nat→Tab
  | 0=>⟨fun _ _ _ _ _=>R.fail,fun _ _ _ _=>R.fail⟩
  | m+1=>⟨fun B f vs H nx=>match Sm f with
    | some g=>g B vs H nx
    | none=>xfun P kp B (xT P kp Sm Dw F m) (Dw (xT P kp Sm Dw F m)) F f vs H nx,
    fun B n c s=>xcode P B (xT P kp Sm Dw F m) (Dw (xT P kp Sm Dw F m)) F false n c s⟩
theorem xT_ok {kp:FuncId→Bool} {Sm:FuncId→Option (List (Nat × Ent)→List V→List (Nat × Ent)→Nat→R An)} {Dw:Tab→Drw} {F:Nat} (hS:∀ f g,Sm f=some g→∀ w0 X B vs H nx,(g B vs H nx).Ok (FunOK P w0 X B f vs H nx)) (hD:∀ T,TabOK P T→DrwOK P (Dw T)):∀ m,TabOK P (xT P kp Sm Dw F m)
  | 0=>⟨fun _ _ _ _ _ _ _=>R.Ok.fail,fun _ _ _ _ _ _ _=>R.Ok.fail⟩
  | m+1=>by
    have ih:=xT_ok (kp:=kp) (F:=F) hS hD m
    refine ⟨fun w0 X B f vs H nx=>?_,fun r w0 X B n c s=>?_⟩
    · simp only [xT]
      split
      · rename_i g hg; exact hS f g hg w0 X B vs H nx
      · exact xfun_ok ih (hD _ ih) w0 X B f vs H nx
    · simp only [xT]
      exact xcode_ok ih (hD _ ih) (fun h=>by cases h) c s
end
end Go.RX
