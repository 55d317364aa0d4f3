/- Maps made and written, one operation each; code in a scope that nothing jumps in. -/
import Derived.Test.YtipfobacinmoiaaGreatRX6
set_option linter.unusedVariables false
set_option linter.unusedSimpArgs false
namespace Go.RX
open Go Go.SL
universe u
section
variable {r:Option Nat} {P:Program} {w0 w:World} {X:Nat→Prop} {B:List (Nat × Ent)} {n:Nat} {ds:List Deferred} {s s':S} {ρ:Env} {L:List (Nat × Value)} {BM M:List Asr} {a:Act} {op:Op} {ty t e:TypeId} {dst:Option Tmp} {x y z:Operand}
theorem St.mpPut (h:St w0 w X BM M) {j b:Nat} {kvs kvs':List (Value × Value)} (hi:M[j]? = some (mpA b kvs)) {es:Array MapEntry} {c:Nat} (h1:es.toList.map kvE=kvs') (h2:∀ x ∈ es.toList,x.born<c) (h3:(es.toList.map (·.born)).Nodup):St w0 (SL.putMap w b es c) X BM (M.set j (mpA b kvs')):=by
  have hl:=(h.sep.get hi).2 b rfl
  refine h.write (w':=SL.putMap w b es c) hi rfl rfl rfl (by simp [SL.putMap]) (fun k _ hk=>?_) ?_ (fun k hk=>⟨.inl hk,by
    have hk:k=b:=hk
    subst hk
    simpa [SL.putMap] using hl.1⟩)
  · simp only [SL.putMap]
    exact Array.getElem?_setIfInBounds_ne (fun e=>hk e.symm)
  · obtain ⟨es0,c0,h4,_⟩:=h.at_ hi
    have h4:w.heap[b]? = some (.map es0 c0):=h4
    exact ⟨es,c,Array.getElem?_setIfInBounds_self_of_lt (Array.getElem?_eq_some_iff.1 h4).1,h1,h2,h3⟩
def xmakeMap (n:Nat) (s:S) (dst:Option Tmp):R S:=newS n s dst (.mp s.nx) (.map [])
theorem xmakeMap_ok:(xmakeMap n s dst).Ok (Step r P w0 X B n s dst (.makeMap t none) ty):=by
  refine newS_ok fun d hd=>?_
  intro ρ L BM M ds a w h ops Q i rest pos af ho K
  refine O.val (w':=w.alloc (.map #[] 0)) h.act ho rfl hd (v:=.map (some w.heap.size)) ?_ fun a' hf'=>?_
  · intro a d pos af g hf
    simp only [execOp]
    exact run_v rfl
  · refine K _ _ _ _ a' _ Env.upd_le (h.new (v:=.map (some w.heap.size)) (p:=mpA w.heap.size []) hf' ((h.st.alloc (.map #[] 0)).conv (i:=0) (p:=pt w.heap.size (.map #[] 0)) (q:=mpA w.heap.size []) rfl (fun h=>⟨#[],0,h,rfl,by simp,by simp⟩) (fun b hb=>hb)) ⟨_,[],Env.upd_self h.dom,.nil,rfl⟩ (.mp (Env.upd_self h.dom)))
def xmapUpd (P:Program) (s:S) (dst:Option Tmp) (t:TypeId) (x y z:Operand):R S:=match dst with
  | some _=>R.fail
  | none=>match mpT P t with
    | none=>R.fail
    | some (_,d,_)=>(getX s x).bind fun u=>(getX s y).bind fun k=>(getX s z).bind fun v=>(R.lift (asC k)).bind fun a=>match u with
      | .mp e=>match lkE s.H e with
        | some (.map l)=>(R.lift (posV d a l 0)).bind fun r=>R.pure ⟨s.fr,setE s.H e (.map (putKV l (.c a) v r)),s.nx,s.df⟩
        | _=>R.fail
      | _=>R.fail
theorem xmapUpd_ok:(xmapUpd P s dst t x y z).Ok (Step r P w0 X B n s dst (.mapUpdate t x y z) ty):=by
  unfold xmapUpd
  split
  · exact R.Ok.fail
  · split
    · exact R.Ok.fail
    · rename_i kt d zv ht
      obtain ⟨e,g1,g2,g3,_⟩:=mpT_spec ht
      refine R.Ok.bind (R.Ok.lift fun u hu=>R.Ok.bind (R.Ok.lift fun k hk=>R.Ok.bind (R.Ok.lift fun v hv=>R.Ok.bind (R.Ok.lift fun a0 ha=>?_))))
      have:=asC_some ha
      subst this
      split
      · rename_i ee
        split
        · rename_i l he
          refine R.Ok.bind (R.Ok.lift fun rr hr=>R.Ok.pure ?_)
          intro ρ L BM M ds a w h ops Q i rest pos af ho K
          obtain ⟨u1,h1,h2⟩:=h.fr.ev hu
          obtain ⟨k1,h3,h4⟩:=h.fr.ev hk
          obtain ⟨v1,h5,h6⟩:=h.fr.ev hv
          obtain ⟨p,h7,b,kvs,h8,h9,rfl⟩:=h.hm.get he
          cases h2 with
          | mp hh =>
            rename_i b0
            rw [hh] at h8; injection h8 with h8; injection h8 with h8; injection h8 with h8; subst h8
            cases h4 with
            | c =>
              obtain ⟨es,c,q1,q2,q3,q4⟩:=h.st.at_ h7
              subst q2
              obtain ⟨es',c',r1,r2,r3,r4⟩:=run_update g1 g2 g3 q1 h9 q3 q4 hr h6
              refine O.unit (w':=SL.putMap w b0 es' c') h.act ho rfl ?_ ?_
              · intro a d pos af g hf
                simp only [execOp,hf.eval h1,hf.eval h3,hf.eval h5]
                exact run_u r1
              · exact K ρ L _ _ a _ (Env.le.refl ρ) (h.setE he ⟨_,_,hh,r2,rfl⟩ h.act (St.mpPut h.st h7 rfl r3 r4))
        · exact R.Ok.fail
      · exact R.Ok.fail
def xmapDel (P:Program) (s:S) (dst:Option Tmp) (at_:List TypeId) (args:List Operand):R S:=match dst,args,at_ with
  | none,[x,y],t::_=>match mpT P t with
    | none=>R.fail
    | some (_,d,_)=>(getX s x).bind fun u=>(getX s y).bind fun k=>(R.lift (asC k)).bind fun a=>match u with
      | .mp e=>match lkE s.H e with
        | some (.map l)=>(R.lift (posV d a l 0)).bind fun r=>R.pure ⟨s.fr,setE s.H e (.map (delKV l r)),s.nx,s.df⟩
        | _=>R.fail
      | _=>R.fail
  | _,_,_=>R.fail
theorem xmapDel_ok {args:Array Operand} {at_:Array TypeId}:(xmapDel P s dst at_.toList args.toList).Ok (Step r P w0 X B n s dst (.call ⟨.builtin .delete,args,at_⟩) ty):=by
  unfold xmapDel
  split
  · rename_i x y t tl hargs hat
    have hat0:at_[0]? = some t:=by rw [← Array.getElem?_toList,hat]; rfl
    have hargs:args=#[x,y]:=by apply Array.ext'; exact hargs
    subst hargs
    split
    · exact R.Ok.fail
    · rename_i kt d zv ht
      obtain ⟨e,g1,g2,g3,_⟩:=mpT_spec ht
      refine R.Ok.bind (R.Ok.lift fun u hu=>R.Ok.bind (R.Ok.lift fun k hk=>R.Ok.bind (R.Ok.lift fun a0 ha=>?_)))
      have:=asC_some ha
      subst this
      split
      · rename_i ee
        split
        · rename_i l he
          refine R.Ok.bind (R.Ok.lift fun rr hr=>R.Ok.pure ?_)
          intro ρ L BM M ds a w h ops Q i rest pos af ho K
          obtain ⟨u1,h1,h2⟩:=h.fr.ev hu
          obtain ⟨k1,h3,h4⟩:=h.fr.ev hk
          obtain ⟨p,h7,b,kvs,h8,h9,rfl⟩:=h.hm.get he
          cases h2 with
          | mp hh =>
            rename_i b0
            rw [hh] at h8; injection h8 with h8; injection h8 with h8; injection h8 with h8; subst h8
            cases h4 with
            | c =>
              obtain ⟨es,c,q1,q2,q3,q4⟩:=h.st.at_ h7
              subst q2
              obtain ⟨es',c',r1,r2,r3,r4⟩:=run_delete (ty0:=ty) g1 g2 g3 hat0 q1 h9 q3 q4 hr
              refine O.val0 (w':=SL.putMap w b0 es' c') (v:=.tuple #[]) h.act ho rfl ?_ ?_
              · intro a d pos af g hf
                refine run_builtin (vs:=[_,_]) hf (by simp [evA,h1,h3]; exact ⟨rfl,rfl⟩) ?_
                simp only [builtin]
                exact run_v r1
              · exact K ρ L _ _ a _ (Env.le.refl ρ) (h.setE he ⟨_,_,hh,r2,rfl⟩ h.act (St.mpPut h.st h7 rfl r3 r4))
        · exact R.Ok.fail
      · exact R.Ok.fail
  · exact R.Ok.fail
end
def Exit.still (Q:Exit→Act→World→Prop):Exit→Act→World→Prop
  | .goto _,_,_=>False
  | e,a,w=>Q e a w
theorem stepR_scope {P:Program} {b:Frame} {a:Act} {k:List Item} {cs:List Frame} {w:World} {c:Code}:step P (lone (b.atR a (.code (.scope c)::k)) cs w)=.next (lone (b.atR a (.code c::.inScope c::k)) cs w) :=
  step_lone_go (by simp [stepG,stepG.exec,Frame.atR])
theorem stepR_inScope {P:Program} {b:Frame} {a:Act} {k:List Item} {cs:List Frame} {w:World} {c:Code}:step P (lone (b.atR a (.inScope c::k)) cs w)=.next (lone (b.atR a k) cs w) :=
  step_lone_go (by simp [stepG,stepG.exec,Frame.atR])
theorem W.scope {r:Option Nat} {P:Program} {Q:Exit→Act→World→Prop} {a:Act} {w:World} {c:Code} (h:W r P c (Exit.still Q) a w):W r P (.scope c) Q a w:=by
  intro b k cs hro hb hr
  have h0:(lone (b.atR a (.code (.scope c)::k)) cs w).fenced P (FW r):=fenced_calm hb hr rfl
  obtain ⟨e,a₁,w₁,hq,harr⟩:=h b (.inScope c::k) cs hro hb hr
  cases e with
  | normal=>exact ⟨.normal,a₁,w₁,hq,.head h0 stepR_scope (StepsIn.trans harr (.one (fenced_calm hb hr rfl) stepR_inScope))⟩
  | exit id =>
    have hx:exitTo id (.inScope c::k)=exitTo id k:=by simp [exitTo]
    exact ⟨.exit id,a₁,w₁,hq,fun k' hk=>.head h0 stepR_scope (harr.1 k' (by rw [hx]; exact hk)),
      fun hr' hk=>let ⟨k₁,h1,h2⟩:=harr.2 hr' (by rw [hx]; exact hk); ⟨k₁,h1,.head h0 stepR_scope h2⟩⟩
  | goto l=>exact hq.elim
  | ret=>exact ⟨_,a₁,w₁,hq,.of_steps (.one h0 stepR_scope) harr⟩
  | panic ch=>exact ⟨_,a₁,w₁,hq,.of_steps (.one h0 stepR_scope) harr⟩
  | outgrown=>exact ⟨_,a₁,w₁,hq,.of_steps (.one h0 stepR_scope) harr⟩
end Go.RX
