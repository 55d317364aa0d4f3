/- Maps whose keys are numbers, strings or truth values: looking up, putting, taking out. -/
import Derived.Test.YtipfobacinmoiaaGreatRX4
import Derived.Test.YtipfobacinmoiaaGreatSL11
import Derived.Test.YtipfobacinmoiaaGreatSL18
set_option linter.unusedVariables false
set_option linter.unusedSimpArgs false
namespace Go.RX
open Go Go.SL
universe u
def asC:V→Option Value
  | .c v=>some v
  | .ag _=>none
  | .tu _=>none
  | .p _ _=>none
  | .q _ _ _ _=>none
  | .sl _=>none
  | .sw _ _ _ _=>none
  | .fn _ _=>none
  | .bf _ _=>none
  | .yd _=>none
  | .mp _=>none
  | .ez=>none
  | .un=>none
inductive Sv where
  | i (k:IntKind) (n:Int)
  | b (x:Bool)
  | s (x:ByteArray)
  | o
def asS:Value→Sv
  | .int k n=>.i k n
  | .bool x=>.b x
  | .string x=>.s x
  | .float _ _=>.o
  | .complex _ _ _=>.o
  | .pointer _=>.o
  | .slice _ _ _=>.o
  | .map _=>.o
  | .chan _=>.o
  | .func _ _ _=>.o
  | .nilFunc=>.o
  | .iface _ _=>.o
  | .nilIface=>.o
  | .agg _=>.o
  | .tuple _=>.o
theorem asC_some {u:V} {v:Value} (h:asC u=some v):u=.c v:=by cases u <;> simp [asC] at h; rw [h]
theorem asS_i {v:Value} {k:IntKind} {n:Int} (h:asS v=.i k n):v=.int k n:=by
  cases v <;> simp [asS] at h; obtain ⟨rfl,rfl⟩:=h; rfl
theorem asS_s {v:Value} {x:ByteArray} (h:asS v=.s x):v=.string x:=by
  cases v <;> simp [asS] at h; subst h; rfl
theorem asS_b {v:Value} {x:Bool} (h:asS v=.b x):v=.bool x:=by
  cases v <;> simp [asS] at h; subst h; rfl
def kNow (d:TypeDesc) (a b:Value):Option Bool:=match asS a with
  | .i k p=>match asS b with
    | .i k' q=>match d with
      | .int _=>match kEq k k' with
        | true=>some (decide (p=q))
        | false=>none
      | _=>none
    | _=>none
  | .s p=>match asS b with
    | .s q=>match d with
      | .string=>some (strEq p q)
      | _=>none
    | _=>none
  | .b p=>match asS b with
    | .b q=>match d with
      | .bool=>some (p == q)
      | _=>none
    | _=>none
  | .o=>none
theorem kNow_ok {d:TypeDesc} {a b:Value} {r:Bool} (h:kNow d a b=some r):Instr.sameNow d a b=some r∧(r=true→a=b∧Instr.sameBits 10000 a b=true):=by
  unfold kNow at h
  split at h
  · rename_i k p ha
    split at h
    · rename_i k' q hb
      split at h
      · split at h
        · rename_i hk
          have:=kEq_ok hk
          subst this
          rw [asS_i ha,asS_i hb]
          simp only [Option.some.injEq] at h
          subst h
          refine ⟨by simp [Instr.sameNow]; rfl,fun hr=>?_⟩
          have:=of_decide_eq_true hr
          subst this
          exact ⟨rfl,by simp [Instr.sameBits]⟩
        · cases h
      · cases h
    · cases h
  · rename_i p ha
    split at h
    · rename_i q hb
      split at h
      · rw [asS_s ha,asS_s hb]
        simp only [Option.some.injEq] at h
        subst h
        refine ⟨by simp only [Instr.sameNow,strEq_eq],fun hr=>?_⟩
        have hpp:(p == p)=true:=by rw [strEq_eq]; simp [strEq]
        have:p=q:=by
          have:=eq_of_beq hr
          obtain ⟨p⟩:=p
          obtain ⟨q⟩:=q
          have e:p=q:=Array.ext' this
          rw [e]
        subst this
        exact ⟨rfl,by simp only [Instr.sameBits]; exact hpp⟩
      · cases h
    · cases h
  · rename_i p ha
    split at h
    · rename_i q hb
      split at h
      · rw [asS_b ha,asS_b hb]
        simp only [Option.some.injEq] at h
        subst h
        refine ⟨by simp [Instr.sameNow],fun hr=>?_⟩
        have:=eq_of_beq hr
        subst this
        exact ⟨rfl,by simp [Instr.sameBits]⟩
      · cases h
    · cases h
  · cases h
def posV (d:TypeDesc) (a:Value):List (V × V)→Nat→Option (Option (Nat × V))
  | [],_=>some none
  | (k,v)::t,i=>match asC k with
    | none=>none
    | some b=>match kNow d a b with
      | none=>none
      | some true=>some (some (i,v))
      | some false=>posV d a t (i+1)
inductive PosR (ρ:Env) (a:Value) (es:List MapEntry) (i:Nat):Option (Nat × V)→Option (Nat × Value)→Prop
  | none:PosR ρ a es i none none
  | some {m v e} (h:es[m]? = Option.some e) (hk:e.key=a) (hb:Instr.sameBits 10000 a a=true) (hv:VR ρ v e.val):PosR ρ a es i (Option.some (i+m,v)) (Option.some (i+m,e.val))
theorem posV_ok {ρ:Env} {d:TypeDesc} {a:Value}:∀ {l:List (V × V)} {es:List MapEntry} {i:Nat} {r:Option (Nat × V)},KVR ρ l (es.map kvE)→posV d a l i=some r→∃ r',Instr.findNow d a es i=some r'∧PosR ρ a es i r r'
  | [],[],i,r,_,h=>by
    simp only [posV,Option.some.injEq] at h
    subst h
    exact ⟨none,rfl,.none⟩
  | [],_::_,_,_,h,_=>by cases h
  | _::_,[],_,_,h,_=>by cases h
  | (k,v)::t,e::es,i,r,h,hp=>by
    simp only [List.map_cons,kvE] at h
    cases h with
    | cons h1 h2 ht =>
      simp only [posV] at hp
      split at hp
      · cases hp
      · rename_i b hb
        have:=asC_some hb
        subst this
        cases h1 with
        | c =>
          split at hp
          · cases hp
          · rename_i hk
            obtain ⟨g1,g2⟩:=kNow_ok hk
            obtain ⟨g2,g3⟩:=g2 rfl
            simp only [Option.some.injEq] at hp
            subst hp
            refine ⟨some (i,e.val),by simp [Instr.findNow,g1],?_⟩
            have:=PosR.some (ρ:=ρ) (a:=a) (es:=e::es) (i:=i) (m:=0) (v:=v) (e:=e) rfl g2.symm (by rw [← g2] at g3; exact g3) h2
            exact this
          · rename_i hk
            obtain ⟨g1,_⟩:=kNow_ok hk
            obtain ⟨r',h3,h4⟩:=posV_ok ht hp
            refine ⟨r',by simp only [Instr.findNow,g1]; exact h3,?_⟩
            cases h4 with
            | none=>exact .none
            | some q1 q2 q3 q4 =>
              rename_i m v e'
              have e1:i+1+m=i+(m+1):=by omega
              rw [e1]
              exact .some (m:=m+1) (by simpa using q1) q2 q3 q4
def mpT (P:Program) (t:TypeId):Option (TypeId × TypeDesc × Value):=match P.underlying t with
  | some (.map k e)=>match P.underlying k with
    | some d=>match d with
      | .int _=>(tZero P e).map fun z=>(k,d,z)
      | .string=>(tZero P e).map fun z=>(k,d,z)
      | .bool=>(tZero P e).map fun z=>(k,d,z)
      | _=>none
    | none=>none
  | _=>none
def simpK:TypeDesc→Bool
  | .int _=>true
  | .string=>true
  | .bool=>true
  | _=>false
theorem mpT_spec {P:Program} {t kt:TypeId} {d:TypeDesc} {z:Value} (h:mpT P t=some (kt,d,z)):∃ e,P.underlying t=some (.map kt e)∧P.underlying kt=some d∧simpK d=true∧tZero P e=some z:=by
  unfold mpT at h
  split at h
  · rename_i k e hu
    split at h
    · rename_i d' hd
      split at h <;> first | (cases h; done) | (
        obtain ⟨z',hz,h1⟩:=Option.map_eq_some_iff.1 h
        simp only [Prod.mk.injEq] at h1
        obtain ⟨rfl,rfl,rfl⟩:=h1
        exact ⟨e,hu,hd,rfl,hz⟩)
    · cases h
  · cases h
theorem run_ckey {P:Program} {w:World} {kt:TypeId} {d:TypeDesc} {a:Value} (hk:P.underlying kt=some d) (hs:simpK d=true) (b:Bool):(Instr.checkKey b 10000 kt a).run P w=.ok () w:=by
  unfold Instr.checkKey
  simp only [Sem.run_bind,run_underlying hk]
  cases d <;> first | (cases hs; done) | rfl
theorem run_fkey {P:Program} {w:World} {kt:TypeId} {d:TypeDesc} {a:Value} {es:List MapEntry} {r:Option (Nat × Value)} (hk:P.underlying kt=some d) (h:Instr.findNow d a es 0=some r):(Instr.findKey kt a es).run P w=.ok r w:=by
  unfold Instr.findKey
  simp only [Sem.run_bind,run_underlying hk,Result.andThen,h]
  rfl
section
variable {P:Program} {ρ:Env} {B:List (Nat × Ent)} {s:S} {L:List (Nat × Value)} {w:World} {op:Op} {ty t kt:TypeId} {x y z:Operand} {d:TypeDesc} {zv:Value}
def mapOf (B:List (Nat × Ent)) (s:S):V→Option (List (V × V))
  | .mp e=>match rdA s B e with
    | some (.map l)=>some l
    | _=>none
  | .c (.map none)=>some []
  | _=>none
def comV (c:Bool) (v:V) (ok:Bool):V:=match c with
  | true=>.tu [v,.c (.bool ok)]
  | false=>v
def xlookup (P:Program) (B:List (Nat × Ent)) (s:S) (t:TypeId) (c:Bool) (u k:V):R V:=match mpT P t with
  | none=>R.fail
  | some (_,d,zv)=>(R.lift (mapOf B s u)).bind fun l=>(R.lift (asC k)).bind fun a=>(R.lift (posV d a l 0)).bind fun r=>match r with
    | some (_,v)=>R.pure (comV c v true)
    | none=>R.pure (comV c (toV zv) false)
theorem comV_ok {c:Bool} {u:V} {v:Value} {ok:Bool} (h:VR ρ u v):VR ρ (comV c u ok) (if c then .tuple #[v,.bool ok] else v):=by
  cases c with
  | false=>exact h
  | true=>exact .tu (cs:=[v,.bool ok]) (.cons h (.cons .c .nil))
theorem mapOf_ok {u:V} {v:Value} {l:List (V × V)} (h:Sees ρ B s L w) (hu:VR ρ u v) (hm:mapOf B s u=some l):(v=.map none∧l=[])∨∃ b es clock,v=.map (some b)∧w.heap[b]? = some (.map es clock)∧KVR ρ l (es.toList.map kvE):=by
  unfold mapOf at hm
  split at hm
  · rename_i e
    split at hm
    · rename_i l' hr
      simp only [Option.some.injEq] at hm
      subst hm
      obtain ⟨b,kvs,h1,h2,es,c,h3,h4,_,_⟩:=h.en e _ hr
      cases hu with
      | mp hh =>
        rw [hh] at h1; injection h1 with h1; injection h1 with h1; injection h1 with h1; subst h1
        exact .inr ⟨_,es,c,rfl,h3,by rw [h4]; exact h2⟩
    · cases hm
  · simp only [Option.some.injEq] at hm
    subst hm
    cases hu with
    | c=>exact .inl ⟨rfl,rfl⟩
  · cases hm
theorem xlookup_ok {c:Bool} {u' k':V} {u k:Value} (h:Sees ρ B s L w) (hx:ev L x=some u) (hy:ev L y=some k) (hu:VR ρ u' u) (hk:VR ρ k' k):(xlookup P B s t c u' k').Ok (Gives P ρ L (.lookup t x y c) ty w):=by
  unfold xlookup
  split
  · exact R.Ok.fail
  · rename_i kt d zv ht
    obtain ⟨e,h1,h2,h3,h4⟩:=mpT_spec ht
    refine R.Ok.bind (R.Ok.lift fun l hl=>R.Ok.bind (R.Ok.lift fun a ha=>R.Ok.bind (R.Ok.lift fun r hr=>?_)))
    have:=asC_some ha
    subst this
    cases hk with
    | c =>
      rcases mapOf_ok h hu hl with ⟨rfl,rfl⟩ | ⟨b,es,cl,rfl,h5,h6⟩
      · simp only [posV,Option.some.injEq] at hr
        subst hr
        refine R.Ok.pure ⟨_,comV_ok (toV_ok zv),fun n ds a' d' pos af g hf=>?_⟩
        simp only [execOp,hf.eval hx,hf.eval hy]
        refine run_v ?_
        unfold Instr.lookup
        simp only [Sem.run_bind,run_underlying h1,Result.andThen,Sem.run_pure,run_ckey h2 h3,run_fkey (es:=[]) (r:=none) h2 rfl,run_zero h4]
        try (cases c <;> rfl)
      · obtain ⟨r',g1,g2⟩:=posV_ok h6 hr
        cases g2 with
        | none =>
          refine R.Ok.pure ⟨_,comV_ok (toV_ok zv),fun n ds a' d' pos af g hf=>?_⟩
          simp only [execOp,hf.eval hx,hf.eval hy]
          refine run_v ?_
          unfold Instr.lookup
          simp only [Sem.run_bind,run_underlying h1,Result.andThen,MapKept.run_getObj_map h5,Sem.run_pure,run_ckey h2 h3,run_fkey h2 g1,run_zero h4]
          try (cases c <;> rfl)
        | some q1 q2 q3 q4 =>
          refine R.Ok.pure ⟨_,comV_ok q4,fun n ds a' d' pos af g hf=>?_⟩
          simp only [execOp,hf.eval hx,hf.eval hy]
          refine run_v ?_
          unfold Instr.lookup
          simp only [Sem.run_bind,run_underlying h1,Result.andThen,MapKept.run_getObj_map h5,Sem.run_pure,run_ckey h2 h3,run_fkey h2 g1]
          try (cases c <;> rfl)
end
section
variable {P:Program} {ρ:Env} {B:List (Nat × Ent)} {s:S} {L:List (Nat × Value)} {w:World} {ty t t' e:TypeId} {x y:Operand} {bo:BinOp}
def isNilC (v:Value):Bool:=match v with
  | .slice none 0 0=>true
  | _=>false
def nonEmp:Ent→Option Bool
  | .arr _ _ xs=>match xs.length with
    | 0=>none
    | _+1=>some false
  | _=>none
def isNilS (B:List (Nat × Ent)) (s:S):V→Option Bool
  | .c (.slice none _ _)=>some true
  | .sl e=>(rdA s B e).bind nonEmp
  | .sw e _ _ _=>(rdA s B e).bind nonEmp
  | _=>none
def xnilB (P:Program) (B:List (Nat × Ent)) (s:S) (t:TypeId) (op:BinOp) (u:V):R V:=match tElem P t with
  | none=>R.fail
  | some _=>match op with
    | .eql=>(R.lift (isNilS B s u)).bind fun b=>R.pure (.c (.bool b))
    | .neq=>(R.lift (isNilS B s u)).bind fun b=>R.pure (.c (.bool (!b)))
    | _=>R.fail
def xbinM (P:Program) (B:List (Nat × Ent)) (s:S) (t:TypeId) (op:BinOp) (u v:V):R V:=match asC v with
  | none=>xbin P t op u v
  | some c=>match isNilC c with
    | true=>xnilB P B s t op u
    | false=>xbin P t op u v
theorem isNilS_ok {u':V} {u:Value} {b:Bool} (h:Sees ρ B s L w) (hu:VR ρ u' u) (hb:isNilS B s u'=some b):∃ A n c,u=.slice A n c∧A.isNone=b:=by
  have key:∀ {e:Nat} {v:Value},(rdA s B e).bind nonEmp=some b→ρ e=some v→isSlN v=true∧b=false:=fun {e v} h1 h2=>by
    obtain ⟨ent,h3,h4⟩:=Option.bind_eq_some_iff.1 h1
    cases ent with
    | arr ty k xs =>
      simp only [nonEmp] at h4
      split at h4
      · cases h4
      · rename_i m hm
        simp only [Option.some.injEq] at h4
        obtain ⟨v',ys,h5,h6,h7⟩:=h.en e _ h3
        rw [h2] at h5; injection h5 with h5; subst h5
        exact ⟨slN_of h7 (by rw [← h6.len]; exact Nat.lt_of_lt_of_eq (Nat.succ_pos m) hm.symm),h4.symm⟩
    | _=>cases h4
  unfold isNilS at hb
  split at hb
  · simp only [Option.some.injEq] at hb
    subst hb
    cases hu; exact ⟨none,_,_,rfl,rfl⟩
  · cases hu with
    | sl he hs =>
      obtain ⟨h1,rfl⟩:=key hb he
      obtain ⟨g,o,n,c,rfl,_⟩:=isSlN_ix h1
      exact ⟨_,_,_,rfl,rfl⟩
  · cases hu with
    | sw he hs =>
      obtain ⟨h1,rfl⟩:=key hb he
      obtain ⟨g,o,n,c,rfl,_⟩:=isSlN_ix h1
      simp only [vsub]
      exact ⟨_,_,_,rfl,by split <;> rfl⟩
  · cases hb
theorem xbinM_ok {u' v':V} {u v:Value} (h:Sees ρ B s L w) (hx:ev L x=some u) (hy:ev L y=some v) (hu:VR ρ u' u) (hv:VR ρ v' v):(xbinM P B s t bo u' v').Ok (Gives P ρ L (.binOp bo t x y t') ty w):=by
  unfold xbinM
  split
  · exact xbin_ok hx hy hu hv
  · rename_i c hc
    split
    · rename_i hn
      have:=asC_some hc
      subst this
      cases hv
      have hnil:v=.slice none 0 0:=by
        unfold isNilC at hn
        split at hn
        · rfl
        · cases hn
      subst hnil
      unfold xnilB
      split
      · exact R.Ok.fail
      · rename_i e ht
        split
        · refine R.Ok.bind (R.Ok.lift fun b hb=>?_)
          obtain ⟨A,n,c,rfl,rfl⟩:=isNilS_ok h hu hb
          refine pure_c fun n' ds a d pos af g hf=>?_
          simp only [execOp,hf.eval hx,hf.eval hy]
          have e1:(eqGuard .eql t x y (.slice A n c) (.slice none 0 0)).run P w=.ok () w:=by simp [eqGuard]
          have e2:=run_eqSl (P:=P) (w:=w) (u:=.slice none 0 0) (n:=n) (c:=c) (A:=A) ht rfl rfl rfl
          simp only [Sem.run_bind,e1,e2,Result.andThen_ok,Sem.run_pure]
        · refine R.Ok.bind (R.Ok.lift fun b hb=>?_)
          obtain ⟨A,n,c,rfl,rfl⟩:=isNilS_ok h hu hb
          refine pure_c fun n' ds a d pos af g hf=>?_
          simp only [execOp,hf.eval hx,hf.eval hy]
          have e1:(eqGuard .neq t x y (.slice A n c) (.slice none 0 0)).run P w=.ok () w:=by simp [eqGuard]
          have e2:(binOp .neq t (.slice A n c) (.slice none 0 0)).run P w=.ok (.bool (!A.isNone)) w:=by
            have:=(EqR.sl (d:=9999) ht:EqR P 10000 t (.slice A n c) (.slice none 0 0) A.isNone) w
            simp only [binOp,Op.equal,Op.maxDepth,Sem.run_bind,this,Result.andThen_ok,Sem.run_pure]
          simp only [Sem.run_bind,e1,e2,Result.andThen_ok,Sem.run_pure]
        · exact R.Ok.fail
    · exact xbin_ok hx hy hu hv
end
section
variable {P:Program} {ρ:Env} {w:World} {t kt e:TypeId} {d:TypeDesc} {b:Nat} {a v:Value} {l:List (V × V)} {es:Array MapEntry} {clock:Nat}
theorem KVR.get:∀ {l:List (V × V)} {m:List (Value × Value)} {i:Nat} {x:Value × Value},KVR ρ l m→m[i]? = some x→∃ u,l[i]? = some u∧VR ρ u.1 x.1∧VR ρ u.2 x.2
  | _,_,_,_,.nil,h=>by simp at h
  | _,_,0,x,.cons a b t,h=>by
    simp only [List.getElem?_cons_zero,Option.some.injEq] at h
    subst h; exact ⟨_,rfl,a,b⟩
  | _,_,i+1,x,.cons a b t,h=>by
    simp only [List.getElem?_cons_succ] at h
    obtain ⟨u,h1,h2⟩:=KVR.get t h
    exact ⟨u,by simpa using h1,h2⟩
theorem KVR.snoc {k u:V} {k' v':Value} (hk:VR ρ k k') (hv:VR ρ u v'):∀ {l m},KVR ρ l m→KVR ρ (l++[(k,u)]) (m++[(k',v')])
  | _,_,.nil=>.cons hk hv .nil
  | _,_,.cons a b t=>.cons a b (KVR.snoc hk hv t)
theorem KVR.set {k u:V} {k' v':Value} (hk:VR ρ k k') (hv:VR ρ u v'):∀ {l m} (i:Nat),KVR ρ l m→KVR ρ (l.set i (k,u)) (m.set i (k',v'))
  | _,_,_,.nil=>.nil
  | _,_,0,.cons a b t=>.cons hk hv t
  | _,_,i+1,.cons a b t=>.cons a b (KVR.set hk hv i t)
theorem KVR.erase:∀ {l:List (V × V)} {m:List (Value × Value)} (i:Nat),KVR ρ l m→KVR ρ (l.eraseIdx i) (m.eraseIdx i)
  | _,_,_,.nil=>.nil
  | _,_,0,.cons a b t=>t
  | _,_,i+1,.cons a b t=>.cons a b (KVR.erase i t)
def putKV (l:List (V × V)) (k v:V):Option (Nat × V)→List (V × V)
  | some (i,_)=>l.set i (k,v)
  | none=>l++[(k,v)]
def delKV (l:List (V × V)):Option (Nat × V)→List (V × V)
  | some (i,_)=>l.eraseIdx i
  | none=>l
theorem run_update {u:V} {r:Option (Nat × V)} (h1:P.underlying t=some (.map kt e)) (h2:P.underlying kt=some d) (h3:simpK d=true) (h5:w.heap[b]? = some (.map es clock)) (h6:KVR ρ l (es.toList.map kvE)) (h7:∀ x ∈ es.toList,x.born<clock) (h8:(es.toList.map (·.born)).Nodup)
    (hr:posV d a l 0=some r) (hv:VR ρ u v):∃ es' c',(Instr.mapUpdate t (.map (some b)) a v).run P w=.ok () (SL.putMap w b es' c')∧KVR ρ (putKV l (.c a) u r) (es'.toList.map kvE)∧(∀ x ∈ es'.toList,x.born<c')∧(es'.toList.map (·.born)).Nodup:=by
  obtain ⟨r',g1,g2⟩:=posV_ok h6 hr
  cases g2 with
  | none =>
    refine ⟨es.push { key:=a,val:=v,born:=clock },clock+1,?_,?_,fun x hx=>?_,?_⟩
    · unfold Instr.mapUpdate
      simp only [Sem.run_bind,run_underlying h1,Result.andThen,MapKept.run_getObj_map h5,run_ckey h2 h3,run_fkey h2 g1,MapKept.run_setObj_map _ h5]
      rfl
    · simp only [putKV,Array.toList_push,List.map_append,List.map_cons,List.map_nil]
      exact h6.snoc .c hv
    · simp only [Array.toList_push,List.mem_append,List.mem_singleton] at hx
      rcases hx with hx | rfl
      · have:=h7 x hx; omega
      · exact Nat.lt_succ_self _
    · simp only [Array.toList_push,List.map_append,List.map_cons,List.map_nil]
      rw [List.nodup_append]
      refine ⟨h8,by simp,fun x hx y hy=>?_⟩
      simp only [List.mem_singleton] at hy
      subst hy
      obtain ⟨e,he,rfl⟩:=List.mem_map.1 hx
      have:=h7 e he; omega
  | some q1 q2 q3 q4 =>
    rename_i m v0 e0
    rw [Nat.zero_add] at g1
    have hm:es[m]? = some e0:=by simpa using q1
    have hmod:(es.modify m fun e=>{ e with key:=a,val:=v }).toList=es.toList.set m { e0 with key:=a,val:=v }:=by
      apply List.ext_getElem?
      intro j
      rw [Array.getElem?_toList,Array.getElem?_modify,List.getElem?_set]
      by_cases hj:m=j
      · subst hj
        have hl:m<es.toList.length:=by simpa using (Array.getElem?_eq_some_iff.1 hm).1
        have hl':m<es.size:=by simpa using hl
        rw [hm]
        simp only [if_true,Option.map_some]
        rw [if_pos hl]
      · simp [hj]
    refine ⟨es.modify m fun e=>{ e with key:=a,val:=v },clock,?_,?_,fun x hx=>?_,?_⟩
    · unfold Instr.mapUpdate
      simp only [Sem.run_bind,run_underlying h1,Result.andThen,MapKept.run_getObj_map h5,run_ckey h2 h3,run_fkey h2 g1,hm,Option.map_some,Option.getD_some,q2,Instr.keyThatStays,q3,if_true,Sem.run_pure,MapKept.run_setObj_map _ h5]
      rfl
    · rw [hmod,List.map_set]
      simp only [putKV,Nat.zero_add]
      exact h6.set .c hv m
    · rw [hmod] at hx
      rcases List.mem_or_eq_of_mem_set hx with hx | rfl
      · exact h7 x hx
      · exact h7 e0 (List.mem_of_getElem? q1)
    · rw [hmod,List.map_set]
      have:(es.toList.map (·.born)).set m e0.born=es.toList.map (·.born):=by
        apply List.ext_getElem?
        intro j
        rw [List.getElem?_set]
        by_cases hj:m=j
        · subst hj
          have hl:m<es.toList.length:=by simpa using (Array.getElem?_eq_some_iff.1 hm).1
          simp only [List.length_map,hl,if_true,List.getElem?_map,q1,Option.map_some]
        · simp [hj]
      show ((es.toList.map (·.born)).set m e0.born).Nodup
      rw [this]; exact h8
theorem run_delete {aty:Array TypeId} {ty0:TypeId} {r:Option (Nat × V)} (h1:P.underlying t=some (.map kt e)) (h2:P.underlying kt=some d) (h3:simpK d=true) (hat:aty[0]? = some t) (h5:w.heap[b]? = some (.map es clock)) (h6:KVR ρ l (es.toList.map kvE)) (h7:∀ x ∈ es.toList,x.born<clock) (h8:(es.toList.map (·.born)).Nodup)
    (hr:posV d a l 0=some r):∃ es' c',(Builtin.delete_ aty ty0 #[.map (some b),a]).run P w=.ok (.tuple #[]) (SL.putMap w b es' c')∧KVR ρ (delKV l r) (es'.toList.map kvE)∧(∀ x ∈ es'.toList,x.born<c')∧(es'.toList.map (·.born)).Nodup:=by
  obtain ⟨r',g1,g2⟩:=posV_ok h6 hr
  cases g2 with
  | none =>
    refine ⟨es,clock,?_,h6,h7,h8⟩
    unfold Builtin.delete_
    simp only [hat,List.getElem?_toArray,List.getElem?_cons_zero,List.getElem?_cons_succ,Sem.run_bind,run_underlying h1,Result.andThen,MapKept.run_getObj_map h5,run_ckey h2 h3,run_fkey h2 g1,MapKept.run_setObj_map _ h5]
    rfl
  | some q1 q2 q3 q4 =>
    rename_i m v0 e0
    rw [Nat.zero_add] at g1
    have hsz:m<es.size:=by simpa using (List.getElem?_eq_some_iff.1 q1).1
    have e1:(es.eraseIdxIfInBounds m).toList=es.toList.eraseIdx m:=by simp [Array.eraseIdxIfInBounds,hsz]
    refine ⟨es.eraseIdxIfInBounds m,clock,?_,?_,fun x hx=>?_,?_⟩
    · unfold Builtin.delete_
      simp only [hat,List.getElem?_toArray,List.getElem?_cons_zero,List.getElem?_cons_succ,Sem.run_bind,run_underlying h1,Result.andThen,MapKept.run_getObj_map h5,run_ckey h2 h3,run_fkey h2 g1,MapKept.run_setObj_map _ h5]
      rfl
    · rw [e1,map_eraseIdx]
      simp only [delKV,Nat.zero_add]
      exact h6.erase m
    · rw [e1] at hx; exact h7 x (List.mem_of_mem_eraseIdx hx)
    · rw [e1,map_eraseIdx]; exact h8.sublist (List.eraseIdx_sublist _ _)
end
end Go.RX
