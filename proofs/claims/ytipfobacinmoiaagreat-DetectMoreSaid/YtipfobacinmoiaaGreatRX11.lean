/- Regions whose order is drawn: the reckoner runs each operation over what it touches, and looks that the order does not matter. -/
import Derived.Test.YtipfobacinmoiaaGreatRX10
set_option linter.unusedVariables false
set_option linter.unusedSimpArgs false
namespace Go.RX
open Go Go.SL
universe u u'
def dd:List Nat→List Nat
  | []=>[]
  | k::t=>match (dd t).contains k with
    | true=>dd t
    | false=>k::dd t
theorem dd_nodup:∀ l:List Nat,nodupB (dd l)=true
  | []=>rfl
  | k::t=>by
    simp only [dd]
    split
    · exact dd_nodup t
    · rename_i h
      simp only [nodupB,h,Bool.not_false,Bool.true_and]
      exact dd_nodup t
theorem mem_dd {e:Nat}:∀ {l:List Nat},e ∈ dd l↔e ∈ l
  | []=>Iff.rfl
  | k::t=>by
    simp only [dd]
    split
    · rename_i h
      rw [mem_dd,List.mem_cons]
      refine ⟨fun h1=>.inr h1,fun h1=>?_⟩
      rcases h1 with rfl | h1
      · exact mem_dd.1 (by simpa using h)
      · exact h1
    · simp only [List.mem_cons,mem_dd]
def tmpsOf (ops:Array Oper) (o:Oper):List Nat :=
  (match o.guard with
    | some (j,_)=>match dstOf ops j with
      | some d=>[d]
      | none=>[]
    | none=>[])++o.op.operands.toList.filterMap fun x=>match x with
    | .tmp t=>some t
    | _=>none
def oldB (ops:Array Oper) (i q:Nat):Bool:=(List.range ops.size).all fun j=>match dstOf ops j with
  | some d=>!Nat.beq d q||Nat.beq j i||(preB ops j).contains i
  | none=>true
def findP (ops:Array Oper) (q:Nat):List Nat→Option Nat
  | []=>none
  | p::t=>match dstOf ops p with
    | some d=>match Nat.beq d q with
      | true=>some p
      | false=>findP ops q t
    | none=>findP ops q t
def slotV (s:S) (ops:Array Oper) (done:List OpR) (i q:Nat):Option V:=match findP ops q (predsAt ops i) with
  | some p=>(done[p]?).bind (·.v)
  | none=>match oldB ops i q with
    | true=>lkV s.fr q
    | false=>none
def ownIds (wrF:FuncId→Bool) (all:List Nat) (fr:Fm) (o:Op):List Nat:=match o with
  | .store _ x _=>match xev fr x with
    | some u=>dd (idsV u)
    | none=>[]
  | .mapUpdate _ x _ _=>match xev fr x with
    | some u=>dd (idsV u)
    | none=>[]
  | .call ⟨.builtin .delete,args,_⟩=>match args.toList with
    | x::_=>match xev fr x with
      | some u=>dd (idsV u)
      | none=>[]
    | []=>[]
  | .call ⟨.builtin .append,args,_⟩=>match args.toList with
    | x::_=>match xev fr x with
      | some u=>dd (idsV u)
      | none=>[]
    | []=>[]
  | .call ⟨.builtin .copy,args,_⟩=>match args.toList with
    | x::_=>match xev fr x with
      | some u=>dd (idsV u)
      | none=>[]
    | []=>[]
  | .call ⟨.value f,_,_⟩=>match xev fr f with
    | some (.fn fid _)=>match wrF fid with
      | true=>all
      | false=>[]
    | some (.bf fid _)=>match wrF fid with
      | true=>all
      | false=>[]
    | some (.yd _)=>all
    | _=>[]
  | _=>[]
def pairB (ops:Array Oper) (i:Nat) (a:OpR) (j:Nat) (b:OpR):Bool :=
  (preB ops j).contains i||((b.own++b.ro).all (fun e=>!a.touch e)&&b.own.all (fun e=>!a.ro.contains e))
def pairsB1 (ops:Array Oper) (i:Nat) (a:OpR):Nat→List OpR→Bool
  | _,[]=>true
  | j,b::t=>pairB ops i a j b&&pairsB1 ops i a (j+1) t
def pairsB (ops:Array Oper):Nat→List OpR→Bool
  | _,[]=>true
  | i,a::t=>pairsB1 ops i a (i+1) t&&pairsB ops (i+1) t
theorem pairsB1_ok {ops:Array Oper} {i:Nat} {a:OpR}:∀ {t:List OpR} {j:Nat},pairsB1 ops i a j t=true→∀ k b,t[k]? = some b→pairB ops i a (j+k) b=true
  | [],_,_,k,b,h=>by simp at h
  | b0::t,j,h,k,b,hk=>by
    simp only [pairsB1,Bool.and_eq_true] at h
    cases k with
    | zero=>simp only [List.getElem?_cons_zero,Option.some.injEq] at hk; subst hk; exact h.1
    | succ k =>
      simp only [List.getElem?_cons_succ] at hk
      have:=pairsB1_ok h.2 k b hk
      rw [← this]; congr 1; omega
theorem pairsB_ok {ops:Array Oper}:∀ {t:List OpR} {i:Nat},pairsB ops i t=true→∀ k l a b,t[k]? = some a→t[l]? = some b→k<l→pairB ops (i+k) a (i+l) b=true
  | [],_,_,k,l,a,b,h,_,_=>by simp at h
  | a0::t,i,h,k,l,a,b,hk,hl,hlt=>by
    simp only [pairsB,Bool.and_eq_true] at h
    cases l with
    | zero=>omega
    | succ l =>
      simp only [List.getElem?_cons_succ] at hl
      cases k with
      | zero =>
        simp only [List.getElem?_cons_zero,Option.some.injEq] at hk
        subst hk
        have:=pairsB1_ok h.1 l b hl
        rw [← this]; congr 1; omega
      | succ k =>
        simp only [List.getElem?_cons_succ] at hk
        have:=pairsB_ok h.2 k l a b hk hl (by omega)
        rw [← this]; congr 1 <;> omega
def memK:Op→Bool
  | .move _=>false
  | .assign _=>false
  | .binOp _ _ _ _ _=>false
  | .unOp _ _ _=>false
  | .convert _ _ _=>false
  | .extract _ _=>false
  | .field _ _ _=>false
  | .fieldAddr _ _ _=>false
  | .nilCheck _=>false
  | .index _ _ _=>false
  | .alloc _=>false
  | _=>true
structure Good (P:Program) (B:List (Nat × Ent)) (n:Nat) (ops:Array Oper) (s:S) (done:List OpR) (o:Oper) (r:OpR):Prop where
  st:∃ (fr:Fm) (s':S),(∀ q u,lkV fr q=some u→slotV s ops done done.length q=some u)∧(∀ r0 w0 X,StepO r0 P w0 X (pick (ver s done allT) r.ro++B) n ops ⟨fr,pick (ver s done allT) r.own,r.nx,s.df⟩ o s')∧s'.H=r.aft∧s'.nx=r.nx'∧s'.df=s.df∧∀ d,o.dst=some d→∃ u,r.v=some u∧lkV s'.fr d=some u
  nx:r.nx=curNx s done
  le:r.nx≤r.nx'
  nd:nodupB r.own=true∧nodupB r.ro=true
  lt:∀ e,e ∈ r.own∨e ∈ r.ro→e<r.nx
  ks:∀ e,e ∈ keysE r.aft→r.touch e=true
  dj:∀ e,e ∈ r.ro→e ∉ r.own
structure AccD where
  mf:Fm
  H:List (Nat × Ent)
  nx:Nat
  rs:List OpR
  qt:Bool
  df:List Df
def dfEq:List Df→List Df→Bool
  | [],[]=>true
  | .mark e::t,.mark e'::t'=>Nat.beq e e'&&dfEq t t'
  | _,_=>false
theorem dfEq_ok:∀ {l m:List Df},dfEq l m=true→l=m
  | [],[],_=>rfl
  | [],_::_,h=>by cases h
  | .call _ _::_,_,h=>by cases h
  | .mark _::_,[],h=>by cases h
  | .mark _::_,.call _ _::_,h=>by cases h
  | .mark e::t,.mark e'::t',h=>by
    simp only [dfEq,Bool.and_eq_true] at h
    rw [Nat.eq_of_beq_eq_true h.1,dfEq_ok h.2]
structure HFr where
  run:Fm→Fm
  vals:Fm→List V
def hfr:List Nat→HFr
  | []=>⟨fun _=>.e,fun _=>[]⟩
  | q::t=>⟨fun mf=>match (slot 6 q).get mf with
    | some u=>(slot 6 q).put ((hfr t).run mf) u
    | none=>(hfr t).run mf,fun mf=>match (slot 6 q).get mf with
    | some u=>u::(hfr t).vals mf
    | none=>(hfr t).vals mf⟩
def okQ (ops:Array Oper) (i q:Nat):Bool:=match findP ops q (predsAt ops i) with
  | some p=>Nat.blt p i
  | none=>oldB ops i q&&(List.range i).all fun j=>match dstOf ops j with
    | some d=>!Nat.beq d q
    | none=>true
def idsD (wrF:FuncId→Bool) (o:Op) (get:Nat→Option Ent) (fr:Fm) (vs:List V):List Nat × List Nat:=match o with
  | .call ⟨.value _,_,_⟩=>(fun all=>(fun own=>(own,all.filter fun e=>!own.contains e)) (ownIds wrF all fr o)) (clos get 1000 (idsL vs) [])
  | _=>(fun all=>(fun own=>(own,all.filter fun e=>!own.contains e)) (ownIds wrF all fr o)) (dd (idsL vs))
structure HDr where
  run:List (Nat × Ent)→Tab→AccD→R AccD
def dstV (fr:Fm) (d:Option Tmp):Option (Option V):=match d with
  | none=>some none
  | some d=>match lkV fr d with
    | some u=>some (some u)
    | none=>none
def putD (mf:Fm) (d:Option Tmp) (v:Option V):Fm:=match d with
  | none=>mf
  | some d=>match v with
    | some u=>putV mf d u
    | none=>mf
def fitB (z:AccD) (own ro:List Nat):Bool:=nodupB own&&(nodupB ro&&((own++ro).all (fun e=>Nat.blt e z.nx)&&ro.all (fun e=>!own.contains e)))
def fitA (z:AccD) (own:List Nat) (s':S):Bool:=Nat.ble z.nx s'.nx&&(keysE s'.H).all fun e=>own.contains e||(Nat.ble z.nx e&&Nat.blt e s'.nx)
def accD (z:AccD) (own ro:List Nat) (s':S) (d:Option Tmp) (v:Option V):AccD:=match z with
  | ⟨mf,H,nx,rs,qt,df⟩=>match s' with
    | ⟨_,H',nx',_⟩=>match own,Nat.beq nx nx' with
      | [],true=>⟨putD mf d v,H,nx',⟨[],ro,nx,nx',v,H'⟩::rs,qt,df⟩
      | [],false=>⟨putD mf d v,H'++H,nx',⟨[],ro,nx,nx',v,H'⟩::rs,false,df⟩
      | _,_=>⟨putD mf d v,H'++H.filter (fun p=>!(⟨own,ro,nx,nx',v,H'⟩:OpR).touch p.1),nx',⟨own,ro,nx,nx',v,H'⟩::rs,false,df⟩
def endD (z:AccD) (own ro:List Nat) (d:Option Tmp) (s':S):R AccD:=match fitA z own s' with
  | false=>R.fail
  | true=>match dfEq s'.df z.df with
    | false=>R.fail
    | true=>match dstV s'.fr d with
      | none=>R.fail
      | some v=>R.pure (accD z own ro s' d v)
def hdM (P:Program) (n:Nat) (ops:Array Oper) (o:Oper) (B:List (Nat × Ent)) (T:Tab) (z:AccD) (fr:Fm):List Nat × List Nat→R AccD
  | (own,ro)=>match fitB z own ro with
    | false=>R.fail
    | true=>((hoper P n ops o).run (pick (lkE z.H) ro++B) T ⟨fr,pick (lkE z.H) own,z.nx,z.df⟩).bind (endD z own ro o.dst)
def hd1 (P:Program) (wrF:FuncId→Bool) (n:Nat) (ops:Array Oper) (i:Nat) (o:Oper):HDr:=match (tmpsOf ops o).all (okQ ops i) with
  | false=>⟨fun _ _ _=>R.fail⟩
  | true=>match memK o.op with
    | false=>⟨fun B T z=>match z with
      | ⟨mf,H,nx,rs,qt,df⟩=>((hoper P n ops o).run B T ⟨(hfr (tmpsOf ops o)).run mf,[],nx,df⟩).bind (endD ⟨mf,H,nx,rs,qt,df⟩ [] [] o.dst)⟩
    | true=>⟨fun B T z=>(fun fr=>hdM P n ops o B T z fr (idsD wrF o.op (lkE z.H) fr ((hfr (tmpsOf ops o)).vals z.mf))) ((hfr (tmpsOf ops o)).run z.mf)⟩
def hdL (P:Program) (wrF:FuncId→Bool) (n:Nat) (ops:Array Oper):Nat→List Oper→HDr
  | _,[]=>⟨fun _ _ z=>R.pure z⟩
  | i,o::t=>⟨fun B T z=>((hd1 P wrF n ops i o).run B T z).bind fun z'=>(hdL P wrF n ops (i+1) t).run B T z'⟩
def decrB1:Nat→List (Nat × Ent)→Bool
  | _,[]=>true
  | k,(e,_)::t=>match Nat.blt e k with
    | true=>decrB1 e t
    | false=>false
def decrB:List (Nat × Ent)→Bool
  | []=>true
  | (e,_)::t=>decrB1 e t
def boundB (nx:Nat):List (Nat × Ent)→Bool
  | []=>true
  | (k,_)::t=>match Nat.blt k nx with
    | true=>boundB nx t
    | false=>false
theorem boundB_ok {nx:Nat}:∀ {H:List (Nat × Ent)},boundB nx H=true→∀ e,e ∈ keysE H→e<nx
  | [],_,e,he=>by cases he
  | (k,x)::t,h,e,he=>by
    simp only [boundB] at h
    split at h
    · rename_i hb
      simp only [keysE,List.map_cons,List.mem_cons] at he
      rcases he with rfl | he
      · simpa using hb
      · exact boundB_ok h e he
    · cases h
def endH (H:List (Nat × Ent)):List (Nat × Ent):=match decrB H with
  | true=>H
  | false=>pick (lkE H) (dd (keysE H))
def hdraw (P:Program) (wrF:FuncId→Bool) (n:Nat) (ops:Array Oper):HO:=match P.follows .mixedOrders&&ordB ops&&ops.all (fun o=>noDefer o.op)&&distinctDst ops [] with
  | false=>⟨fun _ _ _=>R.fail⟩
  | true=>⟨fun B T s=>match dfEq s.df s.df&&boundB s.nx s.H with
    | false=>R.fail
    | true=>((hdL P wrF n ops 0 ops.toList).run B T ⟨s.fr,s.H,s.nx,[],true,s.df⟩).bind fun z=>match z.qt||pairsB ops 0 z.rs.reverse with
      | false=>R.fail
      | true=>R.pure ⟨z.mf,endH z.H,z.nx,s.df⟩⟩
def bmF (acc:List (List Nat)) (o:Oper):List (List Nat):=acc++[((preds o)++(preds o).flatMap fun p=>acc.getD p []).eraseDups]
def BmOK (ops:List Oper) (acc:List (List Nat)):Prop:=acc.length=ops.length∧∀ i o,ops[i]? = some o→∀ j ∈ acc.getD i [],j ∈ preds o∨∃ p ∈ preds o,j ∈ acc.getD p []
theorem getD_app {acc:List (List Nat)} {x:List Nat} {i:Nat} {j:Nat} (h:j ∈ acc.getD i []):j ∈ (acc++[x]).getD i []:=by
  have hi:i<acc.length:=by
    rcases Nat.lt_or_ge i acc.length with h1 | h1
    · exact h1
    · rw [List.getD_eq_getElem?_getD,List.getElem?_eq_none h1] at h; simp at h
  rw [List.getD_eq_getElem?_getD,List.getElem?_append_left hi,← List.getD_eq_getElem?_getD]; exact h
theorem bm_fold:∀ (l done:List Oper) (acc:List (List Nat)),BmOK done acc→BmOK (done++l) (l.foldl bmF acc)
  | [],done,acc,h=>by simpa using h
  | o::t,done,acc,h=>by
    have h2:BmOK (done++[o]) (bmF acc o):=by
      obtain ⟨h1,h3⟩:=h
      refine ⟨by simp [bmF,h1],fun i o' hi j hj=>?_⟩
      rcases Nat.lt_or_ge i done.length with hl | hl
      · rw [List.getElem?_append_left hl] at hi
        have e:(bmF acc o).getD i []=acc.getD i []:=by
          unfold bmF
          rw [List.getD_eq_getElem?_getD,List.getElem?_append_left (by omega),← List.getD_eq_getElem?_getD]
        rw [e] at hj
        rcases h3 i o' hi j hj with h4 | ⟨p,hp,h4⟩
        · exact .inl h4
        · exact .inr ⟨p,hp,getD_app h4⟩
      · have hi':i=done.length:=by
          have:=(List.getElem?_eq_some_iff.1 hi).1
          simp at this; omega
        subst hi'
        rw [List.getElem?_append_right (by omega)] at hi
        simp only [Nat.sub_self,List.getElem?_cons_zero,Option.some.injEq] at hi
        subst hi
        have e:(bmF acc o).getD done.length []=((preds o)++(preds o).flatMap fun p=>acc.getD p []).eraseDups:=by
          unfold bmF
          rw [List.getD_eq_getElem?_getD,← h1,List.getElem?_append_right (by omega)]
          simp
        rw [e,List.mem_eraseDups,List.mem_append,List.mem_flatMap] at hj
        rcases hj with h4 | ⟨p,hp,h4⟩
        · exact .inl h4
        · exact .inr ⟨p,hp,getD_app h4⟩
    have h5:=bm_fold t (done++[o]) (bmF acc o) h2
    simpa using h5
theorem vBm_mk (ops:Array Oper):vBm ops (mkBm ops)=true:=by
  have h:BmOK ops.toList (mkBm ops):=by
    have:=bm_fold ops.toList [] [] ⟨rfl,by simp⟩
    rw [List.nil_append] at this
    exact this
  unfold vBm
  rw [List.all_eq_true]
  intro i hi
  rw [List.all_eq_true]
  intro j hj
  obtain ⟨o,ho⟩:∃ o,ops[i]? = some o:=⟨ops[i]'(by simpa using hi),by simp at hi; simp [hi]⟩
  have hp:predsAt ops i=preds o:=by unfold predsAt; rw [ho]
  rw [hp]
  rcases h.2 i o (by simpa using ho) j hj with h1 | ⟨p,h1,h2⟩
  · simp [h1]
  · rw [Bool.or_eq_true,List.any_eq_true]
    exact .inr ⟨p,h1,by simpa using h2⟩
structure Inv (ops:Array Oper) (s:S) (done:List OpR) (z:AccD):Prop where
  mf:∀ q u,lkV z.mf q=some u→(∃ j r,done[j]? = some r∧dstOf ops j=some q∧r.v=some u)∨(lkV s.fr q=some u∧∀ j,j<done.length→dstOf ops j≠some q)
  H:∀ e,lkE z.H e=ver s done allT e
  nx:z.nx=curNx s done
  rs:z.rs.reverse=done
  qt:z.qt=true→∀ r ∈ done,r.own=[]∧r.nx=r.nx'
  df:z.df=s.df
  kb:∀ e,e ∈ keysE z.H→e<z.nx
theorem findP_some {ops:Array Oper} {q p:Nat}:∀ {l:List Nat},findP ops q l=some p→p ∈ l∧dstOf ops p=some q
  | [],h=>by cases h
  | k::t,h=>by
    simp only [findP] at h
    split at h
    · rename_i d hd
      split at h
      · rename_i hb
        have:=Nat.eq_of_beq_eq_true hb
        subst this
        simp only [Option.some.injEq] at h
        subst h
        exact ⟨by simp,hd⟩
      · have:=findP_some h; exact ⟨by simp [this.1],this.2⟩
    · have:=findP_some h; exact ⟨by simp [this.1],this.2⟩
theorem dst_inj {ops:Array Oper} (hd:distinctDst ops []=true) {i j d:Nat} (h1:dstOf ops i=some d) (h2:dstOf ops j=some d):i=j:=by
  have hs:∀ k,dstOf ops k=some d→k<ops.size:=fun k hk=>by
    rcases Nat.lt_or_ge k ops.size with h | h
    · exact h
    · simp [dstOf,Array.getElem?_eq_none h] at hk
  have key:∀ i j,i<ops.size→j<i→dstOf ops i=some d→dstOf ops j=some d→False:=fun i j hi hji h1 h2=>by
    have h:=List.all_eq_true.1 hd i (by simpa using hi)
    simp only [h1,Bool.and_eq_true] at h
    have h:=List.all_eq_true.1 h.2 j (by simpa using hji)
    simp [h2,Nat.beq_refl] at h
  rcases Nat.lt_trichotomy i j with h | h | h
  · exact (key j i (hs j h2) h h2 h1).elim
  · exact h
  · exact (key i j (hs i h1) h h1 h2).elim
theorem curNx_snoc {s:S}:∀ (l:List OpR) (r:OpR),curNx s (l++[r])=r.nx'
  | [],r=>rfl
  | [a],r=>rfl
  | a::b::t,r=>by
    have:=curNx_snoc (s:=s) (b::t) r
    simpa [curNx] using this
theorem hfr_get {mf:Fm}:∀ {ts:List Nat} {q:Nat} {u:V},lkV ((hfr ts).run mf) q=some u→q ∈ ts∧lkV mf q=some u
  | [],_,_,h=>by rw [show (hfr []).run mf=.e from rfl,lkV_e] at h; cases h
  | t::r,q,u,h=>by
    have h0:(hfr (t::r)).run mf=match lkV mf t with
      | some u=>putV ((hfr r).run mf) t u
      | none=>(hfr r).run mf:=rfl
    rw [h0] at h
    cases hx:lkV mf t with
    | some u' =>
      rw [hx] at h
      rcases putV_get h with ⟨rfl,rfl⟩ | ⟨_,h2⟩
      · exact ⟨by simp,hx⟩
      · have:=hfr_get h2; exact ⟨by simp [this.1],this.2⟩
    | none =>
      rw [hx] at h
      have:=hfr_get h; exact ⟨by simp [this.1],this.2⟩
theorem Inv.slot {ops:Array Oper} {s:S} {done:List OpR} {z:AccD} (h:Inv ops s done z) (hd:distinctDst ops []=true) {q:Nat} {u:V} (hq:okQ ops done.length q=true) (hu:lkV z.mf q=some u):slotV s ops done done.length q=some u:=by
  unfold okQ at hq
  unfold slotV
  split at hq
  · rename_i p hp
    have hlt:p<done.length:=by simpa using hq
    have hdp:=(findP_some hp).2
    rcases h.mf q u hu with ⟨j,r,h1,h2,h3⟩ | ⟨_,h2⟩
    · have:=dst_inj hd h2 hdp
      subst this
      simp only [h1,Option.bind_some]
      exact h3
    · exact absurd hdp (h2 p hlt)
  · rename_i hp
    simp only [Bool.and_eq_true,List.all_eq_true] at hq
    simp only [hq.1]
    rcases h.mf q u hu with ⟨j,r,h1,h2,h3⟩ | ⟨h1,_⟩
    · have hj:j<done.length:=(List.getElem?_eq_some_iff.1 h1).1
      have:=hq.2 j (by simpa using hj)
      rw [h2] at this
      simp [Nat.beq_refl] at this
    · exact h1
theorem putD_get {mf:Fm} {d:Option Tmp} {v:Option V} {q:Nat} {u:V} (h:lkV (putD mf d v) q=some u):(d=some q∧v=some u)∨(d≠some q∧lkV mf q=some u)∨(d=some q∧v=none):=by
  unfold putD at h
  cases d with
  | none=>exact .inr (.inl ⟨by simp,h⟩)
  | some d=>cases v with
    | none =>
      by_cases e:d=q
      · subst e; exact .inr (.inr ⟨rfl,rfl⟩)
      · exact .inr (.inl ⟨by simpa using e,h⟩)
    | some w =>
      rcases putV_get h with ⟨rfl,rfl⟩ | ⟨h1,h2⟩
      · exact .inl ⟨rfl,rfl⟩
      · exact .inr (.inl ⟨by simpa using (Ne.symm h1),h2⟩)
theorem ver_snoc {s:S} {done:List OpR} {r:OpR} {e:Nat}:ver s (done++[r]) allT e=match r.touch e with
  | true=>lkE r.aft e
  | false=>ver s done allT e:=by
  unfold ver
  rw [lastT_app]
  simp only [lastT,allT,Bool.true_and]
  cases r.touch e <;> rfl
theorem lkE_filter {p:Nat→Bool} {e:Nat}:∀ {H:List (Nat × Ent)},lkE (H.filter fun x=>p x.1) e=(match p e with
    | true=>lkE H e
    | false=>none)
  | []=>by cases p e <;> rfl
  | (k,x)::t=>by
    have ih:=lkE_filter (p:=p) (e:=e) (H:=t)
    cases hk:p k with
    | true =>
      rw [List.filter_cons_of_pos (by simpa using hk)]
      simp only [lkE]
      cases hb:Nat.beq k e with
      | true =>
        have:=Nat.eq_of_beq_eq_true hb
        subst this
        rw [hk]
      | false=>exact ih
    | false =>
      rw [List.filter_cons_of_neg (by simp [hk])]
      simp only [lkE]
      cases hb:Nat.beq k e with
      | true =>
        have:=Nat.eq_of_beq_eq_true hb
        subst this
        rw [ih,hk]
      | false=>exact ih
theorem lkE_none_of {H:List (Nat × Ent)} {e:Nat} (h:e ∉ keysE H):lkE H e=none:=by
  cases hx:lkE H e with
  | none=>rfl
  | some x=>exact absurd (List.mem_map.2 ⟨(e,x),lkE_mem hx,rfl⟩) h
theorem accD_inv {ops:Array Oper} {s:S} {done:List OpR} {z:AccD} (h:Inv ops s done z) {own ro:List Nat} {s':S} {d:Option Tmp} {v:Option V} (hd:dstOf ops done.length=d) (hv:∀ q,d=some q→∃ u,v=some u)
    (hown:∀ e,e ∈ own→e<z.nx) (hle:z.nx≤s'.nx) (hks:∀ e,e ∈ keysE s'.H→(⟨own,ro,z.nx,s'.nx,v,s'.H⟩:OpR).touch e=true) :
    Inv ops s (done++[⟨own,ro,z.nx,s'.nx,v,s'.H⟩]) (accD z own ro s' d v):=by
  have hmf:∀ q u,lkV (putD z.mf d v) q=some u→(∃ j r,(done++[(⟨own,ro,z.nx,s'.nx,v,s'.H⟩:OpR)])[j]? = some r∧dstOf ops j=some q∧r.v=some u)∨(lkV s.fr q=some u∧∀ j,j<(done++[(⟨own,ro,z.nx,s'.nx,v,s'.H⟩:OpR)]).length→dstOf ops j≠some q):=fun q u hq=>by
    rcases putD_get hq with ⟨h1,h2⟩ | ⟨h1,h2⟩ | ⟨h1,h2⟩
    · exact .inl ⟨done.length,⟨own,ro,z.nx,s'.nx,v,s'.H⟩,by simp,by rw [hd]; exact h1,h2⟩
    · rcases h.mf q u h2 with ⟨j,r,h3,h4,h5⟩ | ⟨h3,h4⟩
      · have hj:j<done.length:=(List.getElem?_eq_some_iff.1 h3).1
        exact .inl ⟨j,r,by rw [List.getElem?_append_left hj]; exact h3,h4,h5⟩
      · refine .inr ⟨h3,fun j hj=>?_⟩
        simp only [List.length_append,List.length_cons,List.length_nil] at hj
        by_cases e:j=done.length
        · subst e; rw [hd]; exact h1
        · exact h4 j (by omega)
    · obtain ⟨u,hu⟩:=hv q h1
      rw [h2] at hu; cases hu
  obtain ⟨mf,H,nx,rs,qt,df⟩:=z
  obtain ⟨fr',H',nx',df'⟩:=s'
  unfold accD
  simp only at *
  split
  · rename_i hb
    have hb:nx=nx':=Nat.eq_of_beq_eq_true hb
    have hno:∀ e,(⟨[],ro,nx,nx',v,H'⟩:OpR).touch e=false:=fun e=>by
      simp only [OpR.touch,List.contains_nil,Bool.false_or]
      cases h1:Nat.ble nx e with
      | false=>rfl
      | true =>
        cases h2:Nat.blt e nx' with
        | false=>rfl
        | true =>
          have:=Nat.le_of_ble_eq_true h1
          have:e<nx':=by simpa using h2
          omega
    refine ⟨hmf,fun e=>?_,by rw [curNx_snoc],by simp [h.rs],fun hq r hr=>?_,h.df,fun e he=>Nat.lt_of_lt_of_le (h.kb e he) hle⟩
    · rw [ver_snoc,hno e]; exact h.H e
    · rcases List.mem_append.1 hr with hr | hr
      · exact h.qt hq r hr
      · rw [List.mem_singleton] at hr; subst hr; exact ⟨rfl,hb⟩
  · refine ⟨hmf,fun e=>?_,by rw [curNx_snoc],by simp [h.rs],(fun hq=>by cases hq),h.df,fun e he=>?_⟩
    · rw [ver_snoc,lkE_app]
      cases ht:(⟨[],ro,nx,nx',v,H'⟩:OpR).touch e with
      | true =>
        have hn:lkE H e=none:=lkE_none_of fun hc=>by
          have h1:=h.kb e hc
          simp only [OpR.touch,List.contains_nil,Bool.false_or,Bool.and_eq_true] at ht
          have h2:=Nat.le_of_ble_eq_true ht.1
          exact absurd h1 (Nat.not_lt.2 h2)
        rw [hn]
        simp only
        cases lkE H' e <;> rfl
      | false =>
        have:lkE H' e=none:=lkE_none_of fun hc=>by rw [hks e hc] at ht; cases ht
        rw [this]
        exact h.H e
    · have he:e ∈ keysE H'++keysE H:=by simpa [keysE] using he
      rcases List.mem_append.1 he with he | he
      · have ht:=hks e he
        simp only [OpR.touch,List.contains_nil,Bool.false_or,Bool.and_eq_true] at ht
        simpa using ht.2
      · exact Nat.lt_of_lt_of_le (h.kb e he) hle
  · rename_i own _ _ _ _
    refine ⟨hmf,fun e=>?_,by rw [curNx_snoc],by simp [h.rs],(fun hq=>by cases hq),h.df,fun e he=>?_⟩
    rotate_left
    · have he:e ∈ keysE H'++keysE (H.filter fun p=>!(⟨own,ro,nx,nx',v,H'⟩:OpR).touch p.1):=by simpa [keysE] using he
      rcases List.mem_append.1 he with he | he
      · have ht:=hks e he
        simp only [OpR.touch,Bool.or_eq_true,Bool.and_eq_true] at ht
        rcases ht with ht | ht
        · exact Nat.lt_of_lt_of_le (hown e (by simpa using ht)) hle
        · simpa using ht.2
      · obtain ⟨p,hp,rfl⟩:=List.mem_map.1 he
        exact Nat.lt_of_lt_of_le (h.kb p.1 (List.mem_map.2 ⟨p,(List.mem_filter.1 hp).1,rfl⟩)) hle
    rw [ver_snoc,lkE_app,lkE_filter (p:=fun k=>!(⟨own,ro,nx,nx',v,H'⟩:OpR).touch k)]
    cases ht:(⟨own,ro,nx,nx',v,H'⟩:OpR).touch e with
    | true =>
      simp only [Bool.not_true]
      cases lkE H' e <;> rfl
    | false =>
      have:lkE H' e=none:=lkE_none_of fun hc=>by rw [hks e hc] at ht; cases ht
      rw [this]
      exact h.H e
theorem endD_ok {P:Program} {B:List (Nat × Ent)} {n:Nat} {ops:Array Oper} {s:S} {done:List OpR} {z:AccD} (h:Inv ops s done z) {o:Oper} {fr:Fm} {own ro:List Nat} (hdo:dstOf ops done.length=o.dst)
    (hfr:∀ q u,lkV fr q=some u→slotV s ops done done.length q=some u) (hfit:fitB z own ro=true) (s':S)
    (hs':∀ r0 w0 X,StepO r0 P w0 X (pick (ver s done allT) ro++B) n ops ⟨fr,pick (ver s done allT) own,z.nx,s.df⟩ o s') :
    (endD z own ro o.dst s').Ok fun z'=>∃ r,Good P B n ops s done o r∧Inv ops s (done++[r]) z':=by
  unfold endD
  split
  · exact R.Ok.fail
  · rename_i hc
    split
    · exact R.Ok.fail
    · rename_i hdf
      split
      · exact R.Ok.fail
      · rename_i v hv
        simp only [fitA,Bool.and_eq_true,List.all_eq_true] at hc
        simp only [fitB,Bool.and_eq_true,List.all_eq_true] at hfit
        have hle:=Nat.le_of_ble_eq_true hc.1
        have hdv:∀ d,o.dst=some d→∃ u,v=some u∧lkV s'.fr d=some u:=fun d hd=>by
          rw [hd] at hv
          simp only [dstV] at hv
          split at hv
          · rename_i u hu
            injection hv with hv
            exact ⟨u,hv.symm,hu⟩
          · cases hv
        refine R.Ok.pure ⟨⟨own,ro,z.nx,s'.nx,v,s'.H⟩,⟨⟨fr,s',hfr,hs',rfl,rfl,(dfEq_ok hdf).trans h.df,hdv⟩,h.nx,hle,⟨hfit.1,hfit.2.1⟩,fun e he=>?_,fun e he=>hc.2 e he,fun e he=>?_⟩,accD_inv h hdo (fun q hq=>?_) (fun e he=>by
          have:=hfit.2.2.1 e (by simp [he])
          simpa using this) hle fun e he=>hc.2 e he⟩
        · have:=hfit.2.2.1 e (by simpa using he)
          simpa using this
        · have:=hfit.2.2.2 e he
          simpa using this
        · obtain ⟨u,h1,_⟩:=hdv q hq
          exact ⟨u,h1⟩
theorem hd1_ok {P:Program} {B:List (Nat × Ent)} {T:Tab} {wrF:FuncId→Bool} {n:Nat} {ops:Array Oper} {s:S} {done:List OpR} {z:AccD} {o:Oper} (hT:TabOK P T) (hd:distinctDst ops []=true) (ho:ops[done.length]? = some o) (h:Inv ops s done z) :
    ((hd1 P wrF n ops done.length o).run B T z).Ok fun z'=>∃ r,Good P B n ops s done o r∧Inv ops s (done++[r]) z':=by
  have hdo:dstOf ops done.length=o.dst:=by simp [dstOf,ho]
  have hH:lkE z.H=ver s done allT:=funext h.H
  unfold hd1
  split
  · exact R.Ok.fail
  · rename_i hq
    have hfr:∀ q u,lkV ((hfr (tmpsOf ops o)).run z.mf) q=some u→slotV s ops done done.length q=some u:=fun q u hu=>by
      obtain ⟨h1,h2⟩:=hfr_get hu
      exact h.slot hd (List.all_eq_true.1 hq q h1) h2
    split
    · obtain ⟨mf,H,nx,rs,qt,df⟩:=z
      have hz:df=s.df:=h.df
      subst hz
      simp only [hoper_eq]
      refine R.Ok.andThen (R.Ok.all fun r0=>R.Ok.all fun w0=>R.Ok.all fun X=>xoper_ok (r:=r0) (w0:=w0) (X:=X) hT) fun s' hs'=>?_
      exact endD_ok (own:=[]) (ro:=[]) h hdo hfr rfl s' hs'
    · simp only
      generalize idsD wrF o.op (lkE z.H) _ _=z0
      obtain ⟨own,ro⟩:=z0
      · unfold hdM
        simp only
        split
        · exact R.Ok.fail
        · rename_i hfit
          rw [hH,hoper_eq,h.df]
          refine R.Ok.andThen (R.Ok.all fun r0=>R.Ok.all fun w0=>R.Ok.all fun X=>xoper_ok (r:=r0) (w0:=w0) (X:=X) hT) fun s' hs'=>?_
          exact endD_ok h hdo hfr hfit s' hs'
theorem hdL_ok {P:Program} {B:List (Nat × Ent)} {T:Tab} {wrF:FuncId→Bool} {n:Nat} {ops:Array Oper} {s:S} (hT:TabOK P T) (hd:distinctDst ops []=true):∀ (l:List Oper) (done:List OpR) (z:AccD),(∀ k o,l[k]? = some o→ops[done.length+k]? = some o)→Inv ops s done z →
    ((hdL P wrF n ops done.length l).run B T z).Ok fun z'=>∃ rs,rs.length=done.length+l.length∧rs.take done.length=done∧(∀ k o,l[k]? = some o→∃ r,rs[done.length+k]? = some r∧Good P B n ops s (rs.take (done.length+k)) o r)∧Inv ops s rs z'
  | [],done,z,_,h=>R.Ok.pure ⟨done,by simp,by simp,fun k o h=>by simp at h,h⟩
  | o::t,done,z,hl,h=>by
    simp only [hdL]
    refine (hd1_ok hT hd (by simpa using hl 0 o rfl) h).andThen fun z1 hz1=>?_
    obtain ⟨r,hr,hi⟩:=hz1
    have hlen:(done++[r]).length=done.length+1:=by simp
    have ih:=hdL_ok (B:=B) (T:=T) (wrF:=wrF) (n:=n) hT hd t (done++[r]) z1 (fun k o' hk=>by
      have:=hl (k+1) o' (by simpa using hk)
      rw [hlen]; rw [← this]; congr 1; omega) hi
    rw [hlen] at ih
    refine ih.mono fun z' hz'=>?_
    obtain ⟨rs,h1,h2,h3,h4⟩:=hz'
    have hd':rs.take done.length=done:=by
      have:=congrArg (List.take done.length) h2
      rw [List.take_take] at this
      simpa [Nat.min_eq_left (Nat.le_succ _)] using this
    have hr0:rs[done.length]? = some r:=by
      have:=congrArg (fun l=>l[done.length]?) h2
      simp only [List.getElem?_take] at this
      rw [if_pos (by omega)] at this
      simpa using this
    refine ⟨rs,by simp only [List.length_cons]; omega,hd',fun k o' hk=>?_,h4⟩
    cases k with
    | zero =>
      simp only [List.getElem?_cons_zero,Option.some.injEq] at hk
      subst hk
      exact ⟨r,by simpa using hr0,by rw [Nat.add_zero,hd']; exact hr⟩
    | succ k =>
      simp only [List.getElem?_cons_succ] at hk
      obtain ⟨r',h5,h6⟩:=h3 k o' hk
      have e1:done.length+(k+1)=done.length+1+k:=by omega
      exact ⟨r',by rw [e1]; exact h5,by rw [e1]; exact h6⟩
theorem pairs_quiet {ops:Array Oper} {i j:Nat} {a b:OpR} (ha:a.own=[]∧a.nx=a.nx') (hb:b.own=[]∧b.nx=b.nx'):pairB ops i a j b=true:=by
  have hno:∀ e,a.touch e=false:=fun e=>by
    simp only [OpR.touch,ha.1,List.contains_nil,Bool.false_or]
    cases h1:Nat.ble a.nx e with
    | false=>rfl
    | true =>
      cases h2:Nat.blt e a.nx' with
      | false=>rfl
      | true =>
        have:=Nat.le_of_ble_eq_true h1
        have:e<a.nx':=by simpa using h2
        have:=ha.2
        omega
  simp [pairB,hb.1,hno]
theorem decrB1_lt:∀ {H:List (Nat × Ent)} {k:Nat},decrB1 k H=true→∀ e ∈ keysE H,e<k
  | [],_,_,e,he=>by cases he
  | (e0,x)::t,k,h,e,he=>by
    simp only [decrB1] at h
    split at h
    · rename_i hb
      have hb:e0<k:=by simpa using hb
      simp only [keysE,List.map_cons,List.mem_cons] at he
      rcases he with rfl | he
      · exact hb
      · have:=decrB1_lt h e he; omega
    · cases h
theorem decrB1_nd:∀ {H:List (Nat × Ent)} {k:Nat},decrB1 k H=true→nodupB (keysE H)=true∧∀ e x,(e,x) ∈ H→lkE H e=some x
  | [],_,_=>⟨rfl,fun e x h=>by cases h⟩
  | (e0,y)::t,k,h=>by
    simp only [decrB1] at h
    split at h
    · have h1:=decrB1_lt h
      obtain ⟨h2,h3⟩:=decrB1_nd h
      refine ⟨?_,fun e x hx=>?_⟩
      · simp only [keysE,List.map_cons,nodupB,Bool.and_eq_true,Bool.not_eq_true']
        refine ⟨?_,h2⟩
        cases hc:(t.map (·.1)).contains e0 with
        | false=>rfl
        | true =>
          have:=h1 e0 (by simpa [keysE] using hc)
          omega
      · simp only [lkE]
        rcases List.mem_cons.1 hx with hx | hx
        · injection hx with e1 e2; subst e1; subst e2
          rw [Nat.beq_refl]
        · have h4:=h1 e (List.mem_map.2 ⟨(e,x),hx,rfl⟩)
          have:Nat.beq e0 e=false:=by
            cases hb:Nat.beq e0 e with
            | false=>rfl
            | true=>have:=Nat.eq_of_beq_eq_true hb; omega
          rw [this]; exact h3 e x hx
    · cases h
theorem endH_ok {H:List (Nat × Ent)}:nodupB (keysE (endH H))=true∧∀ e x,(e,x) ∈ endH H→lkE H e=some x:=by
  unfold endH
  split
  · rename_i h
    cases H with
    | nil=>exact ⟨rfl,fun e x h=>by cases h⟩
    | cons a t =>
      obtain ⟨e0,y⟩:=a
      exact decrB1_nd (k:=e0+1) (by
        simp only [decrB1]
        have:Nat.blt e0 (e0+1)=true:=by simp
        rw [this]; exact h)
  · exact ⟨pick_nodup (dd_nodup _),fun e x hx=>(pick_mem hx).2⟩
end Go.RX
