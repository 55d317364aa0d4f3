/- Part of a proof: laws and walks. -/
import Derived.CallsIn
import Derived.OrdersIn
import Derived.Deep.Quiet
import Derived.Tactics
import Derived.Tactics2
import Derived.Laws.Sem
import Derived.Laws.World
import Derived.Maps.AppendAt
import Derived.Laws.AppendOwn
import Derived.Laws.MakeOwn
import Derived.Laws.Entries
import Derived.Laws.IdiomCopy
import Derived.Still
import Derived.Laws.Wrap64
import Derived.IntWalk
set_option linter.unusedVariables false
set_option linter.unusedSimpArgs false
namespace Go.SL
open Go
def FW (r:Option Nat):Fence:={ fn:=fun _=>True,depth:=none,alive:=false,round:=r }
theorem aFQ (r:Option Nat) (n:Nat):(FW r).room n:=fun _ h=>by simp [FW] at h
theorem aDa (r:Option Nat) (P:Program) (m:Machine):m.fenced P (FW r):=by
  intro g _
  refine ⟨fun h=>?_,Or.inl trivial,fun _ _=>trivial,fun _ h=>?_⟩
  · simp [FW] at h
  · simp [FW] at h
theorem zu {r:Option Nat} {P:Program} {m m':Machine}:StepsIn (Machine.fenced P (FW r)) P m m'↔Steps P m m' :=
  ⟨StepsIn.steps,fun h=>(StepsIn.of_steps h).mono fun m _=>aDa r P m⟩
theorem aAA {r:Option Nat} {P:Program} {m m':Machine} {e:Ending}:ComesIn (Machine.fenced P (FW r)) P m m' e↔Comes P m m' e:=by
  cases e with
  | returned v=>exact zu
  | panicked chain=>exact zu
  | outgrown=>exact Iff.rfl
theorem sJ {r:Option Nat} {n:Nat} {P:Program} {f:FuncId} {args:Array Value} {w:World} {R:Ending→World→Prop} :
    CallsIn (FW r) n P f args w R↔Calls P f args w R :=
  ⟨fun h cs=>let ⟨e,w',fr,r,s,x⟩:=h.2 cs (aFQ _ _); ⟨e,w',fr,r,aAA.1 s,x⟩,
   fun h=>⟨trivial,fun cs _=>let ⟨e,w',fr,r,s,x⟩:=h cs; ⟨e,w',fr,r,aAA.2 s,x⟩⟩⟩
def W (r:Option Nat) (P:Program) (c:Code) (Q:Exit→Act→World→Prop) (a:Act) (w:World):Prop:=c.wpIn (FW r) 0 P Q a w
def O (r:Option Nat) (P:Program) (ops:Array Oper) (Q:Exit→Act→World→Prop) (l:List Nat) (a:Act) (w:World):Prop:=wpOpsIn (FW r) 0 P ops Q l a w
section
variable {r:Option Nat} {P:Program} {Q:Exit→Act→World→Prop} {a:Act} {w:World}
theorem W.mono {c:Code} {Q':Exit→Act→World→Prop} (h:W r P c Q a w) (hq:∀ e a w,Q e a w→Q' e a w):W r P c Q' a w:=wpIn_mono h hq
theorem W.seq {x y:Code} (h:W r P x (Exit.then (W r P y Q) Q) a w):W r P (.seq x y) Q a w:=wpIn_seq h
theorem W.skip (h:Q .normal a w):W r P .skip Q a w:=wpIn_skip h
theorem W.exit {id:Nat} (h:Q (.exit id) a w):W r P (.exit id) Q a w:=wpIn_exit h
theorem W.goto {l:Nat} (h:Q (.goto l) a w):W r P (.goto l) Q a w:=wpIn_goto h
theorem W.ret (h:Q .ret a w):W r P .ret Q a w:=wpIn_ret h
theorem W.block {id:Nat} {c:Code} (h:W r P c (Exit.inBlock id Q) a w):W r P (.block id c) Q a w:=wpIn_block h
theorem W.region {id:Nat} {ops:Array Oper} (h:O r P ops Q (List.range ops.size) a w):W r P (.region id ops false) Q a w:=wpIn_region h
theorem W.loop {c:Code} {G:Type} (I:G→Act→World→Prop) (μ:G→Nat) (g:G) (h₀:I g a w)
    (round:∀ g a w,I g a w→W r P c (Exit.then (fun a' w'=>∃ g',I g' a' w'∧μ g'<μ g) Q) a w):W r P (.loop c) Q a w:=by
  intro b k cs hro hb hr
  have key:∀ j g a w,μ g=j→I g a w →
      ∃ e a' w',Q e a' w'∧ArrivesIn (Machine.fenced P (FW r)) P (lone (b.atR a (.code c::.inLoop c::k)) cs w) b k cs e a' w':=by
    intro j
    induction j using Nat.strongRecOn with
    | _ j ih =>
      intro g a w hn hI
      obtain ⟨e,a₁,w₁,hq,harr⟩:=round g a w hI b (.inLoop c::k) cs hro hb hr
      cases e with
      | normal =>
        obtain ⟨g',hI₁,hlt⟩:=hq
        obtain ⟨e₂,a₂,w₂,hq₂,harr₂⟩:=ih (μ g') (hn▸hlt) g' a₁ w₁ rfl hI₁
        exact ⟨e₂,a₂,w₂,hq₂,.of_steps (StepsIn.trans harr (.one (fenced_calm hb hr rfl) stepR_inLoop)) harr₂⟩
      | exit id=>exact ⟨_,a₁,w₁,hq,.pass (x:=.inLoop c) rfl (fun _ _=>.inl (by simp)) harr⟩
      | goto l=>exact ⟨_,a₁,w₁,hq,.pass (x:=.inLoop c) rfl (fun _ _=>.inl (by simp)) harr⟩
      | ret=>exact ⟨_,a₁,w₁,hq,.pass (x:=.inLoop c) rfl (fun _ _=>.inl (by simp)) harr⟩
      | panic ch=>exact ⟨_,a₁,w₁,hq,.pass (x:=.inLoop c) rfl (fun _ _=>.inl (by simp)) harr⟩
      | outgrown=>exact ⟨_,a₁,w₁,hq,.pass (x:=.inLoop c) rfl (fun _ _=>.inl (by simp)) harr⟩
  obtain ⟨e,a',w',hq,harr⟩:=key _ g a w rfl h₀
  exact ⟨e,a',w',hq,.of_steps (.one (fenced_calm hb hr rfl) stepR_loop) harr⟩
theorem aP {y:Code} (h:W r P y Q a w):Exit.then (W r P y Q) Q .normal a w:=h
theorem aS {K:Act→World→Prop} (h:K a w):Exit.then K Q .normal a w:=h
theorem aK {K:Act→World→Prop} {id:Nat} (h:Q (.exit id) a w):Exit.then K Q (.exit id) a w:=h
theorem aF {K:Act→World→Prop} (h:Q .ret a w):Exit.then K Q .ret a w:=h
theorem fG {id:Nat} (h:Q .normal a w):Exit.inBlock id Q (.exit id) a w:=by simp only [Exit.inBlock,if_true]; exact h
theorem aEN {id id':Nat} (hne:Nat.beq id' id=false) (h:Q (.exit id') a w):Exit.inBlock id Q (.exit id') a w:=by
  simp only [Exit.inBlock]; rw [if_neg (fun e=>by rw [e] at hne; simp [Nat.beq_refl] at hne)]; exact h
theorem aQ {id:Nat} (h:Q .normal a w):Exit.inBlock id Q .normal a w:=h
theorem bA {id:Nat} (h:Q .ret a w):Exit.inBlock id Q .ret a w:=h
end
def lk:List (Nat × Value)→Nat→Option Value
  | [],_=>none
  | (k,v)::t,j=>match Nat.beq k j with
    | true=>some v
    | false=>lk t j
def ev (L:List (Nat × Value)):Operand→Option Value
  | .tmp t=>lk L t
  | .const v=>some v
  | .global g=>some (.pointer (some ⟨g,0,none⟩))
  | .func f=>some (.func (.func f) #[] #[])
structure Fr (a:Act) (n:Nat) (ds:List Deferred) (L:List (Nat × Value)):Prop where
  size:a.tmps.size=n
  defers:a.defers=ds
  get:∀ k v,lk L k=some v→a.tmps[k]? = some v
theorem Fr.eval {a:Act} {n:Nat} {ds:List Deferred} {L:List (Nat × Value)} (h:Fr a n ds L) {x:Operand} {v:Value} (hx:ev L x=some v):a.eval x=v:=by
  cases x with
  | tmp t =>
    have:=h.get t v hx
    simp only [Act.eval,Array.getD_eq_getD_getElem?,this,Option.getD_some]
  | const c=>simpa [ev,Act.eval] using hx
  | global g=>simpa [ev,Act.eval] using hx
  | func f=>simpa [ev,Act.eval] using hx
theorem Fr.put {a:Act} {n d:Nat} {ds:List Deferred} {L:List (Nat × Value)} (h:Fr a n ds L) (hd:Nat.blt d n=true) (v:Value):Fr (a.put (some d) v) n ds ((d,v)::L):=by
  have hd:d<n:=by simpa using hd
  refine ⟨by simpa [Act.put] using h.size,h.defers,fun k u hk=>?_⟩
  simp only [lk] at hk
  simp only [Act.put]
  by_cases e:d=k
  · subst e
    simp only [Nat.beq_refl,Option.some.injEq] at hk
    subst hk
    exact Array.getElem?_setIfInBounds_self_of_lt (by rw [h.size]; exact hd)
  · have hb:Nat.beq d k=false:=by
      cases hb:Nat.beq d k with
      | false=>rfl
      | true=>exact absurd (Nat.eq_of_beq_eq_true hb) e
    rw [hb] at hk
    rw [Array.getElem?_setIfInBounds_ne e]
    exact h.get k u hk
def Subs (L:List (Nat × Value)):List (Nat × Value)→Prop
  | []=>True
  | (k,v)::t=>lk L k=some v∧Subs L t
theorem Subs.get {L:List (Nat × Value)}:∀ {L':List (Nat × Value)},Subs L L'→∀ k v,lk L' k=some v→lk L k=some v
  | [],_,k,v,h=>by simp [lk] at h
  | (k',v')::t,h,k,v,hk=>by
    simp only [lk] at hk
    cases hb:Nat.beq k' k with
    | true =>
      rw [hb] at hk
      have:=Nat.eq_of_beq_eq_true hb
      subst this
      simp only [Option.some.injEq] at hk
      subst hk
      exact h.1
    | false=>rw [hb] at hk; exact Subs.get h.2 k v hk
theorem Fr.to {a:Act} {n:Nat} {ds:List Deferred} {L L':List (Nat × Value)} (h:Fr a n ds L) (hs:Subs L L'):Fr a n ds L' :=
  ⟨h.size,h.defers,fun k v hk=>h.get k v (hs.get k v hk)⟩
def zF:Nat→List Value→List (Nat × Value)
  | _,[]=>[]
  | i,v::t=>(i,v)::zF (i+1) t
theorem aAx:∀ (i:Nat) (l:List Value) (k:Nat) (v:Value),lk (zF i l) k=some v→i≤k∧l[k-i]? = some v
  | _,[],_,_,h=>by simp [zF,lk] at h
  | i,u::t,k,v,h=>by
    simp only [zF,lk] at h
    cases hb:Nat.beq i k with
    | true =>
      rw [hb] at h
      have:=Nat.eq_of_beq_eq_true hb
      subst this
      simpa using h
    | false =>
      rw [hb] at h
      obtain ⟨h1,h2⟩:=aAx (i+1) t k v h
      refine ⟨by omega,?_⟩
      have:k-i=(k-(i+1))+1:=by omega
      rw [this,List.getElem?_cons_succ]
      exact h2
theorem Fr.start {args:Array Value} {l:List Value} {n m:Nat} (hl:args=l.toArray) (hn:l.length≤n) (hm:m=n-args.size) :
    Fr { tmps:=args++Array.replicate m undef,defers:=[] } n [] (zF 0 l):=by
  subst hl
  simp only [List.size_toArray] at hm
  refine ⟨by simp; omega,rfl,fun k v h=>?_⟩
  obtain ⟨-,h⟩:=aAx 0 l k v h
  simp only [Nat.sub_zero] at h
  have hk:k<l.length:=(List.getElem?_eq_some_iff.1 h).1
  rw [Array.getElem?_append_left (by simpa using hk)]
  simpa using h
theorem aAK {P:Program} {f:FuncId} {fn:Func} {c:Code} {l:List Value} {w:World} {R:Ending→World→Prop} {n:Nat}
    (hf:P.funcs[f]? = some fn) (hb:fn.body=some c) (hn:fn.ntmps=n) (hl:Nat.ble l.length n=true)
    (h:∀ a,Fr a n [] (zF 0 l)→W none P c (bodyPost P fn R) a w):Calls P f l.toArray w R:=by
  refine (sJ (r:=none) (n:=0)).1 (callsIn_of_wp hf hb trivial ?_ rfl)
  exact h _ (Fr.start rfl (by simpa using hl) (by rw [hn]))
def jA:Op→Bool
  | .defer _=>false
  | _=>true
theorem qc {r:Option Nat} {ρ:Operand→Value} {o:Oper} (h:jA o.op=true):o.semAt (FW r).round ρ=execOp ρ o :=
  Oper.semAt_eq _ _ _ (fun c e=>by rw [e] at h; simp [jA] at h)
def aA (P:Program) (n:Nat) (ds:List Deferred) (L:List (Nat × Value)) (op:Op) (ty:TypeId) (w:World) (v:Value) (w':World):Prop :=
  ∀ a d pos af g,Fr a n ds L→(execOp a.eval ⟨d,op,ty,pos,af,g⟩).run P w=.ok (.value v) w'
def aHL (P:Program) (n:Nat) (ds:List Deferred) (L:List (Nat × Value)) (op:Op) (ty:TypeId) (w:World) (w':World):Prop :=
  ∀ a d pos af g,Fr a n ds L→(execOp a.eval ⟨d,op,ty,pos,af,g⟩).run P w=.ok .skip w'
def tY (P:Program) (n:Nat) (ds:List Deferred) (L:List (Nat × Value)) (op:Op) (ty:TypeId) (w:World) (f:FuncId) (args:Array Value):Prop :=
  ∀ a d pos af g,Fr a n ds L→(execOp a.eval ⟨d,op,ty,pos,af,g⟩).run P w=.ok (.enter f args) w
section
variable {r:Option Nat} {P:Program} {Q:Exit→Act→World→Prop} {ops:Array Oper} {i:Nat} {rest:List Nat} {a:Act} {w w':World} {n:Nat} {ds:List Deferred} {L:List (Nat × Value)}
  {d:Nat} {op:Op} {ty:TypeId} {pos:String} {af:Array Edge} {v:Value}
theorem O.nil (h:Q .normal a w):O r P ops Q [] a w:=h
theorem O.val (hf:Fr a n ds L) (ho:ops[i]? = some ⟨some d,op,ty,pos,af,none⟩) (hnd:jA op=true) (hd:Nat.blt d n=true)
    (hr:aA P n ds L op ty w v w') (k:∀ a',Fr a' n ds ((d,v)::L)→O r P ops Q rest a' w'):O r P ops Q (i::rest) a w:=by
  unfold O wpOpsIn
  simp only [ho]
  rw [if_pos (by simp [Region.wanted])]
  refine ⟨fun _ _=>trivial,?_⟩
  rw [qc (o:=⟨some d,op,ty,pos,af,none⟩) hnd,hr a (some d) pos af none hf]
  exact k _ (hf.put hd v)
theorem O.aHE (hf:Fr a n ds L) (ho:ops[i]? = some ⟨none,op,ty,pos,af,none⟩) (hnd:jA op=true)
    (hr:aA P n ds L op ty w v w') (k:O r P ops Q rest a w'):O r P ops Q (i::rest) a w:=by
  unfold O wpOpsIn
  simp only [ho]
  rw [if_pos (by simp [Region.wanted])]
  refine ⟨fun _ _=>trivial,?_⟩
  rw [qc (o:=⟨none,op,ty,pos,af,none⟩) hnd,hr a none pos af none hf]
  exact k
theorem O.unit (hf:Fr a n ds L) (ho:ops[i]? = some ⟨none,op,ty,pos,af,none⟩) (hnd:jA op=true)
    (hr:aHL P n ds L op ty w w') (k:O r P ops Q rest a w'):O r P ops Q (i::rest) a w:=by
  unfold O wpOpsIn
  simp only [ho]
  rw [if_pos (by simp [Region.wanted])]
  refine ⟨fun _ _=>trivial,?_⟩
  rw [qc (o:=⟨none,op,ty,pos,af,none⟩) hnd,hr a none pos af none hf]
  exact k
theorem O.call {f:FuncId} {args:Array Value} {R:Value→World→Prop} (hf:Fr a n ds L) (ho:ops[i]? = some ⟨some d,op,ty,pos,af,none⟩) (hnd:jA op=true) (hd:Nat.blt d n=true)
    (hr:tY P n ds L op ty w f args) (hc:Calls P f args w fun e w'=>∃ v,e=.returned v∧R v w')
    (k:∀ v w',R v w'→∀ a',Fr a' n ds ((d,v)::L)→O r P ops Q rest a' w'):O r P ops Q (i::rest) a w:=by
  unfold O wpOpsIn
  simp only [ho]
  rw [if_pos (by simp [Region.wanted])]
  refine ⟨fun _ _=>trivial,?_⟩
  rw [qc (o:=⟨some d,op,ty,pos,af,none⟩) hnd,hr a (some d) pos af none hf]
  refine ⟨fun h=>by simp [FW] at h,(sJ).2 (hc.mono ?_)⟩
  rintro e w' ⟨v,rfl,hR⟩
  exact k v w' hR _ (hf.put hd v)
theorem vI {j:Nat} {dj:Nat} {want b:Bool} {dst:Option Tmp} (hf:Fr a n ds L) (hj:(ops[j]?).bind (·.dst)=some dj) (hv:lk L dj=some (.bool b)) :
    Region.wanted ⟨dst,op,ty,pos,af,some (j,want)⟩ (yielded ops a.tmps)=(b == want):=by
  have h:=hf.get dj _ hv
  simp only [Region.wanted,yielded,hj]
  simp [h]
theorem O.skip {j dj:Nat} {want:Bool} (hf:Fr a n ds L) (ho:ops[i]? = some ⟨some d,op,ty,pos,af,some (j,want)⟩) (hj:(ops[j]?).bind (·.dst)=some dj) (hv:lk L dj=some (.bool (!want))) (hd:Nat.blt d n=true)
    (k:∀ a',Fr a' n ds ((d,undef)::L)→O r P ops Q rest a' w):O r P ops Q (i::rest) a w:=by
  unfold O wpOpsIn
  simp only [ho]
  rw [if_neg (by rw [vI hf hj hv]; cases want <;> simp)]
  exact ⟨fun _ _=>trivial,k _ (hf.put hd undef)⟩
theorem O.gval {j dj:Nat} {want:Bool} (hf:Fr a n ds L) (ho:ops[i]? = some ⟨some d,op,ty,pos,af,some (j,want)⟩) (hj:(ops[j]?).bind (·.dst)=some dj) (hv:lk L dj=some (.bool want)) (hnd:jA op=true) (hd:Nat.blt d n=true)
    (hr:aA P n ds L op ty w v w') (k:∀ a',Fr a' n ds ((d,v)::L)→O r P ops Q rest a' w'):O r P ops Q (i::rest) a w:=by
  unfold O wpOpsIn
  simp only [ho]
  rw [if_pos (by rw [vI hf hj hv]; cases want <;> simp)]
  refine ⟨fun _ _=>trivial,?_⟩
  rw [qc (o:=⟨some d,op,ty,pos,af,some (j,want)⟩) hnd,hr a (some d) pos af _ hf]
  exact k _ (hf.put hd v)
theorem O.gcall {f:FuncId} {args:Array Value} {R:Value→World→Prop} {j dj:Nat} {want:Bool} (hf:Fr a n ds L) (ho:ops[i]? = some ⟨some d,op,ty,pos,af,some (j,want)⟩) (hj:(ops[j]?).bind (·.dst)=some dj) (hv:lk L dj=some (.bool want)) (hnd:jA op=true) (hd:Nat.blt d n=true)
    (hr:tY P n ds L op ty w f args) (hc:Calls P f args w fun e w'=>∃ v,e=.returned v∧R v w')
    (k:∀ v w',R v w'→∀ a',Fr a' n ds ((d,v)::L)→O r P ops Q rest a' w'):O r P ops Q (i::rest) a w:=by
  unfold O wpOpsIn
  simp only [ho]
  rw [if_pos (by rw [vI hf hj hv]; cases want <;> simp)]
  refine ⟨fun _ _=>trivial,?_⟩
  rw [qc (o:=⟨some d,op,ty,pos,af,some (j,want)⟩) hnd,hr a (some d) pos af _ hf]
  refine ⟨fun h=>by simp [FW] at h,(sJ).2 (hc.mono ?_)⟩
  rintro e w' ⟨v,rfl,hR⟩
  exact k v w' hR _ (hf.put hd v)
theorem O.cut {l₁ l₂:List Nat} (R:Act→World→Prop) (h₁:O r P ops (fun e a w=>e=.normal∧R a w) l₁ a w) (h₂:∀ a w,R a w→O r P ops Q l₂ a w):O r P ops Q (l₁++l₂) a w:=by
  unfold O at *
  induction l₁ generalizing a w with
  | nil=>exact h₂ _ _ h₁.2
  | cons i t ih =>
    simp only [List.cons_append]
    simp only [wpOpsIn_cons] at h₁ ⊢
    unfold wpOpIn at h₁ ⊢
    split
    · rename_i hn
      simp only [hn] at h₁
      exact ih h₁
    · rename_i o ho
      simp only [ho] at h₁
      split
      · rename_i hw
        rw [if_pos hw] at h₁
        unfold Oper.wpIn at h₁ ⊢
        refine ⟨h₁.1,?_⟩
        have h:=h₁.2
        generalize (o.semAt (FW r).round a.eval).run P w=res at h
        cases res with
        | ok x w' =>
          cases x <;> simp only [Oper.uponIn] at h ⊢
          case value u=>exact ih h
          case skip=>exact ih h
          case defer d=>exact ih h
          case enter f args =>
            refine ⟨h.1,h.2.mono fun e w'' he=>?_⟩
            cases e with
            | returned u=>exact ih he
            | panicked c=>exact absurd he.1 (by simp)
            | outgrown=>obtain ⟨_,_,he⟩:=he; exact absurd he.1 (by simp)
          case row row args=>exact ⟨h.1,h.2.mono fun u w'' he=>ih he⟩
          case round l f tmps assign body =>
            refine ⟨h.1,h.2.mono fun e w'' he=>?_⟩
            cases e with
            | returned u=>exact ih he
            | panicked c=>exact absurd he.1 (by simp)
            | outgrown=>obtain ⟨_,_,he⟩:=he; exact absurd he.1 (by simp)
        | halt x w' =>
          cases x <;> simp only [Oper.uponIn] at h ⊢
          exact absurd h.1 (by simp)
      · rename_i hw
        rw [if_neg hw] at h₁
        exact ⟨h₁.1,ih h₁.2⟩
theorem W.if_ {x y:Code} {c:Operand} {b:Bool} (hf:Fr a n ds L) (hc:ev L c=some (.bool b)) (ht:b=true→W r P x Q a w) (hn:b=false→W r P y Q a w):W r P (.cond c x y) Q a w :=
  wpIn_cond_split (hf.eval hc) ht hn
theorem W.wZ {x y:Code} {c:Operand} (hf:Fr a n ds L) (hc:ev L c=some (.bool true)) (ht:W r P x Q a w):W r P (.cond c x y) Q a w :=
  W.if_ hf hc (fun _=>ht) (fun h=>by cases h)
theorem W.xX {x y:Code} {c:Operand} (hf:Fr a n ds L) (hc:ev L c=some (.bool false)) (hn:W r P y Q a w):W r P (.cond c x y) Q a w :=
  W.if_ hf hc (fun h=>by cases h) (fun _=>hn)
end
section
variable {P:Program} {w:World} {n:Nat} {ds:List Deferred} {L:List (Nat × Value)} {ty:TypeId} {x y c:Operand} {u v:Value}
theorem aA.move (hx:ev L x=some v):aA P n ds L (.move x) ty w v w:=fun a d pos af g hf=>by
  show (Sem.pure _:Sem Next).run P w=_
  rw [hf.eval hx]; rfl
theorem aA.assign (hx:ev L x=some v):aA P n ds L (.assign x) ty w v w:=fun a d pos af g hf=>by
  show (Sem.pure _:Sem Next).run P w=_
  rw [hf.eval hx]; rfl
theorem aA.pick {b:Bool} {u1 u2:Value} (hc:ev L c=some (.bool b)) (hx:ev L x=some u1) (hy:ev L y=some u2) (hv:(if b then u1 else u2)=v):aA P n ds L (.pick c x y) ty w v w:=fun a d pos af g hf=>by
  simp only [execOp,hf.eval hc,hf.eval hx,hf.eval hy,asBool]
  subst hv
  cases b <;> rfl
theorem aA.extract {vs:Array Value} {k:Nat} (hx:ev L x=some (.tuple vs)) (hv:vs[k]? = some v):aA P n ds L (.extract x k) ty w v w:=fun a d pos af g hf=>by
  simp only [execOp,hf.eval hx,Instr.extract,hv]; rfl
theorem aA.nilCheck {b:Addr} (hx:ev L x=some (.pointer (some b))):aA P n ds L (.nilCheck x) ty w (.pointer (some b)) w:=fun a d pos af g hf=>by
  simp only [execOp,hf.eval hx]; rfl
theorem aA.neg {k:IntKind} {m:Int} {t:TypeId} (hx:ev L x=some (.int k m)):aA P n ds L (.unOp .neg t x) ty w (.int k (k.wrap (0-m))) w:=fun a d pos af g hf=>by
  simp only [execOp,hf.eval hx]; rfl
theorem aA.not {b:Bool} {t:TypeId} (hx:ev L x=some (.bool b)):aA P n ds L (.unOp .not t x) ty w (.bool (!b)) w:=fun a d pos af g hf=>by
  simp only [execOp,hf.eval hx]; rfl
variable {t t':TypeId} {k:IntKind} {p q:Int}
theorem o5 {op:BinOp} {res:Value} (hx:ev L x=some (.int k p)) (hy:ev L y=some (.int k q)) (hne:(match op with | .shl | .shr=>false | _=>true)=true)
    (hr:(binOp op t (.int k p) (.int k q)).run P w=.ok res w):aA P n ds L (.binOp op t x y t') ty w res w:=fun a d pos af g hf=>by
  simp only [execOp,hf.eval hx,hf.eval hy]
  have hg:eqGuard op t x y (.int k p) (.int k q)=(pure ():Sem Unit):=by
    unfold eqGuard
    cases op <;> simp at hne ⊢
  rw [hg]
  show (Sem.bind (binOp op t (.int k p) (.int k q)) fun z=>Sem.pure (Next.value z)).run P w=_
  have:=hr
  generalize binOp op t (.int k p) (.int k q)=s at *
  show (s >>= fun z=>pure (Next.value z)).run P w=_
  simp only [Sem.run_bind,this]
  rfl
theorem aA.add (hx:ev L x=some (.int k p)) (hy:ev L y=some (.int k q)):aA P n ds L (.binOp .add t x y t') ty w (.int k (k.wrap (p+q))) w :=
  o5 hx hy rfl (by simp [binOp,Op.intArith])
theorem aA.sub (hx:ev L x=some (.int k p)) (hy:ev L y=some (.int k q)):aA P n ds L (.binOp .sub t x y t') ty w (.int k (k.wrap (p-q))) w :=
  o5 hx hy rfl (by simp [binOp,Op.intArith])
theorem aA.mul (hx:ev L x=some (.int k p)) (hy:ev L y=some (.int k q)):aA P n ds L (.binOp .mul t x y t') ty w (.int k (k.wrap (p*q))) w :=
  o5 hx hy rfl (by simp [binOp,Op.intArith])
end
end Go.SL

namespace Go.SL
open Go
abbrev Hp:=Nat→Option Obj
def hp (w:World):Hp:=fun b=>w.heap[b]?
structure Asr where
  fp:Nat→Prop
  holds:Hp→Prop
  loc:∀ h h':Hp,(∀ b,fp b→h' b=h b)→holds h→holds h'
def Sep (h:Hp) (n:Nat) (old:Nat→Prop):List Asr→Prop
  | []=>True
  | p::t=>(p.holds h∧(∀ b,p.fp b→b<n∧old b)∧∀ q ∈ t,∀ b,p.fp b→¬ q.fp b)∧Sep h n old t
theorem Sep.get {h:Hp} {n:Nat} {old:Nat→Prop} {p:Asr}:∀ {M:List Asr} {i:Nat},Sep h n old M→M[i]? = some p→p.holds h∧(∀ b,p.fp b→b<n∧old b)
  | [],_,_,hi=>by simp at hi
  | q::t,0,hs,hi=>by
    simp only [List.getElem?_cons_zero,Option.some.injEq] at hi
    subst hi
    exact ⟨hs.1.1,hs.1.2.1⟩
  | q::t,i+1,hs,hi=>Sep.get hs.2 (by simpa using hi)
theorem Sep.weak {h h':Hp} {n n':Nat} {old old':Nat→Prop}:∀ {M:List Asr},Sep h n old M→(∀ p ∈ M,∀ b,p.fp b→h' b=h b)→n≤n'→(∀ b,b<n→old b→old' b)→Sep h' n' old' M
  | [],_,_,_,_=>trivial
  | p::t,hs,hk,hn,ho=>⟨⟨p.loc _ _ (hk p (by simp)) hs.1.1,fun b hb=>⟨Nat.lt_of_lt_of_le (hs.1.2.1 b hb).1 hn,ho b (hs.1.2.1 b hb).1 (hs.1.2.1 b hb).2⟩,hs.1.2.2⟩,
    Sep.weak hs.2 (fun q hq=>hk q (by simp [hq])) hn ho⟩
theorem Sep.disj {h:Hp} {n:Nat} {old:Nat→Prop} {p q:Asr}:∀ {M:List Asr} {i j:Nat},Sep h n old M→M[i]? = some p→M[j]? = some q→i≠j→∀ b,p.fp b→¬ q.fp b
  | [],_,_,_,hi,_,_,_,_=>by simp at hi
  | _::t,0,0,_,_,_,hne,_,_=>absurd rfl hne
  | r::t,0,j+1,hs,hi,hj,_,b,hb=>by
    simp only [List.getElem?_cons_zero,Option.some.injEq] at hi
    subst hi
    simp only [List.getElem?_cons_succ] at hj
    exact hs.1.2.2 q (List.mem_of_getElem? hj) b hb
  | r::t,i+1,0,hs,hi,hj,_,b,hb=>by
    simp only [List.getElem?_cons_zero,Option.some.injEq] at hj
    subst hj
    simp only [List.getElem?_cons_succ] at hi
    exact fun hq=>hs.1.2.2 p (List.mem_of_getElem? hi) b hq hb
  | r::t,i+1,j+1,hs,hi,hj,hne,b,hb=>Sep.disj hs.2 (by simpa using hi) (by simpa using hj) (by omega) b hb
theorem Sep.set {h h':Hp} {n n':Nat} {old:Nat→Prop} {p q:Asr}:∀ {M:List Asr} {i:Nat},Sep h n old M→M[i]? = some p→(∀ b,b<n→¬ p.fp b→h' b=h b)→n≤n'→q.holds h' →
    (∀ b,q.fp b→(p.fp b∨n≤b)∧b<n'∧old b)→Sep h' n' old (M.set i q)
  | [],_,_,hi,_,_,_,_=>by simp at hi
  | r::t,0,hs,hi,hk,hn,hq,hf=>by
    simp only [List.getElem?_cons_zero,Option.some.injEq] at hi
    subst hi
    refine ⟨⟨hq,fun b hb=>(hf b hb).2,fun s hs' b hb hsb=>?_⟩,?_⟩
    · obtain ⟨k,hk'⟩:=List.getElem?_of_mem hs'
      have hlt:=((Sep.get hs.2 hk').2 b hsb).1
      rcases (hf b hb).1 with h1 | h1
      · exact hs.1.2.2 s hs' b h1 hsb
      · omega
    · refine Sep.weak hs.2 (fun s hs' b hb=>hk b ?_ (fun hp=>hs.1.2.2 s hs' b hp hb)) hn (fun _ _ h=>h)
      obtain ⟨k,hk'⟩:=List.getElem?_of_mem hs'
      exact ((Sep.get hs.2 hk').2 b hb).1
  | r::t,i+1,hs,hi,hk,hn,hq,hf=>by
    simp only [List.getElem?_cons_succ] at hi
    have hpr:∀ b,r.fp b→¬ p.fp b:=fun b hb=>hs.1.2.2 p (List.mem_of_getElem? hi) b hb
    refine ⟨⟨r.loc _ _ (fun b hb=>hk b (hs.1.2.1 b hb).1 (hpr b hb)) hs.1.1,fun b hb=>⟨Nat.lt_of_lt_of_le (hs.1.2.1 b hb).1 hn,(hs.1.2.1 b hb).2⟩,fun s hs' b hb hsb=>?_⟩,Sep.set hs.2 hi hk hn hq hf⟩
    rcases List.mem_or_eq_of_mem_set hs' with h1 | h1
    · exact hs.1.2.2 s h1 b hb hsb
    · subst h1
      rcases (hf b hsb).1 with h2 | h2
      · exact hpr b hb h2
      · have:=(hs.1.2.1 b hb).1; omega
theorem Sep.sub {h:Hp} {n:Nat} {old:Nat→Prop} {M M':List Asr} (hs:Sep h n old M) (hl:M'.Sublist M):Sep h n old M':=by
  induction hl with
  | slnil=>trivial
  | cons a _ ih=>exact ih hs.2
  | cons_cons a hl ih=>exact ⟨⟨hs.1.1,hs.1.2.1,fun q hq=>hs.1.2.2 q (hl.subset hq)⟩,ih hs.2⟩
theorem Sep.app {h:Hp} {n:Nat} {old:Nat→Prop}:∀ {N M:List Asr},Sep h n old N→Sep h n old M→(∀ p ∈ N,∀ q ∈ M,∀ b,p.fp b→¬ q.fp b)→Sep h n old (N++M)
  | [],_,_,hM,_=>hM
  | p::t,M,hN,hM,hd=>⟨⟨hN.1.1,hN.1.2.1,fun q hq=>by
      rcases List.mem_append.1 hq with h1 | h1
      · exact hN.1.2.2 q h1
      · exact hd p (by simp) q h1⟩,Sep.app hN.2 hM (fun p' hp'=>hd p' (by simp [hp']))⟩
structure St (w0 w:World) (X:Nat→Prop) (B M:List Asr):Prop where
  os:w.os=w0.os
  tape:w.tape=w0.tape
  output:w.output=w0.output
  size:w0.heap.size≤w.heap.size
  old:∀ b,b<w0.heap.size→¬ X b→w.heap[b]? = w0.heap[b]?
  sep:Sep (hp w) w.heap.size (fun b=>X b∨w0.heap.size≤b) M
  bor:∀ p ∈ B,p.holds (hp w0)∧∀ b,p.fp b→b<w0.heap.size∧¬ X b
def noX:Nat→Prop:=fun _=>False
section
variable {w0 w w':World} {X X':Nat→Prop} {B M N:List Asr} {p q:Asr} {i j:Nat}
theorem St.at_ (h:St w0 w X B M) (hi:M[i]? = some p):p.holds (hp w):=(h.sep.get hi).1
theorem St.bat (h:St w0 w X B M) (hi:B[i]? = some p):p.holds (hp w):=by
  obtain ⟨h1,h2⟩:=h.bor p (List.mem_of_getElem? hi)
  exact p.loc _ _ (fun b hb=>h.old b (h2 b hb).1 (h2 b hb).2) h1
theorem St.borrow (hB:∀ p ∈ B,p.holds (hp w)∧∀ b,p.fp b→b<w.heap.size):St w w noX B [] :=
  ⟨rfl,rfl,rfl,Nat.le_refl _,fun _ _ _=>rfl,trivial,fun p hp=>⟨(hB p hp).1,fun b hb=>⟨(hB p hp).2 b hb,fun h=>h⟩⟩⟩
theorem St.drew (h:St w0 w X B M):St w0 w.drew X B M:=⟨h.os,h.tape,h.output,h.size,h.old,h.sep,h.bor⟩
theorem St.sub (h:St w0 w X B M) (hl:N.Sublist M):St w0 w X B N:=⟨h.os,h.tape,h.output,h.size,h.old,h.sep.sub hl,h.bor⟩
theorem St.noB (h:St w0 w X B M):St w0 w X [] M:=⟨h.os,h.tape,h.output,h.size,h.old,h.sep,by simp⟩
theorem St.eqM (h:St w0 w X B M) (e:M=N):St w0 w X B N:=e▸h
theorem St.write (h:St w0 w X B M) (hi:M[i]? = some p) (hos:w'.os=w.os) (htape:w'.tape=w.tape) (hout:w'.output=w.output) (hsz:w.heap.size≤w'.heap.size)
    (hk:∀ b,b<w.heap.size→¬ p.fp b→w'.heap[b]? = w.heap[b]?) (hq:q.holds (hp w')) (hf:∀ b,q.fp b→(p.fp b∨w.heap.size≤b)∧b<w'.heap.size):St w0 w' X B (M.set i q):=by
  refine ⟨hos.trans h.os,htape.trans h.tape,hout.trans h.output,Nat.le_trans h.size hsz,fun b hb hx=>?_,?_,h.bor⟩
  · refine (hk b (Nat.lt_of_lt_of_le hb h.size) (fun hp=>?_)).trans (h.old b hb hx)
    rcases ((h.sep.get hi).2 b hp).2 with h1 | h1
    · exact hx h1
    · omega
  · refine Sep.set h.sep hi (fun b hb hp=>hk b hb hp) hsz hq (fun b hb=>⟨(hf b hb).1,(hf b hb).2,?_⟩)
    rcases (hf b hb).1 with h1 | h1
    · exact ((h.sep.get hi).2 b h1).2
    · exact .inr (Nat.le_trans h.size h1)
theorem St.push (h:St w0 w X B M) (hos:w'.os=w.os) (htape:w'.tape=w.tape) (hout:w'.output=w.output) (hsz:w.heap.size≤w'.heap.size)
    (hk:∀ b,b<w.heap.size→w'.heap[b]? = w.heap[b]?) (hq:q.holds (hp w')) (hf:∀ b,q.fp b→w.heap.size≤b∧b<w'.heap.size):St w0 w' X B (q::M):=by
  refine ⟨hos.trans h.os,htape.trans h.tape,hout.trans h.output,Nat.le_trans h.size hsz,fun b hb hx=>(hk b (Nat.lt_of_lt_of_le hb h.size)).trans (h.old b hb hx),?_,h.bor⟩
  refine ⟨⟨hq,fun b hb=>⟨(hf b hb).2,.inr (Nat.le_trans h.size (hf b hb).1)⟩,fun s hs b hb hsb=>?_⟩,?_⟩
  · obtain ⟨k,hk'⟩:=List.getElem?_of_mem hs
    have:=((h.sep.get hk').2 b hsb).1
    have:=(hf b hb).1
    omega
  · refine Sep.weak h.sep (fun s hs b hb=>hk b ?_) hsz (fun _ _ h=>h)
    obtain ⟨k,hk'⟩:=List.getElem?_of_mem hs
    exact ((h.sep.get hk').2 b hb).1
theorem St.aC3 (h:St w0 w X B M) (hq:q.holds (hp w)) (hf:∀ b,¬ q.fp b):St w0 w X B (q::M) :=
  h.push rfl rfl rfl (Nat.le_refl _) (fun _ _=>rfl) hq (fun b hb=>absurd hb (hf b))
theorem St.conv (h:St w0 w X B M) (hi:M[i]? = some p) (hq:p.holds (hp w)→q.holds (hp w)) (hf:∀ b,q.fp b→p.fp b):St w0 w X B (M.set i q) :=
  h.write hi rfl rfl rfl (Nat.le_refl _) (fun _ _ _=>rfl) (hq (h.at_ hi)) (fun b hb=>⟨.inl (hf b hb),((h.sep.get hi).2 b (hf b hb)).1⟩)
theorem St.call (h:St w0 w X B M) (hc:St w w' noX [] N):St w0 w' X B (N++M):=by
  refine ⟨hc.os.trans h.os,hc.tape.trans h.tape,hc.output.trans h.output,Nat.le_trans h.size hc.size,fun b hb hx=>(hc.old b (Nat.lt_of_lt_of_le hb h.size) (fun h=>h)).trans (h.old b hb hx),?_,h.bor⟩
  refine Sep.app ?_ ?_ ?_
  · refine Sep.weak hc.sep (fun _ _ _ _=>rfl) (Nat.le_refl _) (fun b _ hb=>?_)
    rcases hb with h1 | h1
    · exact h1.elim
    · exact .inr (Nat.le_trans h.size h1)
  · refine Sep.weak h.sep (fun s hs b hb=>?_) hc.size (fun _ _ h=>h)
    obtain ⟨k,hk'⟩:=List.getElem?_of_mem hs
    exact hc.old b ((h.sep.get hk').2 b hb).1 (fun h=>h)
  · intro p hp q hq b hpb hqb
    obtain ⟨k,hk⟩:=List.getElem?_of_mem hp
    obtain ⟨k',hk'⟩:=List.getElem?_of_mem hq
    have h1:=((hc.sep.get hk).2 b hpb).2
    have h2:=((h.sep.get hk').2 b hqb).1
    rcases h1 with h1 | h1
    · exact h1
    · omega
theorem St.aF8 (h:St w0 w X B M) (hc:St w w' X' [] N) (hX:∀ b,X' b→∃ p ∈ M,p.fp b) {M':List Asr} (hM:M'.Sublist M) (hM':∀ p ∈ M',∀ b,p.fp b→¬ X' b):St w0 w' X B (N++M'):=by
  have hXX:∀ b,X' b→b<w.heap.size∧(X b∨w0.heap.size≤b):=fun b hb=>by
    obtain ⟨p,hp,hpb⟩:=hX b hb
    obtain ⟨k,hk⟩:=List.getElem?_of_mem hp
    exact (h.sep.get hk).2 b hpb
  have hs:=h.sep.sub hM
  refine ⟨hc.os.trans h.os,hc.tape.trans h.tape,hc.output.trans h.output,Nat.le_trans h.size hc.size,fun b hb hx=>(hc.old b (Nat.lt_of_lt_of_le hb h.size) (fun hb'=>?_)).trans (h.old b hb hx),?_,h.bor⟩
  · rcases (hXX b hb').2 with h1 | h1
    · exact hx h1
    · omega
  refine Sep.app ?_ ?_ ?_
  · refine Sep.weak hc.sep (fun _ _ _ _=>rfl) (Nat.le_refl _) (fun b _ hb=>?_)
    rcases hb with h1 | h1
    · exact (hXX b h1).2
    · exact .inr (Nat.le_trans h.size h1)
  · refine Sep.weak hs (fun s hs' b hb=>?_) hc.size (fun _ _ h=>h)
    obtain ⟨k,hk'⟩:=List.getElem?_of_mem hs'
    exact hc.old b ((hs.get hk').2 b hb).1 (hM' s hs' b hb)
  · intro p hp q hq b hpb hqb
    obtain ⟨k,hk⟩:=List.getElem?_of_mem hp
    obtain ⟨k',hk'⟩:=List.getElem?_of_mem hq
    have h1:=((hc.sep.get hk).2 b hpb).2
    have h2:=((hs.get hk').2 b hqb).1
    rcases h1 with h1 | h1
    · exact hM' q hq b hqb h1
    · omega
end
def pt (b:Nat) (o:Obj):Asr:=⟨fun k=>k=b,fun h=>h b=some o,fun h h' hk hh=>by rw [hk b rfl]; exact hh⟩
theorem St.wG {w0 w:World} {X:Nat→Prop} {B M:List Asr} {i b:Nat} {o:Obj} (h:St w0 w X B M) (hi:M[i]? = some (pt b o)):w.heap[b]? = some o:=h.at_ hi
theorem St.uh {w0 w:World} {X:Nat→Prop} {B M:List Asr} {i b:Nat} {o:Obj} (h:St w0 w X B M) (hi:B[i]? = some (SL.pt b o)):w.heap[b]? = some o:=h.bat hi
def oQ (h:Hp) (e:TypeId) (sz:Nat) (v:Value) (n:Nat) (xs:List Value):Prop :=
  xs.length=n*sz ∧
  ((v=.slice none 0 0∧n=0) ∨
   ∃ g cap cur,v=.slice (some ⟨g,0,none⟩) n cap∧h g=some (.cells cur e (0,0))∧n≤cap∧cap≤maxLen∧cur.size=cap*sz∧cur.toList.take (n*sz)=xs)
theorem uU {w:World} {e:TypeId} {sz:Nat} {v:Value} {n:Nat} {xs:List Value}:oQ (hp w) e sz v n xs↔w.ownsRow 0 e sz v n xs:=by
  unfold oQ World.ownsRow hp
  simp
def sl (e:TypeId) (sz:Nat) (v:Value) (n:Nat) (xs:List Value):Asr :=
  ⟨fun k=>v.ownBlock=some k,fun h=>oQ h e sz v n xs,fun h h' hk hh=>by
    refine ⟨hh.1,?_⟩
    rcases hh.2 with h1 | ⟨g,cap,cur,rfl,hg,rest⟩
    · exact .inl h1
    · exact .inr ⟨g,cap,cur,rfl,by rw [hk g rfl]; exact hg,rest⟩⟩
def rd (sz:Nat) (A:Option Addr) (n:Nat) (xs:List Value):Asr :=
  ⟨fun k=>∃ a,A=some a∧k=a.block,
   fun h=>xs.length=n*sz∧n≤maxLen∧(0<n→∃ a cur e z,A=some a∧a.spot=none∧h a.block=some (.cells cur e z)∧∀ j u,xs[j]? = some u→cur[a.off+j]? = some u),
   fun h h' hk hh=>⟨hh.1,hh.2.1,fun hn=>by
    obtain ⟨a,cur,e,z,rfl,hs,hb,hc⟩:=hh.2.2 hn
    exact ⟨a,cur,e,z,rfl,hs,by rw [hk a.block ⟨a,rfl,rfl⟩]; exact hb,hc⟩⟩⟩
end Go.SL

namespace Go.SL
open Go
def dB (P:Program) (t:TypeId):Option Nat:=(P.info? t).map (·.size)
def pu (P:Program) (t:TypeId):Option Nat:=(P.info? t).map (·.bytes)
def iQ (P:Program) (t:TypeId):Option Value:=(P.info? t).bind (·.zero)
def aFL:TypeDesc→Bool
  | .struct _ | .array _ _=>true
  | _=>false
def mo (P:Program) (t:TypeId):Option Bool:=(P.underlying t).map aFL
def l7 (P:Program) (t:TypeId) (k:Nat):Option Nat :=
  match P.underlying t with
  | some (.struct fs)=>match fs[k]? with
    | some f=>match dB P f.type with
      | some 0=>none
      | some _=>some f.offset
      | none=>none
    | none=>none
  | _=>none
def ul (P:Program) (t:TypeId):Option (Array (Nat × Nat)) :=
  match P.underlying t with
  | some (.struct fs)=>fs.mapM fun f=>(dB P f.type).map fun s=>(f.offset,s)
  | _=>none
def jC (P:Program) (t:TypeId):Option TypeId :=
  match P.underlying t with
  | some (.slice e)=>some e
  | _=>none
def aAN (P:Program) (t:TypeId):Option (Nat × TypeId) :=
  match P.underlying t with
  | some (.array n e)=>some (n,e)
  | _=>none
def xD (P:Program) (t:TypeId):Option IntKind :=
  match P.underlying t with
  | some (.int k)=>some k
  | _=>none
def au (P:Program) (f:FuncId):Bool :=
  match P.funcs[f]? with
  | some fn=>fn.name != "runtime.NumGoroutine"&&fn.body.isSome
  | none=>false
section
variable {P:Program} {w:World} {t e:TypeId} {m:Nat} {v z:Value} {b:Bool} {k:IntKind}
theorem run_sizeOf (h:dB P t=some m):(sizeOf t).run P w=.ok m w:=by
  unfold dB at h
  obtain ⟨i,hi,rfl⟩:=Option.map_eq_some_iff.1 h
  simp [sizeOf,typeInfo,hi]
theorem vD (h:iQ P t=some z):(zeroValue t).run P w=.ok z w:=by
  unfold iQ at h
  obtain ⟨i,hi,hz⟩:=Option.bind_eq_some_iff.1 h
  simp [zeroValue,typeInfo,hi,hz]
theorem wN (h:mo P t=some b):(isAgg t).run P w=.ok b w:=by
  unfold mo at h
  obtain ⟨d,hd,rfl⟩:=Option.map_eq_some_iff.1 h
  simp only [isAgg,Sem.run_bind,run_underlying hd,Result.andThen]
  cases d <;> rfl
theorem jh (h:jC P t=some e):P.underlying t=some (.slice e):=by
  unfold jC at h
  split at h
  · rename_i e' he; simp only [Option.some.injEq] at h; subst h; exact he
  · cases h
theorem zT (h:aAN P t=some (m,e)):P.underlying t=some (.array m e):=by
  unfold aAN at h
  split at h
  · rename_i e' he; simp only [Option.some.injEq,Prod.mk.injEq] at h; obtain ⟨rfl,rfl⟩:=h; exact he
  · cases h
theorem aBX (h:xD P t=some k):P.underlying t=some (.int k):=by
  unfold xD at h
  split at h
  · rename_i e' he; simp only [Option.some.injEq] at h; subst h; exact he
  · cases h
end
section
variable {P:Program} {w:World} {b o:Nat} {c:Array Value} {e:TypeId} {z:Nat × Nat} {v:Value}
theorem vT (h:w.heap[b]? = some (.cells c e z)):w.cell? ⟨b,o,none⟩=c[o]?:=by simp [World.cell?,h]
theorem aA0 {i:Nat} (h:w.heap[b]? = some (.cells c e z)) (hv:c[o+i]? = some v):(load (Addr.add ⟨b,o,none⟩ i)).run P w=.ok v w:=by
  have ha:Addr.add ⟨b,o,none⟩ i=⟨b,o+i,none⟩:=by unfold Addr.add; split <;> simp_all
  rw [ha]
  simp [load,Sem.run,vT h,hv]
theorem xw (h:w.heap[b]? = some (.cells c e z)):∀ (n i:Nat) (acc:Array Value),o+i+n≤c.size →
    (loadCellsFrom ⟨b,o,none⟩ i n acc).run P w=.ok (acc++c.extract (o+i) (o+i+n)) w
  | 0,i,acc,_=>by
    have he:c.extract (o+i) (o+i+0)=#[]:=by simp; omega
    rw [he,Array.append_empty]; rfl
  | n+1,i,acc,hle=>by
    have hv:c[o+i]? = some (c[o+i]'(by omega)):=Array.getElem?_eq_getElem (by omega)
    simp only [loadCellsFrom,Sem.run_bind,aA0 h hv,Result.andThen]
    rw [xw h n (i+1) _ (by omega)]
    congr 1
    apply Array.ext'
    have hc:o+i<c.toList.length:=by simpa using (by omega:o+i<c.size)
    simp only [Array.toList_append,Array.toList_push,Array.toList_extract,List.extract_eq_take_drop,List.append_assoc]
    congr 1
    have h1:o+(i+1)+n-(o+(i+1))=n:=by omega
    have h2:o+i+(n+1)-(o+i)=n+1:=by omega
    rw [h1,h2,List.drop_eq_getElem_cons hc,List.take_succ_cons]
    simp [Nat.add_assoc]
theorem run_loadCells {n:Nat} (h:w.heap[b]? = some (.cells c e z)) (hle:o+n≤c.size):(loadCells ⟨b,o,none⟩ n).run P w=.ok (c.extract o (o+n)) w:=by
  unfold loadCells
  rw [xw h n 0 #[] (by omega)]
  simp
theorem yB {t:TypeId} (ha:mo P t=some false) (h:w.heap[b]? = some (.cells c e z)) (hv:c[o]? = some v):(loadVar t ⟨b,o,none⟩).run P w=.ok v w:=by
  have:=aA0 (P:=P) (i:=0) h (by simpa using hv)
  simp only [loadVar,Sem.run_bind,wN ha,Result.andThen]
  simpa [Addr.add] using this
theorem xI {t:TypeId} {n:Nat} (ha:mo P t=some true) (hs:dB P t=some n) (h:w.heap[b]? = some (.cells c e z)) (hle:o+n≤c.size) :
    (loadVar t ⟨b,o,none⟩).run P w=.ok (.agg (c.extract o (o+n))) w:=by
  simp only [loadVar,Sem.run_bind,wN ha,Result.andThen,if_true,run_sizeOf hs,run_loadCells h hle]
  rfl
def wr:Array Value→Nat→List Value→Array Value
  | c,_,[]=>c
  | c,o,v::t=>wr (c.setIfInBounds o v) (o+1) t
theorem zX:∀ (l:List Value) (c:Array Value) (o:Nat),(wr c o l).size=c.size
  | [],_,_=>rfl
  | v::t,c,o=>by simp [wr,zX t]
def bV:List Value→Bool
  | []=>true
  | .agg _::_=>false
  | .tuple _::_=>false
  | _::t=>bV t
def tT (w:World) (b:Nat) (o:Obj):World:={ w with heap:=w.heap.setIfInBounds b o }
theorem xR {w:World} {b:Nat} {o o':Obj} (h:w.heap[b]? = some o'):(tT w b o).heap[b]? = some o:=by
  have hb:b<w.heap.size:=(Array.getElem?_eq_some_iff.1 h).1
  simp [tT,hb]
theorem zU {w:World} {b k:Nat} {o:Obj} (h:k≠b):(tT w b o).heap[k]? = w.heap[k]?:=by
  simp only [tT]
  exact Array.getElem?_setIfInBounds_ne (fun e=>h e.symm)
theorem rG {w:World} {b:Nat} {o:Obj}:(tT w b o).heap.size=w.heap.size:=by simp [tT]
theorem aDX {w:World} {b:Nat} {o o':Obj}:tT (tT w b o) b o'=tT w b o':=by simp [tT,Array.setIfInBounds_setIfInBounds]
theorem aDO {w:World} {b:Nat} {o:Obj} (h:w.heap[b]? = some o):tT w b o=w:=by
  have hb:b<w.heap.size:=(Array.getElem?_eq_some_iff.1 h).1
  have:w.heap[b]=o:=by simpa [Array.getElem?_eq_getElem hb] using h
  have hh:w.heap.setIfInBounds b o=w.heap:=by
    apply Array.ext (by simp)
    intro i h1 h2
    by_cases e:b=i
    · subst e; simp [this]
    · exact Array.getElem_setIfInBounds_ne h2 e
  unfold tT
  rw [hh]
theorem aBL (h:w.heap[b]? = some (.cells c e z)):w.setCell ⟨b,o,none⟩ v=tT w b (.cells (c.setIfInBounds o v) e z):=by
  have hb:b<w.heap.size:=(Array.getElem?_eq_some_iff.1 h).1
  have hg:w.heap[b]=.cells c e z:=by simpa [Array.getElem?_eq_getElem hb] using h
  unfold World.setCell tT
  congr 1
  apply Array.ext (by simp)
  intro i h1 h2
  by_cases he:b=i
  · subst he; simp [Array.getElem_modify,hg]
  · rw [Array.getElem_setIfInBounds_ne (by simpa using h1) he]; simp [Array.getElem_modify,he]
theorem aCU {i:Nat} (h:w.heap[b]? = some (.cells c e (0,0))) (hlt:o+i<c.size) (hv:bV [v]=true):(store (Addr.add ⟨b,o,none⟩ i) v).run P w=.ok () (tT w b (.cells (c.setIfInBounds (o+i) v) e (0,0))):=by
  have ha:Addr.add ⟨b,o,none⟩ i=⟨b,o+i,none⟩:=by unfold Addr.add; split <;> simp_all
  have hc:w.cell? ⟨b,o+i,none⟩=some c[o+i]:=by rw [vT h]; exact Array.getElem?_eq_getElem hlt
  have hz:w.frozen? ⟨b,o+i,none⟩=false:=by simp [World.frozen?,h]
  rw [ha,← aBL h]
  cases v <;> simp [bV] at hv <;> simp [store,Sem.run,hc,hz]
theorem u7 {u:Value} {t:List Value} (h:bV (u::t)=true):bV [u]=true∧bV t=true:=by
  cases u <;> simp [bV] at h ⊢ <;> exact h
theorem ru:∀ (l:List Value) (i:Nat) (w:World) (c:Array Value),w.heap[b]? = some (.cells c e (0,0))→o+i+l.length≤c.size→bV l=true →
    (storeCells ⟨b,o,none⟩ l i).run P w=.ok () (tT w b (.cells (wr c (o+i) l) e (0,0)))
  | [],i,w,c,h,_,_=>by simp only [storeCells,wr]; rw [aDO h]; rfl
  | v::t,i,w,c,h,hle,ho=>by
    obtain ⟨h1,h2⟩:=u7 ho
    simp only [List.length_cons] at hle
    have hs1:=aCU (P:=P) (o:=o) (i:=i) h (by omega) h1
    simp only [storeCells,Sem.run_bind,hs1,Result.andThen]
    rw [ru t (i+1) _ _ (xR h) (by simp; omega) h2,aDX]
    simp only [wr,Nat.add_assoc]
theorem xJ {t:TypeId} {n:Nat} (hs:dB P t=some n) (hn:v.cells.size=n) (h:w.heap[b]? = some (.cells c e (0,0))) (hle:o+n≤c.size) (ho:bV v.cells.toList=true) :
    (storeVar t ⟨b,o,none⟩ v).run P w=.ok () (tT w b (.cells (wr c o v.cells.toList) e (0,0))):=by
  simp only [storeVar,Sem.run_bind,run_sizeOf hs,Result.andThen,hn]
  simp only [ne_eq,not_true_eq_false,if_false]
  have:=ru (P:=P) (b:=b) (o:=o) (e:=e) v.cells.toList 0 w c h (by simp; omega) ho
  simpa using this
end
def evA (L:List (Nat × Value)):List Operand→Option (List Value)
  | []=>some []
  | x::t=>match ev L x with
    | some v=>match evA L t with
      | some vs=>some (v::vs)
      | none=>none
    | none=>none
def evP (L:List (Nat × Value)):List (Nat × Operand)→Option (List (Nat × Value))
  | []=>some []
  | (i,x)::t=>match ev L x with
    | some v=>match evP L t with
      | some vs=>some ((i,v)::vs)
      | none=>none
    | none=>none
theorem Fr.evA {a:Act} {n:Nat} {ds:List Deferred} {L:List (Nat × Value)} (h:Fr a n ds L):∀ {xs:List Operand} {vs:List Value},SL.evA L xs=some vs→xs.map a.eval=vs
  | [],vs,hx=>by simp only [SL.evA,Option.some.injEq] at hx; subst hx; rfl
  | x::t,vs,hx=>by
    simp only [SL.evA] at hx
    split at hx
    · rename_i v hv
      split at hx
      · rename_i us hu
        simp only [Option.some.injEq] at hx
        subst hx
        simp [h.eval hv,Fr.evA h hu]
      · cases hx
    · cases hx
theorem Fr.evP {a:Act} {n:Nat} {ds:List Deferred} {L:List (Nat × Value)} (h:Fr a n ds L):∀ {xs:List (Nat × Operand)} {vs:List (Nat × Value)},SL.evP L xs=some vs→xs.map (fun p=>(p.1,a.eval p.2))=vs
  | [],vs,hx=>by simp only [SL.evP,Option.some.injEq] at hx; subst hx; rfl
  | (i,x)::t,vs,hx=>by
    simp only [SL.evP] at hx
    split at hx
    · rename_i v hv
      split at hx
      · rename_i us hu
        simp only [Option.some.injEq] at hx
        subst hx
        simp [h.eval hv,Fr.evP h hu]
      · cases hx
    · cases hx
section
variable {P:Program} {w:World} {n:Nat} {ds:List Deferred} {L:List (Nat × Value)} {ty t t' e:TypeId} {x y c:Operand} {u v z:Value} {b o:Nat} {k:IntKind} {p q:Int} {cs:Array Value} {zz:Nat × Nat}
theorem mU {s:Sem Value} {w':World} (h:s.run P w=.ok v w'):(do pure (Next.value (← s)):Sem Next).run P w=.ok (.value v) w':=by
  simp only [Sem.run_bind,h,Result.andThen]; rfl
theorem aEA {s:Sem Unit} {w':World} (h:s.run P w=.ok () w'):(do s; pure .skip:Sem Next).run P w=.ok .skip w':=by
  simp only [Sem.run_bind,h,Result.andThen]; rfl
theorem aA.lss (hx:ev L x=some (.int k p)) (hy:ev L y=some (.int k q)):aA P n ds L (.binOp .lss t x y t') ty w (.bool (decide (p<q))) w :=
  o5 hx hy rfl (by simp [binOp,Op.intCmp])
theorem aA.leq (hx:ev L x=some (.int k p)) (hy:ev L y=some (.int k q)):aA P n ds L (.binOp .leq t x y t') ty w (.bool (decide (p≤q))) w :=
  o5 hx hy rfl (by simp [binOp,Op.intCmp])
theorem aA.gtr (hx:ev L x=some (.int k p)) (hy:ev L y=some (.int k q)):aA P n ds L (.binOp .gtr t x y t') ty w (.bool (decide (p>q))) w :=
  o5 hx hy rfl (by simp [binOp,Op.intCmp])
theorem aA.geq (hx:ev L x=some (.int k p)) (hy:ev L y=some (.int k q)):aA P n ds L (.binOp .geq t x y t') ty w (.bool (decide (p≥q))) w :=
  o5 hx hy rfl (by simp [binOp,Op.intCmp])
theorem aA.eql (hx:ev L x=some (.int k p)) (hy:ev L y=some (.int k q)):aA P n ds L (.binOp .eql t x y t') ty w (.bool (decide (p=q))) w :=
  o5 hx hy rfl (by simp [binOp,Op.intCmp]; rfl)
theorem aA.neq (hx:ev L x=some (.int k p)) (hy:ev L y=some (.int k q)):aA P n ds L (.binOp .neq t x y t') ty w (.bool (decide (p≠q))) w :=
  o5 hx hy rfl (by simp [binOp,Op.intCmp,bne]; rfl)
theorem aA.quo (hx:ev L x=some (.int k p)) (hy:ev L y=some (.int k q)) (h0:q≠0):aA P n ds L (.binOp .quo t x y t') ty w (.int k (k.wrap (p.tdiv q))) w :=
  o5 hx hy rfl (by simp [binOp,Op.intDiv,h0])
theorem aA.rem (hx:ev L x=some (.int k p)) (hy:ev L y=some (.int k q)) (h0:q≠0):aA P n ds L (.binOp .rem t x y t') ty w (.int k (p.tmod q)) w :=
  o5 hx hy rfl (by simp [binOp,Op.intDiv,h0])
theorem aA.bits {op:BinOp} (hop:(match op with | .and | .or | .xor | .andNot=>true | _=>false)=true) (hx:ev L x=some (.int k p)) (hy:ev L y=some (.int k q)) (hr:(Op.intBits op k p q)=(pure v:Sem Value)):aA P n ds L (.binOp op t x y t') ty w v w :=
  o5 hx hy (by cases op <;> simp at hop ⊢) (by cases op <;> simp at hop <;> simp [binOp,hr])
theorem aA2 {op:BinOp} {k':IntKind} (hop:(match op with | .shl | .shr=>true | _=>false)=true) (hx:ev L x=some (.int k p)) (hy:ev L y=some (.int k' q)) (hr:(Op.shift op k p k' q).run P w=.ok v w):aA P n ds L (.binOp op t x y t') ty w v w:=fun a d pos af g hf=>by
  simp only [execOp,hf.eval hx,hf.eval hy]
  have hg:eqGuard op t x y (.int k p) (.int k' q)=(pure ():Sem Unit):=by
    unfold eqGuard
    cases op <;> simp at hop ⊢
  have hb:binOp op t (.int k p) (.int k' q)=Op.shift op k p k' q:=by cases op <;> simp at hop <;> rfl
  rw [hg,hb]
  show (Sem.bind (Op.shift op k p k' q) fun z=>Sem.pure (Next.value z)).run P w=_
  show (Op.shift op k p k' q >>= fun z=>pure (Next.value z)).run P w=_
  simp only [Sem.run_bind,hr]
  rfl
theorem aA.shl {k':IntKind} (hx:ev L x=some (.int k p)) (hy:ev L y=some (.int k' q)) (h0:0≤q):aA P n ds L (.binOp .shl t x y t') ty w (.int k (k.wrap (p*2^(min q.toNat k.bits)))) w :=
  aA2 rfl hx hy (by simp [Op.shift,Int.not_lt.2 h0])
theorem aA.shr {k':IntKind} (hx:ev L x=some (.int k p)) (hy:ev L y=some (.int k' q)) (h0:0≤q):aA P n ds L (.binOp .shr t x y t') ty w (.int k (p.fdiv (2^(min q.toNat k.bits)))) w :=
  aA2 rfl hx hy (by simp [Op.shift,Int.not_lt.2 h0])
theorem aA.conv {k':IntKind} (ht:(P.underlying t).isSome=true) (hT:xD P t'=some k') (hx:ev L x=some (.int k p)):aA P n ds L (.convert t t' x) ty w (.int k' (k'.wrap p)) w:=fun a d pos af g hf=>by
  obtain ⟨du,hd⟩:=Option.isSome_iff_exists.1 ht
  simp only [execOp,hf.eval hx]
  refine mU ?_
  simp only [convert,Sem.run_bind,run_underlying hd,run_underlying (aBX hT),Result.andThen]
  cases du <;> rfl
theorem gX (b o i:Nat):Addr.add ⟨b,o,none⟩ i=⟨b,o+i,none⟩:=by
  unfold Addr.add
  split
  · rename_i h; rw [h,Nat.add_zero]
  · rfl
theorem aA.field {k off m:Nat} (hF:l7 P t k=some off) (hx:ev L x=some (.pointer (some ⟨b,o,none⟩))) (hq:o+off=m):aA P n ds L (.fieldAddr t x k) ty w (.pointer (some ⟨b,m,none⟩)) w:=fun a d pos af g hf=>by
  simp only [execOp,hf.eval hx]
  refine mU ?_
  unfold l7 at hF
  split at hF
  · rename_i fs hfs
    split at hF
    · rename_i f hfk
      have hpl:∀ s,dB P f.type=some (s+1)→(fieldPlace ⟨b,o,none⟩ f).run P w=.ok ⟨b,o+f.offset,none⟩ w:=fun s hs=>by
        simp only [fieldPlace,Sem.run_bind,run_sizeOf hs,Result.andThen]
        rw [if_neg (by omega),gX]
        rfl
      generalize hs:dB P f.type=os at hF
      match os,hF with
      | some 0,hF=>cases hF
      | none,hF=>cases hF
      | some (s+1),hF =>
        simp only [Option.some.injEq] at hF
        subst hF
        subst hq
        simp only [Instr.fieldAt,Sem.run_bind,run_underlying hfs,Result.andThen,hfk,Instr.sureAddr,Sem.run_pure,hpl s hs]
    · cases hF
  · cases hF
end
end Go.SL

namespace Go.SL
open Go
section
variable {P:Program} {w:World} {n:Nat} {ds:List Deferred} {L:List (Nat × Value)} {ty t t' e:TypeId} {x y c:Operand} {u v z:Value} {b o:Nat} {k:IntKind} {p q:Int} {cs:Array Value} {zz:Nat × Nat}
theorem aA.aR (ha:mo P t=some false) (hx:ev L x=some (.pointer (some ⟨b,o,none⟩))) (hb:w.heap[b]? = some (.cells cs e zz)) (hv:cs[o]? = some v):aA P n ds L (.load t x) ty w v w:=fun a d pos af g hf=>by
  simp only [execOp,hf.eval hx]
  refine mU ?_
  simp only [Instr.loadAt,Instr.sureAddr,Sem.run_bind,Sem.run_pure,Result.andThen,yB ha hb hv]
theorem aA.aBs {m:Nat} {cs':Array Value} (ha:mo P t=some true) (hs:dB P t=some m) (hx:ev L x=some (.pointer (some ⟨b,o,none⟩))) (hb:w.heap[b]? = some (.cells cs e zz)) (hle:o+m≤cs.size) (hv:cs.extract o (o+m)=cs') :
    aA P n ds L (.load t x) ty w (.agg cs') w:=fun a d pos af g hf=>by
  simp only [execOp,hf.eval hx]
  refine mU ?_
  simp only [Instr.loadAt,Instr.sureAddr,Sem.run_bind,Sem.run_pure,Result.andThen,xI ha hs hb hle,hv]
theorem aA.yD {sz len cap j m:Nat} {bo:Nat} (he:jC P t=some e) (hs:dB P e=some sz) (hx:ev L x=some (.slice (some ⟨bo,o,none⟩) len cap)) (hy:ev L y=some (.int k p)) (hj:p=(j:Int)) (hlt:j<len) (hm:o+j*sz=m) :
    aA P n ds L (.indexAddr t x y) ty w (.pointer (some ⟨bo,m,none⟩)) w:=fun a d pos af g hf=>by
  simp only [execOp,hf.eval hx,hf.eval hy]
  refine mU ?_
  subst hj
  subst hm
  have hu:=run_underlying (jh he) w
  simp only [Instr.indexAt,asIntOf,Sem.run_bind,Sem.run_pure,Result.andThen,hu,Bool.and_false,Bool.false_eq_true,if_false]
  have h0:(0:Int)≤(j:Int)∧(j:Int)<(len:Int):=⟨by omega,by omega⟩
  simp only [Sem.run_bind,Result.andThen,if_pos h0,run_sizeOf hs,gX,Int.toNat_natCast,Sem.run_pure]
theorem run_places {fs:Array Field} {pl:Array (Nat × Nat)} (h:fs.mapM (fun f=>(dB P f.type).map fun s=>(f.offset,s))=some pl) (w:World) :
    (fs.mapM fun f=>do pure (f.offset,← sizeOf f.type):Sem (Array (Nat × Nat))).run P w=.ok pl w:=by
  rw [Array.mapM_eq_mapM_toList] at h ⊢
  obtain ⟨l⟩:=fs
  simp only at h ⊢
  obtain ⟨pl',hpl,rfl⟩:=Option.map_eq_some_iff.1 (by simpa using h)
  have key:∀ (l:List Field) (pl':List (Nat × Nat)),l.mapM (fun f=>(dB P f.type).map fun s=>(f.offset,s))=some pl'→(l.mapM fun f=>do pure (f.offset,← sizeOf f.type):Sem (List (Nat × Nat))).run P w=.ok pl' w:=by
    intro l
    induction l with
    | nil=>intro pl' h; simp only [List.mapM_nil] at h ⊢; cases h; rfl
    | cons f t ih =>
      intro pl' h
      simp only [List.mapM_cons,Option.bind_eq_bind,Option.bind_eq_some_iff] at h
      obtain ⟨q,hq,rest,hrest,hpl⟩:=h
      obtain ⟨s,hs,rfl⟩:=Option.map_eq_some_iff.1 hq
      simp only [Option.pure_def,Option.some.injEq] at hpl
      subst hpl
      simp only [List.mapM_cons,Sem.run_bind,run_sizeOf hs,Result.andThen,Sem.run_pure,ih _ hrest]
  have hk:=key l pl' (by simpa using hpl)
  show ((List.toArray <$> (l.mapM fun f=>do pure (f.offset,← sizeOf f.type):Sem (List (Nat × Nat)))):Sem _).run P w=_
  rw [← bind_pure_comp]
  simp only [Sem.run_bind,hk,Result.andThen,Sem.run_pure]
theorem aCW {pl:Array (Nat × Nat)} (h:ul P t=some pl):∃ fs,P.underlying t=some (.struct fs)∧fs.mapM (fun f=>(dB P f.type).map fun s=>(f.offset,s))=some pl:=by
  unfold ul at h
  split at h
  · rename_i fs hfs; exact ⟨fs,hfs,h⟩
  · cases h
theorem aA.dh {pl:Array (Nat × Nat)} {parts:Array (Nat × Operand)} {vs:List (Nat × Value)} {cs':Array Value} (hp:ul P t=some pl) (hz:iQ P t=some z) (hv:evP L parts.toList=some vs) (hb:Instr.fill (pl[·]?) z.cells vs=some cs') :
    aA P n ds L (.build t parts) ty w (.agg cs') w:=fun a d pos af g hf=>by
  obtain ⟨fs,hu,hm⟩:=aCW hp
  have he:(parts.map fun p=>(p.1,a.eval p.2)).toList=vs:=by rw [Array.toList_map]; exact hf.evP hv
  simp only [execOp]
  refine mU ?_
  simp only [Instr.build,Sem.run_bind,vD hz,run_underlying hu,Result.andThen,run_places hm]
  have:(parts.map fun (x:Nat × Operand)=>match x with | (i,x)=>(i,a.eval x)).toList=vs:=he
  rw [this,hb]
  rfl
theorem aA.aGI {len sz:Nat} {parts:Array (Nat × Operand)} {vs:List (Nat × Value)} {cs':Array Value} (he:aAN P t=some (len,e)) (hs:dB P e=some sz) (hz:iQ P t=some z) (hv:evP L parts.toList=some vs) (hb:Instr.fill (fun i=>some (i*sz,sz)) z.cells vs=some cs') :
    aA P n ds L (.build t parts) ty w (.agg cs') w:=fun a d pos af g hf=>by
  have he':(parts.map fun p=>(p.1,a.eval p.2)).toList=vs:=by rw [Array.toList_map]; exact hf.evP hv
  simp only [execOp]
  refine mU ?_
  simp only [Instr.build,Sem.run_bind,vD hz,run_underlying (zT he),Result.andThen,run_sizeOf hs]
  have:(parts.map fun (x:Nat × Operand)=>match x with | (i,x)=>(i,a.eval x)).toList=vs:=he'
  rw [this,hb]
  rfl
theorem oH {bi:Builtin} {args:Array Operand} {at_:Array TypeId} {vs:List Value} {a:Act} {d:Option Tmp} {pos:String} {af:Array Edge} {g:Option (Nat × Bool)} (hf:Fr a n ds L) (hv:evA L args.toList=some vs) {w:World} {res:Result Next}
    (hr:(builtin bi at_ ty (args.map fun | .const _=>true | _=>false) vs.toArray).run P w=res):(execOp a.eval ⟨d,.call ⟨.builtin bi,args,at_⟩,ty,pos,af,g⟩).run P w=res:=by
  have he:args.map a.eval=vs.toArray:=by
    apply Array.ext'
    rw [Array.toList_map,hf.evA hv]
  simp only [execOp,resolve,Sem.run_bind,Sem.run_pure,Result.andThen,invoke,he]
  exact hr
theorem aA.len {len cap:Nat} {A:Option Addr} {at_:Array TypeId} (he:(at_[0]?).bind (jC P)=some e) (hv:ev L x=some (.slice A len cap)):aA P n ds L (.call ⟨.builtin .len,#[x],at_⟩) ty w (.int .i64 (len:Int)) w:=fun a d pos af g hf=>by
  obtain ⟨t,ht,he'⟩:=Option.bind_eq_some_iff.1 he
  refine oH (vs:=[.slice A len cap]) hf (by simp [evA,hv]) ?_
  simp only [builtin]
  refine mU ?_
  simp [Builtin.len_,ht,run_underlying (jh he')]
  rfl
theorem aA.min {at_:Array TypeId} (hx:ev L x=some (.int k p)) (hy:ev L y=some (.int k q)):aA P n ds L (.call ⟨.builtin .min,#[x,y],at_⟩) ty w (.int k (if q<p then q else p)) w:=fun a d pos af g hf=>by
  refine oH (vs:=[.int k p,.int k q]) hf (by simp [evA,hx,hy]) ?_
  simp only [builtin]
  refine mU ?_
  simp [Builtin.min_,Builtin.min2]
theorem aA.max {at_:Array TypeId} (hx:ev L x=some (.int k p)) (hy:ev L y=some (.int k q)):aA P n ds L (.call ⟨.builtin .max,#[x,y],at_⟩) ty w (.int k (if p<q then q else p)) w:=fun a d pos af g hf=>by
  refine oH (vs:=[.int k p,.int k q]) hf (by simp [evA,hx,hy]) ?_
  simp only [builtin]
  refine mU ?_
  simp [Builtin.max_,Builtin.max2]
theorem tY.call {f:Operand} {fid:FuncId} {first captured:Array Value} {args:Array Operand} {at_:Array TypeId} {vs:List Value} {av:Array Value} (hk:au P fid=true) (hx:ev L f=some (.func (.func fid) first captured)) (hv:evA L args.toList=some vs) (ha:first++vs.toArray++captured=av) :
    tY P n ds L (.call ⟨.value f,args,at_⟩) ty w fid av:=fun a d pos af g hf=>by
  have he:args.map a.eval=vs.toArray:=by
    apply Array.ext'
    rw [Array.toList_map,hf.evA hv]
  subst ha
  unfold au at hk
  simp only [execOp,resolve,Sem.run_bind,Sem.run_pure,Result.andThen,he,hf.eval hx,Deferred.ofValue,invoke,callFunc]
  split at hk
  · rename_i fn hfn
    simp only [Bool.and_eq_true,bne_iff_ne,ne_eq] at hk
    obtain ⟨h1,h2⟩:=hk
    have h3:fn.body.isNone=false:=by cases hb:fn.body <;> simp_all
    have hp:(program).run P w=.ok P w:=rfl
    simp only [hp,hfn]
    simp [h1,h3]
  · cases hk
end
section
variable {r:Option Nat} {P:Program} {Q:Exit→Act→World→Prop} {ops:Array Oper} {i:Nat} {rest:List Nat} {a:Act} {w w0 w':World} {n:Nat} {ds:List Deferred} {L:List (Nat × Value)}
  {d:Nat} {op:Op} {ty t e:TypeId} {pos:String} {af:Array Edge} {v z:Value} {X:Nat→Prop} {B M M':List Asr} {x y:Operand} {b o j:Nat} {cs:Array Value}
theorem St.alloc (h:St w0 w X B M) (o:Obj):St w0 (w.alloc o) X B (pt w.heap.size o::M):=by
  refine h.push (w':=w.alloc o) rfl rfl rfl (by simp) (fun b hb=>heap_alloc_old w o b hb) (heap_alloc_new w o) (fun b hb=>?_)
  have hb:b=w.heap.size:=hb
  subst hb
  exact ⟨Nat.le_refl _,by simp⟩
theorem O.alloc (hf:Fr a n ds L) (hS:St w0 w X B M) (ho:ops[i]? = some ⟨some d,.alloc t,ty,pos,af,none⟩) (hd:Nat.blt d n=true) (hz:iQ P t=some z) (hc:z.cells=cs)
    (k:∀ b w' a',w0.heap.size≤b→St w0 w' X B (pt b (.cells cs t (0,0))::M)→Fr a' n ds ((d,.pointer (some ⟨b,0,none⟩))::L)→O r P ops Q rest a' w'):O r P ops Q (i::rest) a w:=by
  subst hc
  refine O.val (w':=w.alloc (.cells z.cells t)) hf ho rfl hd (v:=.pointer (some ⟨w.heap.size,0,none⟩)) ?_ (fun a' hf'=>k _ _ a' hS.size (hS.alloc _) hf')
  intro a d pos af g hf
  simp only [execOp]
  refine mU ?_
  simp only [Instr.alloc,Sem.run_bind,vD hz,Result.andThen,newVar,newRow,newObj,Sem.run,Sem.run_pure]
  rfl
theorem O.box (hf:Fr a n ds L) (hS:St w0 w X B M) (ho:ops[i]? = some ⟨some d,.box t x,ty,pos,af,none⟩) (hd:Nat.blt d n=true) (hx:ev L x=some v) (hc:v.cells=cs)
    (k:∀ b w' a',w0.heap.size≤b→St w0 w' X B (pt b (.cells cs t (0,0))::M)→Fr a' n ds ((d,.pointer (some ⟨b,0,none⟩))::L)→O r P ops Q rest a' w'):O r P ops Q (i::rest) a w:=by
  subst hc
  refine O.val (w':=w.alloc (.cells v.cells t)) hf ho rfl hd (v:=.pointer (some ⟨w.heap.size,0,none⟩)) ?_ (fun a' hf'=>k _ _ a' hS.size (hS.alloc _) hf')
  intro a d pos af g hf
  simp only [execOp,hf.eval hx]
  refine mU ?_
  simp only [Instr.box,Sem.run_bind,Result.andThen,newVar,newRow,newObj,Sem.run,Sem.run_pure]
  rfl
theorem St.tT (h:St w0 w X B M) (hi:M[j]? = some (pt b (.cells cs e (0,0)))) (o:Obj):St w0 (SL.tT w b o) X B (M.set j (pt b o)):=by
  have hb:w.heap[b]? = some _:=h.at_ hi
  exact h.write (w':=SL.tT w b o) hi rfl rfl rfl (by rw [rG]; exact Nat.le_refl _) (fun k _ hk=>zU hk) (xR hb) (fun k hk=>⟨.inl hk,by
    have hk:k=b:=hk
    subst hk
    rw [rG]
    exact (Array.getElem?_eq_some_iff.1 hb).1⟩)
theorem O.store {m:Nat} {cs':Array Value} (hf:Fr a n ds L) (hS:St w0 w X B M) (ho:ops[i]? = some ⟨none,.store t x y,ty,pos,af,none⟩) (hx:ev L x=some (.pointer (some ⟨b,o,none⟩))) (hy:ev L y=some v)
    (hs:dB P t=some m) (hv:v.cells.size=m) (h1:bV v.cells.toList=true) (hM:M[j]? = some (pt b (.cells cs e (0,0)))) (hle:o+m≤cs.size) (hc:wr cs o v.cells.toList=cs') (hM':M.set j (pt b (.cells cs' e (0,0)))=M')
    (k:∀ w',St w0 w' X B M'→O r P ops Q rest a w'):O r P ops Q (i::rest) a w:=by
  subst hc
  subst hM'
  refine O.unit (w':=tT w b (.cells (wr cs o v.cells.toList) e (0,0))) hf ho rfl ?_ (k _ (hS.tT hM _))
  intro a d pos af g hf
  simp only [execOp,hf.eval hx,hf.eval hy]
  refine aEA ?_
  simp only [Instr.storeAt,Instr.sureAddr,Sem.run_bind,Sem.run_pure,Result.andThen,xJ hs hv (hS.wG hM) hle h1]
theorem O.buildSlice {m len:Nat} {parts:Array (Nat × Operand)} {vs:List (Nat × Value)} {cs' zs:Array Value} (hf:Fr a n ds L) (hS:St w0 w X B M) (ho:ops[i]? = some ⟨some d,.buildSlice t len parts,ty,pos,af,none⟩) (hd:Nat.blt d n=true)
    (he:jC P t=some e) (hs:dB P e=some m) (hz:iQ P e=some z) (h0:Nat.ble (len*m) 16777216=true) (h1:Nat.blt 0 (len*m)=true) (hzs:((List.range (len*m)).map (z.cells[· % z.cells.size]!)).toArray=zs)
    (hv:evP L parts.toList=some vs) (hb:Instr.fill (fun i=>some (i*m,m)) zs vs=some cs')
    (k:∀ b w' a',w0.heap.size≤b→St w0 w' X B (pt b (.cells cs' e (0,0))::M)→Fr a' n ds ((d,.slice (some ⟨b,0,none⟩) len len)::L)→O r P ops Q rest a' w'):O r P ops Q (i::rest) a w:=by
  have hzs':(Array.range (len*m)).map (z.cells[· % z.cells.size]!)=zs:=by
    rw [← hzs]
    apply Array.ext'
    simp
  subst hzs'
  refine O.val (w':=w.alloc (.cells cs' e)) hf ho rfl hd (v:=.slice (some ⟨w.heap.size,0,none⟩) len len) ?_ (fun a' hf'=>k _ _ a' hS.size (hS.alloc _) hf')
  intro a d pos af g hf
  have he':(parts.map fun p=>(p.1,a.eval p.2)).toList=vs:=by rw [Array.toList_map]; exact hf.evP hv
  have h0:¬ len*m>16777216:=by have:=Nat.le_of_ble_eq_true h0; omega
  have h1 : ¬ len * m = 0 := by have : 0 < len * m := by simpa using h1
                                omega
  simp only [execOp]
  refine mU ?_
  simp only [Instr.buildSlice,Sem.run_bind,run_underlying (jh he),Result.andThen,run_sizeOf hs]
  rw [if_neg (by simpa using h0)]
  simp only [Sem.run_bind,Result.andThen,Sem.run_pure,if_neg h1,vD hz]
  have:(parts.map fun (x:Nat × Operand)=>match x with | (i,x)=>(i,a.eval x)).toList=vs:=he'
  rw [this,hb]
  simp only [Sem.run_bind,Result.andThen,newRow,newObj,Sem.run,Sem.run_pure]
  rfl
end
end Go.SL

namespace Go.SL
open Go
def yo (a:Act):ResultVar→Sem Value
  | .tmp t=>pure (a.tmps.getD t undef)
  | .cell b t=>do loadVar t (← asAddr (a.tmps.getD b undef))
def aJ (P:Program) (n:Nat) (L:List (Nat × Value)) (w:World) (rv:ResultVar) (v:Value):Prop:=∀ a,Fr a n [] L→(yo a rv).run P w=.ok v w
section
variable {P:Program} {n:Nat} {L:List (Nat × Value)} {w:World} {t:Nat} {v:Value} {b o:Nat} {cs cs':Array Value} {e ty:TypeId} {z:Nat × Nat} {m:Nat}
theorem Fr.getD {a:Act} {ds:List Deferred} (h:Fr a n ds L) (hv:lk L t=some v):a.tmps.getD t undef=v:=by
  have:=h.get t v hv
  simp only [Array.getD_eq_getD_getElem?,this,Option.getD_some]
theorem aJ.tmp (hv:lk L t=some v):aJ P n L w (.tmp t) v:=fun a hf=>by
  simp only [yo,hf.getD hv,Sem.run_pure]
theorem aJ.cell1 (hx:lk L t=some (.pointer (some ⟨b,o,none⟩))) (ha:mo P ty=some false) (hb:w.heap[b]? = some (.cells cs e z)) (hv:cs[o]? = some v):aJ P n L w (.cell t ty) v:=fun a hf=>by
  simp only [yo,hf.getD hx,asAddr,Sem.run_bind,Sem.run_pure,Result.andThen,yB ha hb hv]
theorem aJ.dQ (hx:lk L t=some (.pointer (some ⟨b,o,none⟩))) (ha:mo P ty=some true) (hs:dB P ty=some m) (hb:w.heap[b]? = some (.cells cs e z)) (hle:o+m≤cs.size) (hv:cs.extract o (o+m)=cs'):aJ P n L w (.cell t ty) (.agg cs'):=fun a hf=>by
  simp only [yo,hf.getD hx,asAddr,Sem.run_bind,Sem.run_pure,Result.andThen,xI ha hs hb hle,hv]
variable {fn:Func} {R:Ending→World→Prop} {a:Act} {r1 r2 r3 r4:ResultVar} {v1 v2 v3 v4:Value}
theorem uf (a:Act):results fn a.tmps=(do let vs ← fn.results.mapM (yo a); pure (if h:vs.size=1 then vs[0] else .tuple vs):Sem Value):=by
  have h:yo a=(fun | .tmp t=>pure (a.tmps.getD t undef) | .cell b t=>do loadVar t (← asAddr (a.tmps.getD b undef)):ResultVar→Sem Value):=by
    funext rv
    cases rv <;> rfl
  rw [h]
  rfl
theorem aDD (hf:Fr a n [] L) (hr:fn.results=#[]) (hR:R (.returned (.tuple #[])) w):bodyPost P fn R .ret a w :=
  ⟨hf.defers,_,by rw [uf,hr]; simp,hR⟩
theorem bU (hf:Fr a n [] L) (hr:fn.results=#[r1]) (h1:aJ P n L w r1 v1) (hR:R (.returned v1) w):bodyPost P fn R .ret a w :=
  ⟨hf.defers,v1,by rw [uf,hr]; simp [h1 a hf],hR⟩
theorem bf (hf:Fr a n [] L) (hr:fn.results=#[r1,r2]) (h1:aJ P n L w r1 v1) (h2:aJ P n L w r2 v2) (hR:R (.returned (.tuple #[v1,v2])) w):bodyPost P fn R .ret a w :=
  ⟨hf.defers,_,by rw [uf,hr]; simp [h1 a hf,h2 a hf],hR⟩
theorem uo (hf:Fr a n [] L) (hr:fn.results=#[r1,r2,r3]) (h1:aJ P n L w r1 v1) (h2:aJ P n L w r2 v2) (h3:aJ P n L w r3 v3) (hR:R (.returned (.tuple #[v1,v2,v3])) w):bodyPost P fn R .ret a w :=
  ⟨hf.defers,_,by rw [uf,hr]; simp [h1 a hf,h2 a hf,h3 a hf],hR⟩
theorem y9 (h:bodyPost P fn R .ret a w):bodyPost P fn R .normal a w:=h
end
section
variable {h:Hp} {e:TypeId} {sz:Nat} {v:Value} {n:Nat} {xs:List Value}
theorem oQ.form (hs:oQ h e sz v n xs) (hn:0<n):∃ g cap,v=.slice (some ⟨g,0,none⟩) n cap:=by
  rcases hs.2 with ⟨_,h0⟩ | ⟨g,cap,cur,rfl,_⟩
  · omega
  · exact ⟨g,cap,rfl⟩
theorem oQ.len {A:Option Addr} {len cap:Nat} (hs:oQ h e sz (.slice A len cap) n xs):len=n:=by
  rcases hs.2 with ⟨h1,h0⟩ | ⟨g,cap',cur,h1,_⟩
  · injection h1 with _ h2 _; omega
  · injection h1
theorem oQ.block {g o len cap:Nat} (hs:oQ h e sz (.slice (some ⟨g,o,none⟩) len cap) n xs):∃ cur,o=0∧h g=some (.cells cur e (0,0))∧cur.size=cap*sz∧cur.toList.take (n*sz)=xs∧n≤cap∧cap≤maxLen:=by
  rcases hs.2 with ⟨h1,_⟩ | ⟨g',cap',cur,h1,hg,h2,h3,h4,h5⟩
  · cases h1
  · injection h1 with h1 h1' h1''
    injection h1 with h1
    injection h1 with h1 h6
    subst h1'' h1
    exact ⟨cur,h6,hg,h4,h5,h2,h3⟩
theorem aD0 {cur xs:List Value} {j k:Nat} {u:Value} (ht:cur.take k=xs) (hv:xs[j]? = some u):cur[j]? = some u:=by
  subst ht
  rw [List.getElem?_take] at hv
  split at hv
  · exact hv
  · cases hv
end
section
variable {r:Option Nat} {P:Program} {Q:Exit→Act→World→Prop} {ops:Array Oper} {i:Nat} {rest:List Nat} {a:Act} {w w0 w':World} {n:Nat} {ds:List Deferred} {L:List (Nat × Value)}
  {d:Nat} {op:Op} {ty t e:TypeId} {pos:String} {af:Array Edge} {v z:Value} {X:Nat→Prop} {B M M':List Asr} {x y:Operand} {b o j:Nat} {cs:Array Value}
theorem zy {cur:Array Value} {o m:Nat} {us:List Value} (hl:us.length=m) (h:∀ j u,us[j]? = some u→cur[o+j]? = some u):cur.extract o (o+m)=us.toArray∧(0<m→o+m≤cur.size):=by
  have key:∀ j,j<m→∃ u,us[j]? = some u∧cur[o+j]? = some u:=fun j hj=>by
    have hj':j<us.length:=by omega
    exact ⟨us[j],List.getElem?_eq_getElem hj',h j _ (List.getElem?_eq_getElem hj')⟩
  have hsz:0<m→o+m≤cur.size:=fun hm=>by
    obtain ⟨u,_,h2⟩:=key (m-1) (by omega)
    have:=(Array.getElem?_eq_some_iff.1 h2).1
    omega
  refine ⟨?_,hsz⟩
  apply Array.ext'
  apply List.ext_getElem?
  intro j
  simp only [Array.toList_extract,List.extract_eq_take_drop]
  by_cases hj:j<m
  · obtain ⟨u,h1,h2⟩:=key j hj
    rw [h1,List.getElem?_take,if_pos (by omega),List.getElem?_drop,Array.getElem?_toList,h2]
  · have ha:us[j]? = none:=List.getElem?_eq_none (by omega)
    have hb:((cur.toList.drop o).take (o+m-o))[j]? = none:=List.getElem?_eq_none (by rw [List.length_take]; omega)
    rw [ha,hb]
theorem aAW {l:List Value} (h:bV l=true):∀ u ∈ l,u.oneCell'=true:=by
  intro u hu
  induction l with
  | nil=>cases hu
  | cons v t ih =>
    obtain ⟨h1,h2⟩:=u7 h
    rcases List.mem_cons.1 hu with rfl | hu
    · cases u <;> first | rfl | (simp [bV] at h1)
    · exact ih h2 hu
theorem O.append {sz by_ N m c:Nat} {ad:Addr} {xs news:List Value} (hf:Fr a n ds L) (hS:St w0 w X B M) (ho:ops[i]? = some ⟨some d,.call ⟨.builtin .append,#[x,y],#[t,t]⟩,ty,pos,af,none⟩) (hd:Nat.blt d n=true)
    (he:jC P t=some e) (hs:dB P e=some sz) (hby:pu P e=some by_) (hz:iQ P e=some z) (hzs:z.cells.size=sz) (h0:0<sz) (hx:ev L x=some v) (hy:ev L y=some (.slice (some ad) m c))
    (hM:M[j]? = some (sl e sz v N xs)) (hl:news.length=m*sz) (hsrc:∀ k u,news[k]? = some u→w.cell? (ad.add k)=some u) (h1:bV news=true) (hmax:N+m≤maxLen) (hb:(N+m)*by_≤140737488355328)
    (k:∀ v' w' a',St w0 w' X B (M.set j (sl e sz v' (N+m) (xs++news)))→Fr a' n ds ((d,v')::L)→O r P ops Q rest a' w'):O r P ops Q (i::rest) a w:=by
  unfold dB at hs
  unfold pu at hby
  unfold iQ at hz
  obtain ⟨inf,hi,hsz⟩:=Option.map_eq_some_iff.1 hs
  rw [hi] at hby hz
  simp only [Option.map_some,Option.some.injEq,Option.bind_some] at hby hz
  have hown:=uU.1 (hS.at_ hM)
  obtain ⟨v',w1,hr,ho',hg,_,hblk⟩:=run_append_own_at (P:=P) w 0 t ty e inf z sz by_ (jh he) hi hz hsz hby hzs h0 v N xs hown ad m c news hl hsrc (aAW h1) hmax hb (Nat.zero_le _)
  refine O.val (w':=w1) (v:=v') hf ho rfl hd ?_ (fun a' hf'=>k v' w1 a' ?_ hf')
  · intro a d pos af g hf
    refine oH (vs:=[v,.slice (some ad) m c]) hf (by simp [evA,hx,hy]) ?_
    simp only [builtin]
    exact mU hr
  · refine hS.write hM hg.os hg.tape hg.output hg.size (fun k hk hne=>hg.block k hk (fun e=>hne e.symm)) (uU.2 ho') (fun k hk=>?_)
    have hk:v'.ownBlock=some k:=hk
    have hlt:=(ho'.lt k hk).2
    refine ⟨?_,hlt⟩
    rcases hblk with h2 | h2
    · exact .inl (h2.symm.trans hk)
    · rw [h2] at hk; injection hk with hk; exact .inr (by omega)
theorem O.aCn {sz by_ N m c bo jj:Nat} {xs:List Value} {zz:Nat × Nat} (hf:Fr a n ds L) (hS:St w0 w X B M) (ho:ops[i]? = some ⟨some d,.call ⟨.builtin .append,#[x,y],#[t,t]⟩,ty,pos,af,none⟩) (hd:Nat.blt d n=true)
    (he:jC P t=some e) (hs:dB P e=some sz) (hby:pu P e=some by_) (hz:iQ P e=some z) (hzs:z.cells.size=sz) (h0:Nat.blt 0 sz=true) (hx:ev L x=some v) (hy:ev L y=some (.slice (some ⟨bo,0,none⟩) m c))
    (hM:M[j]? = some (sl e sz v N xs)) (hMs:M[jj]? = some (pt bo (.cells cs e zz))) (hl:cs.size=m*sz) (h1:bV cs.toList=true) (hmax:N+m≤maxLen) (hb:(N+m)*by_≤140737488355328)
    (k:∀ v' w' a',St w0 w' X B (M.set j (sl e sz v' (N+m) (xs++cs.toList)))→Fr a' n ds ((d,v')::L)→O r P ops Q rest a' w'):O r P ops Q (i::rest) a w:=by
  refine O.append hf hS ho hd he hs hby hz hzs (by simpa using h0) hx hy hM (news:=cs.toList) (by simpa using hl) (fun k u hu=>?_) h1 hmax hb k
  rw [gX,vT (hS.wG hMs),← Array.getElem?_toList,Nat.zero_add]
  exact hu
theorem St.aDj (h:St w0 w X B M) (e:TypeId) (sz:Nat):St w0 w X B (SL.sl e sz (.slice none 0 0) 0 []::M) :=
  h.aC3 ⟨by simp,.inl ⟨rfl,rfl⟩⟩ (fun b hb=>by cases hb)
theorem O.make {sz by_ N:Nat} {k1 k2:IntKind} (hf:Fr a n ds L) (hS:St w0 w X B M) (ho:ops[i]? = some ⟨some d,.makeSlice t x y,ty,pos,af,none⟩) (hd:Nat.blt d n=true)
    (he:jC P t=some e) (hs:dB P e=some sz) (hby:pu P e=some by_) (hz:iQ P e=some z) (hx:ev L x=some (.int k1 (N:Int))) (hy:ev L y=some (.int k2 (N:Int))) (hmax:N≤maxLen) (hb:by_*N≤140737488355328)
    (k:∀ b w' a',w0.heap.size≤b→St w0 w' X B (sl e sz (.slice (some ⟨b,0,none⟩) N N) N (madeCells z.cells (N*sz)).toList::M)→Fr a' n ds ((d,.slice (some ⟨b,0,none⟩) N N)::L)→O r P ops Q rest a' w'):O r P ops Q (i::rest) a w:=by
  unfold dB at hs
  unfold pu at hby
  unfold iQ at hz
  obtain ⟨inf,hi,hsz⟩:=Option.map_eq_some_iff.1 hs
  rw [hi] at hby hz
  simp only [Option.map_some,Option.some.injEq,Option.bind_some] at hby hz
  subst hsz
  subst hby
  have h63:N≤9223372036854775807:=by simp only [maxLen] at hmax; omega
  have hbb:(inf.bytes:Int)*(N:Int)≤281474976710656:=by
    have h:((inf.bytes*N:Nat):Int)≤281474976710656:=by omega
    rwa [Int.natCast_mul] at h
  have hr:=run_make (P:=P) w t e inf z (jh he) hi hz k1 k2 N N (by omega) (by omega) hbb (by omega)
  simp only [Int.toNat_natCast] at hr
  refine O.val (w':=w.alloc (.cells (madeCells z.cells (N*inf.size)) e)) (v:=.slice (some ⟨w.heap.size,0,none⟩) N N) hf ho rfl hd ?_ (fun a' hf'=>k w.heap.size _ a' hS.size ?_ hf')
  · intro a d pos af g hf
    simp only [execOp,hf.eval hx,hf.eval hy]
    exact mU hr
  · refine hS.push rfl rfl rfl (by simp) (fun b hb=>heap_alloc_old w _ b hb) ?_ (fun b hb=>?_)
    · have hlen:(madeCells z.cells (N*inf.size)).size=N*inf.size:=by simp [madeCells]
      refine ⟨by simp [hlen],.inr ⟨w.heap.size,N,_,rfl,heap_alloc_new w _,Nat.le_refl _,hmax,hlen,?_⟩⟩
      rw [List.take_of_length_le (by simp [hlen])]
    · have hb:some w.heap.size=some b:=hb
      injection hb with hb
      subst hb
      exact ⟨Nat.le_refl _,by simp⟩
end
end Go.SL

namespace Go.SL
open Go
section
variable {r:Option Nat} {P:Program} {Q:Exit→Act→World→Prop} {ops:Array Oper} {i:Nat} {rest l:List Nat} {a:Act} {w w0 w':World} {n:Nat} {ds:List Deferred} {L:List (Nat × Value)}
  {d:Nat} {op:Op} {ty t e:TypeId} {pos:String} {af:Array Edge} {v z:Value} {X:Nat→Prop} {B M M':List Asr} {x y:Operand} {b o j:Nat} {cs:Array Value}
theorem W.aU {id:Nat} (hl:List.range ops.size=l) (h:O r P ops Q l a w):W r P (.region id ops false) Q a w:=W.region (hl▸h)
theorem W.fV {x y:Code} (R:Act→World→Prop) (h:W r P x (Exit.then R Q) a w) (hy:∀ a w,R a w→W r P y Q a w):W r P (.seq x y) Q a w:=by
  refine W.seq (h.mono fun e a w hq=>?_)
  cases e <;> first | exact hq | exact hy a w hq
theorem yC {j dj:Nat} {want:Bool} {dst:Option Tmp} (hf:Fr a n ds L) (hj:(ops[j]?).bind (·.dst)=some dj) (hv:lk L dj=some undef) :
    Region.wanted ⟨dst,op,ty,pos,af,some (j,want)⟩ (yielded ops a.tmps)=false:=by
  have h:=hf.get dj _ hv
  simp only [Region.wanted,yielded,hj]
  simp [h,undef]
theorem O.gY {jj dj:Nat} {want c:Bool} (hf:Fr a n ds L) (ho:ops[i]? = some ⟨some d,op,ty,pos,af,some (jj,want)⟩) (hj:(ops[jj]?).bind (·.dst)=some dj) (hv:lk L dj=some (.bool c)) (hc:c=!want) (hd:Nat.blt d n=true)
    (k:∀ a',Fr a' n ds ((d,undef)::L)→O r P ops Q rest a' w):O r P ops Q (i::rest) a w:=by
  subst hc
  exact O.skip hf ho hj hv hd k
theorem O.dN {jj dj:Nat} {want:Bool} (hf:Fr a n ds L) (ho:ops[i]? = some ⟨some d,op,ty,pos,af,some (jj,want)⟩) (hj:(ops[jj]?).bind (·.dst)=some dj) (hv:lk L dj=some undef) (hd:Nat.blt d n=true)
    (k:∀ a',Fr a' n ds ((d,undef)::L)→O r P ops Q rest a' w):O r P ops Q (i::rest) a w:=by
  unfold O wpOpsIn
  simp only [ho]
  rw [if_neg (by rw [yC hf hj hv]; simp)]
  exact ⟨fun _ _=>trivial,k _ (hf.put hd undef)⟩
theorem O.qW {jj dj:Nat} {want c:Bool} (hf:Fr a n ds L) (ho:ops[i]? = some ⟨some d,op,ty,pos,af,some (jj,want)⟩) (hj:(ops[jj]?).bind (·.dst)=some dj) (hv:lk L dj=some (.bool c)) (hc:c=want) (hnd:jA op=true) (hd:Nat.blt d n=true)
    (hr:aA P n ds L op ty w v w') (k:∀ a',Fr a' n ds ((d,v)::L)→O r P ops Q rest a' w'):O r P ops Q (i::rest) a w:=by
  subst hc
  exact O.gval hf ho hj hv hnd hd hr k
theorem O.aGC {f:FuncId} {args:Array Value} {R:Value→World→Prop} {jj dj:Nat} {want c:Bool} (hf:Fr a n ds L) (ho:ops[i]? = some ⟨some d,op,ty,pos,af,some (jj,want)⟩) (hj:(ops[jj]?).bind (·.dst)=some dj) (hv:lk L dj=some (.bool c)) (hc:c=want) (hnd:jA op=true) (hd:Nat.blt d n=true)
    (hr:tY P n ds L op ty w f args) (hcall:Calls P f args w fun e w'=>∃ v,e=.returned v∧R v w')
    (k:∀ v w',R v w'→∀ a',Fr a' n ds ((d,v)::L)→O r P ops Q rest a' w'):O r P ops Q (i::rest) a w:=by
  subst hc
  exact O.gcall hf ho hj hv hnd hd hr hcall k
theorem O.fH {l₁ l₂:List Nat} (R:Act→World→Prop) (hl:l=l₁++l₂) (h₁:O r P ops (fun e a w=>e=.normal∧R a w) l₁ a w) (h₂:∀ a w,R a w→O r P ops Q l₂ a w):O r P ops Q l a w:=by
  subst hl
  exact O.cut R h₁ h₂
theorem W.cK {x y:Code} {c:Operand} {p:Prop} {inst:Decidable p} (hf:Fr a n ds L) (hc:ev L c=some (.bool (@decide p inst))) (ht:p→W r P x Q a w) (hn:¬ p→W r P y Q a w):W r P (.cond c x y) Q a w :=
  W.if_ hf hc (fun h=>ht (of_decide_eq_true h)) (fun h=>hn (of_decide_eq_false h))
theorem aGO {p:Int} (h:-9223372036854775808≤p∧p≤9223372036854775807):IntKind.i64.wrap p=p:=by
  rw [IntKind.wrap_i64]; omega
variable {t':TypeId} {p q:Int}
theorem aA.aGp (hx:ev L x=some (.int .i64 p)) (hy:ev L y=some (.int .i64 q)) (h:-9223372036854775808≤p+q∧p+q≤9223372036854775807):aA P n ds L (.binOp .add t x y t') ty w (.int .i64 (p+q)) w:=by
  have:=aA.add (P:=P) (n:=n) (ds:=ds) (ty:=ty) (w:=w) (t:=t) (t':=t') hx hy
  rwa [aGO h] at this
theorem aAi {C:World→Prop} {K:Act→Prop} {K':Act→World→Prop} (hnd:ops.all (fun o=>jA o.op)=true) (hC:C w) (h:∀ a w',C w'→K a→K' a w') (hh:qOp P ops C i K a):wpOpIn (FW r) 0 P ops Q i K' a w:=by
  unfold qOp at hh
  unfold wpOpIn
  split
  · rename_i ho; simp only [ho] at hh; exact h _ _ hC hh
  · rename_i o ho
    simp only [ho] at hh
    have hn:jA o.op=true:=by
      have:=Array.all_eq_true.1 hnd
      obtain ⟨hi,rfl⟩:=Array.getElem?_eq_some_iff.1 ho
      exact this i hi
    split
    · rename_i hw
      simp only [hw,if_true] at hh
      obtain ⟨u,h1,h2⟩:=hh
      have h3:=h1 w hC
      unfold Oper.quietAt at h3
      refine ⟨fun _ _=>trivial,?_⟩
      rw [qc hn]
      generalize (execOp a.eval o).run P w=res at h3
      cases res with
      | ok x w1 =>
        cases x <;> simp only [Oper.quietUpon] at h3 <;> simp only [Oper.uponIn]
        case value u'=>obtain ⟨e1,e2⟩:=h3; rw [e1,e2]; exact h _ _ hC h2
        case skip=>obtain ⟨e1,e2⟩:=h3; rw [e1,← e2]; exact h _ _ hC h2
        case enter f args =>
          obtain ⟨e1,hc⟩:=h3
          rw [e1]
          refine ⟨fun h=>by simp [FW] at h,sJ.2 (hc.mono fun e w'' ⟨he,hw''⟩=>?_)⟩
          subst he
          exact h _ _ hw'' h2
      | halt x w1=>simp only [Oper.quietUpon] at h3
    · rename_i hw; simp only [hw] at hh; exact ⟨fun _ _=>trivial,h _ _ hC hh⟩
theorem wpAnyIn_of_quiet {C:World→Prop} {K:Act→Prop} (hnd:ops.all (fun o=>jA o.op)=true) (hQ:∀ a w,C w→K a→Q .normal a w):∀ (fuel:Nat) (listed:Array Bool) (a:Act) (w:World),C w →
    wpAnyQ P .any ops C K fuel listed a→wpAnyIn (FW r) 0 P .any ops Q fuel listed a w
  | 0,_,_,_,hw,h=>⟨h.1,hQ _ _ hw h.2⟩
  | fuel+1,_,_,_,hw,h=>⟨fun h0=>hQ _ _ hw (h.1 h0),fun i hi=>aAi hnd hw (fun a' w' hw'=>wpAnyIn_of_quiet hnd hQ fuel _ a' w' hw') (h.2 i hi)⟩
def OQ (P:Program) (ops:Array Oper) (C:World→Prop) (K:Act→Prop) (l:List Oper) (a:Act):Prop:=wpQuiet P ops C K l a
theorem W.qh {id:Nat} {l:List Oper} (C:World→Prop) (hm:P.follows .mixedOrders=true) (hl:ops.toList=l) (hB:Region.lexB .any ops=true) (hnd':l.all (fun o=>jA o.op)=true) (hC:C w.drew)
    (h:OQ P ops C (fun a'=>∀ w',C w'→Q .normal a' w') l a):W r P (.region id ops true) Q a w:=by
  subst hl
  have hnd:ops.all (fun o=>jA o.op)=true:=by rw [← Array.all_toList]; exact hnd'
  simp only [Region.lexB,Bool.and_eq_true] at hB
  refine wpIn_region_any hm (wpAnyIn_of_quiet (K:=fun a'=>∀ w',C w'→Q .normal a' w') hnd (fun _ w' hw' h=>h w' hw') _ _ _ _ hC ?_)
  have:=wpAnyQ_lex (C:=C) (md:=.any) hB.1 ops.toList 0 (Array.replicate ops.size false) a (by simp) (by simpa using hB.2) h
  simpa using this
variable {C:World→Prop} {K:Act→Prop} {lo:List Oper}
theorem OQ.nil (h:K a):OQ P ops C K [] a:=h
theorem OQ.val (hf:Fr a n ds L) (hd:Nat.blt d n=true) (hr:∀ w,C w→aA P n ds L op ty w v w) (k:∀ a',Fr a' n ds ((d,v)::L)→OQ P ops C K lo a'):OQ P ops C K (⟨some d,op,ty,pos,af,none⟩::lo) a:=by
  unfold OQ wpQuiet
  rw [if_pos (by simp [Region.wanted])]
  refine ⟨v,fun w hw=>?_,k _ (hf.put hd v)⟩
  unfold Oper.quietAt
  rw [hr w hw a (some d) pos af none hf]
  exact ⟨rfl,rfl⟩
theorem OQ.call {f:FuncId} {args:Array Value} (hf:Fr a n ds L) (hd:Nat.blt d n=true) (hr:∀ w,C w→tY P n ds L op ty w f args) (hc:∀ w,C w→Calls P f args w fun e w'=>e=.returned v∧C w') (k:∀ a',Fr a' n ds ((d,v)::L)→OQ P ops C K lo a'):OQ P ops C K (⟨some d,op,ty,pos,af,none⟩::lo) a:=by
  unfold OQ wpQuiet
  rw [if_pos (by simp [Region.wanted])]
  refine ⟨v,fun w hw=>?_,k _ (hf.put hd v)⟩
  unfold Oper.quietAt
  rw [hr w hw a (some d) pos af none hf]
  exact ⟨rfl,hc w hw⟩
theorem OQ.gval {jj dj:Nat} {want c:Bool} (hf:Fr a n ds L) (hj:(ops[jj]?).bind (·.dst)=some dj) (hv:lk L dj=some (.bool c)) (hc:c=want) (hd:Nat.blt d n=true) (hr:∀ w,C w→aA P n ds L op ty w v w) (k:∀ a',Fr a' n ds ((d,v)::L)→OQ P ops C K lo a'):OQ P ops C K (⟨some d,op,ty,pos,af,some (jj,want)⟩::lo) a:=by
  unfold OQ wpQuiet
  rw [if_pos (by rw [vI hf hj hv,hc]; simp)]
  refine ⟨v,fun w hw=>?_,k _ (hf.put hd v)⟩
  unfold Oper.quietAt
  rw [hr w hw a (some d) pos af _ hf]
  exact ⟨rfl,rfl⟩
theorem OQ.gY {jj dj:Nat} {want c:Bool} (hf:Fr a n ds L) (hj:(ops[jj]?).bind (·.dst)=some dj) (hv:lk L dj=some (.bool c)) (hc:c=!want) (hd:Nat.blt d n=true) (k:∀ a',Fr a' n ds ((d,undef)::L)→OQ P ops C K lo a'):OQ P ops C K (⟨some d,op,ty,pos,af,some (jj,want)⟩::lo) a:=by
  unfold OQ wpQuiet
  rw [if_neg (by rw [vI hf hj hv,hc]; simp)]
  exact k _ (hf.put hd undef)
theorem OQ.dN {jj dj:Nat} {want:Bool} (hf:Fr a n ds L) (hj:(ops[jj]?).bind (·.dst)=some dj) (hv:lk L dj=some undef) (hd:Nat.blt d n=true) (k:∀ a',Fr a' n ds ((d,undef)::L)→OQ P ops C K lo a'):OQ P ops C K (⟨some d,op,ty,pos,af,some (jj,want)⟩::lo) a:=by
  unfold OQ wpQuiet
  rw [if_neg (by rw [yC hf hj hv]; simp)]
  exact k _ (hf.put hd undef)
theorem Sep.front {h:Hp} {n:Nat} {old:Nat→Prop} {p:Asr}:∀ {M:List Asr} {i:Nat},Sep h n old M→M[i]? = some p→Sep h n old (p::M.eraseIdx i)
  | [],_,_,hi=>by simp at hi
  | q::t,0,hs,hi=>by
    simp only [List.getElem?_cons_zero,Option.some.injEq] at hi
    subst hi
    simpa using hs
  | q::t,i+1,hs,hi=>by
    simp only [List.getElem?_cons_succ] at hi
    have ih:=Sep.front hs.2 hi
    simp only [List.eraseIdx_cons_succ]
    refine ⟨⟨ih.1.1,ih.1.2.1,fun s hs' b hb hsb=>?_⟩,⟨hs.1.1,hs.1.2.1,fun s hs'=>hs.1.2.2 s (List.mem_of_mem_eraseIdx hs')⟩,ih.2⟩
    rcases List.mem_cons.1 hs' with rfl | h1
    · exact hs.1.2.2 p (List.mem_of_getElem? hi) b hsb hb
    · exact ih.1.2.2 s h1 b hb hsb
theorem St.front {p:Asr} (h:St w0 w X B M) (hi:M[i]? = some p) (hM:p::M.eraseIdx i=M'):St w0 w X B M' :=
  hM▸⟨h.os,h.tape,h.output,h.size,h.old,Sep.front h.sep hi,h.bor⟩
end
theorem aA.makeFunc {P:Program} {w:World} {n:Nat} {ds:List Deferred} {L:List (Nat × Value)} {ty:TypeId} {fn:Fn} {first captured:Array Operand} {vs us:List Value} {v:Value} (h1:evA L first.toList=some vs) (h2:evA L captured.toList=some us) (hv:Value.func fn vs.toArray us.toArray=v) (hdummy:True=True) :
    aA P n ds L (.makeFunc fn first captured) ty w v w:=fun a d pos af g hf=>by
  have e1:first.map a.eval=vs.toArray:=by apply Array.ext'; rw [Array.toList_map,hf.evA h1]
  have e2:captured.map a.eval=us.toArray:=by apply Array.ext'; rw [Array.toList_map,hf.evA h2]
  subst hv
  simp only [execOp,e1,e2]
  rfl
end Go.SL
namespace Go.SL
open Go
def Ret {G:Type} (P:Program) (f:FuncId) (args:Array Value) (w:World) (v:G→Value) (R:G→World→Prop):Prop :=
  Calls P f args w fun e w'=>∃ g,e=.returned (v g)∧R g w'
section
variable {r:Option Nat} {P:Program} {Q:Exit→Act→World→Prop} {ops:Array Oper} {i:Nat} {rest l:List Nat} {a:Act} {w w0 w':World} {n:Nat} {ds:List Deferred} {L:List (Nat × Value)}
  {d:Nat} {op:Op} {ty t e:TypeId} {pos:String} {af:Array Edge} {X X':Nat→Prop} {B M M' N:List Asr} {G:Type} {v:G→Value} {R:G→World→Prop} {f:FuncId} {args:Array Value}
theorem Ret.mono {G':Type} {v':G'→Value} {R':G'→World→Prop} (h:Ret P f args w v R) (hm:∀ g w',R g w'→∃ g',v g=v' g'∧R' g' w'):Ret P f args w v' R' :=
  Calls.mono h fun e w' ⟨g,he,hR⟩=>let ⟨g',e',hR'⟩:=hm g w' hR; ⟨g',by rw [he,e'],hR'⟩
theorem aX {fn:Func} {c:Code} {lv:List Value} (hf:P.funcs[f]? = some fn) (hb:fn.body=some c) (hn:fn.ntmps=n) (hl:Nat.ble lv.length n=true)
    (h:∀ a,Fr a n [] (zF 0 lv)→W none P c (bodyPost P fn (fun e w'=>∃ g,e=.returned (v g)∧R g w')) a w):Ret P f lv.toArray w v R:=aAK hf hb hn hl h
theorem O.wY (hf:Fr a n ds L) (ho:ops[i]? = some ⟨some d,op,ty,pos,af,none⟩) (hnd:jA op=true) (hd:Nat.blt d n=true)
    (hr:tY P n ds L op ty w f args) (hc:Ret P f args w v R)
    (k:∀ g w',R g w'→∀ a',Fr a' n ds ((d,v g)::L)→O r P ops Q rest a' w'):O r P ops Q (i::rest) a w :=
  O.call (R:=fun u w'=>∃ g,u=v g∧R g w') hf ho hnd hd hr (Calls.mono hc fun _ _ ⟨g,he,hR⟩=>⟨v g,he,g,rfl,hR⟩) (fun _ w' ⟨g,he,hR⟩ a' hf'=>by subst he; exact k g w' hR a' hf')
theorem O.aBZ {jj dj:Nat} {want c:Bool} (hf:Fr a n ds L) (ho:ops[i]? = some ⟨some d,op,ty,pos,af,some (jj,want)⟩) (hj:(ops[jj]?).bind (·.dst)=some dj) (hv:lk L dj=some (.bool c)) (hcc:c=want) (hnd:jA op=true) (hd:Nat.blt d n=true)
    (hr:tY P n ds L op ty w f args) (hc:Ret P f args w v R)
    (k:∀ g w',R g w'→∀ a',Fr a' n ds ((d,v g)::L)→O r P ops Q rest a' w'):O r P ops Q (i::rest) a w :=
  O.aGC (R:=fun u w'=>∃ g,u=v g∧R g w') hf ho hj hv hcc hnd hd hr (Calls.mono hc fun _ _ ⟨g,he,hR⟩=>⟨v g,he,g,rfl,hR⟩) (fun _ w' ⟨g,he,hR⟩ a' hf'=>by subst he; exact k g w' hR a' hf')
theorem OQ.wY {K:Act→Prop} {lo:List Oper} {v:Value} {R:Unit→World→Prop} (hf:Fr a n ds L) (hd:Nat.blt d n=true) (hr:∀ w,St w0 w X B M→tY P n ds L op ty w f args) (hc:∀ w,St w0 w X B M→Ret P f args w (fun _:Unit=>v) R)
    (hS:∀ w w',R () w'→St w0 w X B M→St w0 w' X B M) (k:∀ a',Fr a' n ds ((d,v)::L)→OQ P ops (fun w=>St w0 w X B M) K lo a'):OQ P ops (fun w=>St w0 w X B M) K (⟨some d,op,ty,pos,af,none⟩::lo) a :=
  OQ.call hf hd hr (fun w hw=>Calls.mono (hc w hw) fun _ w' ⟨_,he,hR⟩=>⟨he,hS w w' hR hw⟩) k
theorem St.aCQ {p:Asr} (h:St w0 w X B M) (hc:St w w' X' [] N) (hi:M[i]? = some p) (hX:∀ b,X' b→p.fp b):St w0 w' X B (N++M.eraseIdx i):=by
  refine h.aF8 hc (fun b hb=>⟨p,List.mem_of_getElem? hi,hX b hb⟩) (List.eraseIdx_sublist _ _) (fun q hq b hqb hb=>?_)
  have hs:=(Sep.front h.sep hi).1.2.2
  exact hs q hq b (hX b hb) hqb
theorem St.aG9 (h:St w0 w X B (N++M)):St w0 w X B M:=h.sub (List.sublist_append_right _ _)
end
end Go.SL

namespace Go.SL
open Go
def sI (h:Hp) (sz:Nat) (v:Value) (n:Nat) (xs:List Value):Prop :=
  xs.length=n*sz∧n≤maxLen∧∃ A c,v=.slice A n c∧(0<n→∃ a cur e z,A=some a∧a.spot=none∧h a.block=some (.cells cur e z)∧∀ j u,xs[j]? = some u→cur[a.off+j]? = some u)
def rdv (sz:Nat) (v:Value) (n:Nat) (xs:List Value):Asr :=
  ⟨fun k=>0<n∧v.ownBlock=some k,fun h=>sI h sz v n xs,fun h h' hk hh=>by
    obtain ⟨h1,h2,A,c,rfl,h3⟩:=hh
    refine ⟨h1,h2,A,c,rfl,fun hn=>?_⟩
    obtain ⟨a,cur,e,z,rfl,hs,hb,hc⟩:=h3 hn
    exact ⟨a,cur,e,z,rfl,hs,by rw [hk a.block ⟨hn,rfl⟩]; exact hb,hc⟩⟩
theorem oQ.rd {h:Hp} {e:TypeId} {sz:Nat} {v:Value} {n:Nat} {xs:List Value} (hs:oQ h e sz v n xs):sI h sz v n xs:=by
  rcases hs.2 with ⟨rfl,rfl⟩ | ⟨g,cap,cur,rfl,hg,h1,h2,h3,h4⟩
  · exact ⟨hs.1,Nat.zero_le _,none,0,rfl,fun h=>by omega⟩
  · refine ⟨hs.1,Nat.le_trans h1 h2,_,cap,rfl,fun _=>⟨⟨g,0,none⟩,cur,e,(0,0),rfl,rfl,hg,fun j u hu=>?_⟩⟩
    have:=aD0 h4 hu
    rw [Nat.zero_add,← Array.getElem?_toList]; exact this
def ix:Value→Nat→Value
  | .slice A _ _,m=>.pointer (A.map (·.add m))
  | _,_=>undef
def vlen:Value→Nat
  | .slice _ n _=>n
  | _=>0
section
variable {P:Program} {n:Nat} {ds:List Deferred} {L:List (Nat × Value)} {ty t e:TypeId} {w:World} {x y:Operand} {v u:Value} {N sz m:Nat} {xs us:List Value} {k:IntKind} {p:Int} {j o:Nat}
theorem aA.aGd {at_:Array TypeId} (he:(at_[0]?).bind (jC P)=some e) (hv:ev L x=some v) (hr:sI (hp w) sz v N xs):aA P n ds L (.call ⟨.builtin .len,#[x],at_⟩) ty w (.int .i64 (N:Int)) w:=by
  obtain ⟨_,_,A,c,rfl,_⟩:=hr
  exact aA.len he hv
theorem aA.ixV (he:jC P t=some e) (hs:dB P e=some sz) (hx:ev L x=some v) (hy:ev L y=some (.int k p)) (hr:sI (hp w) sz v N xs) (hj:p=(j:Int)) (hlt:j<N) (hm:j*sz=m):aA P n ds L (.indexAddr t x y) ty w (ix v m) w:=by
  obtain ⟨_,_,A,c,rfl,h3⟩:=hr
  obtain ⟨a,cur,e',z,rfl,hsp,hb,hc⟩:=h3 (by omega)
  obtain ⟨b,off,spot⟩:=a
  simp only at hsp
  subst hsp
  subst hm
  have:=aA.yD (P:=P) (n:=n) (ds:=ds) (L:=L) (ty:=ty) (w:=w) (m:=off+j*sz) he hs hx hy hj hlt rfl
  simpa only [ix,Option.map_some,gX] using this
theorem aA.ixF {f off q:Nat} (hF:l7 P t f=some off) (hx:ev L x=some (ix v m)) (hr:sI (hp w) sz v N xs) (hn:0<N) (hq:m+off=q):aA P n ds L (.fieldAddr t x f) ty w (ix v q) w:=by
  obtain ⟨_,_,A,c,rfl,h3⟩:=hr
  obtain ⟨a,cur,e',z,rfl,hsp,hb,hc⟩:=h3 hn
  obtain ⟨b,o,spot⟩:=a
  simp only at hsp
  subst hsp
  subst hq
  simp only [ix,Option.map_some,gX] at hx ⊢
  exact aA.field hF hx (by omega)
theorem aA.ld1 (ha:mo P t=some false) (hx:ev L x=some (ix v m)) (hr:sI (hp w) sz v N xs) (hv:xs[m]? = some u):aA P n ds L (.load t x) ty w u w:=by
  obtain ⟨hl,_,A,c,rfl,h3⟩:=hr
  have hN:0<N:=by
    have:=(List.getElem?_eq_some_iff.1 hv).1
    rw [hl] at this
    rcases Nat.eq_zero_or_pos N with h | h
    · subst h; simp at this
    · exact h
  obtain ⟨a,cur,e',z,rfl,hsp,hb,hc⟩:=h3 hN
  obtain ⟨b,o,spot⟩:=a
  simp only at hsp
  subst hsp
  simp only [ix,Option.map_some,gX] at hx
  exact aA.aR (e:=e') (zz:=z) (cs:=cur) ha hx hb (hc m u hv)
theorem aA.ldN {q:Nat} (ha:mo P t=some true) (hs:dB P t=some q) (hq:Nat.blt 0 q=true) (hx:ev L x=some (ix v m)) (hr:sI (hp w) sz v N xs) (hl:us.length=q) (hv:∀ k u,us[k]? = some u→xs[m+k]? = some u):aA P n ds L (.load t x) ty w (.agg us.toArray) w:=by
  have hq:0<q:=by simpa using hq
  obtain ⟨hl',_,A,c,rfl,h3⟩:=hr
  have hN:0<N:=by
    have h0:us[0]? = some us[0]:=List.getElem?_eq_getElem (by omega)
    have:=(List.getElem?_eq_some_iff.1 (hv 0 _ h0)).1
    rw [hl'] at this
    rcases Nat.eq_zero_or_pos N with h | h
    · subst h; simp at this
    · exact h
  obtain ⟨a,cur,e',z,rfl,hsp,hb,hc⟩:=h3 hN
  obtain ⟨b,o,spot⟩:=a
  simp only at hsp
  subst hsp
  simp only [ix,Option.map_some,gX] at hx
  obtain ⟨h5,h6⟩:=zy (cur:=cur) (o:=o+m) hl (fun k u hu=>by rw [Nat.add_assoc]; exact hc _ _ (hv k u hu))
  exact aA.aBs (e:=e') (zz:=z) (cs:=cur) ha hs hx hb (h6 hq) h5
end
section
variable {r:Option Nat} {P:Program} {Q:Exit→Act→World→Prop} {ops:Array Oper} {i:Nat} {rest:List Nat} {a:Act} {w w0 w':World} {n:Nat} {ds:List Deferred} {L:List (Nat × Value)}
  {d:Nat} {op:Op} {ty t e:TypeId} {pos:String} {af:Array Edge} {v u:Value} {X:Nat→Prop} {B M M':List Asr} {x y:Operand} {b o j m:Nat} {N sz:Nat} {xs xs':List Value}
theorem St.aGy (h:St w0 w X B M) (hi:M[j]? = some (SL.sl e sz v N xs)):oQ (hp w) e sz v N xs:=h.at_ hi
theorem St.slr (h:St w0 w X B M) (hi:M[j]? = some (SL.sl e sz v N xs)):sI (hp w) sz v N xs:=(h.at_ hi:oQ (hp w) e sz v N xs).rd
theorem wL:∀ (l:List Value) (c:Array Value) (o k:Nat),(wr c o l)[k]? = if k<c.size∧o≤k∧k<o+l.length then l[k-o]? else c[k]?
  | [],c,o,k=>by simp only [wr,List.length_nil]; rw [if_neg (by omega)]
  | u::t,c,o,k=>by
    simp only [wr]
    rw [wL t]
    simp only [Array.size_setIfInBounds,List.length_cons]
    by_cases h1:k<c.size
    · by_cases h2:o=k
      · subst h2
        rw [if_neg (by omega),if_pos (by omega),Array.getElem?_setIfInBounds_self_of_lt h1]
        simp
      · rw [Array.getElem?_setIfInBounds_ne h2]
        by_cases h3:o+1≤k∧k<o+1+t.length
        · rw [if_pos ⟨h1,h3⟩,if_pos (by omega)]
          have:k-o=(k-(o+1))+1:=by omega
          rw [this,List.getElem?_cons_succ]
        · rw [if_neg (by omega),if_neg (by omega)]
    · rw [if_neg (by omega),if_neg (by omega),Array.getElem?_eq_none (by simp; omega),Array.getElem?_eq_none (by omega)]
end
def ints (l:List Int):List Value:=l.map (Value.int .i64)
def bools (l:List Bool):List Value:=l.map Value.bool
section
variable {l:List Int} {bs:List Bool} {j:Nat}
theorem aAH (a b:List Int):ints (a++b)=ints a++ints b:=by simp [ints]
end
end Go.SL
namespace Go.SL
open Go
section
variable {w w0:World} {X:Nat→Prop} {B M:List Asr} {sz n e:Nat} {v:Value} {xs:List Value} {p q:Asr} {i j:Nat}
theorem sI.lt {k:Nat} (h:sI (hp w) sz v n xs) (hn:0<n) (hk:v.ownBlock=some k):k<w.heap.size:=by
  obtain ⟨_,_,A,c,rfl,h3⟩:=h
  obtain ⟨a,cur,e,z,rfl,_,hb,_⟩:=h3 hn
  simp only [Value.ownBlock,Option.some.injEq] at hk
  subst hk
  exact (Array.getElem?_eq_some_iff.1 hb).1
theorem St.own (h:oQ (hp w) e sz v n xs):St w w (fun b=>v.ownBlock=some b) [] [sl e sz v n xs] :=
  ⟨rfl,rfl,rfl,Nat.le_refl _,fun _ _ _=>rfl,⟨⟨h,fun b hb=>⟨((uU.1 h).lt b hb).2,.inl hb⟩,by simp⟩,trivial⟩,by simp⟩
theorem St.apart (hS:St w0 w X B M) (hi:M[i]? = some p) (hj:B[j]? = some q):∀ b,q.fp b→¬ p.fp b:=fun b hq hp=>by
  have h1:=(hS.bor q (List.mem_of_getElem? hj)).2 b hq
  rcases ((hS.sep.get hi).2 b hp).2 with h2 | h2
  · exact h1.2 h2
  · omega
theorem aFO (v:Value) (l:List Int) (z:Int):sl e 1 v (l.length+1) (ints l++[.int .i64 z])=sl e 1 v (l++[z]).length (ints (l++[z])):=by
  rw [aAH,List.length_append]; rfl
end
section
variable {w w0:World} {X:Nat→Prop} {B M M':List Asr} {e:TypeId} {j b:Nat}
theorem St.aGr {cs:Array Value} {n sz:Nat} {xs:List Value} (hS:St w0 w X B M) (hi:M[j]? = some (pt b (.cells cs e (0,0)))) (hn:n≤maxLen) (hc:cs.size=n*sz) (hx:cs.toList=xs) (hM:M.set j (sl e sz (.slice (some ⟨b,0,none⟩) n n) n xs)=M'):St w0 w X B M':=by
  subst hM hx
  refine hS.conv hi (fun h=>?_) (fun k hk=>?_)
  · refine ⟨by simpa using hc,.inr ⟨b,n,cs,rfl,h,Nat.le_refl _,hn,hc,?_⟩⟩
    rw [List.take_of_length_le (by simp [hc])]
  · have hk:some b=some k:=hk
    injection hk with hk
    exact hk.symm
end
end Go.SL
