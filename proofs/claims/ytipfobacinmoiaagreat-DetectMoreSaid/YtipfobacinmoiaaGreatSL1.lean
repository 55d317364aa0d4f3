/- A small logic over the model's own steps: a judgement for code (W), one for a region's operations (O), what is known of the slots (Fr), and of memory (St). -/
import Derived.CallsIn
import Derived.OrdersIn
import Derived.Deep.Quiet
import Derived.Tactics
import Derived.Tactics2
import Derived.Laws.Sem
import Derived.Laws.World
set_option linter.unusedVariables false
set_option linter.unusedSimpArgs false
namespace Go.SL
open Go
def FW (r:Option Nat):Fence:={ fn:=fun _=>True,depth:=none,alive:=false,round:=r }
theorem room_FW (r:Option Nat) (n:Nat):(FW r).room n:=fun _ h=>by simp [FW] at h
theorem fenced_FW (r:Option Nat) (P:Program) (m:Machine):m.fenced P (FW r):=by
  intro g _
  refine ⟨fun h=>?_,Or.inl trivial,fun _ _=>trivial,fun _ h=>?_⟩
  · simp [FW] at h
  · simp [FW] at h
theorem stepsIn_FW {r:Option Nat} {P:Program} {m m':Machine}:StepsIn (Machine.fenced P (FW r)) P m m'↔Steps P m m' :=
  ⟨StepsIn.steps,fun h=>(StepsIn.of_steps h).mono fun m _=>fenced_FW r P m⟩
theorem comesIn_FW {r:Option Nat} {P:Program} {m m':Machine} {e:Ending}:ComesIn (Machine.fenced P (FW r)) P m m' e↔Comes P m m' e:=by
  cases e with
  | returned v=>exact stepsIn_FW
  | panicked chain=>exact stepsIn_FW
  | outgrown=>exact Iff.rfl
theorem callsIn_FW {r:Option Nat} {n:Nat} {P:Program} {f:FuncId} {args:Array Value} {w:World} {R:Ending→World→Prop} :
    CallsIn (FW r) n P f args w R↔Calls P f args w R :=
  ⟨fun h cs=>let ⟨e,w',fr,r,s,x⟩:=h.2 cs (room_FW _ _); ⟨e,w',fr,r,comesIn_FW.1 s,x⟩,
   fun h=>⟨trivial,fun cs _=>let ⟨e,w',fr,r,s,x⟩:=h cs; ⟨e,w',fr,r,comesIn_FW.2 s,x⟩⟩⟩
def W (r:Option Nat) (P:Program) (c:Code) (Q:Exit→Act→World→Prop) (a:Act) (w:World):Prop:=c.wpIn (FW r) 0 P Q a w
def O (r:Option Nat) (P:Program) (ops:Array Oper) (Q:Exit→Act→World→Prop) (l:List Nat) (a:Act) (w:World):Prop:=wpOpsIn (FW r) 0 P ops Q l a w
section
variable {r:Option Nat} {P:Program} {Q:Exit→Act→World→Prop} {a:Act} {w:World}
theorem W.mono {c:Code} {Q':Exit→Act→World→Prop} (h:W r P c Q a w) (hq:∀ e a w,Q e a w→Q' e a w):W r P c Q' a w:=wpIn_mono h hq
theorem W.seq {x y:Code} (h:W r P x (Exit.then (W r P y Q) Q) a w):W r P (.seq x y) Q a w:=wpIn_seq h
theorem W.skip (h:Q .normal a w):W r P .skip Q a w:=wpIn_skip h
theorem W.label {l:Nat} (h:Q .normal a w):W r P (.label l) Q a w:=wpIn_label h
theorem W.exit {id:Nat} (h:Q (.exit id) a w):W r P (.exit id) Q a w:=wpIn_exit h
theorem W.goto {l:Nat} (h:Q (.goto l) a w):W r P (.goto l) Q a w:=wpIn_goto h
theorem W.ret (h:Q .ret a w):W r P .ret Q a w:=wpIn_ret h
theorem W.block {id:Nat} {c:Code} (h:W r P c (Exit.inBlock id Q) a w):W r P (.block id c) Q a w:=wpIn_block h
theorem W.region {id:Nat} {ops:Array Oper} (h:O r P ops Q (List.range ops.size) a w):W r P (.region id ops false) Q a w:=wpIn_region h
theorem W.loop {c:Code} {G:Type} (I:G→Act→World→Prop) (μ:G→Nat) (g:G) (h₀:I g a w)
    (round:∀ g a w,I g a w→W r P c (Exit.then (fun a' w'=>∃ g',I g' a' w'∧μ g'<μ g) Q) a w):W r P (.loop c) Q a w:=by
  intro b k cs hro hb hr
  have key:∀ j g a w,μ g=j→I g a w →
      ∃ e a' w',Q e a' w'∧ArrivesIn (Machine.fenced P (FW r)) P (lone (b.atR a (.code c::.inLoop c::k)) cs w) b k cs e a' w':=by
    intro j
    induction j using Nat.strongRecOn with
    | _ j ih =>
      intro g a w hn hI
      obtain ⟨e,a₁,w₁,hq,harr⟩:=round g a w hI b (.inLoop c::k) cs hro hb hr
      cases e with
      | normal =>
        obtain ⟨g',hI₁,hlt⟩:=hq
        obtain ⟨e₂,a₂,w₂,hq₂,harr₂⟩:=ih (μ g') (hn▸hlt) g' a₁ w₁ rfl hI₁
        exact ⟨e₂,a₂,w₂,hq₂,.of_steps (StepsIn.trans harr (.one (fenced_calm hb hr rfl) stepR_inLoop)) harr₂⟩
      | exit id=>exact ⟨_,a₁,w₁,hq,.pass (x:=.inLoop c) rfl (fun _ _=>.inl (by simp)) harr⟩
      | goto l=>exact ⟨_,a₁,w₁,hq,.pass (x:=.inLoop c) rfl (fun _ _=>.inl (by simp)) harr⟩
      | ret=>exact ⟨_,a₁,w₁,hq,.pass (x:=.inLoop c) rfl (fun _ _=>.inl (by simp)) harr⟩
      | panic ch=>exact ⟨_,a₁,w₁,hq,.pass (x:=.inLoop c) rfl (fun _ _=>.inl (by simp)) harr⟩
      | outgrown=>exact ⟨_,a₁,w₁,hq,.pass (x:=.inLoop c) rfl (fun _ _=>.inl (by simp)) harr⟩
  obtain ⟨e,a',w',hq,harr⟩:=key _ g a w rfl h₀
  exact ⟨e,a',w',hq,.of_steps (.one (fenced_calm hb hr rfl) stepR_loop) harr⟩
theorem k_seq {y:Code} (h:W r P y Q a w):Exit.then (W r P y Q) Q .normal a w:=h
theorem k_then {K:Act→World→Prop} (h:K a w):Exit.then K Q .normal a w:=h
theorem k_then_exit {K:Act→World→Prop} {id:Nat} (h:Q (.exit id) a w):Exit.then K Q (.exit id) a w:=h
theorem k_then_ret {K:Act→World→Prop} (h:Q .ret a w):Exit.then K Q .ret a w:=h
theorem k_blk {id:Nat} (h:Q .normal a w):Exit.inBlock id Q (.exit id) a w:=by simp only [Exit.inBlock,if_true]; exact h
theorem k_blk_ne {id id':Nat} (hne:Nat.beq id' id=false) (h:Q (.exit id') a w):Exit.inBlock id Q (.exit id') a w:=by
  simp only [Exit.inBlock]; rw [if_neg (fun e=>by rw [e] at hne; simp [Nat.beq_refl] at hne)]; exact h
theorem k_blk_normal {id:Nat} (h:Q .normal a w):Exit.inBlock id Q .normal a w:=h
theorem k_blk_ret {id:Nat} (h:Q .ret a w):Exit.inBlock id Q .ret a w:=h
end
def lk:List (Nat × Value)→Nat→Option Value
  | [],_=>none
  | (k,v)::t,j=>match Nat.beq k j with
    | true=>some v
    | false=>lk t j
def ev (L:List (Nat × Value)):Operand→Option Value
  | .tmp t=>lk L t
  | .const v=>some v
  | .global g=>some (.pointer (some ⟨g,0,none⟩))
  | .func f=>some (.func (.func f) #[] #[])
structure Fr (a:Act) (n:Nat) (ds:List Deferred) (L:List (Nat × Value)):Prop where
  size:a.tmps.size=n
  defers:a.defers=ds
  get:∀ k v,lk L k=some v→a.tmps[k]? = some v
theorem Fr.eval {a:Act} {n:Nat} {ds:List Deferred} {L:List (Nat × Value)} (h:Fr a n ds L) {x:Operand} {v:Value} (hx:ev L x=some v):a.eval x=v:=by
  cases x with
  | tmp t =>
    have:=h.get t v hx
    simp only [Act.eval,Array.getD_eq_getD_getElem?,this,Option.getD_some]
  | const c=>simpa [ev,Act.eval] using hx
  | global g=>simpa [ev,Act.eval] using hx
  | func f=>simpa [ev,Act.eval] using hx
theorem Fr.put {a:Act} {n d:Nat} {ds:List Deferred} {L:List (Nat × Value)} (h:Fr a n ds L) (hd:Nat.blt d n=true) (v:Value):Fr (a.put (some d) v) n ds ((d,v)::L):=by
  have hd:d<n:=by simpa using hd
  refine ⟨by simpa [Act.put] using h.size,h.defers,fun k u hk=>?_⟩
  simp only [lk] at hk
  simp only [Act.put]
  by_cases e:d=k
  · subst e
    simp only [Nat.beq_refl,Option.some.injEq] at hk
    subst hk
    exact Array.getElem?_setIfInBounds_self_of_lt (by rw [h.size]; exact hd)
  · have hb:Nat.beq d k=false:=by
      cases hb:Nat.beq d k with
      | false=>rfl
      | true=>exact absurd (Nat.eq_of_beq_eq_true hb) e
    rw [hb] at hk
    rw [Array.getElem?_setIfInBounds_ne e]
    exact h.get k u hk
def Subs (L:List (Nat × Value)):List (Nat × Value)→Prop
  | []=>True
  | (k,v)::t=>lk L k=some v∧Subs L t
theorem Subs.get {L:List (Nat × Value)}:∀ {L':List (Nat × Value)},Subs L L'→∀ k v,lk L' k=some v→lk L k=some v
  | [],_,k,v,h=>by simp [lk] at h
  | (k',v')::t,h,k,v,hk=>by
    simp only [lk] at hk
    cases hb:Nat.beq k' k with
    | true =>
      rw [hb] at hk
      have:=Nat.eq_of_beq_eq_true hb
      subst this
      simp only [Option.some.injEq] at hk
      subst hk
      exact h.1
    | false=>rw [hb] at hk; exact Subs.get h.2 k v hk
theorem Fr.to {a:Act} {n:Nat} {ds:List Deferred} {L L':List (Nat × Value)} (h:Fr a n ds L) (hs:Subs L L'):Fr a n ds L' :=
  ⟨h.size,h.defers,fun k v hk=>h.get k v (hs.get k v hk)⟩
def argsL:Nat→List Value→List (Nat × Value)
  | _,[]=>[]
  | i,v::t=>(i,v)::argsL (i+1) t
theorem argsL_get:∀ (i:Nat) (l:List Value) (k:Nat) (v:Value),lk (argsL i l) k=some v→i≤k∧l[k-i]? = some v
  | _,[],_,_,h=>by simp [argsL,lk] at h
  | i,u::t,k,v,h=>by
    simp only [argsL,lk] at h
    cases hb:Nat.beq i k with
    | true =>
      rw [hb] at h
      have:=Nat.eq_of_beq_eq_true hb
      subst this
      simpa using h
    | false =>
      rw [hb] at h
      obtain ⟨h1,h2⟩:=argsL_get (i+1) t k v h
      refine ⟨by omega,?_⟩
      have:k-i=(k-(i+1))+1:=by omega
      rw [this,List.getElem?_cons_succ]
      exact h2
theorem Fr.start {args:Array Value} {l:List Value} {n m:Nat} (hl:args=l.toArray) (hn:l.length≤n) (hm:m=n-args.size) :
    Fr { tmps:=args++Array.replicate m undef,defers:=[] } n [] (argsL 0 l):=by
  subst hl
  simp only [List.size_toArray] at hm
  refine ⟨by simp; omega,rfl,fun k v h=>?_⟩
  obtain ⟨-,h⟩:=argsL_get 0 l k v h
  simp only [Nat.sub_zero] at h
  have hk:k<l.length:=(List.getElem?_eq_some_iff.1 h).1
  rw [Array.getElem?_append_left (by simpa using hk)]
  simpa using h
theorem calls_of_W {P:Program} {f:FuncId} {fn:Func} {c:Code} {l:List Value} {w:World} {R:Ending→World→Prop} {n:Nat}
    (hf:P.funcs[f]? = some fn) (hb:fn.body=some c) (hn:fn.ntmps=n) (hl:Nat.ble l.length n=true)
    (h:∀ a,Fr a n [] (argsL 0 l)→W none P c (bodyPost P fn R) a w):Calls P f l.toArray w R:=by
  refine (callsIn_FW (r:=none) (n:=0)).1 (callsIn_of_wp hf hb trivial ?_ rfl)
  exact h _ (Fr.start rfl (by simpa using hl) (by rw [hn]))
def noDefer:Op→Bool
  | .defer _=>false
  | _=>true
theorem semAt_FW {r:Option Nat} {ρ:Operand→Value} {o:Oper} (h:noDefer o.op=true):o.semAt (FW r).round ρ=execOp ρ o :=
  Oper.semAt_eq _ _ _ (fun c e=>by rw [e] at h; simp [noDefer] at h)
def RunV (P:Program) (n:Nat) (ds:List Deferred) (L:List (Nat × Value)) (op:Op) (ty:TypeId) (w:World) (v:Value) (w':World):Prop :=
  ∀ a d pos af g,Fr a n ds L→(execOp a.eval ⟨d,op,ty,pos,af,g⟩).run P w=.ok (.value v) w'
def RunU (P:Program) (n:Nat) (ds:List Deferred) (L:List (Nat × Value)) (op:Op) (ty:TypeId) (w:World) (w':World):Prop :=
  ∀ a d pos af g,Fr a n ds L→(execOp a.eval ⟨d,op,ty,pos,af,g⟩).run P w=.ok .skip w'
def RunE (P:Program) (n:Nat) (ds:List Deferred) (L:List (Nat × Value)) (op:Op) (ty:TypeId) (w:World) (f:FuncId) (args:Array Value):Prop :=
  ∀ a d pos af g,Fr a n ds L→(execOp a.eval ⟨d,op,ty,pos,af,g⟩).run P w=.ok (.enter f args) w
section
variable {r:Option Nat} {P:Program} {Q:Exit→Act→World→Prop} {ops:Array Oper} {i:Nat} {rest:List Nat} {a:Act} {w w':World} {n:Nat} {ds:List Deferred} {L:List (Nat × Value)}
  {d:Nat} {op:Op} {ty:TypeId} {pos:String} {af:Array Edge} {v:Value}
theorem O.nil (h:Q .normal a w):O r P ops Q [] a w:=h
theorem O.val (hf:Fr a n ds L) (ho:ops[i]? = some ⟨some d,op,ty,pos,af,none⟩) (hnd:noDefer op=true) (hd:Nat.blt d n=true)
    (hr:RunV P n ds L op ty w v w') (k:∀ a',Fr a' n ds ((d,v)::L)→O r P ops Q rest a' w'):O r P ops Q (i::rest) a w:=by
  unfold O wpOpsIn
  simp only [ho]
  rw [if_pos (by simp [Region.wanted])]
  refine ⟨fun _ _=>trivial,?_⟩
  rw [semAt_FW (o:=⟨some d,op,ty,pos,af,none⟩) hnd,hr a (some d) pos af none hf]
  exact k _ (hf.put hd v)
theorem O.val0 (hf:Fr a n ds L) (ho:ops[i]? = some ⟨none,op,ty,pos,af,none⟩) (hnd:noDefer op=true)
    (hr:RunV P n ds L op ty w v w') (k:O r P ops Q rest a w'):O r P ops Q (i::rest) a w:=by
  unfold O wpOpsIn
  simp only [ho]
  rw [if_pos (by simp [Region.wanted])]
  refine ⟨fun _ _=>trivial,?_⟩
  rw [semAt_FW (o:=⟨none,op,ty,pos,af,none⟩) hnd,hr a none pos af none hf]
  exact k
theorem O.unit (hf:Fr a n ds L) (ho:ops[i]? = some ⟨none,op,ty,pos,af,none⟩) (hnd:noDefer op=true)
    (hr:RunU P n ds L op ty w w') (k:O r P ops Q rest a w'):O r P ops Q (i::rest) a w:=by
  unfold O wpOpsIn
  simp only [ho]
  rw [if_pos (by simp [Region.wanted])]
  refine ⟨fun _ _=>trivial,?_⟩
  rw [semAt_FW (o:=⟨none,op,ty,pos,af,none⟩) hnd,hr a none pos af none hf]
  exact k
theorem O.call {f:FuncId} {args:Array Value} {R:Value→World→Prop} (hf:Fr a n ds L) (ho:ops[i]? = some ⟨some d,op,ty,pos,af,none⟩) (hnd:noDefer op=true) (hd:Nat.blt d n=true)
    (hr:RunE P n ds L op ty w f args) (hc:Calls P f args w fun e w'=>∃ v,e=.returned v∧R v w')
    (k:∀ v w',R v w'→∀ a',Fr a' n ds ((d,v)::L)→O r P ops Q rest a' w'):O r P ops Q (i::rest) a w:=by
  unfold O wpOpsIn
  simp only [ho]
  rw [if_pos (by simp [Region.wanted])]
  refine ⟨fun _ _=>trivial,?_⟩
  rw [semAt_FW (o:=⟨some d,op,ty,pos,af,none⟩) hnd,hr a (some d) pos af none hf]
  refine ⟨fun h=>by simp [FW] at h,(callsIn_FW).2 (hc.mono ?_)⟩
  rintro e w' ⟨v,rfl,hR⟩
  exact k v w' hR _ (hf.put hd v)
theorem O.call0 {f:FuncId} {args:Array Value} {R:Value→World→Prop} (hf:Fr a n ds L) (ho:ops[i]? = some ⟨none,op,ty,pos,af,none⟩) (hnd:noDefer op=true)
    (hr:RunE P n ds L op ty w f args) (hc:Calls P f args w fun e w'=>∃ v,e=.returned v∧R v w')
    (k:∀ v w',R v w'→O r P ops Q rest a w'):O r P ops Q (i::rest) a w:=by
  unfold O wpOpsIn
  simp only [ho]
  rw [if_pos (by simp [Region.wanted])]
  refine ⟨fun _ _=>trivial,?_⟩
  rw [semAt_FW (o:=⟨none,op,ty,pos,af,none⟩) hnd,hr a none pos af none hf]
  refine ⟨fun h=>by simp [FW] at h,(callsIn_FW).2 (hc.mono ?_)⟩
  rintro e w' ⟨v,rfl,hR⟩
  exact k v w' hR
theorem wanted_of {j:Nat} {dj:Nat} {want b:Bool} {dst:Option Tmp} (hf:Fr a n ds L) (hj:(ops[j]?).bind (·.dst)=some dj) (hv:lk L dj=some (.bool b)) :
    Region.wanted ⟨dst,op,ty,pos,af,some (j,want)⟩ (yielded ops a.tmps)=(b == want):=by
  have h:=hf.get dj _ hv
  simp only [Region.wanted,yielded,hj]
  simp [h]
theorem O.skip {j dj:Nat} {want:Bool} (hf:Fr a n ds L) (ho:ops[i]? = some ⟨some d,op,ty,pos,af,some (j,want)⟩) (hj:(ops[j]?).bind (·.dst)=some dj) (hv:lk L dj=some (.bool (!want))) (hd:Nat.blt d n=true)
    (k:∀ a',Fr a' n ds ((d,undef)::L)→O r P ops Q rest a' w):O r P ops Q (i::rest) a w:=by
  unfold O wpOpsIn
  simp only [ho]
  rw [if_neg (by rw [wanted_of hf hj hv]; cases want <;> simp)]
  exact ⟨fun _ _=>trivial,k _ (hf.put hd undef)⟩
theorem O.gval {j dj:Nat} {want:Bool} (hf:Fr a n ds L) (ho:ops[i]? = some ⟨some d,op,ty,pos,af,some (j,want)⟩) (hj:(ops[j]?).bind (·.dst)=some dj) (hv:lk L dj=some (.bool want)) (hnd:noDefer op=true) (hd:Nat.blt d n=true)
    (hr:RunV P n ds L op ty w v w') (k:∀ a',Fr a' n ds ((d,v)::L)→O r P ops Q rest a' w'):O r P ops Q (i::rest) a w:=by
  unfold O wpOpsIn
  simp only [ho]
  rw [if_pos (by rw [wanted_of hf hj hv]; cases want <;> simp)]
  refine ⟨fun _ _=>trivial,?_⟩
  rw [semAt_FW (o:=⟨some d,op,ty,pos,af,some (j,want)⟩) hnd,hr a (some d) pos af _ hf]
  exact k _ (hf.put hd v)
theorem O.gcall {f:FuncId} {args:Array Value} {R:Value→World→Prop} {j dj:Nat} {want:Bool} (hf:Fr a n ds L) (ho:ops[i]? = some ⟨some d,op,ty,pos,af,some (j,want)⟩) (hj:(ops[j]?).bind (·.dst)=some dj) (hv:lk L dj=some (.bool want)) (hnd:noDefer op=true) (hd:Nat.blt d n=true)
    (hr:RunE P n ds L op ty w f args) (hc:Calls P f args w fun e w'=>∃ v,e=.returned v∧R v w')
    (k:∀ v w',R v w'→∀ a',Fr a' n ds ((d,v)::L)→O r P ops Q rest a' w'):O r P ops Q (i::rest) a w:=by
  unfold O wpOpsIn
  simp only [ho]
  rw [if_pos (by rw [wanted_of hf hj hv]; cases want <;> simp)]
  refine ⟨fun _ _=>trivial,?_⟩
  rw [semAt_FW (o:=⟨some d,op,ty,pos,af,some (j,want)⟩) hnd,hr a (some d) pos af _ hf]
  refine ⟨fun h=>by simp [FW] at h,(callsIn_FW).2 (hc.mono ?_)⟩
  rintro e w' ⟨v,rfl,hR⟩
  exact k v w' hR _ (hf.put hd v)
theorem O.cut {l₁ l₂:List Nat} (R:Act→World→Prop) (h₁:O r P ops (fun e a w=>e=.normal∧R a w) l₁ a w) (h₂:∀ a w,R a w→O r P ops Q l₂ a w):O r P ops Q (l₁++l₂) a w:=by
  unfold O at *
  induction l₁ generalizing a w with
  | nil=>exact h₂ _ _ h₁.2
  | cons i t ih =>
    simp only [List.cons_append]
    simp only [wpOpsIn_cons] at h₁ ⊢
    unfold wpOpIn at h₁ ⊢
    split
    · rename_i hn
      simp only [hn] at h₁
      exact ih h₁
    · rename_i o ho
      simp only [ho] at h₁
      split
      · rename_i hw
        rw [if_pos hw] at h₁
        unfold Oper.wpIn at h₁ ⊢
        refine ⟨h₁.1,?_⟩
        have h:=h₁.2
        generalize (o.semAt (FW r).round a.eval).run P w=res at h
        cases res with
        | ok x w' =>
          cases x <;> simp only [Oper.uponIn] at h ⊢
          case value u=>exact ih h
          case skip=>exact ih h
          case defer d=>exact ih h
          case enter f args =>
            refine ⟨h.1,h.2.mono fun e w'' he=>?_⟩
            cases e with
            | returned u=>exact ih he
            | panicked c=>exact absurd he.1 (by simp)
            | outgrown=>obtain ⟨_,_,he⟩:=he; exact absurd he.1 (by simp)
          case row row args=>exact ⟨h.1,h.2.mono fun u w'' he=>ih he⟩
          case round l f tmps assign body =>
            refine ⟨h.1,h.2.mono fun e w'' he=>?_⟩
            cases e with
            | returned u=>exact ih he
            | panicked c=>exact absurd he.1 (by simp)
            | outgrown=>obtain ⟨_,_,he⟩:=he; exact absurd he.1 (by simp)
        | halt x w' =>
          cases x <;> simp only [Oper.uponIn] at h ⊢
          exact absurd h.1 (by simp)
      · rename_i hw
        rw [if_neg hw] at h₁
        exact ⟨h₁.1,ih h₁.2⟩
theorem W.if_ {x y:Code} {c:Operand} {b:Bool} (hf:Fr a n ds L) (hc:ev L c=some (.bool b)) (ht:b=true→W r P x Q a w) (hn:b=false→W r P y Q a w):W r P (.cond c x y) Q a w :=
  wpIn_cond_split (hf.eval hc) ht hn
theorem W.if_tt {x y:Code} {c:Operand} (hf:Fr a n ds L) (hc:ev L c=some (.bool true)) (ht:W r P x Q a w):W r P (.cond c x y) Q a w :=
  W.if_ hf hc (fun _=>ht) (fun h=>by cases h)
theorem W.if_ff {x y:Code} {c:Operand} (hf:Fr a n ds L) (hc:ev L c=some (.bool false)) (hn:W r P y Q a w):W r P (.cond c x y) Q a w :=
  W.if_ hf hc (fun h=>by cases h) (fun _=>hn)
end
section
variable {P:Program} {w:World} {n:Nat} {ds:List Deferred} {L:List (Nat × Value)} {ty:TypeId} {x y c:Operand} {u v:Value}
theorem RunV.move (hx:ev L x=some v):RunV P n ds L (.move x) ty w v w:=fun a d pos af g hf=>by
  show (Sem.pure _:Sem Next).run P w=_
  rw [hf.eval hx]; rfl
theorem RunV.assign (hx:ev L x=some v):RunV P n ds L (.assign x) ty w v w:=fun a d pos af g hf=>by
  show (Sem.pure _:Sem Next).run P w=_
  rw [hf.eval hx]; rfl
theorem RunV.pick {b:Bool} {u1 u2:Value} (hc:ev L c=some (.bool b)) (hx:ev L x=some u1) (hy:ev L y=some u2) (hv:(if b then u1 else u2)=v):RunV P n ds L (.pick c x y) ty w v w:=fun a d pos af g hf=>by
  simp only [execOp,hf.eval hc,hf.eval hx,hf.eval hy,asBool]
  subst hv
  cases b <;> rfl
theorem RunV.extract {vs:Array Value} {k:Nat} (hx:ev L x=some (.tuple vs)) (hv:vs[k]? = some v):RunV P n ds L (.extract x k) ty w v w:=fun a d pos af g hf=>by
  simp only [execOp,hf.eval hx,Instr.extract,hv]; rfl
theorem RunV.nilCheck {b:Addr} (hx:ev L x=some (.pointer (some b))):RunV P n ds L (.nilCheck x) ty w (.pointer (some b)) w:=fun a d pos af g hf=>by
  simp only [execOp,hf.eval hx]; rfl
theorem RunV.neg {k:IntKind} {m:Int} {t:TypeId} (hx:ev L x=some (.int k m)):RunV P n ds L (.unOp .neg t x) ty w (.int k (k.wrap (0-m))) w:=fun a d pos af g hf=>by
  simp only [execOp,hf.eval hx]; rfl
theorem RunV.not {b:Bool} {t:TypeId} (hx:ev L x=some (.bool b)):RunV P n ds L (.unOp .not t x) ty w (.bool (!b)) w:=fun a d pos af g hf=>by
  simp only [execOp,hf.eval hx]; rfl
variable {t t':TypeId} {k:IntKind} {p q:Int}
theorem run_int2 {op:BinOp} {res:Value} (hx:ev L x=some (.int k p)) (hy:ev L y=some (.int k q)) (hne:(match op with | .shl | .shr=>false | _=>true)=true)
    (hr:(binOp op t (.int k p) (.int k q)).run P w=.ok res w):RunV P n ds L (.binOp op t x y t') ty w res w:=fun a d pos af g hf=>by
  simp only [execOp,hf.eval hx,hf.eval hy]
  have hg:eqGuard op t x y (.int k p) (.int k q)=(pure ():Sem Unit):=by
    unfold eqGuard
    cases op <;> simp at hne ⊢
  rw [hg]
  show (Sem.bind (binOp op t (.int k p) (.int k q)) fun z=>Sem.pure (Next.value z)).run P w=_
  have:=hr
  generalize binOp op t (.int k p) (.int k q)=s at *
  show (s >>= fun z=>pure (Next.value z)).run P w=_
  simp only [Sem.run_bind,this]
  rfl
theorem RunV.add (hx:ev L x=some (.int k p)) (hy:ev L y=some (.int k q)):RunV P n ds L (.binOp .add t x y t') ty w (.int k (k.wrap (p+q))) w :=
  run_int2 hx hy rfl (by simp [binOp,Op.intArith])
theorem RunV.sub (hx:ev L x=some (.int k p)) (hy:ev L y=some (.int k q)):RunV P n ds L (.binOp .sub t x y t') ty w (.int k (k.wrap (p-q))) w :=
  run_int2 hx hy rfl (by simp [binOp,Op.intArith])
theorem RunV.mul (hx:ev L x=some (.int k p)) (hy:ev L y=some (.int k q)):RunV P n ds L (.binOp .mul t x y t') ty w (.int k (k.wrap (p*q))) w :=
  run_int2 hx hy rfl (by simp [binOp,Op.intArith])
end
end Go.SL
