/- A reckoner for the program's code over abstract values, and what ties it to the model: values, memory entries, the relation. -/
import Derived.Test.YtipfobacinmoiaaGreatSL20
set_option linter.unusedVariables false
set_option linter.unusedSimpArgs false
namespace Go.RX
open Go Go.SL
inductive V where
  | c (v:Value)
  | ag (l:List V)
  | tu (l:List V)
  | p (e o:Nat)
  | q (e sz:Nat) (i:Int) (o:Nat)
  | sl (e:Nat)
  | sw (e sz:Nat) (a b:Int)
  | fn (f:FuncId) (l:List V)
  | bf (f:FuncId) (l:List V)
  | yd (e:Nat)
  | mp (e:Nat)
  | ez
  | un
structure Cd (α:Type) where
  sz:Nat
  enc:α→List V
  dec:List V→Option α
  hl:∀ x,(enc x).length=sz
  hd:∀ l x,dec l=some x→enc x=l
inductive Sc where
  | i (k:IntKind) | b | s
def Sc.ty:Sc→Type
  | .i _=>Int
  | .b=>Bool
  | .s=>ByteArray
def Sc.enc:(c:Sc)→c.ty→V
  | .i k,n=>.c (.int k n)
  | .b,x=>.c (.bool x)
  | .s,x=>.c (.string x)
def kEq:IntKind→IntKind→Bool
  | .i8,.i8 | .i16,.i16 | .i32,.i32 | .i64,.i64 | .u8,.u8 | .u16,.u16 | .u32,.u32 | .u64,.u64=>true
  | _,_=>false
theorem kEq_ok {k k':IntKind} (h:kEq k k'=true):k=k':=by cases k <;> cases k' <;> first | rfl | cases h
def Sc.dec:(c:Sc)→V→Option c.ty
  | .i k,.c (.int k' n)=>match kEq k k' with
    | true=>some n
    | false=>none
  | .b,.c (.bool x)=>some x
  | .s,.c (.string x)=>some x
  | _,_=>none
theorem Sc.dec_ok:∀ (c:Sc) (u:V) (x:c.ty),c.dec u=some x→c.enc x=u:=by
  intro c u x h
  unfold Sc.dec at h
  split at h
  · split at h
    · rename_i hk; have:=kEq_ok hk; subst this; cases h; rfl
    · cases h
  · cases h; rfl
  · cases h; rfl
  · cases h
def scTy (c:Sc):List Sc→Type
  | []=>c.ty
  | d::t=>c.ty × scTy d t
def scEnc (c:Sc):(l:List Sc)→scTy c l→List V
  | [],x=>[c.enc x]
  | d::t,x=>c.enc x.1::scEnc d t x.2
def scDec (c:Sc):(l:List Sc)→List V→Option (scTy c l)
  | [],m=>match m with
    | u::r=>match r with
      | []=>c.dec u
      | _::_=>none
    | []=>none
  | d::t,m=>match m with
    | u::r=>match c.dec u with
      | some x=>match scDec d t r with
        | some y=>some (x,y)
        | none=>none
      | none=>none
    | []=>none
theorem scEnc_len (c:Sc):∀ (l:List Sc) (x:scTy c l),(scEnc c l x).length=l.length+1
  | [],x=>rfl
  | d::t,x=>by
    have:=scEnc_len d t x.2
    simp only [scEnc,List.length_cons,this]
theorem scDec_ok (c:Sc):∀ (l:List Sc) (m:List V) (x:scTy c l),scDec c l m=some x→scEnc c l x=m
  | [],[],x,h=>absurd (show none=some x from h) (by intro h; cases h)
  | [],[u],x,h=>congrArg (fun z=>[z]) (Sc.dec_ok c u x h)
  | [],_::_::_,x,h=>absurd (show none=some x from h) (by intro h; cases h)
  | d::t,[],x,h=>absurd (show none=some x from h) (by intro h; cases h)
  | d::t,u::r,x,h=>by
    have h:(match c.dec u with
      | some x=>match scDec d t r with
        | some y=>some (x,y)
        | none=>none
      | none=>none)=some x:=h
    cases h1:c.dec u with
    | none=>rw [h1] at h; exact absurd h (by intro h; cases h)
    | some y =>
      cases h2:scDec d t r with
      | none=>rw [h1,h2] at h; exact absurd h (by intro h; cases h)
      | some z =>
        rw [h1,h2] at h
        injection h with h
        subst h
        show c.enc y::scEnc d t z=u::r
        rw [Sc.dec_ok c u y h1,scDec_ok d t r z h2]
inductive Ck where
  | row (sz:Nat)
  | sc (c:Sc) (l:List Sc)
def padV:Nat→List V→List V
  | 0,_=>[]
  | n+1,[]=>.un::padV n []
  | n+1,u::t=>u::padV n t
theorem padV_len:∀ (n:Nat) (l:List V),(padV n l).length=n
  | 0,_=>rfl
  | n+1,[]=>by simp [padV,padV_len n]
  | n+1,_::t=>by simp [padV,padV_len n]
theorem padV_eq:∀ (l:List V),padV l.length l=l
  | []=>rfl
  | u::t=>by simp [padV,padV_eq t]
def Ck.ty:Ck→Type
  | .row _=>List V
  | .sc c l=>scTy c l
def Ck.cd:(k:Ck)→Cd k.ty
  | .row sz=>⟨sz,padV sz,fun l=>match Nat.beq l.length sz with
      | true=>some l
      | false=>none,padV_len sz,fun l x h=>by
        split at h
        · rename_i hb
          have:=Nat.eq_of_beq_eq_true hb
          injection h with h
          subst h; subst this
          exact padV_eq l
        · cases h⟩
  | .sc c l=>⟨l.length+1,scEnc c l,scDec c l,scEnc_len c l,scDec_ok c l⟩
def Sc.eq:Sc→Sc→Bool
  | .i k,.i k'=>kEq k k'
  | .b,.b=>true
  | .s,.s=>true
  | _,_=>false
theorem Sc.eq_ok {c d:Sc} (h:c.eq d=true):c=d:=by
  unfold Sc.eq at h
  split at h
  · rw [kEq_ok h]
  · rfl
  · rfl
  · cases h
def scEq:List Sc→List Sc→Bool
  | [],[]=>true
  | c::t,d::t'=>c.eq d&&scEq t t'
  | _,_=>false
theorem scEq_ok:∀ {l m:List Sc},scEq l m=true→l=m
  | [],[],_=>rfl
  | [],c::_,h=>by simp [scEq] at h
  | c::_,[],h=>by simp [scEq] at h
  | c::t,d::t',h=>by
    simp only [scEq,Bool.and_eq_true] at h
    rw [Sc.eq_ok h.1,scEq_ok h.2]
def Ck.eq:Ck→Ck→Bool
  | .row a,.row b=>Nat.beq a b
  | .sc c l,.sc d m=>scEq (c::l) (d::m)
  | _,_=>false
theorem Ck.eq_ok {a b:Ck} (h:a.eq b=true):a=b:=by
  unfold Ck.eq at h
  split at h
  · rw [Nat.eq_of_beq_eq_true h]
  · have:=scEq_ok h
    injection this with h1 h2
    rw [h1,h2]
  · cases h
def Ck.cast {a b:Ck} (xs:List a.ty):Option (List b.ty):=match h:a.eq b with
  | true=>some (Ck.eq_ok h▸xs)
  | false=>none
inductive Fm where
  | e
  | n (v:Option V) (a b c d p q r s:Fm)
structure Sl where
  get:Fm→Option V
  put:Fm→V→Fm
def slot0:Sl:=⟨fun t=>match t with
  | .e=>none
  | .n v _ _ _ _ _ _ _ _=>v,fun t u=>match t with
  | .e=>.n (some u) .e .e .e .e .e .e .e .e
  | .n _ a b c d p q r s=>.n (some u) a b c d p q r s⟩
def slotD0 (z:Sl):Sl:=⟨fun t=>match t with
  | .e=>none
  | .n _ a _ _ _ _ _ _ _=>z.get a,fun t u=>match t with
  | .e=>.n none (z.put .e u) .e .e .e .e .e .e .e
  | .n v a b c d p q r s=>.n v (z.put a u) b c d p q r s⟩
def slotD1 (z:Sl):Sl:=⟨fun t=>match t with
  | .e=>none
  | .n _ _ b _ _ _ _ _ _=>z.get b,fun t u=>match t with
  | .e=>.n none .e (z.put .e u) .e .e .e .e .e .e
  | .n v a b c d p q r s=>.n v a (z.put b u) c d p q r s⟩
def slotD2 (z:Sl):Sl:=⟨fun t=>match t with
  | .e=>none
  | .n _ _ _ c _ _ _ _ _=>z.get c,fun t u=>match t with
  | .e=>.n none .e .e (z.put .e u) .e .e .e .e .e
  | .n v a b c d p q r s=>.n v a b (z.put c u) d p q r s⟩
def slotD3 (z:Sl):Sl:=⟨fun t=>match t with
  | .e=>none
  | .n _ _ _ _ d _ _ _ _=>z.get d,fun t u=>match t with
  | .e=>.n none .e .e .e (z.put .e u) .e .e .e .e
  | .n v a b c d p q r s=>.n v a b c (z.put d u) p q r s⟩
def slotD4 (z:Sl):Sl:=⟨fun t=>match t with
  | .e=>none
  | .n _ _ _ _ _ p _ _ _=>z.get p,fun t u=>match t with
  | .e=>.n none .e .e .e .e (z.put .e u) .e .e .e
  | .n v a b c d p q r s=>.n v a b c d (z.put p u) q r s⟩
def slotD5 (z:Sl):Sl:=⟨fun t=>match t with
  | .e=>none
  | .n _ _ _ _ _ _ q _ _=>z.get q,fun t u=>match t with
  | .e=>.n none .e .e .e .e .e (z.put .e u) .e .e
  | .n v a b c d p q r s=>.n v a b c d p (z.put q u) r s⟩
def slotD6 (z:Sl):Sl:=⟨fun t=>match t with
  | .e=>none
  | .n _ _ _ _ _ _ _ r _=>z.get r,fun t u=>match t with
  | .e=>.n none .e .e .e .e .e .e (z.put .e u) .e
  | .n v a b c d p q r s=>.n v a b c d p q (z.put r u) s⟩
def slotD7 (z:Sl):Sl:=⟨fun t=>match t with
  | .e=>none
  | .n _ _ _ _ _ _ _ _ s=>z.get s,fun t u=>match t with
  | .e=>.n none .e .e .e .e .e .e .e (z.put .e u)
  | .n v a b c d p q r s=>.n v a b c d p q r (z.put s u)⟩
def slotD:Nat→Sl→Sl
  | 0,z=>slotD0 z
  | 1,z=>slotD1 z
  | 2,z=>slotD2 z
  | 3,z=>slotD3 z
  | 4,z=>slotD4 z
  | 5,z=>slotD5 z
  | 6,z=>slotD6 z
  | _,z=>slotD7 z
def slot:Nat→Nat→Sl
  | 0,_=>⟨fun _=>none,fun _ _=>.e⟩
  | f+1,k=>match k with
    | 0=>slot0
    | k+1=>slotD (Nat.mod k 8) (slot f (Nat.div k 8))
def lkV (fr:Fm) (k:Nat):Option V:=(slot 6 k).get fr
def putV (fr:Fm) (d:Nat) (u:V):Fm:=(slot 6 d).put fr u
def chd:Nat→Fm→Fm
  | _,.e=>.e
  | d,.n _ a b c g p q r s=>match d with
    | 0=>a
    | 1=>b
    | 2=>c
    | 3=>g
    | 4=>p
    | 5=>q
    | 6=>r
    | _=>s
theorem mod8 (k:Nat):Nat.mod k 8=k % 8:=rfl
theorem div8 (k:Nat):Nat.div k 8=k/8:=rfl
theorem slot_e:∀ {f k:Nat},(slot f k).get .e=none
  | 0,_=>rfl
  | f+1,0=>rfl
  | f+1,k+1=>by
    simp only [slot]
    unfold slotD
    split <;> rfl
theorem slotD_get {i:Nat} {z:Sl} {t:Fm} (h:i<8) (hz:z.get .e=none):(slotD i z).get t=z.get (chd i t):=by
  rcases i with _ | _ | _ | _ | _ | _ | _ | _ | i <;> first | omega | (cases t <;> first | rfl | exact hz.symm)
theorem slotD_put {i j:Nat} {z:Sl} {t:Fm} {u:V} (h:i<8) (h':j<8):chd j ((slotD i z).put t u)=if j=i then z.put (chd i t) u else chd j t:=by
  rcases i with _ | _ | _ | _ | _ | _ | _ | _ | i <;> first | omega | (rcases j with _ | _ | _ | _ | _ | _ | _ | _ | j <;> first | omega | (cases t <;> rfl))
theorem slotD_put0 {i:Nat} {z:Sl} {t:Fm} {u:V}:slot0.get ((slotD i z).put t u)=slot0.get t:=by
  unfold slotD
  split <;> cases t <;> rfl
theorem slot_put {u x:V}:∀ {f:Nat} {t:Fm} {k j:Nat},(slot f j).get ((slot f k).put t u)=some x→(j=k∧x=u)∨(j≠k∧(slot f j).get t=some x)
  | 0,t,k,j,h=>by cases h
  | f+1,t,0,0,h=>by
    left
    refine ⟨rfl,?_⟩
    cases t <;> (simp only [slot,slot0,Option.some.injEq] at h; exact h.symm)
  | f+1,t,0,j+1,h=>by
    right
    refine ⟨by omega,?_⟩
    simp only [slot] at h ⊢
    rw [mod8] at *
    have hj:j % 8<8:=Nat.mod_lt _ (by omega)
    rw [slotD_get hj slot_e] at h ⊢
    cases t with
    | e=>generalize j % 8=i at *; rcases i with _ | _ | _ | _ | _ | _ | _ | _ | i <;> exact h
    | n=>exact h
  | f+1,t,k+1,0,h=>by
    right
    refine ⟨by omega,?_⟩
    simp only [slot] at h ⊢
    rw [slotD_put0] at h
    exact h
  | f+1,t,k+1,j+1,h=>by
    simp only [slot,mod8,div8] at h ⊢
    have hj:j % 8<8:=Nat.mod_lt _ (by omega)
    have hk:k % 8<8:=Nat.mod_lt _ (by omega)
    rw [slotD_get hj slot_e] at h ⊢
    rw [slotD_put hk hj] at h
    split at h
    · rename_i he
      rcases slot_put h with ⟨h1,h2⟩ | ⟨h1,h2⟩
      · exact .inl ⟨by omega,h2⟩
      · exact .inr ⟨by omega,by rw [he]; exact h2⟩
    · rename_i he
      exact .inr ⟨fun e=>he (by injection e with e; rw [e]),h⟩
theorem putV_get {fr:Fm} {d k:Nat} {u x:V} (h:lkV (putV fr d u) k=some x):(k=d∧x=u)∨(k≠d∧lkV fr k=some x):=slot_put h
theorem lkV_e {k:Nat}:lkV .e k=none:=slot_e
inductive Ex where
  | n | r
  | x (id:Nat)
def Ex.to:Ex→Exit
  | .n=>.normal
  | .r=>.ret
  | .x id=>.exit id
def Ex.code:Ex→Option Code
  | .n=>none
  | .r=>some .ret
  | .x id=>some (.exit id)
structure LoopE where
  st:Nat
  pend:Ex
  n:Nat
  fr:Fm
  ps:List Tmp
  asg:Code
  body:Code
def stOf:Nat→LoopState
  | 0=>.ready
  | 1=>.busy
  | 2=>.done
  | _=>.exhausted
inductive Ent where
  | cel (l:List V) (ty:TypeId)
  | arr (ty:TypeId) (k:Ck) (xs:List k.ty)
  | loop (z:LoopE)
  | mark
  | map (l:List (V × V))
  | gl (g:Nat) (l:List V) (ty:TypeId)
universe u u' u''
inductive D where
  | t | f | k | ok
  | row (l:List V)
  | cd (c:Ck)
structure R (α:Type u) where
  conc:Option α
  sym:List D→Option (α × List Prop × List D)
def AllP:List Prop→Prop
  | []=>True
  | p::t=>p∧AllP t
theorem AllP_app:∀ {l m:List Prop},AllP (l++m)→AllP l∧AllP m
  | [],_,h=>⟨trivial,h⟩
  | _::_,_,h=>⟨⟨h.1,(AllP_app h.2).1⟩,(AllP_app h.2).2⟩
def R.pure {α:Type u} (x:α):R α:=⟨some x,fun d=>some (x,[],d)⟩
def R.bind {α:Type u} {β:Type u'} (m:R α) (k:α→R β):R β:=⟨match m.conc with
  | none=>none
  | some x=>(k x).conc,fun d=>match m.sym d with
  | none=>none
  | some (x,o,d1)=>match (k x).sym d1 with
    | none=>none
    | some (y,o2,d2)=>some (y,o++o2,d2)⟩
def R.fail {α:Type u}:R α:=⟨none,fun _=>none⟩
def R.lift {α:Type u} (x:Option α):R α:=⟨x,fun d=>match x with
  | some y=>some (y,[],d)
  | none=>none⟩
structure R.Ok {α:Type u} (m:R α) (φ:α→Prop):Prop where
  conc:∀ x,m.conc=some x→φ x
  sym:∀ d x o d',m.sym d=some (x,o,d')→AllP o→φ x
def askB (b:Bool):R Bool:=⟨match b with
    | true=>some true
    | false=>some false,fun d=>match d with
  | .t::r=>some (true,[b=true],r)
  | .f::r=>some (false,[b=false],r)
  | .k::r=>match b with
    | true=>some (true,[],r)
    | false=>some (false,[],r)
  | _=>none⟩
def askP (p:Prop) [Decidable p]:R Unit:=⟨match decide p with
    | true=>some ()
    | false=>none,fun d=>match d with
  | .ok::r=>some ((),[p],r)
  | .k::r=>match decide p with
    | true=>some ((),[],r)
    | false=>none
  | _=>none⟩
def askX (x:Option (List V)):R (List V):=⟨x,fun d=>match d with
  | .row l::r=>some (l,[x=some l],r)
  | .k::r=>match x with
    | some l=>some (l,[],r)
    | none=>none
  | _=>none⟩
section
variable {α:Type u} {β:Type u'} {φ:α→Prop} {ψ:β→Prop}
theorem R.Ok.pure {x:α} (h:φ x):(R.pure x).Ok φ:=by
  refine ⟨fun y e=>?_,fun d y o d' e _=>?_⟩
  · simp only [R.pure,Option.some.injEq] at e; exact e▸h
  · simp only [R.pure,Option.some.injEq,Prod.mk.injEq] at e
    exact e.1▸h
theorem R.Ok.bind {m:R α} {k:α→R β} (h:m.Ok fun x=>(k x).Ok ψ):(m.bind k).Ok ψ:=by
  refine ⟨fun y e=>?_,fun d y o d' e ha=>?_⟩
  · simp only [R.bind] at e
    split at e
    · cases e
    · rename_i x h1; exact (h.conc x h1).conc y e
  · simp only [R.bind] at e
    split at e
    · cases e
    · rename_i x o1 d1 h1
      split at e
      · cases e
      · rename_i y' o2 d2 h2
        simp only [Option.some.injEq,Prod.mk.injEq] at e
        obtain ⟨rfl,rfl,rfl⟩:=e
        obtain ⟨a1,a2⟩:=AllP_app ha
        exact (h.sym d x o1 d1 h1 a1).sym d1 _ o2 _ h2 a2
theorem R.Ok.fail:(R.fail:R α).Ok φ:=⟨(fun x e=>by cases e),(fun d x o d' e=>by cases e)⟩
theorem R.Ok.lift {x:Option α} (h:∀ y,x=some y→φ y):(R.lift x).Ok φ:=by
  refine ⟨fun y e=>h y e,fun d y o d' e _=>?_⟩
  simp only [R.lift] at e
  split at e
  · simp only [Option.some.injEq,Prod.mk.injEq] at e
    exact e.1▸h _ rfl
  · cases e
theorem R.Ok.mono {m:R α} {φ':α→Prop} (h:m.Ok φ) (hi:∀ x,φ x→φ' x):m.Ok φ':=⟨fun x e=>hi x (h.conc x e),fun d x o d' e ha=>hi x (h.sym d x o d' e ha)⟩
theorem R.Ok.andThen {m:R α} {k:α→R β} {φ:α→Prop} (h:m.Ok φ) (hk:∀ x,φ x→(k x).Ok ψ):(m.bind k).Ok ψ:=R.Ok.bind (h.mono hk)
theorem R.Ok.all {ι:Sort u''} {m:R α} {φ:ι→α→Prop} (h:∀ i,m.Ok (φ i)):m.Ok fun x=>∀ i,φ i x:=⟨fun x e i=>(h i).conc x e,fun d x o d' e ha i=>(h i).sym d x o d' e ha⟩
theorem askB_ok (b:Bool):(askB b).Ok fun x=>b=x:=by
  refine ⟨fun x e=>?_,fun d x o d' e ha=>?_⟩
  · simp only [askB] at e
    split at e <;> (simp only [Option.some.injEq] at e; rw [← e])
  · simp only [askB] at e
    split at e
    · simp only [Option.some.injEq,Prod.mk.injEq] at e
      obtain ⟨rfl,rfl,rfl⟩:=e
      exact ha.1
    · simp only [Option.some.injEq,Prod.mk.injEq] at e
      obtain ⟨rfl,rfl,rfl⟩:=e
      exact ha.1
    · split at e <;> (simp only [Option.some.injEq,Prod.mk.injEq] at e; rw [← e.1])
    · cases e
theorem askP_ok (p:Prop) [Decidable p]:(askP p).Ok fun _=>p:=by
  refine ⟨fun x e=>?_,fun d x o d' e ha=>?_⟩
  · simp only [askP] at e
    split at e
    · rename_i h; exact of_decide_eq_true h
    · cases e
  · simp only [askP] at e
    split at e
    · simp only [Option.some.injEq,Prod.mk.injEq] at e
      obtain ⟨_,rfl,rfl⟩:=e
      exact ha.1
    · split at e
      · rename_i h; exact of_decide_eq_true h
      · cases e
    · cases e
theorem askX_ok (x:Option (List V)):(askX x).Ok fun l=>x=some l:=by
  refine ⟨fun l e=>e,fun d l o d' e ha=>?_⟩
  simp only [askX] at e
  split at e
  · simp only [Option.some.injEq,Prod.mk.injEq] at e
    obtain ⟨rfl,rfl,rfl⟩:=e
    exact ha.1
  · split at e
    · simp only [Option.some.injEq,Prod.mk.injEq] at e
      rw [e.1]
    · cases e
  · cases e
end
def isSl:Value→Bool
  | .slice _ _ _=>true
  | _=>false
def isSlN:Value→Bool
  | .slice (some ⟨_,_,none⟩) _ _=>true
  | _=>false
structure Env where
  get:Nat→Option Value
  nx:Nat
  dom:∀ e,nx≤e→get e=none
instance:CoeFun Env (fun _=>Nat→Option Value):=⟨Env.get⟩
mutual
inductive VR (ρ:Env):V→Value→Prop
  | c {v}:VR ρ (.c v) v
  | ag {l cs} (h:VRL ρ l cs):VR ρ (.ag l) (.agg cs.toArray)
  | tu {l cs} (h:VRL ρ l cs):VR ρ (.tu l) (.tuple cs.toArray)
  | p {e o b} (h:ρ e=some (.pointer (some ⟨b,0,none⟩))):VR ρ (.p e o) (.pointer (some ⟨b,o,none⟩))
  | q {e sz i o v} (h:ρ e=some v) (hs:isSlN v=true):VR ρ (.q e sz i o) (ix v (i.toNat*sz+o))
  | sl {e v} (h:ρ e=some v) (hs:isSl v=true):VR ρ (.sl e) v
  | sw {e sz a b v} (h:ρ e=some v) (hs:isSl v=true):VR ρ (.sw e sz a b) (vsub sz v a b)
  | fn {f l cs} (h:VRL ρ l cs):VR ρ (.fn f l) (.func (.func f) #[] cs.toArray)
  | bf {f l cs} (h:VRL ρ l cs):VR ρ (.bf f l) (.func (.func f) cs.toArray #[])
  | yd {e l} (h:ρ e=some (.func (.yield l) #[] #[])):VR ρ (.yd e) (.func (.yield l) #[] #[])
  | mp {e b} (h:ρ e=some (.map (some b))):VR ρ (.mp e) (.map (some b))
  | ez {A c}:VR ρ .ez (.slice A 0 c)
  | un {v}:VR ρ .un v
inductive VRL (ρ:Env):List V→List Value→Prop
  | nil:VRL ρ [] []
  | cons {u v l cs} (h:VR ρ u v) (t:VRL ρ l cs):VRL ρ (u::l) (v::cs)
end
structure Env.le (ρ ρ':Env):Prop where
  nx:ρ.nx≤ρ'.nx
  eq:∀ e,e<ρ.nx→ρ' e=ρ e
theorem Env.lt {ρ:Env} {e:Nat} {v:Value} (h:ρ e=some v):e<ρ.nx:=by
  rcases Nat.lt_or_ge e ρ.nx with h1 | h1
  · exact h1
  · have:=ρ.dom e h1; rw [this] at h; cases h
theorem Env.le.get {ρ ρ':Env} (h:ρ.le ρ') {e:Nat} {v:Value} (hv:ρ e=some v):ρ' e=some v:=(h.eq e (Env.lt hv)).trans hv
theorem Env.le.refl (ρ:Env):ρ.le ρ:=⟨Nat.le_refl _,fun _ _=>rfl⟩
theorem Env.le.trans {a b c:Env} (h:a.le b) (h':b.le c):a.le c:=⟨Nat.le_trans h.nx h'.nx,fun e he=>(h'.eq e (Nat.lt_of_lt_of_le he h.nx)).trans (h.eq e he)⟩
def Env.sub (ρ ρ':Env):Prop:=∀ e v,ρ e=some v→ρ' e=some v
theorem Env.le.sub {ρ ρ':Env} (h:ρ.le ρ'):ρ.sub ρ':=fun _ _ hv=>h.get hv
section
variable {ρ ρ':Env}
mutual
theorem VR.monoS (h:ρ.sub ρ'):∀ {u v},VR ρ u v→VR ρ' u v
  | _,_,.c=>.c
  | _,_,.ag hl=>.ag (VRL.monoS h hl)
  | _,_,.tu hl=>.tu (VRL.monoS h hl)
  | _,_,.p he=>.p (h _ _ he)
  | _,_,.q he hs=>.q (h _ _ he) hs
  | _,_,.sl he hs=>.sl (h _ _ he) hs
  | _,_,.sw he hs=>.sw (h _ _ he) hs
  | _,_,.fn hl=>.fn (VRL.monoS h hl)
  | _,_,.bf hl=>.bf (VRL.monoS h hl)
  | _,_,.yd he=>.yd (h _ _ he)
  | _,_,.mp he=>.mp (h _ _ he)
  | _,_,.ez=>.ez
  | _,_,.un=>.un
theorem VRL.monoS (h:ρ.sub ρ'):∀ {l cs},VRL ρ l cs→VRL ρ' l cs
  | _,_,.nil=>.nil
  | _,_,.cons hv ht=>.cons (VR.monoS h hv) (VRL.monoS h ht)
end
theorem VR.mono (h:ρ.le ρ') {u v} (hv:VR ρ u v):VR ρ' u v:=hv.monoS h.sub
theorem VRL.mono (h:ρ.le ρ') {l cs} (hv:VRL ρ l cs):VRL ρ' l cs:=hv.monoS h.sub
theorem VRL.len:∀ {l cs},VRL ρ l cs→l.length=cs.length
  | _,_,.nil=>rfl
  | _,_,.cons _ t=>by simp [VRL.len t]
theorem VRL.app:∀ {l cs l' cs'},VRL ρ l cs→VRL ρ l' cs'→VRL ρ (l++l') (cs++cs')
  | _,_,_,_,.nil,h=>h
  | _,_,_,_,.cons hv t,h=>.cons hv (VRL.app t h)
theorem VRL.get:∀ {l cs} {k:Nat} {u:V},VRL ρ l cs→l[k]? = some u→∃ v,cs[k]? = some v∧VR ρ u v
  | _,_,_,_,.nil,h=>by simp at h
  | _,_,0,u,.cons hv t,h=>by
    simp only [List.getElem?_cons_zero,Option.some.injEq] at h
    exact ⟨_,rfl,h▸hv⟩
  | _,_,k+1,u,.cons hv t,h=>by
    simp only [List.getElem?_cons_succ] at h ⊢
    exact VRL.get t h
theorem VRL.take:∀ {l cs} (k:Nat),VRL ρ l cs→VRL ρ (l.take k) (cs.take k)
  | _,_,0,_=>by simpa using VRL.nil
  | _,_,_+1,.nil=>.nil
  | _,_,k+1,.cons hv t=>.cons hv (VRL.take k t)
theorem VRL.drop:∀ {l cs} (k:Nat),VRL ρ l cs→VRL ρ (l.drop k) (cs.drop k)
  | _,_,0,h=>h
  | _,_,_+1,.nil=>.nil
  | _,_,k+1,.cons _ t=>VRL.drop k t
theorem VRL.set:∀ {l cs} (k:Nat) {u v},VRL ρ l cs→VR ρ u v→VRL ρ (l.set k u) (cs.set k v)
  | _,_,0,_,_,.cons _ t,h=>.cons h t
  | _,_,k+1,_,_,.cons hv t,h=>.cons hv (VRL.set k t h)
  | _,_,_,_,_,.nil,_=>.nil
end
def toV:Value→V
  | .agg cs=>.ag (cs.toList.map .c)
  | .tuple cs=>.tu (cs.toList.map .c)
  | v=>.c v
theorem VRL.ofc {ρ:Env}:∀ l:List Value,VRL ρ (l.map .c) l
  | []=>.nil
  | _::t=>.cons .c (VRL.ofc t)
theorem toV_ok {ρ:Env} (v:Value):VR ρ (toV v) v:=by
  unfold toV
  split
  · rename_i cs; exact .ag (cs:=cs.toList) (VRL.ofc _)
  · rename_i cs; exact .tu (cs:=cs.toList) (VRL.ofc _)
  · exact .c
inductive Df where
  | call (f:FuncId) (l:List V)
  | mark (e:Nat)
structure S where
  fr:Fm
  H:List (Nat × Ent)
  nx:Nat
  df:List Df
def lkE:List (Nat × Ent)→Nat→Option Ent
  | [],_=>none
  | (k,v)::t,j=>match Nat.beq k j with
    | true=>some v
    | false=>lkE t j
def xev (fr:Fm):Operand→Option V
  | .tmp t=>lkV fr t
  | .const v=>some (toV v)
  | .func f=>some (.fn f [])
  | .global g=>some (.c (.pointer (some ⟨g,0,none⟩)))
def FR (ρ:Env) (fr:Fm) (L:List (Nat × Value)):Prop:=∀ k u,lkV fr k=some u→∃ v,lk L k=some v∧VR ρ u v
theorem FR.mono {ρ ρ':Env} {fr L} (h:ρ.le ρ') (hf:FR ρ fr L):FR ρ' fr L:=fun k u hk=>let ⟨v,h1,h2⟩:=hf k u hk; ⟨v,h1,h2.mono h⟩
theorem FR.put {ρ:Env} {fr L} {d:Nat} {u:V} {v:Value} (hf:FR ρ fr L) (h:VR ρ u v):FR ρ (putV fr d u) ((d,v)::L):=by
  intro k u' hk
  simp only [lk]
  rcases putV_get hk with ⟨rfl,rfl⟩ | ⟨h1,h2⟩
  · exact ⟨v,by rw [Nat.beq_refl],h⟩
  · have hb:Nat.beq d k=false:=by
      cases hb:Nat.beq d k with
      | false=>rfl
      | true=>exact absurd (Nat.eq_of_beq_eq_true hb).symm h1
    rw [hb]; exact hf k u' h2
theorem FR.ev {ρ:Env} {fr L} {x:Operand} {u:V} (hf:FR ρ fr L) (h:xev fr x=some u):∃ v,ev L x=some v∧VR ρ u v:=by
  cases x with
  | tmp t=>exact hf t u h
  | const v=>simp only [xev,Option.some.injEq] at h; exact ⟨v,rfl,h▸toV_ok v⟩
  | func f=>simp only [xev,Option.some.injEq] at h; exact ⟨_,rfl,h▸.fn (cs:=[]) .nil⟩
  | global g=>simp only [xev,Option.some.injEq] at h; exact ⟨_,rfl,h▸.c⟩
def oneV:V→Bool
  | .c (.agg _)=>false
  | .c (.tuple _)=>false
  | .c _=>true
  | .p _ _=>true
  | .q _ _ _ _=>true
  | .sl _=>true
  | .sw _ _ _ _=>true
  | .fn _ _=>true
  | .bf _ _=>true
  | .yd _=>true
  | .mp _=>true
  | .ez=>true
  | _=>false
theorem oneV_ok {ρ:Env} {u:V} {v:Value} (h:VR ρ u v) (h1:oneV u=true):oneCells [v]=true:=by
  cases h with
  | c=>cases v <;> first | rfl | cases h1
  | ag=>cases h1
  | tu=>cases h1
  | p=>rfl
  | q he hs=>rename_i v; cases v <;> first | rfl | cases hs
  | sl he hs=>cases v <;> first | rfl | cases hs
  | sw he hs=>rename_i v; cases v <;> first | (simp only [vsub]; split <;> rfl) | cases hs
  | fn=>rfl
  | bf=>rfl
  | yd=>rfl
  | mp=>rfl
  | ez=>rfl
  | un=>cases h1
def Row (sz:Nat):Type:={l:List Value // l.length=sz∧oneCells l=true}
def encW (sz:Nat) (r:Row sz):List Value:=r.1
theorem encW_len {sz:Nat}:∀ r:Row sz,(encW sz r).length=sz:=fun r=>r.2.1
theorem encW_one {sz:Nat}:∀ r:Row sz,oneCells (encW sz r)=true:=fun r=>r.2.2
inductive RL {α:Type} (ρ:Env) (C:Cd α):List α→List (Row C.sz)→Prop
  | nil:RL ρ C [] []
  | cons {x y xs ys} (h:VRL ρ (C.enc x) y.1) (t:RL ρ C xs ys):RL ρ C (x::xs) (y::ys)
theorem RL.monoS {α:Type} {ρ ρ':Env} {C:Cd α} (h:ρ.sub ρ'):∀ {xs ys},RL ρ C xs ys→RL ρ' C xs ys
  | _,_,.nil=>.nil
  | _,_,.cons a t=>.cons (a.monoS h) (RL.monoS h t)
theorem RL.mono {α:Type} {ρ ρ':Env} {C:Cd α} (h:ρ.le ρ') {xs ys} (hr:RL ρ C xs ys):RL ρ' C xs ys:=hr.monoS h.sub
theorem RL.len {α:Type} {ρ:Env} {C:Cd α}:∀ {xs ys},RL ρ C xs ys→xs.length=ys.length
  | _,_,.nil=>rfl
  | _,_,.cons _ t=>by simp [RL.len t]
theorem RL.get {α:Type} {ρ:Env} {C:Cd α}:∀ {xs ys} {k:Nat} {x:α},RL ρ C xs ys→xs[k]? = some x→∃ y,ys[k]? = some y∧VRL ρ (C.enc x) y.1
  | _,_,_,_,.nil,h=>by simp at h
  | _,_,0,x,.cons a t,h=>by
    simp only [List.getElem?_cons_zero,Option.some.injEq] at h
    exact ⟨_,rfl,h▸a⟩
  | _,_,k+1,x,.cons a t,h=>by
    simp only [List.getElem?_cons_succ] at h ⊢
    exact RL.get t h
theorem RL.idx {α:Type} {ρ:Env} {C:Cd α} {xs ys} {p:Int} {x:α} (h:RL ρ C xs ys) (hx:SL.idx xs p=some x):∃ y,SL.idx ys p=some y∧VRL ρ (C.enc x) y.1:=by
  obtain ⟨h1,h2,h3⟩:=idx_some hx
  obtain ⟨y,h4,h5⟩:=h.get h3
  refine ⟨y,?_,h5⟩
  unfold SL.idx; rw [if_pos (by omega)]; exact h4
theorem RL.app {α:Type} {ρ:Env} {C:Cd α}:∀ {xs ys xs' ys'},RL ρ C xs ys→RL ρ C xs' ys'→RL ρ C (xs++xs') (ys++ys')
  | _,_,_,_,.nil,h=>h
  | _,_,_,_,.cons a t,h=>.cons a (RL.app t h)
theorem RL.take {α:Type} {ρ:Env} {C:Cd α}:∀ {xs ys} (k:Nat),RL ρ C xs ys→RL ρ C (xs.take k) (ys.take k)
  | _,_,0,_=>by simpa using RL.nil
  | _,_,_+1,.nil=>.nil
  | _,_,k+1,.cons hv t=>.cons hv (RL.take k t)
theorem RL.drop {α:Type} {ρ:Env} {C:Cd α}:∀ {xs ys} (k:Nat),RL ρ C xs ys→RL ρ C (xs.drop k) (ys.drop k)
  | _,_,0,h=>h
  | _,_,_+1,.nil=>.nil
  | _,_,k+1,.cons _ t=>RL.drop k t
theorem RL.set {α:Type} {ρ:Env} {C:Cd α}:∀ {xs ys} (k:Nat) {x y},RL ρ C xs ys→VRL ρ (C.enc x) y.1→RL ρ C (xs.set k x) (ys.set k y)
  | _,_,0,_,_,.cons _ t,h=>.cons h t
  | _,_,k+1,_,_,.cons hv t,h=>.cons hv (RL.set k t h)
  | _,_,_,_,_,.nil,_=>.nil
theorem RL.rep {α:Type} {ρ:Env} {C:Cd α} {x y} (h:VRL ρ (C.enc x) y.1):∀ n,RL ρ C (List.replicate n x) (List.replicate n y)
  | 0=>.nil
  | n+1=>.cons h (RL.rep h n)
def LR (ρ:Env) (e:Nat) (z:LoopE) (p:Asr):Prop :=
  ∃ (l:Nat) (rec:Loop) (L:List (Nat × Value)),ρ e=some (.func (.yield l) #[] #[])∧p=pt l (.loop rec)∧rec.state=stOf z.st∧rec.pending=z.pend.code∧rec.params=z.ps.toArray∧rec.assign=z.asg∧rec.body=z.body ∧
    rec.tmps.size=z.n∧(∀ k v,lk L k=some v→rec.tmps[k]? = some v)∧FR ρ z.fr L
inductive KVR (ρ:Env):List (V × V)→List (Value × Value)→Prop
  | nil:KVR ρ [] []
  | cons {k v k' v' l m} (h:VR ρ k k') (h':VR ρ v v') (t:KVR ρ l m):KVR ρ ((k,v)::l) ((k',v')::m)
theorem KVR.monoS {ρ ρ':Env} (h:ρ.sub ρ'):∀ {l m},KVR ρ l m→KVR ρ' l m
  | _,_,.nil=>.nil
  | _,_,.cons a b t=>.cons (a.monoS h) (b.monoS h) (KVR.monoS h t)
def kvE (e:MapEntry):Value × Value:=(e.key,e.val)
def mpOK (h:Hp) (b:Nat) (kvs:List (Value × Value)):Prop:=∃ es clock,h b=some (.map es clock)∧es.toList.map kvE=kvs∧(∀ e ∈ es.toList,e.born<clock)∧(es.toList.map (·.born)).Nodup
def mpA (b:Nat) (kvs:List (Value × Value)):Asr:=⟨fun k=>k=b,fun h=>mpOK h b kvs,fun h h' hk ⟨es,c,h1,h2,h3,h4⟩=>⟨es,c,by rw [hk b rfl]; exact h1,h2,h3,h4⟩⟩
def ER (ρ:Env) (e:Nat):Ent→Asr→Prop
  | .cel l ty,p=>∃ b cs,ρ e=some (.pointer (some ⟨b,0,none⟩))∧VRL ρ l cs∧p=pt b (.cells cs.toArray ty (0,0))
  | .arr ty k xs,p=>∃ v ys,ρ e=some v∧RL ρ k.cd xs ys∧p=slE ty k.cd.sz (encW k.cd.sz) v ys
  | .loop z,p=>LR ρ e z p
  | .mark,p=>∃ D,ρ e=some (.pointer (some ⟨D,0,none⟩))∧p=pt D (.deferred (some []))
  | .map l,p=>∃ b kvs,ρ e=some (.map (some b))∧KVR ρ l kvs∧p=mpA b kvs
  | .gl g l ty,p=>∃ cs,ρ e=some (.pointer (some ⟨g,0,none⟩))∧VRL ρ l cs∧p=pt g (.cells cs.toArray ty (0,0))
def EB (ρ:Env) (e:Nat):Ent→Asr→Prop
  | .cel l ty,p=>∃ b cs,ρ e=some (.pointer (some ⟨b,0,none⟩))∧VRL ρ l cs∧p=pt b (.cells cs.toArray ty (0,0))
  | .arr _ k xs,p=>∃ v ys,ρ e=some v∧RL ρ k.cd xs ys∧p=rdE k.cd.sz (encW k.cd.sz) v ys
  | .loop z,p=>LR ρ e z p
  | .mark,p=>∃ D,ρ e=some (.pointer (some ⟨D,0,none⟩))∧p=pt D (.deferred (some []))
  | .map l,p=>∃ b kvs,ρ e=some (.map (some b))∧KVR ρ l kvs∧p=mpA b kvs
  | .gl g l ty,p=>∃ cs,ρ e=some (.pointer (some ⟨g,0,none⟩))∧VRL ρ l cs∧p=pt g (.cells cs.toArray ty (0,0))
inductive HR (F:Nat→Ent→Asr→Prop):List (Nat × Ent)→List Asr→Prop
  | nil:HR F [] []
  | cons {e ent p H M} (h:F e ent p) (t:HR F H M):HR F ((e,ent)::H) (p::M)
theorem HR.mono {F G:Nat→Ent→Asr→Prop} (h:∀ e ent p,F e ent p→G e ent p):∀ {H M},HR F H M→HR G H M
  | _,_,.nil=>.nil
  | _,_,.cons a t=>.cons (h _ _ _ a) (HR.mono h t)
theorem LR.monoS {ρ ρ':Env} (h:ρ.sub ρ') {e z p} (he:LR ρ e z p):LR ρ' e z p:=by
  obtain ⟨l,rec,L,h1,h2,h3,h4,h5,h6,h7,h8,h9,h10⟩:=he
  exact ⟨l,rec,L,h _ _ h1,h2,h3,h4,h5,h6,h7,h8,h9,fun k u hk=>let ⟨v,a,b⟩:=h10 k u hk; ⟨v,a,b.monoS h⟩⟩
theorem ER.monoS {ρ ρ':Env} (h:ρ.sub ρ') {e ent p} (he:ER ρ e ent p):ER ρ' e ent p:=by
  cases ent with
  | loop z=>exact LR.monoS h he
  | mark=>obtain ⟨D,h1,h2⟩:=he; exact ⟨D,h _ _ h1,h2⟩
  | map l=>obtain ⟨b,kvs,h1,h2,h3⟩:=he; exact ⟨b,kvs,h _ _ h1,h2.monoS h,h3⟩
  | gl g l ty=>obtain ⟨cs,h1,h2,h3⟩:=he; exact ⟨cs,h _ _ h1,h2.monoS h,h3⟩
  | cel l ty=>obtain ⟨b,cs,h1,h2,h3⟩:=he; exact ⟨b,cs,h _ _ h1,h2.monoS h,h3⟩
  | arr ty C xs=>obtain ⟨v,cs,h1,h2,h3⟩:=he; exact ⟨v,cs,h _ _ h1,h2.monoS h,h3⟩
theorem ER.mono {ρ ρ':Env} (h:ρ.le ρ') {e ent p} (he:ER ρ e ent p):ER ρ' e ent p:=he.monoS h.sub
theorem EB.monoS {ρ ρ':Env} (h:ρ.sub ρ') {e ent p} (he:EB ρ e ent p):EB ρ' e ent p:=by
  cases ent with
  | loop z=>exact LR.monoS h he
  | mark=>obtain ⟨D,h1,h2⟩:=he; exact ⟨D,h _ _ h1,h2⟩
  | map l=>obtain ⟨b,kvs,h1,h2,h3⟩:=he; exact ⟨b,kvs,h _ _ h1,h2.monoS h,h3⟩
  | gl g l ty=>obtain ⟨cs,h1,h2,h3⟩:=he; exact ⟨cs,h _ _ h1,h2.monoS h,h3⟩
  | cel l ty=>obtain ⟨b,cs,h1,h2,h3⟩:=he; exact ⟨b,cs,h _ _ h1,h2.monoS h,h3⟩
  | arr ty C xs=>obtain ⟨v,cs,h1,h2,h3⟩:=he; exact ⟨v,cs,h _ _ h1,h2.monoS h,h3⟩
theorem EB.mono {ρ ρ':Env} (h:ρ.le ρ') {e ent p} (he:EB ρ e ent p):EB ρ' e ent p:=he.monoS h.sub
def ixE:List (Nat × Ent)→Nat→Nat
  | [],_=>0
  | (k,_)::t,j=>match Nat.beq k j with
    | true=>0
    | false=>ixE t j+1
theorem HR.get {F:Nat→Ent→Asr→Prop}:∀ {H M} {e:Nat} {ent:Ent},HR F H M→lkE H e=some ent→∃ p,M[ixE H e]? = some p∧F e ent p
  | _,_,_,_,.nil,h=>by cases h
  | _,_,e,ent,.cons (e:=k) a t,h=>by
    simp only [lkE] at h
    simp only [ixE]
    split at h
    · rename_i hb
      simp only [Option.some.injEq] at h
      subst h
      have:=Nat.eq_of_beq_eq_true hb
      subst this
      exact ⟨_,rfl,a⟩
    · rename_i hb
      obtain ⟨p,h1,h2⟩:=HR.get t h
      exact ⟨p,by simpa using h1,h2⟩
def setE:List (Nat × Ent)→Nat→Ent→List (Nat × Ent)
  | [],_,_=>[]
  | (k,v)::t,j,x=>match Nat.beq k j with
    | true=>(k,x)::t
    | false=>(k,v)::setE t j x
theorem HR.set {F:Nat→Ent→Asr→Prop}:∀ {H M} {e:Nat} {ent ent':Ent} {p':Asr},HR F H M→lkE H e=some ent→F e ent' p'→HR F (setE H e ent') (M.set (ixE H e) p')
  | _,_,_,_,_,_,.nil,h,_=>by cases h
  | _,_,e,ent,ent',p',.cons (e:=k) a t,h,hp=>by
    simp only [lkE] at h
    simp only [ixE,setE]
    split at h
    · rename_i hb
      have:=Nat.eq_of_beq_eq_true hb
      subst this
      exact .cons hp t
    · rename_i hb
      exact .cons a (HR.set t h hp)
def dfrd (f:FuncId) (vs:List Value):Deferred:={ target:=.fn (.func f) #[],args:=vs.toArray }
inductive DR (ρ:Env):List Df→List Deferred→Prop
  | nil:DR ρ [] []
  | call {f l vs t ds} (h:VRL ρ l vs) (r:DR ρ t ds):DR ρ (.call f l::t) (dfrd f vs::ds)
  | mark {e D t ds} (h:ρ e=some (.pointer (some ⟨D,0,none⟩))) (r:DR ρ t ds):DR ρ (.mark e::t) ({ target:=.collected D,args:=#[] }::ds)
theorem DR.mono {ρ ρ':Env} (h:ρ.le ρ'):∀ {l ds},DR ρ l ds→DR ρ' l ds
  | _,_,.nil=>.nil
  | _,_,.call a t=>.call (a.mono h) (DR.mono h t)
  | _,_,.mark a t=>.mark (h.get a) (DR.mono h t)
structure Rl (w0:World) (X:Nat→Prop) (B:List (Nat × Ent)) (n:Nat) (s:S) (ρ:Env) (L:List (Nat × Value)) (BM M:List Asr) (ds:List Deferred) (a:Act) (w:World):Prop where
  dom:ρ.nx=s.nx
  fr:FR ρ s.fr L
  hb:HR (EB ρ) B BM
  hm:HR (ER ρ) s.H M
  df:DR ρ s.df ds
  act:Fr a n ds L
  st:St w0 w X BM M
end Go.RX
