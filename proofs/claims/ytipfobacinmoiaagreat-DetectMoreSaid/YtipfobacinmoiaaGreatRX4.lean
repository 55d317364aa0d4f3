/- Values built of parts, lengths, parts of slices. -/
import Derived.Test.YtipfobacinmoiaaGreatRX3
set_option linter.unusedVariables false
set_option linter.unusedSimpArgs false
namespace Go.RX
open Go Go.SL
universe u
section
variable {P:Program} {ρ:Env} {B:List (Nat × Ent)} {s:S} {L:List (Nat × Value)} {w:World} {op:Op} {ty t t' e:TypeId} {x y:Operand} {φ:V→Prop}
def wrV:List V→Nat→List V→List V
  | l,_,[]=>l
  | l,o,u::t=>wrV (l.set o u) (o+1) t
theorem wrV_ok:∀ {m:List V} {ws:List Value} {l:List V} {cs:Array Value} (o:Nat),VRL ρ l cs.toList→VRL ρ m ws→VRL ρ (wrV l o m) (wr cs o ws).toList
  | _,_,_,_,_,h,.nil=>h
  | _,_,_,cs,o,h,.cons hv t=>by
    simp only [wrV,wr]
    refine wrV_ok (o+1) ?_ t
    rw [Array.toList_setIfInBounds]
    exact h.set o hv
theorem zip_wr:∀ (l:List Value) (k off:Nat) (cs:Array Value),(l.zipIdx k).foldl (fun cs (p:Value × Nat)=>cs.setIfInBounds (off+p.2) p.1) cs=wr cs (off+k) l
  | [],_,_,_=>rfl
  | v::t,k,off,cs=>by
    simp only [List.zipIdx_cons,List.foldl_cons,wr]
    rw [zip_wr t (k+1) off,Nat.add_assoc]
def fillV (pl:Nat→Option (Nat × Nat)):List V→List (Nat × V)→Option (List V)
  | cells,[]=>some cells
  | cells,(i,u)::rest=>match pl i with
    | none=>none
    | some (off,size)=>match cellsV u with
      | none=>none
      | some m=>match Nat.beq m.length size&&Nat.ble (off+size) cells.length with
        | true=>fillV pl (wrV cells off m) rest
        | false=>none
inductive PR (ρ:Env):List (Nat × V)→List (Nat × Value)→Prop
  | nil:PR ρ [] []
  | cons {i u v l m} (h:VR ρ u v) (t:PR ρ l m):PR ρ ((i,u)::l) ((i,v)::m)
theorem fillV_ok {pl:Nat→Option (Nat × Nat)}:∀ {ps:List (Nat × V)} {vs:List (Nat × Value)} {l:List V} {cs:Array Value} {l':List V},PR ρ ps vs→VRL ρ l cs.toList→fillV pl l ps=some l'→∃ cs',Instr.fill pl cs vs=some cs'∧VRL ρ l' cs'.toList
  | _,_,l,cs,l',.nil,hl,h=>by
    simp only [fillV,Option.some.injEq] at h
    subst h
    exact ⟨cs,rfl,hl⟩
  | _,_,l,cs,l',.cons (i:=i) (u:=u) (v:=v) hv t,hl,h=>by
    simp only [fillV] at h
    split at h
    · cases h
    · rename_i off size hp
      split at h
      · cases h
      · rename_i m hm
        split at h
        · rename_i hb
          simp only [Bool.and_eq_true] at hb
          have h1:=Nat.eq_of_beq_eq_true hb.1
          have h2:=Nat.le_of_ble_eq_true hb.2
          subst h1
          have hc:=cellsV_ok hv hm
          have hsz:v.cells.size=m.length:=by have:=hc.len; simpa using this.symm
          have hle:off+v.cells.size≤cs.size:=by
            have:=hl.len; rw [hsz]; simp only [Array.length_toList] at this; omega
          simp only [Instr.fill,hp]
          rw [if_neg (by simp [hsz]; omega)]
          have e1:v.cells.zipIdx.foldl (fun cs (c,j)=>cs.setIfInBounds (off+j) c) cs=wr cs off v.cells.toList:=by
            have:=zip_wr v.cells.toList 0 off cs
            rw [Nat.add_zero] at this
            rw [← this,← Array.foldl_toList,Array.toList_zipIdx]
          rw [e1]
          exact fillV_ok t (wrV_ok off hl hc) h
        · cases h
def xevP (fr:Fm):List (Nat × Operand)→Option (List (Nat × V))
  | []=>some []
  | (i,x)::t=>match xev fr x with
    | some v=>match xevP fr t with
      | some vs=>some ((i,v)::vs)
      | none=>none
    | none=>none
def xevA (fr:Fm):List Operand→Option (List V)
  | []=>some []
  | x::t=>match xev fr x with
    | some v=>match xevA fr t with
      | some vs=>some (v::vs)
      | none=>none
    | none=>none
theorem xevP_ok (h:Sees ρ B s L w):∀ {l:List (Nat × Operand)} {ps},xevP s.fr l=some ps→∃ vs,evP L l=some vs∧PR ρ ps vs
  | [],ps,hp=>by simp only [xevP,Option.some.injEq] at hp; subst hp; exact ⟨[],rfl,.nil⟩
  | (i,x)::t,ps,hp=>by
    simp only [xevP] at hp
    split at hp
    · rename_i u hu
      split at hp
      · rename_i us hus
        simp only [Option.some.injEq] at hp
        subst hp
        obtain ⟨v,h1,h2⟩:=h.fr.ev hu
        obtain ⟨vs,h3,h4⟩:=xevP_ok h hus
        exact ⟨(i,v)::vs,by simp only [evP,h1,h3],.cons h2 h4⟩
      · cases hp
    · cases hp
theorem xevA_okF {fr:Fm} (h:FR ρ fr L):∀ {l:List Operand} {ps},xevA fr l=some ps→∃ vs,evA L l=some vs∧VRL ρ ps vs
  | [],ps,hp=>by simp only [xevA,Option.some.injEq] at hp; subst hp; exact ⟨[],rfl,.nil⟩
  | x::t,ps,hp=>by
    simp only [xevA] at hp
    split at hp
    · rename_i u hu
      split at hp
      · rename_i us hus
        simp only [Option.some.injEq] at hp
        subst hp
        obtain ⟨v,h1,h2⟩:=h.ev hu
        obtain ⟨vs,h3,h4⟩:=xevA_okF h hus
        exact ⟨v::vs,by simp only [evA,h1,h3],.cons h2 h4⟩
      · cases hp
    · cases hp
theorem xevA_ok (h:Sees ρ B s L w) {l:List Operand} {ps} (hp:xevA s.fr l=some ps):∃ vs,evA L l=some vs∧VRL ρ ps vs:=xevA_okF h.fr hp
def zeroV (P:Program) (t:TypeId):Option (List V):=(tZero P t).map fun z=>z.cells.toList.map .c
def xbuild (P:Program) (s:S) (t:TypeId) (parts:List (Nat × Operand)):R V :=
  (R.lift (xevP s.fr parts)).bind fun ps=>(R.lift (zeroV P t)).bind fun z=>match tPlaces P t with
    | some pl=>(R.lift (fillV (fun i=>pl[i]?) z ps)).bind fun l=>R.pure (.ag l)
    | none=>match tArr P t with
      | some (_,e)=>match tSize P e with
        | some sz=>(R.lift (fillV (fun i=>some (i*sz,sz)) z ps)).bind fun l=>R.pure (.ag l)
        | none=>R.fail
      | none=>R.fail
theorem xbuild_ok {parts:Array (Nat × Operand)} (h:Sees ρ B s L w):(xbuild P s t parts.toList).Ok (Gives P ρ L (.build t parts) ty w):=by
  unfold xbuild
  refine R.Ok.bind (R.Ok.lift fun ps hps=>R.Ok.bind (R.Ok.lift fun z hz=>?_))
  obtain ⟨vs,h1,h2⟩:=xevP_ok h hps
  obtain ⟨zv,h3,rfl⟩:=Option.map_eq_some_iff.1 hz
  split
  · rename_i pl hpl
    refine R.Ok.bind (R.Ok.lift fun l hl=>?_)
    obtain ⟨cs',h4,h5⟩:=fillV_ok h2 (VRL.ofc (ρ:=ρ) _) hl
    exact R.Ok.pure ⟨.agg cs',VR.ag (cs:=cs'.toList) h5,fun n ds=>RunV.buildS hpl h3 h1 h4⟩
  · split
    · rename_i n' e hA
      split
      · rename_i sz hs
        refine R.Ok.bind (R.Ok.lift fun l hl=>?_)
        obtain ⟨cs',h4,h5⟩:=fillV_ok h2 (VRL.ofc (ρ:=ρ) _) hl
        exact R.Ok.pure ⟨.agg cs',VR.ag (cs:=cs'.toList) h5,fun n ds=>RunV.buildA hA hs h3 h1 h4⟩
      · exact R.Ok.fail
    · exact R.Ok.fail
def xmkfn (s:S) (fn:Fn) (first captured:List Operand):R V:=match fn,first with
  | .func f,[]=>(R.lift (xevA s.fr captured)).bind fun l=>R.pure (.fn f l)
  | .func f,x::t=>match captured with
    | []=>(R.lift (xevA s.fr (x::t))).bind fun l=>R.pure (.bf f l)
    | _::_=>R.fail
  | _,_=>R.fail
theorem xmkfn_ok {fn:Fn} {first captured:Array Operand} (h:Sees ρ B s L w):(xmkfn s fn first.toList captured.toList).Ok (Gives P ρ L (.makeFunc fn first captured) ty w):=by
  unfold xmkfn
  split
  · rename_i f hf0
    refine R.Ok.bind (R.Ok.lift fun l hl=>?_)
    obtain ⟨vs,h1,h2⟩:=xevA_ok h hl
    exact R.Ok.pure ⟨_,.fn h2,fun n ds=>RunV.makeFunc (vs:=[]) (us:=vs) (by rw [hf0]; rfl) h1 rfl rfl⟩
  · rename_i f x t hf0
    split
    · rename_i hc0
      refine R.Ok.bind (R.Ok.lift fun l hl=>?_)
      obtain ⟨vs,h1,h2⟩:=xevA_ok h hl
      exact R.Ok.pure ⟨_,.bf h2,fun n ds=>RunV.makeFunc (vs:=vs) (us:=[]) (by rw [hf0]; exact h1) (by rw [hc0]; rfl) rfl rfl⟩
    · exact R.Ok.fail
  · exact R.Ok.fail
def xlen (P:Program) (B:List (Nat × Ent)) (s:S) (at_:Array TypeId) (u:V):R V:=match u with
  | .sl e=>match rdA s B e with
    | some (.arr _ k xs)=>match (at_[0]?).bind (tElem P) with
      | some _=>R.pure (.c (.int .i64 (xs.length:Int)))
      | none=>R.fail
    | _=>R.fail
  | .sw e sz a b=>match rdA s B e with
    | some (.arr _ k xs)=>match (at_[0]?).bind (tElem P),Nat.beq sz k.cd.sz with
      | some _,true=>(askP (sbd a b (xs.length:Int))).bind fun _=>R.pure (.c (.int .i64 (b-a)))
      | _,_=>R.fail
    | _=>R.fail
  | .c (.slice none 0 0)=>match (at_[0]?).bind (tElem P) with
    | some _=>R.pure (.c (.int .i64 0))
    | none=>R.fail
  | .c (.string a)=>match (at_[0]?).map (tStr P) with
    | some true=>R.pure (.c (.int .i64 (a.size:Int)))
    | _=>R.fail
  | .ez=>match (at_[0]?).bind (tElem P) with
    | some _=>R.pure (.c (.int .i64 0))
    | none=>R.fail
  | _=>R.fail
theorem xlen_ok {at_:Array TypeId} {u':V} {u:Value} (h:Sees ρ B s L w) (hx:ev L x=some u) (hu:VR ρ u' u):(xlen P B s at_ u').Ok (Gives P ρ L (.call ⟨.builtin .len,#[x],at_⟩) ty w):=by
  unfold xlen
  split
  · split
    · rename_i ty' k xs hr
      split
      · rename_i el hel
        cases hu with
        | sl he hs =>
          obtain ⟨v,ys,h1,h2,h3⟩:=h.arr hr
          rw [he] at h1; injection h1 with h1; subst h1
          rw [h2.len]
          exact pure_c fun n ds=>RunV.lenE hel hx h3
      · exact R.Ok.fail
    · exact R.Ok.fail
  · split
    · rename_i ty' k xs hr
      split
      · rename_i el hel hb
        have:=Nat.eq_of_beq_eq_true hb
        subst this
        refine (askP_ok _).andThen fun _ hp=>?_
        cases hu with
        | sw he hs =>
          obtain ⟨v,ys,h1,h2,h3⟩:=h.arr hr
          rw [he] at h1; injection h1 with h1; subst h1
          rw [h2.len] at hp
          refine pure_c fun n ds=>?_
          have:=RunV.lenE (P:=P) (n:=n) (ds:=ds) (ty:=ty) hel hx (h3.sub encW_len hp)
          rw [lsub_leni hp] at this
          exact this
      · exact R.Ok.fail
    · exact R.Ok.fail
  · split
    · rename_i el hel
      cases hu
      exact pure_c fun n ds=>RunV.len hel hx
    · exact R.Ok.fail
  · split
    · rename_i hel
      cases hu
      refine pure_c fun n ds a d pos af g hf=>?_
      obtain ⟨tt,ht,he'⟩:=Option.map_eq_some_iff.1 hel
      have hus:P.underlying tt=some .string:=by
        unfold tStr at he'
        split at he'
        · rename_i h5; exact h5
        · cases he'
      refine run_builtin (vs:=[_]) hf (by simp [evA,hx]; rfl) ?_
      simp only [builtin]
      refine run_v ?_
      simp [Builtin.len_,ht,run_underlying hus]
      rfl
    · exact R.Ok.fail
  · split
    · rename_i el hel
      cases hu
      exact pure_c fun n ds=>RunV.len hel hx
    · exact R.Ok.fail
  · exact R.Ok.fail
def xmm (mx:Bool):V→V→Option V
  | .c (.int k p),.c (.int k' q)=>match kEq k k' with
    | true=>match mx with
      | true=>some (.c (.int k (if p<q then q else p)))
      | false=>some (.c (.int k (if q<p then q else p)))
    | false=>none
  | _,_=>none
def xmmL (mx:Bool):V→List V→Option V
  | u,[]=>some u
  | u,v::t=>match xmm mx u v with
    | some z=>xmmL mx z t
    | none=>none
theorem xmm_max {u v z:V} {a b:Value} (hu:VR ρ u a) (hv:VR ρ v b) (h:xmm true u v=some z):∃ c,VR ρ z c∧(Builtin.max2 a b).run P w=.ok c w:=by
  unfold xmm at h
  split at h
  · split at h
    · simp only [Option.some.injEq] at h
      subst h
      cases hu; cases hv
      exact ⟨_,.c,rfl⟩
    · cases h
  · cases h
theorem xmm_min {u v z:V} {a b:Value} (hu:VR ρ u a) (hv:VR ρ v b) (h:xmm false u v=some z):∃ c,VR ρ z c∧(Builtin.min2 a b).run P w=.ok c w:=by
  unfold xmm at h
  split at h
  · split at h
    · simp only [Option.some.injEq] at h
      subst h
      cases hu; cases hv
      exact ⟨_,.c,rfl⟩
    · cases h
  · cases h
theorem xmmL_max:∀ {l:List V} {cs:List Value} {u z:V} {a:Value},VR ρ u a→VRL ρ l cs→xmmL true u l=some z→∃ c,VR ρ z c∧(cs.foldlM Builtin.max2 a).run P w=.ok c w
  | _,_,u,z,a,hu,.nil,h=>by
    simp only [xmmL,Option.some.injEq] at h
    subst h
    exact ⟨a,hu,rfl⟩
  | _,_,u,z,a,hu,.cons hv t,h=>by
    simp only [xmmL] at h
    split at h
    · rename_i z' hz
      obtain ⟨c,h1,h2⟩:=xmm_max (P:=P) (w:=w) hu hv hz
      obtain ⟨c',h3,h4⟩:=xmmL_max h1 t h
      refine ⟨c',h3,?_⟩
      simp only [List.foldlM_cons,Sem.run_bind,h2,Result.andThen,h4]
    · cases h
theorem xmmL_min:∀ {l:List V} {cs:List Value} {u z:V} {a:Value},VR ρ u a→VRL ρ l cs→xmmL false u l=some z→∃ c,VR ρ z c∧(cs.foldlM Builtin.min2 a).run P w=.ok c w
  | _,_,u,z,a,hu,.nil,h=>by
    simp only [xmmL,Option.some.injEq] at h
    subst h
    exact ⟨a,hu,rfl⟩
  | _,_,u,z,a,hu,.cons hv t,h=>by
    simp only [xmmL] at h
    split at h
    · rename_i z' hz
      obtain ⟨c,h1,h2⟩:=xmm_min (P:=P) (w:=w) hu hv hz
      obtain ⟨c',h3,h4⟩:=xmmL_min h1 t h
      refine ⟨c',h3,?_⟩
      simp only [List.foldlM_cons,Sem.run_bind,h2,Result.andThen,h4]
    · cases h
def xmaxmin (mx:Bool):List V→R V
  | u::t=>R.lift (xmmL mx u t)
  | []=>R.fail
theorem xmax_ok {args:Array Operand} {at_:Array TypeId} {l:List V} {cs:List Value} (hx:evA L args.toList=some cs) (hl:VRL ρ l cs):(xmaxmin true l).Ok (Gives P ρ L (.call ⟨.builtin .max,args,at_⟩) ty w):=by
  cases hl with
  | nil=>exact R.Ok.fail
  | cons hv t =>
    refine R.Ok.lift fun z hz=>?_
    obtain ⟨c,h1,h2⟩:=xmmL_max (P:=P) (w:=w) hv t hz
    refine ⟨c,h1,fun n ds a d pos af g hf=>run_builtin hf hx ?_⟩
    simp only [builtin]
    exact run_v h2
theorem xmin_ok {args:Array Operand} {at_:Array TypeId} {l:List V} {cs:List Value} (hx:evA L args.toList=some cs) (hl:VRL ρ l cs):(xmaxmin false l).Ok (Gives P ρ L (.call ⟨.builtin .min,args,at_⟩) ty w):=by
  cases hl with
  | nil=>exact R.Ok.fail
  | cons hv t =>
    refine R.Ok.lift fun z hz=>?_
    obtain ⟨c,h1,h2⟩:=xmmL_min (P:=P) (w:=w) hv t hz
    refine ⟨c,h1,fun n ds a d pos af g hf=>run_builtin hf hx ?_⟩
    simp only [builtin]
    exact run_v h2
def bndV (s:S) (d:Int):Option Operand→Option Int
  | none=>some d
  | some x=>match xev s.fr x with
    | some (.c (.int _ p))=>some p
    | _=>none
theorem bndV_ok (h:Sees ρ B s L w) {d:Int} {o:Option Operand} {p:Int} (hp:bndV s d o=some p):(o=none∧p=d)∨∃ x k,o=some x∧ev L x=some (.int k p):=by
  unfold bndV at hp
  split at hp
  · simp only [Option.some.injEq] at hp; exact .inl ⟨rfl,hp.symm⟩
  · split at hp
    · rename_i x k q hq
      simp only [Option.some.injEq] at hp
      subst hp
      obtain ⟨v,h1,h2⟩:=h.fr.ev hq
      cases h2
      exact .inr ⟨_,_,rfl,h1⟩
    · cases hp
theorem vsub_vsub {sz:Nat} {A:Option Addr} {n c:Nat} {a b p q:Int} (hn:n≤c) (h1:sbd a b (n:Int)) (h2:sbd p q (b-a)) (h3:p<b-a∨p=0):vsub sz (vsub sz (.slice A n c) a b) p q=vsub sz (.slice A n c) (a+p) (a+q):=by
  obtain ⟨a1,a2,a3⟩:=h1
  obtain ⟨b1,b2,b3⟩:=h2
  obtain ⟨a',rfl⟩:=Int.eq_ofNat_of_zero_le a1
  obtain ⟨p',rfl⟩:=Int.eq_ofNat_of_zero_le b1
  have e1:((a':Int)+(p':Int)).toNat=a'+p':=by omega
  have e2:((a':Int)+q).toNat-(a'+p')=q.toNat-p':=by omega
  simp only [vsub,e1,Int.toNat_natCast,e2]
  congr 1
  · rcases h3 with h3 | h3
    · have n1:¬ c=a'+p':=by omega
      have n2:¬ c-a'=p':=by omega
      have n3:¬ c=a':=by omega
      rw [if_neg n1,if_neg n2,if_neg n3]
      cases A with
      | none=>rfl
      | some x =>
        obtain ⟨xb,xo,xs⟩:=x
        simp only [Option.map_some,Addr.add,Nat.add_mul]
        by_cases k1:a'*sz=0 <;> by_cases k2:p'*sz=0 <;> simp [k1,k2,Nat.add_assoc]
    · have h3:p'=0:=by omega
      subst h3
      simp only [Nat.add_zero,Nat.zero_mul]
      by_cases hc:c=a'
      · simp [hc]
      · have n2:¬ c-a'=0:=by omega
        rw [if_neg hc,if_neg n2]
        cases A with
        | none=>rfl
        | some x=>simp [Addr.add]
  · omega
def winV (e z:Nat) (a b p q:Int):V:=match decide (p<b-a∨p=0) with
  | true=>.sw e z (a+p) (a+q)
  | false=>.ez
def xslice (P:Program) (B:List (Nat × Ent)) (s:S) (t:TypeId) (u:V) (lo hi:Option Operand):R V:=match u with
  | .sl e=>match rdA s B e with
    | some (.arr _ k xs)=>match tElem P t with
      | some el=>match tSize P el with
        | some z=>match Nat.beq z k.cd.sz with
          | true=>(R.lift (bndV s 0 lo)).bind fun a=>(R.lift (bndV s (xs.length:Int) hi)).bind fun b=>(askP (sbd a b (xs.length:Int))).bind fun _=>R.pure (.sw e z a b)
          | false=>R.fail
        | none=>R.fail
      | none=>R.fail
    | _=>R.fail
  | .sw e z0 a0 b0=>match rdA s B e with
    | some (.arr _ k xs)=>match tElem P t with
      | some el=>match tSize P el with
        | some z=>match Nat.beq z k.cd.sz&&Nat.beq z0 z with
          | true=>(askP (sbd a0 b0 (xs.length:Int))).bind fun _=>(R.lift (bndV s 0 lo)).bind fun a=>(R.lift (bndV s (b0-a0) hi)).bind fun b=>(askP (sbd a b (b0-a0))).bind fun _=>R.pure (winV e z a0 b0 a b)
          | false=>R.fail
        | none=>R.fail
      | none=>R.fail
    | _=>R.fail
  | .c (.string a)=>match tStr P t with
    | true=>(R.lift (bndV s 0 lo)).bind fun p=>(R.lift (bndV s (a.size:Int) hi)).bind fun q=>(askP (sbd p q (a.size:Int))).bind fun _=>R.pure (.c (.string (a.extract p.toNat q.toNat)))
    | false=>R.fail
  | _=>R.fail
theorem xslice_ok {u':V} {u:Value} {lo hi:Option Operand} (h:Sees ρ B s L w) (hx:ev L x=some u) (hu:VR ρ u' u):(xslice P B s t u' lo hi).Ok (Gives P ρ L (.slice t x lo hi none) ty w):=by
  unfold xslice
  split
  · split
    · rename_i ty' k xs hr
      split
      · rename_i el hel
        split
        · rename_i z hz
          split
          · rename_i hb
            have:=Nat.eq_of_beq_eq_true hb
            subst this
            refine R.Ok.bind (R.Ok.lift fun a ha=>R.Ok.bind (R.Ok.lift fun b hb'=>(askP_ok _).andThen fun _ hp=>?_))
            cases hu with
            | sl he hs =>
              obtain ⟨v,ys,h1,h2,h3⟩:=h.arr hr
              rw [he] at h1; injection h1 with h1; subst h1
              rw [h2.len] at hp hb'
              refine R.Ok.pure ⟨_,.sw he hs,fun n ds a' d pos af g hf=>?_⟩
              have hlo:lo.map a'.eval=none∧a=0∨∃ k,lo.map a'.eval=some (.int k a):=by
                rcases bndV_ok h ha with ⟨rfl,rfl⟩ | ⟨xx,kk,rfl,h5⟩
                · exact .inl ⟨rfl,rfl⟩
                · exact .inr ⟨kk,by simp [hf.eval h5]⟩
              have hhi:hi.map a'.eval=none∧b=ys.length∨∃ k,hi.map a'.eval=some (.int k b):=by
                rcases bndV_ok h hb' with ⟨rfl,rfl⟩ | ⟨xx,kk,rfl,h5⟩
                · exact .inl ⟨rfl,rfl⟩
                · exact .inr ⟨kk,by simp [hf.eval h5]⟩
              simp only [execOp,hf.eval hx,Option.map_none]
              exact run_v (run_sub hel hz h3 _ _ hp hlo hhi)
          · exact R.Ok.fail
        · exact R.Ok.fail
      · exact R.Ok.fail
    · exact R.Ok.fail
  · rename_i e0 z0 a0 b0
    split
    · rename_i ty' k xs hr
      split
      · rename_i el hel
        split
        · rename_i z hz
          split
          · rename_i hb
            simp only [Bool.and_eq_true] at hb
            have hb1:=Nat.eq_of_beq_eq_true hb.1
            have hb2:=Nat.eq_of_beq_eq_true hb.2
            subst hb1
            subst hb2
            refine (askP_ok _).andThen fun _ hp0=>R.Ok.bind (R.Ok.lift fun a ha=>R.Ok.bind (R.Ok.lift fun b hb'=>(askP_ok _).andThen fun _ hp=>?_))
            cases hu with
            | sw he hs =>
              obtain ⟨v,ys,h1,h2,h3⟩:=h.arr hr
              rw [he] at h1; injection h1 with h1; subst h1
              rw [h2.len] at hp0
              have hsub:=h3.sub encW_len hp0
              have hll:=lsub_leni (l:=ys) hp0
              have hgo:∀ n ds,RunV P n ds L (.slice t x lo hi none) ty w (vsub k.cd.sz (vsub k.cd.sz _ a0 b0) a b) w:=fun n ds a' d pos af g hf=>by
                have hlo:lo.map a'.eval=none∧a=0∨∃ k,lo.map a'.eval=some (.int k a):=by
                  rcases bndV_ok h ha with ⟨rfl,rfl⟩ | ⟨xx,kk,rfl,h5⟩
                  · exact .inl ⟨rfl,rfl⟩
                  · exact .inr ⟨kk,by simp [hf.eval h5]⟩
                have hhi:hi.map a'.eval=none∧b=((SL.lsub ys a0 b0).length:Int)∨∃ k,hi.map a'.eval=some (.int k b):=by
                  rcases bndV_ok h hb' with ⟨rfl,rfl⟩ | ⟨xx,kk,rfl,h5⟩
                  · exact .inl ⟨rfl,hll.symm⟩
                  · exact .inr ⟨kk,by simp [hf.eval h5]⟩
                simp only [execOp,hf.eval hx,Option.map_none]
                exact run_v (run_sub hel hz hsub _ _ (by rw [hll]; exact hp) hlo hhi)
              obtain ⟨⟨_,_,A,c,rfl,_⟩,hfit⟩:=h3
              have hfit:ys.length≤c:=hfit
              refine R.Ok.pure ⟨_,?_,hgo⟩
              unfold winV
              split
              · rename_i hd
                rw [vsub_vsub hfit hp0 hp (of_decide_eq_true hd)]
                exact .sw he hs
              · rename_i hd
                have hd:=of_decide_eq_false hd
                obtain ⟨q1,q2,q3⟩:=hp
                have:b.toNat-a.toNat=0:=by omega
                simp only [vsub,this]
                exact .ez
          · exact R.Ok.fail
        · exact R.Ok.fail
      · exact R.Ok.fail
    · exact R.Ok.fail
  · rename_i a
    split
    · rename_i ht
      refine R.Ok.bind (R.Ok.lift fun p hp=>R.Ok.bind (R.Ok.lift fun q hq=>(askP_ok _).andThen fun _ hb=>?_))
      cases hu
      refine pure_c fun n ds a' d pos af g hf=>?_
      have hus:P.underlying t=some .string:=by
        unfold tStr at ht
        split at ht
        · rename_i h5; exact h5
        · cases ht
      obtain ⟨b1,b2,b3⟩:=hb
      simp only [execOp,hf.eval hx,Option.map_none]
      refine run_v ?_
      have e1:∀ k z,(asIntOf (Value.int k z)).run P w=.ok (k,z) w:=fun k z=>rfl
      have hI:∀ lo' hi':Option Value,(Instr.sliceAt t (.string a) lo' hi' none).run P w=(Instr.slice t (.string a) lo' hi' none).run P w:=fun _ _=>run_sliceAt_string _ _ _ _ _ _ hus
      rcases bndV_ok h hp with ⟨rfl,rfl⟩ | ⟨xx,kk,rfl,h5⟩ <;> rcases bndV_ok h hq with ⟨rfl,rfl⟩ | ⟨xx',kk',rfl,h6⟩
      · simp [hI,Instr.slice,run_underlying hus,Instr.sliceBounds,Sem.run_bind,Result.andThen]
      · simp only [Option.map_none,Option.map_some,hf.eval h6,hI,Instr.slice,run_underlying hus,Sem.run_bind,Result.andThen,Instr.sliceBounds,Instr.sliceBound,e1,Sem.run_pure,Option.isSome_none,Bool.false_eq_true,if_false]
        rw [if_pos ⟨by omega,by omega⟩]
        simp [Sem.run_pure]
      · simp only [Option.map_none,Option.map_some,hf.eval h5,hI,Instr.slice,run_underlying hus,Sem.run_bind,Result.andThen,Instr.sliceBounds,Instr.sliceBound,e1,Sem.run_pure,Option.isSome_none,Bool.false_eq_true,if_false]
        rw [if_pos ⟨by omega,by omega⟩]
        simp [Sem.run_pure]
      · simp only [Option.map_some,hf.eval h5,hf.eval h6,hI,Instr.slice,run_underlying hus,Sem.run_bind,Result.andThen,Instr.sliceBounds,Instr.sliceBound,e1,Sem.run_pure,Option.isSome_none,Bool.false_eq_true,if_false]
        rw [if_pos ⟨by omega,by omega⟩]
        simp only [Sem.run_bind,Result.andThen,e1,Sem.run_pure]
        rw [if_pos ⟨by omega,by omega⟩]
        simp [Sem.run_pure]
    · exact R.Ok.fail
  · exact R.Ok.fail
end
end Go.RX
