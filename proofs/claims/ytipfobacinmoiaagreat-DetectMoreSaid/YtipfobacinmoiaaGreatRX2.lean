/- The operations that read: what the reckoner says of them, and that the model agrees. -/
import Derived.Test.YtipfobacinmoiaaGreatRX1
import Derived.Laws.Strings
set_option linter.unusedVariables false
set_option linter.unusedSimpArgs false
namespace Go.RX
open Go Go.SL
universe u
def SeeE (ρ:Env) (h:Hp) (e:Nat):Ent→Prop
  | .cel l ty=>∃ b cs,ρ e=some (.pointer (some ⟨b,0,none⟩))∧VRL ρ l cs∧h b=some (.cells cs.toArray ty (0,0))
  | .arr _ k xs=>∃ v ys,ρ e=some v∧RL ρ k.cd xs ys∧rdEOK h k.cd.sz (encW k.cd.sz) v ys
  | .loop _=>True
  | .mark=>True
  | .map l=>∃ b kvs,ρ e=some (.map (some b))∧KVR ρ l kvs∧mpOK h b kvs
  | .gl g l ty=>∃ cs,VRL ρ l cs∧h g=some (.cells cs.toArray ty (0,0))
def rdA (s:S) (B:List (Nat × Ent)) (e:Nat):Option Ent:=match lkE s.H e with
  | some x=>some x
  | none=>lkE B e
structure Sees (ρ:Env) (B:List (Nat × Ent)) (s:S) (L:List (Nat × Value)) (w:World):Prop where
  fr:FR ρ s.fr L
  en:∀ e ent,rdA s B e=some ent→SeeE ρ (hp w) e ent
def Gives (P:Program) (ρ:Env) (L:List (Nat × Value)) (op:Op) (ty:TypeId) (w:World) (u:V):Prop:=∃ v,VR ρ u v∧∀ n ds,RunV P n ds L op ty w v w
def getX (s:S) (x:Operand):R V:=R.lift (xev s.fr x)
section
variable {P:Program} {ρ:Env} {B:List (Nat × Ent)} {s:S} {L:List (Nat × Value)} {w:World} {op:Op} {ty t t' e:TypeId} {x y:Operand} {φ:V→Prop}
theorem getX_ok (h:Sees ρ B s L w) (x:Operand):(getX s x).Ok fun u=>∃ v,ev L x=some v∧VR ρ u v:=R.Ok.lift fun _ hy=>h.fr.ev hy
theorem getX_then {β:Type u} {ψ:β→Prop} {k:V→R β} (h:Sees ρ B s L w) (hk:∀ u v,ev L x=some v→VR ρ u v→(k u).Ok ψ):((getX s x).bind k).Ok ψ :=
  (getX_ok h x).andThen fun u ⟨v,h1,h2⟩=>hk u v h1 h2
theorem pure_c {v:Value} (h:∀ n ds,RunV P n ds L op ty w v w):(R.pure (V.c v)).Ok (Gives P ρ L op ty w):=R.Ok.pure ⟨v,.c,h⟩
def xarith (op:BinOp) (k k':IntKind) (p q:Int):R V:=match op with
  | .shl=>(askP (0≤q)).bind fun _=>R.pure (.c (.int k (k.wrap (p*2^(min q.toNat k.bits)))))
  | .shr=>(askP (0≤q)).bind fun _=>R.pure (.c (.int k (p.fdiv (2^(min q.toNat k.bits)))))
  | _=>match kEq k k' with
    | false=>R.fail
    | true=>match op with
      | .add=>R.pure (.c (.int k (k.wrap (p+q))))
      | .sub=>R.pure (.c (.int k (k.wrap (p-q))))
      | .mul=>R.pure (.c (.int k (k.wrap (p*q))))
      | .quo=>(askP (q≠0)).bind fun _=>R.pure (.c (.int k (k.wrap (p.tdiv q))))
      | .rem=>(askP (q≠0)).bind fun _=>R.pure (.c (.int k (p.tmod q)))
      | .and=>R.pure (.c (.int k (SL.bitand k p q)))
      | .or=>R.pure (.c (.int k (SL.bitor k p q)))
      | .xor=>R.pure (.c (.int k (SL.bitxor k p q)))
      | .andNot=>R.pure (.c (.int k (SL.bitandNot k p q)))
      | .eql=>R.pure (.c (.bool (decide (p=q))))
      | .neq=>R.pure (.c (.bool (decide (p≠q))))
      | .lss=>R.pure (.c (.bool (decide (p<q))))
      | .leq=>R.pure (.c (.bool (decide (p≤q))))
      | .gtr=>R.pure (.c (.bool (decide (p>q))))
      | .geq=>R.pure (.c (.bool (decide (p≥q))))
      | _=>R.fail
theorem xarith_ok {bo:BinOp} {k k':IntKind} {p q:Int} (hx:ev L x=some (.int k p)) (hy:ev L y=some (.int k' q)):(xarith bo k k' p q).Ok (Gives P ρ L (.binOp bo t x y t') ty w):=by
  unfold xarith
  split
  · exact (askP_ok _).andThen fun _ h=>pure_c fun n ds=>RunV.shl hx hy h
  · exact (askP_ok _).andThen fun _ h=>pure_c fun n ds=>RunV.shr hx hy h
  · split
    · exact R.Ok.fail
    · rename_i hk
      have:=kEq_ok hk
      subst this
      split
      · exact pure_c fun n ds=>RunV.add hx hy
      · exact pure_c fun n ds=>RunV.sub hx hy
      · exact pure_c fun n ds=>RunV.mul hx hy
      · exact (askP_ok _).andThen fun _ h=>pure_c fun n ds=>RunV.quo hx hy h
      · exact (askP_ok _).andThen fun _ h=>pure_c fun n ds=>RunV.rem hx hy h
      · exact pure_c fun n ds=>RunV.bitand hx hy
      · exact pure_c fun n ds=>RunV.bitor hx hy
      · exact pure_c fun n ds=>RunV.bitxor hx hy
      · exact pure_c fun n ds=>RunV.bitandNot hx hy
      · exact pure_c fun n ds=>RunV.eql hx hy
      · exact pure_c fun n ds=>RunV.neq hx hy
      · exact pure_c fun n ds=>RunV.lss hx hy
      · exact pure_c fun n ds=>RunV.leq hx hy
      · exact pure_c fun n ds=>RunV.gtr hx hy
      · exact pure_c fun n ds=>RunV.geq hx hy
      · exact R.Ok.fail
def xbool (P:Program) (t:TypeId) (op:BinOp) (a b:Bool):R V:=match P.underlying t with
  | some .bool=>match op with
    | .eql=>R.pure (.c (.bool (a == b)))
    | .neq=>R.pure (.c (.bool (!(a == b))))
    | _=>R.fail
  | _=>R.fail
theorem xbool_ok {bo:BinOp} {a b:Bool} (hx:ev L x=some (.bool a)) (hy:ev L y=some (.bool b)):(xbool P t bo a b).Ok (Gives P ρ L (.binOp bo t x y t') ty w):=by
  unfold xbool
  split
  · rename_i ht
    split
    · exact pure_c fun n ds=>RunV.eqBool ht hx hy
    · exact pure_c fun n ds=>RunV.neBool ht hx hy
    · exact R.Ok.fail
  · exact R.Ok.fail
def strEq (a b:ByteArray):Bool:=a.data.toList == b.data.toList
def tStr (P:Program) (t:TypeId):Bool:=match P.underlying t with
  | some .string=>true
  | _=>false
def tBool (P:Program) (t:TypeId):Bool:=match P.underlying t with
  | some .bool=>true
  | _=>false
def partV (P:Program) (t:TypeId) (l:List V) (o:Nat):Option V:=match tAgg P t with
  | some true=>match tSize P t with
    | some m=>match Nat.ble (o+m) l.length with
      | true=>some (.ag ((l.drop o).take m))
      | false=>none
    | none=>none
  | some false=>l[o]?
  | none=>none
def eqvL (P:Program) (E:TypeId→V→V→Option Bool) (l m:List V):List (TypeId × Nat)→Option Bool
  | []=>some true
  | (t,o)::r=>match partV P t l o with
    | some u=>match partV P t m o with
      | some v=>match E t u v with
        | some b1=>match eqvL P E l m r with
          | some b2=>some (b1&&b2)
          | none=>none
        | none=>none
      | none=>none
    | none=>none
def eqvI (P:Program) (E:V→V→Option Bool) (e c:Nat) (l m:List V):List Nat→Option Bool
  | []=>some true
  | i::r=>match partV P e l (i*c) with
    | some u=>match partV P e m (i*c) with
      | some v=>match E u v with
        | some b1=>match eqvI P E e c l m r with
          | some b2=>some (b1&&b2)
          | none=>none
        | none=>none
      | none=>none
    | none=>none
def eqvA (P:Program) (E:TypeId→V→V→Option Bool) (t:TypeId) (l m:List V):Option Bool:=match tFs P t with
  | some fs=>eqvL P E l m fs
  | none=>match tArr P t with
    | some (n,e)=>match tSize P e with
      | some c=>match (P.info? e).isSome with
        | true=>eqvI P (E e) e c l m (List.range n)
        | false=>none
      | none=>none
    | none=>none
def eqS (P:Program) (t:TypeId) (A:List V→List V→Option Bool):V→V→Option Bool
  | .c (.int k p),.c (.int k' q)=>match tInt P t with
    | some k2=>match kEq k k2&&kEq k' k2 with
      | true=>some (p == q)
      | false=>none
    | none=>none
  | .c (.bool a),.c (.bool b)=>match tBool P t with
    | true=>some (a == b)
    | false=>none
  | .c (.string a),.c (.string b)=>match tStr P t with
    | true=>some (strEq a b)
    | false=>none
  | .ag l,.ag m=>A l m
  | _,_=>none
def eqV (P:Program):Nat→TypeId→V→V→Option Bool
  | 0,_,_,_=>none
  | d+1,t,u,v=>eqS P t (eqvA P (eqV P d) t) u v
theorem strEq_eq (a b:ByteArray):(a == b)=strEq a b:=by
  unfold strEq
  have:(a == b)=(a.data == b.data):=rfl
  rw [this]
  cases a; cases b
  simp only
  rename_i x y
  cases x; cases y; simp
theorem VRL.part {l:List V} {cs:List Value} {o:Nat} {u:V} (h:VRL ρ l cs) (hp:partV P t l o=some u):∃ v,PartR P t cs.toArray o v∧VR ρ u v:=by
  unfold partV at hp
  split at hp
  · rename_i ha
    split at hp
    · rename_i m hs
      split at hp
      · rename_i hle
        simp only [Option.some.injEq] at hp
        subst hp
        refine ⟨.agg ((cs.drop o).take m).toArray,PartR.agg ha hs ?_,.ag ((h.drop o).take m)⟩
        apply Array.ext'
        simp only [Array.toList_extract,List.extract_eq_take_drop]
        congr 1; omega
      · cases hp
    · cases hp
  · rename_i ha
    obtain ⟨v,h1,h2⟩:=h.get hp
    exact ⟨v,PartR.one ha (by simpa using h1),h2⟩
  · cases hp
theorem eqvL_ok {d:Nat} {E:TypeId→V→V→Option Bool} (hE:∀ t u v x y r,E t u v=some r→VR ρ u x→VR ρ v y→EqR P d t x y r) {l m:List V} {cs cs':List Value} (h1:VRL ρ l cs) (h2:VRL ρ m cs') :
    ∀ {fs r},eqvL P E l m fs=some r→EqL P d cs.toArray cs'.toArray fs r
  | [],r,h=>by simp only [eqvL,Option.some.injEq] at h; subst h; exact EqL.nil
  | (t,o)::q,r,h=>by
    simp only [eqvL] at h
    split at h
    · rename_i u hu
      split at h
      · rename_i v hv
        split at h
        · rename_i b1 hb1
          split at h
          · rename_i b2 hb2
            simp only [Option.some.injEq] at h
            subst h
            obtain ⟨x,p1,r1⟩:=h1.part hu
            obtain ⟨y,p2,r2⟩:=h2.part hv
            exact EqL.cons p1 p2 (hE _ _ _ _ _ _ hb1 r1 r2) (eqvL_ok hE h1 h2 hb2)
          · cases h
        · cases h
      · cases h
    · cases h
theorem eqvI_ok {d c:Nat} {E:V→V→Option Bool} (hE:∀ u v x y r,E u v=some r→VR ρ u x→VR ρ v y→EqR P d e x y r) {l m:List V} {cs cs':List Value} (h1:VRL ρ l cs) (h2:VRL ρ m cs') :
    ∀ {is r},eqvI P E e c l m is=some r→EqI P d e c cs.toArray cs'.toArray is r
  | [],r,h=>by simp only [eqvI,Option.some.injEq] at h; subst h; exact EqI.nil
  | i::q,r,h=>by
    simp only [eqvI] at h
    split at h
    · rename_i u hu
      split at h
      · rename_i v hv
        split at h
        · rename_i b1 hb1
          split at h
          · rename_i b2 hb2
            simp only [Option.some.injEq] at h
            subst h
            obtain ⟨x,p1,r1⟩:=h1.part hu
            obtain ⟨y,p2,r2⟩:=h2.part hv
            exact EqI.cons p1 p2 (hE _ _ _ _ _ hb1 r1 r2) (eqvI_ok hE h1 h2 hb2)
          · cases h
        · cases h
      · cases h
    · cases h
theorem eqvA_ok {d:Nat} {E:TypeId→V→V→Option Bool} (hE:∀ t u v x y r,E t u v=some r→VR ρ u x→VR ρ v y→EqR P d t x y r) {l m:List V} {cs cs':List Value} (h1:VRL ρ l cs) (h2:VRL ρ m cs') {r:Bool}
    (h:eqvA P E t l m=some r):EqR P (d+1) t (.agg cs.toArray) (.agg cs'.toArray) r:=by
  unfold eqvA at h
  split at h
  · rename_i fs hfs
    exact EqR.struct hfs (eqvL_ok hE h1 h2 h)
  · split at h
    · rename_i n e ha
      split at h
      · rename_i c hs
        split at h
        · rename_i hi
          refine EqR.arr (c:=c) ha ?_ hi (eqvI_ok (hE e) h1 h2 h)
          obtain ⟨inf,h3,h4⟩:=Option.map_eq_some_iff.1 hs
          simp [Program.cellsOf,h3,h4]
        · cases h
      · cases h
    · cases h
theorem eqS_ok {d:Nat} {A:List V→List V→Option Bool} (hA:∀ l m cs cs' r,A l m=some r→VRL ρ l cs→VRL ρ m cs'→EqR P (d+1) t (.agg cs.toArray) (.agg cs'.toArray) r) (u v:V) (x y:Value) (r:Bool) (h:eqS P t A u v=some r) (hu:VR ρ u x) (hv:VR ρ v y):EqR P (d+1) t x y r:=by
  unfold eqS at h
  split at h
  · cases hu; cases hv
    split at h
    · rename_i k2 hk2
      split at h
      · rename_i hb
        simp only [Bool.and_eq_true] at hb
        have e1:=kEq_ok hb.1
        have e2:=kEq_ok hb.2
        subst e1 e2
        simp only [Option.some.injEq] at h
        subst h
        exact EqR.int hk2
      · cases h
    · cases h
  · cases hu; cases hv
    split at h
    · rename_i hb
      simp only [Option.some.injEq] at h
      subst h
      refine EqR.bool ?_
      unfold tBool at hb
      split at hb
      · rename_i h5; exact h5
      · cases hb
    · cases h
  · cases hu; cases hv
    split at h
    · rename_i hb
      simp only [Option.some.injEq] at h
      subst h
      rw [← strEq_eq]
      refine EqR.str ?_
      unfold tStr at hb
      split at hb
      · rename_i h5; exact h5
      · cases hb
    · cases h
  · cases hu with
    | ag h1=>cases hv with
      | ag h2=>exact hA _ _ _ _ _ h h1 h2
  · cases h
theorem eqV_ok {D:Nat}:∀ (d:Nat) (t:TypeId) (u v:V) (x y:Value) (r:Bool),eqV P d t u v=some r→VR ρ u x→VR ρ v y→EqR P (D+d) t x y r
  | 0,_,_,_,_,_,_,h,_,_=>by simp [eqV] at h
  | d+1,t,u,v,x,y,r,h,hu,hv =>
    eqS_ok (d:=D+d) (fun _ _ _ _ _ h h1 h2=>eqvA_ok (fun t u v x y r=>eqV_ok d t u v x y r) h1 h2 h) u v x y r h hu hv
def xstr (op:BinOp) (a b:ByteArray):R V:=match op with
  | .eql=>R.pure (.c (.bool (strEq a b)))
  | .neq=>R.pure (.c (.bool (!strEq a b)))
  | .add=>(askP (a.size+b.size≤1000000)).bind fun _=>R.pure (.c (.string ⟨⟨a.data.toList++b.data.toList⟩⟩))
  | _=>R.fail
theorem str_app (a b:ByteArray):(⟨⟨a.data.toList++b.data.toList⟩⟩:ByteArray)=a++b:=by
  apply ByteArray.ext
  rw [ByteArray.data_append]
  apply Array.ext'
  simp
theorem run_addS {a b:ByteArray} (h:a.size+b.size≤1000000):(binOp .add t (.string a) (.string b)).run P w=.ok (.string (a++b)) w:=by
  have h2:¬ (((a.size+b.size:Nat):Int)>IntKind.i64.max):=by
    have:IntKind.i64.max=9223372036854775807:=by decide
    omega
  simp only [binOp,Op.stringOp]
  rw [if_neg h2]
  rfl
theorem run_bin {op:BinOp} {u v z:Value} (hx:ev L x=some u) (hy:ev L y=some v) (hg:eqGuard op t x y u v=(Pure.pure ():Sem Unit)) (hr:(binOp op t u v).run P w=.ok z w):∀ n ds,RunV P n ds L (.binOp op t x y t') ty w z w:=fun n ds a d pos af g hf=>by
  simp only [execOp,hf.eval hx,hf.eval hy,hg]
  exact run_v (by simpa [Sem.run_bind,Sem.run_pure,Result.andThen] using hr)
theorem xstr_ok {bo:BinOp} {a b:ByteArray} (hx:ev L x=some (.string a)) (hy:ev L y=some (.string b)):(xstr bo a b).Ok (Gives P ρ L (.binOp bo t x y t') ty w):=by
  have e1:(a.toList == b.toList)=strEq a b:=by unfold strEq; rw [ByteArray.toList_eq,ByteArray.toList_eq]
  unfold xstr
  split
  · exact pure_c (run_bin hx hy rfl (by simp [binOp,Op.stringOp,e1]))
  · exact pure_c (run_bin hx hy rfl (by simp [binOp,Op.stringOp,e1]))
  · refine (askP_ok _).andThen fun _ hp=>?_
    rw [str_app]
    exact pure_c (run_bin hx hy rfl (run_addS hp))
  · exact R.Ok.fail
def xagg (P:Program) (t:TypeId) (op:BinOp) (u v:V):R V:=match P.eqGuardType P.depth t with
  | true=>R.fail
  | false=>match op with
    | .eql=>(R.lift (eqV P 10 t u v)).bind fun b=>R.pure (.c (.bool b))
    | .neq=>(R.lift (eqV P 10 t u v)).bind fun b=>R.pure (.c (.bool (!b)))
    | _=>R.fail
theorem xagg_ok {bo:BinOp} {l m:List V} {u v:Value} (hx:ev L x=some u) (hy:ev L y=some v) (hu:VR ρ (.ag l) u) (hv:VR ρ (.ag m) v):(xagg P t bo (.ag l) (.ag m)).Ok (Gives P ρ L (.binOp bo t x y t') ty w):=by
  unfold xagg
  split
  · exact R.Ok.fail
  · rename_i hg
    split
    · refine R.Ok.bind (R.Ok.lift fun b hb=>?_)
      have h:=eqV_ok (D:=9990) 10 t _ _ _ _ b hb hu hv
      cases hu; cases hv
      exact pure_c fun n ds=>RunV.eqAgg (d:=10) rfl hg hx hy h
    · refine R.Ok.bind (R.Ok.lift fun b hb=>?_)
      have h:=eqV_ok (D:=9990) 10 t _ _ _ _ b hb hu hv
      cases hu; cases hv
      exact pure_c fun n ds=>RunV.neAgg (d:=10) rfl hg hx hy h
    · exact R.Ok.fail
def xbin (P:Program) (t:TypeId) (op:BinOp) (u v:V):R V:=match u,v with
  | .c (.int k p),.c (.int k' q)=>xarith op k k' p q
  | .c (.bool a),.c (.bool b)=>xbool P t op a b
  | .c (.string a),.c (.string b)=>xstr op a b
  | .ag l,.ag m=>xagg P t op (.ag l) (.ag m)
  | _,_=>R.fail
theorem xbin_ok {bo:BinOp} {u' v':V} {u v:Value} (hx:ev L x=some u) (hy:ev L y=some v) (hu:VR ρ u' u) (hv:VR ρ v' v):(xbin P t bo u' v').Ok (Gives P ρ L (.binOp bo t x y t') ty w):=by
  unfold xbin
  split
  · cases hu; cases hv; exact xarith_ok hx hy
  · cases hu; cases hv; exact xbool_ok hx hy
  · cases hu; cases hv; exact xstr_ok hx hy
  · exact xagg_ok hx hy hu hv
  · exact R.Ok.fail
def xun (op:UnOp) (u:V):R V:=match op,u with
  | .neg,.c (.int k m)=>R.pure (.c (.int k (k.wrap (0-m))))
  | .not,.c (.bool b)=>R.pure (.c (.bool (!b)))
  | .xor,.c (.int k m)=>R.pure (.c (.int k (SL.bitxor k (if k.signed then -1 else k.max) m)))
  | _,_=>R.fail
theorem xun_ok {uo:UnOp} {u':V} {u:Value} (hx:ev L x=some u) (hu:VR ρ u' u):(xun uo u').Ok (Gives P ρ L (.unOp uo t x) ty w):=by
  unfold xun
  split
  · cases hu; exact pure_c fun n ds=>RunV.neg hx
  · cases hu; exact pure_c fun n ds=>RunV.not hx
  · cases hu; exact pure_c fun n ds=>RunV.com rfl hx
  · exact R.Ok.fail
def xconv (P:Program) (t t':TypeId) (u:V):R V:=match u with
  | .c (.int k p)=>match (P.underlying t).isSome with
    | false=>R.fail
    | true=>match tInt P t' with
      | some k'=>R.pure (.c (.int k' (k'.wrap p)))
      | none=>R.fail
  | .c (.string a)=>match (P.underlying t).isSome,P.underlying t' with
    | true,some .string=>R.pure (.c (.string a))
    | _,_=>R.fail
  | _=>R.fail
theorem xconv_ok {u':V} {u:Value} (hx:ev L x=some u) (hu:VR ρ u' u):(xconv P t t' u').Ok (Gives P ρ L (.convert t t' x) ty w):=by
  unfold xconv
  split
  · cases hu
    split
    · exact R.Ok.fail
    · rename_i ht
      split
      · rename_i hk; exact pure_c fun n ds=>RunV.conv ht hk hx
      · exact R.Ok.fail
  · cases hu
    split
    · rename_i h1 h2
      refine pure_c fun n ds a d pos af g hf=>?_
      obtain ⟨du,hd⟩:=Option.isSome_iff_exists.1 h1
      simp only [execOp,hf.eval hx]
      refine run_v ?_
      simp only [convert,Sem.run_bind,run_underlying hd,run_underlying h2,Result.andThen]
      cases du <;> rfl
    · exact R.Ok.fail
  · exact R.Ok.fail
def xpick (z u v:V):R V:=match z with
  | .c (.bool b)=>(askB b).bind fun b'=>match b' with
    | true=>R.pure u
    | false=>R.pure v
  | _=>R.fail
theorem xpick_ok {z x y:Operand} {z' u' v':V} {zv u v:Value} (hz:ev L z=some zv) (hx:ev L x=some u) (hy:ev L y=some v) (hzv:VR ρ z' zv) (hu:VR ρ u' u) (hv:VR ρ v' v):(xpick z' u' v').Ok (Gives P ρ L (.pick z x y) ty w):=by
  unfold xpick
  split
  · cases hzv
    refine (askB_ok _).andThen fun b' hb=>?_
    subst hb
    split
    · exact R.Ok.pure ⟨u,hu,fun n ds=>RunV.pick hz hx hy rfl⟩
    · exact R.Ok.pure ⟨v,hv,fun n ds=>RunV.pick hz hx hy rfl⟩
  · exact R.Ok.fail
end
end Go.RX
