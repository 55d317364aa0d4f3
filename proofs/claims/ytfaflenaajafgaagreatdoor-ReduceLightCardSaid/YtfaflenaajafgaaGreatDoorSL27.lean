/- Shorter forms, for printed texts. -/
import Derived.Test.YtfaflenaajafgaaGreatDoorSLz
set_option linter.unusedVariables false
set_option linter.unusedSimpArgs false
namespace Go.SL
open Go
section
variable {r:Option Nat} {P:Program} {Q:Exit→Act→World→Prop} {ops:Array Oper} {i:Nat} {rest l:List Nat} {a:Act} {w w' w0:World} {n:Nat} {ds:List Deferred} {L:List (Nat × Value)}
  {d:Nat} {op:Op} {ty:TypeId} {v:Value} {y:Code} {id:Nat} {X:Nat→Prop} {B M N R:List Asr} {pp qq:Asr}
def mvk (L:List (Nat × Value)) (n:Nat):Option Oper→Option (Nat × Value)
  | some ⟨some d,.move x,_,_,_,none⟩=>match Nat.blt d n,ev L x with
    | true,some v=>some (d,v)
    | _,_=>none
  | some ⟨some d,.assign x,_,_,_,none⟩=>match Nat.blt d n,ev L x with
    | true,some v=>some (d,v)
    | _,_=>none
  | _=>none
theorem mv (hf:Fr a n ds L) (h:mvk L n ops[i]? = some (d,v)) (k:∀ a',Fr a' n ds ((d,v)::L)→O r P ops Q rest a' w):O r P ops Q (i::rest) a w:=by
  unfold mvk at h
  split at h
  · split at h
    · obtain ⟨rfl,rfl⟩:=Prod.mk.inj (Option.some.inj h)
      exact O.val hf (by assumption) rfl (by assumption) (Z.move (by assumption)) k
    · cases h
  · split at h
    · obtain ⟨rfl,rfl⟩:=Prod.mk.inj (Option.some.inj h)
      exact O.val hf (by assumption) rfl (by assumption) (Z.assign (by assumption)) k
    · cases h
  · cases h
def opk (n:Nat):Option Oper→Option (Nat × Op × TypeId)
  | some ⟨some d,op,ty,_,_,none⟩=>match noDefer op,Nat.blt d n with
    | true,true=>some (d,op,ty)
    | _,_=>none
  | _=>none
theorem ov (hf:Fr a n ds L) (h:opk n ops[i]? = some (d,op,ty)) (hr:RunV P n ds L op ty w v w') (k:∀ a',Fr a' n ds ((d,v)::L)→O r P ops Q rest a' w'):O r P ops Q (i::rest) a w:=by
  unfold opk at h
  split at h
  · split at h
    · cases h
      exact O.val hf (by assumption) (by assumption) (by assumption) hr k
    · cases h
  · cases h
theorem nk (h:W r P y Q a w):O r P ops (Exit.then (W r P y Q) Q) [] a w:=O.nil (ksq h)
theorem sg {ops:Array Oper} (hl:List.range ops.size=l) (h:O r P ops (Exit.then (W r P y Q) Q) l a w):W r P (.seq (.region id ops false) y) Q a w:=W.seq (wrL hl h)
class App (A B:List Asr) (C:outParam (List Asr)):Prop where
  eq:A++B=C
instance App.nil:App [] B B:=⟨rfl⟩
instance App.cons [h:App N B R]:App (pp::N) B (pp::R):=⟨congrArg (pp::·) h.eq⟩
theorem St.cl [h:App N M R] (hS:St w0 w X B M) (hc:St w w' noX [] N):St w0 w' X B R:=h.eq▸hS.call hc
class Del (i:Nat) (M:List Asr) (p:outParam Asr) (R:outParam (List Asr)):Prop where
  get:M[i]? = some p
  eq:M.eraseIdx i=R
instance Del.zero:Del 0 (pp::M) pp M:=⟨rfl,rfl⟩
instance Del.succ [h:Del i M pp R]:Del (i+1) (qq::M) pp (qq::R):=⟨h.get,congrArg (qq::·) h.eq⟩
theorem St.fr (hS:St w0 w X B M) (i:Nat) [h:Del i M pp R]:St w0 w X B (pp::R):=hS.front h.get (congrArg (pp::·) h.eq)
theorem bl {a b:Nat} (h:Nat.ble a b=true):a≤b:=Nat.le_of_ble_eq_true h
theorem St.p {b:Nat} {o:Obj} (h:St w0 w X B M) (i:Nat) (hi:M[i]? = some (pt b o)):w.heap[b]? = some o:=h.ptAt hi
theorem St.b {T:Type} {sz:Nat} {enc:T→List Value} {l:List T} (h:St w0 w X B M) (j:Nat) (hi:B[j]? = some (rdE sz enc v l)):rdEOK (hp w) sz enc v l:=h.rdB hi
theorem St.s {T:Type} {e sz:Nat} {enc:T→List Value} {l:List T} (h:St w0 w X B M) (j:Nat) (hi:M[j]? = some (slE e sz enc v l)):rdEOK (hp w) sz enc v l:=h.rdS hi
theorem St.s0 (h:St w0 w X B M):St w0 w X B []:=h.sub (List.nil_sublist _)
class Sel (bs:List Nat) (M:List Asr) (N:outParam (List Asr)):Prop where
  sub:N.Sublist M
instance Sel.nil:Sel [] M []:=⟨List.nil_sublist _⟩
instance Sel.one {bs:List Nat} [h:Sel bs M N]:Sel (1::bs) (pp::M) (pp::N):=⟨h.sub.cons_cons _⟩
instance Sel.zero {bs:List Nat} [h:Sel bs M N]:Sel (0::bs) (pp::M) N:=⟨h.sub.cons _⟩
theorem St.sl (hS:St w0 w X B M) (bs:List Nat) [h:Sel bs M N]:St w0 w X B N:=hS.sub h.sub
def pk (L:List (Nat × Value)):List (Nat × Value)→List (Nat × Value)
  | []=>[]
  | (k,_)::t=>match lk L k with
    | some v=>(k,v)::pk L t
    | none=>[]
theorem pk_subs:∀ {L':List (Nat × Value)},pk L L'=L'→Subs L L'
  | [],_=>trivial
  | (k,v)::t,h=>by
    simp only [pk] at h
    split at h
    · rename_i u hu
      simp only [List.cons.injEq,Prod.mk.injEq,true_and] at h
      exact ⟨h.1▸hu,pk_subs h.2⟩
    · cases h
theorem Fr.q {L':List (Nat × Value)} (h:Fr a n ds L) (e:pk L L'=L'):Fr a n ds L':=h.to (pk_subs e)
def gpk (n:Nat) (L:List (Nat × Value)) (ops:Array Oper):Option Oper→Option (Nat × Op × TypeId × Bool × Bool)
  | some ⟨some d,op,ty,_,_,some (jj,want)⟩=>match (ops[jj]?).bind (·.dst) with
    | some dj=>match lk L dj,noDefer op,Nat.blt d n with
      | some (.bool c),true,true=>some (d,op,ty,c,want)
      | _,_,_=>none
    | none=>none
  | _=>none
theorem og {c want:Bool} (hf:Fr a n ds L) (h:gpk n L ops ops[i]? = some (d,op,ty,c,want)) (hc:c=want) (hr:RunV P n ds L op ty w v w') (k:∀ a',Fr a' n ds ((d,v)::L)→O r P ops Q rest a' w'):O r P ops Q (i::rest) a w:=by
  unfold gpk at h
  split at h
  · split at h
    · split at h
      · cases h
        exact O.gvalB hf (by assumption) (by assumption) (by assumption) hc (by assumption) (by assumption) hr k
      · cases h
    · cases h
  · cases h
theorem sk {c want:Bool} (hf:Fr a n ds L) (h:gpk n L ops ops[i]? = some (d,op,ty,c,want)) (hc:c=!want) (k:∀ a',Fr a' n ds ((d,undef)::L)→O r P ops Q rest a' w):O r P ops Q (i::rest) a w:=by
  unfold gpk at h
  split at h
  · split at h
    · split at h
      · cases h
        exact O.skipB hf (by assumption) (by assumption) (by assumption) hc (by assumption) k
      · cases h
    · cases h
  · cases h
def clk (n:Nat) (L:List (Nat × Value)):Option Oper→Option (Nat × FuncId × Array Value)
  | some ⟨some d,.call ⟨.value f,args,_⟩,_,_,_,none⟩=>match Nat.blt d n,ev L f,evA L args.toList with
    | true,some (.func (.func fid) first captured),some vs=>some (d,fid,(first.toList++(vs++captured.toList)).toArray)
    | _,_,_=>none
  | _=>none
theorem oc {f:FuncId} {av:Array Value} {G:Type} {u:G→Value} {R:G→World→Prop} (hf:Fr a n ds L) (h:clk n L ops[i]? = some (d,f,av)) (hk:cOK P f=true) (hc:Ret P f av w u R)
    (k:∀ g w',R g w'→∀ a',Fr a' n ds ((d,u g)::L)→O r P ops Q rest a' w'):O r P ops Q (i::rest) a w:=by
  unfold clk at h
  split at h
  · split at h
    · cases h
      exact O.callR hf (by assumption) rfl (by assumption) (RunE.call hk (by assumption) (by assumption) (by apply Array.ext'; simp)) hc k
    · cases h
  · cases h
class SetA (j:Nat) (M:List Asr) (q:Asr) (M':outParam (List Asr)):Prop where
  eq:M.set j q=M'
instance SetA.zero:SetA 0 (pp::M) qq (qq::M):=⟨rfl⟩
instance SetA.succ {j:Nat} [h:SetA j M qq R]:SetA (j+1) (pp::M) qq (pp::R):=⟨congrArg (pp::·) h.eq⟩
theorem ost (j:Nat) (cs':Array Value) {b o m e:Nat} {t:TypeId} {x z:Operand} {pos:String} {af:Array Edge} {cs:Array Value} (hf:Fr a n ds L) (hS:St w0 w X B M) (ho:ops[i]? = some ⟨none,.store t x z,ty,pos,af,none⟩) (hx:ev L x=some (.pointer (some ⟨b,o,none⟩))) (hy:ev L z=some v)
    (hs:tSize P t=some m) (hv:v.cells.size=m) (h1:oneCells v.cells.toList=true) (hM:M[j]? = some (pt b (.cells cs e (0,0)))) (hle:o+m≤cs.size) (hc:wr cs o v.cells.toList=cs') [h:SetA j M (pt b (.cells cs' e (0,0))) N]
    (k:∀ w',St w0 w' X B N→O r P ops Q rest a w'):O r P ops Q (i::rest) a w:=O.store hf hS ho hx hy hs hv h1 hM hle hc h.eq k
end
end Go.SL
