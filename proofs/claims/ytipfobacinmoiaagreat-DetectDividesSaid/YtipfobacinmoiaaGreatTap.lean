/- Part of a proof: laws and walks. -/
import Derived.Test.YtipfobacinmoiaaGreatTao
import Derived.Test.YtipfobacinmoiaaGreatTac
set_option linter.unusedVariables false
set_option linter.unusedSimpArgs false
namespace Go.RX
open Go Go.SL
universe u
section
variable {P:Program} {ρ:Env} {B:List (Nat × Ent)} {s:S} {L:List (Nat × Value)} {w:World} {op:Op} {ty t t' e:TypeId} {x y:Operand} {φ:V→Prop}
def qa:V→Option (List V)
  | .ag l=>some l
  | .tu _=>none
  | .un=>none
  | .c (.agg _)=>none
  | .c (.tuple _)=>none
  | u=>some [u]
theorem VR.ncell {u:V} {v:Value} (h:VR ρ u v) (h1:aAY u=true):v.cells=#[v]:=by
  have:=aBn h h1
  cases v <;> first | rfl | (simp [aQ] at this)
theorem jV {u:V} {v:Value} {l:List V} (h:VR ρ u v) (hc:qa u=some l):VRL ρ l v.cells.toList:=by
  unfold qa at hc
  split at hc
  · simp only [Option.some.injEq] at hc; subst hc
    cases h with
    | ag h=>exact h
  · cases hc
  · cases hc
  · cases hc
  · cases hc
  · rename_i h1 h2 h3 h4 h5
    simp only [Option.some.injEq] at hc
    subst hc
    have ho:aAY u=true:=by
      cases u with
      | c v=>cases v <;> first | rfl | (exact absurd rfl (h4 _)) | (exact absurd rfl (h5 _))
      | ag l=>exact absurd rfl (h1 _)
      | tu l=>exact absurd rfl (h2 _)
      | un=>exact absurd rfl h3
      | _=>rfl
    rw [h.ncell ho]
    exact .cons h .nil
def xext (k:Nat):V→R V
  | .tu l=>R.lift l[k]?
  | _=>R.fail
theorem aFD {k:Nat} {u':V} {u:Value} (hx:ev L x=some u) (hu:VR ρ u' u):(xext k u').Ok (Gives P ρ L (.extract x k) ty w):=by
  unfold xext
  split
  · cases hu with
    | tu h =>
      refine R.Ok.lift fun y hy=>?_
      obtain ⟨v,h1,h2⟩:=h.get hy
      exact ⟨v,h2,fun n ds=>aA.extract hx (by simpa using h1)⟩
  · exact R.Ok.fail
theorem ko {v:Value} (h:xW v=true):∃ g o n c,v=.slice (some ⟨g,o,none⟩) n c∧∀ k,ix v k=.pointer (some ⟨g,o+k,none⟩):=by
  unfold xW at h
  split at h
  · exact ⟨_,_,_,_,rfl,fun k=>by simp [ix,dI]⟩
  · cases h
theorem VR.qform {ee sz o:Nat} {i:Int} {u:Value} (h:VR ρ (.q ee sz i o) u):∃ g o',u=.pointer (some ⟨g,o',none⟩):=by
  cases h with
  | q he hs =>
    obtain ⟨g,o',n,c,rfl,h2⟩:=ko hs
    exact ⟨_,_,h2 _⟩
def xnil:V→R V
  | .p e o=>R.pure (.p e o)
  | .q e sz i o=>R.pure (.q e sz i o)
  | .fn f l=>R.pure (.fn f l)
  | _=>R.fail
theorem aFJ {u':V} {u:Value} (hx:ev L x=some u) (hu:VR ρ u' u):(xnil u').Ok (Gives P ρ L (.nilCheck x) ty w):=by
  unfold xnil
  split
  · refine R.Ok.pure ⟨u,hu,fun n ds=>?_⟩
    cases hu; exact aA.nilCheck hx
  · refine R.Ok.pure ⟨u,hu,fun n ds=>?_⟩
    obtain ⟨g,o',rfl⟩:=hu.qform
    exact aA.nilCheck hx
  · refine R.Ok.pure ⟨u,hu,fun n ds=>?_⟩
    cases hu
    intro a d pos af g hf
    simp only [execOp,hf.eval hx]; rfl
  · exact R.Ok.fail
def xfield (P:Program) (t:TypeId) (f:Nat):V→R V
  | .ag l=>match aDU P t f with
    | some (ft,o)=>R.lift (gI P ft l o)
    | none=>R.fail
  | _=>R.fail
theorem aDC {f:Nat} {u':V} {u:Value} (hx:ev L x=some u) (hu:VR ρ u' u):(xfield P t f u').Ok (Gives P ρ L (.field t x f) ty w):=by
  unfold xfield
  split
  · split
    · rename_i ft o hF
      refine R.Ok.lift fun y hy=>?_
      cases hu with
      | ag h =>
        unfold gI at hy
        split at hy
        · rename_i ha
          split at hy
          · rename_i m hs
            split at hy
            · simp only [Option.some.injEq] at hy
              subst hy
              refine ⟨_,.ag ((h.drop o).take m),fun n ds=>aA.aGB hF ha hs hx ?_⟩
              apply Array.ext'
              simp only [Array.toList_extract,List.extract_eq_take_drop]
              congr 1; omega
            · cases hy
          · cases hy
        · rename_i ha
          obtain ⟨v,h1,h2⟩:=h.get hy
          exact ⟨v,h2,fun n ds=>aA.aF3 hF ha hx (by simpa using h1)⟩
        · cases hy
    · exact R.Ok.fail
  · exact R.Ok.fail
def qA (P:Program) (t:TypeId) (f:Nat):V→R V
  | .p e o=>match kY P t f with
    | some off=>R.pure (.p e (o+off))
    | none=>R.fail
  | .q e sz i o=>match kY P t f with
    | some off=>R.pure (.q e sz i (o+off))
    | none=>R.fail
  | _=>R.fail
theorem zR {f:Nat} {u':V} {u:Value} (hx:ev L x=some u) (hu:VR ρ u' u):(qA P t f u').Ok (Gives P ρ L (.fieldAddr t x f) ty w):=by
  unfold qA
  split
  · split
    · rename_i off hF
      cases hu with
      | p he=>exact R.Ok.pure ⟨_,.p he,fun n ds=>aA.field hF hx rfl⟩
    · exact R.Ok.fail
  · split
    · rename_i off hF
      cases hu with
      | q he hs =>
        refine R.Ok.pure ⟨_,.q he hs,fun n ds=>?_⟩
        obtain ⟨g,o',n',c,rfl,h2⟩:=ko hs
        rw [h2] at hx ⊢
        exact aA.field hF hx (by omega)
    · exact R.Ok.fail
  · exact R.Ok.fail
def inb (n:Nat) (p:Int):Prop:=0≤p∧p<(n:Int)
instance (n:Nat) (p:Int):Decidable (inb n p):=by unfold inb; infer_instance
theorem vW {T:Type} {l:List T} {p:Int} (h:inb l.length p):∃ x,SL.idx l p=some x:=by
  unfold SL.idx; rw [if_pos h.1]
  have:p.toNat<l.length:=by have:=h.1; have:=h.2; omega
  exact ⟨_,List.getElem?_eq_getElem this⟩
theorem Sees.arr {ee:Nat} {ty':TypeId} {C:Ck} {xs:List C.ty} (h:Sees ρ B s L w) (hr:rdA s B ee=some (.arr ty' C xs)):∃ v ys,ρ ee=some v∧RL ρ C.cd xs ys∧dw (hp w) C.cd.sz (ja C.cd.sz) v ys:=h.en ee _ hr
theorem aAI {h:Hp} {sz:Nat} {T:Type} {enc:T→List Value} {v:Value} {l:List T} (hr:dw h sz enc v l) (hl:0<l.length):xW v=true:=by
  obtain ⟨⟨_,_,A,c,rfl,h3⟩,_⟩:=hr
  obtain ⟨a,_,_,_,rfl,hs,_⟩:=h3 hl
  obtain ⟨g,o,sp⟩:=a
  simp only at hs; subst hs; rfl
def pO (P:Program) (B:List (Nat × Ent)) (s:S) (t:TypeId) (u i:V):R V:=match u,i with
  | .sl e,.c (.int _ p)=>match rdA s B e with
    | some (.arr _ C xs)=>match cZ P t with
      | some el=>match ay P el with
        | some z=>match Nat.beq z C.cd.sz with
          | true=>(iD (inb xs.length p)).bind fun _=>R.pure (.q e z p 0)
          | false=>R.fail
        | none=>R.fail
      | none=>R.fail
    | _=>R.fail
  | .sw e sz a b,.c (.int _ p)=>match rdA s B e with
    | some (.arr _ C xs)=>match cZ P t with
      | some el=>match ay P el with
        | some z=>match Nat.beq z C.cd.sz&&Nat.beq sz z with
          | true=>(iD (sbd a b (xs.length:Int)∧inb (b-a).toNat p)).bind fun _=>R.pure (.q e z (a+p) 0)
          | false=>R.fail
        | none=>R.fail
      | none=>R.fail
    | _=>R.fail
  | .p e o,.c (.int _ p)=>match mq P t with
    | some (n,el)=>match ay P el with
      | some z=>(iD (inb n p)).bind fun _=>R.pure (.p e (o+p.toNat*z))
      | none=>R.fail
    | none=>R.fail
  | .q e sz i o,.c (.int _ p)=>match mq P t with
    | some (n,el)=>match ay P el with
      | some z=>(iD (inb n p)).bind fun _=>R.pure (.q e sz i (o+p.toNat*z))
      | none=>R.fail
    | none=>R.fail
  | .c (.pointer (some ⟨g,o,none⟩)),.c (.int _ p)=>match mq P t with
    | some (n,el)=>match ay P el with
      | some z=>(iD (inb n p)).bind fun _=>R.pure (.c (.pointer (some ⟨g,o+p.toNat*z,none⟩)))
      | none=>R.fail
    | none=>R.fail
  | _,_=>R.fail
theorem aAh {u' i':V} {u i:Value} (h:Sees ρ B s L w) (hx:ev L x=some u) (hy:ev L y=some i) (hu:VR ρ u' u) (hi:VR ρ i' i):(pO P B s t u' i').Ok (Gives P ρ L (.indexAddr t x y) ty w):=by
  unfold pO
  split
  · rename_i ee k p
    split
    · rename_i ty' C xs hr
      split
      · rename_i el hel
        split
        · rename_i z hz
          split
          · rename_i hb
            have:=Nat.eq_of_beq_eq_true hb
            subst this
            refine (dM _).andThen fun _ hp=>?_
            cases hi
            cases hu with
            | sl he hs =>
              obtain ⟨v,ys,h1,h2,h3⟩:=h.arr hr
              rw [he] at h1; injection h1 with h1; subst h1
              rw [h2.len] at hp
              obtain ⟨y0,hy0⟩:=vW hp
              have hN:0<ys.length:=by have:=hp.1; have:=hp.2; omega
              have:=fun n ds=>aA.ixE (P:=P) (n:=n) (ds:=ds) (ty:=ty) hel hz hx hy h3 hy0
              exact R.Ok.pure ⟨_,.q he (aAI h3 hN),this⟩
          · exact R.Ok.fail
        · exact R.Ok.fail
      · exact R.Ok.fail
    · exact R.Ok.fail
  · rename_i ee sz a b k p
    split
    · rename_i ty' C xs hr
      split
      · rename_i el hel
        split
        · rename_i z hz
          split
          · rename_i hb
            simp only [Bool.and_eq_true] at hb
            have e1:=Nat.eq_of_beq_eq_true hb.1
            have e2:=Nat.eq_of_beq_eq_true hb.2
            subst e1; subst e2
            refine (dM _).andThen fun _ hp=>?_
            obtain ⟨hsb,hp⟩:=hp
            cases hi
            cases hu with
            | sw he hs =>
              obtain ⟨v,ys,h1,h2,h3⟩:=h.arr hr
              rw [he] at h1; injection h1 with h1; subst h1
              rw [h2.len] at hsb
              have hl:=jQ hsb
              have hp':inb (lsub ys a b).length p:=by
                rw [hl]; obtain ⟨b1,b2,b3⟩:=hsb
                refine ⟨hp.1,?_⟩
                have:=hp.2; omega
              obtain ⟨y0,hy0⟩:=vW hp'
              have hN:0<ys.length:=by have:=hp'.1; have:=hp'.2; obtain ⟨b1,b2,b3⟩:=hsb; omega
              have:=fun n ds=>aA.ixW (P:=P) (n:=n) (ds:=ds) (ty:=ty) hel hz hx hy h3 fC hsb hy0
              exact R.Ok.pure ⟨_,.q he (aAI h3 hN),this⟩
          · exact R.Ok.fail
        · exact R.Ok.fail
      · exact R.Ok.fail
    · exact R.Ok.fail
  · split
    · rename_i n el hA
      split
      · rename_i z hz
        refine (dM _).andThen fun _ hp=>?_
        cases hi
        cases hu with
        | p he=>exact R.Ok.pure ⟨_,.p he,fun n ds=>aA.qX hA hz hx hy (Int.toNat_of_nonneg hp.1).symm (by have:=hp.1; have:=hp.2; omega) rfl⟩
      · exact R.Ok.fail
    · exact R.Ok.fail
  · split
    · rename_i n el hA
      split
      · rename_i z hz
        refine (dM _).andThen fun _ hp=>?_
        cases hi
        cases hu with
        | q he hs =>
          refine R.Ok.pure ⟨_,.q he hs,fun n ds=>?_⟩
          obtain ⟨g,o',n',c,rfl,h2⟩:=ko hs
          rw [h2] at hx ⊢
          exact aA.qX hA hz hx hy (Int.toNat_of_nonneg hp.1).symm (by have:=hp.1; have:=hp.2; omega) (by omega)
      · exact R.Ok.fail
    · exact R.Ok.fail
  · split
    · rename_i n el hA
      split
      · rename_i z hz
        refine (dM _).andThen fun _ hp=>?_
        cases hi
        cases hu
        exact R.Ok.pure ⟨_,.c,fun n ds=>aA.qX hA hz hx hy (Int.toNat_of_nonneg hp.1).symm (by have:=hp.1; have:=hp.2; omega) rfl⟩
      · exact R.Ok.fail
    · exact R.Ok.fail
  · exact R.Ok.fail
def aIZ (P:Program) (e:TypeId) (n z:Nat) (l:List V) (p:Int):Option (List V):=match decide (inb n p) with
  | true=>(gI P e l (p.toNat*z)).map fun u=>[u]
  | false=>none
def xindex (P:Program) (t:TypeId) (u i:V):R V:=match u,i with
  | .ag l,.c (.int _ p)=>match mq P t with
    | some (n,el)=>match ay P el with
      | some z=>(aCC (aIZ P el n z l p)).bind fun r=>match r with
        | [v]=>R.pure v
        | _=>R.fail
      | none=>R.fail
    | none=>R.fail
  | .c (.string a),.c (.int _ p)=>match xG P t with
    | true=>(aCC ((aAX a p).map fun z=>[.c (.int .u8 z)])).bind fun r=>match r with
      | [v]=>R.pure v
      | _=>R.fail
    | false=>R.fail
  | _,_=>R.fail
theorem aCo {u' i':V} {u i:Value} (hx:ev L x=some u) (hy:ev L y=some i) (hu:VR ρ u' u) (hi:VR ρ i' i):(xindex P t u' i').Ok (Gives P ρ L (.index t x y) ty w):=by
  unfold xindex
  split
  · split
    · rename_i n el hA
      split
      · rename_i z hz
        refine (pG _).andThen fun r hr=>?_
        split
        · rename_i v
          unfold aIZ at hr
          split at hr
          · rename_i hp
            have hp:=of_decide_eq_true hp
            obtain ⟨v',h1,h2⟩:=Option.map_eq_some_iff.1 hr
            injection h2 with h2 _
            subst h2
            cases hi
            cases hu with
            | ag h =>
              have hj:=(Int.toNat_of_nonneg hp.1).symm
              have hlt:=(show ∀ q:Int,inb n q→q.toNat<n from fun q hq=>by have:=hq.1; have:=hq.2; omega) _ hp
              unfold gI at h1
              split at h1
              · rename_i ha
                split at h1
                · rename_i m hs
                  have:z=m:=by rw [hz] at hs; injection hs
                  subst this
                  split at h1
                  · simp only [Option.some.injEq] at h1
                    subst h1
                    refine R.Ok.pure ⟨_,.ag ((h.drop _).take z),fun n ds=>aA.aHx hA ha hz hx hy hj hlt ?_⟩
                    apply Array.ext'
                    simp only [Array.toList_extract,List.extract_eq_take_drop]
                    congr 1; omega
                  · cases h1
                · cases h1
              · rename_i ha
                obtain ⟨v2,h3,h4⟩:=h.get h1
                exact R.Ok.pure ⟨v2,h4,fun n ds=>aA.aHE hA ha hz hx hy hj hlt (by simpa using h3)⟩
              · cases h1
          · cases hr
        · exact R.Ok.fail
      · exact R.Ok.fail
    · exact R.Ok.fail
  · split
    · rename_i ht
      refine (pG _).andThen fun r hr=>?_
      split
      · obtain ⟨z,h1,h2⟩:=Option.map_eq_some_iff.1 hr
        injection h2 with h2 _
        subst h2
        cases hi; cases hu
        refine bQ fun n ds=>aA.aEy ?_ hx hy h1
        unfold xG at ht
        split at ht
        · rename_i h5; exact h5
        · cases ht
      · exact R.Ok.fail
    · exact R.Ok.fail
  · exact R.Ok.fail
def aEM:List (Nat × Ent)→Nat→Option Nat
  | [],_=>none
  | (e,.gl g _ _)::t,k=>match Nat.beq g k with
    | true=>some e
    | false=>aEM t k
  | _::t,k=>aEM t k
def rdG (s:S) (B:List (Nat × Ent)) (g:Nat):Option Ent:=match aEM B g with
  | some e=>rdA s B e
  | none=>none
def xload (P:Program) (B:List (Nat × Ent)) (s:S) (t:TypeId) (u:V):R V:=match u with
  | .p e o=>match rdA s B e with
    | some (.cel l _)=>R.lift (gI P t l o)
    | _=>R.fail
  | .q e z i o=>match rdA s B e with
    | some (.arr _ C xs)=>match Nat.beq z C.cd.sz with
      | true=>(aCC ((SL.idx xs i).map C.cd.enc)).bind fun r=>R.lift (gI P t r o)
      | false=>R.fail
    | _=>R.fail
  | .c (.pointer (some ⟨g,o,none⟩))=>match rdG s B g with
    | some (.gl g' l _)=>match Nat.beq g' g with
      | true=>R.lift (gI P t l o)
      | false=>R.fail
    | _=>R.fail
  | _=>R.fail
theorem aDt {u':V} {u:Value} (h:Sees ρ B s L w) (hx:ev L x=some u) (hu:VR ρ u' u) (h0:ay P t≠some 0):(xload P B s t u').Ok (Gives P ρ L (.load t x) ty w):=by
  unfold xload
  split
  · rename_i ee o
    split
    · rename_i l ty' hr
      refine R.Ok.lift fun y hy=>?_
      cases hu with
      | p he =>
        obtain ⟨b,cs,h1,h2,h3⟩:=h.en ee _ hr
        rw [he] at h1; injection h1 with h1; injection h1 with h1; injection h1 with h1; injection h1 with h1 _ _; subst h1
        have h3:w.heap[_]? = _:=h3
        unfold gI at hy
        split at hy
        · rename_i ha
          split at hy
          · rename_i m hs
            split at hy
            · rename_i hle
              simp only [Option.some.injEq] at hy
              subst hy
              refine ⟨_,.ag ((h2.drop o).take m),fun n ds=>aA.cO ha hs hx h3 ?_ ?_⟩
              · have:=Nat.le_of_ble_eq_true hle
                rw [h2.len] at this; simpa using this
              · apply Array.ext'
                simp only [Array.toList_extract,List.extract_eq_take_drop]
                congr 1; omega
            · cases hy
          · cases hy
        · rename_i ha
          obtain ⟨v,h4,h5⟩:=h2.get hy
          exact ⟨v,h5,fun n ds=>aA.aX ha hx h3 (by simpa using h4)⟩
        · cases hy
    · exact R.Ok.fail
  · rename_i ee z i o
    split
    · rename_i ty' C xs hr
      split
      · rename_i hb
        have:=Nat.eq_of_beq_eq_true hb
        subst this
        refine (pG _).andThen fun r hr'=>?_
        obtain ⟨x0,h1,rfl⟩:=Option.map_eq_some_iff.1 hr'
        refine R.Ok.lift fun y hy=>?_
        cases hu with
        | q he hs =>
          obtain ⟨v,ys,h3,h4,h5⟩:=h.arr hr
          rw [he] at h3; injection h3 with h3; subst h3
          obtain ⟨y0,h6,h7⟩:=h4.idx h1
          unfold gI at hy
          split at hy
          · rename_i ha
            split at hy
            · rename_i m hs'
              split at hy
              · rename_i hle
                have hle:=Nat.le_of_ble_eq_true hle
                rw [C.cd.hl] at hle
                simp only [Option.some.injEq] at hy
                subst hy
                have hm:0<m:=by
                  rcases Nat.eq_zero_or_pos m with e | e
                  · subst e; exact absurd hs' h0
                  · exact e
                refine ⟨.agg ((y0.1.drop o).take m).toArray,.ag ((h7.drop o).take m),fun n ds=>aA.aJI ha hs' (by simpa using hm) fC hx h5 h6 (by simpa using hle) ?_ rfl⟩
                have:=fC y0
                simp only [ja] at this
                simp [ja,this]; omega
              · cases hy
            · cases hy
          · rename_i ha
            obtain ⟨v2,h8,h9⟩:=h7.get hy
            have hlt:o<C.cd.sz:=by
              have:=(List.getElem?_eq_some_iff.1 hy).1
              rwa [C.cd.hl] at this
            exact ⟨v2,h9,fun n ds=>aA.aI6 ha fC hx h5 h6 (by simpa using hlt) h8⟩
          · cases hy
      · exact R.Ok.fail
    · exact R.Ok.fail
  · rename_i g o
    split
    · rename_i g' l ty' hr
      split
      · rename_i hb
        have:=Nat.eq_of_beq_eq_true hb
        subst this
        refine R.Ok.lift fun y hy=>?_
        cases hu
        unfold rdG at hr
        split at hr
        · obtain ⟨cs,h2,h3⟩:=h.en _ _ hr
          have h3:w.heap[_]? = _:=h3
          unfold gI at hy
          split at hy
          · rename_i ha
            split at hy
            · rename_i m hs
              split at hy
              · rename_i hle
                simp only [Option.some.injEq] at hy
                subst hy
                refine ⟨_,.ag ((h2.drop o).take m),fun n ds=>aA.cO ha hs hx h3 ?_ ?_⟩
                · have:=Nat.le_of_ble_eq_true hle
                  rw [h2.len] at this; simpa using this
                · apply Array.ext'
                  simp only [Array.toList_extract,List.extract_eq_take_drop]
                  congr 1; omega
              · cases hy
            · cases hy
          · rename_i ha
            obtain ⟨v,h4,h5⟩:=h2.get hy
            exact ⟨v,h5,fun n ds=>aA.aX ha hx h3 (by simpa using h4)⟩
          · cases hy
        · cases hr
      · exact R.Ok.fail
    · exact R.Ok.fail
  · exact R.Ok.fail
end
end Go.RX

namespace Go.RX
open Go Go.SL
universe u
section
variable {P:Program} {ρ:Env} {B:List (Nat × Ent)} {s:S} {L:List (Nat × Value)} {w:World} {op:Op} {ty t t' e:TypeId} {x y:Operand} {φ:V→Prop}
def wrV:List V→Nat→List V→List V
  | l,_,[]=>l
  | l,o,u::t=>wrV (l.set o u) (o+1) t
theorem vw:∀ {m:List V} {ws:List Value} {l:List V} {cs:Array Value} (o:Nat),VRL ρ l cs.toList→VRL ρ m ws→VRL ρ (wrV l o m) (wr cs o ws).toList
  | _,_,_,_,_,h,.nil=>h
  | _,_,_,cs,o,h,.cons hv t=>by
    simp only [wrV,wr]
    refine vw (o+1) ?_ t
    rw [Array.toList_setIfInBounds]
    exact h.set o hv
theorem aEp:∀ (l:List Value) (k off:Nat) (cs:Array Value),(l.zipIdx k).foldl (fun cs (p:Value × Nat)=>cs.setIfInBounds (off+p.2) p.1) cs=wr cs (off+k) l
  | [],_,_,_=>rfl
  | v::t,k,off,cs=>by
    simp only [List.zipIdx_cons,List.foldl_cons,wr]
    rw [aEp t (k+1) off,Nat.add_assoc]
def rT (pl:Nat→Option (Nat × Nat)):List V→List (Nat × V)→Option (List V)
  | cells,[]=>some cells
  | cells,(i,u)::rest=>match pl i with
    | none=>none
    | some (off,size)=>match qa u with
      | none=>none
      | some m=>match Nat.beq m.length size&&Nat.ble (off+size) cells.length with
        | true=>rT pl (wrV cells off m) rest
        | false=>none
inductive PR (ρ:Env):List (Nat × V)→List (Nat × Value)→Prop
  | nil:PR ρ [] []
  | cons {i u v l m} (h:VR ρ u v) (t:PR ρ l m):PR ρ ((i,u)::l) ((i,v)::m)
theorem nE {pl:Nat→Option (Nat × Nat)}:∀ {ps:List (Nat × V)} {vs:List (Nat × Value)} {l:List V} {cs:Array Value} {l':List V},PR ρ ps vs→VRL ρ l cs.toList→rT pl l ps=some l'→∃ cs',Instr.fill pl cs vs=some cs'∧VRL ρ l' cs'.toList
  | _,_,l,cs,l',.nil,hl,h=>by
    simp only [rT,Option.some.injEq] at h
    subst h
    exact ⟨cs,rfl,hl⟩
  | _,_,l,cs,l',.cons (i:=i) (u:=u) (v:=v) hv t,hl,h=>by
    simp only [rT] at h
    split at h
    · cases h
    · rename_i off size hp
      split at h
      · cases h
      · rename_i m hm
        split at h
        · rename_i hb
          simp only [Bool.and_eq_true] at hb
          have h1:=Nat.eq_of_beq_eq_true hb.1
          have h2:=Nat.le_of_ble_eq_true hb.2
          subst h1
          have hc:=jV hv hm
          have hsz:v.cells.size=m.length:=by have:=hc.len; simpa using this.symm
          have hle:off+v.cells.size≤cs.size:=by
            have:=hl.len; rw [hsz]; simp only [Array.length_toList] at this; omega
          simp only [Instr.fill,hp]
          rw [if_neg (by simp [hsz]; omega)]
          have e1:v.cells.zipIdx.foldl (fun cs (c,j)=>cs.setIfInBounds (off+j) c) cs=wr cs off v.cells.toList:=by
            have:=aEp v.cells.toList 0 off cs
            rw [Nat.add_zero] at this
            rw [← this,← Array.foldl_toList,Array.toList_zipIdx]
          rw [e1]
          exact nE t (vw off hl hc) h
        · cases h
def aC8 (fr:Fm):List (Nat × Operand)→Option (List (Nat × V))
  | []=>some []
  | (i,x)::t=>match xev fr x with
    | some v=>match aC8 fr t with
      | some vs=>some ((i,v)::vs)
      | none=>none
    | none=>none
def oP (fr:Fm):List Operand→Option (List V)
  | []=>some []
  | x::t=>match xev fr x with
    | some v=>match oP fr t with
      | some vs=>some (v::vs)
      | none=>none
    | none=>none
theorem vG (h:Sees ρ B s L w):∀ {l:List (Nat × Operand)} {ps},aC8 s.fr l=some ps→∃ vs,evP L l=some vs∧PR ρ ps vs
  | [],ps,hp=>by simp only [aC8,Option.some.injEq] at hp; subst hp; exact ⟨[],rfl,.nil⟩
  | (i,x)::t,ps,hp=>by
    simp only [aC8] at hp
    split at hp
    · rename_i u hu
      split at hp
      · rename_i us hus
        simp only [Option.some.injEq] at hp
        subst hp
        obtain ⟨v,h1,h2⟩:=h.fr.ev hu
        obtain ⟨vs,h3,h4⟩:=vG h hus
        exact ⟨(i,v)::vs,by simp only [evP,h1,h3],.cons h2 h4⟩
      · cases hp
    · cases hp
theorem qO {fr:Fm} (h:FR ρ fr L):∀ {l:List Operand} {ps},oP fr l=some ps→∃ vs,evA L l=some vs∧VRL ρ ps vs
  | [],ps,hp=>by simp only [oP,Option.some.injEq] at hp; subst hp; exact ⟨[],rfl,.nil⟩
  | x::t,ps,hp=>by
    simp only [oP] at hp
    split at hp
    · rename_i u hu
      split at hp
      · rename_i us hus
        simp only [Option.some.injEq] at hp
        subst hp
        obtain ⟨v,h1,h2⟩:=h.ev hu
        obtain ⟨vs,h3,h4⟩:=qO h hus
        exact ⟨v::vs,by simp only [evA,h1,h3],.cons h2 h4⟩
      · cases hp
    · cases hp
theorem lG (h:Sees ρ B s L w) {l:List Operand} {ps} (hp:oP s.fr l=some ps):∃ vs,evA L l=some vs∧VRL ρ ps vs:=qO h.fr hp
def zeroV (P:Program) (t:TypeId):Option (List V):=(dL P t).map fun z=>z.cells.toList.map .c
def xbuild (P:Program) (s:S) (t:TypeId) (parts:List (Nat × Operand)):R V :=
  (R.lift (aC8 s.fr parts)).bind fun ps=>(R.lift (zeroV P t)).bind fun z=>match mZ P t with
    | some pl=>(R.lift (rT (fun i=>pl[i]?) z ps)).bind fun l=>R.pure (.ag l)
    | none=>match mq P t with
      | some (_,e)=>match ay P e with
        | some sz=>(R.lift (rT (fun i=>some (i*sz,sz)) z ps)).bind fun l=>R.pure (.ag l)
        | none=>R.fail
      | none=>R.fail
theorem aCP {parts:Array (Nat × Operand)} (h:Sees ρ B s L w):(xbuild P s t parts.toList).Ok (Gives P ρ L (.build t parts) ty w):=by
  unfold xbuild
  refine R.Ok.bind (R.Ok.lift fun ps hps=>R.Ok.bind (R.Ok.lift fun z hz=>?_))
  obtain ⟨vs,h1,h2⟩:=vG h hps
  obtain ⟨zv,h3,rfl⟩:=Option.map_eq_some_iff.1 hz
  split
  · rename_i pl hpl
    refine R.Ok.bind (R.Ok.lift fun l hl=>?_)
    obtain ⟨cs',h4,h5⟩:=nE h2 (VRL.ofc (ρ:=ρ) _) hl
    exact R.Ok.pure ⟨.agg cs',VR.ag (cs:=cs'.toList) h5,fun n ds=>aA.aDz hpl h3 h1 h4⟩
  · split
    · rename_i n' e hA
      split
      · rename_i sz hs
        refine R.Ok.bind (R.Ok.lift fun l hl=>?_)
        obtain ⟨cs',h4,h5⟩:=nE h2 (VRL.ofc (ρ:=ρ) _) hl
        exact R.Ok.pure ⟨.agg cs',VR.ag (cs:=cs'.toList) h5,fun n ds=>aA.aH4 hA hs h3 h1 h4⟩
      · exact R.Ok.fail
    · exact R.Ok.fail
def xmkfn (s:S) (fn:Fn) (first captured:List Operand):R V:=match fn,first with
  | .func f,[]=>(R.lift (oP s.fr captured)).bind fun l=>R.pure (.fn f l)
  | .func f,x::t=>match captured with
    | []=>(R.lift (oP s.fr (x::t))).bind fun l=>R.pure (.bf f l)
    | _::_=>R.fail
  | _,_=>R.fail
theorem aEP {fn:Fn} {first captured:Array Operand} (h:Sees ρ B s L w):(xmkfn s fn first.toList captured.toList).Ok (Gives P ρ L (.makeFunc fn first captured) ty w):=by
  unfold xmkfn
  split
  · rename_i f hf0
    refine R.Ok.bind (R.Ok.lift fun l hl=>?_)
    obtain ⟨vs,h1,h2⟩:=lG h hl
    exact R.Ok.pure ⟨_,.fn h2,fun n ds=>aA.makeFunc (vs:=[]) (us:=vs) (by rw [hf0]; rfl) h1 rfl rfl⟩
  · rename_i f x t hf0
    split
    · rename_i hc0
      refine R.Ok.bind (R.Ok.lift fun l hl=>?_)
      obtain ⟨vs,h1,h2⟩:=lG h hl
      exact R.Ok.pure ⟨_,.bf h2,fun n ds=>aA.makeFunc (vs:=vs) (us:=[]) (by rw [hf0]; exact h1) (by rw [hc0]; rfl) rfl rfl⟩
    · exact R.Ok.fail
  · exact R.Ok.fail
def xlen (P:Program) (B:List (Nat × Ent)) (s:S) (at_:Array TypeId) (u:V):R V:=match u with
  | .sl e=>match rdA s B e with
    | some (.arr _ k xs)=>match (at_[0]?).bind (cZ P) with
      | some _=>R.pure (.c (.int .i64 (xs.length:Int)))
      | none=>R.fail
    | _=>R.fail
  | .sw e sz a b=>match rdA s B e with
    | some (.arr _ k xs)=>match (at_[0]?).bind (cZ P),Nat.beq sz k.cd.sz with
      | some _,true=>(iD (sbd a b (xs.length:Int))).bind fun _=>R.pure (.c (.int .i64 (b-a)))
      | _,_=>R.fail
    | _=>R.fail
  | .c (.slice none 0 0)=>match (at_[0]?).bind (cZ P) with
    | some _=>R.pure (.c (.int .i64 0))
    | none=>R.fail
  | .c (.string a)=>match (at_[0]?).map (xG P) with
    | some true=>R.pure (.c (.int .i64 (a.size:Int)))
    | _=>R.fail
  | .ez=>match (at_[0]?).bind (cZ P) with
    | some _=>R.pure (.c (.int .i64 0))
    | none=>R.fail
  | _=>R.fail
theorem aF2 {at_:Array TypeId} {u':V} {u:Value} (h:Sees ρ B s L w) (hx:ev L x=some u) (hu:VR ρ u' u):(xlen P B s at_ u').Ok (Gives P ρ L (.call ⟨.builtin .len,#[x],at_⟩) ty w):=by
  unfold xlen
  split
  · split
    · rename_i ty' k xs hr
      split
      · rename_i el hel
        cases hu with
        | sl he hs =>
          obtain ⟨v,ys,h1,h2,h3⟩:=h.arr hr
          rw [he] at h1; injection h1 with h1; subst h1
          rw [h2.len]
          exact bQ fun n ds=>aA.aIn hel hx h3
      · exact R.Ok.fail
    · exact R.Ok.fail
  · split
    · rename_i ty' k xs hr
      split
      · rename_i el hel hb
        have:=Nat.eq_of_beq_eq_true hb
        subst this
        refine (dM _).andThen fun _ hp=>?_
        cases hu with
        | sw he hs =>
          obtain ⟨v,ys,h1,h2,h3⟩:=h.arr hr
          rw [he] at h1; injection h1 with h1; subst h1
          rw [h2.len] at hp
          refine bQ fun n ds=>?_
          have:=aA.aIn (P:=P) (n:=n) (ds:=ds) (ty:=ty) hel hx (h3.sub fC hp)
          rw [tJ hp] at this
          exact this
      · exact R.Ok.fail
    · exact R.Ok.fail
  · split
    · rename_i el hel
      cases hu
      exact bQ fun n ds=>aA.len hel hx
    · exact R.Ok.fail
  · split
    · rename_i hel
      cases hu
      refine bQ fun n ds a d pos af g hf=>?_
      obtain ⟨tt,ht,he'⟩:=Option.map_eq_some_iff.1 hel
      have hus:P.underlying tt=some .string:=by
        unfold xG at he'
        split at he'
        · rename_i h5; exact h5
        · cases he'
      refine dO (vs:=[_]) hf (by simp [evA,hx]; rfl) ?_
      simp only [builtin]
      refine bn ?_
      simp [Builtin.len_,ht,run_underlying hus]
      rfl
    · exact R.Ok.fail
  · split
    · rename_i el hel
      cases hu
      exact bQ fun n ds=>aA.len hel hx
    · exact R.Ok.fail
  · exact R.Ok.fail
def xmm (mx:Bool):V→V→Option V
  | .c (.int k p),.c (.int k' q)=>match kEq k k' with
    | true=>match mx with
      | true=>some (.c (.int k (if p<q then q else p)))
      | false=>some (.c (.int k (if q<p then q else p)))
    | false=>none
  | _,_=>none
def zJ (mx:Bool):V→List V→Option V
  | u,[]=>some u
  | u,v::t=>match xmm mx u v with
    | some z=>zJ mx z t
    | none=>none
theorem aGb {u v z:V} {a b:Value} (hu:VR ρ u a) (hv:VR ρ v b) (h:xmm true u v=some z):∃ c,VR ρ z c∧(Builtin.max2 a b).run P w=.ok c w:=by
  unfold xmm at h
  split at h
  · split at h
    · simp only [Option.some.injEq] at h
      subst h
      cases hu; cases hv
      exact ⟨_,.c,rfl⟩
    · cases h
  · cases h
theorem aFv {u v z:V} {a b:Value} (hu:VR ρ u a) (hv:VR ρ v b) (h:xmm false u v=some z):∃ c,VR ρ z c∧(Builtin.min2 a b).run P w=.ok c w:=by
  unfold xmm at h
  split at h
  · split at h
    · simp only [Option.some.injEq] at h
      subst h
      cases hu; cases hv
      exact ⟨_,.c,rfl⟩
    · cases h
  · cases h
theorem yu:∀ {l:List V} {cs:List Value} {u z:V} {a:Value},VR ρ u a→VRL ρ l cs→zJ true u l=some z→∃ c,VR ρ z c∧(cs.foldlM Builtin.max2 a).run P w=.ok c w
  | _,_,u,z,a,hu,.nil,h=>by
    simp only [zJ,Option.some.injEq] at h
    subst h
    exact ⟨a,hu,rfl⟩
  | _,_,u,z,a,hu,.cons hv t,h=>by
    simp only [zJ] at h
    split at h
    · rename_i z' hz
      obtain ⟨c,h1,h2⟩:=aGb (P:=P) (w:=w) hu hv hz
      obtain ⟨c',h3,h4⟩:=yu h1 t h
      refine ⟨c',h3,?_⟩
      simp only [List.foldlM_cons,Sem.run_bind,h2,Result.andThen,h4]
    · cases h
theorem xZ:∀ {l:List V} {cs:List Value} {u z:V} {a:Value},VR ρ u a→VRL ρ l cs→zJ false u l=some z→∃ c,VR ρ z c∧(cs.foldlM Builtin.min2 a).run P w=.ok c w
  | _,_,u,z,a,hu,.nil,h=>by
    simp only [zJ,Option.some.injEq] at h
    subst h
    exact ⟨a,hu,rfl⟩
  | _,_,u,z,a,hu,.cons hv t,h=>by
    simp only [zJ] at h
    split at h
    · rename_i z' hz
      obtain ⟨c,h1,h2⟩:=aFv (P:=P) (w:=w) hu hv hz
      obtain ⟨c',h3,h4⟩:=xZ h1 t h
      refine ⟨c',h3,?_⟩
      simp only [List.foldlM_cons,Sem.run_bind,h2,Result.andThen,h4]
    · cases h
def xmaxmin (mx:Bool):List V→R V
  | u::t=>R.lift (zJ mx u t)
  | []=>R.fail
theorem aFh {args:Array Operand} {at_:Array TypeId} {l:List V} {cs:List Value} (hx:evA L args.toList=some cs) (hl:VRL ρ l cs):(xmaxmin true l).Ok (Gives P ρ L (.call ⟨.builtin .max,args,at_⟩) ty w):=by
  cases hl with
  | nil=>exact R.Ok.fail
  | cons hv t =>
    refine R.Ok.lift fun z hz=>?_
    obtain ⟨c,h1,h2⟩:=yu (P:=P) (w:=w) hv t hz
    refine ⟨c,h1,fun n ds a d pos af g hf=>dO hf hx ?_⟩
    simp only [builtin]
    exact bn h2
theorem aF8 {args:Array Operand} {at_:Array TypeId} {l:List V} {cs:List Value} (hx:evA L args.toList=some cs) (hl:VRL ρ l cs):(xmaxmin false l).Ok (Gives P ρ L (.call ⟨.builtin .min,args,at_⟩) ty w):=by
  cases hl with
  | nil=>exact R.Ok.fail
  | cons hv t =>
    refine R.Ok.lift fun z hz=>?_
    obtain ⟨c,h1,h2⟩:=xZ (P:=P) (w:=w) hv t hz
    refine ⟨c,h1,fun n ds a d pos af g hf=>dO hf hx ?_⟩
    simp only [builtin]
    exact bn h2
def yh (s:S) (d:Int):Option Operand→Option Int
  | none=>some d
  | some x=>match xev s.fr x with
    | some (.c (.int _ p))=>some p
    | _=>none
theorem lF (h:Sees ρ B s L w) {d:Int} {o:Option Operand} {p:Int} (hp:yh s d o=some p):(o=none∧p=d)∨∃ x k,o=some x∧ev L x=some (.int k p):=by
  unfold yh at hp
  split at hp
  · simp only [Option.some.injEq] at hp; exact .inl ⟨rfl,hp.symm⟩
  · split at hp
    · rename_i x k q hq
      simp only [Option.some.injEq] at hp
      subst hp
      obtain ⟨v,h1,h2⟩:=h.fr.ev hq
      cases h2
      exact .inr ⟨_,_,rfl,h1⟩
    · cases hp
theorem aCw {sz:Nat} {A:Option Addr} {n c:Nat} {a b p q:Int} (hn:n≤c) (h1:sbd a b (n:Int)) (h2:sbd p q (b-a)) (h3:p<b-a∨p=0):vsub sz (vsub sz (.slice A n c) a b) p q=vsub sz (.slice A n c) (a+p) (a+q):=by
  obtain ⟨a1,a2,a3⟩:=h1
  obtain ⟨b1,b2,b3⟩:=h2
  obtain ⟨a',rfl⟩:=Int.eq_ofNat_of_zero_le a1
  obtain ⟨p',rfl⟩:=Int.eq_ofNat_of_zero_le b1
  have e1:((a':Int)+(p':Int)).toNat=a'+p':=by omega
  have e2:((a':Int)+q).toNat-(a'+p')=q.toNat-p':=by omega
  simp only [vsub,e1,Int.toNat_natCast,e2]
  congr 1
  · rcases h3 with h3 | h3
    · have n1:¬ c=a'+p':=by omega
      have n2:¬ c-a'=p':=by omega
      have n3:¬ c=a':=by omega
      rw [if_neg n1,if_neg n2,if_neg n3]
      cases A with
      | none=>rfl
      | some x =>
        obtain ⟨xb,xo,xs⟩:=x
        simp only [Option.map_some,Addr.add,Nat.add_mul]
        by_cases k1:a'*sz=0 <;> by_cases k2:p'*sz=0 <;> simp [k1,k2,Nat.add_assoc]
    · have h3:p'=0:=by omega
      subst h3
      simp only [Nat.add_zero,Nat.zero_mul]
      by_cases hc:c=a'
      · simp [hc]
      · have n2:¬ c-a'=0:=by omega
        rw [if_neg hc,if_neg n2]
        cases A with
        | none=>rfl
        | some x=>simp [Addr.add]
  · omega
def aIC (e z:Nat) (a b p q:Int):V:=match decide (p<b-a∨p=0) with
  | true=>.sw e z (a+p) (a+q)
  | false=>.ez
def xslice (P:Program) (B:List (Nat × Ent)) (s:S) (t:TypeId) (u:V) (lo hi:Option Operand):R V:=match u with
  | .sl e=>match rdA s B e with
    | some (.arr _ k xs)=>match cZ P t with
      | some el=>match ay P el with
        | some z=>match Nat.beq z k.cd.sz with
          | true=>(R.lift (yh s 0 lo)).bind fun a=>(R.lift (yh s (xs.length:Int) hi)).bind fun b=>(iD (sbd a b (xs.length:Int))).bind fun _=>R.pure (.sw e z a b)
          | false=>R.fail
        | none=>R.fail
      | none=>R.fail
    | _=>R.fail
  | .sw e z0 a0 b0=>match rdA s B e with
    | some (.arr _ k xs)=>match cZ P t with
      | some el=>match ay P el with
        | some z=>match Nat.beq z k.cd.sz&&Nat.beq z0 z with
          | true=>(iD (sbd a0 b0 (xs.length:Int))).bind fun _=>(R.lift (yh s 0 lo)).bind fun a=>(R.lift (yh s (b0-a0) hi)).bind fun b=>(iD (sbd a b (b0-a0))).bind fun _=>R.pure (aIC e z a0 b0 a b)
          | false=>R.fail
        | none=>R.fail
      | none=>R.fail
    | _=>R.fail
  | .c (.string a)=>match xG P t with
    | true=>(R.lift (yh s 0 lo)).bind fun p=>(R.lift (yh s (a.size:Int) hi)).bind fun q=>(iD (sbd p q (a.size:Int))).bind fun _=>R.pure (.c (.string (a.extract p.toNat q.toNat)))
    | false=>R.fail
  | _=>R.fail
theorem aCr {u':V} {u:Value} {lo hi:Option Operand} (h:Sees ρ B s L w) (hx:ev L x=some u) (hu:VR ρ u' u):(xslice P B s t u' lo hi).Ok (Gives P ρ L (.slice t x lo hi none) ty w):=by
  unfold xslice
  split
  · split
    · rename_i ty' k xs hr
      split
      · rename_i el hel
        split
        · rename_i z hz
          split
          · rename_i hb
            have:=Nat.eq_of_beq_eq_true hb
            subst this
            refine R.Ok.bind (R.Ok.lift fun a ha=>R.Ok.bind (R.Ok.lift fun b hb'=>(dM _).andThen fun _ hp=>?_))
            cases hu with
            | sl he hs =>
              obtain ⟨v,ys,h1,h2,h3⟩:=h.arr hr
              rw [he] at h1; injection h1 with h1; subst h1
              rw [h2.len] at hp hb'
              refine R.Ok.pure ⟨_,.sw he hs,fun n ds a' d pos af g hf=>?_⟩
              have hlo:lo.map a'.eval=none∧a=0∨∃ k,lo.map a'.eval=some (.int k a):=by
                rcases lF h ha with ⟨rfl,rfl⟩ | ⟨xx,kk,rfl,h5⟩
                · exact .inl ⟨rfl,rfl⟩
                · exact .inr ⟨kk,by simp [hf.eval h5]⟩
              have hhi:hi.map a'.eval=none∧b=ys.length∨∃ k,hi.map a'.eval=some (.int k b):=by
                rcases lF h hb' with ⟨rfl,rfl⟩ | ⟨xx,kk,rfl,h5⟩
                · exact .inl ⟨rfl,rfl⟩
                · exact .inr ⟨kk,by simp [hf.eval h5]⟩
              simp only [execOp,hf.eval hx,Option.map_none]
              exact bn (vH hel hz h3 _ _ hp hlo hhi)
          · exact R.Ok.fail
        · exact R.Ok.fail
      · exact R.Ok.fail
    · exact R.Ok.fail
  · rename_i e0 z0 a0 b0
    split
    · rename_i ty' k xs hr
      split
      · rename_i el hel
        split
        · rename_i z hz
          split
          · rename_i hb
            simp only [Bool.and_eq_true] at hb
            have hb1:=Nat.eq_of_beq_eq_true hb.1
            have hb2:=Nat.eq_of_beq_eq_true hb.2
            subst hb1
            subst hb2
            refine (dM _).andThen fun _ hp0=>R.Ok.bind (R.Ok.lift fun a ha=>R.Ok.bind (R.Ok.lift fun b hb'=>(dM _).andThen fun _ hp=>?_))
            cases hu with
            | sw he hs =>
              obtain ⟨v,ys,h1,h2,h3⟩:=h.arr hr
              rw [he] at h1; injection h1 with h1; subst h1
              rw [h2.len] at hp0
              have hsub:=h3.sub fC hp0
              have hll:=tJ (l:=ys) hp0
              have hgo:∀ n ds,aA P n ds L (.slice t x lo hi none) ty w (vsub k.cd.sz (vsub k.cd.sz _ a0 b0) a b) w:=fun n ds a' d pos af g hf=>by
                have hlo:lo.map a'.eval=none∧a=0∨∃ k,lo.map a'.eval=some (.int k a):=by
                  rcases lF h ha with ⟨rfl,rfl⟩ | ⟨xx,kk,rfl,h5⟩
                  · exact .inl ⟨rfl,rfl⟩
                  · exact .inr ⟨kk,by simp [hf.eval h5]⟩
                have hhi:hi.map a'.eval=none∧b=((SL.lsub ys a0 b0).length:Int)∨∃ k,hi.map a'.eval=some (.int k b):=by
                  rcases lF h hb' with ⟨rfl,rfl⟩ | ⟨xx,kk,rfl,h5⟩
                  · exact .inl ⟨rfl,hll.symm⟩
                  · exact .inr ⟨kk,by simp [hf.eval h5]⟩
                simp only [execOp,hf.eval hx,Option.map_none]
                exact bn (vH hel hz hsub _ _ (by rw [hll]; exact hp) hlo hhi)
              obtain ⟨⟨_,_,A,c,rfl,_⟩,hfit⟩:=h3
              have hfit:ys.length≤c:=hfit
              refine R.Ok.pure ⟨_,?_,hgo⟩
              unfold aIC
              split
              · rename_i hd
                rw [aCw hfit hp0 hp (of_decide_eq_true hd)]
                exact .sw he hs
              · rename_i hd
                have hd:=of_decide_eq_false hd
                obtain ⟨q1,q2,q3⟩:=hp
                have:b.toNat-a.toNat=0:=by omega
                simp only [vsub,this]
                exact .ez
          · exact R.Ok.fail
        · exact R.Ok.fail
      · exact R.Ok.fail
    · exact R.Ok.fail
  · rename_i a
    split
    · rename_i ht
      refine R.Ok.bind (R.Ok.lift fun p hp=>R.Ok.bind (R.Ok.lift fun q hq=>(dM _).andThen fun _ hb=>?_))
      cases hu
      refine bQ fun n ds a' d pos af g hf=>?_
      have hus:P.underlying t=some .string:=by
        unfold xG at ht
        split at ht
        · rename_i h5; exact h5
        · cases ht
      obtain ⟨b1,b2,b3⟩:=hb
      simp only [execOp,hf.eval hx,Option.map_none]
      refine bn ?_
      have e1:∀ k z,(asIntOf (Value.int k z)).run P w=.ok (k,z) w:=fun k z=>rfl
      have hI:∀ lo' hi':Option Value,(Instr.sliceAt t (.string a) lo' hi' none).run P w=(Instr.slice t (.string a) lo' hi' none).run P w:=fun _ _=>run_sliceAt_string _ _ _ _ _ _ hus
      rcases lF h hp with ⟨rfl,rfl⟩ | ⟨xx,kk,rfl,h5⟩ <;> rcases lF h hq with ⟨rfl,rfl⟩ | ⟨xx',kk',rfl,h6⟩
      · simp [hI,Instr.slice,run_underlying hus,Instr.sliceBounds,Sem.run_bind,Result.andThen]
      · simp only [Option.map_none,Option.map_some,hf.eval h6,hI,Instr.slice,run_underlying hus,Sem.run_bind,Result.andThen,Instr.sliceBounds,Instr.sliceBound,e1,Sem.run_pure,Option.isSome_none,Bool.false_eq_true,if_false]
        rw [if_pos ⟨by omega,by omega⟩]
        simp [Sem.run_pure]
      · simp only [Option.map_none,Option.map_some,hf.eval h5,hI,Instr.slice,run_underlying hus,Sem.run_bind,Result.andThen,Instr.sliceBounds,Instr.sliceBound,e1,Sem.run_pure,Option.isSome_none,Bool.false_eq_true,if_false]
        rw [if_pos ⟨by omega,by omega⟩]
        simp [Sem.run_pure]
      · simp only [Option.map_some,hf.eval h5,hf.eval h6,hI,Instr.slice,run_underlying hus,Sem.run_bind,Result.andThen,Instr.sliceBounds,Instr.sliceBound,e1,Sem.run_pure,Option.isSome_none,Bool.false_eq_true,if_false]
        rw [if_pos ⟨by omega,by omega⟩]
        simp only [Sem.run_bind,Result.andThen,e1,Sem.run_pure]
        rw [if_pos ⟨by omega,by omega⟩]
        simp [Sem.run_pure]
    · exact R.Ok.fail
  · exact R.Ok.fail
end
end Go.RX

namespace Go.RX
open Go Go.SL
universe u
def asC:V→Option Value
  | .c v=>some v
  | .ag _=>none
  | .tu _=>none
  | .p _ _=>none
  | .q _ _ _ _=>none
  | .sl _=>none
  | .sw _ _ _ _=>none
  | .fn _ _=>none
  | .bf _ _=>none
  | .yd _=>none
  | .mp _=>none
  | .ez=>none
  | .un=>none
inductive Sv where
  | i (k:IntKind) (n:Int)
  | b (x:Bool)
  | s (x:ByteArray)
  | o
def asS:Value→Sv
  | .int k n=>.i k n
  | .bool x=>.b x
  | .string x=>.s x
  | .float _ _=>.o
  | .complex _ _ _=>.o
  | .pointer _=>.o
  | .slice _ _ _=>.o
  | .map _=>.o
  | .chan _=>.o
  | .func _ _ _=>.o
  | .nilFunc=>.o
  | .iface _ _=>.o
  | .nilIface=>.o
  | .agg _=>.o
  | .tuple _=>.o
theorem gL {u:V} {v:Value} (h:asC u=some v):u=.c v:=by cases u <;> simp [asC] at h; rw [h]
theorem yT {v:Value} {k:IntKind} {n:Int} (h:asS v=.i k n):v=.int k n:=by
  cases v <;> simp [asS] at h; obtain ⟨rfl,rfl⟩:=h; rfl
theorem aGn {v:Value} {x:ByteArray} (h:asS v=.s x):v=.string x:=by
  cases v <;> simp [asS] at h; subst h; rfl
theorem aDu {v:Value} {x:Bool} (h:asS v=.b x):v=.bool x:=by
  cases v <;> simp [asS] at h; subst h; rfl
def aHl (d:TypeDesc) (a b:Value):Option Bool:=match asS a with
  | .i k p=>match asS b with
    | .i k' q=>match d with
      | .int _=>match kEq k k' with
        | true=>some (decide (p=q))
        | false=>none
      | _=>none
    | _=>none
  | .s p=>match asS b with
    | .s q=>match d with
      | .string=>some (mY p q)
      | _=>none
    | _=>none
  | .b p=>match asS b with
    | .b q=>match d with
      | .bool=>some (p == q)
      | _=>none
    | _=>none
  | .o=>none
theorem aBH {d:TypeDesc} {a b:Value} {r:Bool} (h:aHl d a b=some r):Instr.sameNow d a b=some r∧(r=true→a=b∧Instr.sameBits 10000 a b=true):=by
  unfold aHl at h
  split at h
  · rename_i k p ha
    split at h
    · rename_i k' q hb
      split at h
      · split at h
        · rename_i hk
          have:=mR hk
          subst this
          rw [yT ha,yT hb]
          simp only [Option.some.injEq] at h
          subst h
          refine ⟨by simp [Instr.sameNow]; rfl,fun hr=>?_⟩
          have:=of_decide_eq_true hr
          subst this
          exact ⟨rfl,by simp [Instr.sameBits]⟩
        · cases h
      · cases h
    · cases h
  · rename_i p ha
    split at h
    · rename_i q hb
      split at h
      · rw [aGn ha,aGn hb]
        simp only [Option.some.injEq] at h
        subst h
        refine ⟨by simp only [Instr.sameNow,rC],fun hr=>?_⟩
        have hpp:(p == p)=true:=by rw [rC]; simp [mY]
        have:p=q:=by
          have:=eq_of_beq hr
          obtain ⟨p⟩:=p
          obtain ⟨q⟩:=q
          have e:p=q:=Array.ext' this
          rw [e]
        subst this
        exact ⟨rfl,by simp only [Instr.sameBits]; exact hpp⟩
      · cases h
    · cases h
  · rename_i p ha
    split at h
    · rename_i q hb
      split at h
      · rw [aDu ha,aDu hb]
        simp only [Option.some.injEq] at h
        subst h
        refine ⟨by simp [Instr.sameNow],fun hr=>?_⟩
        have:=eq_of_beq hr
        subst this
        exact ⟨rfl,by simp [Instr.sameBits]⟩
      · cases h
    · cases h
  · cases h
def sM (d:TypeDesc) (a:Value):List (V × V)→Nat→Option (Option (Nat × V))
  | [],_=>some none
  | (k,v)::t,i=>match asC k with
    | none=>none
    | some b=>match aHl d a b with
      | none=>none
      | some true=>some (some (i,v))
      | some false=>sM d a t (i+1)
inductive PosR (ρ:Env) (a:Value) (es:List MapEntry) (i:Nat):Option (Nat × V)→Option (Nat × Value)→Prop
  | none:PosR ρ a es i none none
  | some {m v e} (h:es[m]? = Option.some e) (hk:e.key=a) (hb:Instr.sameBits 10000 a a=true) (hv:VR ρ v e.val):PosR ρ a es i (Option.some (i+m,v)) (Option.some (i+m,e.val))
theorem pR {ρ:Env} {d:TypeDesc} {a:Value}:∀ {l:List (V × V)} {es:List MapEntry} {i:Nat} {r:Option (Nat × V)},KVR ρ l (es.map kvE)→sM d a l i=some r→∃ r',Instr.findNow d a es i=some r'∧PosR ρ a es i r r'
  | [],[],i,r,_,h=>by
    simp only [sM,Option.some.injEq] at h
    subst h
    exact ⟨none,rfl,.none⟩
  | [],_::_,_,_,h,_=>by cases h
  | _::_,[],_,_,h,_=>by cases h
  | (k,v)::t,e::es,i,r,h,hp=>by
    simp only [List.map_cons,kvE] at h
    cases h with
    | cons h1 h2 ht =>
      simp only [sM] at hp
      split at hp
      · cases hp
      · rename_i b hb
        have:=gL hb
        subst this
        cases h1 with
        | c =>
          split at hp
          · cases hp
          · rename_i hk
            obtain ⟨g1,g2⟩:=aBH hk
            obtain ⟨g2,g3⟩:=g2 rfl
            simp only [Option.some.injEq] at hp
            subst hp
            refine ⟨some (i,e.val),by simp [Instr.findNow,g1],?_⟩
            have:=PosR.some (ρ:=ρ) (a:=a) (es:=e::es) (i:=i) (m:=0) (v:=v) (e:=e) rfl g2.symm (by rw [← g2] at g3; exact g3) h2
            exact this
          · rename_i hk
            obtain ⟨g1,_⟩:=aBH hk
            obtain ⟨r',h3,h4⟩:=pR ht hp
            refine ⟨r',by simp only [Instr.findNow,g1]; exact h3,?_⟩
            cases h4 with
            | none=>exact .none
            | some q1 q2 q3 q4 =>
              rename_i m v e'
              have e1:i+1+m=i+(m+1):=by omega
              rw [e1]
              exact .some (m:=m+1) (by simpa using q1) q2 q3 q4
def mpT (P:Program) (t:TypeId):Option (TypeId × TypeDesc × Value):=match P.underlying t with
  | some (.map k e)=>match P.underlying k with
    | some d=>match d with
      | .int _=>(dL P e).map fun z=>(k,d,z)
      | .string=>(dL P e).map fun z=>(k,d,z)
      | .bool=>(dL P e).map fun z=>(k,d,z)
      | _=>none
    | none=>none
  | _=>none
def aBG:TypeDesc→Bool
  | .int _=>true
  | .string=>true
  | .bool=>true
  | _=>false
theorem qf {P:Program} {t kt:TypeId} {d:TypeDesc} {z:Value} (h:mpT P t=some (kt,d,z)):∃ e,P.underlying t=some (.map kt e)∧P.underlying kt=some d∧aBG d=true∧dL P e=some z:=by
  unfold mpT at h
  split at h
  · rename_i k e hu
    split at h
    · rename_i d' hd
      split at h <;> first | (cases h; done) | (
        obtain ⟨z',hz,h1⟩:=Option.map_eq_some_iff.1 h
        simp only [Prod.mk.injEq] at h1
        obtain ⟨rfl,rfl,rfl⟩:=h1
        exact ⟨e,hu,hd,rfl,hz⟩)
    · cases h
  · cases h
theorem iy {P:Program} {w:World} {kt:TypeId} {d:TypeDesc} {a:Value} (hk:P.underlying kt=some d) (hs:aBG d=true) (b:Bool):(Instr.checkKey b 10000 kt a).run P w=.ok () w:=by
  unfold Instr.checkKey
  simp only [Sem.run_bind,run_underlying hk]
  cases d <;> first | (cases hs; done) | rfl
theorem ic {P:Program} {w:World} {kt:TypeId} {d:TypeDesc} {a:Value} {es:List MapEntry} {r:Option (Nat × Value)} (hk:P.underlying kt=some d) (h:Instr.findNow d a es 0=some r):(Instr.findKey kt a es).run P w=.ok r w:=by
  unfold Instr.findKey
  simp only [Sem.run_bind,run_underlying hk,Result.andThen,h]
  rfl
section
variable {P:Program} {ρ:Env} {B:List (Nat × Ent)} {s:S} {L:List (Nat × Value)} {w:World} {op:Op} {ty t kt:TypeId} {x y z:Operand} {d:TypeDesc} {zv:Value}
def mapOf (B:List (Nat × Ent)) (s:S):V→Option (List (V × V))
  | .mp e=>match rdA s B e with
    | some (.map l)=>some l
    | _=>none
  | .c (.map none)=>some []
  | _=>none
def aHT (c:Bool) (v:V) (ok:Bool):V:=match c with
  | true=>.tu [v,.c (.bool ok)]
  | false=>v
def xlookup (P:Program) (B:List (Nat × Ent)) (s:S) (t:TypeId) (c:Bool) (u k:V):R V:=match mpT P t with
  | none=>R.fail
  | some (_,d,zv)=>(R.lift (mapOf B s u)).bind fun l=>(R.lift (asC k)).bind fun a=>(R.lift (sM d a l 0)).bind fun r=>match r with
    | some (_,v)=>R.pure (aHT c v true)
    | none=>R.pure (aHT c (toV zv) false)
theorem wK {c:Bool} {u:V} {v:Value} {ok:Bool} (h:VR ρ u v):VR ρ (aHT c u ok) (if c then .tuple #[v,.bool ok] else v):=by
  cases c with
  | false=>exact h
  | true=>exact .tu (cs:=[v,.bool ok]) (.cons h (.cons .c .nil))
theorem aEf {u:V} {v:Value} {l:List (V × V)} (h:Sees ρ B s L w) (hu:VR ρ u v) (hm:mapOf B s u=some l):(v=.map none∧l=[])∨∃ b es clock,v=.map (some b)∧w.heap[b]? = some (.map es clock)∧KVR ρ l (es.toList.map kvE):=by
  unfold mapOf at hm
  split at hm
  · rename_i e
    split at hm
    · rename_i l' hr
      simp only [Option.some.injEq] at hm
      subst hm
      obtain ⟨b,kvs,h1,h2,es,c,h3,h4,_,_⟩:=h.en e _ hr
      cases hu with
      | mp hh =>
        rw [hh] at h1; injection h1 with h1; injection h1 with h1; injection h1 with h1; subst h1
        exact .inr ⟨_,es,c,rfl,h3,by rw [h4]; exact h2⟩
    · cases hm
  · simp only [Option.some.injEq] at hm
    subst hm
    cases hu with
    | c=>exact .inl ⟨rfl,rfl⟩
  · cases hm
theorem aAA {c:Bool} {u' k':V} {u k:Value} (h:Sees ρ B s L w) (hx:ev L x=some u) (hy:ev L y=some k) (hu:VR ρ u' u) (hk:VR ρ k' k):(xlookup P B s t c u' k').Ok (Gives P ρ L (.lookup t x y c) ty w):=by
  unfold xlookup
  split
  · exact R.Ok.fail
  · rename_i kt d zv ht
    obtain ⟨e,h1,h2,h3,h4⟩:=qf ht
    refine R.Ok.bind (R.Ok.lift fun l hl=>R.Ok.bind (R.Ok.lift fun a ha=>R.Ok.bind (R.Ok.lift fun r hr=>?_)))
    have:=gL ha
    subst this
    cases hk with
    | c =>
      rcases aEf h hu hl with ⟨rfl,rfl⟩ | ⟨b,es,cl,rfl,h5,h6⟩
      · simp only [sM,Option.some.injEq] at hr
        subst hr
        refine R.Ok.pure ⟨_,wK (z8 zv),fun n ds a' d' pos af g hf=>?_⟩
        simp only [execOp,hf.eval hx,hf.eval hy]
        refine bn ?_
        unfold Instr.lookup
        simp only [Sem.run_bind,run_underlying h1,Result.andThen,Sem.run_pure,iy h2 h3,ic (es:=[]) (r:=none) h2 rfl,iC h4]
        try (cases c <;> rfl)
      · obtain ⟨r',g1,g2⟩:=pR h6 hr
        cases g2 with
        | none =>
          refine R.Ok.pure ⟨_,wK (z8 zv),fun n ds a' d' pos af g hf=>?_⟩
          simp only [execOp,hf.eval hx,hf.eval hy]
          refine bn ?_
          unfold Instr.lookup
          simp only [Sem.run_bind,run_underlying h1,Result.andThen,MapKept.run_getObj_map h5,Sem.run_pure,iy h2 h3,ic h2 g1,iC h4]
          try (cases c <;> rfl)
        | some q1 q2 q3 q4 =>
          refine R.Ok.pure ⟨_,wK q4,fun n ds a' d' pos af g hf=>?_⟩
          simp only [execOp,hf.eval hx,hf.eval hy]
          refine bn ?_
          unfold Instr.lookup
          simp only [Sem.run_bind,run_underlying h1,Result.andThen,MapKept.run_getObj_map h5,Sem.run_pure,iy h2 h3,ic h2 g1]
          try (cases c <;> rfl)
end
section
variable {P:Program} {ρ:Env} {B:List (Nat × Ent)} {s:S} {L:List (Nat × Value)} {w:World} {ty t t' e:TypeId} {x y:Operand} {bo:BinOp}
def aDk (v:Value):Bool:=match v with
  | .slice none 0 0=>true
  | _=>false
def wM:Ent→Option Bool
  | .arr _ _ xs=>match xs.length with
    | 0=>none
    | _+1=>some false
  | _=>none
def vM (B:List (Nat × Ent)) (s:S):V→Option Bool
  | .c (.slice none _ _)=>some true
  | .sl e=>(rdA s B e).bind wM
  | .sw e _ _ _=>(rdA s B e).bind wM
  | _=>none
def aGg (P:Program) (B:List (Nat × Ent)) (s:S) (t:TypeId) (op:BinOp) (u:V):R V:=match cZ P t with
  | none=>R.fail
  | some _=>match op with
    | .eql=>(R.lift (vM B s u)).bind fun b=>R.pure (.c (.bool b))
    | .neq=>(R.lift (vM B s u)).bind fun b=>R.pure (.c (.bool (!b)))
    | _=>R.fail
def oo (P:Program) (B:List (Nat × Ent)) (s:S) (t:TypeId) (op:BinOp) (u v:V):R V:=match asC v with
  | none=>xbin P t op u v
  | some c=>match aDk c with
    | true=>aGg P B s t op u
    | false=>xbin P t op u v
theorem uR {u':V} {u:Value} {b:Bool} (h:Sees ρ B s L w) (hu:VR ρ u' u) (hb:vM B s u'=some b):∃ A n c,u=.slice A n c∧A.isNone=b:=by
  have key:∀ {e:Nat} {v:Value},(rdA s B e).bind wM=some b→ρ e=some v→xW v=true∧b=false:=fun {e v} h1 h2=>by
    obtain ⟨ent,h3,h4⟩:=Option.bind_eq_some_iff.1 h1
    cases ent with
    | arr ty k xs =>
      simp only [wM] at h4
      split at h4
      · cases h4
      · rename_i m hm
        simp only [Option.some.injEq] at h4
        obtain ⟨v',ys,h5,h6,h7⟩:=h.en e _ h3
        rw [h2] at h5; injection h5 with h5; subst h5
        exact ⟨aAI h7 (by rw [← h6.len]; exact Nat.lt_of_lt_of_eq (Nat.succ_pos m) hm.symm),h4.symm⟩
    | _=>cases h4
  unfold vM at hb
  split at hb
  · simp only [Option.some.injEq] at hb
    subst hb
    cases hu; exact ⟨none,_,_,rfl,rfl⟩
  · cases hu with
    | sl he hs =>
      obtain ⟨h1,rfl⟩:=key hb he
      obtain ⟨g,o,n,c,rfl,_⟩:=ko h1
      exact ⟨_,_,_,rfl,rfl⟩
  · cases hu with
    | sw he hs =>
      obtain ⟨h1,rfl⟩:=key hb he
      obtain ⟨g,o,n,c,rfl,_⟩:=ko h1
      simp only [vsub]
      exact ⟨_,_,_,rfl,by split <;> rfl⟩
  · cases hb
theorem aE5 {u' v':V} {u v:Value} (h:Sees ρ B s L w) (hx:ev L x=some u) (hy:ev L y=some v) (hu:VR ρ u' u) (hv:VR ρ v' v):(oo P B s t bo u' v').Ok (Gives P ρ L (.binOp bo t x y t') ty w):=by
  unfold oo
  split
  · exact aBZ hx hy hu hv
  · rename_i c hc
    split
    · rename_i hn
      have:=gL hc
      subst this
      cases hv
      have hnil:v=.slice none 0 0:=by
        unfold aDk at hn
        split at hn
        · rfl
        · cases hn
      subst hnil
      unfold aGg
      split
      · exact R.Ok.fail
      · rename_i e ht
        split
        · refine R.Ok.bind (R.Ok.lift fun b hb=>?_)
          obtain ⟨A,n,c,rfl,rfl⟩:=uR h hu hb
          refine bQ fun n' ds a d pos af g hf=>?_
          simp only [execOp,hf.eval hx,hf.eval hy]
          have e1:(eqGuard .eql t x y (.slice A n c) (.slice none 0 0)).run P w=.ok () w:=by simp [eqGuard]
          have e2:=y7 (P:=P) (w:=w) (u:=.slice none 0 0) (n:=n) (c:=c) (A:=A) ht rfl rfl rfl
          simp only [Sem.run_bind,e1,e2,Result.andThen_ok,Sem.run_pure]
        · refine R.Ok.bind (R.Ok.lift fun b hb=>?_)
          obtain ⟨A,n,c,rfl,rfl⟩:=uR h hu hb
          refine bQ fun n' ds a d pos af g hf=>?_
          simp only [execOp,hf.eval hx,hf.eval hy]
          have e1:(eqGuard .neq t x y (.slice A n c) (.slice none 0 0)).run P w=.ok () w:=by simp [eqGuard]
          have e2:(binOp .neq t (.slice A n c) (.slice none 0 0)).run P w=.ok (.bool (!A.isNone)) w:=by
            have:=(EqR.sl (d:=9999) ht:EqR P 10000 t (.slice A n c) (.slice none 0 0) A.isNone) w
            simp only [binOp,Op.equal,Op.maxDepth,Sem.run_bind,this,Result.andThen_ok,Sem.run_pure]
          simp only [Sem.run_bind,e1,e2,Result.andThen_ok,Sem.run_pure]
        · exact R.Ok.fail
    · exact aBZ hx hy hu hv
end
section
variable {P:Program} {ρ:Env} {w:World} {t kt e:TypeId} {d:TypeDesc} {b:Nat} {a v:Value} {l:List (V × V)} {es:Array MapEntry} {clock:Nat}
theorem KVR.get:∀ {l:List (V × V)} {m:List (Value × Value)} {i:Nat} {x:Value × Value},KVR ρ l m→m[i]? = some x→∃ u,l[i]? = some u∧VR ρ u.1 x.1∧VR ρ u.2 x.2
  | _,_,_,_,.nil,h=>by simp at h
  | _,_,0,x,.cons a b t,h=>by
    simp only [List.getElem?_cons_zero,Option.some.injEq] at h
    subst h; exact ⟨_,rfl,a,b⟩
  | _,_,i+1,x,.cons a b t,h=>by
    simp only [List.getElem?_cons_succ] at h
    obtain ⟨u,h1,h2⟩:=KVR.get t h
    exact ⟨u,by simpa using h1,h2⟩
theorem KVR.snoc {k u:V} {k' v':Value} (hk:VR ρ k k') (hv:VR ρ u v'):∀ {l m},KVR ρ l m→KVR ρ (l++[(k,u)]) (m++[(k',v')])
  | _,_,.nil=>.cons hk hv .nil
  | _,_,.cons a b t=>.cons a b (KVR.snoc hk hv t)
theorem KVR.set {k u:V} {k' v':Value} (hk:VR ρ k k') (hv:VR ρ u v'):∀ {l m} (i:Nat),KVR ρ l m→KVR ρ (l.set i (k,u)) (m.set i (k',v'))
  | _,_,_,.nil=>.nil
  | _,_,0,.cons a b t=>.cons hk hv t
  | _,_,i+1,.cons a b t=>.cons a b (KVR.set hk hv i t)
theorem KVR.erase:∀ {l:List (V × V)} {m:List (Value × Value)} (i:Nat),KVR ρ l m→KVR ρ (l.eraseIdx i) (m.eraseIdx i)
  | _,_,_,.nil=>.nil
  | _,_,0,.cons a b t=>t
  | _,_,i+1,.cons a b t=>.cons a b (KVR.erase i t)
def aBu (l:List (V × V)) (k v:V):Option (Nat × V)→List (V × V)
  | some (i,_)=>l.set i (k,v)
  | none=>l++[(k,v)]
def aDe (l:List (V × V)):Option (Nat × V)→List (V × V)
  | some (i,_)=>l.eraseIdx i
  | none=>l
theorem aAK {u:V} {r:Option (Nat × V)} (h1:P.underlying t=some (.map kt e)) (h2:P.underlying kt=some d) (h3:aBG d=true) (h5:w.heap[b]? = some (.map es clock)) (h6:KVR ρ l (es.toList.map kvE)) (h7:∀ x ∈ es.toList,x.born<clock) (h8:(es.toList.map (·.born)).Nodup)
    (hr:sM d a l 0=some r) (hv:VR ρ u v):∃ es' c',(Instr.mapUpdate t (.map (some b)) a v).run P w=.ok () (SL.bZ w b es' c')∧KVR ρ (aBu l (.c a) u r) (es'.toList.map kvE)∧(∀ x ∈ es'.toList,x.born<c')∧(es'.toList.map (·.born)).Nodup:=by
  obtain ⟨r',g1,g2⟩:=pR h6 hr
  cases g2 with
  | none =>
    refine ⟨es.push { key:=a,val:=v,born:=clock },clock+1,?_,?_,fun x hx=>?_,?_⟩
    · unfold Instr.mapUpdate
      simp only [Sem.run_bind,run_underlying h1,Result.andThen,MapKept.run_getObj_map h5,iy h2 h3,ic h2 g1,MapKept.run_setObj_map _ h5]
      rfl
    · simp only [aBu,Array.toList_push,List.map_append,List.map_cons,List.map_nil]
      exact h6.snoc .c hv
    · simp only [Array.toList_push,List.mem_append,List.mem_singleton] at hx
      rcases hx with hx | rfl
      · have:=h7 x hx; omega
      · exact Nat.lt_succ_self _
    · simp only [Array.toList_push,List.map_append,List.map_cons,List.map_nil]
      rw [List.nodup_append]
      refine ⟨h8,by simp,fun x hx y hy=>?_⟩
      simp only [List.mem_singleton] at hy
      subst hy
      obtain ⟨e,he,rfl⟩:=List.mem_map.1 hx
      have:=h7 e he; omega
  | some q1 q2 q3 q4 =>
    rename_i m v0 e0
    rw [Nat.zero_add] at g1
    have hm:es[m]? = some e0:=by simpa using q1
    have hmod:(es.modify m fun e=>{ e with key:=a,val:=v }).toList=es.toList.set m { e0 with key:=a,val:=v }:=by
      apply List.ext_getElem?
      intro j
      rw [Array.getElem?_toList,Array.getElem?_modify,List.getElem?_set]
      by_cases hj:m=j
      · subst hj
        have hl:m<es.toList.length:=by simpa using (Array.getElem?_eq_some_iff.1 hm).1
        have hl':m<es.size:=by simpa using hl
        rw [hm]
        simp only [if_true,Option.map_some]
        rw [if_pos hl]
      · simp [hj]
    refine ⟨es.modify m fun e=>{ e with key:=a,val:=v },clock,?_,?_,fun x hx=>?_,?_⟩
    · unfold Instr.mapUpdate
      simp only [Sem.run_bind,run_underlying h1,Result.andThen,MapKept.run_getObj_map h5,iy h2 h3,ic h2 g1,hm,Option.map_some,Option.getD_some,q2,Instr.keyThatStays,q3,if_true,Sem.run_pure,MapKept.run_setObj_map _ h5]
      rfl
    · rw [hmod,List.map_set]
      simp only [aBu,Nat.zero_add]
      exact h6.set .c hv m
    · rw [hmod] at hx
      rcases List.mem_or_eq_of_mem_set hx with hx | rfl
      · exact h7 x hx
      · exact h7 e0 (List.mem_of_getElem? q1)
    · rw [hmod,List.map_set]
      have:(es.toList.map (·.born)).set m e0.born=es.toList.map (·.born):=by
        apply List.ext_getElem?
        intro j
        rw [List.getElem?_set]
        by_cases hj:m=j
        · subst hj
          have hl:m<es.toList.length:=by simpa using (Array.getElem?_eq_some_iff.1 hm).1
          simp only [List.length_map,hl,if_true,List.getElem?_map,q1,Option.map_some]
        · simp [hj]
      show ((es.toList.map (·.born)).set m e0.born).Nodup
      rw [this]; exact h8
theorem zn {aty:Array TypeId} {ty0:TypeId} {r:Option (Nat × V)} (h1:P.underlying t=some (.map kt e)) (h2:P.underlying kt=some d) (h3:aBG d=true) (hat:aty[0]? = some t) (h5:w.heap[b]? = some (.map es clock)) (h6:KVR ρ l (es.toList.map kvE)) (h7:∀ x ∈ es.toList,x.born<clock) (h8:(es.toList.map (·.born)).Nodup)
    (hr:sM d a l 0=some r):∃ es' c',(Builtin.delete_ aty ty0 #[.map (some b),a]).run P w=.ok (.tuple #[]) (SL.bZ w b es' c')∧KVR ρ (aDe l r) (es'.toList.map kvE)∧(∀ x ∈ es'.toList,x.born<c')∧(es'.toList.map (·.born)).Nodup:=by
  obtain ⟨r',g1,g2⟩:=pR h6 hr
  cases g2 with
  | none =>
    refine ⟨es,clock,?_,h6,h7,h8⟩
    unfold Builtin.delete_
    simp only [hat,List.getElem?_toArray,List.getElem?_cons_zero,List.getElem?_cons_succ,Sem.run_bind,run_underlying h1,Result.andThen,MapKept.run_getObj_map h5,iy h2 h3,ic h2 g1,MapKept.run_setObj_map _ h5]
    rfl
  | some q1 q2 q3 q4 =>
    rename_i m v0 e0
    rw [Nat.zero_add] at g1
    have hsz:m<es.size:=by simpa using (List.getElem?_eq_some_iff.1 q1).1
    have e1:(es.eraseIdxIfInBounds m).toList=es.toList.eraseIdx m:=by simp [Array.eraseIdxIfInBounds,hsz]
    refine ⟨es.eraseIdxIfInBounds m,clock,?_,?_,fun x hx=>?_,?_⟩
    · unfold Builtin.delete_
      simp only [hat,List.getElem?_toArray,List.getElem?_cons_zero,List.getElem?_cons_succ,Sem.run_bind,run_underlying h1,Result.andThen,MapKept.run_getObj_map h5,iy h2 h3,ic h2 g1,MapKept.run_setObj_map _ h5]
      rfl
    · rw [e1,map_eraseIdx]
      simp only [aDe,Nat.zero_add]
      exact h6.erase m
    · rw [e1] at hx; exact h7 x (List.mem_of_mem_eraseIdx hx)
    · rw [e1,map_eraseIdx]; exact h8.sublist (List.eraseIdx_sublist _ _)
end
end Go.RX

namespace Go.RX
open Go Go.SL
universe u
section
variable {P:Program} {ρ:Env} {B:List (Nat × Ent)} {s:S} {L:List (Nat × Value)} {w:World} {op:Op} {ty t t' e:TypeId} {x y:Operand} {φ:V→Prop}
def xread (P:Program) (B:List (Nat × Ent)) (s:S) (op:Op):R V:=match op with
  | .move x=>dm s x
  | .assign x=>dm s x
  | .pick z x y=>(dm s z).bind fun z'=>(dm s x).bind fun x'=>(dm s y).bind fun y'=>xpick z' x' y'
  | .nilCheck x=>(dm s x).bind fun u=>xnil u
  | .binOp o t x y _=>(dm s x).bind fun u=>(dm s y).bind fun v=>oo P B s t o u v
  | .unOp o _ x=>(dm s x).bind fun u=>xun o u
  | .convert t t' x=>(dm s x).bind fun u=>xconv P t t' u
  | .extract x k=>(dm s x).bind fun u=>xext k u
  | .field t x f=>(dm s x).bind fun u=>xfield P t f u
  | .fieldAddr t x f=>(dm s x).bind fun u=>qA P t f u
  | .index t x y=>(dm s x).bind fun u=>(dm s y).bind fun v=>xindex P t u v
  | .indexAddr t x y=>(dm s x).bind fun u=>(dm s y).bind fun v=>pO P B s t u v
  | .load t x=>match ay P t with
    | some (_+1)=>(dm s x).bind fun u=>xload P B s t u
    | _=>R.fail
  | .build t parts=>xbuild P s t parts.toList
  | .makeFunc f first captured=>xmkfn s f first.toList captured.toList
  | .slice t x lo hi none=>(dm s x).bind fun u=>xslice P B s t u lo hi
  | .lookup t x y c=>(dm s x).bind fun u=>(dm s y).bind fun k=>xlookup P B s t c u k
  | .call ⟨.builtin .len,args,at_⟩=>match args.toList with
    | [x]=>(dm s x).bind fun u=>xlen P B s at_ u
    | _=>R.fail
  | .call ⟨.builtin .max,args,_⟩=>(R.lift (oP s.fr args.toList)).bind fun l=>xmaxmin true l
  | .call ⟨.builtin .min,args,_⟩=>(R.lift (oP s.fr args.toList)).bind fun l=>xmaxmin false l
  | _=>R.fail
theorem yK (h:Sees ρ B s L w):(xread P B s op).Ok (fun u=>bJ op=true∧Gives P ρ L op ty w u):=by
  have key:∀ {m:R V},bJ op=true→m.Ok (Gives P ρ L op ty w)→m.Ok (fun u=>bJ op=true∧Gives P ρ L op ty w u):=fun hn hm=>hm.mono fun _ hu=>⟨hn,hu⟩
  unfold xread
  split
  · exact key rfl ((vK h _).mono fun u ⟨v,h1,h2⟩=>⟨v,h2,fun n ds=>aA.move h1⟩)
  · exact key rfl ((vK h _).mono fun u ⟨v,h1,h2⟩=>⟨v,h2,fun n ds=>aA.assign h1⟩)
  · exact key rfl (bX h fun _ _ h1 h2=>bX h fun _ _ h3 h4=>bX h fun _ _ h5 h6=>aEc h1 h3 h5 h2 h4 h6)
  · exact key rfl (bX h fun _ _ h1 h2=>aFJ h1 h2)
  · exact key rfl (bX h fun _ _ h1 h2=>bX h fun _ _ h3 h4=>aE5 h h1 h3 h2 h4)
  · exact key rfl (bX h fun _ _ h1 h2=>aHg h1 h2)
  · exact key rfl (bX h fun _ _ h1 h2=>aDX h1 h2)
  · exact key rfl (bX h fun _ _ h1 h2=>aFD h1 h2)
  · exact key rfl (bX h fun _ _ h1 h2=>aDC h1 h2)
  · exact key rfl (bX h fun _ _ h1 h2=>zR h1 h2)
  · exact key rfl (bX h fun _ _ h1 h2=>bX h fun _ _ h3 h4=>aCo h1 h3 h2 h4)
  · exact key rfl (bX h fun _ _ h1 h2=>bX h fun _ _ h3 h4=>aAh h h1 h3 h2 h4)
  · split
    · rename_i hs
      exact key rfl (bX h fun _ _ h1 h2=>aDt h h1 h2 (by rw [hs]; simp))
    · exact R.Ok.fail
  · exact key rfl (aCP h)
  · exact key rfl (aEP h)
  · exact key rfl (bX h fun _ _ h1 h2=>aCr h h1 h2)
  · exact key rfl (bX h fun _ _ h1 h2=>bX h fun _ _ h3 h4=>aAA h h1 h3 h2 h4)
  · rename_i args at_
    split
    · rename_i x ha
      have:args=#[x]:=by apply Array.ext'; exact ha
      subst this
      exact key rfl (bX h fun _ _ h1 h2=>aF2 h h1 h2)
    · exact R.Ok.fail
  · refine key rfl (R.Ok.bind (R.Ok.lift fun l hl=>?_))
    obtain ⟨vs,h1,h2⟩:=lG h hl
    exact aFh h1 h2
  · refine key rfl (R.Ok.bind (R.Ok.lift fun l hl=>?_))
    obtain ⟨vs,h1,h2⟩:=lG h hl
    exact aF8 h1 h2
  · exact R.Ok.fail
end
section
variable {r:Option Nat} {P:Program} {w0 w:World} {X:Nat→Prop} {B:List (Nat × Ent)} {n:Nat} {ds:List Deferred} {s s':S} {ρ:Env} {L:List (Nat × Value)} {BM M:List Asr} {a:Act} {op:Op} {ty t e:TypeId} {dst:Option Tmp}
theorem Rl.sees (h:Rl w0 X B n s ρ L BM M ds a w):Sees ρ B s L w:=by
  refine ⟨h.fr,fun e ent he=>?_⟩
  unfold rdA at he
  split at he
  · rename_i x hx
    simp only [Option.some.injEq] at he
    subst he
    obtain ⟨p,h1,h2⟩:=h.hm.get hx
    cases x with
    | cel l ty=>obtain ⟨b,cs,h3,h4,rfl⟩:=h2; exact ⟨b,cs,h3,h4,h.st.jS h1⟩
    | arr ty k xs=>obtain ⟨v,ys,h3,h4,rfl⟩:=h2; exact ⟨v,ys,h3,h4,h.st.rdS h1⟩
    | loop z=>trivial
    | mark=>trivial
    | map l=>obtain ⟨b,kvs,h3,h4,rfl⟩:=h2; exact ⟨b,kvs,h3,h4,h.st.at_ h1⟩
    | gl g l ty=>obtain ⟨cs,h3,h4,rfl⟩:=h2; exact ⟨cs,h4,h.st.jS h1⟩
  · obtain ⟨p,h1,h2⟩:=h.hb.get he
    cases ent with
    | cel l ty=>obtain ⟨b,cs,h3,h4,rfl⟩:=h2; exact ⟨b,cs,h3,h4,h.st.eF h1⟩
    | arr ty k xs=>obtain ⟨v,ys,h3,h4,rfl⟩:=h2; exact ⟨v,ys,h3,h4,h.st.rdB h1⟩
    | loop z=>trivial
    | mark=>trivial
    | map l=>obtain ⟨b,kvs,h3,h4,rfl⟩:=h2; exact ⟨b,kvs,h3,h4,h.st.bat h1⟩
    | gl g l ty=>obtain ⟨cs,h3,h4,rfl⟩:=h2; exact ⟨cs,h4,h.st.eF h1⟩
def Go_ (w0:World) (X:Nat→Prop) (B:List (Nat × Ent)) (n:Nat) (s':S) (ρ:Env) (BM:List Asr) (K:Act→World→Prop):Prop :=
  ∀ ρ' L' M' ds' a' w',ρ.le ρ'→Rl w0 X B n s' ρ' L' BM M' ds' a' w'→K a' w'
def Step (r:Option Nat) (P:Program) (w0:World) (X:Nat→Prop) (B:List (Nat × Ent)) (n:Nat) (s:S) (dst:Option Tmp) (op:Op) (ty:TypeId) (s':S):Prop :=
  ∀ ρ L BM M ds a w,Rl w0 X B n s ρ L BM M ds a w→∀ (ops:Array Oper) Q i rest pos af,ops[i]? = some ⟨dst,op,ty,pos,af,none⟩→Go_ w0 X B n s' ρ BM (O r P ops Q rest)→O r P ops Q (i::rest) a w
def aDH (n:Nat) (s:S) (dst:Option Tmp) (u:V):R S:=match dst with
  | some d=>match Nat.blt d n with
    | true=>R.pure ⟨kG s.fr d u,s.H,s.nx,s.df⟩
    | false=>R.fail
  | none=>R.pure s
theorem aFB {u:V} (hu:∀ ρ L w,Sees ρ B s L w→bJ op=true∧Gives P ρ L op ty w u):(aDH n s dst u).Ok (Step r P w0 X B n s dst op ty):=by
  unfold aDH
  split
  · split
    · rename_i d hd
      refine R.Ok.pure ?_
      intro ρ L BM M ds a w hR ops Q i rest pos af ho K
      obtain ⟨hnd,v,hv,hr⟩:=hu ρ L w hR.sees
      exact O.val hR.act ho hnd hd (hr n ds) fun a' hf'=>K ρ _ M _ a' w (Env.le.refl ρ) ⟨hR.dom,hR.fr.put hv,hR.hb,hR.hm,hR.df,hf',hR.st⟩
    · exact R.Ok.fail
  · refine R.Ok.pure ?_
    intro ρ L BM M ds a w hR ops Q i rest pos af ho K
    obtain ⟨hnd,v,hv,hr⟩:=hu ρ L w hR.sees
    exact O.aHB hR.act ho hnd (hr n ds) (K ρ L M _ a w (Env.le.refl ρ) hR)
theorem zQ:((xread P B s op).bind fun u=>aDH n s dst u).Ok (Step r P w0 X B n s dst op ty):=by
  have h:(xread P B s op).Ok fun u=>∀ ρ L w,Sees ρ B s L w→bJ op=true∧Gives P ρ L op ty w u :=
    R.Ok.all fun ρ=>R.Ok.all fun L=>R.Ok.all fun w=>⟨fun u e hs=>(yK hs).conc u e,fun d u o d' e ha hs=>(yK hs).sym d u o d' e ha⟩
  exact h.andThen fun u hu=>aFB hu
def Env.upd (ρ:Env) (v:Value):Env:=⟨fun k=>match Nat.beq k ρ.nx with
  | true=>some v
  | false=>ρ k,ρ.nx+1,fun e he=>by
    split
    · rename_i hb; have:=Nat.eq_of_beq_eq_true hb; omega
    · exact ρ.dom e (by omega)⟩
theorem Env.fM {ρ:Env} {v:Value}:ρ.le (ρ.upd v):=⟨Nat.le_succ _,fun e he=>by
  show (match Nat.beq e ρ.nx with
    | true=>some v
    | false=>ρ e)=ρ e
  split
  · rename_i hb; have:=Nat.eq_of_beq_eq_true hb; omega
  · rfl⟩
theorem Env.bU {ρ:Env} {v:Value} {e:Nat} (h:ρ.nx=e):(ρ.upd v) e=some v:=by
  subst h
  show (match Nat.beq ρ.nx ρ.nx with
    | true=>some v
    | false=>ρ ρ.nx)=some v
  rw [Nat.beq_refl]
theorem Rl.new (h:Rl w0 X B n s ρ L BM M ds a w) {d:Nat} {u:V} {ent:Ent} {v v':Value} {p:Asr} {a':Act} {w':World} (hf:Fr a' n ds ((d,v')::L)) (hS:St w0 w' X BM (p::M)) (hE:ER (ρ.upd v) s.nx ent p) (hv:VR (ρ.upd v) u v') :
    Rl w0 X B n ⟨kG s.fr d u,(s.nx,ent)::s.H,s.nx+1,s.df⟩ (ρ.upd v) ((d,v')::L) BM (p::M) ds a' w':=by
  have hle:ρ.le (ρ.upd v):=Env.fM
  exact ⟨congrArg (·+1) h.dom,(h.fr.mono hle).put hv,h.hb.mono fun _ _ _=>EB.mono hle,.cons hE (h.hm.mono fun _ _ _=>ER.mono hle),h.df.mono hle,hf,hS⟩
def xD (n:Nat) (s:S) (dst:Option Tmp) (u:V) (ent:Ent):R S:=match dst with
  | some d=>match Nat.blt d n with
    | true=>R.pure ⟨kG s.fr d u,(s.nx,ent)::s.H,s.nx+1,s.df⟩
    | false=>R.fail
  | none=>R.fail
theorem lD {u:V} {ent:Ent} (h:∀ d,Nat.blt d n=true→Step r P w0 X B n s (some d) op ty ⟨kG s.fr d u,(s.nx,ent)::s.H,s.nx+1,s.df⟩):(xD n s dst u ent).Ok (Step r P w0 X B n s dst op ty):=by
  unfold xD
  split
  · split
    · rename_i hd; exact R.Ok.pure (h _ hd)
    · exact R.Ok.fail
  · exact R.Ok.fail
def xalloc (P:Program) (n:Nat) (s:S) (dst:Option Tmp) (t:TypeId):R S:=(R.lift (zeroV P t)).bind fun z=>xD n s dst (.p s.nx 0) (.cel z t)
theorem aC5:(xalloc P n s dst t).Ok (Step r P w0 X B n s dst (.alloc t) ty):=by
  refine R.Ok.bind (R.Ok.lift fun z hz=>lD fun d hd=>?_)
  obtain ⟨zv,h3,rfl⟩:=Option.map_eq_some_iff.1 hz
  intro ρ L BM M ds a w h ops Q i rest pos af ho K
  refine O.alloc h.act h.st ho hd h3 rfl fun b w' a' _ hS hf=>?_
  exact K _ _ _ _ a' w' (Env.fM) (h.new hf hS ⟨b,_,(Env.bU h.dom),VRL.ofc _,by simp⟩ (.p (Env.bU h.dom)))
def xbox (n:Nat) (s:S) (dst:Option Tmp) (t:TypeId) (x:Operand):R S:=(dm s x).bind fun u=>(R.lift (qa u)).bind fun l=>xD n s dst (.p s.nx 0) (.cel l t)
theorem aFR {x:Operand}:(xbox n s dst t x).Ok (Step r P w0 X B n s dst (.box t x) ty):=by
  refine R.Ok.bind (R.Ok.lift fun u hu=>R.Ok.bind (R.Ok.lift fun l hl=>lD fun d hd=>?_))
  intro ρ L BM M ds a w h ops Q i rest pos af ho K
  obtain ⟨v,h1,h2⟩:=h.fr.ev hu
  refine O.box h.act h.st ho hd h1 rfl fun b w' a' _ hS hf=>?_
  have hle:ρ.le (ρ.upd (.pointer (some ⟨b,0,none⟩))):=Env.fM
  exact K _ _ _ _ a' w' hle (h.new hf hS ⟨b,_,(Env.bU h.dom),(jV h2 hl).mono hle,by simp⟩ (.p (Env.bU h.dom)))
theorem kU {l:List V} {cs:List Value}:VRL ρ l cs→l.all aAY=true→aQ cs=true:=by
  intro h
  induction h using VRL.rec (motive_1:=fun _ _ _=>True) with
  | nil=>intro _; rfl
  | cons hv ht _ ih =>
    intro h1
    simp only [List.all_cons,Bool.and_eq_true] at h1
    exact fE (aBn hv h1.1) (ih h1.2)
  | _=>trivial
def aDb (k:Ck):Nat→List V→Option (List k.ty)
  | 0,[]=>some []
  | 0,_::_=>none
  | m+1,l=>match k.cd.dec (l.take k.cd.sz) with
    | some x=>match aDb k m (l.drop k.cd.sz) with
      | some xs=>some (x::xs)
      | none=>none
    | none=>none
theorem jM:∀ {l:List Value} (k:Nat),aQ l=true→aQ (l.take k)=true
  | _,0,_=>by simp [aQ]
  | [],_+1,_=>rfl
  | v::t,k+1,h=>by
    obtain ⟨h1,h2⟩:=fU h
    exact fE h1 (jM k h2)
theorem jL:∀ {l:List Value} (k:Nat),aQ l=true→aQ (l.drop k)=true
  | _,0,h=>h
  | [],_+1,_=>rfl
  | v::t,k+1,h=>jL k (fU h).2
theorem pJ {k:Ck} {l:List V} {cs:List Value} {x:k.ty} (h:VRL ρ l cs) (h1:aQ cs=true) (hd:k.cd.dec l=some x):∃ y:Row k.cd.sz,y.1=cs∧VRL ρ (k.cd.enc x) y.1:=by
  have he:=k.cd.hd l x hd
  have hl:=k.cd.hl x
  rw [he] at hl
  exact ⟨⟨cs,by rw [← h.len]; exact hl,h1⟩,rfl,by rw [he]; exact h⟩
theorem aBd {k:Ck}:∀ {m:Nat} {l:List V} {cs:List Value} {xs:List k.ty},VRL ρ l cs→aQ cs=true→aDb k m l=some xs→∃ ys,RL ρ k.cd xs ys∧encs (ja k.cd.sz) ys=cs∧xs.length=m
  | 0,[],cs,xs,h,_,hd=>by
    simp only [aDb,Option.some.injEq] at hd
    subst hd
    cases h
    exact ⟨[],.nil,rfl,rfl⟩
  | 0,_::_,cs,xs,h,_,hd=>by cases hd
  | m+1,l,cs,xs,h,h1,hd=>by
    simp only [aDb] at hd
    split at hd
    · rename_i x hx
      split at hd
      · rename_i xs' hxs
        simp only [Option.some.injEq] at hd
        subst hd
        obtain ⟨y,h2,h3⟩:=pJ (h.take k.cd.sz) (jM _ h1) hx
        obtain ⟨ys,h4,h5,h6⟩:=aBd (h.drop k.cd.sz) (jL _ h1) hxs
        refine ⟨y::ys,.cons h3 h4,?_,by simp [h6]⟩
        simp only [encs] at h5
        simp only [encs,List.flatMap_cons,h5]
        show y.1++_=_
        rw [h2,List.take_append_drop]
      · cases hd
    · cases hd
def aH2 (sz:Nat):R Ck:=⟨some (.row sz),fun d=>match d with
  | .cd c::r=>some (c,[],r)
  | _=>none⟩
theorem aBC {sz:Nat} {φ:Ck→Prop} (h:∀ k,φ k):(aH2 sz).Ok φ:=⟨fun x _=>h x,fun d x o d' e _=>h x⟩
def jJ (P:Program) (n:Nat) (s:S) (dst:Option Tmp) (t:TypeId) (len:Nat) (parts:List (Nat × Operand)):R S:=match cZ P t with
  | none=>R.fail
  | some e=>match ay P e with
    | none=>R.fail
    | some m=>(aH2 m).bind fun k=>match Nat.beq k.cd.sz m with
      | false=>R.fail
      | true=>match len with
        | 0=>match parts with
          | []=>xD n s dst (.sl s.nx) (.arr e k [])
          | _::_=>R.fail
        | len+1=>match dL P e with
          | none=>R.fail
          | some z=>match Nat.ble ((len+1)*m) 16777216&&Nat.blt 0 m&&Nat.ble (len+1) 1000 with
            | false=>R.fail
            | true=>(R.lift (aC8 s.fr parts)).bind fun ps =>
              (R.lift (rT (fun i=>some (i*m,m)) (((List.range ((len+1)*m)).map (z.cells[· % z.cells.size]!)).map .c) ps)).bind fun l =>
              match l.all aAY with
              | false=>R.fail
              | true=>(R.lift (aDb k (len+1) l)).bind fun xs=>xD n s dst (.sl s.nx) (.arr e k xs)
theorem rW {len:Nat} {parts:Array (Nat × Operand)}:(jJ P n s dst t len parts.toList).Ok (Step r P w0 X B n s dst (.buildSlice t len parts) ty):=by
  unfold jJ
  split
  · exact R.Ok.fail
  · rename_i e he
    split
    · exact R.Ok.fail
    · rename_i m hm
      refine R.Ok.bind (aBC fun k=>?_)
      split
      · exact R.Ok.fail
      · rename_i hk
        have hk:=Nat.eq_of_beq_eq_true hk
        subst hk
        split
        · split
          · rename_i hp
            refine lD fun d hd=>?_
            intro ρ L BM M ds a w h ops Q i rest pos af ho K
            have hp':parts=#[]:=by apply Array.ext'; exact hp
            refine O.kI h.act h.st ho hd he hm hp' fun b w' a' _ hS hf=>?_
            refine K _ _ _ _ a' w' (Env.fM) (h.new hf hS ⟨_,[],(Env.bU h.dom),.nil,?_⟩ (.sl (Env.bU h.dom) rfl))
            simp [slE,encs]
          · exact R.Ok.fail
        · rename_i len
          split
          · exact R.Ok.fail
          · rename_i z hz
            split
            · exact R.Ok.fail
            · rename_i hb
              simp only [Bool.and_eq_true] at hb
              obtain ⟨⟨hb1,hb2⟩,hb3⟩:=hb
              refine R.Ok.bind (R.Ok.lift fun ps hps=>R.Ok.bind (R.Ok.lift fun l hl=>?_))
              split
              · exact R.Ok.fail
              · rename_i hall
                refine R.Ok.bind (R.Ok.lift fun xs hxs=>lD fun d hd=>?_)
                intro ρ L BM M ds a w h ops Q i rest pos af ho K
                obtain ⟨vs,h1,h2⟩:=vG h.sees hps
                obtain ⟨cs',h4,h5⟩:=nE (cs:=((List.range ((len+1)*k.cd.sz)).map (z.cells[· % z.cells.size]!)).toArray) h2 (VRL.ofc (ρ:=ρ) _) hl
                obtain ⟨ys,h6,h7,h8⟩:=aBd h5 (kU h5 hall) hxs
                refine O.buildSlice h.act h.st ho hd he hm hz hb1 (by
                  have:0<k.cd.sz:=by simpa using hb2
                  simpa using Nat.mul_pos (Nat.succ_pos len) this) rfl h1 h4 fun b w' a' _ hS hf=>?_
                have hlen:ys.length=len+1:=by rw [← h6.len,h8]
                have hsz:cs'.size=(len+1)*k.cd.sz:=by
                  have:=congrArg List.length h7
                  rw [eZ fC,hlen] at this
                  simpa using this.symm
                have hS':=hS.ptE (j:=0) (enc:=ja k.cd.sz) (xs:=ys) (N:=len+1) rfl hb3 hlen hsz h7.symm rfl
                refine K _ _ _ _ a' w' (Env.fM) (h.new hf hS' ⟨_,ys,(Env.bU h.dom),h6.mono (Env.fM),rfl⟩ (.sl (Env.bU h.dom) rfl))
def xmake (P:Program) (n:Nat) (s:S) (dst:Option Tmp) (t:TypeId) (x y:Operand):R S:=match cZ P t with
  | none=>R.fail
  | some e=>match ay P e,gN P e,zeroV P e with
    | some m,some by_,some z=>(aH2 m).bind fun k=>match Nat.beq k.cd.sz m&&Nat.blt 0 m&&Nat.ble by_ 32000&&z.all aAY with
      | false=>R.fail
      | true=>(dm s x).bind fun u=>(dm s y).bind fun v=>match u,v with
        | .c (.int _ p),.c (.int _ c)=>(iD (0≤p∧p≤c∧c≤4294967296)).bind fun _=>(R.lift (k.cd.dec z)).bind fun x0=>xD n s dst (.sl s.nx) (.arr e k (List.replicate p.toNat x0))
        | _,_=>R.fail
    | _,_,_=>R.fail
theorem aD7 {x y:Operand}:(xmake P n s dst t x y).Ok (Step r P w0 X B n s dst (.makeSlice t x y) ty):=by
  unfold xmake
  split
  · exact R.Ok.fail
  · rename_i e he
    split
    · rename_i m by_ z hm hby hz
      refine R.Ok.bind (aBC fun k=>?_)
      split
      · exact R.Ok.fail
      · rename_i hb
        simp only [Bool.and_eq_true] at hb
        obtain ⟨⟨⟨hb1,hb2⟩,hb3⟩,hb4⟩:=hb
        have hk:=Nat.eq_of_beq_eq_true hb1
        subst hk
        refine R.Ok.bind (R.Ok.lift fun u hu=>R.Ok.bind (R.Ok.lift fun v hv=>?_))
        split
        · rename_i k1 p k2 c
          refine (dM _).andThen fun _ hp=>R.Ok.bind (R.Ok.lift fun x0 hx0=>lD fun d hd=>?_)
          intro ρ L BM M ds a w h ops Q i rest pos af ho K
          obtain ⟨zv,h3,rfl⟩:=Option.map_eq_some_iff.1 hz
          obtain ⟨u1,h4,h5⟩:=h.fr.ev hu
          obtain ⟨v1,h6,h7⟩:=h.fr.ev hv
          cases h5; cases h7
          have hone:=kU (VRL.ofc (ρ:=ρ) zv.cells.toList) hb4
          obtain ⟨y,hy1,hy2⟩:=pJ (VRL.ofc (ρ:=ρ) zv.cells.toList) hone hx0
          refine O.aDa (enc:=ja k.cd.sz) (x0:=y) h.act h.st ho hd he hm hby h3 hb2 h4 h6 hp hb3 fC hy1.symm fun v' w' a' hS hf=>?_
          have hS:=hS
          have hsl:aCp v'=true:=by
            have:=(hS.slS (j:=0) rfl).isSlice
            obtain ⟨A,cap,rfl,_⟩:=this
            rfl
          exact K _ _ _ _ a' w' (Env.fM) (h.new hf hS ⟨_,_,(Env.bU h.dom),(RL.rep hy2 _).mono (Env.fM),rfl⟩ (.sl (Env.bU h.dom) hsl))
        · exact R.Ok.fail
    · exact R.Ok.fail
end
end Go.RX
