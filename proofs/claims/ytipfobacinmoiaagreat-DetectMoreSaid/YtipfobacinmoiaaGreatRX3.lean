/- Reading memory: parts of values, elements, loads; values built. -/
import Derived.Test.YtipfobacinmoiaaGreatRX2
set_option linter.unusedVariables false
set_option linter.unusedSimpArgs false
namespace Go.RX
open Go Go.SL
universe u
section
variable {P:Program} {ρ:Env} {B:List (Nat × Ent)} {s:S} {L:List (Nat × Value)} {w:World} {op:Op} {ty t t' e:TypeId} {x y:Operand} {φ:V→Prop}
def cellsV:V→Option (List V)
  | .ag l=>some l
  | .tu _=>none
  | .un=>none
  | .c (.agg _)=>none
  | .c (.tuple _)=>none
  | u=>some [u]
theorem VR.ncell {u:V} {v:Value} (h:VR ρ u v) (h1:oneV u=true):v.cells=#[v]:=by
  have:=oneV_ok h h1
  cases v <;> first | rfl | (simp [oneCells] at this)
theorem cellsV_ok {u:V} {v:Value} {l:List V} (h:VR ρ u v) (hc:cellsV u=some l):VRL ρ l v.cells.toList:=by
  unfold cellsV at hc
  split at hc
  · simp only [Option.some.injEq] at hc; subst hc
    cases h with
    | ag h=>exact h
  · cases hc
  · cases hc
  · cases hc
  · cases hc
  · rename_i h1 h2 h3 h4 h5
    simp only [Option.some.injEq] at hc
    subst hc
    have ho:oneV u=true:=by
      cases u with
      | c v=>cases v <;> first | rfl | (exact absurd rfl (h4 _)) | (exact absurd rfl (h5 _))
      | ag l=>exact absurd rfl (h1 _)
      | tu l=>exact absurd rfl (h2 _)
      | un=>exact absurd rfl h3
      | _=>rfl
    rw [h.ncell ho]
    exact .cons h .nil
def xext (k:Nat):V→R V
  | .tu l=>R.lift l[k]?
  | _=>R.fail
theorem xext_ok {k:Nat} {u':V} {u:Value} (hx:ev L x=some u) (hu:VR ρ u' u):(xext k u').Ok (Gives P ρ L (.extract x k) ty w):=by
  unfold xext
  split
  · cases hu with
    | tu h =>
      refine R.Ok.lift fun y hy=>?_
      obtain ⟨v,h1,h2⟩:=h.get hy
      exact ⟨v,h2,fun n ds=>RunV.extract hx (by simpa using h1)⟩
  · exact R.Ok.fail
theorem isSlN_ix {v:Value} (h:isSlN v=true):∃ g o n c,v=.slice (some ⟨g,o,none⟩) n c∧∀ k,ix v k=.pointer (some ⟨g,o+k,none⟩):=by
  unfold isSlN at h
  split at h
  · exact ⟨_,_,_,_,rfl,fun k=>by simp [ix,add_none]⟩
  · cases h
theorem VR.qform {ee sz o:Nat} {i:Int} {u:Value} (h:VR ρ (.q ee sz i o) u):∃ g o',u=.pointer (some ⟨g,o',none⟩):=by
  cases h with
  | q he hs =>
    obtain ⟨g,o',n,c,rfl,h2⟩:=isSlN_ix hs
    exact ⟨_,_,h2 _⟩
def xnil:V→R V
  | .p e o=>R.pure (.p e o)
  | .q e sz i o=>R.pure (.q e sz i o)
  | .fn f l=>R.pure (.fn f l)
  | _=>R.fail
theorem xnil_ok {u':V} {u:Value} (hx:ev L x=some u) (hu:VR ρ u' u):(xnil u').Ok (Gives P ρ L (.nilCheck x) ty w):=by
  unfold xnil
  split
  · refine R.Ok.pure ⟨u,hu,fun n ds=>?_⟩
    cases hu; exact RunV.nilCheck hx
  · refine R.Ok.pure ⟨u,hu,fun n ds=>?_⟩
    obtain ⟨g,o',rfl⟩:=hu.qform
    exact RunV.nilCheck hx
  · refine R.Ok.pure ⟨u,hu,fun n ds=>?_⟩
    cases hu
    intro a d pos af g hf
    simp only [execOp,hf.eval hx]; rfl
  · exact R.Ok.fail
def xfield (P:Program) (t:TypeId) (f:Nat):V→R V
  | .ag l=>match tFld P t f with
    | some (ft,o)=>R.lift (partV P ft l o)
    | none=>R.fail
  | _=>R.fail
theorem xfield_ok {f:Nat} {u':V} {u:Value} (hx:ev L x=some u) (hu:VR ρ u' u):(xfield P t f u').Ok (Gives P ρ L (.field t x f) ty w):=by
  unfold xfield
  split
  · split
    · rename_i ft o hF
      refine R.Ok.lift fun y hy=>?_
      cases hu with
      | ag h =>
        unfold partV at hy
        split at hy
        · rename_i ha
          split at hy
          · rename_i m hs
            split at hy
            · simp only [Option.some.injEq] at hy
              subst hy
              refine ⟨_,.ag ((h.drop o).take m),fun n ds=>RunV.fieldVN hF ha hs hx ?_⟩
              apply Array.ext'
              simp only [Array.toList_extract,List.extract_eq_take_drop]
              congr 1; omega
            · cases hy
          · cases hy
        · rename_i ha
          obtain ⟨v,h1,h2⟩:=h.get hy
          exact ⟨v,h2,fun n ds=>RunV.fieldV1 hF ha hx (by simpa using h1)⟩
        · cases hy
    · exact R.Ok.fail
  · exact R.Ok.fail
def xfieldA (P:Program) (t:TypeId) (f:Nat):V→R V
  | .p e o=>match tField P t f with
    | some off=>R.pure (.p e (o+off))
    | none=>R.fail
  | .q e sz i o=>match tField P t f with
    | some off=>R.pure (.q e sz i (o+off))
    | none=>R.fail
  | _=>R.fail
theorem xfieldA_ok {f:Nat} {u':V} {u:Value} (hx:ev L x=some u) (hu:VR ρ u' u):(xfieldA P t f u').Ok (Gives P ρ L (.fieldAddr t x f) ty w):=by
  unfold xfieldA
  split
  · split
    · rename_i off hF
      cases hu with
      | p he=>exact R.Ok.pure ⟨_,.p he,fun n ds=>RunV.field hF hx rfl⟩
    · exact R.Ok.fail
  · split
    · rename_i off hF
      cases hu with
      | q he hs =>
        refine R.Ok.pure ⟨_,.q he hs,fun n ds=>?_⟩
        obtain ⟨g,o',n',c,rfl,h2⟩:=isSlN_ix hs
        rw [h2] at hx ⊢
        exact RunV.field hF hx (by omega)
    · exact R.Ok.fail
  · exact R.Ok.fail
def inb (n:Nat) (p:Int):Prop:=0≤p∧p<(n:Int)
instance (n:Nat) (p:Int):Decidable (inb n p):=by unfold inb; infer_instance
theorem inb_idx {T:Type} {l:List T} {p:Int} (h:inb l.length p):∃ x,SL.idx l p=some x:=by
  unfold SL.idx; rw [if_pos h.1]
  have:p.toNat<l.length:=by have:=h.1; have:=h.2; omega
  exact ⟨_,List.getElem?_eq_getElem this⟩
theorem Sees.arr {ee:Nat} {ty':TypeId} {C:Ck} {xs:List C.ty} (h:Sees ρ B s L w) (hr:rdA s B ee=some (.arr ty' C xs)):∃ v ys,ρ ee=some v∧RL ρ C.cd xs ys∧rdEOK (hp w) C.cd.sz (encW C.cd.sz) v ys:=h.en ee _ hr
theorem slN_of {h:Hp} {sz:Nat} {T:Type} {enc:T→List Value} {v:Value} {l:List T} (hr:rdEOK h sz enc v l) (hl:0<l.length):isSlN v=true:=by
  obtain ⟨⟨_,_,A,c,rfl,h3⟩,_⟩:=hr
  obtain ⟨a,_,_,_,rfl,hs,_⟩:=h3 hl
  obtain ⟨g,o,sp⟩:=a
  simp only at hs; subst hs; rfl
def xindexA (P:Program) (B:List (Nat × Ent)) (s:S) (t:TypeId) (u i:V):R V:=match u,i with
  | .sl e,.c (.int _ p)=>match rdA s B e with
    | some (.arr _ C xs)=>match tElem P t with
      | some el=>match tSize P el with
        | some z=>match Nat.beq z C.cd.sz with
          | true=>(askP (inb xs.length p)).bind fun _=>R.pure (.q e z p 0)
          | false=>R.fail
        | none=>R.fail
      | none=>R.fail
    | _=>R.fail
  | .sw e sz a b,.c (.int _ p)=>match rdA s B e with
    | some (.arr _ C xs)=>match tElem P t with
      | some el=>match tSize P el with
        | some z=>match Nat.beq z C.cd.sz&&Nat.beq sz z with
          | true=>(askP (sbd a b (xs.length:Int)∧inb (b-a).toNat p)).bind fun _=>R.pure (.q e z (a+p) 0)
          | false=>R.fail
        | none=>R.fail
      | none=>R.fail
    | _=>R.fail
  | .p e o,.c (.int _ p)=>match tArr P t with
    | some (n,el)=>match tSize P el with
      | some z=>(askP (inb n p)).bind fun _=>R.pure (.p e (o+p.toNat*z))
      | none=>R.fail
    | none=>R.fail
  | .q e sz i o,.c (.int _ p)=>match tArr P t with
    | some (n,el)=>match tSize P el with
      | some z=>(askP (inb n p)).bind fun _=>R.pure (.q e sz i (o+p.toNat*z))
      | none=>R.fail
    | none=>R.fail
  | .c (.pointer (some ⟨g,o,none⟩)),.c (.int _ p)=>match tArr P t with
    | some (n,el)=>match tSize P el with
      | some z=>(askP (inb n p)).bind fun _=>R.pure (.c (.pointer (some ⟨g,o+p.toNat*z,none⟩)))
      | none=>R.fail
    | none=>R.fail
  | _,_=>R.fail
theorem xindexA_ok {u' i':V} {u i:Value} (h:Sees ρ B s L w) (hx:ev L x=some u) (hy:ev L y=some i) (hu:VR ρ u' u) (hi:VR ρ i' i):(xindexA P B s t u' i').Ok (Gives P ρ L (.indexAddr t x y) ty w):=by
  unfold xindexA
  split
  · rename_i ee k p
    split
    · rename_i ty' C xs hr
      split
      · rename_i el hel
        split
        · rename_i z hz
          split
          · rename_i hb
            have:=Nat.eq_of_beq_eq_true hb
            subst this
            refine (askP_ok _).andThen fun _ hp=>?_
            cases hi
            cases hu with
            | sl he hs =>
              obtain ⟨v,ys,h1,h2,h3⟩:=h.arr hr
              rw [he] at h1; injection h1 with h1; subst h1
              rw [h2.len] at hp
              obtain ⟨y0,hy0⟩:=inb_idx hp
              have hN:0<ys.length:=by have:=hp.1; have:=hp.2; omega
              have:=fun n ds=>RunV.ixE (P:=P) (n:=n) (ds:=ds) (ty:=ty) hel hz hx hy h3 hy0
              exact R.Ok.pure ⟨_,.q he (slN_of h3 hN),this⟩
          · exact R.Ok.fail
        · exact R.Ok.fail
      · exact R.Ok.fail
    · exact R.Ok.fail
  · rename_i ee sz a b k p
    split
    · rename_i ty' C xs hr
      split
      · rename_i el hel
        split
        · rename_i z hz
          split
          · rename_i hb
            simp only [Bool.and_eq_true] at hb
            have e1:=Nat.eq_of_beq_eq_true hb.1
            have e2:=Nat.eq_of_beq_eq_true hb.2
            subst e1; subst e2
            refine (askP_ok _).andThen fun _ hp=>?_
            obtain ⟨hsb,hp⟩:=hp
            cases hi
            cases hu with
            | sw he hs =>
              obtain ⟨v,ys,h1,h2,h3⟩:=h.arr hr
              rw [he] at h1; injection h1 with h1; subst h1
              rw [h2.len] at hsb
              have hl:=lsub_len hsb
              have hp':inb (lsub ys a b).length p:=by
                rw [hl]; obtain ⟨b1,b2,b3⟩:=hsb
                refine ⟨hp.1,?_⟩
                have:=hp.2; omega
              obtain ⟨y0,hy0⟩:=inb_idx hp'
              have hN:0<ys.length:=by have:=hp'.1; have:=hp'.2; obtain ⟨b1,b2,b3⟩:=hsb; omega
              have:=fun n ds=>RunV.ixW (P:=P) (n:=n) (ds:=ds) (ty:=ty) hel hz hx hy h3 encW_len hsb hy0
              exact R.Ok.pure ⟨_,.q he (slN_of h3 hN),this⟩
          · exact R.Ok.fail
        · exact R.Ok.fail
      · exact R.Ok.fail
    · exact R.Ok.fail
  · split
    · rename_i n el hA
      split
      · rename_i z hz
        refine (askP_ok _).andThen fun _ hp=>?_
        cases hi
        cases hu with
        | p he=>exact R.Ok.pure ⟨_,.p he,fun n ds=>RunV.indexArr hA hz hx hy (Int.toNat_of_nonneg hp.1).symm (by have:=hp.1; have:=hp.2; omega) rfl⟩
      · exact R.Ok.fail
    · exact R.Ok.fail
  · split
    · rename_i n el hA
      split
      · rename_i z hz
        refine (askP_ok _).andThen fun _ hp=>?_
        cases hi
        cases hu with
        | q he hs =>
          refine R.Ok.pure ⟨_,.q he hs,fun n ds=>?_⟩
          obtain ⟨g,o',n',c,rfl,h2⟩:=isSlN_ix hs
          rw [h2] at hx ⊢
          exact RunV.indexArr hA hz hx hy (Int.toNat_of_nonneg hp.1).symm (by have:=hp.1; have:=hp.2; omega) (by omega)
      · exact R.Ok.fail
    · exact R.Ok.fail
  · split
    · rename_i n el hA
      split
      · rename_i z hz
        refine (askP_ok _).andThen fun _ hp=>?_
        cases hi
        cases hu
        exact R.Ok.pure ⟨_,.c,fun n ds=>RunV.indexArr hA hz hx hy (Int.toNat_of_nonneg hp.1).symm (by have:=hp.1; have:=hp.2; omega) rfl⟩
      · exact R.Ok.fail
    · exact R.Ok.fail
  · exact R.Ok.fail
def arrV (P:Program) (e:TypeId) (n z:Nat) (l:List V) (p:Int):Option (List V):=match decide (inb n p) with
  | true=>(partV P e l (p.toNat*z)).map fun u=>[u]
  | false=>none
def xindex (P:Program) (t:TypeId) (u i:V):R V:=match u,i with
  | .ag l,.c (.int _ p)=>match tArr P t with
    | some (n,el)=>match tSize P el with
      | some z=>(askX (arrV P el n z l p)).bind fun r=>match r with
        | [v]=>R.pure v
        | _=>R.fail
      | none=>R.fail
    | none=>R.fail
  | .c (.string a),.c (.int _ p)=>match tStr P t with
    | true=>(askX ((strIdx a p).map fun z=>[.c (.int .u8 z)])).bind fun r=>match r with
      | [v]=>R.pure v
      | _=>R.fail
    | false=>R.fail
  | _,_=>R.fail
theorem xindex_ok {u' i':V} {u i:Value} (hx:ev L x=some u) (hy:ev L y=some i) (hu:VR ρ u' u) (hi:VR ρ i' i):(xindex P t u' i').Ok (Gives P ρ L (.index t x y) ty w):=by
  unfold xindex
  split
  · split
    · rename_i n el hA
      split
      · rename_i z hz
        refine (askX_ok _).andThen fun r hr=>?_
        split
        · rename_i v
          unfold arrV at hr
          split at hr
          · rename_i hp
            have hp:=of_decide_eq_true hp
            obtain ⟨v',h1,h2⟩:=Option.map_eq_some_iff.1 hr
            injection h2 with h2 _
            subst h2
            cases hi
            cases hu with
            | ag h =>
              have hj:=(Int.toNat_of_nonneg hp.1).symm
              have hlt:=(show ∀ q:Int,inb n q→q.toNat<n from fun q hq=>by have:=hq.1; have:=hq.2; omega) _ hp
              unfold partV at h1
              split at h1
              · rename_i ha
                split at h1
                · rename_i m hs
                  have:z=m:=by rw [hz] at hs; injection hs
                  subst this
                  split at h1
                  · simp only [Option.some.injEq] at h1
                    subst h1
                    refine R.Ok.pure ⟨_,.ag ((h.drop _).take z),fun n ds=>RunV.indexN hA ha hz hx hy hj hlt ?_⟩
                    apply Array.ext'
                    simp only [Array.toList_extract,List.extract_eq_take_drop]
                    congr 1; omega
                  · cases h1
                · cases h1
              · rename_i ha
                obtain ⟨v2,h3,h4⟩:=h.get h1
                exact R.Ok.pure ⟨v2,h4,fun n ds=>RunV.index1 hA ha hz hx hy hj hlt (by simpa using h3)⟩
              · cases h1
          · cases hr
        · exact R.Ok.fail
      · exact R.Ok.fail
    · exact R.Ok.fail
  · split
    · rename_i ht
      refine (askX_ok _).andThen fun r hr=>?_
      split
      · obtain ⟨z,h1,h2⟩:=Option.map_eq_some_iff.1 hr
        injection h2 with h2 _
        subst h2
        cases hi; cases hu
        refine pure_c fun n ds=>RunV.indexStr ?_ hx hy h1
        unfold tStr at ht
        split at ht
        · rename_i h5; exact h5
        · cases ht
      · exact R.Ok.fail
    · exact R.Ok.fail
  · exact R.Ok.fail
def findG:List (Nat × Ent)→Nat→Option Nat
  | [],_=>none
  | (e,.gl g _ _)::t,k=>match Nat.beq g k with
    | true=>some e
    | false=>findG t k
  | _::t,k=>findG t k
def rdG (s:S) (B:List (Nat × Ent)) (g:Nat):Option Ent:=match findG B g with
  | some e=>rdA s B e
  | none=>none
def xload (P:Program) (B:List (Nat × Ent)) (s:S) (t:TypeId) (u:V):R V:=match u with
  | .p e o=>match rdA s B e with
    | some (.cel l _)=>R.lift (partV P t l o)
    | _=>R.fail
  | .q e z i o=>match rdA s B e with
    | some (.arr _ C xs)=>match Nat.beq z C.cd.sz with
      | true=>(askX ((SL.idx xs i).map C.cd.enc)).bind fun r=>R.lift (partV P t r o)
      | false=>R.fail
    | _=>R.fail
  | .c (.pointer (some ⟨g,o,none⟩))=>match rdG s B g with
    | some (.gl g' l _)=>match Nat.beq g' g with
      | true=>R.lift (partV P t l o)
      | false=>R.fail
    | _=>R.fail
  | _=>R.fail
theorem xload_ok {u':V} {u:Value} (h:Sees ρ B s L w) (hx:ev L x=some u) (hu:VR ρ u' u) (h0:tSize P t≠some 0):(xload P B s t u').Ok (Gives P ρ L (.load t x) ty w):=by
  unfold xload
  split
  · rename_i ee o
    split
    · rename_i l ty' hr
      refine R.Ok.lift fun y hy=>?_
      cases hu with
      | p he =>
        obtain ⟨b,cs,h1,h2,h3⟩:=h.en ee _ hr
        rw [he] at h1; injection h1 with h1; injection h1 with h1; injection h1 with h1; injection h1 with h1 _ _; subst h1
        have h3:w.heap[_]? = _:=h3
        unfold partV at hy
        split at hy
        · rename_i ha
          split at hy
          · rename_i m hs
            split at hy
            · rename_i hle
              simp only [Option.some.injEq] at hy
              subst hy
              refine ⟨_,.ag ((h2.drop o).take m),fun n ds=>RunV.loadN ha hs hx h3 ?_ ?_⟩
              · have:=Nat.le_of_ble_eq_true hle
                rw [h2.len] at this; simpa using this
              · apply Array.ext'
                simp only [Array.toList_extract,List.extract_eq_take_drop]
                congr 1; omega
            · cases hy
          · cases hy
        · rename_i ha
          obtain ⟨v,h4,h5⟩:=h2.get hy
          exact ⟨v,h5,fun n ds=>RunV.load1 ha hx h3 (by simpa using h4)⟩
        · cases hy
    · exact R.Ok.fail
  · rename_i ee z i o
    split
    · rename_i ty' C xs hr
      split
      · rename_i hb
        have:=Nat.eq_of_beq_eq_true hb
        subst this
        refine (askX_ok _).andThen fun r hr'=>?_
        obtain ⟨x0,h1,rfl⟩:=Option.map_eq_some_iff.1 hr'
        refine R.Ok.lift fun y hy=>?_
        cases hu with
        | q he hs =>
          obtain ⟨v,ys,h3,h4,h5⟩:=h.arr hr
          rw [he] at h3; injection h3 with h3; subst h3
          obtain ⟨y0,h6,h7⟩:=h4.idx h1
          unfold partV at hy
          split at hy
          · rename_i ha
            split at hy
            · rename_i m hs'
              split at hy
              · rename_i hle
                have hle:=Nat.le_of_ble_eq_true hle
                rw [C.cd.hl] at hle
                simp only [Option.some.injEq] at hy
                subst hy
                have hm:0<m:=by
                  rcases Nat.eq_zero_or_pos m with e | e
                  · subst e; exact absurd hs' h0
                  · exact e
                refine ⟨.agg ((y0.1.drop o).take m).toArray,.ag ((h7.drop o).take m),fun n ds=>RunV.ldEN ha hs' (by simpa using hm) encW_len hx h5 h6 (by simpa using hle) ?_ rfl⟩
                have:=encW_len y0
                simp only [encW] at this
                simp [encW,this]; omega
              · cases hy
            · cases hy
          · rename_i ha
            obtain ⟨v2,h8,h9⟩:=h7.get hy
            have hlt:o<C.cd.sz:=by
              have:=(List.getElem?_eq_some_iff.1 hy).1
              rwa [C.cd.hl] at this
            exact ⟨v2,h9,fun n ds=>RunV.ldE1 ha encW_len hx h5 h6 (by simpa using hlt) h8⟩
          · cases hy
      · exact R.Ok.fail
    · exact R.Ok.fail
  · rename_i g o
    split
    · rename_i g' l ty' hr
      split
      · rename_i hb
        have:=Nat.eq_of_beq_eq_true hb
        subst this
        refine R.Ok.lift fun y hy=>?_
        cases hu
        unfold rdG at hr
        split at hr
        · obtain ⟨cs,h2,h3⟩:=h.en _ _ hr
          have h3:w.heap[_]? = _:=h3
          unfold partV at hy
          split at hy
          · rename_i ha
            split at hy
            · rename_i m hs
              split at hy
              · rename_i hle
                simp only [Option.some.injEq] at hy
                subst hy
                refine ⟨_,.ag ((h2.drop o).take m),fun n ds=>RunV.loadN ha hs hx h3 ?_ ?_⟩
                · have:=Nat.le_of_ble_eq_true hle
                  rw [h2.len] at this; simpa using this
                · apply Array.ext'
                  simp only [Array.toList_extract,List.extract_eq_take_drop]
                  congr 1; omega
              · cases hy
            · cases hy
          · rename_i ha
            obtain ⟨v,h4,h5⟩:=h2.get hy
            exact ⟨v,h5,fun n ds=>RunV.load1 ha hx h3 (by simpa using h4)⟩
          · cases hy
        · cases hr
      · exact R.Ok.fail
    · exact R.Ok.fail
  · exact R.Ok.fail
end
end Go.RX
