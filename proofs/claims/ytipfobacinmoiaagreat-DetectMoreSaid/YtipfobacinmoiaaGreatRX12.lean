/- Regions whose order is drawn: the reckoner's answer is right in each order. -/
import Derived.Test.YtipfobacinmoiaaGreatRX11
set_option linter.unusedVariables false
set_option linter.unusedSimpArgs false
namespace Go.RX
open Go Go.SL
section
variable {P:Program} {w0:World} {X:Nat→Prop} {B:List (Nat × Ent)} {n:Nat} {s:S} {ρ0:Env} {BM:List Asr} {ops:Array Oper} {rs:List OpR}
structure Recs (P:Program) (B:List (Nat × Ent)) (n:Nat) (ops:Array Oper) (s:S) (rs:List OpR):Prop where
  len:rs.length=ops.size
  good:∀ i o,ops[i]? = some o→∃ r,rs[i]? = some r∧Good P B n ops s (rs.take i) o r
  pair:∀ i j a b,rs[i]? = some a→rs[j]? = some b→i<j→pairB ops i a j b=true
  dist:distinctDst ops []=true
theorem Recs.get (h:Recs P B n ops s rs) {i:Nat} {r:OpR} (hr:rs[i]? = some r):∃ o,ops[i]? = some o∧Good P B n ops s (rs.take i) o r:=by
  have hi:i<ops.size:=by rw [← h.len]; exact (List.getElem?_eq_some_iff.1 hr).1
  have ho:ops[i]? = some ops[i]:=Array.getElem?_eq_getElem hi
  obtain ⟨r',h1,h2⟩:=h.good i _ ho
  rw [hr] at h1; injection h1 with h1; subst h1
  exact ⟨_,ho,h2⟩
theorem take_succ' {i:Nat} {r:OpR} (hr:rs[i]? = some r):rs.take (i+1)=rs.take i++[r]:=by
  obtain ⟨h,rfl⟩:=List.getElem?_eq_some_iff.1 hr
  rw [List.take_succ_eq_append_getElem h]
theorem Recs.chain (h:Recs P B n ops s rs):∀ (k i:Nat) (r:OpR),rs[i]? = some r→i<k→r.nx'≤curNx s (rs.take k)∧True
  | 0,_,_,_,hk=>absurd hk (Nat.not_lt_zero _)
  | k+1,i,r,hr,hk=>by
    by_cases hlen:k<rs.length
    · have hk0:rs[k]? = some rs[k]:=List.getElem?_eq_getElem hlen
      rw [take_succ' hk0,curNx_snoc]
      by_cases e:i=k
      · subst e; rw [hr] at hk0; injection hk0 with hk0; rw [← hk0]; exact ⟨Nat.le_refl _,trivial⟩
      · have h1:=(Recs.chain h k i r hr (by omega)).1
        obtain ⟨o,_,hg⟩:=h.get hk0
        have h2:=hg.nx
        have h3:=hg.le
        exact ⟨by omega,trivial⟩
    · have e1:rs.take (k+1)=rs.take k:=by rw [List.take_of_length_le (by omega),List.take_of_length_le (by omega)]
      rw [e1]
      have:i<rs.length:=(List.getElem?_eq_some_iff.1 hr).1
      exact Recs.chain h k i r hr (by omega)
theorem Recs.base (h:Recs P B n ops s rs):∀ k,s.nx≤curNx s (rs.take k)
  | 0=>by simp [curNx]
  | k+1=>by
    by_cases hlen:k<rs.length
    · have hk0:rs[k]? = some rs[k]:=List.getElem?_eq_getElem hlen
      rw [take_succ' hk0,curNx_snoc]
      have h1:=Recs.base h k
      obtain ⟨o,_,hg⟩:=h.get hk0
      have h2:=hg.nx
      have h3:=hg.le
      omega
    · have e1:rs.take (k+1)=rs.take k:=by rw [List.take_of_length_le (by omega),List.take_of_length_le (by omega)]
      rw [e1]; exact Recs.base h k
theorem Recs.lt (h:Recs P B n ops s rs) {i j:Nat} {a b:OpR} (hi:rs[i]? = some a) (hj:rs[j]? = some b) (hij:i<j):a.nx'≤b.nx:=by
  obtain ⟨o,_,hg⟩:=h.get hj
  rw [hg.nx]
  exact (h.chain j i a hi hij).1
theorem DR.monoS {ρ ρ':Env} (h:ρ.sub ρ'):∀ {l ds},DR ρ l ds→DR ρ' l ds
  | _,_,.nil=>.nil
  | _,_,.call a t=>.call (a.monoS h) (DR.monoS h t)
  | _,_,.mark a t=>.mark (h _ _ a) (DR.monoS h t)
theorem DR.uniq {ρ:Env}:∀ {l ds ds'},dfEq l l=true→DR ρ l ds→DR ρ l ds'→ds=ds'
  | _,_,_,_,.nil,.nil=>rfl
  | _,_,_,h,.call _ _,.call _ _=>by cases h
  | _,_,_,h,.mark a t,.mark a' t'=>by
    simp only [dfEq,Bool.and_eq_true] at h
    rw [a] at a'
    injection a' with a'; injection a' with a'; injection a' with a'; injection a' with a' _ _
    subst a'
    rw [DR.uniq h.2 t t']
structure Mid (P:Program) (w0:World) (X:Nat→Prop) (n:Nat) (s:S) (ρ0:Env) (BM:List Asr) (ops:Array Oper) (rs:List OpR) (ds:List Deferred) (sel:Nat→Bool) (a:Act) (w:World):Prop where
  ex:∃ (ρ:Env) (Hs:List (Nat × Ent)) (M:List Asr),
    Fr a n ds [] ∧
    (∀ q u,lkV s.fr q=some u→(∀ j,dstOf ops j=some q→sel j=false)→∃ v,a.tmps[q]? = some v∧VR ρ0 u v) ∧
    (∀ j r d,sel j=true→rs[j]? = some r→dstOf ops j=some d→∃ u v,r.v=some u∧a.tmps[d]? = some v∧VR (ρ.cut r.nx') u v) ∧
    (∀ e,lkE Hs e=ver s rs sel e) ∧
    HR (fun e ent p=>ER (ρ.cut (bnd s rs sel e)) e ent p) Hs M ∧
    St w0 w X BM M ∧
    (∀ e,e<s.nx→ρ e=ρ0 e) ∧
    (∀ j r e,rs[j]? = some r→sel j=false→r.nx≤e→e<r.nx'→ρ e=none) ∧
    ρ.nx=curNx s rs
theorem lk_all {a:Act}:∀ {l:List Nat} {k:Nat} {v:Value},lk (l.map fun q=>(q,a.tmps.getD q undef)) k=some v→v=a.tmps.getD k undef
  | [],_,_,h=>by simp [lk] at h
  | q::t,k,v,h=>by
    simp only [List.map_cons,lk] at h
    split at h
    · rename_i hb
      have:=Nat.eq_of_beq_eq_true hb
      subst this
      simp only [Option.some.injEq] at h
      exact h.symm
    · exact lk_all h
theorem lk_has {a:Act}:∀ {l:List Nat} {k:Nat},k ∈ l→lk (l.map fun q=>(q,a.tmps.getD q undef)) k=some (a.tmps.getD k undef)
  | [],_,h=>by cases h
  | q::t,k,h=>by
    simp only [List.map_cons,lk]
    split
    · rename_i hb
      have:=Nat.eq_of_beq_eq_true hb
      subst this; rfl
    · rename_i hb
      rcases List.mem_cons.1 h with h1 | h1
      · subst h1; rw [Nat.beq_refl] at hb; cases hb
      · exact lk_has h1
theorem frame_of {a:Act} {ds:List Deferred} {fr:Fm} {ρ:Env} (ha:Fr a n ds []) (h:∀ q u,lkV fr q=some u→∃ v,a.tmps[q]? = some v∧VR ρ u v):∃ L,FR ρ fr L∧Fr a n ds L:=by
  refine ⟨(List.range n).map fun q=>(q,a.tmps.getD q undef),fun k u hk=>?_,ha.size,ha.defers,fun k v hk=>?_⟩
  · obtain ⟨v,h1,h2⟩:=h k u hk
    have hlt:k<n:=by rw [← ha.size]; exact (Array.getElem?_eq_some_iff.1 h1).1
    refine ⟨_,lk_has (List.mem_range.2 hlt),?_⟩
    have:a.tmps.getD k undef=v:=by simp [Array.getD_eq_getD_getElem?,h1]
    rw [this]; exact h2
  · have h1:=lk_all hk
    have hlt:k<n:=by
      have:=lk_mem hk
      clear h1 hk h
      rcases Nat.lt_or_ge k n with h | h
      · exact h
      · exfalso
        have key:∀ (l:List Nat) ,k ∈ baseKeys (l.map fun q=>(q,a.tmps.getD q undef))→k ∈ l:=by
          intro l
          induction l with
          | nil=>intro h; exact h
          | cons q t ih =>
            intro h
            simp only [List.map_cons,baseKeys,List.mem_cons] at h
            rcases h with h | h
            · simp [h]
            · simp [ih h]
        have:=List.mem_range.1 (key _ this)
        omega
    rw [h1]
    have:k<a.tmps.size:=by rw [ha.size]; exact hlt
    simp [this]
theorem lend_all {F:Nat→Ent→Asr→Prop} {w:World} {ρ:Env} {BM0:List Asr} {H:List (Nat × Ent)} {M:List Asr} (hh:HR F H M) (hS:St w0 w X BM0 M):∀ {H2:List (Nat × Ent)},(∀ e x,(e,x) ∈ H2→lkE H e=some x∧∀ p,F e x p→ER ρ e x p) →
    ∃ BM2,HR (EB ρ) H2 BM2∧∀ p ∈ BM2,p.holds (hp w)∧∀ b,p.fp b→∃ q ∈ M,q.fp b
  | [],_=>⟨[],.nil,by simp⟩
  | (e,x)::t,hm=>by
    obtain ⟨BM2,h1,h2⟩:=lend_all hh hS (H2:=t) fun e' x' h=>hm e' x' (by simp [h])
    obtain ⟨hx,hF⟩:=hm e x (by simp)
    obtain ⟨p,hp,hp'⟩:=hh.get hx
    have hE:=hF p hp'
    have hmem:=List.mem_of_getElem? hp
    cases x with
    | cel l ty =>
      obtain ⟨b,cs,h3,h4,rfl⟩:=hE
      refine ⟨pt b (.cells cs.toArray ty (0,0))::BM2,.cons ⟨b,cs,h3,h4,rfl⟩ h1,fun q hq=>?_⟩
      rcases List.mem_cons.1 hq with rfl | hq
      · exact ⟨hS.at_ hp,fun k hk=>⟨_,hmem,hk⟩⟩
      · exact h2 q hq
    | arr ty k xs =>
      obtain ⟨v,ys,h3,h4,rfl⟩:=hE
      refine ⟨rdE k.cd.sz (encW k.cd.sz) v ys::BM2,.cons ⟨v,ys,h3,h4,rfl⟩ h1,fun q hq=>?_⟩
      rcases List.mem_cons.1 hq with rfl | hq
      · exact ⟨hS.rdS hp,fun k' hk=>⟨_,hmem,hk.2⟩⟩
      · exact h2 q hq
    | loop z =>
      refine ⟨p::BM2,.cons hE h1,fun q hq=>?_⟩
      rcases List.mem_cons.1 hq with rfl | hq
      · exact ⟨hS.at_ hp,fun k hk=>⟨_,hmem,hk⟩⟩
      · exact h2 q hq
    | mark =>
      refine ⟨p::BM2,.cons hE h1,fun q hq=>?_⟩
      rcases List.mem_cons.1 hq with rfl | hq
      · exact ⟨hS.at_ hp,fun k hk=>⟨_,hmem,hk⟩⟩
      · exact h2 q hq
    | gl g l ty =>
      refine ⟨p::BM2,.cons hE h1,fun q hq=>?_⟩
      rcases List.mem_cons.1 hq with rfl | hq
      · exact ⟨hS.at_ hp,fun k hk=>⟨_,hmem,hk⟩⟩
      · exact h2 q hq
    | map l =>
      refine ⟨p::BM2,.cons hE h1,fun q hq=>?_⟩
      rcases List.mem_cons.1 hq with rfl | hq
      · exact ⟨hS.at_ hp,fun k hk=>⟨_,hmem,hk⟩⟩
      · exact h2 q hq
theorem Sep.mem {h:Hp} {k:Nat} {old:Nat→Prop} {M:List Asr} {p:Asr} (hs:Sep h k old M) (hp:p ∈ M):p.holds h∧∀ b,p.fp b→b<k∧old b:=by
  obtain ⟨i,hi⟩:=List.getElem?_of_mem hp
  exact hs.get hi
theorem Sep.left {h:Hp} {k:Nat} {old old':Nat→Prop}:∀ {M1 M2:List Asr},Sep h k old (M1++M2)→(∀ p ∈ M1,∀ b,p.fp b→old' b)→Sep h k old' M1
  | [],_,_,_=>trivial
  | p::t,M2,hs,ho=>⟨⟨hs.1.1,fun b hb=>⟨(hs.1.2.1 b hb).1,ho p (by simp) b hb⟩,fun q hq=>hs.1.2.2 q (by simp [hq])⟩,Sep.left hs.2 fun q hq=>ho q (by simp [hq])⟩
theorem Sep.apart2 {h:Hp} {k:Nat} {old:Nat→Prop}:∀ {M1 M2:List Asr},Sep h k old (M1++M2)→∀ p ∈ M1,∀ q ∈ M2,∀ b,p.fp b→¬ q.fp b
  | p0::t,M2,hs,p,hp,q,hq,b,hb=>by
    rcases List.mem_cons.1 hp with rfl | hp
    · exact hs.1.2.2 q (by simp [hq]) b hb
    · exact Sep.apart2 hs.2 p hp q hq b hb
theorem touch_of {r:OpR} {e:Nat} (h:r.touch e=true):e ∈ r.own∨(r.nx≤e∧e<r.nx'):=by
  simp only [OpR.touch,Bool.or_eq_true,Bool.and_eq_true] at h
  rcases h with h | h
  · exact .inl (by simpa using h)
  · exact .inr ⟨Nat.le_of_ble_eq_true h.1,by simpa using h.2⟩
theorem own_touch {r:OpR} {e:Nat} (h:e ∈ r.own):r.touch e=true:=by
  simp only [OpR.touch,Bool.or_eq_true]; exact .inl (by simpa using h)
theorem Recs.lastT_eq (h:Recs P B n ops s rs) {i:Nat} {r:OpR} {sel:Nat→Bool} {e:Nat} (hr:rs[i]? = some r) (hi:sel i=false) (hpre:∀ p ∈ preB ops i,sel p=true) (hpost:∀ j,i ∈ preB ops j→sel j=false) (he:e ∈ r.own∨e ∈ r.ro) :
    lastT sel e 0 none rs=lastT allT e 0 none (rs.take i):=by
  obtain ⟨o,ho,hg⟩:=h.get hr
  have hlt:=hg.lt e he
  conv=>lhs; rw [← List.take_append_drop i rs]
  rw [lastT_app,lastT_none,lastT_congr]
  · intro j b hj ht
    rw [Nat.zero_add]
    have hji:j<i:=by
      have:=(List.getElem?_eq_some_iff.1 hj).1
      rw [List.length_take] at this; omega
    have hjb:rs[j]? = some b:=by rw [List.getElem?_take,if_pos hji] at hj; exact hj
    have hp:=h.pair j i b r hjb hr hji
    simp only [pairB,Bool.or_eq_true,Bool.and_eq_true,List.all_eq_true,Bool.not_eq_true'] at hp
    rcases hp with hp | hp
    · rw [hpre j (by simpa using hp)]; rfl
    · have:=hp.1 e (by simpa using he)
      rw [ht] at this; cases this
  · intro j b hj ht
    have hib:i+j<rs.length:=by
      have:=(List.getElem?_eq_some_iff.1 hj).1
      rw [List.length_drop] at this; omega
    have hil:(rs.take i).length=i:=by rw [List.length_take]; omega
    rw [hil,Nat.zero_add]
    have hjb:rs[i+j]? = some b:=by rw [List.getElem?_drop] at hj; exact hj
    cases j with
    | zero=>exact hi
    | succ j =>
      apply hpost
      have hp:=h.pair i (i+(j+1)) r b hr hjb (by omega)
      simp only [pairB,Bool.or_eq_true,Bool.and_eq_true,List.all_eq_true,Bool.not_eq_true'] at hp
      rcases hp with hp | hp
      · simpa using hp
      · exfalso
        rcases touch_of ht with h1 | h1
        · rcases he with he | he
          · have:=hp.1 e (by simp [h1])
            rw [own_touch he] at this; cases this
          · have:=hp.2 e h1
            have h2:r.ro.contains e=true:=by simpa using he
            rw [h2] at this; cases this
        · have:=h.lt hr hjb (by omega)
          have:=hg.le
          omega
end
end Go.RX
