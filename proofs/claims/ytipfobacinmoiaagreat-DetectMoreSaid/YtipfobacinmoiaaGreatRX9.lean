/- Regions whose order is drawn, by the reckoner: each operation by itself, over what it touches. -/
import Derived.Test.YtipfobacinmoiaaGreatRX8
set_option linter.unusedVariables false
set_option linter.unusedSimpArgs false
namespace Go.RX
open Go Go.SL
universe u
structure OpR where
  own:List Nat
  ro:List Nat
  nx:Nat
  nx':Nat
  v:Option V
  aft:List (Nat × Ent)
def OpR.touch (r:OpR) (e:Nat):Bool:=r.own.contains e||(Nat.ble r.nx e&&Nat.blt e r.nx')
def lastT (sel:Nat→Bool) (e:Nat):Nat→Option OpR→List OpR→Option OpR
  | _,acc,[]=>acc
  | k,acc,r::t=>lastT sel e (k+1) (match sel k&&r.touch e with
    | true=>some r
    | false=>acc) t
def verO (s:S) (e:Nat):Option OpR→Option Ent
  | some r=>lkE r.aft e
  | none=>lkE s.H e
def bndO (s:S):Option OpR→Nat
  | some r=>r.nx'
  | none=>s.nx
def ver (s:S) (rs:List OpR) (sel:Nat→Bool) (e:Nat):Option Ent:=verO s e (lastT sel e 0 none rs)
def bnd (s:S) (rs:List OpR) (sel:Nat→Bool) (e:Nat):Nat:=bndO s (lastT sel e 0 none rs)
def curNx (s:S):List OpR→Nat
  | []=>s.nx
  | [r]=>r.nx'
  | _::r::t=>curNx s (r::t)
def allT:Nat→Bool:=fun _=>true
theorem lastT_congr {sel sel':Nat→Bool} {e:Nat}:∀ {rs:List OpR} {k:Nat} {acc:Option OpR},(∀ j r,rs[j]? = some r→r.touch e=true→sel (k+j)=sel' (k+j))→lastT sel e k acc rs=lastT sel' e k acc rs
  | [],_,_,_=>rfl
  | r::t,k,acc,h=>by
    simp only [lastT]
    have h0:(sel k&&r.touch e)=(sel' k&&r.touch e):=by
      cases ht:r.touch e with
      | false=>simp
      | true=>have:=h 0 r rfl ht; simp only [Nat.add_zero] at this; rw [this]
    rw [h0]
    exact lastT_congr fun j r' hj ht=>by
      have:=h (j+1) r' (by simpa using hj) ht
      rwa [Nat.add_assoc,Nat.add_comm 1 j]
theorem lastT_app {sel:Nat→Bool} {e:Nat}:∀ {rs ts:List OpR} {k:Nat} {acc:Option OpR},lastT sel e k acc (rs++ts)=lastT sel e (k+rs.length) (lastT sel e k acc rs) ts
  | [],ts,k,acc=>by simp [lastT]
  | r::t,ts,k,acc=>by
    simp only [List.cons_append,lastT,List.length_cons]
    rw [lastT_app]
    congr 1; omega
theorem lastT_none {sel:Nat→Bool} {e:Nat}:∀ {rs:List OpR} {k:Nat} {acc:Option OpR},(∀ j r,rs[j]? = some r→r.touch e=true→sel (k+j)=false)→lastT sel e k acc rs=acc
  | [],_,_,_=>rfl
  | r::t,k,acc,h=>by
    simp only [lastT]
    have h0:(sel k&&r.touch e)=false:=by
      cases ht:r.touch e with
      | false=>simp
      | true=>have:=h 0 r rfl ht; simp only [Nat.add_zero] at this; rw [this]; rfl
    rw [h0]
    exact lastT_none fun j r' hj ht=>by
      have:=h (j+1) r' (by simpa using hj) ht
      rwa [Nat.add_assoc,Nat.add_comm 1 j]
theorem lastT_mem {sel:Nat→Bool} {e:Nat} {r0:OpR}:∀ {rs:List OpR} {k:Nat} {acc:Option OpR},lastT sel e k acc rs=some r0→acc=some r0∨∃ j,rs[j]? = some r0∧sel (k+j)=true∧r0.touch e=true
  | [],_,_,h=>.inl h
  | r::t,k,acc,h=>by
    simp only [lastT] at h
    rcases lastT_mem h with h1 | ⟨j,h1,h2,h3⟩
    · split at h1
      · rename_i hb
        simp only [Option.some.injEq] at h1
        subst h1
        simp only [Bool.and_eq_true] at hb
        exact .inr ⟨0,rfl,by simpa using hb.1,hb.2⟩
      · exact .inl h1
    · exact .inr ⟨j+1,by simpa using h1,by rw [← h2]; congr 1; omega,h3⟩
def Env.cut (k:Nat) (ρ:Env):Env:=⟨fun e=>match Nat.blt e k with
  | true=>ρ e
  | false=>none,k,fun e he=>by
    have:Nat.blt e k=false:=by
      cases h:Nat.blt e k with
      | false=>rfl
      | true => have : e < k := by simpa using h
                omega
    simp [this]⟩
theorem Env.cut_lt {k e:Nat} {ρ:Env} (h:e<k):(ρ.cut k) e=ρ e:=by
  show (match Nat.blt e k with
    | true=>ρ e
    | false=>none)=_
  have:Nat.blt e k=true:=by simpa using h
  rw [this]
theorem Env.cut_sub {k k':Nat} {ρ:Env} (h:k≤k'):(ρ.cut k).sub (ρ.cut k'):=fun e v hv=>by
  have h1:e<k:=Env.lt hv
  rw [Env.cut_lt h1] at hv
  rw [Env.cut_lt (Nat.lt_of_lt_of_le h1 h)]; exact hv
def keysE (H:List (Nat × Ent)):List Nat:=H.map (·.1)
def nodupB:List Nat→Bool
  | []=>true
  | k::t=>!t.contains k&&nodupB t
theorem ixE_inj:∀ {H:List (Nat × Ent)} {e e':Nat} {x x':Ent},lkE H e=some x→lkE H e'=some x'→e≠e'→ixE H e≠ixE H e'
  | [],_,_,_,_,h,_,_=>by cases h
  | (k,y)::t,e,e',x,x',h,h',hne=>by
    simp only [lkE] at h h'
    simp only [ixE]
    cases h1:Nat.beq k e with
    | true =>
      have e1:=Nat.eq_of_beq_eq_true h1
      subst e1
      have h2:Nat.beq k e'=false:=by
        cases h2:Nat.beq k e' with
        | false=>rfl
        | true=>exact absurd (Nat.eq_of_beq_eq_true h2) hne
      rw [h2]; simp
    | false =>
      rw [h1] at h
      cases h2:Nat.beq k e' with
      | true=>simp
      | false =>
        rw [h2] at h'
        simp only
        intro hc
        exact ixE_inj h h' hne (by omega)
theorem St.selE {F:Nat→Ent→Asr→Prop} {w0 w:World} {X:Nat→Prop} {BM:List Asr} {H:List (Nat × Ent)} {M:List Asr} (hh:HR F H M) (hS:St w0 w X BM M):∀ {H2:List (Nat × Ent)},nodupB (keysE H2)=true→(∀ e x,(e,x) ∈ H2→lkE H e=some x)→∃ M2,HR F H2 M2∧St w0 w X BM M2∧∀ p ∈ M2,∃ e x,(e,x) ∈ H2∧M[ixE H e]? = some p
  | [],_,_=>⟨[],.nil,hS.sub (List.nil_sublist _),by simp⟩
  | (e,x)::t,hn,hm=>by
    simp only [keysE,List.map_cons,nodupB,Bool.and_eq_true] at hn
    obtain ⟨M2,h1,h2,h3⟩:=St.selE hh hS (H2:=t) hn.2 fun e' x' h=>hm e' x' (by simp [h])
    have hx:=hm e x (by simp)
    obtain ⟨p,hp,hF⟩:=hh.get hx
    refine ⟨p::M2,.cons hF h1,⟨h2.os,h2.tape,h2.output,h2.size,h2.old,⟨⟨(hS.sep.get hp).1,(hS.sep.get hp).2,fun q hq b hb=>?_⟩,h2.sep⟩,h2.bor⟩,?_⟩
    · obtain ⟨e',x',h4,h5⟩:=h3 q hq
      have hne:e≠e':=fun he=>by
        subst he
        have:(t.map (·.1)).contains e=true:=by
          simp only [List.contains_iff_mem,List.mem_map]
          exact ⟨(e,x'),h4,rfl⟩
        rw [this] at hn
        simp at hn
      exact hS.sep.disj hp h5 (ixE_inj hx (hm e' x' (by simp [h4])) hne) b hb
    · intro q hq
      rcases List.mem_cons.1 hq with rfl | hq
      · exact ⟨e,x,by simp,hp⟩
      · obtain ⟨e',x',h4,h5⟩:=h3 q hq
        exact ⟨e',x',by simp [h4],h5⟩
theorem lkE_mem:∀ {H:List (Nat × Ent)} {e:Nat} {x:Ent},lkE H e=some x→(e,x) ∈ H
  | [],_,_,h=>by cases h
  | (k,y)::t,e,x,h=>by
    simp only [lkE] at h
    split at h
    · rename_i hb
      have:=Nat.eq_of_beq_eq_true hb
      subst this
      simp only [Option.some.injEq] at h
      subst h; simp
    · exact List.mem_cons_of_mem _ (lkE_mem h)
def pick (get:Nat→Option Ent):List Nat→List (Nat × Ent)
  | []=>[]
  | e::t=>match get e with
    | some x=>(e,x)::pick get t
    | none=>pick get t
theorem pick_mem {get:Nat→Option Ent}:∀ {l:List Nat} {e:Nat} {x:Ent},(e,x) ∈ pick get l→e ∈ l∧get e=some x
  | [],_,_,h=>by cases h
  | k::t,e,x,h=>by
    simp only [pick] at h
    split at h
    · rename_i y hy
      rcases List.mem_cons.1 h with h1 | h1
      · injection h1 with h1 h2; subst h1; subst h2; exact ⟨by simp,hy⟩
      · have:=pick_mem h1; exact ⟨by simp [this.1],this.2⟩
    · have:=pick_mem h; exact ⟨by simp [this.1],this.2⟩
theorem pick_keys {get:Nat→Option Ent}:∀ {l:List Nat} {e:Nat},e ∈ keysE (pick get l)→e ∈ l:=fun {l e} h=>by
  simp only [keysE,List.mem_map] at h
  obtain ⟨⟨e',x⟩,h1,rfl⟩:=h
  exact (pick_mem h1).1
theorem pick_nodup {get:Nat→Option Ent}:∀ {l:List Nat},nodupB l=true→nodupB (keysE (pick get l))=true
  | [],_=>rfl
  | k::t,h=>by
    simp only [nodupB,Bool.and_eq_true,Bool.not_eq_true'] at h
    have ih:=pick_nodup (get:=get) h.2
    simp only [pick]
    split
    · simp only [keysE,List.map_cons,nodupB,Bool.and_eq_true,Bool.not_eq_true']
      refine ⟨?_,ih⟩
      cases hc:((pick get t).map (·.1)).contains k with
      | false=>rfl
      | true =>
        have:k ∈ t:=pick_keys (by simpa [keysE] using hc)
        simp [this] at h
    · exact ih
theorem pick_lk {get:Nat→Option Ent}:∀ {l:List Nat} {e:Nat},e ∈ l→lkE (pick get l) e=get e
  | [],_,h=>by cases h
  | k::t,e,h=>by
    simp only [pick]
    by_cases he:k=e
    · subst he
      cases hg:get k with
      | some x=>simp only [lkE,Nat.beq_refl]
      | none =>
        simp only
        by_cases hk:k ∈ t
        · rw [pick_lk hk,hg]
        · cases hl:lkE (pick get t) k with
          | none=>rfl
          | some x=>exact absurd (pick_mem (lkE_mem hl)).1 hk
    · have ht:e ∈ t:=by
        rcases List.mem_cons.1 h with h1 | h1
        · exact absurd h1.symm he
        · exact h1
      have hb:Nat.beq k e=false:=by
        cases hb:Nat.beq k e with
        | false=>rfl
        | true=>exact absurd (Nat.eq_of_beq_eq_true hb) he
      cases hg:get k with
      | some x=>simp only [lkE,hb,pick_lk ht]
      | none=>simp only [pick_lk ht]
theorem lkE_app:∀ {H H':List (Nat × Ent)} {e:Nat},lkE (H++H') e=match lkE H e with
    | some x=>some x
    | none=>lkE H' e
  | [],_,_=>rfl
  | (k,y)::t,H',e=>by
    simp only [List.cons_append,lkE]
    split
    · rfl
    · exact lkE_app
theorem HR.app {F:Nat→Ent→Asr→Prop}:∀ {H M H' M'},HR F H M→HR F H' M'→HR F (H++H') (M++M')
  | _,_,_,_,.nil,h=>h
  | _,_,_,_,.cons a t,h=>.cons a (HR.app t h)
theorem HR.split {F:Nat→Ent→Asr→Prop}:∀ {H H' M},HR F (H++H') M→∃ M1 M2,M=M1++M2∧HR F H M1∧HR F H' M2
  | [],_,M,h=>⟨[],M,rfl,.nil,h⟩
  | (_,_)::t,H',_,.cons a h=>by
    obtain ⟨M1,M2,h1,h2,h3⟩:=HR.split h
    exact ⟨_::M1,M2,by rw [h1]; rfl,.cons a h2,h3⟩
theorem HR.monoM {F G:Nat→Ent→Asr→Prop}:∀ {H M},(∀ e ent p,(e,ent) ∈ H→F e ent p→G e ent p)→HR F H M→HR G H M
  | _,_,_,.nil=>.nil
  | _,_,h,.cons a t=>.cons (h _ _ _ (by simp) a) (HR.monoM (fun e ent p hm=>h e ent p (by simp [hm])) t)
end Go.RX
