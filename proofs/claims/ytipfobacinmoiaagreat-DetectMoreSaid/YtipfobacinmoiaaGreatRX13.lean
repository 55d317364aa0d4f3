/- Regions whose order is drawn: the main step, and the end. -/
import Derived.Test.YtipfobacinmoiaaGreatRX12
set_option linter.unusedVariables false
set_option linter.unusedSimpArgs false
namespace Go.RX
open Go Go.SL
section
variable {P:Program} {w0:World} {X:Nat→Prop} {B:List (Nat × Ent)} {n:Nat} {s:S} {ρ0:Env} {BM:List Asr} {ops:Array Oper} {rs:List OpR}
theorem nodup_app:∀ {a b:List Nat},nodupB a=true→nodupB b=true→(∀ e,e ∈ a→e ∉ b)→nodupB (a++b)=true
  | [],b,_,h,_=>h
  | k::t,b,h1,h2,h3=>by
    simp only [nodupB,Bool.and_eq_true,Bool.not_eq_true'] at h1
    simp only [List.cons_append,nodupB,Bool.and_eq_true,Bool.not_eq_true']
    refine ⟨?_,nodup_app h1.2 h2 fun e he=>h3 e (by simp [he])⟩
    cases hc:(t++b).contains k with
    | false=>rfl
    | true =>
      have hm:k ∈ t++b:=by simpa using hc
      rcases List.mem_append.1 hm with h | h
      · have:t.contains k=true:=by simpa using h
        rw [this] at h1; simp at h1
      · exact absurd h (h3 k (by simp))
theorem ER.name {ρ:Env} {e:Nat} {x:Ent} {p:Asr} (h:ER ρ e x p):∃ v,ρ e=some v:=by
  cases x with
  | cel l ty=>obtain ⟨b,cs,h1,_⟩:=h; exact ⟨_,h1⟩
  | arr ty k xs=>obtain ⟨v,ys,h1,_⟩:=h; exact ⟨_,h1⟩
  | loop z=>obtain ⟨l,rec,L,h1,_⟩:=h; exact ⟨_,h1⟩
  | mark=>obtain ⟨D,h1,_⟩:=h; exact ⟨_,h1⟩
  | map l=>obtain ⟨b,kvs,h1,_⟩:=h; exact ⟨_,h1⟩
  | gl g l ty=>obtain ⟨cs,h1,_⟩:=h; exact ⟨_,h1⟩
theorem cut_sub_self {k:Nat} {ρ:Env}:(ρ.cut k).sub ρ:=fun e v hv=>by
  have h1:e<k:=Env.lt hv
  rwa [Env.cut_lt h1] at hv
theorem keysE_app {H H':List (Nat × Ent)}:keysE (H++H')=keysE H++keysE H':=by simp [keysE]
theorem mem_keys {H:List (Nat × Ent)} {e:Nat} {x:Ent} (h:(e,x) ∈ H):e ∈ keysE H:=by
  simp only [keysE,List.mem_map]; exact ⟨_,h,rfl⟩
def Env.mix (ρ ρ':Env) (a b:Nat) (hb:b≤ρ.nx):Env:=⟨fun e=>match Nat.ble a e&&Nat.blt e b with
  | true=>ρ' e
  | false=>ρ e,ρ.nx,fun e he=>by
    have:(Nat.ble a e&&Nat.blt e b)=false:=by
      cases h:(Nat.ble a e&&Nat.blt e b) with
      | false=>rfl
      | true =>
        simp only [Bool.and_eq_true] at h
        have:e<b:=by simpa using h.2
        omega
    simp only [this]; exact ρ.dom e he⟩
theorem Env.mix_in {ρ ρ':Env} {a b e:Nat} {hb:b≤ρ.nx} (h1:a≤e) (h2:e<b):(ρ.mix ρ' a b hb) e=ρ' e:=by
  show (match Nat.ble a e&&Nat.blt e b with
    | true=>ρ' e
    | false=>ρ e)=_
  have:(Nat.ble a e&&Nat.blt e b)=true:=by simp [h1,h2]
  rw [this]
theorem Env.mix_out {ρ ρ':Env} {a b e:Nat} {hb:b≤ρ.nx} (h:¬ (a≤e∧e<b)):(ρ.mix ρ' a b hb) e=ρ e:=by
  show (match Nat.ble a e&&Nat.blt e b with
    | true=>ρ' e
    | false=>ρ e)=_
  have:(Nat.ble a e&&Nat.blt e b)=false:=by
    cases h2:(Nat.ble a e&&Nat.blt e b) with
    | false=>rfl
    | true =>
      simp only [Bool.and_eq_true] at h2
      exact absurd ⟨Nat.le_of_ble_eq_true h2.1,by simpa using h2.2⟩ h
  rw [this]
theorem upd_self {sel:Nat→Bool} {i:Nat}:upd sel i i=true:=by simp [upd,Nat.beq_refl]
theorem upd_ne {sel:Nat→Bool} {i j:Nat} (h:j≠i):upd sel i j=sel j:=by
  unfold upd
  cases hb:Nat.beq j i with
  | true=>exact absurd (Nat.eq_of_beq_eq_true hb) h
  | false=>rfl
theorem Recs.lastT_upd (h:Recs P B n ops s rs) {i:Nat} {r:OpR} {sel:Nat→Bool} {e:Nat} (hr:rs[i]? = some r) (hpost:∀ j,i ∈ preB ops j→sel j=false) (ht:r.touch e=true):lastT (upd sel i) e 0 none rs=some r:=by
  obtain ⟨o,ho,hg⟩:=h.get hr
  have hil:i<rs.length:=(List.getElem?_eq_some_iff.1 hr).1
  conv=>lhs; rw [← List.take_append_drop (i+1) rs]
  rw [lastT_app,lastT_none,take_succ' hr,lastT_app]
  · have:(rs.take i).length=i:=by rw [List.length_take]; omega
    simp only [this,lastT,Nat.zero_add,upd_self,ht,Bool.and_true]
  · intro j b hj htb
    have hlen:(rs.take (i+1)).length=i+1:=by rw [List.length_take]; omega
    rw [hlen,Nat.zero_add,upd_ne (by omega)]
    have hjb:rs[i+1+j]? = some b:=by rw [List.getElem?_drop] at hj; exact hj
    apply hpost
    have hp:=h.pair i (i+1+j) r b hr hjb (by omega)
    simp only [pairB,Bool.or_eq_true,Bool.and_eq_true,List.all_eq_true,Bool.not_eq_true'] at hp
    rcases hp with hp | hp
    · simpa using hp
    · exfalso
      have h3:=h.lt hr hjb (by omega)
      rcases touch_of htb with h1 | h1
      · have:=hp.1 e (by simp [h1])
        rw [ht] at this; cases this
      · have h4:=hg.le
        rcases touch_of ht with h2 | h2
        · have:=hg.lt e (.inl h2); omega
        · omega
theorem Recs.lastT_same (h:Recs P B n ops s rs) {i:Nat} {r:OpR} {sel:Nat→Bool} {e:Nat} (hr:rs[i]? = some r) (ht:r.touch e=false):lastT (upd sel i) e 0 none rs=lastT sel e 0 none rs:=by
  refine lastT_congr fun j b hj htb=>?_
  rw [Nat.zero_add]
  refine upd_ne fun hji=>?_
  subst hji
  rw [hr] at hj; injection hj with hj; subst hj
  rw [ht] at htb; cases htb
theorem mid_step {ds:List Deferred} (h:Recs P B n ops s rs) (hde:dfEq s.df s.df=true) (hdr:DR ρ0 s.df ds) (hB:HR (EB ρ0) B BM) (hρ:ρ0.nx=s.nx) {r0:Option Nat} {i:Nat} {o:Oper} {sel:Nat→Bool} {a:Act} {w:World} (ho:ops[i]? = some o) (hi:sel i=false) (hprd:∀ p ∈ preds o,sel p=true) (hpre:∀ p ∈ preB ops i,sel p=true) (hpost:∀ j,i ∈ preB ops j→sel j=false)
    (hm:Mid P w0 X n s ρ0 BM ops rs ds sel a w):O r0 P ops (fun e a' w'=>e=.normal∧(Kept o a a'→Mid P w0 X n s ρ0 BM ops rs ds (upd sel i) a' w')) [i] a w:=by
  obtain ⟨ρ,Hs,M,hfr,hold,hslot,hs,hr,hst,hlo,hfree,hnx⟩:=hm.ex
  obtain ⟨r,hri,hg⟩:=h.good i o ho
  have hil:i<rs.length:=(List.getElem?_eq_some_iff.1 hri).1
  have hdl:(rs.take i).length=i:=by rw [List.length_take]; omega
  obtain ⟨fr,s',hfrs,hstep,haft,hnx',hdf,hdst⟩:=hg.st
  rw [hdl] at hfrs
  have hbase:s.nx≤r.nx:=by rw [hg.nx]; exact h.base i
  have hdoi:dstOf ops i=o.dst:=by simp [dstOf,ho]
  have hsub0:ρ0.sub (ρ.cut r.nx):=fun e v hv=>by
    have h1:=Env.lt hv
    rw [hρ] at h1
    rw [Env.cut_lt (by omega),hlo e h1]; exact hv
  have hver:∀ e,e ∈ r.own∨e ∈ r.ro→ver s rs sel e=ver s (rs.take i) allT e:=fun e he=>by
    unfold ver; rw [h.lastT_eq hri hi hpre hpost he]
  have hbnd:∀ e,e ∈ r.own∨e ∈ r.ro→bnd s rs sel e≤r.nx:=fun e he=>by
    unfold bnd; rw [h.lastT_eq hri hi hpre hpost he]
    cases hl:lastT allT e 0 none (rs.take i) with
    | none=>exact hbase
    | some q =>
      rcases lastT_mem hl with h1 | ⟨j,h1,_,_⟩
      · cases h1
      · have hji:j<i:=by
          have:=(List.getElem?_eq_some_iff.1 h1).1
          omega
        rw [List.getElem?_take,if_pos hji] at h1
        exact h.lt h1 hri hji
  have hrange:∀ e x,lkE Hs e=some x→¬ (r.nx≤e∧e<r.nx'):=fun e x hx hc=>by
    obtain ⟨p,_,hp⟩:=hr.get hx
    obtain ⟨v,hv⟩:=ER.name hp
    have:=cut_sub_self _ _ hv
    rw [hfree i r e hri hi hc.1 hc.2] at this; cases this
  have hsel:=St.selE hr hst (H2:=pick (ver s (rs.take i) allT) r.own++pick (lkE Hs) (dd ((keysE Hs).filter fun e=>!r.own.contains e)))
    (by
      rw [keysE_app]
      refine nodup_app (pick_nodup hg.nd.1) (pick_nodup (dd_nodup _)) fun e h1 h2=>?_
      have h1:=pick_keys h1
      have h2:=(List.mem_filter.1 (mem_dd.1 (pick_keys h2))).2
      have h3:r.own.contains e=true:=by simpa using h1
      rw [h3] at h2; cases h2)
    (by
      intro e x hx
      rcases List.mem_append.1 hx with h1 | h1
      · obtain ⟨h2,h3⟩:=pick_mem h1
        rw [hs,hver e (.inl h2)]; exact h3
      · exact (pick_mem h1).2)
  obtain ⟨M2,hM2,hst2,_⟩:=hsel
  obtain ⟨Mo,Mx,rfl,hMo,hMx⟩:=HR.split hM2
  have hrest:∀ e x,lkE Hs e=some x→e ∉ r.own→lkE (pick (lkE Hs) (dd ((keysE Hs).filter fun e=>!r.own.contains e))) e=some x:=fun e x hx hn=>by
    have:e ∈ dd ((keysE Hs).filter fun e=>!r.own.contains e):=by
      rw [mem_dd,List.mem_filter]
      refine ⟨mem_keys (lkE_mem hx),?_⟩
      simpa using hn
    rw [pick_lk this]; exact hx
  have hrestm:∀ e x,(e,x) ∈ pick (lkE Hs) (dd ((keysE Hs).filter fun e=>!r.own.contains e))→lkE Hs e=some x∧e ∉ r.own∧r.touch e=false:=fun e x hx=>by
    obtain ⟨h1,h2⟩:=pick_mem hx
    have h3:=(List.mem_filter.1 (mem_dd.1 h1)).2
    have h4:e ∉ r.own:=fun hc=>by
      have:r.own.contains e=true:=by simpa using hc
      rw [this] at h3; cases h3
    refine ⟨h2,h4,?_⟩
    cases ht:r.touch e with
    | false=>rfl
    | true =>
      rcases touch_of ht with h5 | h5
      · exact absurd h5 h4
      · exact absurd h5 (hrange e x h2)
  obtain ⟨L,hFR,hFr⟩:=frame_of (ρ:=ρ.cut r.nx) (fr:=fr) hfr fun q u hq=>by
    have hq:=hfrs q u hq
    unfold slotV at hq
    split at hq
    · rename_i p hp
      obtain ⟨h1,h2⟩:=findP_some hp
      obtain ⟨rp,h3,h4⟩:=Option.bind_eq_some_iff.1 hq
      have hpi:p<i:=by
        have:=(List.getElem?_eq_some_iff.1 h3).1
        omega
      rw [List.getElem?_take,if_pos hpi] at h3
      have hpp:p ∈ preds o:=by simpa [predsAt,ho] using h1
      obtain ⟨u',v,h5,h6,h7⟩:=hslot p rp q (hprd p hpp) h3 h2
      rw [h4] at h5; injection h5 with h5; subst h5
      exact ⟨v,h6,h7.monoS (Env.cut_sub (h.lt h3 hri hpi))⟩
    · split at hq
      · rename_i hob
        obtain ⟨v,h1,h2⟩:=hold q u hq fun j hj=>by
          have hjs:j<ops.size:=by
            rcases Nat.lt_or_ge j ops.size with h' | h'
            · exact h'
            · simp [dstOf,Array.getElem?_eq_none h'] at hj
          have h3:=List.all_eq_true.1 hob j (by simpa using hjs)
          simp only [hj,Nat.beq_refl,Bool.not_true,Bool.false_or,Bool.or_eq_true] at h3
          rcases h3 with h3 | h3
          · rw [Nat.eq_of_beq_eq_true h3]; exact hi
          · exact hpost j (by simpa using h3)
        exact ⟨v,h1,h2.monoS hsub0⟩
      · cases hq
  obtain ⟨BMr,hBMr,hBr⟩:=lend_all (ρ:=ρ.cut r.nx) hMx (hst2.sub (List.sublist_append_right _ _)) (H2:=pick (ver s (rs.take i) allT) r.ro) fun e x hx=>by
    obtain ⟨h1,h2⟩:=pick_mem hx
    refine ⟨hrest e x (by rw [hs,hver e (.inr h1)]; exact h2) (hg.dj e h1),fun p hp=>hp.monoS (Env.cut_sub (hbnd e (.inr h1)))⟩
  have hap:=Sep.apart2 hst2.sep
  have hstm:St w w (fun b=>∃ p ∈ Mo,p.fp b) (BMr++BM) Mo:=by
    refine ⟨rfl,rfl,rfl,Nat.le_refl _,fun _ _ _=>rfl,Sep.left hst2.sep fun p hp b hb=>.inl ⟨p,hp,hb⟩,fun p hp=>?_⟩
    rcases List.mem_append.1 hp with hp | hp
    · obtain ⟨h1,h2⟩:=hBr p hp
      refine ⟨h1,fun b hb=>?_⟩
      obtain ⟨q,hq,hqb⟩:=h2 b hb
      refine ⟨((Sep.mem hst2.sep (by simp [hq])).2 b hqb).1,?_⟩
      rintro ⟨p',hp',hb'⟩
      exact hap p' hp' q hq b hb' hqb
    · obtain ⟨h1,h2⟩:=hst2.bor p hp
      refine ⟨p.loc _ _ (fun b hb=>hst2.old b (h2 b hb).1 (h2 b hb).2) h1,fun b hb=>⟨Nat.lt_of_lt_of_le (h2 b hb).1 hst2.size,?_⟩⟩
      rintro ⟨p',hp',hb'⟩
      rcases ((Sep.mem hst2.sep (by simp [hp'])).2 b hb').2 with h3 | h3
      · exact (h2 b hb).2 h3
      · have:=(h2 b hb).1; omega
  have hRl:Rl w (fun b=>∃ p ∈ Mo,p.fp b) (pick (ver s (rs.take i) allT) r.ro++B) n ⟨fr,pick (ver s (rs.take i) allT) r.own,r.nx,s.df⟩ (ρ.cut r.nx) L (BMr++BM) Mo ds a w :=
    ⟨rfl,hFR,hBMr.app (hB.mono fun _ _ _ h=>h.monoS hsub0),hMo.monoM fun e x p hx hp=>hp.monoS (Env.cut_sub (hbnd e (.inl (pick_mem hx).1))),hdr.monoS hsub0,hFr,hstm⟩
  refine hstep r0 w _ _ L _ Mo ds a w hRl _ i [] ho ?_
  intro ρ' L' M' ds' a' w' hle hR
  refine O.nil ⟨rfl,fun hk=>?_⟩
  have hds:ds=ds':=by
    have h1:=hR.df
    rw [hdf] at h1
    exact DR.uniq hde ((hdr.monoS hsub0).mono hle) h1
  subst hds
  have hend:r.nx'≤ρ.nx:=by
    rw [hnx]
    have:=(h.chain rs.length i r hri hil).1
    rwa [List.take_of_length_le (Nat.le_refl _)] at this
  have hrn:ρ'.nx=r.nx':=hR.dom.trans hnx'
  have sub1:ρ'.sub ((ρ.mix ρ' r.nx r.nx' hend).cut r.nx'):=fun e v hv=>by
    have h1:=Env.lt hv
    rw [hrn] at h1
    rw [Env.cut_lt h1]
    by_cases h2:r.nx≤e
    · rw [Env.mix_in h2 h1]; exact hv
    · rw [Env.mix_out (by omega)]
      have:=hle.eq e (by show e<r.nx; omega)
      rw [Env.cut_lt (by omega)] at this
      rw [← this]; exact hv
  have sub2:∀ k,(ρ.cut k).sub ((ρ.mix ρ' r.nx r.nx' hend).cut k):=fun k e v hv=>by
    have h1:e<k:=Env.lt hv
    rw [Env.cut_lt h1] at hv ⊢
    rw [Env.mix_out]; exact hv
    rintro ⟨h2,h3⟩
    rw [hfree i r e hri hi h2 h3] at hv; cases hv
  have hks:∀ e x,(e,x) ∈ s'.H→r.touch e=true:=fun e x hx=>hg.ks e (by rw [← haft]; exact mem_keys hx)
  refine ⟨ρ.mix ρ' r.nx r.nx' hend,s'.H++pick (lkE Hs) (dd ((keysE Hs).filter fun e=>!r.own.contains e)),M'++Mx,⟨hR.act.size,hR.act.defers,fun k v hk=>by simp [lk] at hk⟩,?_,?_,?_,?_,?_,?_,?_,hnx⟩
  · intro q u hq hno
    have hne:o.dst≠some q:=fun e=>by
      have:=hno i (hdoi.trans e)
      rw [upd_self] at this; cases this
    obtain ⟨v,h1,h2⟩:=hold q u hq fun j hj=>by
      have hji:j≠i:=fun e=>by subst e; exact hne (hdoi.symm.trans hj)
      rw [← upd_ne (sel:=sel) hji]; exact hno j hj
    exact ⟨v,by rw [hk q hne]; exact h1,h2⟩
  · intro j r' d hj hjr hjd
    by_cases hji:j=i
    · subst hji
      rw [hri] at hjr; injection hjr with hjr; subst hjr
      obtain ⟨u,h1,h2⟩:=hdst d (hdoi.symm.trans hjd)
      obtain ⟨v,h3,h4⟩:=hR.fr d u h2
      exact ⟨u,v,h1,hR.act.get d v h3,h4.monoS sub1⟩
    · rw [upd_ne hji] at hj
      obtain ⟨u,v,h1,h2,h3⟩:=hslot j r' d hj hjr hjd
      have hne:o.dst≠some d:=fun e=>hji (dst_inj h.dist hjd (hdoi.trans e))
      exact ⟨u,v,h1,by rw [hk d hne]; exact h2,h3.monoS (sub2 _)⟩
  · intro e
    rw [lkE_app]
    cases ht:r.touch e with
    | true =>
      have h1:ver s rs (upd sel i) e=lkE s'.H e:=by
        unfold ver; rw [h.lastT_upd hri hpost ht,haft]; rfl
      rw [h1]
      cases hx:lkE s'.H e with
      | some x=>rfl
      | none =>
        simp only
        cases hy:lkE (pick (lkE Hs) (dd ((keysE Hs).filter fun e=>!r.own.contains e))) e with
        | none=>rfl
        | some y =>
          have:=(hrestm e y (lkE_mem hy)).2.2
          rw [ht] at this; cases this
    | false =>
      have h1:lkE s'.H e=none:=by
        cases hx:lkE s'.H e with
        | none=>rfl
        | some x =>
          have:=hks e x (lkE_mem hx)
          rw [ht] at this; cases this
      rw [h1]
      have h2:ver s rs (upd sel i) e=ver s rs sel e:=by
        unfold ver; rw [h.lastT_same hri ht]
      rw [h2,← hs]
      have hno:e ∉ r.own:=fun hc=>by rw [own_touch hc] at ht; cases ht
      cases hx:lkE Hs e with
      | some x=>exact hrest e x hx hno
      | none =>
        cases hy:lkE (pick (lkE Hs) (dd ((keysE Hs).filter fun e=>!r.own.contains e))) e with
        | none=>rfl
        | some y =>
          have:=(hrestm e y (lkE_mem hy)).1
          rw [hx] at this; cases this
  · refine HR.app (hR.hm.monoM fun e x p hx hp=>?_) (hMx.monoM fun e x p hx hp=>?_)
    · have h1:bnd s rs (upd sel i) e=r.nx':=by
        unfold bnd; rw [h.lastT_upd hri hpost (hks e x hx)]; rfl
      rw [h1]; exact hp.monoS sub1
    · have h1:bnd s rs (upd sel i) e=bnd s rs sel e:=by
        unfold bnd; rw [h.lastT_same hri (hrestm e x hx).2.2]
      rw [h1]; exact hp.monoS (sub2 _)
  · refine hst2.callX hR.st.noB (fun b hb=>?_) (List.sublist_append_right _ _) (fun p hp b hb=>?_)
    · obtain ⟨p,h1,h2⟩:=hb
      exact ⟨p,by simp [h1],h2⟩
    · rintro ⟨p',h1,h2⟩
      exact hap p' h1 p hp b h2 hb
  · intro e he
    rw [Env.mix_out (by omega)]; exact hlo e he
  · intro j r' e hj hsj h1 h2
    have hji:j≠i:=fun e=>by rw [e,upd_self] at hsj; cases hsj
    rw [upd_ne hji] at hsj
    rw [Env.mix_out]
    · exact hfree j r' e hj hsj h1 h2
    · rintro ⟨h3,h4⟩
      rcases Nat.lt_or_gt_of_ne hji with h5 | h5
      · have:=h.lt hj hri h5; omega
      · have:=h.lt hri hj h5; omega
theorem hdraw_ok {wrF:FuncId→Bool} {T:Tab} (hT:TabOK P T):DrwOK P (fun B n ops s=>(hdraw P wrF n ops).run B T s):=by
  intro r0 w0 X B n id ops s
  simp only [hdraw]
  split
  · exact R.Ok.fail
  · rename_i hb
    simp only [Bool.and_eq_true] at hb
    obtain ⟨⟨⟨hmo,hord⟩,hnd⟩,hdist⟩:=hb
    have hvb:=vBm_mk ops
    simp only
    split
    · exact R.Ok.fail
    · rename_i hdf0
      rw [Bool.and_eq_true] at hdf0
      have hdf:=hdf0.1
      refine (hdL_ok hT hdist ops.toList [] ⟨s.fr,s.H,s.nx,[],true,s.df⟩ (fun k o hk=>by simpa using hk) ⟨fun q u h=>.inr ⟨h,fun j hj=>by simp at hj⟩,fun e=>rfl,rfl,rfl,(fun _ r h=>by cases h),rfl,boundB_ok hdf0.2⟩).andThen fun z hz=>?_
      obtain ⟨rs,h1,_,h3,hinv⟩:=hz
      split
      · exact R.Ok.fail
      · rename_i hq
        have hpair:∀ i j a b,rs[i]? = some a→rs[j]? = some b→i<j→pairB ops i a j b=true:=fun i j a b ha hb hij=>by
          simp only [Bool.or_eq_true] at hq
          rcases hq with hq | hq
          · exact pairs_quiet (hinv.qt hq a (List.mem_of_getElem? ha)) (hinv.qt hq b (List.mem_of_getElem? hb))
          · rw [hinv.rs] at hq
            simpa using pairsB_ok hq i j a b ha hb hij
        have hrec:Recs P B n ops s rs:=⟨by simpa using h1,fun i o ho=>by simpa using h3 i o (by simpa using ho),hpair,hdist⟩
        refine R.Ok.pure ?_
        intro ρ L BM M ds a w h Q K
        have hN:s.nx≤curNx s rs:=by
          have:=hrec.base rs.length
          rwa [List.take_of_length_le (Nat.le_refl _)] at this
        refine W.drawG (Mid P w0 X n s ρ BM ops rs ds) (by simpa using hmo) hord hnd hvb ?_ (fun i o sel a w ho hi hprd hpre hpost hm=>mid_step hrec hdf h.df h.hb h.dom ho hi hprd hpre hpost hm) ?_
        · refine ⟨⟨ρ.get,curNx s rs,fun e he=>ρ.dom e (by rw [h.dom]; omega)⟩,s.H,M,⟨h.act.size,h.act.defers,fun k v hk=>by simp [lk] at hk⟩,?_,?_,?_,?_,h.st.drew,fun _ _=>rfl,?_,rfl⟩
          · intro q u hq _
            obtain ⟨v,h4,h5⟩:=h.fr q u hq
            exact ⟨v,h.act.get q v h4,h5⟩
          · intro j r d hj; cases hj
          · intro e
            unfold ver; rw [lastT_none (fun _ _ _ _=>rfl)]; rfl
          · refine h.hm.mono fun e x p hp=>?_
            have:bnd s rs (fun _=>false) e=s.nx:=by unfold bnd; rw [lastT_none (fun _ _ _ _=>rfl)]; rfl
            rw [this]
            refine hp.monoS fun e v hv=>?_
            have h6:=Env.lt hv
            rw [h.dom] at h6
            rw [Env.cut_lt h6]; exact hv
          · intro j r e hj _ h4 _
            obtain ⟨o,_,hg⟩:=hrec.get hj
            have:=hrec.base j
            have:=hg.nx
            exact ρ.dom e (by rw [h.dom]; omega)
        · intro sel a' w' hall hm
          obtain ⟨ρ',Hs,M',hfr,hold,hslot,hs,hr,hst,hlo,hfree,hnx⟩:=hm.ex
          have hsel:∀ j r,rs[j]? = some r→sel j=true:=fun j r hj=>hall j (by rw [← hrec.len]; exact (List.getElem?_eq_some_iff.1 hj).1)
          have hver:∀ e,ver s rs sel e=ver s rs allT e:=fun e=>by
            unfold ver
            rw [lastT_congr (sel':=allT) fun j r hj _=>by rw [Nat.zero_add,hsel j r hj]; rfl]
          obtain ⟨L',hFR,hFr⟩:=frame_of (ρ:=ρ') (fr:=z.mf) hfr fun q u hq=>by
            rcases hinv.mf q u hq with ⟨j,r,h4,h5,h6⟩ | ⟨hq,hno⟩
            ·
              obtain ⟨u2,v,h7,h8,h9⟩:=hslot j r q (hsel j r h4) h4 h5
              rw [h6] at h7; injection h7 with h7; subst h7
              exact ⟨v,h8,h9.monoS cut_sub_self⟩
            · obtain ⟨v,h4,h5⟩:=hold q u hq fun j hj=>by
                exfalso
                have hjs:j<ops.size:=by
                  rcases Nat.lt_or_ge j ops.size with h' | h'
                  · exact h'
                  · simp [dstOf,Array.getElem?_eq_none h'] at hj
                exact hno j (by rw [hrec.len]; exact hjs) hj
              refine ⟨v,h4,h5.monoS fun e v hv=>?_⟩
              have h6:=Env.lt hv
              rw [h.dom] at h6
              rw [hlo e h6]; exact hv
          obtain ⟨M2,hM2,hst2,_⟩:=St.selE hr hst (H2:=endH z.H) endH_ok.1 fun e x hx=>by
            rw [hs,hver,← hinv.H]; exact endH_ok.2 e x hx
          refine K ρ' L' M2 ds a' w' ⟨by rw [h.dom,hnx]; exact hN,fun e he=>hlo e (by rw [h.dom] at he; exact he)⟩ ⟨hnx.trans hinv.nx.symm,hFR,h.hb.mono fun _ _ _ hp=>hp.monoS fun e v hv=>?_,hM2.mono fun _ _ _ hp=>hp.monoS cut_sub_self,h.df.monoS (fun e v hv=>?_),hFr,hst2⟩
          · have h6:=Env.lt hv
            rw [h.dom] at h6
            rw [hlo e h6]; exact hv
          · have h6:=Env.lt hv
            rw [h.dom] at h6
            rw [hlo e h6]; exact hv
end
end Go.RX
