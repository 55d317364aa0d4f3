/- Part of a proof: laws and walks. -/
import Derived.Test.YtgakdmmmljdpjaaDoorTao
import Derived.Test.YtgakdmmmljdpjaaDoorTal
set_option linter.unusedVariables false
set_option linter.unusedSimpArgs false
namespace Go.SL
open Go
section
variable {T:Type} [Inhabited T] {P:Program} {w:World} {n:Nat} {ds:List Deferred} {L:List (Nat × Value)} {ty t:TypeId} {x:Operand} {v u:Value} {enc:T→List Value} {l:List T} {sz q j o:Nat}
end
section
variable {l:List Ch} {S S2:List PG} {us:List Bool} {n k:Nat} {e:Int}
end
end Go.SL

namespace Go.Proofs.YtgakdmmmljdpjaaDoor
open Go Go.SL
theorem great_false (vl:Value) (l:List Ch) (w0:World) (hl:rdOK (hp w0) 12 vl l.length (encs eC l)) (h:l.length≤25) :
    Ret Tryd.prog 10 #[vl] w0 (G:=Unit) (fun _=>.bool false) (fun _ w=>St w0 w noX [] []):=by
  have h1:=great_spec vl l w0 hl
  have h2:greatM l.length=false:=by
    unfold greatM
    rw [decide_eq_false (p:=(l.length:Int)>25) (by omega),decide_eq_false (p:=(l.length:Int)>510) (by omega)]
    rfl
  rw [h2] at h1
  exact h1
end Go.Proofs.YtgakdmmmljdpjaaDoor

namespace Go.Proofs.YtgakdmmmljdpjaaDoor
open Go Go.SL
theorem C_ok_10:callOK Tryd.prog 10=true:=by kernel_rfl
theorem C_ok_11:callOK Tryd.prog 11=true:=by kernel_rfl
theorem C_ok_14:callOK Tryd.prog 14=true:=by kernel_rfl
end Go.Proofs.YtgakdmmmljdpjaaDoor

namespace Go.SL
open Go
def whoM (l:List Ch) (d:Dg):Except Int PG :=
  match histM l with
  | .error e=>.error e
  | .ok (S,_)=>if okD d=true then (match findG S d with | none=>.error 6 | some p=>.ok p) else .error 8
def appM (l:List Ch) (c:Ch):Except Int (List PG × List Bool) :=
  match histM l with
  | .error e=>.error e
  | .ok _=>if okC c=true then histM (l++[c]) else .error 8
section
variable {l:List Ch} {d a b:Dg} {c:Ch} {e:Int} {p x y:PG} {S S2:List PG} {us us2:List Bool}
theorem whoM_ne (h:whoM l d=.error e):e≠0:=by
  unfold whoM at h
  cases hm:histM l with
  | error e'=>rw [hm] at h; cases h; exact histM_ne hm
  | ok r =>
    obtain ⟨S,us⟩:=r
    rw [hm] at h
    simp only at h
    split at h
    · cases hf:findG S d with
      | none=>rw [hf] at h; cases h; decide
      | some p=>rw [hf] at h; cases h
    · cases h; decide
theorem appM_ne (h:appM l c=.error e):e≠0:=by
  unfold appM at h
  cases hm:histM l with
  | error e'=>rw [hm] at h; cases h; exact histM_ne hm
  | ok r =>
    rw [hm] at h
    simp only at h
    split at h
    · exact histM_ne h
    · cases h; decide
theorem whoM_ok (h:whoM l d=.ok p):∃ S us,histM l=.ok (S,us)∧okD d=true∧findG S d=some p:=by
  unfold whoM at h
  cases hm:histM l with
  | error e'=>rw [hm] at h; cases h
  | ok r =>
    obtain ⟨S,us⟩:=r
    rw [hm] at h
    simp only at h
    split at h
    · rename_i hd
      cases hf:findG S d with
      | none=>rw [hf] at h; cases h
      | some q=>rw [hf] at h; cases h; exact ⟨S,us,rfl,hd,hf⟩
    · cases h
theorem whoM_mk (hm:histM l=.ok (S,us)) (hd:okD d=true) (hf:findG S d=some p):whoM l d=.ok p:=by
  unfold whoM; rw [hm]; simp only; rw [if_pos hd,hf]
theorem appM_ok (h:appM l c=.ok (S2,us2)):∃ S us,histM l=.ok (S,us)∧okC c=true∧histM (l++[c])=.ok (S2,us2):=by
  unfold appM at h
  cases hm:histM l with
  | error e'=>rw [hm] at h; cases h
  | ok r =>
    obtain ⟨S,us⟩:=r
    rw [hm] at h
    simp only at h
    split at h
    · rename_i hc; exact ⟨S,us,rfl,hc,h⟩
    · cases h
theorem hist_snoc (hm:histM l=.ok (S,us)) (hc:okC c=true) (hk:c.kind≠4) (hl:l.length<500) :
    histM (l++[c])=(match stepM S c with | .error e=>.error e | .ok S2=>.ok (S2,us++[false])):=by
  obtain ⟨h1,h2,h3,h4⟩:=hist_parts hm
  have hu:=undoK_len h3
  have hlen:(l++[c]).length=l.length+1:=by simp
  have h5:undoK (l++[c]) (l++[c]).length=.ok (us++[false]):=by
    rw [hlen]
    exact undo_skip (undoK_snoc hm) (by rw [snoc_getD]; exact hk)
  have h6:playK (l++[c]) (us++[false]) l.length=.ok S:=(playM_snoc fun j hj=>getD_app (by omega)).trans h4
  have h7:playM (l++[c]) (us++[false])=stepM S c:=by
    unfold playM
    rw [hlen]
    have:=playK_do h6 (by rw [snoc_getD]; exact hk) (by simp [List.getD_eq_getElem?_getD,← hu])
    rw [snoc_getD] at this
    exact this
  cases hs:stepM S c with
  | error e=>exact hist_play (by omega) (all_snoc h2 hc) h5 (h7.trans hs)
  | ok S2=>exact hist_ok (by omega) (all_snoc h2 hc) h5 (h7.trans hs)
def joinC (a b:Dg):Ch:=⟨2,a,b,0⟩
theorem okC_join:okC (joinC a b)=(okD a&&okD b&&!decide (a=b)):=by
  unfold okC joinC
  simp
theorem step_join:stepM S (joinC a b)=joinM S (joinC a b):=by
  exact (if_neg (show ¬ (joinC a b).kind=1 from (by decide:¬ (2:Int)=1))).trans (if_pos rfl)
def sameP (x y:PG):Prop:=objP x=objP y∨(0<(objP x).1.num∧0<(objP y).1.num)
theorem joined_err (hl:l.length<500) (hx:whoM l a=.ok x) (hy:whoM l b=.ok y) (h:appM l (joinC a b)=.error e):sameP x y:=by
  obtain ⟨S,us,hm,ha,hfa⟩:=whoM_ok hx
  obtain ⟨S',us',hm',hb,hfb⟩:=whoM_ok hy
  rw [hm] at hm'
  cases hm'
  have hw:=wf_hist hm
  unfold appM at h
  rw [hm] at h
  simp only at h
  rw [okC_join,ha,hb] at h
  by_cases hab:a=b
  · subst hab
    rw [hfa] at hfb
    cases hfb
    exact .inl rfl
  · rw [decide_eq_false hab,if_pos (by rfl),hist_snoc hm (by rw [okC_join,ha,hb,decide_eq_false hab]; rfl) (show (2:Int)≠4 by decide) hl,step_join] at h
    by_cases h2:x=y∨(x.2&&y.2)=true
    · rcases h2 with h2 | h2
      · rw [h2]; exact .inl rfl
      · rw [Bool.and_eq_true] at h2
        exact .inr ⟨num_head (hw.2 x (findG_mem hfa).1) h2.1,num_head (hw.2 y (findG_mem hfb).1) h2.2⟩
    · have hj:joinM S (joinC a b)=.ok (merged x y::S.filter (fun g=>!decide ((joinC a b).b ∈ g.1)&&!decide ((joinC a b).a ∈ g.1))):=by
        unfold joinM
        rw [show (joinC a b).a=a from rfl,show (joinC a b).b=b from rfl,hfa,hfb]
        exact if_neg h2
      rw [hj] at h
      cases h
theorem nd_count {T:Type} [BEq T] [LawfulBEq T] {x:T}:∀ {l:List T},l.Nodup→x ∈ l→l.count x=1
  | y::t,hn,hx=>by
    rw [List.nodup_cons] at hn
    rcases List.mem_cons.1 hx with rfl | hx
    · rw [List.count_cons_self,List.count_eq_zero.2 hn.1]
    · rw [List.count_cons_of_ne (fun e=>hn.1 (by rw [e]; exact hx)),nd_count hn.2 hx]
def cntC (As Bs:List PO):Nat:=(As.map fun x=>Bs.count x).sum
theorem cntC_perm {As As' Bs Bs':List PO} (h1:As.Perm As') (h2:Bs.Perm Bs'):cntC As Bs=cntC As' Bs':=by
  unfold cntC
  rw [(h1.map _).sum_nat]
  congr 1
  exact List.map_congr_left fun x _=>h2.count_eq x
theorem join_count (hw:wfS S) (hx:findG S a=some x) (hy:findG S b=some y) (rest:List PG) (hp:S.Perm (x::y::rest)) (h2:wfS (merged x y::rest)):cntC (objsM S) (objsM (merged x y::rest))=rest.length:=by
  rw [cntC_perm objsM_perm' objsM_perm',cntC_perm (hp.map objP) (List.Perm.refl _)]
  have hwp:=wfS_perm hp hw
  have hap:=hwp.1
  unfold apartS at hap
  rw [List.pairwise_cons] at hap
  obtain ⟨hap1,hap2⟩:=hap
  rw [List.pairwise_cons] at hap2
  obtain ⟨hap2,_⟩:=hap2
  have hxa:=(findG_mem hx).2
  have hyb:=(findG_mem hy).2
  have hmem:∀ g:PG,g.1≠[]→∀ g':PG,objP g=objP g'→∀ d ∈ g.1,d ∈ g'.1:=fun g hg g' he d hd=>by
    have:sortDs g.1=sortDs g'.1:=congrArg Prod.snd he
    exact sort_mem.1 (this▸sort_mem.2 hd)
  have hmx:∀ d ∈ x.1,d ∈ (merged x y).1:=fun d hd=>(merged_perm x y).mem_iff.2 (List.mem_append_left _ hd)
  have hmy:∀ d ∈ y.1,d ∈ (merged x y).1:=fun d hd=>(merged_perm x y).mem_iff.2 (List.mem_append_right _ hd)
  have h0:∀ g:PG,g.1≠[]→(∀ r ∈ rest,∀ d ∈ g.1,d ∉ r.1)→(∃ d ∈ (merged x y).1,d ∉ g.1)→((merged x y::rest).map objP).count (objP g)=0:=fun g hg hr ⟨d,hd,hdn⟩=>by
    rw [List.count_eq_zero]
    intro hm
    obtain ⟨q,hq,he⟩:=List.mem_map.1 hm
    rcases List.mem_cons.1 hq with rfl | hq
    · exact hdn (hmem (merged x y) (h2.2 _ List.mem_cons_self).1 g he d hd)
    · obtain ⟨d',hd'⟩:=List.exists_mem_of_ne_nil _ hg
      exact hr q hq d' hd' (hmem g hg q he.symm d' hd')
  have hnx:b ∉ x.1:=fun h=>hap1 y (by simp) b h hyb
  have hny:a ∉ y.1:=fun h=>hap1 y (by simp) a hxa h
  have c1:=h0 x (hwp.2 x (by simp)).1 (fun r hr d hd=>hap1 r (by simp [hr]) d hd) ⟨b,hmy b hyb,hnx⟩
  have c2:=h0 y (hwp.2 y (by simp)).1 (fun r hr d hd=>hap2 r hr d hd) ⟨a,hmx a hxa,hny⟩
  have hnd:((merged x y::rest).map objP).Nodup:=by
    rw [List.nodup_iff_pairwise_ne,List.pairwise_map]
    refine List.Pairwise.imp_of_mem ?_ h2.1
    intro g g' hg hg' hab he
    obtain ⟨d',hd'⟩:=List.exists_mem_of_ne_nil _ (h2.2 g hg).1
    exact hab d' hd' (hmem g (h2.2 g hg).1 g' he d' hd')
  have c3:∀ r ∈ rest,((merged x y::rest).map objP).count (objP r)=1:=fun r hr=>nd_count hnd (List.mem_map.2 ⟨r,List.mem_cons_of_mem _ hr,rfl⟩)
  obtain ⟨Q,hQ⟩:∃ Q,Q=(merged x y::rest).map objP:=⟨_,rfl⟩
  rw [← hQ] at c1 c2 c3 ⊢
  have h5:∀ t:List PG,(∀ r ∈ t,r ∈ rest)→cntC (t.map objP) Q=t.length:=fun t=>by
    induction t with
    | nil=>intro _; rfl
    | cons r t ih =>
      intro h
      have h6:=ih fun q hq=>h q (List.mem_cons_of_mem _ hq)
      have h7:=c3 r (h r List.mem_cons_self)
      unfold cntC at h6 ⊢
      simp only [List.map_cons,List.sum_cons,List.length_cons]
      omega
  have h6:=h5 rest (fun _ h=>h)
  unfold cntC at h6 ⊢
  simp only [List.map_cons,List.sum_cons]
  omega
structure JoinedR (l:List Ch) (a b:Dg) (S S2:List PG) (x y z:PG):Prop where
  wz:whoM (l++[joinC a b]) a=.ok z
  wv:whoM (l++[joinC a b]) b=.ok z
  len:(sortDs z.1).length=(sortDs x.1).length+(sortDs y.1).length
  siz:S2.length+1=S.length
  cnt:cntC (objsM S) (objsM S2)+1=S2.length
theorem joined_ok (hl:l.length<500) (h:appM l (joinC a b)=.ok (S2,us2)):∃ S us x y z,histM l=.ok (S,us)∧okC (joinC a b)=true∧histM (l++[joinC a b])=.ok (S2,us2)∧whoM l a=.ok x∧whoM l b=.ok y∧JoinedR l a b S S2 x y z:=by
  obtain ⟨S,us,hm,hc,hm2⟩:=appM_ok h
  have hw:=wf_hist hm
  have hw2:=wf_hist hm2
  have hc':=hc
  rw [okC_join,Bool.and_eq_true,Bool.and_eq_true] at hc'
  have h3:=hist_snoc hm hc (show (2:Int)≠4 by decide) hl
  rw [hm2,step_join] at h3
  cases hj:joinM S (joinC a b) with
  | error e=>rw [hj] at h3; cases h3
  | ok T =>
    rw [hj] at h3
    cases h3
    obtain ⟨x,y,rest,hfa,hfb,hp,rfl,hxa,hyb,hn⟩:=join_parts hw.1 hj
    have hfa:findG S a=some x:=hfa
    have hfb:findG S b=some y:=hfb
    have hza:a ∈ (merged x y).1:=(merged_perm x y).mem_iff.2 (List.mem_append_left _ hxa)
    have hzb:b ∈ (merged x y).1:=(merged_perm x y).mem_iff.2 (List.mem_append_right _ hyb)
    have hcnt:=join_count hw hfa hfb rest hp hw2
    refine ⟨S,us,x,y,merged x y,hm,hc,hm2,whoM_mk hm hc'.1.1 hfa,whoM_mk hm hc'.1.2 hfb,whoM_mk hm2 hc'.1.1 (find_some hw2.1 List.mem_cons_self hza),whoM_mk hm2 hc'.1.2 (find_some hw2.1 List.mem_cons_self hzb),?_,?_,?_⟩
    · rw [sort_len,sort_len,sort_len,(merged_perm x y).length_eq,List.length_append]
    · rw [hp.length_eq]; simp
    · rw [hcnt]; simp
end
end Go.SL

namespace Go.Proofs.YtgakdmmmljdpjaaDoor
open Go Go.SL
section
variable (vl:Value) (l:List Ch) (d:Dg) (c:Ch) (w0:World) (hG:Lent w0 ordA) (hl:rdOK (hp w0) 12 vl l.length (encs eC l)) (hfit:vfit vl)
include hG hl hfit
theorem whoE (e:Int) (h:whoM l d=.error e):Ret Tryd.prog 19 #[vl,dV d] w0 (G:=Unit) (fun _=>.tuple #[oV ⟨0,0,0,0,0⟩ (.slice none 0 0),.int .i64 e]) (fun _ w=>St w0 w noX [] []):=by
  unfold whoM at h
  cases hm:histM l with
  | error e'=>rw [hm] at h; cases h; exact who_err vl l d w0 hG hl hfit e hm
  | ok r =>
    obtain ⟨S,us⟩:=r
    rw [hm] at h
    simp only at h
    cases hd:okD d with
    | false =>
      rw [hd,if_neg (by decide)] at h
      cases h
      exact who_bad vl l d w0 hG hl hfit S us hm hd
    | true =>
      rw [hd,if_pos rfl] at h
      cases hf:findG S d with
      | none =>
        rw [hf] at h
        cases h
        exact who_none vl l d w0 hG hl hfit S us hm hd hf
      | some p=>rw [hf] at h; cases h
theorem whoO (p:PG) (h:whoM l d=.ok p):Ret Tryd.prog 19 #[vl,dV d] w0 (G:=Value) (fun g=>.tuple #[oV ((sortDs p.1).getD 0 default) g,.int .i64 0]) (fun g w=>St w0 w noX [] [slE 24 5 eD g (sortDs p.1)]):=by
  obtain ⟨S,us,hm,hd,hf⟩:=whoM_ok h
  have h1:=okS_hist hm p (findG_mem hf).1
  have h2:=tot_mem (findG_mem hf).1
  have h3:=tot_hist hm
  exact who_ok vl l d w0 hG hl hfit S us hm hd p hf h1.2 (by omega) h1.1
theorem applyE (hz:l.length≤1000) (e:Int) (h:appM l c=.error e):Ret Tryd.prog 11 #[vl,cV c] w0 (G:=Unit) (fun _=>.tuple #[.slice none 0 0,.int .i64 e]) (fun _ w=>St w0 w noX [] []):=by
  unfold appM at h
  cases hm:histM l with
  | error e'=>rw [hm] at h; cases h; exact apply_err vl l c w0 hG hl hfit e hm
  | ok r =>
    obtain ⟨S,us⟩:=r
    rw [hm] at h
    simp only at h
    cases hc:okC c with
    | false =>
      rw [hc,if_neg (by decide)] at h
      cases h
      exact apply_bad vl l c w0 hG hl hfit S us hm hc
    | true =>
      rw [hc,if_pos rfl] at h
      exact apply_err2 vl l c w0 hG hl hfit hz S us hm hc e h
theorem applyO (hz:l.length≤1000) (S2:List PG) (us2:List Bool) (h:appM l c=.ok (S2,us2)):Ret Tryd.prog 11 #[vl,cV c] w0 (G:=Value) (fun g=>.tuple #[g,.int .i64 0]) (fun g w=>St w0 w noX [] [slE 26 12 eC g (l++[c])]):=by
  obtain ⟨S,us,hm,hc,hm2⟩:=appM_ok h
  exact apply_ok vl l c w0 hG hl hfit hz S us hm hc S2 us2 hm2
end
theorem sameObject_true (p q:Dg) (v u:Value) (lp lq:List Dg) (w0:World) (h1:rdOK (hp w0) 5 v lp.length (encs eD lp)) (h2:rdOK (hp w0) 5 u lq.length (encs eD lq)) (h:p=q∧lp=lq) :
    Ret Tryd.prog 20 #[oV p v,oV q u] w0 (G:=Unit) (fun _=>.bool true) (fun _ w=>St w0 w noX [] []):=by
  have h3:=sameObject_spec p q v u lp lq w0 h1 h2
  rw [decide_eq_true h] at h3
  exact h3
end Go.Proofs.YtgakdmmmljdpjaaDoor
namespace Go.SL
open Go
def cntP (As Bs:List PO) (p:Nat):Nat:=cntC (As.take p) Bs
theorem cntP_step {As Bs:List PO} {p:Nat} (h:p<As.length):cntP As Bs (p+1)=cntP As Bs p+Bs.count (As.getD p default):=by
  unfold cntP cntC
  rw [take_snoc h,List.map_append,List.sum_append]
  simp
theorem cntP_all {As Bs:List PO} {p:Nat} (h:As.length≤p):cntP As Bs p=cntC As Bs:=by unfold cntP; rw [List.take_of_length_le h]
theorem prO_getD {os:List Ob} {k:Nat} (h:k<os.length):(os.map prO).getD k default=prO (os.getD k default):=by
  simp [List.getD_eq_getElem?_getD,List.getElem?_eq_getElem h]
theorem cnt_row {Bs:List Ob} {x y:Ob} {q:Nat} {b:Bool} (hq:q<Bs.length) (hy:y=Bs.getD q default) (h:decide (x.p=y.p∧x.l=y.l)=b):((Bs.map prO).take (q+1)).count (prO x)=((Bs.map prO).take q).count (prO x)+(if b then 1 else 0):=by
  rw [take_snoc (by simpa using hq),List.count_append,prO_getD hq,← hy,List.count_singleton]
  congr 1
  cases b with
  | true =>
    have h1:=of_decide_eq_true h
    rw [show prO x=prO y from Prod.ext h1.1 h1.2]
    simp
  | false =>
    have h1:=of_decide_eq_false h
    have:prO y≠prO x:=fun e=>h1 ⟨(congrArg Prod.fst e).symm,(congrArg Prod.snd e).symm⟩
    simp [this]
theorem who_len {l:List Ch} {d:Dg} {p:PG} (h:whoM l d=.ok p):(sortDs p.1).length≤500:=by
  obtain ⟨S,us,hm,hd,hf⟩:=whoM_ok h
  have h2:=tot_mem (findG_mem hf).1
  have h3:=tot_hist hm
  rw [sort_len]
  omega
theorem S_len {l:List Ch} {S:List PG} {us:List Bool} (hm:histM l=.ok (S,us)):S.length≤500:=by
  have h1:=tot_hist hm
  have h2:=len_tot fun p hp=>(okS_hist hm p hp).1
  omega
theorem obs_len {xs:List Ob} {S:List PG} (h:xs.map prO=objsM S):xs.length=S.length:=by
  have:=congrArg List.length h
  rw [List.length_map,objsM_len] at this
  exact this
theorem obj_eq {x y:PG} (h:objP x=objP y):(sortDs x.1).getD 0 default=(sortDs y.1).getD 0 default∧sortDs x.1=sortDs y.1:=⟨congrArg Prod.fst h,congrArg Prod.snd h⟩
end Go.SL
