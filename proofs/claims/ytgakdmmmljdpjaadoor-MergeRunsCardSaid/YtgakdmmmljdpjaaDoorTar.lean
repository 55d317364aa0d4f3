/- Part of a proof: laws and walks. -/
import Derived.Test.YtgakdmmmljdpjaaDoorTam
import Derived.Test.YtgakdmmmljdpjaaDoorTaq
import Derived.Test.YtgakdmmmljdpjaaDoorTac
import Derived.Test.YtgakdmmmljdpjaaDoorTap
set_option linter.unusedVariables false
set_option linter.unusedSimpArgs false
namespace Go.SL
open Go
def allS (Q:Dg→Prop) (S:List PG):Prop:=∀ p ∈ S,∀ d ∈ p.1,Q d
theorem allS_step {Q:Dg→Prop} {S S':List PG} {c:Ch} (h:stepM S c=.ok S') (hS:allS Q S) (hc:Q c.a∧Q c.b):allS Q S':=by
  unfold stepM at h
  split at h
  · unfold addM at h
    split at h
    · cases h
    · cases h
      intro p hp
      rcases List.mem_cons.1 hp with rfl | hp
      · intro d hd; rw [List.mem_singleton.1 hd]; exact hc.1
      · exact hS p hp
  · split at h
    · unfold joinM at h
      split at h
      · rename_i x y hx hy
        split at h
        · cases h
        · cases h
          intro p hp
          rcases List.mem_cons.1 hp with rfl | hp
          · have h1:=hS x (findG_mem hx).1
            have h2:=hS y (findG_mem hy).1
            intro d hd
            exact (List.mem_append.1 ((merged_perm x y).mem_iff.1 hd)).elim (h1 d) (h2 d)
          · exact hS p ((List.mem_filter.1 hp).1)
      · cases h
    · unfold nameM at h
      split at h
      · cases h
      · rename_i x hx
        split at h
        · cases h
        · split at h
          · cases h
          · cases h
            intro p hp
            rcases List.mem_cons.1 hp with rfl | hp
            · have h1:=hS x (findG_mem hx).1
              intro d hd
              rcases List.mem_append.1 hd with hd | hd
              · exact h1 d hd
              · rw [List.mem_singleton.1 hd]; exact hc.2
            · exact hS p ((List.mem_filter.1 hp).1)
theorem allS_run {Q:Dg→Prop}:∀ {cs:List Ch} {S S':List PG},(∀ c ∈ cs,Q c.a∧Q c.b)→allS Q S→runL S cs=.ok S'→allS Q S'
  | [],S,S',_,hS,h=>by cases h; exact hS
  | c::t,S,S',hc,hS,h=>by
    simp only [runL] at h
    cases hs:stepM S c with
    | error e=>rw [hs] at h; cases h
    | ok T =>
      rw [hs] at h
      exact allS_run (fun x hx=>hc x (List.mem_cons_of_mem _ hx)) (allS_step hs hS (hc c List.mem_cons_self)) h
theorem liveK_mem {l:List Ch} {us:List Bool}:∀ {k},k≤l.length→∀ c ∈ liveK l us k,c ∈ l
  | 0,_,c,hc=>by cases hc
  | k+1,hk,c,hc=>by
    simp only [liveK] at hc
    split at hc
    · rcases List.mem_append.1 hc with hc | hc
      · exact liveK_mem (by omega) c hc
      · rw [List.mem_singleton.1 hc,List.getD_eq_getElem?_getD,List.getElem?_eq_getElem (by omega)]
        exact List.getElem_mem _
    · exact liveK_mem (by omega) c hc
theorem rS_hist {l:List Ch} {S:List PG} {us:List Bool} (hr:∀ c ∈ l,rC c) (hm:histM l=.ok (S,us)):allS rD S:=by
  obtain ⟨_,_,_,h4⟩:=hist_parts hm
  unfold playM at h4
  rw [playK_live] at h4
  exact allS_run (fun c hc=>hr c (liveK_mem (Nat.le_refl _) c hc)) (fun p hp=>by cases hp) h4
section
variable {l:List Ch} {S:List PG} {us:List Bool} {xs:List Ob} {p:PG} {i k:Nat}
end
end Go.SL

namespace Go.SL
open Go
def RefS (os:List Ob) (S:List PG):Prop:=(os.map prO).Perm (S.map objP)
structure StOK (S:List PG) (k:Nat):Prop where
  wf:wfS S
  ok:okS S
  r:allS rD S
  tot:totS S≤k
theorem step_ne {S:List PG} {c:Ch} {e:Int} (h:stepM S c=.error e):e≠0:=by
  unfold stepM at h
  split at h
  · unfold addM at h
    split at h
    · cases h; decide
    · cases h
  · split at h
    · unfold joinM at h
      split at h
      · split at h
        · cases h; decide
        · cases h
      · cases h; decide
    · unfold nameM at h
      split at h
      · cases h; decide
      · split at h
        · cases h; decide
        · split at h
          · cases h; decide
          · cases h
theorem all_get {l:List Ch} (h:l.all okC=true) {j:Nat} (hj:j<l.length):okC (l.getD j default)=true:=by
  rw [List.all_eq_true] at h
  exact h _ (by rw [List.getD_eq_getElem?_getD,List.getElem?_eq_getElem hj]; exact List.getElem_mem _)
theorem getC {l:List Ch} {j:Nat} (hj:j<l.length):l.getD j default ∈ l:=by
  rw [List.getD_eq_getElem?_getD,List.getElem?_eq_getElem hj]; exact List.getElem_mem _
theorem stok_play {l:List Ch} {us:List Bool} {k:Nat} {S:List PG} (hok:l.all okC=true) (hr:∀ c ∈ l,rC c) (hk:k≤l.length) (h:playK l us k=.ok S):StOK S k :=
  ⟨wf_playK hok hk h,okS_playK hok (kinds_all fun j hj=>all_get hok hj) hk h,by
    have h':=h
    rw [playK_live] at h'
    exact allS_run (fun c hc=>hr c (liveK_mem hk c hc)) (fun p hp=>by cases hp) h',tot_playK h⟩
section
variable {os:List Ob} {S:List PG} {k:Nat}
theorem ref_ob (hp:RefS os S) {o:Ob} (ho:o ∈ os):∃ p ∈ S,prO o=objP p:=by
  obtain ⟨p,h1,h2⟩:=List.mem_map.1 (hp.mem_iff.1 (List.mem_map.2 ⟨o,ho,rfl⟩))
  exact ⟨p,h1,h2.symm⟩
theorem ref_v (hS:StOK S k) (hp:RefS os S):∀ o ∈ os,o.l≠[]∧∀ d ∈ o.l,okD d=true∧rD d:=fun o ho=>by
  obtain ⟨p,h1,h2⟩:=ref_ob hp ho
  have h3:o.l=sortDs p.1:=congrArg Prod.snd h2
  have h4:=hS.ok p h1
  refine ⟨fun h=>?_,fun d hd=>?_⟩
  · have h5:=congrArg List.length h3
    rw [h,sort_len] at h5
    exact h4.1 (List.length_eq_zero_iff.1 h5.symm)
  · rw [h3] at hd
    exact ⟨h4.2 d (sort_mem.1 hd),hS.r p h1 d (sort_mem.1 hd)⟩
theorem ref_len (hS:StOK S k) (hp:RefS os S):os.length≤k:=by
  have h1:=hp.length_eq
  rw [List.length_map,List.length_map] at h1
  have h2:=len_tot fun p hp=>(hS.ok p hp).1
  have h3:=hS.tot
  omega
theorem ref_ll (hS:StOK S k) (hp:RefS os S):∀ o ∈ os,o.l.length≤k:=fun o ho=>by
  obtain ⟨p,h1,h2⟩:=ref_ob hp ho
  have h3:o.l=sortDs p.1:=congrArg Prod.snd h2
  have h4:=tot_mem h1
  have h5:=hS.tot
  rw [h3,sort_len]
  omega
end
section
variable {w0 w:World} {X:Nat→Prop} {B M:List Asr} {i:Nat} {l1 l2:List Asr} {os all:List Ob}
theorem St.bigMerge (hS:St w0 w X B (bigA l1::bigA l2::M)):St w0 w X B (bigA (l1++l2)::M):=by
  have h1:St w0 w X B ([]++bigA l1::(bigA l2::M)):=hS
  have h2:=h1.bigOpen
  have h3:St w0 w X B (l1++bigA l2::M):=by simpa using h2
  have h4:=h3.bigOpen
  have h5:St w0 w X B ([]++((l1++l2)++M)):=by simpa using h4
  exact h5.bigClose
theorem St.allMerge {a b:List Ob} (hS:St w0 w X B (bigA (a.map obA)::bigA (b.map obA)::M)):St w0 w X B (bigA ((a++b).map obA)::M):=by
  rw [List.map_append]; exact hS.bigMerge
theorem obsRd.sub (h:obsRd w all) (hs:∀ o ∈ os,o ∈ all):obsRd w os:=fun o ho=>h o (hs o ho)
theorem St.obFit (hS:St w0 w X B M) (hi:M[i]? = some (bigA (all.map obA))) (hs:∀ o ∈ os,o ∈ all):∀ o ∈ os,vfit o.v:=fun o ho=>by
  have h:(bigA (all.map obA)).holds (hp w):=hS.at_ hi
  have h1:(obA o).holds (hp w):=h.1 (obA o) (List.mem_map.2 ⟨o,hs o ho,rfl⟩)
  exact slOK.fit (show slOK (hp w) 24 5 o.v o.l.length (encs eD o.l) from h1)
end
def DoesR (l:List Ch) (us:List Bool) (e:Int) (os all:List Ob):Prop :=
  match playM l us with
  | .error e'=>e=e'∧os=[]∧all=[]
  | .ok S=>e=0∧RefS os S∧∀ o ∈ os,o ∈ all
def HisR (l:List Ch) (e:Int) (os:List Ob) (us:List Bool) (all:List Ob):Prop :=
  match histM l with
  | .error e'=>e=e'∧os=[]∧us=[]∧all=[]
  | .ok (S,us')=>e=0∧us=us'∧RefS os S∧∀ o ∈ os,o ∈ all
section
variable {l:List Ch} {us:List Bool} {e:Int} {os all:List Ob} {S:List PG} {i n:Nat}
theorem DoesR.err (h:playM l us=.error e):DoesR l us e [] []:=by unfold DoesR; rw [h]; exact ⟨rfl,rfl,rfl⟩
theorem DoesR.ok (h:playM l us=.ok S) (h1:RefS os S) (h2:∀ o ∈ os,o ∈ all):DoesR l us 0 os all:=by unfold DoesR; rw [h]; exact ⟨rfl,h1,h2⟩
theorem HisR.err (h:histM l=.error e):HisR l e [] [] []:=by unfold HisR; rw [h]; exact ⟨rfl,rfl,rfl,rfl⟩
theorem HisR.ok (h:histM l=.ok (S,us)) (h1:RefS os S) (h2:∀ o ∈ os,o ∈ all):HisR l 0 os us all:=by unfold HisR; rw [h]; exact ⟨rfl,rfl,h1,h2⟩
theorem sk_yes (h:(decide ((l.getD i default).kind=(4:Int))||us.getD i false)=true):¬ ((l.getD i default).kind≠4∧us.getD i false=false):=fun h2=>by
  rw [h2.2,Bool.or_false,decide_eq_true_eq] at h
  exact h2.1 h
theorem sk_no (h:(decide ((l.getD i default).kind=(4:Int))||us.getD i false)=false):(l.getD i default).kind≠4∧us.getD i false=false:=by
  rw [Bool.or_eq_false_iff,decide_eq_false_iff_not] at h
  exact h
theorem refS_nil:RefS [] []:=List.Perm.refl _
theorem his_err (hl:l.length≤500) (hok:l.all okC=true) (hi:i<l.length) (h:undoK l i=.ok us) (hk:(l.getD i default).kind≠4) (hp:playK l us (i+1)=.error e):histM l=.error e:=by
  have h0:undoK l (i+1)=.ok us:=undo_skip h hk
  have key:∀ m,i+1+m≤l.length→undoK l (i+1+m)=.ok us∨undoK l (i+1+m)=.error e:=by
    intro m
    induction m with
    | zero=>intro _; exact .inl h0
    | succ m ih =>
      intro hm
      rcases ih (by omega) with h1 | h1
      · by_cases h4:(l.getD (i+1+m) default).kind=4
        · right
          have e1:=playK_err hp m
          have hh:playM (l.take (i+1+m)) us=.error e:=by
            unfold playM
            rw [List.length_take,Nat.min_eq_left (show i+1+m≤l.length by omega),← e1]
            exact playK_congr (fun j hj=>take_getD hj) (fun _ _=>rfl)
          exact undo_play (k:=i+1+m) h1 h4 hh
        · exact .inl (undo_skip h1 h4)
      · right
        have:=undoK_err h1 1
        exact this
  rcases key (l.length-(i+1)) (by omega) with h1 | h1
  · rw [show i+1+(l.length-(i+1))=l.length by omega] at h1
    exact hist_play (by omega) hok h1 (playM_err hp (by omega))
  · rw [show i+1+(l.length-(i+1))=l.length by omega] at h1
    exact histM_err (by omega) hok h1 (Nat.le_refl _)
theorem undoK_tail (hn:∀ j,j<l.length→(l.getD j default).kind=4→0≤(l.getD j default).n):∀ {k:Nat} {us:List Bool},k≤l.length→undoK l k=.ok us→∀ j,k≤j→us.getD j false=false
  | 0,us,_,h,j,_=>by
    simp only [undoK,Except.ok.injEq] at h
    subst h
    simp [List.getD_eq_getElem?_getD,List.getElem?_replicate]
    split <;> rfl
  | k+1,us,hk,h,j,hj=>by
    simp only [undoK] at h
    cases hu:undoK l k with
    | error e=>rw [hu] at h; cases h
    | ok u =>
      have ih:=undoK_tail hn (by omega) hu
      rw [hu] at h
      simp only at h
      split at h
      · simp only [Except.ok.injEq] at h; subst h; exact ih j (by omega)
      · rename_i h4
        split at h
        · cases h
        · split at h
          · rename_i hlt
            split at h
            · split at h
              · cases h
              · simp only [Except.ok.injEq] at h
                subst h
                have h0:=hn k (by omega) (by omega)
                rw [getD_set_ne (by omega)]
                exact ih j (by omega)
            · cases h
          · cases h
theorem play_take (hi:i≤l.length) {u v:List Bool} (huv:∀ j,j<i→u.getD j false=v.getD j false):playM (l.take i) u=playK l v i:=by
  unfold playM
  rw [List.length_take,Nat.min_eq_left hi]
  exact playK_congr (fun j hj=>take_getD hj) huv
end
end Go.SL
namespace Go.Proofs.YtgakdmmmljdpjaaDoor
open Go Go.SL
section
variable (vo:Value) (os:List Ob) (c:Ch) (w0:World) (hl:rdOK (hp w0) 6 vo os.length (encs eO os)) (hfit:vfit vo) (ho:obsRd w0 os) (hof:∀ o ∈ os,vfit o.v) {S:List PG} {k:Nat} (hS:StOK S k) (hk5:k≤500) (hp:RefS os S) (hc:okC c=true) (hk:c.kind≠4) (hrc:rC c)
include hl hfit ho hof hS hk5 hp hc hk hrc
theorem next_S:Ret Tryd.prog 47 #[vo,cV c] w0 (G:=Value × Int × List Ob × List Ob) (fun g=>.tuple #[g.1,.int .i64 g.2.1]) (fun g w=>St w0 w noX [] [sl 46 6 g.1 g.2.2.1.length (encs eO g.2.2.1),bigA (g.2.2.2.map obA)]∧NextR os c g.2.1 g.2.2.1 g.2.2.2) :=
  next_spec vo os c w0 hl hfit ho hof (ref_v hS hp) hrc (okC_a hc hk) (fun h1=>okC_b hc (by have:=okC_kind hc; omega)) (by have:=ref_len hS hp; omega) (fun o h=>by have:=ref_ll hS hp o h; omega)
theorem next_E (e:Int) (h:stepM S c=.error e):Ret Tryd.prog 47 #[vo,cV c] w0 (G:=Value) (fun g=>.tuple #[g,.int .i64 e]) (fun _ w=>St w0 w noX [] []) :=
  (next_S vo os c w0 hl hfit ho hof hS hk5 hp hc hk hrc).mono fun g w ⟨h1,h2⟩=>by
    have h3:=(step_ref hp hS.wf (by have:=okC_kind hc; omega)).1 e h
    rcases h2 with ⟨_,h4,_⟩ | ⟨_,_,h4⟩
    · rw [h3] at h4
      cases h4
      exact ⟨g.1,rfl,(h1.sub (List.nil_sublist _)).noB⟩
    · rw [h3] at h4; cases h4
theorem next_O (S':List PG) (h:stepM S c=.ok S'):Ret Tryd.prog 47 #[vo,cV c] w0 (G:=Value × List Ob × List Ob) (fun g=>.tuple #[g.1,.int .i64 0]) (fun g w=>St w0 w noX [] [sl 46 6 g.1 g.2.1.length (encs eO g.2.1),bigA (g.2.2.map obA)]∧RefS g.2.1 S'∧∀ o ∈ g.2.1,o ∈ os∨o ∈ g.2.2) :=
  (next_S vo os c w0 hl hfit ho hof hS hk5 hp hc hk hrc).mono fun g w ⟨h1,h2⟩=>by
    obtain ⟨L',h3,h5⟩:=(step_ref hp hS.wf (by have:=okC_kind hc; omega)).2 S' h
    rcases h2 with ⟨_,h4,_⟩ | ⟨h6,h7,h4⟩
    · rw [h3] at h4; cases h4
    · rw [h3] at h4
      cases h4
      exact ⟨(g.1,g.2.2.1,g.2.2.2),by rw [h6],h1,h5,h7⟩
end
end Go.Proofs.YtgakdmmmljdpjaaDoor

set_option maxHeartbeats 1000000
set_option maxRecDepth 8000
namespace Go.Proofs.YtgakdmmmljdpjaaDoor
open Go Go.SL
theorem C_ok_47:callOK Tryd.prog 47=true:=by kernel_rfl
set_option maxHeartbeats 4000000 in
set_option maxRecDepth 4000 in
theorem does_spec (vl:Value) (l:List Ch) (vu:Value) (us:List Bool) (w0:World) (hl:rdOK (hp w0) 12 vl l.length (encs eC l)) (hu:rdOK (hp w0) 1 vu us.length (bools us)) (hul:l.length≤us.length) (hz:l.length≤500) (hok:l.all okC=true) (hr:∀ c ∈ l,rC c) :
    Ret Tryd.prog 48 #[vl,vu] w0 (G:=Value × Int × List Ob × List Ob) (fun g=>.tuple #[g.1,.int .i64 g.2.1]) (fun g w=>St w0 w noX [] [sl 46 6 g.1 g.2.2.1.length (encs eO g.2.2.1),bigA (g.2.2.2.map obA)]∧DoesR l us g.2.1 g.2.2.1 g.2.2.2):=by
  refine ret_of_W (lv:=[vl,vu]) Tryd.func48 rfl rfl rfl (fun a hf=>?_); replace hf:Fr a 40 [] [(0,vl),(1,vu)]:=hf; have hS:St w0 w0 noX [rdv 12 vl l.length (encs eC l),rdv 1 vu us.length (bools us)] []:=((St.refl w0).lend0 hu).lend0 hl; have hlm:=hl.2.1; have hum:=hu.2.1; unfold maxLen at hlm hum; refine W.seq ?_
  refine W.regionL (l:=[0,1]) rfl<|mv hf rfl<|?_; clear hf a; intro a hf; refine mv hf rfl ?_; clear hf a; intro a hf; refine nk<|W.seq<|?_
  refine W.regionL (l:=[0]) rfl<|mv hf rfl<|?_; clear hf a; intro a hf; refine nk<|W.seq<|?_
  refine W.regionL (l:=[0]) rfl<|mv hf rfl<|?_; clear hf a; intro a hf; refine nk<|W.seq<|W.seq<|?_
  refine W.regionL (l:=[0]) rfl<|mv hf rfl<|?_; clear hf a; intro a hf; refine nk<|W.block<|?_; replace hS:=St.bigNil (hS.nilSl 46 6); replace hS:St w0 _ noX [rdv 12 vl l.length (encs eC l),rdv 1 vu us.length (bools us)] [sl 46 6 (.slice none 0 0) (([]:List Ob).length) (encs eO ([]:List Ob)),bigA (([]:List Ob).map obA)]:=hS
  refine W.loop (G:=(Nat) × (Value) × (List Ob) × (List Ob) × (List PG)) (fun g a w=>match g with | (i,vo,os,all,T)=>Fr a 40 [] [(0,vl),(1,vu),(6,vo),(8,.int .i64 (i:Int))]∧St w0 w noX [rdv 12 vl l.length (encs eC l),rdv 1 vu us.length (bools us)] [sl 46 6 vo os.length (encs eO os),bigA (all.map obA)]∧(i≤l.length)∧(playK l us i=.ok T)∧(RefS os T)∧(∀ o ∈ os,o ∈ all)) (fun g=>match g with | (i,vo,os,all,T)=>l.length-i) (0,.slice none 0 0,[],[],[]) ?_ ?_
  · refine ⟨hf.to ⟨rfl,rfl,(by first | rfl | exact congrArg some (congrArg (Value.int _) (by omega))),(by first | rfl | exact congrArg some (congrArg (Value.int _) (by omega))),trivial⟩,hS,?_,?_,?_,?_⟩
    · omega
    · rfl
    · exact refS_nil
    · intro o ho; cases ho
  clear hf hS a; rintro ⟨i,vo,os,all,T⟩ a w ⟨hf,hS,hi,hpl,href,hsub⟩; refine W.seq<|W.seq<|?_
  refine W.regionL (l:=[0,1,2,3]) rfl<|mv hf rfl<|?_; clear hf a; intro a hf; refine mv hf rfl ?_; clear hf a; intro a hf; refine ov hf rfl (RunV.lenV (e:=26) (by simpa using T_elem_22) rfl (hS.rdAt (j:=0) rfl)) ?_; clear hf a; intro a hf; refine ov (v:=.bool (decide ((i:Int)<((l.length:Int):Int)))) hf rfl (RunV.lss rfl rfl) ?_; clear hf a; intro a hf; refine nk ?_; refine W.ifdI hf rfl (fun hc1=>?_) (fun hc1=>?_)
  · refine W.skip ?_
    refine k_seq<|W.seq<|W.block<|W.seq<|W.seq<|?_
    refine W.regionL (l:=[0,1,2,3,4,5,6,7,8,9,10,11]) rfl<|mv hf rfl<|?_; clear hf a; intro a hf; refine mv hf rfl ?_; clear hf a; intro a hf; refine ov hf rfl (RunV.ixV (j:=i) (m:=i*12) T_elem_22 T_size_26 rfl rfl (hS.rdAt (j:=0) rfl) rfl (by omega) rfl) ?_; clear hf a; intro a hf; refine ov hf rfl (RunV.ixF T_field_26_0 rfl (hS.rdAt (j:=0) rfl) (by omega) rfl) ?_; clear hf a; intro a hf; refine ov hf rfl (RunV.ldG2 (j:=i) (o:=0) (sz:=12) (enc:=eC) (l:=l) T_agg_5 eC_len rfl (hS.rdAt (j:=0) rfl) (by omega) rfl rfl) ?_; clear hf a; intro a hf; refine ov (v:=.bool (decide (((l.getD i default).kind)=(4:Int)))) hf rfl (RunV.eql rfl rfl) ?_; clear hf a; intro a hf; refine mv hf rfl ?_; clear hf a; intro a hf
    refine O.cutN (l₁:=[7,8,9,10,11]) (l₂:=_) (fun a w=>Fr a 40 [] [(0,vl),(1,vu),(6,vo),(8,.int .i64 (i:Int)),(15,vl),(16,.int .i64 (i:Int)),(17,ix vl (i*12)),(18,ix vl (i*12)),(19,.int .u8 ((l.getD i default).kind)),(20,.bool (decide (((l.getD i default).kind)=(4:Int)))),(21,.bool (decide (((l.getD i default).kind)=(4:Int)))),(26,.bool ((decide (((l.getD i default).kind)=(4:Int)))||(us.getD i false)))]∧St w0 w noX [rdv 12 vl l.length (encs eC l),rdv 1 vu us.length (bools us)] [sl 46 6 vo os.length (encs eO os),bigA (all.map obA)]) rfl ?_ ?_
    · rcases Bool.eq_false_or_eq_true (decide (((l.getD i default).kind)=(4:Int))) with hb2 | hb2
      · have hb2p:=of_decide_eq_true hb2
        refine sk hf rfl hb2 fun a hf=>sk hf rfl hb2 fun a hf=>sk hf rfl hb2 fun a hf=>sk hf rfl hb2 fun a hf=>?_; refine ov (v:=.bool ((decide (((l.getD i default).kind)=(4:Int)))||(us.getD i false))) hf rfl (RunV.pick rfl rfl rfl (by rw [hb2]; rfl)) ?_; clear hf a; intro a hf; exact O.nil ⟨rfl,hf.q rfl,hS⟩
      · have hb2p:=of_decide_eq_false hb2
        refine og (v:=vu) hf rfl hb2 (RunV.move rfl) ?_; clear hf a; intro a hf; refine og (v:=.int .i64 (i:Int)) hf rfl hb2 (RunV.move rfl) ?_; clear hf a; intro a hf; refine og (v:=ix vu i) hf rfl hb2 (RunV.ixV (j:=i) (m:=i) T_elem_51 T_size_4 rfl rfl (hS.rdAt (j:=1) rfl) rfl (by omega) (Nat.mul_one _)) ?_; clear hf a; intro a hf; refine og (v:=.bool (us.getD i false)) hf rfl hb2 (RunV.ld1 T_agg_4 rfl (hS.rdAt (j:=1) rfl) (bools_get (by omega))) ?_; clear hf a; intro a hf; refine ov (v:=.bool ((decide (((l.getD i default).kind)=(4:Int)))||(us.getD i false))) hf rfl (RunV.pick rfl rfl rfl (by rw [hb2]; rfl)) ?_; clear hf a; intro a hf; exact O.nil ⟨rfl,hf.q rfl,hS⟩
    clear hf hS a; rintro a w ⟨hf,hS⟩; refine nk ?_; refine W.if_ hf rfl (fun hsk=>?_) (fun hsk=>?_)
    · have hskb:=hsk
      try simp only [Bool.and_eq_true,Bool.or_eq_true,Bool.and_eq_false_iff,Bool.or_eq_false_iff,decide_eq_true_eq,decide_eq_false_iff_not,Bool.not_eq_true',Bool.not_eq_false',Bool.not_eq_true,Bool.not_eq_false,ne_eq] at hsk
      refine W.exit<|k_then_exit<|k_blk<|k_seq<|?_
      refine W.regionL (l:=[0,1,2]) rfl<|mv hf rfl<|?_; clear hf a; intro a hf; refine ov hf rfl (RunV.addI rfl rfl (by omega)) ?_; clear hf a; intro a hf; refine mv hf rfl ?_; clear hf a; intro a hf; refine O.nil ?_; refine k_then ⟨(i+1,vo,os,all,T),⟨hf.to ⟨rfl,rfl,(by first | rfl | exact congrArg some (congrArg (Value.int _) (by omega))),(by first | rfl | exact congrArg some (congrArg (Value.int _) (by omega))),trivial⟩,?_,?_,?_,?_,?_⟩,?_⟩
      · exact hS.eqM rfl
      · omega
      · exact playK_no hpl (sk_yes hskb)
      · omega
      · omega
      · dsimp only; omega
    · have hskb:=hsk
      try simp only [Bool.and_eq_true,Bool.or_eq_true,Bool.and_eq_false_iff,Bool.or_eq_false_iff,decide_eq_true_eq,decide_eq_false_iff_not,Bool.not_eq_true',Bool.not_eq_false',Bool.not_eq_true,Bool.not_eq_false,ne_eq] at hsk
      refine W.skip<|k_seq<|W.seq<|?_; obtain ⟨hk4,hus⟩:=sk_no hskb; have hcok:=all_get hok (j:=i) (by omega); have hcr:=hr _ (getC (l:=l) (j:=i) (by omega)); have hstk:=stok_play hok hr hi hpl; have hst:=playK_do hpl hk4 hus
      rcases hst2:stepM T (l.getD i default) with e | T2
      · have hne:=step_ne hst2
        refine W.regionL (l:=[0,1,2,3,4,5,6,7,8,9,10]) rfl<|mv hf rfl<|?_; clear hf a; intro a hf; refine mv hf rfl ?_; clear hf a; intro a hf; refine mv hf rfl ?_; clear hf a; intro a hf; refine ov hf rfl (RunV.ixV (j:=i) (m:=i*12) T_elem_22 T_size_26 rfl rfl (hS.rdAt (j:=0) rfl) rfl (by omega) rfl) ?_; clear hf a; intro a hf; refine ov hf rfl (RunV.ldG (j:=i) (enc:=eC) (l:=l) (us:=[.int .u8 ((l.getD i default).kind),.int .i64 ((l.getD i default).a.num),.int .i64 ((l.getD i default).a.yr),.int .u8 ((l.getD i default).a.half),.int .u8 ((l.getD i default).a.sec),.int .i64 ((l.getD i default).a.cyc),.int .i64 ((l.getD i default).b.num),.int .i64 ((l.getD i default).b.yr),.int .u8 ((l.getD i default).b.half),.int .u8 ((l.getD i default).b.sec),.int .i64 ((l.getD i default).b.cyc),.int .i64 ((l.getD i default).n)]) T_agg_26 T_size_26 rfl eC_len rfl (hS.rdAt (j:=0) rfl) (by omega) rfl) ?_; clear hf a; intro a hf; refine oc hf rfl C_ok_47 (next_E vo os (l.getD i default) _ (hS.slr (j:=0) rfl) (slOK.fit (hS.slAt (j:=0) rfl)) ((hS.obOwn (i:=1) rfl).sub hsub) (hS.obFit (i:=1) rfl hsub) hstk (by omega) href hcok hk4 hcr e hst2) ?_; clear hf a; rintro gvE w4 hS1 a hf; replace hS:=hS.cl hS1; refine mv hf rfl ?_; clear hf a; intro a hf; refine ov hf rfl (RunV.extract rfl rfl) ?_; clear hf a; intro a hf; refine ov hf rfl (RunV.extract rfl rfl) ?_; clear hf a; intro a hf; refine mv hf rfl ?_; clear hf a; intro a hf; refine mv hf rfl ?_; clear hf a; intro a hf; refine nk<|W.seq<|?_
        refine W.regionL (l:=[0,1]) rfl<|mv hf rfl<|?_; clear hf a; intro a hf; refine ov (v:=.bool (decide (e≠(0:Int)))) hf rfl (RunV.neq rfl rfl) ?_; clear hf a; intro a hf; refine nk ?_; have hbc:(decide (e≠(0:Int)))=true:=decide_eq_true hne; simp only [hbc] at hf; clear hbc; refine W.if_tt hf rfl<|W.seq<|?_
        refine W.regionL (l:=[0,1,2]) rfl<|mv hf rfl<|?_; clear hf a; intro a hf; refine mv hf rfl ?_; clear hf a; intro a hf; refine mv hf rfl ?_; clear hf a; intro a hf; refine nk<|W.ret<|k_blk_ret<|k_then_ret<|k_then_ret<|k_blk_ret<|k_then_ret<|post2 hf rfl (ResOK.tmp rfl) (ResOK.tmp rfl)<|?_; have hS2:=(hS.sub (N:=[]) (List.nil_sublist _)).noB; replace hS2:=St.bigNil (hS2.nilSl 46 6); exact ⟨(.slice none 0 0,e,[],[]),rfl,hS2,DoesR.err (playM_err (k:=i+1) (by rw [hst,hst2]) (by omega))⟩
      ·
        refine W.regionL (l:=[0,1,2,3,4,5,6,7,8,9,10]) rfl<|mv hf rfl<|?_; clear hf a; intro a hf; refine mv hf rfl ?_; clear hf a; intro a hf; refine mv hf rfl ?_; clear hf a; intro a hf; refine ov hf rfl (RunV.ixV (j:=i) (m:=i*12) T_elem_22 T_size_26 rfl rfl (hS.rdAt (j:=0) rfl) rfl (by omega) rfl) ?_; clear hf a; intro a hf; refine ov hf rfl (RunV.ldG (j:=i) (enc:=eC) (l:=l) (us:=[.int .u8 ((l.getD i default).kind),.int .i64 ((l.getD i default).a.num),.int .i64 ((l.getD i default).a.yr),.int .u8 ((l.getD i default).a.half),.int .u8 ((l.getD i default).a.sec),.int .i64 ((l.getD i default).a.cyc),.int .i64 ((l.getD i default).b.num),.int .i64 ((l.getD i default).b.yr),.int .u8 ((l.getD i default).b.half),.int .u8 ((l.getD i default).b.sec),.int .i64 ((l.getD i default).b.cyc),.int .i64 ((l.getD i default).n)]) T_agg_26 T_size_26 rfl eC_len rfl (hS.rdAt (j:=0) rfl) (by omega) rfl) ?_; clear hf a; intro a hf; refine oc hf rfl C_ok_47 (next_O vo os (l.getD i default) _ (hS.slr (j:=0) rfl) (slOK.fit (hS.slAt (j:=0) rfl)) ((hS.obOwn (i:=1) rfl).sub hsub) (hS.obFit (i:=1) rfl hsub) hstk (by omega) href hcok hk4 hcr T2 hst2) ?_; clear hf a; rintro ⟨vo2,os2,new2⟩ w5 ⟨hS1,href2,hsub2⟩ a hf; replace hS:=hS.cl hS1; refine mv hf rfl ?_; clear hf a; intro a hf; refine ov hf rfl (RunV.extract rfl rfl) ?_; clear hf a; intro a hf; refine ov hf rfl (RunV.extract rfl rfl) ?_; clear hf a; intro a hf; refine mv hf rfl ?_; clear hf a; intro a hf; refine mv hf rfl ?_; clear hf a; intro a hf; refine O.nil ?_; replace hS:=hS.fr 0; replace hS:=hS.fr 3; replace hS:=hS.fr 2; replace hS:=hS.sl [1,1,1]; replace hS:St w0 _ noX [rdv 12 vl l.length (encs eC l),rdv 1 vu us.length (bools us)] [bigA ((new2++all).map obA),sl 46 6 vo2 os2.length (encs eO os2)]:=St.allMerge hS; refine k_seq<|W.seq<|?_
        refine W.regionL (l:=[0,1]) rfl<|mv hf rfl<|?_; clear hf a; intro a hf; refine ov hf rfl (RunV.toB (c:=false) (RunV.neq rfl rfl) (by decide)) ?_; clear hf a; intro a hf; refine nk<|W.if_ff hf rfl<|W.skip<|k_blk_normal<|k_seq<|?_
        refine W.regionL (l:=[0,1,2]) rfl<|mv hf rfl<|?_; clear hf a; intro a hf; refine ov hf rfl (RunV.addI rfl rfl (by omega)) ?_; clear hf a; intro a hf; refine mv hf rfl ?_; clear hf a; intro a hf; refine O.nil ?_; replace hS:=hS.fr 0; replace hS:=hS.fr 1; refine k_then ⟨(i+1,vo2,os2,(new2++all),T2),⟨hf.to ⟨rfl,rfl,(by first | rfl | exact congrArg some (congrArg (Value.int _) (by omega))),(by first | rfl | exact congrArg some (congrArg (Value.int _) (by omega))),trivial⟩,?_,?_,?_,?_,?_⟩,?_⟩
        · exact hS.eqM rfl
        · omega
        · rw [hst,hst2]
        · exact href2
        · intro o ho; rcases hsub2 o ho with h | h
          · exact List.mem_append_right _ (hsub o h)
          · exact List.mem_append_left _ h
        · dsimp only; omega
  · refine W.exit ?_
    refine k_then_exit<|k_then_exit<|k_blk<|k_seq<|W.seq<|?_
    refine W.regionL (l:=[0,1,2]) rfl<|mv hf rfl<|?_; clear hf a; intro a hf; refine mv hf rfl ?_; clear hf a; intro a hf; refine mv hf rfl ?_; clear hf a; intro a hf; refine nk<|W.ret<|post2 hf rfl (ResOK.tmp rfl) (ResOK.tmp rfl)<|?_; exact ⟨(vo,0,os,all),rfl,(hS.sub (N:=[sl 46 6 vo os.length (encs eO os),bigA (all.map obA)]) (.cons_cons _ (.cons_cons _ .slnil))).noB,DoesR.ok (S:=T) (by unfold playM; rw [show l.length=i by omega]; exact hpl) href hsub⟩
end Go.Proofs.YtgakdmmmljdpjaaDoor

namespace Go.SL
open Go
theorem okE_eqC {c:Ch} (h:¬ (if okC c then (0:Int) else 8)≠0):okC c=true:=by
  cases hc:okC c with
  | true=>rfl
  | false=>rw [hc] at h; exact absurd (by decide) h
theorem okE_neC {c:Ch} (h:(if okC c then (0:Int) else 8)≠0):okC c=false:=by
  cases hc:okC c with
  | false=>rfl
  | true=>rw [hc] at h; exact absurd rfl h
theorem playM_ne {l:List Ch} {us:List Bool} {e:Int} (h:playM l us=.error e):e≠0:=by
  have key:∀ k,playK l us k=.error e→e≠0:=by
    intro k
    induction k with
    | zero=>intro h; cases h
    | succ k ih =>
      intro h
      simp only [playK] at h
      cases hq:playK l us k with
      | error e'=>rw [hq] at h; cases h; exact ih hq
      | ok S =>
        rw [hq] at h
        simp only at h
        split at h
        · exact step_ne h
        · cases h
  exact key _ h
end Go.SL
namespace Go.Proofs.YtgakdmmmljdpjaaDoor
open Go Go.SL
section
variable (vl:Value) (l:List Ch) (vu:Value) (us:List Bool) (w0:World) (hl:rdOK (hp w0) 12 vl l.length (encs eC l)) (hu:rdOK (hp w0) 1 vu us.length (bools us)) (hul:l.length≤us.length) (hz:l.length≤500) (hok:l.all okC=true) (hr:∀ c ∈ l,rC c)
include hl hu hul hz hok hr
theorem does_E (e:Int) (h:playM l us=.error e):Ret Tryd.prog 48 #[vl,vu] w0 (G:=Value) (fun g=>.tuple #[g,.int .i64 e]) (fun _ w=>St w0 w noX [] []) :=
  (does_spec vl l vu us w0 hl hu hul hz hok hr).mono fun g w ⟨h1,h2⟩=>by
    unfold DoesR at h2
    rw [h] at h2
    exact ⟨g.1,by rw [h2.1],(h1.sub (List.nil_sublist _)).noB⟩
theorem does_O (S:List PG) (h:playM l us=.ok S):Ret Tryd.prog 48 #[vl,vu] w0 (G:=Value × List Ob × List Ob) (fun g=>.tuple #[g.1,.int .i64 0]) (fun g w=>St w0 w noX [] [sl 46 6 g.1 g.2.1.length (encs eO g.2.1),bigA (g.2.2.map obA)]∧RefS g.2.1 S∧∀ o ∈ g.2.1,o ∈ g.2.2) :=
  (does_spec vl l vu us w0 hl hu hul hz hok hr).mono fun g w ⟨h1,h2⟩=>by
    unfold DoesR at h2
    rw [h] at h2
    exact ⟨(g.1,g.2.2.1,g.2.2.2),by rw [h2.1],h1,h2.2⟩
end
end Go.Proofs.YtgakdmmmljdpjaaDoor

set_option maxHeartbeats 1000000
set_option maxRecDepth 8000
namespace Go.Proofs.YtgakdmmmljdpjaaDoor
open Go Go.SL
theorem C_ok_26:callOK Tryd.prog 26=true:=by kernel_rfl
theorem C_ok_48:callOK Tryd.prog 48=true:=by kernel_rfl
set_option maxHeartbeats 4000000 in
set_option maxRecDepth 4000 in
theorem history_ref (vl:Value) (l:List Ch) (w0:World) (hl:rdOK (hp w0) 12 vl l.length (encs eC l)) (hfit:vfit vl) (hr:∀ c ∈ l,rC c) :
    Ret Tryd.prog 34 #[vl] w0 (G:=Value × Value × Int × List Ob × List Bool × List Ob) (fun g=>.tuple #[g.1,g.2.1,.int .i64 g.2.2.1]) (fun g w=>St w0 w noX [] [sl 46 6 g.1 g.2.2.2.1.length (encs eO g.2.2.2.1),sl 4 1 g.2.1 g.2.2.2.2.1.length (bools g.2.2.2.2.1),bigA (g.2.2.2.2.2.map obA)]∧HisR l g.2.2.1 g.2.2.2.1 g.2.2.2.2.1 g.2.2.2.2.2):=by
  refine ret_of_W (lv:=[vl]) Tryd.func34 rfl rfl rfl (fun a hf=>?_); replace hf:Fr a 88 [] [(0,vl)]:=hf; have hS:St w0 w0 noX [rdv 12 vl l.length (encs eC l)] []:=(St.refl w0).lend0 hl; have hlm:=hl.2.1; unfold maxLen at hlm; refine W.seq ?_
  refine W.regionL (l:=[0,1,2]) rfl<|mv hf rfl<|?_; clear hf a; intro a hf; refine mv hf rfl ?_; clear hf a; intro a hf; refine mv hf rfl ?_; clear hf a; intro a hf; refine nk<|W.seq<|W.seq<|?_
  refine W.regionL (l:=[0,1,2]) rfl<|mv hf rfl<|?_; clear hf a; intro a hf; refine ov hf rfl (RunV.lenV (e:=26) (by simpa using T_elem_22) rfl (hS.rdAt (j:=0) rfl)) ?_; clear hf a; intro a hf; refine ov (v:=.bool (decide ((l.length:Int)>(500:Int)))) hf rfl (RunV.gtr rfl rfl) ?_; clear hf a; intro a hf; refine nk ?_; refine W.ifdI hf rfl (fun h500=>?_) (fun h500=>?_)
  · refine W.seq ?_
    refine W.regionL (l:=[0,1,2]) rfl<|mv hf rfl<|?_; clear hf a; intro a hf; refine mv hf rfl ?_; clear hf a; intro a hf; refine mv hf rfl ?_; clear hf a; intro a hf; refine nk<|W.ret<|k_then_ret<|post3 hf rfl (ResOK.tmp rfl) (ResOK.tmp rfl) (ResOK.tmp rfl)<|?_; have hS2:=(hS.sub (N:=[]) (List.nil_sublist _)).noB; replace hS2:=(St.bigNil (hS2.nilSl 4 1)).nilSl 46 6; exact ⟨(.slice none 0 0,.slice none 0 0,4,[],[],[]),rfl,hS2,HisR.err (hist_many (by omega))⟩
  · refine W.skip ?_
    refine k_seq<|W.seq<|W.seq<|?_
    refine W.regionL (l:=[0]) rfl<|mv hf rfl<|?_; clear hf a; intro a hf; refine nk<|W.block<|?_
    refine W.loop (G:=(Nat)) (fun g a w=>match g with | i=>Fr a 88 [] [(0,vl),(5,.int .i64 (i:Int))]∧St w0 w noX [rdv 12 vl l.length (encs eC l)] []∧(i≤l.length)∧(∀ j,j<i→okC (l.getD j default)=true)) (fun g=>match g with | i=>l.length-i) 0 ?_ ?_
    · refine ⟨hf.to ⟨rfl,(by first | rfl | exact congrArg some (congrArg (Value.int _) (by omega))),trivial⟩,hS,?_,?_⟩
      · omega
      · intro j hj; omega
    clear hf hS a; rintro i a w ⟨hf,hS,hi,hok⟩; refine W.seq<|W.seq<|?_
    refine W.regionL (l:=[0,1,2,3]) rfl<|mv hf rfl<|?_; clear hf a; intro a hf; refine mv hf rfl ?_; clear hf a; intro a hf; refine ov hf rfl (RunV.lenV (e:=26) (by simpa using T_elem_22) rfl (hS.rdAt (j:=0) rfl)) ?_; clear hf a; intro a hf; refine ov (v:=.bool (decide ((i:Int)<((l.length:Int):Int)))) hf rfl (RunV.lss rfl rfl) ?_; clear hf a; intro a hf; refine nk ?_; refine W.ifdI hf rfl (fun hc2=>?_) (fun hc2=>?_)
    · refine W.skip ?_
      refine k_seq<|W.seq<|W.block<|W.seq<|?_
      refine W.regionL (l:=[0,1,2,3,4,5]) rfl<|mv hf rfl<|?_; clear hf a; intro a hf; refine mv hf rfl ?_; clear hf a; intro a hf; refine ov hf rfl (RunV.ixV (j:=i) (m:=i*12) T_elem_22 T_size_26 rfl rfl (hS.rdAt (j:=0) rfl) rfl (by omega) rfl) ?_; clear hf a; intro a hf; refine ov hf rfl (RunV.ldG (j:=i) (enc:=eC) (l:=l) (us:=[.int .u8 ((l.getD i default).kind),.int .i64 ((l.getD i default).a.num),.int .i64 ((l.getD i default).a.yr),.int .u8 ((l.getD i default).a.half),.int .u8 ((l.getD i default).a.sec),.int .i64 ((l.getD i default).a.cyc),.int .i64 ((l.getD i default).b.num),.int .i64 ((l.getD i default).b.yr),.int .u8 ((l.getD i default).b.half),.int .u8 ((l.getD i default).b.sec),.int .i64 ((l.getD i default).b.cyc),.int .i64 ((l.getD i default).n)]) T_agg_26 T_size_26 rfl eC_len rfl (hS.rdAt (j:=0) rfl) (by omega) rfl) ?_; clear hf a; intro a hf; refine oc hf rfl C_ok_26 (check26_spec (l.getD i default) _ (hr _ (getC (by omega)))) ?_; clear hf a; rintro _ w3 hS1 a hf; replace hS:=hS.cl hS1; refine ov (v:=.bool (decide ((if okC (l.getD i default) then 0 else 8)≠(0:Int)))) hf rfl (RunV.neq rfl rfl) ?_; clear hf a; intro a hf; refine nk ?_; refine W.ifdI hf rfl (fun hcd=>?_) (fun hcd=>?_)
      · refine W.seq ?_
        refine W.regionL (l:=[0,1,2]) rfl<|mv hf rfl<|?_; clear hf a; intro a hf; refine mv hf rfl ?_; clear hf a; intro a hf; refine mv hf rfl ?_; clear hf a; intro a hf; refine nk<|W.ret<|k_blk_ret<|k_then_ret<|k_then_ret<|k_blk_ret<|k_then_ret<|post3 hf rfl (ResOK.tmp rfl) (ResOK.tmp rfl) (ResOK.tmp rfl)<|?_; have hS2:=(hS.sub (N:=[]) (List.nil_sublist _)).noB; replace hS2:=(St.bigNil (hS2.nilSl 4 1)).nilSl 46 6; exact ⟨(.slice none 0 0,.slice none 0 0,8,[],[],[]),rfl,hS2,HisR.err (histM_bad (k:=i) (by omega) (by omega) (okE_neC hcd))⟩
      · refine W.skip ?_
        refine k_blk_normal<|k_seq<|?_
        refine W.regionL (l:=[0,1,2]) rfl<|mv hf rfl<|?_; clear hf a; intro a hf; refine ov hf rfl (RunV.addI rfl rfl (by omega)) ?_; clear hf a; intro a hf; refine mv hf rfl ?_; clear hf a; intro a hf; refine O.nil ?_; refine k_then ⟨(i+1),⟨hf.to ⟨rfl,(by first | rfl | exact congrArg some (congrArg (Value.int _) (by omega))),trivial⟩,?_,?_,?_⟩,?_⟩
        · exact hS.eqM rfl
        · omega
        · intro j hj; by_cases hji:j<i
          · exact hok j hji
          · have:j=i:=by omega
            subst this; exact okE_eqC hcd
        · dsimp only; omega
    · refine W.exit ?_
      refine k_then_exit<|k_then_exit<|k_blk<|k_seq<|W.seq<|?_
      refine W.regionL (l:=[0]) rfl<|mv hf rfl<|?_; clear hf a; intro a hf; refine nk<|W.seq<|?_
      refine W.regionL (l:=[0,1,2,3]) rfl<|mv hf rfl<|?_; clear hf a; intro a hf; refine ov hf rfl (RunV.lenV (e:=26) (by simpa using T_elem_22) rfl (hS.rdAt (j:=0) rfl)) ?_; clear hf a; intro a hf; refine O.make (N:=l.length) hf hS rfl rfl T_elem_51 T_size_4 T_bytes_4 T_zero_4 rfl rfl (by unfold maxLen; omega) (by omega) ?_; intro b_m5 w a hbb_m5 hS hf; have hS:=hS.eqM (N:=[sl 4 1 (.slice (some ⟨b_m5,0,none⟩) l.length l.length) l.length (bools (List.replicate l.length false))]) (by rw [made_bools]); refine mv hf rfl ?_; clear hf a; intro a hf; refine O.nil ?_; obtain ⟨vu,hvv⟩:∃ v:Value,v=.slice (some ⟨b_m5,0,none⟩) l.length l.length:=⟨_,rfl⟩; rw [← hvv] at hf hS; clear hvv; refine k_seq<|W.seq<|?_
      refine W.regionL (l:=[0]) rfl ?_; have hokl:l.all okC=true:=all_getD fun j hj=>hok j (by omega); refine mv hf rfl ?_; clear hf a; intro a hf; refine nk<|W.seq<|W.seq<|?_
      refine W.regionL (l:=[0]) rfl<|mv hf rfl<|?_; clear hf a; intro a hf; refine nk<|W.block<|?_; have hS3:St w0 _ noX [rdv 12 vl l.length (encs eC l)] ([]++([]++[sl 4 1 vu l.length (bools (List.replicate l.length false))])):=hS; replace hS:=hS3.bigClose; clear hS3; replace hS:St w0 _ noX [rdv 12 vl l.length (encs eC l)] [bigA (([]:List Ob).map obA),sl 4 1 vu l.length (bools (List.replicate l.length false))]:=hS; replace hS:=hS.nilSl 46 6; replace hS:St w0 _ noX [rdv 12 vl l.length (encs eC l)] [sl 46 6 (.slice none 0 0) (([]:List Ob).length) (encs eO ([]:List Ob)),bigA (([]:List Ob).map obA),sl 4 1 vu l.length (bools (List.replicate l.length false))]:=hS
      refine W.loop (G:=(Nat) × (Value) × (List Ob) × (List Ob) × (List Bool) × (List PG)) (fun g a w=>match g with | (i,vo,os,all,us,T)=>Fr a 88 [] [(0,vl),(6,vo),(7,vu),(9,.int .i64 (i:Int))]∧St w0 w noX [rdv 12 vl l.length (encs eC l)] [sl 46 6 vo os.length (encs eO os),bigA (all.map obA),sl 4 1 vu us.length (bools us)]∧(i≤l.length)∧(undoK l i=.ok us)∧(playK l us i=.ok T)∧(RefS os T)∧(∀ o ∈ os,o ∈ all)∧(us.length=l.length)) (fun g=>match g with | (i,vo,os,all,us,T)=>l.length-i) (0,.slice none 0 0,[],[],(List.replicate l.length false),[]) ?_ ?_
      · refine ⟨hf.to ⟨rfl,(by first | rfl | exact congrArg some (congrArg (Value.int _) (by omega))),rfl,(by first | rfl | exact congrArg some (congrArg (Value.int _) (by omega))),trivial⟩,hS.eqM (by simp only [List.length_replicate]),?_,?_,?_,?_,?_,?_⟩
        · omega
        · rfl
        · rfl
        · exact refS_nil
        · intro o ho; cases ho
        · simp
      clear hf hS a; rintro ⟨i,vo,os,all,us,T⟩ a w ⟨hf,hS,hi,hun,hpl,href,hsub,hul⟩; refine W.seq<|W.seq<|?_
      refine W.regionL (l:=[0,1,2,3]) rfl<|mv hf rfl<|?_; clear hf a; intro a hf; refine mv hf rfl ?_; clear hf a; intro a hf; refine ov hf rfl (RunV.lenV (e:=26) (by simpa using T_elem_22) rfl (hS.rdAt (j:=0) rfl)) ?_; clear hf a; intro a hf; refine ov (v:=.bool (decide ((i:Int)<((l.length:Int):Int)))) hf rfl (RunV.lss rfl rfl) ?_; clear hf a; intro a hf; refine nk ?_; refine W.ifdI hf rfl (fun hc6=>?_) (fun hc6=>?_)
      · refine W.skip ?_
        refine k_seq<|W.seq<|W.block<|W.seq<|W.seq<|?_
        refine W.regionL (l:=[0,1,2,3,4,5]) rfl<|mv hf rfl<|?_; clear hf a; intro a hf; refine mv hf rfl ?_; clear hf a; intro a hf; refine ov hf rfl (RunV.ixV (j:=i) (m:=i*12) T_elem_22 T_size_26 rfl rfl (hS.rdAt (j:=0) rfl) rfl (by omega) rfl) ?_; clear hf a; intro a hf; refine ov hf rfl (RunV.ixF T_field_26_0 rfl (hS.rdAt (j:=0) rfl) (by omega) rfl) ?_; clear hf a; intro a hf; refine ov hf rfl (RunV.ldG2 (j:=i) (o:=0) (sz:=12) (enc:=eC) (l:=l) T_agg_5 eC_len rfl (hS.rdAt (j:=0) rfl) (by omega) rfl rfl) ?_; clear hf a; intro a hf; refine ov (v:=.bool (decide (((l.getD i default).kind)≠(4:Int)))) hf rfl (RunV.neq rfl rfl) ?_; clear hf a; intro a hf; refine nk ?_; refine W.ifdI hf rfl (fun hk4=>?_) (fun hk4=>?_)
        · refine W.seq ?_
          have hcok:=all_get hokl (j:=i) (by omega); have hcr:=hr _ (getC (l:=l) (j:=i) (by omega)); have hstk:=stok_play hokl hr hi hpl; have hus:=undoK_tail (okC_ns hokl) hi hun i (Nat.le_refl _); have hst:=playK_do hpl hk4 hus
          rcases hst2:stepM T (l.getD i default) with e | T2
          · have hne:=step_ne hst2
            refine W.regionL (l:=[0,1,2,3,4,5,6,7,8,9,10]) rfl<|mv hf rfl<|?_; clear hf a; intro a hf; refine mv hf rfl ?_; clear hf a; intro a hf; refine mv hf rfl ?_; clear hf a; intro a hf; refine ov hf rfl (RunV.ixV (j:=i) (m:=i*12) T_elem_22 T_size_26 rfl rfl (hS.rdAt (j:=0) rfl) rfl (by omega) rfl) ?_; clear hf a; intro a hf; refine ov hf rfl (RunV.ldG (j:=i) (enc:=eC) (l:=l) (us:=[.int .u8 ((l.getD i default).kind),.int .i64 ((l.getD i default).a.num),.int .i64 ((l.getD i default).a.yr),.int .u8 ((l.getD i default).a.half),.int .u8 ((l.getD i default).a.sec),.int .i64 ((l.getD i default).a.cyc),.int .i64 ((l.getD i default).b.num),.int .i64 ((l.getD i default).b.yr),.int .u8 ((l.getD i default).b.half),.int .u8 ((l.getD i default).b.sec),.int .i64 ((l.getD i default).b.cyc),.int .i64 ((l.getD i default).n)]) T_agg_26 T_size_26 rfl eC_len rfl (hS.rdAt (j:=0) rfl) (by omega) rfl) ?_; clear hf a; intro a hf; refine oc hf rfl C_ok_47 (next_E vo os (l.getD i default) _ (hS.slr (j:=0) rfl) (slOK.fit (hS.slAt (j:=0) rfl)) ((hS.obOwn (i:=1) rfl).sub hsub) (hS.obFit (i:=1) rfl hsub) hstk (by omega) href hcok hk4 hcr e hst2) ?_; clear hf a; rintro gvE w8 hS1 a hf; replace hS:=hS.cl hS1; refine mv hf rfl ?_; clear hf a; intro a hf; refine ov hf rfl (RunV.extract rfl rfl) ?_; clear hf a; intro a hf; refine ov hf rfl (RunV.extract rfl rfl) ?_; clear hf a; intro a hf; refine mv hf rfl ?_; clear hf a; intro a hf; refine mv hf rfl ?_; clear hf a; intro a hf; refine nk<|W.seq<|W.seq<|?_
            refine W.regionL (l:=[0,1]) rfl<|mv hf rfl<|?_; clear hf a; intro a hf; refine ov (v:=.bool (decide (e≠(0:Int)))) hf rfl (RunV.neq rfl rfl) ?_; clear hf a; intro a hf; refine nk ?_; have hbc:(decide (e≠(0:Int)))=true:=decide_eq_true hne; simp only [hbc] at hf; clear hbc; refine W.if_tt hf rfl<|W.seq<|?_
            refine W.regionL (l:=[0,1,2,3]) rfl<|mv hf rfl<|?_; clear hf a; intro a hf; refine mv hf rfl ?_; clear hf a; intro a hf; refine mv hf rfl ?_; clear hf a; intro a hf; refine mv hf rfl ?_; clear hf a; intro a hf; refine nk<|W.ret<|k_then_ret<|k_then_ret<|k_blk_ret<|k_then_ret<|k_then_ret<|k_blk_ret<|k_then_ret<|post3 hf rfl (ResOK.tmp rfl) (ResOK.tmp rfl) (ResOK.tmp rfl)<|?_; have hS2:=(hS.sub (N:=[]) (List.nil_sublist _)).noB; replace hS2:=(St.bigNil (hS2.nilSl 4 1)).nilSl 46 6; exact ⟨(.slice none 0 0,.slice none 0 0,e,[],[],[]),rfl,hS2,HisR.err (his_err (by omega) hokl (by omega) hun hk4 (by rw [hst,hst2]))⟩
          ·
            refine W.regionL (l:=[0,1,2,3,4,5,6,7,8,9,10]) rfl<|mv hf rfl<|?_; clear hf a; intro a hf; refine mv hf rfl ?_; clear hf a; intro a hf; refine mv hf rfl ?_; clear hf a; intro a hf; refine ov hf rfl (RunV.ixV (j:=i) (m:=i*12) T_elem_22 T_size_26 rfl rfl (hS.rdAt (j:=0) rfl) rfl (by omega) rfl) ?_; clear hf a; intro a hf; refine ov hf rfl (RunV.ldG (j:=i) (enc:=eC) (l:=l) (us:=[.int .u8 ((l.getD i default).kind),.int .i64 ((l.getD i default).a.num),.int .i64 ((l.getD i default).a.yr),.int .u8 ((l.getD i default).a.half),.int .u8 ((l.getD i default).a.sec),.int .i64 ((l.getD i default).a.cyc),.int .i64 ((l.getD i default).b.num),.int .i64 ((l.getD i default).b.yr),.int .u8 ((l.getD i default).b.half),.int .u8 ((l.getD i default).b.sec),.int .i64 ((l.getD i default).b.cyc),.int .i64 ((l.getD i default).n)]) T_agg_26 T_size_26 rfl eC_len rfl (hS.rdAt (j:=0) rfl) (by omega) rfl) ?_; clear hf a; intro a hf; refine oc hf rfl C_ok_47 (next_O vo os (l.getD i default) _ (hS.slr (j:=0) rfl) (slOK.fit (hS.slAt (j:=0) rfl)) ((hS.obOwn (i:=1) rfl).sub hsub) (hS.obFit (i:=1) rfl hsub) hstk (by omega) href hcok hk4 hcr T2 hst2) ?_; clear hf a; rintro ⟨vo2,os2,new2⟩ w9 ⟨hS1,href2,hsub2⟩ a hf; replace hS:=hS.cl hS1; refine mv hf rfl ?_; clear hf a; intro a hf; refine ov hf rfl (RunV.extract rfl rfl) ?_; clear hf a; intro a hf; refine ov hf rfl (RunV.extract rfl rfl) ?_; clear hf a; intro a hf; refine mv hf rfl ?_; clear hf a; intro a hf; refine mv hf rfl ?_; clear hf a; intro a hf; refine O.nil ?_; replace hS:=hS.fr 4; replace hS:=hS.fr 1; replace hS:=hS.fr 4; replace hS:=hS.fr 3; replace hS:=hS.sl [1,1,1,1]; replace hS:St w0 _ noX [rdv 12 vl l.length (encs eC l)] [bigA ((new2++all).map obA),sl 46 6 vo2 os2.length (encs eO os2),sl 4 1 vu us.length (bools us)]:=St.allMerge hS; refine k_seq<|W.seq<|W.seq<|?_
            refine W.regionL (l:=[0,1]) rfl<|mv hf rfl<|?_; clear hf a; intro a hf; refine ov hf rfl (RunV.toB (c:=false) (RunV.neq rfl rfl) (by decide)) ?_; clear hf a; intro a hf; refine nk<|W.if_ff hf rfl<|W.skip<|k_seq<|W.exit<|k_then_exit<|k_blk<|k_seq<|?_
            refine W.regionL (l:=[0,1,2]) rfl<|mv hf rfl<|?_; clear hf a; intro a hf; refine ov hf rfl (RunV.addI rfl rfl (by omega)) ?_; clear hf a; intro a hf; refine mv hf rfl ?_; clear hf a; intro a hf; refine O.nil ?_; replace hS:=hS.fr 2; replace hS:=hS.fr 1; replace hS:=hS.fr 2; refine k_then ⟨(i+1,vo2,os2,(new2++all),us,T2),⟨hf.to ⟨rfl,(by first | rfl | exact congrArg some (congrArg (Value.int _) (by omega))),rfl,(by first | rfl | exact congrArg some (congrArg (Value.int _) (by omega))),trivial⟩,?_,?_,?_,?_,?_,?_,?_⟩,?_⟩
            · exact hS.eqM rfl
            · omega
            · exact undo_skip hun hk4
            · rw [hst,hst2]
            · exact href2
            · intro o ho; rcases hsub2 o ho with h | h
              · exact List.mem_append_right _ (hsub o h)
              · exact List.mem_append_left _ h
            · omega
            · dsimp only; omega
        · refine W.skip ?_
          refine k_seq<|W.seq<|?_
          refine W.regionL (l:=[0,1,2,3,4,5]) rfl ?_; have hcok:=all_get hokl (j:=i) (by omega); have hk4:(l.getD i default).kind=4:=by omega
          have hn0:=okC_n hcok hk4; obtain ⟨n,hnn⟩:∃ n:Nat,(l.getD i default).n=(n:Int):=⟨(l.getD i default).n.toNat,by omega⟩; have hpm:playM (l.take i) us=.ok T:=(play_take hi (fun _ _=>rfl)).trans hpl; refine mv hf rfl ?_; clear hf a; intro a hf; refine mv hf rfl ?_; clear hf a; intro a hf; refine ov hf rfl (RunV.ixV (j:=i) (m:=i*12) T_elem_22 T_size_26 rfl rfl (hS.rdAt (j:=0) rfl) rfl (by omega) rfl) ?_; clear hf a; intro a hf; refine ov hf rfl (RunV.ixF T_field_26_3 rfl (hS.rdAt (j:=0) rfl) (by omega) rfl) ?_; clear hf a; intro a hf; refine ov (v:=.int .i64 (n:Int)) hf rfl ((RunV.ldG2 (j:=i) (o:=11) (sz:=12) (enc:=eC) (l:=l) T_agg_3 eC_len rfl (hS.rdAt (j:=0) rfl) (by omega) rfl rfl).toV ( by rw [hnn])) ?_; clear hf a; intro a hf; refine mv hf rfl ?_; clear hf a; intro a hf; refine nk<|W.seq<|W.seq<|?_
          refine W.regionL (l:=[0,1,2]) rfl<|mv hf rfl<|?_; clear hf a; intro a hf; refine mv hf rfl ?_; clear hf a; intro a hf; refine ov (v:=.bool (decide ((n:Int)≥((i:Int):Int)))) hf rfl (RunV.geq rfl rfl) ?_; clear hf a; intro a hf; refine nk ?_; refine W.ifdI hf rfl (fun hge=>?_) (fun hge=>?_)
          · refine W.seq ?_
            refine W.regionL (l:=[0,1,2]) rfl<|mv hf rfl<|?_; clear hf a; intro a hf; refine mv hf rfl ?_; clear hf a; intro a hf; refine mv hf rfl ?_; clear hf a; intro a hf; refine nk<|W.ret<|k_then_ret<|k_blk_ret<|k_then_ret<|k_then_ret<|k_blk_ret<|k_then_ret<|post3 hf rfl (ResOK.tmp rfl) (ResOK.tmp rfl) (ResOK.tmp rfl)<|?_; have hS2:=(hS.sub (N:=[]) (List.nil_sublist _)).noB; replace hS2:=(St.bigNil (hS2.nilSl 4 1)).nilSl 46 6; exact ⟨(.slice none 0 0,.slice none 0 0,6,[],[],[]),rfl,hS2,HisR.err (histM_err (by omega) hokl (undo_n hun hk4 hpm (by omega)) (by omega))⟩
          · refine W.skip ?_
            refine k_seq<|W.seq<|W.seq<|?_
            refine W.regionL (l:=[0,1,2,3,4,5,6,7,8,9,10,11]) rfl ?_; have hlt:(l.getD i default).n<(i:Int):=by rw [hnn]; omega
            refine mv hf rfl ?_; clear hf a; intro a hf; refine mv hf rfl ?_; clear hf a; intro a hf; refine ov hf rfl (RunV.ixV (j:=n) (m:=n*12) T_elem_22 T_size_26 rfl rfl (hS.rdAt (j:=0) rfl) rfl (by omega) rfl) ?_; clear hf a; intro a hf; refine ov hf rfl (RunV.ixF T_field_26_0 rfl (hS.rdAt (j:=0) rfl) (by omega) rfl) ?_; clear hf a; intro a hf; refine ov hf rfl (RunV.ldG2 (j:=n) (o:=0) (sz:=12) (enc:=eC) (l:=l) T_agg_5 eC_len rfl (hS.rdAt (j:=0) rfl) (by omega) rfl rfl) ?_; clear hf a; intro a hf; refine ov (v:=.bool (decide (((l.getD n default).kind)=(4:Int)))) hf rfl (RunV.eql rfl rfl) ?_; clear hf a; intro a hf; refine mv hf rfl ?_; clear hf a; intro a hf
            refine O.cutN (l₁:=[7,8,9,10,11]) (l₂:=_) (fun a w=>Fr a 88 [] [(0,vl),(6,vo),(7,vu),(9,.int .i64 (i:Int)),(10,.int .i64 (n:Int)),(61,vl),(62,.int .i64 (n:Int)),(63,ix vl (n*12)),(64,ix vl (n*12)),(65,.int .u8 ((l.getD n default).kind)),(66,.bool (decide (((l.getD n default).kind)=(4:Int)))),(67,.bool (decide (((l.getD n default).kind)=(4:Int)))),(72,.bool ((decide (((l.getD n default).kind)=(4:Int)))||(us.getD n false)))]∧St w0 w noX [rdv 12 vl l.length (encs eC l)] [sl 46 6 vo os.length (encs eO os),bigA (all.map obA),sl 4 1 vu us.length (bools us)]) rfl ?_ ?_
            · rcases Bool.eq_false_or_eq_true (decide (((l.getD n default).kind)=(4:Int))) with hb11 | hb11
              · have hb11p:=of_decide_eq_true hb11
                refine sk hf rfl hb11 fun a hf=>sk hf rfl hb11 fun a hf=>sk hf rfl hb11 fun a hf=>sk hf rfl hb11 fun a hf=>?_; refine ov (v:=.bool ((decide (((l.getD n default).kind)=(4:Int)))||(us.getD n false))) hf rfl (RunV.pick rfl rfl rfl (by rw [hb11]; rfl)) ?_; clear hf a; intro a hf; exact O.nil ⟨rfl,hf.q rfl,hS⟩
              · have hb11p:=of_decide_eq_false hb11
                refine og (v:=vu) hf rfl hb11 (RunV.move rfl) ?_; clear hf a; intro a hf; refine og (v:=.int .i64 (n:Int)) hf rfl hb11 (RunV.move rfl) ?_; clear hf a; intro a hf; refine og (v:=ix vu n) hf rfl hb11 (RunV.ixV (j:=n) (m:=n) T_elem_51 T_size_4 rfl rfl (hS.slr (j:=2) rfl) rfl (by omega) (Nat.mul_one _)) ?_; clear hf a; intro a hf; refine og (v:=.bool (us.getD n false)) hf rfl hb11 (RunV.ld1 T_agg_4 rfl (hS.slr (j:=2) rfl) (bools_get (by omega))) ?_; clear hf a; intro a hf; refine ov (v:=.bool ((decide (((l.getD n default).kind)=(4:Int)))||(us.getD n false))) hf rfl (RunV.pick rfl rfl rfl (by rw [hb11]; rfl)) ?_; clear hf a; intro a hf; exact O.nil ⟨rfl,hf.q rfl,hS⟩
            clear hf hS a; rintro a w ⟨hf,hS⟩; refine nk ?_; refine W.if_ hf rfl (fun hsk2=>?_) (fun hsk2=>?_)
            · have hsk2b:=hsk2
              try simp only [Bool.and_eq_true,Bool.or_eq_true,Bool.and_eq_false_iff,Bool.or_eq_false_iff,decide_eq_true_eq,decide_eq_false_iff_not,Bool.not_eq_true',Bool.not_eq_false',Bool.not_eq_true,Bool.not_eq_false,ne_eq] at hsk2
              refine W.seq ?_
              refine W.regionL (l:=[0,1,2]) rfl<|mv hf rfl<|?_; clear hf a; intro a hf; refine mv hf rfl ?_; clear hf a; intro a hf; refine mv hf rfl ?_; clear hf a; intro a hf; refine nk<|W.ret<|k_then_ret<|k_blk_ret<|k_then_ret<|k_then_ret<|k_blk_ret<|k_then_ret<|post3 hf rfl (ResOK.tmp rfl) (ResOK.tmp rfl) (ResOK.tmp rfl)<|?_; have hS2:=(hS.sub (N:=[]) (List.nil_sublist _)).noB; replace hS2:=(St.bigNil (hS2.nilSl 4 1)).nilSl 46 6; exact ⟨(.slice none 0 0,.slice none 0 0,36,[],[],[]),rfl,hS2,HisR.err (histM_err (k:=i+1) (by omega) hokl (by first | exact undo_state hun hk4 hpm hlt (by rw [hnn,Int.toNat_natCast]; exact sk_yes hsk2b) | exact undo_again hun hk4 hpm hlt (by rw [hnn,Int.toNat_natCast]; exact sk_no hsk2b) (by rw [hnn,Int.toNat_natCast]; exact hst2)) (by omega))⟩
            · have hsk2b:=hsk2
              try simp only [Bool.and_eq_true,Bool.or_eq_true,Bool.and_eq_false_iff,Bool.or_eq_false_iff,decide_eq_true_eq,decide_eq_false_iff_not,Bool.not_eq_true',Bool.not_eq_false',Bool.not_eq_true,Bool.not_eq_false,ne_eq] at hsk2
              refine W.skip<|k_seq<|W.seq<|?_
              refine W.regionL (l:=[0,1,2,3]) rfl<|mv hf rfl<|?_; clear hf a; intro a hf; refine mv hf rfl ?_; clear hf a; intro a hf; refine ov hf rfl (RunV.ixV (j:=n) (m:=n) T_elem_51 T_size_4 rfl rfl (hS.slr (j:=2) rfl) rfl (by omega) (Nat.mul_one _)) ?_; clear hf a; intro a hf; refine O.storeSl (j:=2) (m:=n) (xs':=bools (us.set n true)) (M':=[sl 46 6 vo os.length (encs eO os),bigA (all.map obA),sl 4 1 vu us.length (bools (us.set n true))]) hf hS rfl rfl rfl T_size_4 rfl rfl rfl (by simp only [bools_len]; omega) bools_set rfl rfl ?_; intro w hS; refine nk<|W.seq<|?_; have hokt:(l.take i).all okC=true:=List.all_eq_true.2 fun c hc=>List.all_eq_true.1 hokl c (List.mem_of_mem_take hc); have hrt:∀ c ∈ l.take i,rC c:=fun c hc=>hr c (List.mem_of_mem_take hc)
              rcases hst2:playM (l.take i) (us.set n true) with e | T2
              · have hne:=playM_ne hst2
                refine W.regionL (l:=[0,1,2,3,4,5,6,7,8,9]) rfl<|mv hf rfl<|?_; clear hf a; intro a hf; refine mv hf rfl ?_; clear hf a; intro a hf; refine ov (v:=(vsub 12 vl 0 (i:Int))) hf rfl (RunV.sliceH T_elem_22 T_size_26 rfl rfl (enc:=eC) (l:=l) ⟨hS.rdAt (j:=0) rfl,hfit⟩ ⟨by omega,by omega,by omega⟩) ?_; clear hf a; intro a hf; refine mv hf rfl ?_; clear hf a; intro a hf; refine oc hf rfl C_ok_48 (does_E (vsub 12 vl 0 (i:Int)) (l.take i) vu (us.set n true) _ (take_rd (hS.rdAt (j:=0) rfl) hfit (by omega)) (by rw [List.length_set]; exact hS.slr (j:=2) rfl) (by rw [List.length_set,List.length_take]; omega) (by rw [List.length_take]; omega) hokt hrt e hst2) ?_; clear hf a; rintro gvE w13 hS1 a hf; replace hS:=hS.cl hS1; refine mv hf rfl ?_; clear hf a; intro a hf; refine ov hf rfl (RunV.extract rfl rfl) ?_; clear hf a; intro a hf; refine ov hf rfl (RunV.extract rfl rfl) ?_; clear hf a; intro a hf; refine mv hf rfl ?_; clear hf a; intro a hf; refine mv hf rfl ?_; clear hf a; intro a hf; refine nk<|W.seq<|?_
                refine W.regionL (l:=[0,1]) rfl<|mv hf rfl<|?_; clear hf a; intro a hf; refine ov (v:=.bool (decide (e≠(0:Int)))) hf rfl (RunV.neq rfl rfl) ?_; clear hf a; intro a hf; refine nk ?_; have hbc:(decide (e≠(0:Int)))=true:=decide_eq_true hne; simp only [hbc] at hf; clear hbc; refine W.if_tt hf rfl<|W.seq<|?_
                refine W.regionL (l:=[0,1,2]) rfl<|mv hf rfl<|?_; clear hf a; intro a hf; refine mv hf rfl ?_; clear hf a; intro a hf; refine mv hf rfl ?_; clear hf a; intro a hf; refine nk<|W.ret<|k_blk_ret<|k_then_ret<|k_then_ret<|k_blk_ret<|k_then_ret<|post3 hf rfl (ResOK.tmp rfl) (ResOK.tmp rfl) (ResOK.tmp rfl)<|?_; have hS2:=(hS.sub (N:=[]) (List.nil_sublist _)).noB; replace hS2:=(St.bigNil (hS2.nilSl 4 1)).nilSl 46 6; exact ⟨(.slice none 0 0,.slice none 0 0,36,[],[],[]),rfl,hS2,HisR.err (histM_err (k:=i+1) (by omega) hokl (by first | exact undo_state hun hk4 hpm hlt (by rw [hnn,Int.toNat_natCast]; exact sk_yes hsk2b) | exact undo_again hun hk4 hpm hlt (by rw [hnn,Int.toNat_natCast]; exact sk_no hsk2b) (by rw [hnn,Int.toNat_natCast]; exact hst2)) (by omega))⟩
              · have hun2:undoK l (i+1)=.ok (us.set n true):=by
                  have h:=undo_ok hun hk4 hpm hlt (by rw [hnn,Int.toNat_natCast]; exact sk_no hsk2b) (by rw [hnn,Int.toNat_natCast]; exact hst2); rw [hnn,Int.toNat_natCast] at h; exact h
                have hpl2:playK l (us.set n true) (i+1)=.ok T2:=playK_no ((play_take hi (fun _ _=>rfl)).symm.trans hst2) (fun h=>h.1 hk4)
                refine W.regionL (l:=[0,1,2,3,4,5,6,7,8,9]) rfl<|mv hf rfl<|?_; clear hf a; intro a hf; refine mv hf rfl ?_; clear hf a; intro a hf; refine ov (v:=(vsub 12 vl 0 (i:Int))) hf rfl (RunV.sliceH T_elem_22 T_size_26 rfl rfl (enc:=eC) (l:=l) ⟨hS.rdAt (j:=0) rfl,hfit⟩ ⟨by omega,by omega,by omega⟩) ?_; clear hf a; intro a hf; refine mv hf rfl ?_; clear hf a; intro a hf; refine oc hf rfl C_ok_48 (does_O (vsub 12 vl 0 (i:Int)) (l.take i) vu (us.set n true) _ (take_rd (hS.rdAt (j:=0) rfl) hfit (by omega)) (by rw [List.length_set]; exact hS.slr (j:=2) rfl) (by rw [List.length_set,List.length_take]; omega) (by rw [List.length_take]; omega) hokt hrt T2 hst2) ?_; clear hf a; rintro ⟨vo2,os2,new2⟩ w14 ⟨hS1,href2,hsub2⟩ a hf; replace hS:=hS.cl hS1; refine mv hf rfl ?_; clear hf a; intro a hf; refine ov hf rfl (RunV.extract rfl rfl) ?_; clear hf a; intro a hf; refine ov hf rfl (RunV.extract rfl rfl) ?_; clear hf a; intro a hf; refine mv hf rfl ?_; clear hf a; intro a hf; refine mv hf rfl ?_; clear hf a; intro a hf; refine O.nil ?_; replace hS:=hS.fr 4; replace hS:=hS.fr 1; replace hS:=hS.fr 4; replace hS:=hS.fr 3; replace hS:=hS.sl [1,1,1,1]; replace hS:St w0 _ noX [rdv 12 vl l.length (encs eC l)] [bigA ((new2++all).map obA),sl 46 6 vo2 os2.length (encs eO os2),sl 4 1 vu us.length (bools (us.set n true))]:=St.allMerge hS; refine k_seq<|W.seq<|?_
                refine W.regionL (l:=[0,1]) rfl<|mv hf rfl<|?_; clear hf a; intro a hf; refine ov hf rfl (RunV.toB (c:=false) (RunV.neq rfl rfl) (by decide)) ?_; clear hf a; intro a hf; refine nk<|W.if_ff hf rfl<|W.skip<|k_blk_normal<|k_seq<|?_
                refine W.regionL (l:=[0,1,2]) rfl<|mv hf rfl<|?_; clear hf a; intro a hf; refine ov hf rfl (RunV.addI rfl rfl (by omega)) ?_; clear hf a; intro a hf; refine mv hf rfl ?_; clear hf a; intro a hf; refine O.nil ?_; replace hS:=hS.fr 2; replace hS:=hS.fr 1; replace hS:=hS.fr 2; refine k_then ⟨(i+1,vo2,os2,(new2++all),(us.set n true),T2),⟨hf.to ⟨rfl,(by first | rfl | exact congrArg some (congrArg (Value.int _) (by omega))),rfl,(by first | rfl | exact congrArg some (congrArg (Value.int _) (by omega))),trivial⟩,?_,?_,?_,?_,?_,?_,?_⟩,?_⟩
                · exact hS.eqM (by simp only [List.length_set])
                · omega
                · exact hun2
                · exact hpl2
                · exact href2
                · intro o ho; exact List.mem_append_left _ (hsub2 o ho)
                · rw [List.length_set]; exact hul
                · dsimp only; omega
      · refine W.exit ?_
        refine k_then_exit<|k_then_exit<|k_blk<|k_seq<|W.seq<|?_
        refine W.regionL (l:=[0,1,2,3,4]) rfl<|mv hf rfl<|?_; clear hf a; intro a hf; refine mv hf rfl ?_; clear hf a; intro a hf; refine mv hf rfl ?_; clear hf a; intro a hf; refine mv hf rfl ?_; clear hf a; intro a hf; refine mv hf rfl ?_; clear hf a; intro a hf; refine nk<|W.ret<|post3 hf rfl (ResOK.tmp rfl) (ResOK.tmp rfl) (ResOK.tmp rfl)<|?_; replace hS:=hS.fr 1; replace hS:=hS.fr 2; replace hS:=hS.fr 2; exact ⟨(vo,vu,0,os,us,all),rfl,(hS.sub (N:=[sl 46 6 vo os.length (encs eO os),sl 4 1 vu us.length (bools us),bigA (all.map obA)]) (.cons_cons _ (.cons_cons _ (.cons_cons _ .slnil)))).noB,HisR.ok (S:=T) (hist_ok (by omega) hokl (by rw [show l.length=i by omega]; exact hun) (by unfold playM; rw [show l.length=i by omega]; exact hpl)) href hsub⟩
end Go.Proofs.YtgakdmmmljdpjaaDoor

namespace Go.SL
open Go
section
variable {l:List Ch} {c:Ch} {e:Int} {r:List PG × List Bool}
end
def AppR (l:List Ch) (c:Ch) (e:Int) (r:List Ch) (v:Value):Prop:=(∃ e',appM l c=.error e'∧e=e'∧r=[]∧v=.slice none 0 0)∨(∃ S us,appM l c=.ok (S,us)∧e=0∧r=l++[c])
theorem great_len {n:Nat} (h:greatM n=false):n≤600:=by
  unfold greatM at h
  simp only [Bool.or_eq_false_iff,Bool.and_eq_false_iff,decide_eq_false_iff_not] at h
  omega
end Go.SL
namespace Go.Proofs.YtgakdmmmljdpjaaDoor
open Go Go.SL
section
variable (vl:Value) (l:List Ch) (w0:World) (hl:rdOK (hp w0) 12 vl l.length (encs eC l)) (hfit:vfit vl) (hr:∀ c ∈ l,rC c)
include hl hfit hr
theorem hisE (e:Int) (h:histM l=.error e):Ret Tryd.prog 34 #[vl] w0 (G:=Value × Value) (fun g=>.tuple #[g.1,g.2,.int .i64 e]) (fun _ w=>St w0 w noX [] []) :=
  (history_ref vl l w0 hl hfit hr).mono fun g w ⟨h1,h2⟩=>by
    unfold HisR at h2
    rw [h] at h2
    exact ⟨(g.1,g.2.1),by rw [h2.1],(h1.sub (List.nil_sublist _)).noB⟩
theorem hisO (S:List PG) (us:List Bool) (h:histM l=.ok (S,us)):Ret Tryd.prog 34 #[vl] w0 (G:=Value × Value × List Ob × List Ob) (fun g=>.tuple #[g.1,g.2.1,.int .i64 0])
    (fun g w=>St w0 w noX [] [sl 46 6 g.1 g.2.2.1.length (encs eO g.2.2.1),sl 4 1 g.2.1 us.length (bools us),bigA (g.2.2.2.map obA)]∧RefS g.2.2.1 S∧∀ o ∈ g.2.2.1,o ∈ g.2.2.2) :=
  (history_ref vl l w0 hl hfit hr).mono fun g w ⟨h1,h2⟩=>by
    unfold HisR at h2
    rw [h] at h2
    obtain ⟨h3,h4,h5,h6⟩:=h2
    rw [h4] at h1
    exact ⟨(g.1,g.2.1,g.2.2.2.1,g.2.2.2.2.2),by rw [h3],h1,h5,h6⟩
end
theorem sameChanges_true (va:Value) (l:List Ch) (vb:Value) (m:List Ch) (w0:World) (ha:rdOK (hp w0) 12 va l.length (encs eC l)) (hb:rdOK (hp w0) 12 vb m.length (encs eC m)) (h:l=m) :
    Ret Tryd.prog 13 #[va,vb] w0 (G:=Unit) (fun _=>.bool true) (fun _ w=>St w0 w noX [] []):=by
  have h3:=sameChanges_spec va l vb m w0 ha hb
  rw [decide_eq_true h] at h3
  exact h3
end Go.Proofs.YtgakdmmmljdpjaaDoor

namespace Go.SL
open Go
theorem ref_p {os:List Ob} {S:List PG} {k:Nat} (hS:StOK S k) (hp:RefS os S):∀ o ∈ os,okD o.p=true∧rD o.p:=fun o ho=>by
  obtain ⟨p,h1,h2⟩:=ref_ob hp ho
  have h3:o.p=(sortDs p.1).getD 0 default:=congrArg Prod.fst h2
  have h4:=hd_mem (hS.ok p h1).1
  rw [h3]
  exact ⟨(hS.ok p h1).2 _ h4,hS.r p h1 _ h4⟩
theorem stok_hist {l:List Ch} {S:List PG} {us:List Bool} (hr:∀ c ∈ l,rC c) (hm:histM l=.ok (S,us)):StOK S 500 :=
  ⟨wf_hist hm,okS_hist hm,rS_hist hr hm,tot_hist hm⟩
theorem ord_objs {os os':List Ob} {S:List PG} (hw:wfS S) (hp:RefS os S) (h1:os'.Perm os) (h2:os'.Pairwise fun x y=>cmpD x.p y.p≤0):os'.map prO=objsM S:=by
  refine (sorted_eq (objs_inj hw) (hp.symm.trans (h1.map prO).symm) ?_).symm
  rw [List.pairwise_map]
  exact h2.imp fun {a b} h=>(leO_iff (x:=prO a) (y:=prO b)).2 (by simpa only [prO] using h)
theorem rdO_nil {w:World}:rdOK (hp w) 6 (.slice none 0 0) ([]:List Ob).length (encs eO []):=(rdEOK_nil (enc:=eO)).1
theorem rdD_nil {w:World}:rdOK (hp w) 5 (.slice none 0 0) ([]:List Dg).length (encs eD []):=(rdEOK_nil (enc:=eD)).1
theorem rdB_nil {w:World}:rdOK (hp w) 1 (.slice none 0 0) ([]:List Bool).length (bools []):=by
  have h:slOK (hp w) 4 1 (.slice none 0 0) 0 ([]:List Value):=⟨rfl,.inl ⟨rfl,rfl⟩⟩
  exact h.rd
end Go.SL
namespace Go.Proofs.YtgakdmmmljdpjaaDoor
open Go Go.SL
theorem hisEu (vl:Value) (l:List Ch) (w0:World) (hl:rdOK (hp w0) 12 vl l.length (encs eC l)) (hfit:vfit vl) (hr:∀ c ∈ l,rC c) (e:Int) (h:histM l=.error e) :
    Ret Tryd.prog 34 #[vl] w0 (G:=Value × Value) (fun g=>.tuple #[g.1,g.2,.int .i64 e]) (fun g w=>St w0 w noX [] [sl 4 1 g.2 ([]:List Bool).length (bools [])]) :=
  (history_ref vl l w0 hl hfit hr).mono fun g w ⟨h1,h2⟩=>by
    unfold HisR at h2
    rw [h] at h2
    obtain ⟨h3,h4,h5,h6⟩:=h2
    rw [h5] at h1
    exact ⟨(g.1,g.2.1),by rw [h3],(h1.sub (N:=[sl 4 1 g.2.1 ([]:List Bool).length (bools [])]) (.cons _ (.cons_cons _ (.cons _ .slnil)))).noB⟩
end Go.Proofs.YtgakdmmmljdpjaaDoor

set_option maxHeartbeats 1000000
set_option maxRecDepth 8000
namespace Go.Proofs.YtgakdmmmljdpjaaDoor
open Go Go.SL
theorem C_ok_34:callOK Tryd.prog 34=true:=by kernel_rfl
theorem C_ok_42:callOK Tryd.prog 42=true:=by kernel_rfl
set_option maxHeartbeats 400000 in
set_option maxRecDepth 4000 in
theorem runR_E (vl:Value) (l:List Ch) (w0:World) (hl:rdOK (hp w0) 12 vl l.length (encs eC l)) (hfit:vfit vl) (hr:∀ c ∈ l,rC c) (e:Int) (hm:histM l=.error e) :
    Ret Tryd.prog 22 #[vl] w0 (G:=Unit) (fun _=>.tuple #[.slice none 0 0,.int .i64 e]) (fun _ w=>St w0 w noX [] []):=by
  refine ret_of_W (lv:=[vl]) Tryd.func22 rfl rfl rfl (fun a hf=>?_); replace hf:Fr a 18 [] [(0,vl)]:=hf; have hS:St w0 w0 noX [rdv 12 vl l.length (encs eC l)] []:=(St.refl w0).lend0 hl; have hlm:=hl.2.1; unfold maxLen at hlm; have he0:=histM_ne hm; refine W.seq ?_
  refine W.regionL (l:=[0,1]) rfl<|mv hf rfl<|?_; clear hf a; intro a hf; refine mv hf rfl ?_; clear hf a; intro a hf; refine nk<|W.seq<|?_
  refine W.regionL (l:=[0,1,2,3,4,5,6,7,8]) rfl<|mv hf rfl<|?_; clear hf a; intro a hf; refine oc hf rfl C_ok_34 (hisE vl l _ (hS.rdAt (j:=0) rfl) hfit hr e hm) ?_; clear hf a; rintro ⟨gn1,gm1⟩ w1 hS1 a hf; replace hS:=hS.cl hS1; refine mv hf rfl ?_; clear hf a; intro a hf; refine ov hf rfl (RunV.extract rfl rfl) ?_; clear hf a; intro a hf; refine ov hf rfl (RunV.extract rfl rfl) ?_; clear hf a; intro a hf; refine ov hf rfl (RunV.extract rfl rfl) ?_; clear hf a; intro a hf; refine mv hf rfl ?_; clear hf a; intro a hf; refine mv hf rfl ?_; clear hf a; intro a hf; refine mv hf rfl ?_; clear hf a; intro a hf; refine nk<|W.seq<|W.seq<|?_
  refine W.regionL (l:=[0,1]) rfl<|mv hf rfl<|?_; clear hf a; intro a hf; refine ov (v:=.bool (decide (e≠(0:Int)))) hf rfl (RunV.neq rfl rfl) ?_; clear hf a; intro a hf; refine nk ?_; have hbc:(decide (e≠(0:Int)))=true:=decide_eq_true he0; simp only [hbc] at hf; clear hbc; refine W.if_tt hf rfl<|W.seq<|?_
  refine W.regionL (l:=[0,1,2]) rfl<|mv hf rfl<|?_; clear hf a; intro a hf; refine mv hf rfl ?_; clear hf a; intro a hf; refine mv hf rfl ?_; clear hf a; intro a hf; refine nk<|W.ret<|k_then_ret<|post2 hf rfl (ResOK.tmp rfl) (ResOK.tmp rfl)<|?_; exact ⟨(),rfl,hS.sub (List.nil_sublist _) |>.noB⟩
set_option maxHeartbeats 400000 in
set_option maxRecDepth 4000 in
theorem runR_O (vl:Value) (l:List Ch) (w0:World) (hl:rdOK (hp w0) 12 vl l.length (encs eC l)) (hfit:vfit vl) (hr:∀ c ∈ l,rC c) (S:List PG) (us:List Bool) (hm:histM l=.ok (S,us)) :
    Ret Tryd.prog 22 #[vl] w0 (G:=Value × List Ob × List Ob) (fun g=>.tuple #[g.1,.int .i64 0]) (fun g w=>St w0 w noX [] [sl 46 6 g.1 g.2.1.length (encs eO g.2.1),bigA (g.2.2.map obA)]∧g.2.1.map prO=objsM S∧∀ o ∈ g.2.1,o ∈ g.2.2):=by
  refine ret_of_W (lv:=[vl]) Tryd.func22 rfl rfl rfl (fun a hf=>?_); replace hf:Fr a 18 [] [(0,vl)]:=hf; have hS:St w0 w0 noX [rdv 12 vl l.length (encs eC l)] []:=(St.refl w0).lend0 hl; have hlm:=hl.2.1; unfold maxLen at hlm; refine W.seq ?_
  refine W.regionL (l:=[0,1]) rfl<|mv hf rfl<|?_; clear hf a; intro a hf; refine mv hf rfl ?_; clear hf a; intro a hf; refine nk<|W.seq<|?_
  refine W.regionL (l:=[0,1,2,3,4,5,6,7,8]) rfl<|mv hf rfl<|?_; clear hf a; intro a hf; refine oc hf rfl C_ok_34 (hisO vl l _ (hS.rdAt (j:=0) rfl) hfit hr S us hm) ?_; clear hf a; rintro ⟨vo1,vu1,os1,all1⟩ w1 ⟨hS1,href1,hsub1⟩ a hf; replace hS:=hS.cl hS1; refine mv hf rfl ?_; clear hf a; intro a hf; refine ov hf rfl (RunV.extract rfl rfl) ?_; clear hf a; intro a hf; refine ov hf rfl (RunV.extract rfl rfl) ?_; clear hf a; intro a hf; refine ov hf rfl (RunV.extract rfl rfl) ?_; clear hf a; intro a hf; refine mv hf rfl ?_; clear hf a; intro a hf; refine mv hf rfl ?_; clear hf a; intro a hf; refine mv hf rfl ?_; clear hf a; intro a hf; refine nk<|W.seq<|W.seq<|?_
  refine W.regionL (l:=[0,1]) rfl<|mv hf rfl<|?_; clear hf a; intro a hf; refine ov hf rfl (RunV.toB (c:=false) (RunV.neq rfl rfl) (by decide)) ?_; clear hf a; intro a hf; refine nk<|W.if_ff hf rfl<|W.skip<|k_seq<|W.seq<|?_
  refine W.regionL (l:=[0,1,2,3]) rfl<|mv hf rfl<|?_; clear hf a; intro a hf; refine oc hf rfl C_ok_42 (ordered_spec vo1 os1 _ (hS.slr (j:=0) rfl) (ref_p (stok_hist hr hm) href1) (by have:=ref_len (stok_hist hr hm) (show RefS os1 S from href1); omega)) ?_; clear hf a; rintro ⟨vr,osr⟩ w2 ⟨hS1,hpr,hsr⟩ a hf; replace hS:=hS.cl hS1; refine mv hf rfl ?_; clear hf a; intro a hf; refine mv hf rfl ?_; clear hf a; intro a hf; refine nk<|W.ret<|post2 hf rfl (ResOK.tmp rfl) (ResOK.tmp rfl)<|?_; exact ⟨(vr,osr,all1),rfl,(hS.sub (N:=[sl 46 6 vr osr.length (encs eO osr),bigA (all1.map obA)]) (.cons_cons _ (.cons _ (.cons _ (.cons_cons _ .slnil))))).noB,ord_objs (stok_hist hr hm).wf href1 hpr hsr,fun o ho=>hsub1 o (hpr.mem_iff.1 ho)⟩
set_option maxHeartbeats 400000 in
set_option maxRecDepth 4000 in
theorem undR_E (vl:Value) (l:List Ch) (w0:World) (hl:rdOK (hp w0) 12 vl l.length (encs eC l)) (hfit:vfit vl) (hr:∀ c ∈ l,rC c) (e:Int) (hm:histM l=.error e) :
    Ret Tryd.prog 23 #[vl] w0 (G:=Value) (fun g=>.tuple #[g,.int .i64 e]) (fun g w=>St w0 w noX [] [sl 4 1 g ([]:List Bool).length (bools [])]):=by
  refine ret_of_W (lv:=[vl]) Tryd.func23 rfl rfl rfl (fun a hf=>?_); replace hf:Fr a 15 [] [(0,vl)]:=hf; have hS:St w0 w0 noX [rdv 12 vl l.length (encs eC l)] []:=(St.refl w0).lend0 hl; have hlm:=hl.2.1; unfold maxLen at hlm; refine W.seq ?_
  refine W.regionL (l:=[0,1]) rfl<|mv hf rfl<|?_; clear hf a; intro a hf; refine mv hf rfl ?_; clear hf a; intro a hf; refine nk<|W.seq<|?_
  refine W.regionL (l:=[0,1,2,3,4,5,6,7,8]) rfl<|mv hf rfl<|?_; clear hf a; intro a hf; refine oc hf rfl C_ok_34 (hisEu vl l _ (hS.rdAt (j:=0) rfl) hfit hr e hm) ?_; clear hf a; rintro ⟨gn1,gm1⟩ w1 hS1 a hf; replace hS:=hS.cl hS1; refine mv hf rfl ?_; clear hf a; intro a hf; refine ov hf rfl (RunV.extract rfl rfl) ?_; clear hf a; intro a hf; refine ov hf rfl (RunV.extract rfl rfl) ?_; clear hf a; intro a hf; refine ov hf rfl (RunV.extract rfl rfl) ?_; clear hf a; intro a hf; refine mv hf rfl ?_; clear hf a; intro a hf; refine mv hf rfl ?_; clear hf a; intro a hf; refine mv hf rfl ?_; clear hf a; intro a hf; refine nk<|W.seq<|?_
  refine W.regionL (l:=[0,1,2,3]) rfl<|mv hf rfl<|?_; clear hf a; intro a hf; refine mv hf rfl ?_; clear hf a; intro a hf; refine mv hf rfl ?_; clear hf a; intro a hf; refine mv hf rfl ?_; clear hf a; intro a hf; refine nk<|W.ret<|post2 hf rfl (ResOK.tmp rfl) (ResOK.tmp rfl)<|?_; exact ⟨gm1,rfl,(hS.sub (N:=[sl 4 1 gm1 (([]:List Bool).length) (bools ([]:List Bool))]) (.cons_cons _ .slnil)).noB⟩
set_option maxHeartbeats 400000 in
set_option maxRecDepth 4000 in
theorem undR_O (vl:Value) (l:List Ch) (w0:World) (hl:rdOK (hp w0) 12 vl l.length (encs eC l)) (hfit:vfit vl) (hr:∀ c ∈ l,rC c) (S:List PG) (us:List Bool) (hm:histM l=.ok (S,us)) :
    Ret Tryd.prog 23 #[vl] w0 (G:=Value) (fun g=>.tuple #[g,.int .i64 0]) (fun g w=>St w0 w noX [] [sl 4 1 g us.length (bools us)]):=by
  refine ret_of_W (lv:=[vl]) Tryd.func23 rfl rfl rfl (fun a hf=>?_); replace hf:Fr a 15 [] [(0,vl)]:=hf; have hS:St w0 w0 noX [rdv 12 vl l.length (encs eC l)] []:=(St.refl w0).lend0 hl; have hlm:=hl.2.1; unfold maxLen at hlm; refine W.seq ?_
  refine W.regionL (l:=[0,1]) rfl<|mv hf rfl<|?_; clear hf a; intro a hf; refine mv hf rfl ?_; clear hf a; intro a hf; refine nk<|W.seq<|?_
  refine W.regionL (l:=[0,1,2,3,4,5,6,7,8]) rfl<|mv hf rfl<|?_; clear hf a; intro a hf; refine oc hf rfl C_ok_34 (hisO vl l _ (hS.rdAt (j:=0) rfl) hfit hr S us hm) ?_; clear hf a; rintro ⟨vo1,vu1,os1,all1⟩ w1 ⟨hS1,href1,hsub1⟩ a hf; replace hS:=hS.cl hS1; refine mv hf rfl ?_; clear hf a; intro a hf; refine ov hf rfl (RunV.extract rfl rfl) ?_; clear hf a; intro a hf; refine ov hf rfl (RunV.extract rfl rfl) ?_; clear hf a; intro a hf; refine ov hf rfl (RunV.extract rfl rfl) ?_; clear hf a; intro a hf; refine mv hf rfl ?_; clear hf a; intro a hf; refine mv hf rfl ?_; clear hf a; intro a hf; refine mv hf rfl ?_; clear hf a; intro a hf; refine nk<|W.seq<|?_
  refine W.regionL (l:=[0,1,2,3]) rfl<|mv hf rfl<|?_; clear hf a; intro a hf; refine mv hf rfl ?_; clear hf a; intro a hf; refine mv hf rfl ?_; clear hf a; intro a hf; refine mv hf rfl ?_; clear hf a; intro a hf; refine nk<|W.ret<|post2 hf rfl (ResOK.tmp rfl) (ResOK.tmp rfl)<|?_; exact ⟨vu1,rfl,(hS.sub (N:=[sl 4 1 vu1 us.length (bools us)]) (.cons _ (.cons_cons _ (.cons _ .slnil)))).noB⟩
set_option maxHeartbeats 400000 in
set_option maxRecDepth 4000 in
theorem whoR_1 (vl:Value) (l:List Ch) (d:Dg) (w0:World) (hl:rdOK (hp w0) 12 vl l.length (encs eC l)) (hfit:vfit vl) (hr:∀ c ∈ l,rC c) (hrd:rD d) (e:Int) (hm:histM l=.error e) :
    Ret Tryd.prog 24 #[vl,.agg (aD d)] w0 (G:=Unit) (fun _=>.tuple #[oV ⟨0,0,0,0,0⟩ (.slice none 0 0),.int .i64 e]) (fun _ w=>St w0 w noX [] []):=by
  refine ret_of_W (lv:=[vl,.agg (aD d)]) Tryd.func24 rfl rfl rfl (fun a hf=>?_); replace hf:Fr a 34 [] [(0,vl),(1,.agg (aD d))]:=hf; have hS:St w0 w0 noX [rdv 12 vl l.length (encs eC l)] []:=(St.refl w0).lend0 hl; have hlm:=hl.2.1; unfold maxLen at hlm; have he0:=histM_ne hm; refine W.seq ?_
  refine W.regionL (l:=[0,1,2]) rfl<|O.box (cs:=(aD d)) hf hS rfl rfl rfl rfl<|?_; intro b_d1 w a hbb_d1 hS hf; refine O.alloc (cs:=#[.int .i64 0,.int .i64 0,.int .u8 0,.int .u8 0,.int .i64 0,.slice none 0 0]) hf hS rfl rfl T_zero_46 rfl ?_; intro b_x2 w a hbb_x2 hS hf; refine mv hf rfl ?_; clear hf a; intro a hf; refine nk<|W.seq<|?_
  refine W.regionL (l:=[0,1,2,3,4,5,6,7,8]) rfl<|mv hf rfl<|?_; clear hf a; intro a hf; refine oc hf rfl C_ok_34 (hisE vl l _ (hS.rdAt (j:=0) rfl) hfit hr e hm) ?_; clear hf a; rintro ⟨gn1,gm1⟩ w3 hS1 a hf; replace hS:=hS.cl hS1; refine mv hf rfl ?_; clear hf a; intro a hf; refine ov hf rfl (RunV.extract rfl rfl) ?_; clear hf a; intro a hf; refine ov hf rfl (RunV.extract rfl rfl) ?_; clear hf a; intro a hf; refine ov hf rfl (RunV.extract rfl rfl) ?_; clear hf a; intro a hf; refine mv hf rfl ?_; clear hf a; intro a hf; refine mv hf rfl ?_; clear hf a; intro a hf; refine mv hf rfl ?_; clear hf a; intro a hf; refine nk<|W.seq<|W.seq<|?_
  refine W.regionL (l:=[0,1]) rfl<|mv hf rfl<|?_; clear hf a; intro a hf; refine ov (v:=.bool (decide (e≠(0:Int)))) hf rfl (RunV.neq rfl rfl) ?_; clear hf a; intro a hf; refine nk ?_; have hbc:(decide (e≠(0:Int)))=true:=decide_eq_true he0; simp only [hbc] at hf; clear hbc; refine W.if_tt hf rfl<|W.seq<|?_
  refine W.regionL (l:=[0,1,2,3]) rfl<|ov hf rfl (RunV.buildS (cs':=#[.int .i64 0,.int .i64 0,.int .u8 0,.int .u8 0,.int .i64 0,.slice none 0 0]) T_places_46 T_zero_46 rfl rfl)<|?_; clear hf a; intro a hf; refine mv hf rfl ?_; clear hf a; intro a hf; refine ost 0 #[.int .i64 0,.int .i64 0,.int .u8 0,.int .u8 0,.int .i64 0,.slice none 0 0] hf hS rfl rfl rfl T_size_46 rfl rfl rfl (bl rfl) rfl ?_; intro w hS; refine mv hf rfl ?_; clear hf a; intro a hf; refine nk<|W.ret<|k_then_ret<|post2 hf rfl (ResOK.cellN (cs':=#[.int .i64 0,.int .i64 0,.int .u8 0,.int .u8 0,.int .i64 0,.slice none 0 0]) rfl T_agg_46 T_size_46 (hS.p 0 rfl) (bl rfl) rfl) (ResOK.tmp rfl)<|?_; exact ⟨(),rfl,hS.sub (List.nil_sublist _) |>.noB⟩
set_option maxHeartbeats 400000 in
set_option maxRecDepth 4000 in
theorem whoR_2 (vl:Value) (l:List Ch) (d:Dg) (w0:World) (hl:rdOK (hp w0) 12 vl l.length (encs eC l)) (hfit:vfit vl) (hr:∀ c ∈ l,rC c) (hrd:rD d) (S:List PG) (us:List Bool) (hm:histM l=.ok (S,us)) (hd:okD d=false) :
    Ret Tryd.prog 24 #[vl,.agg (aD d)] w0 (G:=Unit) (fun _=>.tuple #[oV ⟨0,0,0,0,0⟩ (.slice none 0 0),.int .i64 8]) (fun _ w=>St w0 w noX [] []):=by
  refine ret_of_W (lv:=[vl,.agg (aD d)]) Tryd.func24 rfl rfl rfl (fun a hf=>?_); replace hf:Fr a 34 [] [(0,vl),(1,.agg (aD d))]:=hf; have hS:St w0 w0 noX [rdv 12 vl l.length (encs eC l)] []:=(St.refl w0).lend0 hl; have hlm:=hl.2.1; unfold maxLen at hlm; refine W.seq ?_
  refine W.regionL (l:=[0,1,2]) rfl<|O.box (cs:=(aD d)) hf hS rfl rfl rfl rfl<|?_; intro b_d1 w a hbb_d1 hS hf; refine O.alloc (cs:=#[.int .i64 0,.int .i64 0,.int .u8 0,.int .u8 0,.int .i64 0,.slice none 0 0]) hf hS rfl rfl T_zero_46 rfl ?_; intro b_x2 w a hbb_x2 hS hf; refine mv hf rfl ?_; clear hf a; intro a hf; refine nk<|W.seq<|?_
  refine W.regionL (l:=[0,1,2,3,4,5,6,7,8]) rfl<|mv hf rfl<|?_; clear hf a; intro a hf; refine oc hf rfl C_ok_34 (hisO vl l _ (hS.rdAt (j:=0) rfl) hfit hr S us hm) ?_; clear hf a; rintro ⟨vo1,vu1,os1,all1⟩ w3 ⟨hS1,href1,hsub1⟩ a hf; replace hS:=hS.cl hS1; refine mv hf rfl ?_; clear hf a; intro a hf; refine ov hf rfl (RunV.extract rfl rfl) ?_; clear hf a; intro a hf; refine ov hf rfl (RunV.extract rfl rfl) ?_; clear hf a; intro a hf; refine ov hf rfl (RunV.extract rfl rfl) ?_; clear hf a; intro a hf; refine mv hf rfl ?_; clear hf a; intro a hf; refine mv hf rfl ?_; clear hf a; intro a hf; refine mv hf rfl ?_; clear hf a; intro a hf; refine nk<|W.seq<|W.seq<|?_
  refine W.regionL (l:=[0,1]) rfl<|mv hf rfl<|?_; clear hf a; intro a hf; refine ov hf rfl (RunV.toB (c:=false) (RunV.neq rfl rfl) (by decide)) ?_; clear hf a; intro a hf; refine nk<|W.if_ff hf rfl<|W.skip<|k_seq<|W.seq<|W.seq<|?_
  refine W.regionL (l:=[0,1,2]) rfl<|ov hf rfl (RunV.loadN (cs':=(aD d)) T_agg_24 T_size_24 rfl (hS.p 4 rfl) (bl rfl) rfl)<|?_; clear hf a; intro a hf; refine oc hf rfl C_ok_15 (check28_spec d _ hrd) ?_; clear hf a; rintro _ w4 hS1 a hf; replace hS:=hS.cl hS1; refine ov (v:=.bool (decide ((if okD d then 0 else 8)≠(0:Int)))) hf rfl (RunV.neq rfl rfl) ?_; clear hf a; intro a hf; refine nk ?_; have hbc:(decide ((if okD d then 0 else 8)≠(0:Int)))=true:=(by rw [hd]; rfl); simp only [hbc] at hf; clear hbc; refine W.if_tt hf rfl<|W.seq<|?_
  refine W.regionL (l:=[0,1,2]) rfl<|ov hf rfl (RunV.buildS (cs':=#[.int .i64 0,.int .i64 0,.int .u8 0,.int .u8 0,.int .i64 0,.slice none 0 0]) T_places_46 T_zero_46 rfl rfl)<|?_; clear hf a; intro a hf; refine ost 3 #[.int .i64 0,.int .i64 0,.int .u8 0,.int .u8 0,.int .i64 0,.slice none 0 0] hf hS rfl rfl rfl T_size_46 rfl rfl rfl (bl rfl) rfl ?_; intro w hS; refine mv hf rfl ?_; clear hf a; intro a hf; refine nk<|W.ret<|k_then_ret<|post2 hf rfl (ResOK.cellN (cs':=#[.int .i64 0,.int .i64 0,.int .u8 0,.int .u8 0,.int .i64 0,.slice none 0 0]) rfl T_agg_46 T_size_46 (hS.p 3 rfl) (bl rfl) rfl) (ResOK.tmp rfl)<|?_; exact ⟨(),rfl,hS.sub (List.nil_sublist _) |>.noB⟩
set_option maxHeartbeats 400000 in
set_option maxRecDepth 4000 in
theorem whoR_3 (vl:Value) (l:List Ch) (d:Dg) (w0:World) (hl:rdOK (hp w0) 12 vl l.length (encs eC l)) (hfit:vfit vl) (hr:∀ c ∈ l,rC c) (hrd:rD d) (S:List PG) (us:List Bool) (hm:histM l=.ok (S,us)) (hd:okD d=true) (hfg:findG S d=none) :
    Ret Tryd.prog 24 #[vl,.agg (aD d)] w0 (G:=Unit) (fun _=>.tuple #[oV ⟨0,0,0,0,0⟩ (.slice none 0 0),.int .i64 6]) (fun _ w=>St w0 w noX [] []):=by
  refine ret_of_W (lv:=[vl,.agg (aD d)]) Tryd.func24 rfl rfl rfl (fun a hf=>?_); replace hf:Fr a 34 [] [(0,vl),(1,.agg (aD d))]:=hf; have hS:St w0 w0 noX [rdv 12 vl l.length (encs eC l)] []:=(St.refl w0).lend0 hl; have hlm:=hl.2.1; unfold maxLen at hlm; refine W.seq ?_
  refine W.regionL (l:=[0,1,2]) rfl<|O.box (cs:=(aD d)) hf hS rfl rfl rfl rfl<|?_; intro b_d1 w a hbb_d1 hS hf; refine O.alloc (cs:=#[.int .i64 0,.int .i64 0,.int .u8 0,.int .u8 0,.int .i64 0,.slice none 0 0]) hf hS rfl rfl T_zero_46 rfl ?_; intro b_x2 w a hbb_x2 hS hf; refine mv hf rfl ?_; clear hf a; intro a hf; refine nk<|W.seq<|?_
  refine W.regionL (l:=[0,1,2,3,4,5,6,7,8]) rfl<|mv hf rfl<|?_; clear hf a; intro a hf; refine oc hf rfl C_ok_34 (hisO vl l _ (hS.rdAt (j:=0) rfl) hfit hr S us hm) ?_; clear hf a; rintro ⟨vo1,vu1,os1,all1⟩ w3 ⟨hS1,href1,hsub1⟩ a hf; replace hS:=hS.cl hS1; refine mv hf rfl ?_; clear hf a; intro a hf; refine ov hf rfl (RunV.extract rfl rfl) ?_; clear hf a; intro a hf; refine ov hf rfl (RunV.extract rfl rfl) ?_; clear hf a; intro a hf; refine ov hf rfl (RunV.extract rfl rfl) ?_; clear hf a; intro a hf; refine mv hf rfl ?_; clear hf a; intro a hf; refine mv hf rfl ?_; clear hf a; intro a hf; refine mv hf rfl ?_; clear hf a; intro a hf; refine nk<|W.seq<|W.seq<|?_
  refine W.regionL (l:=[0,1]) rfl<|mv hf rfl<|?_; clear hf a; intro a hf; refine ov hf rfl (RunV.toB (c:=false) (RunV.neq rfl rfl) (by decide)) ?_; clear hf a; intro a hf; refine nk<|W.if_ff hf rfl<|W.skip<|k_seq<|W.seq<|W.seq<|?_
  refine W.regionL (l:=[0,1,2]) rfl<|ov hf rfl (RunV.loadN (cs':=(aD d)) T_agg_24 T_size_24 rfl (hS.p 4 rfl) (bl rfl) rfl)<|?_; clear hf a; intro a hf; refine oc hf rfl C_ok_15 (check28_spec d _ hrd) ?_; clear hf a; rintro _ w4 hS1 a hf; replace hS:=hS.cl hS1; refine ov (v:=.bool (decide ((if okD d then 0 else 8)≠(0:Int)))) hf rfl (RunV.neq rfl rfl) ?_; clear hf a; intro a hf; refine nk ?_; have hbc:(decide ((if okD d then 0 else 8)≠(0:Int)))=false:=(by rw [hd]; rfl); simp only [hbc] at hf; clear hbc; refine W.if_ff hf rfl<|W.skip<|k_seq<|W.seq<|?_
  refine W.regionL (l:=[0,1,2,3]) rfl<|mv hf rfl<|?_; clear hf a; intro a hf; refine ov hf rfl (RunV.loadN (cs':=(aD d)) T_agg_24 T_size_24 rfl (hS.p 4 rfl) (bl rfl) rfl) ?_; clear hf a; intro a hf; refine oc hf rfl C_ok_43 (find_as vo1 os1 d _ (hS.slr (j:=0) rfl) ((hS.obOwn (i:=2) rfl).sub hsub1) (-1) (find_ref0 href1 hfg).symm) ?_; clear hf a; rintro _ w5 hS1 a hf; replace hS:=hS.cl hS1; refine mv hf rfl ?_; clear hf a; intro a hf; refine nk<|W.seq<|W.seq<|?_
  refine W.regionL (l:=[0,1]) rfl<|mv hf rfl<|?_; clear hf a; intro a hf; refine ov hf rfl (RunV.toB (c:=true) (RunV.lss rfl rfl) (by decide)) ?_; clear hf a; intro a hf; refine nk<|W.if_tt hf rfl<|W.seq<|?_
  refine W.regionL (l:=[0,1,2]) rfl<|ov hf rfl (RunV.buildS (cs':=#[.int .i64 0,.int .i64 0,.int .u8 0,.int .u8 0,.int .i64 0,.slice none 0 0]) T_places_46 T_zero_46 rfl rfl)<|?_; clear hf a; intro a hf; refine ost 3 #[.int .i64 0,.int .i64 0,.int .u8 0,.int .u8 0,.int .i64 0,.slice none 0 0] hf hS rfl rfl rfl T_size_46 rfl rfl rfl (bl rfl) rfl ?_; intro w hS; refine mv hf rfl ?_; clear hf a; intro a hf; refine nk<|W.ret<|k_then_ret<|post2 hf rfl (ResOK.cellN (cs':=#[.int .i64 0,.int .i64 0,.int .u8 0,.int .u8 0,.int .i64 0,.slice none 0 0]) rfl T_agg_46 T_size_46 (hS.p 3 rfl) (bl rfl) rfl) (ResOK.tmp rfl)<|?_; exact ⟨(),rfl,hS.sub (List.nil_sublist _) |>.noB⟩
set_option maxHeartbeats 400000 in
set_option maxRecDepth 4000 in
theorem whoR_4 (vl:Value) (l:List Ch) (d:Dg) (w0:World) (hl:rdOK (hp w0) 12 vl l.length (encs eC l)) (hfit:vfit vl) (hr:∀ c ∈ l,rC c) (hrd:rD d) (S:List PG) (us:List Bool) (hm:histM l=.ok (S,us)) (hd:okD d=true) (p:PG) (hfg:findG S d=some p) :
    Ret Tryd.prog 24 #[vl,.agg (aD d)] w0 (G:=Ob × List Ob) (fun g=>.tuple #[.agg (eO g.1).toArray,.int .i64 0]) (fun g w=>St w0 w noX [] [bigA (g.2.map obA)]∧g.1 ∈ g.2∧prO g.1=objP p):=by
  refine ret_of_W (lv:=[vl,.agg (aD d)]) Tryd.func24 rfl rfl rfl (fun a hf=>?_); replace hf:Fr a 34 [] [(0,vl),(1,.agg (aD d))]:=hf; have hS:St w0 w0 noX [rdv 12 vl l.length (encs eC l)] []:=(St.refl w0).lend0 hl; have hlm:=hl.2.1; unfold maxLen at hlm; refine W.seq ?_
  refine W.regionL (l:=[0,1,2]) rfl<|O.box (cs:=(aD d)) hf hS rfl rfl rfl rfl<|?_; intro b_d1 w a hbb_d1 hS hf; refine O.alloc (cs:=#[.int .i64 0,.int .i64 0,.int .u8 0,.int .u8 0,.int .i64 0,.slice none 0 0]) hf hS rfl rfl T_zero_46 rfl ?_; intro b_x2 w a hbb_x2 hS hf; refine mv hf rfl ?_; clear hf a; intro a hf; refine nk<|W.seq<|?_
  refine W.regionL (l:=[0,1,2,3,4,5,6,7,8]) rfl<|mv hf rfl<|?_; clear hf a; intro a hf; refine oc hf rfl C_ok_34 (hisO vl l _ (hS.rdAt (j:=0) rfl) hfit hr S us hm) ?_; clear hf a; rintro ⟨vo1,vu1,os1,all1⟩ w3 ⟨hS1,href1,hsub1⟩ a hf; replace hS:=hS.cl hS1; refine mv hf rfl ?_; clear hf a; intro a hf; refine ov hf rfl (RunV.extract rfl rfl) ?_; clear hf a; intro a hf; refine ov hf rfl (RunV.extract rfl rfl) ?_; clear hf a; intro a hf; refine ov hf rfl (RunV.extract rfl rfl) ?_; clear hf a; intro a hf; refine mv hf rfl ?_; clear hf a; intro a hf; refine mv hf rfl ?_; clear hf a; intro a hf; refine mv hf rfl ?_; clear hf a; intro a hf; refine nk<|W.seq<|W.seq<|?_
  refine W.regionL (l:=[0,1]) rfl<|mv hf rfl<|?_; clear hf a; intro a hf; refine ov hf rfl (RunV.toB (c:=false) (RunV.neq rfl rfl) (by decide)) ?_; clear hf a; intro a hf; refine nk<|W.if_ff hf rfl<|W.skip<|k_seq<|W.seq<|W.seq<|?_
  refine W.regionL (l:=[0,1,2]) rfl<|ov hf rfl (RunV.loadN (cs':=(aD d)) T_agg_24 T_size_24 rfl (hS.p 4 rfl) (bl rfl) rfl)<|?_; clear hf a; intro a hf; refine oc hf rfl C_ok_15 (check28_spec d _ hrd) ?_; clear hf a; rintro _ w4 hS1 a hf; replace hS:=hS.cl hS1; refine ov (v:=.bool (decide ((if okD d then 0 else 8)≠(0:Int)))) hf rfl (RunV.neq rfl rfl) ?_; clear hf a; intro a hf; refine nk ?_; have hbc:(decide ((if okD d then 0 else 8)≠(0:Int)))=false:=(by rw [hd]; rfl); simp only [hbc] at hf; clear hbc; refine W.if_ff hf rfl<|W.skip<|k_seq<|W.seq<|?_
  refine W.regionL (l:=[0,1,2,3]) rfl ?_; obtain ⟨i,hi,hil,hix⟩:=find_ref1 href1 (stok_hist hr hm).wf hfg; rw [List.length_map] at hil; rw [prO_getD hil] at hix; refine mv hf rfl ?_; clear hf a; intro a hf; refine ov hf rfl (RunV.loadN (cs':=(aD d)) T_agg_24 T_size_24 rfl (hS.p 4 rfl) (bl rfl) rfl) ?_; clear hf a; intro a hf; refine oc hf rfl C_ok_43 (find_as vo1 os1 d _ (hS.slr (j:=0) rfl) ((hS.obOwn (i:=2) rfl).sub hsub1) (i:Int) hi.symm) ?_; clear hf a; rintro _ w5 hS1 a hf; replace hS:=hS.cl hS1; refine mv hf rfl ?_; clear hf a; intro a hf; refine nk<|W.seq<|W.seq<|?_
  refine W.regionL (l:=[0,1]) rfl<|mv hf rfl<|?_; clear hf a; intro a hf; refine ov (v:=.bool (decide ((i:Int)<(0:Int)))) hf rfl (RunV.lss rfl rfl) ?_; clear hf a; intro a hf; refine nk ?_; have hbc:(decide ((i:Int)<(0:Int)))=false:=decide_eq_false (by omega); simp only [hbc] at hf; clear hbc; refine W.if_ff hf rfl<|W.skip<|k_seq<|W.seq<|?_
  refine W.regionL (l:=[0,1,2,3,4,5]) rfl ?_; obtain ⟨o,ho⟩:∃ o,o=os1.getD i default:=⟨_,rfl⟩; refine mv hf rfl ?_; clear hf a; intro a hf; refine mv hf rfl ?_; clear hf a; intro a hf; refine ov hf rfl (RunV.ixV (j:=i) (m:=i*6) T_elem_39 T_size_46 rfl rfl (hS.slr (j:=0) rfl) rfl (by omega) rfl) ?_; clear hf a; intro a hf; refine ov hf rfl (RunV.ldG (j:=i) (enc:=eO) (l:=os1) (us:=eO o) T_agg_46 T_size_46 rfl eO_len rfl (hS.slr (j:=0) rfl) (by omega) (by rw [ho])) ?_; clear hf a; intro a hf; refine ost 3 #[.int .i64 o.p.num,.int .i64 o.p.yr,.int .u8 o.p.half,.int .u8 o.p.sec,.int .i64 o.p.cyc,(.slice o.ad o.n o.c)] hf hS rfl rfl rfl T_size_46 rfl rfl rfl (bl rfl) rfl ?_; intro w hS; refine mv hf rfl ?_; clear hf a; intro a hf; refine nk<|W.ret<|post2 hf rfl (ResOK.cellN (cs':=#[.int .i64 o.p.num,.int .i64 o.p.yr,.int .u8 o.p.half,.int .u8 o.p.sec,.int .i64 o.p.cyc,(.slice o.ad o.n o.c)]) rfl T_agg_46 T_size_46 (hS.p 3 rfl) (bl rfl) rfl) (ResOK.tmp rfl)<|?_; exact ⟨(o,all1),rfl,(hS.sub (N:=[bigA (all1.map obA)]) (.cons _ (.cons _ (.cons_cons _ (.cons _ (.cons _ .slnil)))))).noB,by rw [ho]; exact hsub1 _ (getO hil),by rw [ho]; exact hix⟩
section
variable (vl:Value) (l:List Ch) (d:Dg) (w0:World) (hl:rdOK (hp w0) 12 vl l.length (encs eC l)) (hfit:vfit vl) (hr:∀ c ∈ l,rC c) (hrd:rD d)
include hl hfit hr hrd
theorem whoRE (e:Int) (h:whoM l d=.error e):Ret Tryd.prog 24 #[vl,dV d] w0 (G:=Unit) (fun _=>.tuple #[oV ⟨0,0,0,0,0⟩ (.slice none 0 0),.int .i64 e]) (fun _ w=>St w0 w noX [] []):=by
  unfold whoM at h
  cases hm:histM l with
  | error e'=>rw [hm] at h; cases h; exact whoR_1 vl l d w0 hl hfit hr hrd e hm
  | ok r =>
    obtain ⟨S,us⟩:=r; rw [hm] at h; simp only at h
    cases hd:okD d with
    | false=>rw [hd,if_neg (by decide)] at h; cases h; exact whoR_2 vl l d w0 hl hfit hr hrd S us hm hd
    | true =>
      rw [hd,if_pos rfl] at h
      cases hf:findG S d with
      | none=>rw [hf] at h; cases h; exact whoR_3 vl l d w0 hl hfit hr hrd S us hm hd hf
      | some p=>rw [hf] at h; cases h
theorem whoRO (p:PG) (h:whoM l d=.ok p):Ret Tryd.prog 24 #[vl,dV d] w0 (G:=Ob × List Ob) (fun g=>.tuple #[.agg (eO g.1).toArray,.int .i64 0]) (fun g w=>St w0 w noX [] [bigA (g.2.map obA)]∧g.1 ∈ g.2∧prO g.1=objP p):=by
  obtain ⟨S,us,hm,hd,hf⟩:=whoM_ok h; exact whoR_4 vl l d w0 hl hfit hr hrd S us hm hd p hf
end
theorem whoM_h {l:List Ch} {d:Dg} {e:Int} (h:histM l=.error e):whoM l d=.error e:=by unfold whoM; rw [h]
end Go.Proofs.YtgakdmmmljdpjaaDoor
