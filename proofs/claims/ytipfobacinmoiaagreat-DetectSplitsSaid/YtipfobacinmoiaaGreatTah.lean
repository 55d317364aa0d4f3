/- Part of a proof: laws and walks. -/
import Derived.Test.YtipfobacinmoiaaGreatTag
import Derived.Test.YtipfobacinmoiaaGreatTac
import Derived.Test.YtipfobacinmoiaaGreatTaf
import Derived.Test.YtipfobacinmoiaaGreatTab
import Derived.Sort.AssemblyPlain
set_option linter.unusedVariables false
set_option linter.unusedSimpArgs false
namespace Det
section
variable {P px o:List Int} {n k:Nat} {lv:Int}
theorem mem_take_s {x:Int} (hk:k<px.length):x ∈ px.take (k+1)↔x ∈ px.take k∨x=px.getD k 0:=by
  rw [take_s hk,List.mem_append,List.mem_singleton]
theorem map_range_ext {α:Type} {f g:Nat→α} (h:∀ i,i<n→f i=g i):(List.range n).map f=(List.range n).map g :=
  List.map_congr_left fun i hi=>h i (List.mem_range.1 hi)
theorem map_range_set {α:Type} {f:Nat→α} {i:Nat} {v:α}:((List.range n).map f).set i v=(List.range n).map fun j=>if i=j then v else f j:=by
  apply List.ext_getElem?
  intro j
  simp only [List.getElem?_set,List.length_map,List.length_range,List.getElem?_map]
  by_cases h:i=j
  · subst h
    by_cases hi:i<n
    · simp [hi]
    · simp [hi]
  · rw [if_neg h]
    by_cases hj:j<n
    · simp [hj,h]
    · simp [hj]
theorem inM_0:inM P n [] lv=List.replicate n false:=by
  unfold inM
  exact (map_range_ext (g:=fun _=>false) fun i _=>by simp).trans (by rw [List.map_const',List.length_range])
theorem inM_step (hk:k<px.length) (hr:∀ x ∈ px,0≤x) (hnd:px.getD k 0 ∉ px.take k) :
    inM P n (px.take (k+1)) lv=(inM P n (px.take k) lv).set (px.getD k 0).toNat (decide (lv≤P.getD (px.getD k 0).toNat 0)):=by
  unfold inM
  rw [map_range_set]
  refine map_range_ext fun i hi=>?_
  have h0:=hr _ (show px.getD k 0 ∈ px from getD_mem hk)
  by_cases e:(px.getD k 0).toNat=i
  · rw [if_pos e]
    have:(i:Int)=px.getD k 0:=by omega
    rw [decide_eq_true ((mem_take_s hk).2 (.inr this)),Bool.true_and,e]
  · rw [if_neg e]
    congr 1
    exact decide_eq_decide.2 ((mem_take_s hk).trans ⟨fun h=>h.resolve_right (by omega),.inl⟩)
theorem inM_put (hk:k<px.length) (hr:∀ x ∈ px,0≤x) (hnd:px.getD k 0 ∉ px.take k) (hp:lv≤P.getD (px.getD k 0).toNat 0) :
    inM P n (px.take (k+1)) lv=(inM P n (px.take k) lv).set (px.getD k 0).toNat true:=by
  rw [inM_step hk hr hnd,decide_eq_true hp]
theorem inM_skip (hk:k<px.length) (hr:∀ x ∈ px,0≤x) (hp:¬ lv≤P.getD (px.getD k 0).toNat 0) :
    inM P n (px.take (k+1)) lv=inM P n (px.take k) lv:=by
  unfold inM
  refine map_range_ext fun i hi=>?_
  have h0:=hr _ (show px.getD k 0 ∈ px from getD_mem hk)
  by_cases e:(i:Int)=px.getD k 0
  · rw [show (px.getD k 0).toNat=i by omega] at hp
    rw [decide_eq_false hp,Bool.and_false,Bool.and_false]
  · congr 1
    exact decide_eq_decide.2 ((mem_take_s hk).trans ⟨fun h=>h.resolve_right e,.inl⟩)
def filtM (o px:List Int) (m k:Nat):List (List Int):=(List.range m).map fun (s:Nat)=>(px.take k).filter fun i=>decide (ow o i=(s:Int))
theorem filt_0 {m:Nat}:filtM o px m 0=List.replicate m []:=by
  unfold filtM
  exact (map_range_ext (g:=fun _=>[]) fun i _=>by simp).trans (by rw [List.map_const',List.length_range])
theorem filt_at {m s:Nat} (h:s<m):(filtM o px m k).getD s []=(px.take k).filter fun i=>decide (ow o i=(s:Int)):=by
  unfold filtM
  simp [List.getD_eq_getElem?_getD,h]
theorem filt_step {m:Nat} (hk:k<px.length) (hs:0≤ow o (px.getD k 0)∧ow o (px.getD k 0)<(m:Int)) :
    filtM o px m (k+1)=(filtM o px m k).set (ow o (px.getD k 0)).toNat ((filtM o px m k).getD (ow o (px.getD k 0)).toNat []++[px.getD k 0]):=by
  rw [filt_at (by omega)]
  unfold filtM
  rw [map_range_set]
  refine map_range_ext fun i hi=>?_
  rw [take_s hk,List.filter_append]
  by_cases e:(ow o (px.getD k 0)).toNat=i
  · rw [if_pos e]
    subst e
    congr 1
    rw [List.filter_cons,if_pos (by rw [decide_eq_true_eq]; omega)]; rfl
  · rw [if_neg e,List.filter_cons,if_neg (by rw [decide_eq_true_eq]; omega)]; simp
theorem filt_end {W H:Nat} {seeds:List (List Int)}:filtM (endG P W H px seeds) px seeds.length px.length=setsM P W H px seeds:=by
  unfold filtM setsM
  rw [List.take_length]
end
theorem own_seedO {n:Nat} {xss:List (List Int)} (hr:∀ x ∈ xss,∀ t ∈ x,0≤t∧t<(n:Int)) (hp:xss.Pairwise (fun a b=>∀ t ∈ a,t ∉ b)):own n xss xss.length=seedO n xss:=by
  apply List.ext_getElem
  · rw [own_len,seedO_len]
  intro i h1 h2
  rw [own_len] at h1
  have e1:(own n xss xss.length)[i]'(by rw [own_len]; exact h1)=(own n xss xss.length).getD i 0:=by
    rw [List.getD_eq_getElem?_getD,List.getElem?_eq_getElem (by rw [own_len]; exact h1)]; rfl
  have e2:(seedO n xss)[i]=ow (seedO n xss) (i:Int):=by
    unfold ow
    rw [List.getD_eq_getElem?_getD,Int.toNat_natCast,List.getElem?_eq_getElem h2]; rfl
  rw [e1,e2]
  by_cases hx:∃ q,q<xss.length∧(i:Int) ∈ xss.getD q []
  · obtain ⟨q,hq,hm⟩:=hx
    rw [own_some hr hp hm (Nat.le_refl _) hq]
    exact ((seedO_own hp h1).2 ⟨_,List.getElem?_eq_getElem hq,by simpa [List.getD_eq_getElem?_getD,List.getElem?_eq_getElem hq] using hm⟩).symm
  · rw [own_none hr h1 (Nat.le_refl _) fun q hq hm=>hx ⟨q,hq,hm⟩]
    by_cases h0:0≤ow (seedO n xss) (i:Int)
    · obtain ⟨s,hs1,hs2⟩:=seedO_val h0
      obtain ⟨x,hx1,hx2⟩:=(seedO_own hp h1).1 hs1
      exact absurd ⟨s,hs2,by rw [List.getD_eq_getElem?_getD,hx1]; exact hx2⟩ hx
    · unfold seedO ow at h0 ⊢
      simp only [List.getD_eq_getElem?_getD,Int.toNat_natCast,List.getElem?_map,List.getElem?_range h1,Option.map_some,Option.getD_some] at h0 ⊢
      cases hf:xss.findIdx? (fun l=>decide ((i:Int) ∈ l)) with
      | none=>rfl
      | some s=>rw [hf] at h0; simp at h0
def rising (l:List Int):Prop:=∀ j,0<j→j<l.length→l.getD (j-1) 0<l.getD j 0
theorem ow_rd {o:List Int} {i:Int} (h:i.toNat<o.length):o.getD i.toNat 0=ow o i:=by
  unfold ow
  simp only [List.getD_eq_getElem?_getD,List.getElem?_eq_getElem h,Option.getD_some]
theorem scan_rng {P l:List Int} {q:Int→Bool} {k n:Nat} {best:Int} (h:ScanI P l q k best) (hl:∀ x ∈ l,0≤x∧x<(n:Int)):best=-1∨0≤best∧best<(n:Int):=by
  rcases h with ⟨h1,_⟩ | ⟨h1,h2⟩
  · exact .inl h1
  · exact .inr ⟨h1,(hl _ (List.mem_of_mem_take h2.1)).2⟩
noncomputable def ownerM (P:List Int) (W H:Nat) (o:List Int) (i:Int):Int:=if byM P W H o i<0 then -1 else ow o (byM P W H o i)
theorem nbIn_asc {W H x y:Nat} {v:Int}:∀ l:Nat,(nbIn W H x y v l).Pairwise (·<·)∧∀ t ∈ nbIn W H x y v l,t<v*(W:Int)+((x:Int)-1+(l:Int))
  | 0=>by simp [nbIn]
  | l+1=>by
    obtain ⟨h1,h2⟩:=nbIn_asc (W:=W) (H:=H) (x:=x) (y:=y) (v:=v) l
    unfold nbIn
    split
    · refine ⟨List.pairwise_append.2 ⟨h1,List.pairwise_singleton _ _,fun a ha b hb=>?_⟩,fun t ht=>?_⟩
      · rw [List.mem_singleton.1 hb]; exact h2 a ha
      · rcases List.mem_append.1 ht with ht | ht
        · have:=h2 t ht; omega
        · rw [List.mem_singleton.1 ht]; omega
    · rw [List.append_nil]
      exact ⟨h1,fun t ht=>by have:=h2 t ht; omega⟩
theorem nbOut_asc {W H x y:Nat}:∀ k:Nat,(nbOut W H x y k).Pairwise (·<·)∧∀ t ∈ nbOut W H x y k,t<((y:Int)-1+(k:Int))*(W:Int)
  | 0=>by simp [nbOut]
  | k+1=>by
    obtain ⟨h1,h2⟩:=nbOut_asc (W:=W) (H:=H) (x:=x) (y:=y) k
    unfold nbOut
    have h3:=fun t (ht:t ∈ nbIn W H x y ((y:Int)-1+(k:Int)) 3)=>nbIn_mem ht
    have h4:((y:Int)-1+((k+1:Nat):Int))*(W:Int)=((y:Int)-1+(k:Int))*(W:Int)+(W:Int):=by
      rw [show (y:Int)-1+((k+1:Nat):Int)=((y:Int)-1+(k:Int))+1 by omega,Int.add_mul]; simp
    refine ⟨List.pairwise_append.2 ⟨h1,(nbIn_asc 3).1,fun a ha b hb=>?_⟩,fun t ht=>?_⟩
    · obtain ⟨u,rfl,g1,_⟩:=h3 b hb
      have:=h2 a ha
      omega
    · rw [h4]
      rcases List.mem_append.1 ht with ht | ht
      · have:=h2 t ht; omega
      · obtain ⟨u,rfl,g1,g2,_⟩:=h3 t ht
        omega
theorem nb_asc {W H i:Nat}:(nb W H i).Pairwise (·<·):=(nbOut_asc 3).1
theorem scan_not {P l:List Int} {q:Int→Bool} {k:Nat} {best:Int} (ho:l.Pairwise (·<·)) (hk:k<l.length) (h:ScanI P l q k best) (hb:q (l.getD k 0)=true→0≤best∧P.getD (l.getD k 0).toNat 0≤P.getD best.toNat 0):ScanI P l q (k+1) best:=by
  cases hq:q (l.getD k 0) with
  | false=>exact scan_skip hk h hq
  | true =>
    have:=hb hq
    exact scan_keep ho hk h (by omega)
theorem owner_any {P:List Int} {W H:Nat} {o:List Int} {i:Int}:0≤ownerM P W H o i↔(nb W H i.toNat).any (qOwn o)=true:=by
  unfold ownerM byM
  rw [List.any_eq_true]
  rcases exists_best (P:=P) (l:=nb W H i.toNat) (q:=qOwn o) with h | ⟨b,h⟩
  · rw [bestOf_none h,if_pos (by omega)]
    constructor
    · intro h2; omega
    · rintro ⟨x,hx,hq⟩; rw [h x hx] at hq; cases hq
  · rw [bestOf_some h,if_neg (by have:=(nb_mem h.1).1; omega)]
    refine ⟨fun _=>⟨b,h.1,h.2.1⟩,fun _=>?_⟩
    have:=h.2.1
    unfold qOwn at this
    simpa using this
theorem qNext_eq {P:List Int} {W H:Nat} {o:List Int} {i v:Int} (h1:v=ow o i) (h2:0≤ownerM P W H o i↔(nb W H i.toNat).any (qOwn o)=true) (h:v<0∧ownerM P W H o i≥0):qNext W H o i=true:=by
  unfold qNext
  rw [Bool.and_eq_true,decide_eq_true_eq]
  exact ⟨h1▸h.1,h2.1 h.2⟩
theorem qNext_of {P:List Int} {W H:Nat} {o:List Int} {i v:Int} (h1:v=ow o i) (h2:0≤ownerM P W H o i↔(nb W H i.toNat).any (qOwn o)=true) (h:qNext W H o i=true):v<0∧0≤ownerM P W H o i:=by
  unfold qNext at h
  rw [Bool.and_eq_true,decide_eq_true_eq] at h
  exact ⟨h1▸h.1,h2.2 h.2⟩
theorem owner_eq {P l o:List Int} {W H:Nat} (hl:∀ i ∈ l,0≤i) (h:0≤nextM P W H l o):ownerM P W H o (nextM P W H l o)=ow o (byM P W H o (nextM P W H l o)):=by
  unfold ownerM
  rw [if_neg (by have:=(nb_mem (next_has hl h).2.2.1).1; omega)]
theorem grows_next {P l o o0:List Int} {W H:Nat} (hl:∀ i ∈ l,0≤i) (hg:Grows P W H l o0 o) (h:0≤nextM P W H l o):Grows P W H l o0 (o.set (nextM P W H l o).toNat (ownerM P W H o (nextM P W H l o))):=by
  rw [owner_eq hl h]; exact hg.step h
theorem free_next {P l o:List Int} {W H:Nat} (hl:∀ i ∈ l,0≤i∧i<((W*H:Nat):Int)) (ho:o.length=W*H) (h:0≤nextM P W H l o):freeN l (o.set (nextM P W H l o).toNat (ownerM P W H o (nextM P W H l o)))<freeN l o:=by
  rw [owner_eq (fun i hi=>(hl i hi).1) h]; exact free_step hl ho h
theorem grows_end {P px o:List Int} {W H:Nat} {seeds:List (List Int)} (hr:∀ i ∈ px,0≤i∧i<((W*H:Nat):Int)) (hg:Grows P W H px (seedO (W*H) seeds) o) (he:nextM P W H px o<0):o=endG P W H px seeds :=
  hg.uniq (growM_grows _ _) he (growM_end hr _ _ seedO_len (freeN_le _ _))
end Det

set_option maxHeartbeats 1000000
set_option maxRecDepth 8000
namespace Go.Proofs.YtipfobacinmoiaaGreat
open Go Go.SL Go.Shelf Go.RowKit Go.Maps
theorem C_ok_80:callOK Tryz.prog 80=true:=by kernel_rfl
set_option maxHeartbeats 1000000 in
set_option maxRecDepth 4000 in
theorem rising33_spec (vL:Value) (l:List Int) (w0:World) [Decidable (Det.rising l)] (hL:rdOK (hp w0) 1 vL l.length (ints l)) :
    Ret Tryz.prog 33 #[vL] w0 (G:=Unit) (fun _=>.bool (decide (Det.rising l))) (fun _ w=>St w0 w noX [] []):=by
  refine ret_of_W (lv:=[vL]) Tryz.func33 rfl rfl rfl (fun a hf=>?_); replace hf:Fr a 20 [] [(0,vL)]:=hf; have hS:St w0 w0 noX [rI vL l] []:=(St.refl w0).lend0 hL; have hlen:=hL.2.1; unfold maxLen at hlen; refine W.seq ?_
  refine R1 rfl<|mv hf rfl<|fun a hf=>?_; refine nk<|W.seq<|W.seq<|?_
  refine R1 rfl<|mv hf rfl<|fun a hf=>?_; refine nk<|W.block<|?_
  refine W.loop (G:=(Nat)) (fun g a w=>match g with | k=>Fr a 20 [] [(0,vL),(3,iV k)]∧St w0 w noX [rI vL l] []∧(1≤k)∧(k≤max l.length 1)∧(∀ j,0<j→j<k→j<l.length→l.getD (j-1) 0<l.getD j 0)) (fun g=>match g with | k=>l.length-k) 1 ?_ ?_
  · refine ⟨hf.to ⟨rfl,(by first | rfl | exact vI (by omega)),trivial⟩,hS,?_,?_,?_⟩
    · omega
    · omega
    · exact fun j h0 hj hl=>by omega
  clear hf hS a; rintro k a w ⟨hf,hS,g0,h1,h2⟩; refine W.seq<|W.seq<|?_
  refine R4 rfl<|mv hf rfl<|fun a hf=>mv hf rfl fun a hf=>ov hf rfl (RunV.lenV (e:=2) (by simpa using T_elem_22) rfl (hS.rdAt (j:=0) rfl)) fun a hf=>ov (v:=.bool (decide ((k:Int)<((l.length:Int):Int)))) hf rfl (RunV.lss rfl rfl) fun a hf=>?_; refine nk ?_; replace hf:Fr a 20 [] [(0,_),(3,_),(7,_)]:=hf.q rfl; refine W.ifdI hf rfl (fun hc1=>?_) (fun hc1=>?_)
  · refine W.skip ?_
    refine k_seq<|W.seq<|W.block<|W.seq<|?_
    refine W.drawQ (fun w=>St w0 w noX [rI vL l] []) P_mixed rfl (by kernel_rfl) rfl hS.drew ?_; clear hS; refine q0 hf rfl rfl fun a hf=>q0 hf rfl rfl fun a hf=>OQ.val (v:=ix vL k) hf rfl (fun w hS=>RunV.ixV (j:=k) (m:=k) T_elem_22 T_size_2 rfl rfl (hS.rdAt (j:=0) rfl) rfl (by omega) (Nat.mul_one _)) fun a hf=>OQ.val (v:=iV (l.getD k 0)) hf rfl (fun w hS=>RunV.ld1 T_agg_2 rfl (hS.rdAt (j:=0) rfl) (ints_get (by omega))) fun a hf=>q0 hf rfl rfl fun a hf=>q0 hf rfl rfl fun a hf=>OQ.val (v:=iV ((k:Int)-1)) hf rfl (fun w hS=>RunV.subI rfl rfl (by omega)) fun a hf=>?_; refine OQ.val (v:=ix vL (k-1)) hf rfl (fun w hS=>RunV.ixV (j:=(k-1)) (m:=(k-1)) T_elem_22 T_size_2 rfl rfl (hS.rdAt (j:=0) rfl) (by congr 1; omega) (by omega) (Nat.mul_one _)) fun a hf=>?_; refine OQ.val (v:=iV (l.getD (k-1) 0)) hf rfl (fun w hS=>RunV.ld1 T_agg_2 rfl (hS.rdAt (j:=0) rfl) (ints_get (by omega))) fun a hf=>OQ.val (v:=.bool (decide ((l.getD k 0)≤(l.getD (k-1) 0:Int)))) hf rfl (fun w hS=>RunV.leq rfl rfl) fun a hf=>?_; refine OQ.nil ?_; intro w hS; refine k_seq ?_; refine W.ifdI hf rfl (fun hc=>?_) (fun hc=>?_)
    · refine W.seq ?_
      refine R1 rfl<|mv hf rfl<|fun a hf=>?_; refine nk<|W.ret<|k_blk_ret<|k_then_ret<|k_then_ret<|k_blk_ret<|k_then_ret<|post1 hf rfl (ResOK.tmp rfl)<|?_; refine ⟨(),by rw [show decide (Det.rising l)=false from decide_eq_false (fun h=>by have:=h k (by omega) (by omega); first | omega | (simp only [Bool.and_eq_true,decide_eq_true_eq] at hcb; omega))],hS.sub (List.nil_sublist _) |>.noB⟩
    · refine W.skip ?_
      refine k_blk_normal<|k_seq<|?_
      refine R3 rfl<|mv hf rfl<|fun a hf=>ov hf rfl (RunV.addI rfl rfl (by omega)) fun a hf=>mv hf rfl fun a hf=>?_; refine O.nil ?_; refine k_then ⟨(k+1),⟨hf.to ⟨rfl,(by first | rfl | exact vI (by omega)),trivial⟩,?_,?_,?_,?_⟩,?_⟩
      · exact hS.eqM rfl
      · omega
      · omega
      · exact fun j h0 hj hl=>by
          by_cases e:j=k
          · subst e; first | omega | (simp only [Bool.and_eq_false_iff,decide_eq_false_iff_not] at hcb; omega)
          · exact h2 j h0 (by omega) hl
      · dsimp only; omega
  · refine W.exit ?_
    refine k_then_exit<|k_then_exit<|k_blk<|k_seq<|?_; replace hf:Fr a 20 [] []:=hf.to trivial; refine W.seq ?_
    refine R1 rfl<|mv hf rfl<|fun a hf=>?_; refine nk<|W.ret<|post1 hf rfl (ResOK.tmp rfl)<|?_; refine ⟨(),by rw [show decide (Det.rising l)=true from decide_eq_true (fun j h0 hj=>h2 j h0 (by omega) hj)],hS.sub (List.nil_sublist _) |>.noB⟩
set_option maxHeartbeats 1000000 in
set_option maxRecDepth 4000 in
theorem rising27_spec (vL:Value) (l:List Int) (w0:World) [Decidable (Det.rising l)] (hL:rdOK (hp w0) 1 vL l.length (ints l)) :
    Ret Tryz.prog 27 #[vL] w0 (G:=Unit) (fun _=>.bool (decide (Det.rising l))) (fun _ w=>St w0 w noX [] []):=by
  refine ret_of_W (lv:=[vL]) Tryz.func27 rfl rfl rfl (fun a hf=>?_); replace hf:Fr a 24 [] [(0,vL)]:=hf; have hS:St w0 w0 noX [rI vL l] []:=(St.refl w0).lend0 hL; have hlen:=hL.2.1; unfold maxLen at hlen; refine W.seq ?_
  refine R1 rfl<|mv hf rfl<|fun a hf=>?_; refine nk<|W.seq<|W.seq<|?_
  refine R3 rfl<|mv hf rfl<|fun a hf=>ov hf rfl (RunV.lenV (e:=2) (by simpa using T_elem_22) rfl (hS.rdAt (j:=0) rfl)) fun a hf=>mv hf rfl fun a hf=>?_; refine nk ?_; replace hf:Fr a 24 [] [(0,_),(2,_),(5,_),(6,_)]:=hf.q rfl; refine W.block ?_
  refine W.loop (G:=(Nat)) (fun g a w=>match g with | k=>Fr a 24 [] [(0,vL),(5,iV (l.length:Int)),(6,iV k)]∧St w0 w noX [rI vL l] []∧(0≤k)∧(k≤max l.length 0)∧(∀ j,0<j→j<k→j<l.length→l.getD (j-1) 0<l.getD j 0)) (fun g=>match g with | k=>l.length-k) 0 ?_ ?_
  · refine ⟨hf.to ⟨rfl,rfl,(by first | rfl | exact vI (by omega)),trivial⟩,hS,?_,?_,?_⟩
    · omega
    · omega
    · exact fun j h0 hj hl=>by omega
  clear hf hS a; rintro k a w ⟨hf,hS,g0,h1,h2⟩; refine W.seq ?_
  refine R1 rfl<|ov (v:=.bool (decide ((k:Int)<((l.length:Int):Int)))) hf rfl (RunV.lss rfl rfl)<|fun a hf=>?_; refine nk<|W.seq<|?_; refine W.ifdI hf rfl (fun hc1=>?_) (fun hc1=>?_)
  · refine W.skip ?_
    refine k_seq<|W.seq<|W.block<|W.seq<|?_
    refine R2 rfl<|mv hf rfl<|fun a hf=>mv hf rfl fun a hf=>?_; refine nk ?_; replace hf:Fr a 24 [] [(0,_),(3,_),(5,_),(6,_)]:=hf.q rfl; refine W.seq ?_
    refine W.drawQ (fun w=>St w0 w noX [rI vL l] []) P_mixed rfl (by kernel_rfl) rfl hS.drew ?_; clear hS; refine q0 hf rfl rfl fun a hf=>OQ.val (v:=.bool (decide ((k:Int)>(0:Int)))) hf rfl (fun w hS=>RunV.gtr rfl rfl) fun a hf=>q0 hf rfl rfl fun a hf=>?_
    refine OQ.cutK (K':=fun a=>Fr a 24 [] [(0,vL),(3,iV k),(5,iV (l.length:Int)),(6,iV k),(22,.bool ((decide ((k:Int)>(0:Int)))&&(decide ((l.getD k 0)≤(l.getD (k-1) 0:Int)))))]) 11 ?_ ?_
    · rcases Bool.eq_false_or_eq_true (decide ((k:Int)>(0:Int))) with hb2 | hb2
      · have hb2p:=of_decide_eq_true hb2
        refine gm hf rfl rfl hb2 rfl rfl fun a hf=>gm hf rfl rfl hb2 rfl rfl fun a hf=>OQ.gval (v:=ix vL k) hf rfl rfl hb2 rfl (fun w hS=>RunV.ixV (j:=k) (m:=k) T_elem_22 T_size_2 rfl rfl (hS.rdAt (j:=0) rfl) rfl (by omega) (Nat.mul_one _)) fun a hf=>OQ.gval (v:=iV (l.getD k 0)) hf rfl rfl hb2 rfl (fun w hS=>RunV.ld1 T_agg_2 rfl (hS.rdAt (j:=0) rfl) (ints_get (by omega))) fun a hf=>gm hf rfl rfl hb2 rfl rfl fun a hf=>gm hf rfl rfl hb2 rfl rfl fun a hf=>OQ.gval (v:=iV ((k:Int)-1)) hf rfl rfl hb2 rfl (fun w hS=>RunV.subI rfl rfl (by omega)) fun a hf=>?_; refine OQ.gval (v:=ix vL (k-1)) hf rfl rfl hb2 rfl (fun w hS=>RunV.ixV (j:=(k-1)) (m:=(k-1)) T_elem_22 T_size_2 rfl rfl (hS.rdAt (j:=0) rfl) (by congr 1; omega) (by omega) (Nat.mul_one _)) fun a hf=>?_; refine OQ.gval (v:=iV (l.getD (k-1) 0)) hf rfl rfl hb2 rfl (fun w hS=>RunV.ld1 T_agg_2 rfl (hS.rdAt (j:=0) rfl) (ints_get (by omega))) fun a hf=>OQ.gval (v:=.bool (decide ((l.getD k 0)≤(l.getD (k-1) 0:Int)))) hf rfl rfl hb2 rfl (fun w hS=>RunV.leq rfl rfl) fun a hf=>?_; refine OQ.val (v:=.bool ((decide ((k:Int)>(0:Int)))&&(decide ((l.getD k 0)≤(l.getD (k-1) 0:Int))))) hf rfl (fun w hS=>RunV.pick rfl rfl rfl (by rw [hb2]; rfl)) fun a hf=>?_; exact OQ.nil (hf.q rfl)
      · have hb2p:=of_decide_eq_false hb2
        refine OQ.skipB hf rfl rfl hb2 rfl fun a hf=>OQ.skipB hf rfl rfl hb2 rfl fun a hf=>OQ.skipB hf rfl rfl hb2 rfl fun a hf=>OQ.skipB hf rfl rfl hb2 rfl fun a hf=>OQ.skipB hf rfl rfl hb2 rfl fun a hf=>OQ.skipB hf rfl rfl hb2 rfl fun a hf=>OQ.skipB hf rfl rfl hb2 rfl fun a hf=>OQ.skipB hf rfl rfl hb2 rfl fun a hf=>OQ.skipB hf rfl rfl hb2 rfl fun a hf=>OQ.skipB hf rfl rfl hb2 rfl fun a hf=>?_; refine OQ.val (v:=.bool ((decide ((k:Int)>(0:Int)))&&(decide ((l.getD k 0)≤(l.getD (k-1) 0:Int))))) hf rfl (fun w hS=>RunV.pick rfl rfl rfl (by rw [hb2]; rfl)) fun a hf=>?_; exact OQ.nil (hf.q rfl)
    clear hf a; intro a hf; refine OQ.nil ?_; intro w hS; refine k_seq ?_; refine W.if_ hf rfl (fun hc=>?_) (fun hc=>?_)
    · have hcb:=hc
      try simp only [bsm] at hc
      refine W.seq ?_
      refine R1 rfl<|mv hf rfl<|fun a hf=>?_; refine nk<|W.ret<|k_blk_ret<|k_then_ret<|k_then_ret<|k_blk_ret<|k_then_ret<|post1 hf rfl (ResOK.tmp rfl)<|?_; refine ⟨(),by rw [show decide (Det.rising l)=false from decide_eq_false (fun h=>by have:=h k (by omega) (by omega); first | omega | (simp only [Bool.and_eq_true,decide_eq_true_eq] at hcb; omega))],hS.sub (List.nil_sublist _) |>.noB⟩
    · have hcb:=hc
      try simp only [bsm] at hc
      refine W.skip<|k_blk_normal<|k_seq<|?_
      refine R2 rfl<|ov hf rfl (RunV.addI rfl rfl (by omega))<|fun a hf=>mv hf rfl fun a hf=>?_; refine O.nil ?_; refine k_then ⟨(k+1),⟨hf.to ⟨rfl,rfl,(by first | rfl | exact vI (by omega)),trivial⟩,?_,?_,?_,?_⟩,?_⟩
      · exact hS.eqM rfl
      · omega
      · omega
      · exact fun j h0 hj hl=>by
          by_cases e:j=k
          · subst e; first | omega | (simp only [Bool.and_eq_false_iff,decide_eq_false_iff_not] at hcb; omega)
          · exact h2 j h0 (by omega) hl
      · dsimp only; omega
  · refine W.exit ?_
    refine k_then_exit<|k_then_exit<|k_blk<|k_seq<|?_; replace hf:Fr a 24 [] []:=hf.to trivial; refine W.seq ?_
    refine R1 rfl<|mv hf rfl<|fun a hf=>?_; refine nk<|W.ret<|post1 hf rfl (ResOK.tmp rfl)<|?_; refine ⟨(),by rw [show decide (Det.rising l)=true from decide_eq_true (fun j h0 hj=>h2 j h0 (by omega) hj)],hS.sub (List.nil_sublist _) |>.noB⟩
set_option maxHeartbeats 1000000 in
set_option maxRecDepth 4000 in
theorem owner80_spec (fW fH i:Nat) (vP vO:Value) (zs o:List Int) (w0:World) (hW:1≤fW∧fW≤100) (hH:1≤fH∧fH≤100) (hn:zs.length=fW*fH) (hi:i<fW*fH) (hP:rdOK (hp w0) 1 vP zs.length (ints zs)) (hO:rdOK (hp w0) 1 vO o.length (ints o)) (hol:o.length=fW*fH) :
    Ret Tryz.prog 80 #[(fG fW fH vP),vO,iV i] w0 (G:=Unit) (fun _=>iV (Det.ownerM zs fW fH o (i:Int))) (fun _ w=>St w0 w noX [] []):=by
  refine ret_of_W (lv:=[(fG fW fH vP),vO,iV i]) Tryz.func80 rfl rfl rfl (fun a hf=>?_); replace hf:Fr a 57 [] [(0,(fG fW fH vP)),(1,vO),(2,iV i)]:=hf; have hS:St w0 w0 noX [rI vP zs,rI vO o] []:=((St.refl w0).lend0 hO).lend0 hP; have hN:fW*fH≤10000:=Nat.mul_le_mul hW.2 hH.2; refine W.seq ?_
  refine R2 rfl<|O.box (cs:=#[iV fW,iV fH,vP]) hf hS rfl rfl rfl rfl<|?_; intro b_f1 w a hbb_f1 hS hf; refine mv hf rfl fun a hf=>?_; refine nk<|W.seq<|?_
  refine R4 rfl<|ov hf rfl (RunV.loadN (cs':=#[iV fW,iV fH,vP]) T_agg_24 T_size_24 rfl (hS.p 0 rfl) (bl rfl) rfl)<|fun a hf=>mv hf rfl fun a hf=>?_; refine oc hf rfl C_ok_19 (near11_spec fW fH i vP _ hW hH (by omega)) ?_; clear hf a; rintro vn w2 hS1 a hf; replace hS:=hS.cl hS1; refine mv hf rfl fun a hf=>?_; refine O.nil ?_; have hnl:=(hS.slAt (j:=0) rfl).nle; unfold maxLen at hnl; refine k_seq<|W.seq<|?_
  refine R1 rfl<|mv hf rfl<|fun a hf=>?_; refine nk<|W.seq<|W.seq<|?_
  refine R1 rfl<|mv hf rfl<|fun a hf=>?_; refine nk<|W.block<|?_
  refine W.loop (G:=(Nat) × (Int)) (fun g a w=>match g with | (k,best)=>Fr a 57 [] [(1,vO),(3,(pp b_f1)),(6,iV 0),(7,vn),(8,iV best),(9,iV k)]∧St w0 w noX [rI vP zs,rI vO o] [sl 3 1 vn ((Det.nb fW fH i).length) (ints (Det.nb fW fH i)),pt b_f1 (.cells #[iV fW,iV fH,vP] 24 (0,0))]∧(k≤(Det.nb fW fH i).length)∧(Det.ScanI zs (Det.nb fW fH i) (Det.qOwn o) k best)∧(best=-1∨0≤best∧best<((fW*fH:Nat):Int))) (fun g=>match g with | (k,best)=>(Det.nb fW fH i).length-k) (0,(-1)) ?_ ?_
  · refine ⟨hf.to ⟨rfl,rfl,rfl,rfl,(by first | rfl | exact vI (by omega)),(by first | rfl | exact vI (by omega)),trivial⟩,hS,?_,?_,?_⟩
    · omega
    · exact Det.scan_0
    · omega
  clear hf hS a; rintro ⟨k,best⟩ a w ⟨hf,hS,h1,h2,h3⟩; refine W.seq<|W.seq<|?_
  refine R4 rfl<|mv hf rfl<|fun a hf=>mv hf rfl fun a hf=>ov hf rfl (RunV.lenV (e:=3) (by simpa using T_elem_26) rfl (hS.slr (j:=0) rfl)) fun a hf=>ov (v:=.bool (decide ((k:Int)<(((Det.nb fW fH i).length:Int):Int)))) hf rfl (RunV.lss rfl rfl) fun a hf=>?_; refine nk ?_; replace hf:Fr a 57 [] [(1,_),(3,_),(6,_),(7,_),(8,_),(9,_),(16,_)]:=hf.q rfl; refine W.ifdI hf rfl (fun hc3=>?_) (fun hc3=>?_)
  · refine W.skip ?_
    refine k_seq<|W.seq<|W.block<|W.seq<|?_
    have hnr:=Det.nb_mem (Det.getD_mem (l:=(Det.nb fW fH i)) (j:=k) (by omega)); have hnow:o.getD (Int.toNat ((Det.nb fW fH i).getD k 0)) 0=Det.ow o ((Det.nb fW fH i).getD k 0):=Det.ow_rd (by omega); refine W.drawQ (fun w=>St w0 w noX [rI vP zs,rI vO o] [sl 3 1 vn ((Det.nb fW fH i).length) (ints (Det.nb fW fH i)),pt b_f1 (.cells #[iV fW,iV fH,vP] 24 (0,0))]) P_mixed rfl (by kernel_rfl) rfl hS.drew ?_; clear hS; refine q0 hf rfl rfl fun a hf=>q0 hf rfl rfl fun a hf=>q0 hf rfl rfl fun a hf=>OQ.val (v:=ix vn k) hf rfl (fun w hS=>RunV.ixV (j:=k) (m:=k) T_elem_26 T_size_3 rfl rfl (hS.slr (j:=0) rfl) rfl (by omega) (Nat.mul_one _)) fun a hf=>OQ.val (v:=iV ((Det.nb fW fH i).getD k 0)) hf rfl (fun w hS=>RunV.ld1 T_agg_3 rfl (hS.slr (j:=0) rfl) (ints_get (by omega))) fun a hf=>OQ.val (v:=ix vO (Int.toNat ((Det.nb fW fH i).getD k 0))) hf rfl (fun w hS=>RunV.ixV (j:=(Int.toNat ((Det.nb fW fH i).getD k 0))) (m:=(Int.toNat ((Det.nb fW fH i).getD k 0))) T_elem_26 T_size_3 rfl rfl (hS.rdAt (j:=1) rfl) (by rw [Int.toNat_of_nonneg (by omega)]) (by omega) (Nat.mul_one _)) fun a hf=>OQ.val (v:=iV (o.getD (Int.toNat ((Det.nb fW fH i).getD k 0)) 0)) hf rfl (fun w hS=>RunV.ld1 T_agg_3 rfl (hS.rdAt (j:=1) rfl) (ints_get (by omega))) fun a hf=>OQ.val (v:=.bool (decide ((o.getD (Int.toNat ((Det.nb fW fH i).getD k 0)) 0)≥(0:Int)))) hf rfl (fun w hS=>RunV.geq rfl rfl) fun a hf=>q0 hf rfl rfl fun a hf=>?_
    refine OQ.cutK (K':=fun a=>Fr a 57 [] [(1,vO),(3,(pp b_f1)),(6,iV 0),(7,vn),(8,iV best),(9,iV k),(46,.bool ((decide ((o.getD (Int.toNat ((Det.nb fW fH i).getD k 0)) 0)≥(0:Int)))&&((decide (best<(0:Int)))||(decide ((zs.getD (Int.toNat ((Det.nb fW fH i).getD k 0)) 0)>(zs.getD (Int.toNat best) 0:Int))))))]) 19 ?_ ?_
    · rcases Bool.eq_false_or_eq_true (decide ((o.getD (Int.toNat ((Det.nb fW fH i).getD k 0)) 0)≥(0:Int))) with hb4 | hb4
      · have hb4p:=of_decide_eq_true hb4
        refine gm hf rfl rfl hb4 rfl rfl fun a hf=>OQ.gval (v:=.bool (decide (best<(0:Int)))) hf rfl rfl hb4 rfl (fun w hS=>RunV.lss rfl rfl) fun a hf=>gm hf rfl rfl hb4 rfl rfl fun a hf=>?_
        refine OQ.cutK (K':=fun a=>Fr a 57 [] [(1,vO),(3,(pp b_f1)),(6,iV 0),(7,vn),(8,iV best),(9,iV k),(27,.bool (decide ((o.getD (Int.toNat ((Det.nb fW fH i).getD k 0)) 0)≥(0:Int)))),(45,.bool ((decide (best<(0:Int)))||(decide ((zs.getD (Int.toNat ((Det.nb fW fH i).getD k 0)) 0)>(zs.getD (Int.toNat best) 0:Int)))))]) 15 ?_ ?_
        · rcases Bool.eq_false_or_eq_true (decide (best<(0:Int))) with hb5 | hb5
          · have hb5p:=of_decide_eq_true hb5
            refine OQ.skipB hf rfl rfl hb5 rfl fun a hf=>OQ.skipB hf rfl rfl hb5 rfl fun a hf=>OQ.skipB hf rfl rfl hb5 rfl fun a hf=>OQ.skipB hf rfl rfl hb5 rfl fun a hf=>OQ.skipB hf rfl rfl hb5 rfl fun a hf=>OQ.skipB hf rfl rfl hb5 rfl fun a hf=>OQ.skipB hf rfl rfl hb5 rfl fun a hf=>OQ.skipB hf rfl rfl hb5 rfl fun a hf=>OQ.skipB hf rfl rfl hb5 rfl fun a hf=>OQ.skipB hf rfl rfl hb5 rfl fun a hf=>OQ.skipB hf rfl rfl hb5 rfl fun a hf=>OQ.skipB hf rfl rfl hb5 rfl fun a hf=>OQ.skipB hf rfl rfl hb5 rfl fun a hf=>OQ.skipB hf rfl rfl hb5 rfl fun a hf=>?_; refine OQ.gval (v:=.bool ((decide (best<(0:Int)))||(decide ((zs.getD (Int.toNat ((Det.nb fW fH i).getD k 0)) 0)>(zs.getD (Int.toNat best) 0:Int))))) hf rfl rfl hb4 rfl (fun w hS=>RunV.pick rfl rfl rfl (by rw [hb5]; rfl)) fun a hf=>?_; exact OQ.nil (hf.q rfl)
          · have hb5p:=of_decide_eq_false hb5
            refine OQ.gval (v:=.pointer (some ⟨b_f1,2,none⟩)) hf rfl rfl hb5 rfl (fun w hS=>RunV.field T_field_24_2 rfl rfl) fun a hf=>OQ.gval (v:=vP) hf rfl rfl hb5 rfl (fun w hS=>RunV.load1 T_agg_22 rfl (hS.p 1 rfl) rfl) fun a hf=>gm hf rfl rfl hb5 rfl rfl fun a hf=>gm hf rfl rfl hb5 rfl rfl fun a hf=>OQ.gval (v:=ix vn k) hf rfl rfl hb5 rfl (fun w hS=>RunV.ixV (j:=k) (m:=k) T_elem_26 T_size_3 rfl rfl (hS.slr (j:=0) rfl) rfl (by omega) (Nat.mul_one _)) fun a hf=>OQ.gval (v:=iV ((Det.nb fW fH i).getD k 0)) hf rfl rfl hb5 rfl (fun w hS=>RunV.ld1 T_agg_3 rfl (hS.slr (j:=0) rfl) (ints_get (by omega))) fun a hf=>OQ.gval (v:=ix vP (Int.toNat ((Det.nb fW fH i).getD k 0))) hf rfl rfl hb5 rfl (fun w hS=>RunV.ixV (j:=(Int.toNat ((Det.nb fW fH i).getD k 0))) (m:=(Int.toNat ((Det.nb fW fH i).getD k 0))) T_elem_22 T_size_2 rfl rfl (hS.rdAt (j:=0) rfl) (by rw [Int.toNat_of_nonneg (by omega)]) (by omega) (Nat.mul_one _)) fun a hf=>OQ.gval (v:=iV (zs.getD (Int.toNat ((Det.nb fW fH i).getD k 0)) 0)) hf rfl rfl hb5 rfl (fun w hS=>RunV.ld1 T_agg_2 rfl (hS.rdAt (j:=0) rfl) (ints_get (by omega))) fun a hf=>OQ.gval (v:=.pointer (some ⟨b_f1,2,none⟩)) hf rfl rfl hb5 rfl (fun w hS=>RunV.field T_field_24_2 rfl rfl) fun a hf=>OQ.gval (v:=vP) hf rfl rfl hb5 rfl (fun w hS=>RunV.load1 T_agg_22 rfl (hS.p 1 rfl) rfl) fun a hf=>gm hf rfl rfl hb5 rfl rfl fun a hf=>OQ.gval (v:=ix vP (Int.toNat best)) hf rfl rfl hb5 rfl (fun w hS=>RunV.ixV (j:=(Int.toNat best)) (m:=(Int.toNat best)) T_elem_22 T_size_2 rfl rfl (hS.rdAt (j:=0) rfl) (by rw [Int.toNat_of_nonneg (by omega)]) (by omega) (Nat.mul_one _)) fun a hf=>OQ.gval (v:=iV (zs.getD (Int.toNat best) 0)) hf rfl rfl hb5 rfl (fun w hS=>RunV.ld1 T_agg_2 rfl (hS.rdAt (j:=0) rfl) (ints_get (by omega))) fun a hf=>OQ.gval (v:=.bool (decide ((zs.getD (Int.toNat ((Det.nb fW fH i).getD k 0)) 0)>(zs.getD (Int.toNat best) 0:Int)))) hf rfl rfl hb5 rfl (fun w hS=>RunV.gtr rfl rfl) fun a hf=>?_; refine OQ.gval (v:=.bool ((decide (best<(0:Int)))||(decide ((zs.getD (Int.toNat ((Det.nb fW fH i).getD k 0)) 0)>(zs.getD (Int.toNat best) 0:Int))))) hf rfl rfl hb4 rfl (fun w hS=>RunV.pick rfl rfl rfl (by rw [hb5]; rfl)) fun a hf=>?_; exact OQ.nil (hf.q rfl)
        clear hf a; intro a hf; refine OQ.val (v:=.bool ((decide ((o.getD (Int.toNat ((Det.nb fW fH i).getD k 0)) 0)≥(0:Int)))&&((decide (best<(0:Int)))||(decide ((zs.getD (Int.toNat ((Det.nb fW fH i).getD k 0)) 0)>(zs.getD (Int.toNat best) 0:Int)))))) hf rfl (fun w hS=>RunV.pick rfl rfl rfl (by rw [hb4]; rfl)) fun a hf=>?_; exact OQ.nil (hf.q rfl)
      · have hb4p:=of_decide_eq_false hb4
        refine OQ.skipB hf rfl rfl hb4 rfl fun a hf=>OQ.skipB hf rfl rfl hb4 rfl fun a hf=>OQ.skipB hf rfl rfl hb4 rfl fun a hf=>OQ.skipU hf rfl rfl rfl fun a hf=>OQ.skipU hf rfl rfl rfl fun a hf=>OQ.skipU hf rfl rfl rfl fun a hf=>OQ.skipU hf rfl rfl rfl fun a hf=>OQ.skipU hf rfl rfl rfl fun a hf=>OQ.skipU hf rfl rfl rfl fun a hf=>OQ.skipU hf rfl rfl rfl fun a hf=>OQ.skipU hf rfl rfl rfl fun a hf=>OQ.skipU hf rfl rfl rfl fun a hf=>OQ.skipU hf rfl rfl rfl fun a hf=>OQ.skipU hf rfl rfl rfl fun a hf=>OQ.skipU hf rfl rfl rfl fun a hf=>OQ.skipU hf rfl rfl rfl fun a hf=>OQ.skipU hf rfl rfl rfl fun a hf=>OQ.skipB hf rfl rfl hb4 rfl fun a hf=>?_; refine OQ.val (v:=.bool ((decide ((o.getD (Int.toNat ((Det.nb fW fH i).getD k 0)) 0)≥(0:Int)))&&((decide (best<(0:Int)))||(decide ((zs.getD (Int.toNat ((Det.nb fW fH i).getD k 0)) 0)>(zs.getD (Int.toNat best) 0:Int)))))) hf rfl (fun w hS=>RunV.pick rfl rfl rfl (by rw [hb4]; rfl)) fun a hf=>?_; exact OQ.nil (hf.q rfl)
    clear hf a; intro a hf; refine OQ.nil ?_; intro w hS; refine k_seq ?_; refine W.if_ hf rfl (fun hc=>?_) (fun hc=>?_)
    · have hcb:=hc
      try simp only [bsm] at hc
      refine R5 rfl<|mv hf rfl<|fun a hf=>mv hf rfl fun a hf=>ov hf rfl (RunV.ixV (j:=k) (m:=k) T_elem_26 T_size_3 rfl rfl (hS.slr (j:=0) rfl) rfl (by omega) (Nat.mul_one _)) fun a hf=>ov hf rfl (RunV.ld1 T_agg_3 rfl (hS.slr (j:=0) rfl) (ints_get (by omega))) fun a hf=>mv hf rfl fun a hf=>?_; refine O.nil<|k_blk_normal<|k_seq<|?_; replace hf:Fr a 57 [] [(1,_),(3,_),(6,_),(7,_),(8,_),(9,_)]:=hf.q rfl
      refine R3 rfl<|mv hf rfl<|fun a hf=>ov hf rfl (RunV.addI rfl rfl (by omega)) fun a hf=>mv hf rfl fun a hf=>?_; refine O.nil ?_; refine k_then ⟨(k+1,(Det.nb fW fH i).getD k 0),⟨hf.to ⟨rfl,rfl,rfl,rfl,(by first | rfl | exact vI (by omega)),(by first | rfl | exact vI (by omega)),trivial⟩,?_,?_,?_,?_⟩,?_⟩
      · exact hS.eqM rfl
      · omega
      · refine Det.scan_take (by omega) h2 (by simp only [Det.qOwn,← hnow]; simp only [Bool.and_eq_true,decide_eq_true_eq] at hcb; exact decide_eq_true hcb.1) hnr.1 (by simp only [Bool.and_eq_true,Bool.or_eq_true,decide_eq_true_eq] at hcb; exact hcb.2)
      · omega
      · dsimp only; omega
    · have hcb:=hc
      try simp only [bsm] at hc
      refine W.skip<|k_blk_normal<|k_seq<|?_
      refine R3 rfl<|mv hf rfl<|fun a hf=>ov hf rfl (RunV.addI rfl rfl (by omega)) fun a hf=>mv hf rfl fun a hf=>?_; refine O.nil ?_; refine k_then ⟨(k+1,best),⟨hf.to ⟨rfl,rfl,rfl,rfl,(by first | rfl | exact vI (by omega)),(by first | rfl | exact vI (by omega)),trivial⟩,?_,?_,?_,?_⟩,?_⟩
      · exact hS.eqM rfl
      · omega
      · exact Det.scan_not Det.nb_asc (by omega) h2 (by simp only [Det.qOwn,← hnow]; simpa using hcb)
      · omega
      · dsimp only; omega
  · refine W.exit ?_
    refine k_then_exit<|k_then_exit<|k_blk<|k_seq<|W.seq<|W.seq<|?_
    refine R2 rfl<|mv hf rfl<|fun a hf=>ov (v:=.bool (decide (best<(0:Int)))) hf rfl (RunV.lss rfl rfl) fun a hf=>?_; refine nk ?_; refine W.ifdI hf rfl (fun hneg=>?_) (fun hneg=>?_)
    · refine W.seq ?_
      refine R1 rfl<|mv hf rfl<|fun a hf=>?_; refine nk<|W.ret<|k_then_ret<|post1 hf rfl (ResOK.tmp rfl)<|?_; obtain rfl:k=(Det.nb fW fH i).length:=by omega
      have hbe:=Det.scan_best h2; refine ⟨(),?_,hS.sub (List.nil_sublist _) |>.noB⟩; unfold Det.ownerM Det.byM; rw [Int.toNat_natCast,← hbe]; rw [if_pos (by omega)]
    · refine W.skip ?_
      refine k_seq<|W.seq<|?_
      refine R5 rfl<|mv hf rfl<|fun a hf=>mv hf rfl fun a hf=>ov hf rfl (RunV.ixV (j:=(Int.toNat best)) (m:=(Int.toNat best)) T_elem_26 T_size_3 rfl rfl (hS.rdAt (j:=1) rfl) (by rw [Int.toNat_of_nonneg (by omega)]) (by omega) (Nat.mul_one _)) fun a hf=>ov hf rfl (RunV.ld1 T_agg_3 rfl (hS.rdAt (j:=1) rfl) (ints_get (by omega))) fun a hf=>mv hf rfl fun a hf=>?_; refine nk<|W.ret<|post1 hf rfl (ResOK.tmp rfl)<|?_; obtain rfl:k=(Det.nb fW fH i).length:=by omega
      have hbe:=Det.scan_best h2; refine ⟨(),?_,hS.sub (List.nil_sublist _) |>.noB⟩; unfold Det.ownerM Det.byM; rw [Int.toNat_natCast,← hbe]; rw [if_neg (by omega),← Det.ow_rd (by omega)]
theorem owner80i (fW fH:Nat) (i:Int) (vP vO:Value) (zs o:List Int) (w0:World) (hW:1≤fW∧fW≤100) (hH:1≤fH∧fH≤100) (hn:zs.length=fW*fH) (hi:0≤i∧i<((fW*fH:Nat):Int)) (hP:rdOK (hp w0) 1 vP zs.length (ints zs)) (hO:rdOK (hp w0) 1 vO o.length (ints o)) (hol:o.length=fW*fH) :
    Ret Tryz.prog 80 #[(fG fW fH vP),vO,iV i] w0 (G:=Unit) (fun _=>iV (Det.ownerM zs fW fH o i)) (fun _ w=>St w0 w noX [] []):=by
  obtain ⟨n,rfl⟩:∃ n:Nat,i=(n:Int):=⟨i.toNat,by omega⟩; exact owner80_spec fW fH n vP vO zs o w0 hW hH hn (by omega) hP hO hol
set_option maxHeartbeats 1000000 in
set_option maxRecDepth 4000 in
theorem next79_spec (fW fH:Nat) (vP vL vO:Value) (zs l o:List Int) (w0:World) (hW:1≤fW∧fW≤100) (hH:1≤fH∧fH≤100) (hn:zs.length=fW*fH) (hl:l.Pairwise (·<·)) (hr:∀ x ∈ l,0≤x∧x<((fW*fH:Nat):Int)) (hP:rdOK (hp w0) 1 vP zs.length (ints zs)) (hL:rdOK (hp w0) 1 vL l.length (ints l)) (hO:rdOK (hp w0) 1 vO o.length (ints o)) (hol:o.length=fW*fH) :
    Ret Tryz.prog 79 #[(fG fW fH vP),vL,vO] w0 (G:=Unit) (fun _=>iV (Det.nextM zs fW fH l o)) (fun _ w=>St w0 w noX [] []):=by
  refine ret_of_W (lv:=[(fG fW fH vP),vL,vO]) Tryz.func79 rfl rfl rfl (fun a hf=>?_); replace hf:Fr a 51 [] [(0,(fG fW fH vP)),(1,vL),(2,vO)]:=hf; have hS:St w0 w0 noX [rI vP zs,rI vL l,rI vO o] []:=(((St.refl w0).lend0 hO).lend0 hL).lend0 hP; have hN:fW*fH≤10000:=Nat.mul_le_mul hW.2 hH.2; have hlen:=hL.2.1; unfold maxLen at hlen; refine W.seq ?_
  refine R2 rfl<|O.box (cs:=#[iV fW,iV fH,vP]) hf hS rfl rfl rfl rfl<|?_; intro b_f1 w a hbb_f1 hS hf; refine mv hf rfl fun a hf=>?_; refine nk<|W.seq<|?_
  refine R1 rfl<|mv hf rfl<|fun a hf=>?_; refine nk<|W.seq<|W.seq<|?_
  refine R1 rfl<|mv hf rfl<|fun a hf=>?_; refine nk<|W.block<|?_
  refine W.loop (G:=(Nat) × (Int)) (fun g a w=>match g with | (k,best)=>Fr a 51 [] [(1,vL),(2,vO),(3,(pp b_f1)),(6,iV 0),(7,iV best),(8,iV k)]∧St w0 w noX [rI vP zs,rI vL l,rI vO o] [pt b_f1 (.cells #[iV fW,iV fH,vP] 24 (0,0))]∧(k≤l.length)∧(Det.ScanI zs l (Det.qNext fW fH o) k best)∧(best=-1∨0≤best∧best<((fW*fH:Nat):Int))) (fun g=>match g with | (k,best)=>l.length-k) (0,(-1)) ?_ ?_
  · refine ⟨hf.to ⟨rfl,rfl,rfl,rfl,(by first | rfl | exact vI (by omega)),(by first | rfl | exact vI (by omega)),trivial⟩,hS,?_,?_,?_⟩
    · omega
    · exact Det.scan_0
    · omega
  clear hf hS a; rintro ⟨k,best⟩ a w ⟨hf,hS,h1,h2,h3⟩; refine W.seq<|W.seq<|?_
  refine R4 rfl<|mv hf rfl<|fun a hf=>mv hf rfl fun a hf=>ov hf rfl (RunV.lenV (e:=3) (by simpa using T_elem_26) rfl (hS.rdAt (j:=1) rfl)) fun a hf=>ov (v:=.bool (decide ((k:Int)<((l.length:Int):Int)))) hf rfl (RunV.lss rfl rfl) fun a hf=>?_; refine nk ?_; refine W.ifdI hf rfl (fun hc2=>?_) (fun hc2=>?_)
  · refine W.skip ?_
    refine k_seq<|W.seq<|W.block<|W.seq<|?_
    refine R5 rfl ?_; have hnr:=hr _ (Det.getD_mem (l:=l) (j:=k) (by omega)); have hnow:o.getD (Int.toNat (l.getD k 0)) 0=Det.ow o (l.getD k 0):=Det.ow_rd (by omega); have hoa:=Det.owner_any (P:=zs) (W:=fW) (H:=fH) (o:=o) (i:=l.getD k 0); refine mv hf rfl fun a hf=>mv hf rfl fun a hf=>ov hf rfl (RunV.ixV (j:=k) (m:=k) T_elem_26 T_size_3 rfl rfl (hS.rdAt (j:=1) rfl) rfl (by omega) (Nat.mul_one _)) fun a hf=>ov hf rfl (RunV.ld1 T_agg_3 rfl (hS.rdAt (j:=1) rfl) (ints_get (by omega))) fun a hf=>mv hf rfl fun a hf=>?_; refine nk ?_; replace hf:Fr a 51 [] [(1,vL),(2,vO),(3,(pp b_f1)),(6,iV 0),(7,iV best),(8,iV k),(9,iV (l.getD k 0))]:=hf.q rfl; refine W.seq ?_
    refine W.drawQ (fun w=>St w0 w noX [rI vP zs,rI vL l,rI vO o] [pt b_f1 (.cells #[iV fW,iV fH,vP] 24 (0,0))]) P_mixed rfl (by kernel_rfl) rfl hS.drew ?_; clear hS; refine q0 hf rfl rfl fun a hf=>q0 hf rfl rfl fun a hf=>OQ.val (v:=ix vO (Int.toNat (l.getD k 0))) hf rfl (fun w hS=>RunV.ixV (j:=(Int.toNat (l.getD k 0))) (m:=(Int.toNat (l.getD k 0))) T_elem_26 T_size_3 rfl rfl (hS.rdAt (j:=2) rfl) (by rw [Int.toNat_of_nonneg (by omega)]) (by omega) (Nat.mul_one _)) fun a hf=>OQ.val (v:=iV (o.getD (Int.toNat (l.getD k 0)) 0)) hf rfl (fun w hS=>RunV.ld1 T_agg_3 rfl (hS.rdAt (j:=2) rfl) (ints_get (by omega))) fun a hf=>OQ.val (v:=.bool (decide ((o.getD (Int.toNat (l.getD k 0)) 0)<(0:Int)))) hf rfl (fun w hS=>RunV.lss rfl rfl) fun a hf=>q0 hf rfl rfl fun a hf=>?_
    refine OQ.cutK (K':=fun a=>Fr a 51 [] [(1,vL),(2,vO),(3,(pp b_f1)),(6,iV 0),(7,iV best),(8,iV k),(9,iV (l.getD k 0)),(31,.bool ((decide ((o.getD (Int.toNat (l.getD k 0)) 0)<(0:Int)))&&(decide ((Det.ownerM zs fW fH o (l.getD k 0))≥(0:Int)))))]) 6 ?_ ?_
    · rcases Bool.eq_false_or_eq_true (decide ((o.getD (Int.toNat (l.getD k 0)) 0)<(0:Int))) with hb3 | hb3
      · have hb3p:=of_decide_eq_true hb3
        refine OQ.gval (v:=(fG fW fH vP)) hf rfl rfl hb3 rfl (fun w hS=>RunV.loadN (cs':=#[iV fW,iV fH,vP]) T_agg_24 T_size_24 rfl (hS.p 0 rfl) (bl rfl) rfl) fun a hf=>gm hf rfl rfl hb3 rfl rfl fun a hf=>gm hf rfl rfl hb3 rfl rfl fun a hf=>OQ.gcallRq (v:=iV (Det.ownerM zs fW fH o (l.getD k 0))) hf rfl rfl hb3 rfl (fun w hS=>RunE.call (av:=#[(fG fW fH vP),vO,iV (l.getD k 0)]) C_ok_80 rfl rfl rfl) (fun w hS=>owner80i fW fH (l.getD k 0) vP vO zs o _ hW hH hn hnr (hS.rdAt (j:=0) rfl) (hS.rdAt (j:=2) rfl) hol) fun a hf=>OQ.gval (v:=.bool (decide ((Det.ownerM zs fW fH o (l.getD k 0))≥(0:Int)))) hf rfl rfl hb3 rfl (fun w hS=>RunV.geq rfl rfl) fun a hf=>?_; refine OQ.val (v:=.bool ((decide ((o.getD (Int.toNat (l.getD k 0)) 0)<(0:Int)))&&(decide ((Det.ownerM zs fW fH o (l.getD k 0))≥(0:Int))))) hf rfl (fun w hS=>RunV.pick rfl rfl rfl (by rw [hb3]; rfl)) fun a hf=>?_; exact OQ.nil (hf.q rfl)
      · have hb3p:=of_decide_eq_false hb3
        refine OQ.skipB hf rfl rfl hb3 rfl fun a hf=>OQ.skipB hf rfl rfl hb3 rfl fun a hf=>OQ.skipB hf rfl rfl hb3 rfl fun a hf=>OQ.skipB hf rfl rfl hb3 rfl fun a hf=>OQ.skipB hf rfl rfl hb3 rfl fun a hf=>?_; refine OQ.val (v:=.bool ((decide ((o.getD (Int.toNat (l.getD k 0)) 0)<(0:Int)))&&(decide ((Det.ownerM zs fW fH o (l.getD k 0))≥(0:Int))))) hf rfl (fun w hS=>RunV.pick rfl rfl rfl (by rw [hb3]; rfl)) fun a hf=>?_; exact OQ.nil (hf.q rfl)
    clear hf a; intro a hf; refine q0 hf rfl rfl fun a hf=>?_
    refine OQ.cutK (K':=fun a=>Fr a 51 [] [(1,vL),(2,vO),(3,(pp b_f1)),(6,iV 0),(7,iV best),(8,iV k),(9,iV (l.getD k 0)),(48,.bool (((decide ((o.getD (Int.toNat (l.getD k 0)) 0)<(0:Int)))&&(decide ((Det.ownerM zs fW fH o (l.getD k 0))≥(0:Int))))&&((decide (best<(0:Int)))||(decide ((zs.getD (Int.toNat (l.getD k 0)) 0)>(zs.getD (Int.toNat best) 0:Int))))))]) 16 ?_ ?_
    · rcases Bool.eq_false_or_eq_true ((decide ((o.getD (Int.toNat (l.getD k 0)) 0)<(0:Int)))&&(decide ((Det.ownerM zs fW fH o (l.getD k 0))≥(0:Int)))) with hb4 | hb4
      · have hb4p:=hb4
        try simp only [bsm] at hb4p
        refine gm hf rfl rfl hb4 rfl rfl fun a hf=>OQ.gval (v:=.bool (decide (best<(0:Int)))) hf rfl rfl hb4 rfl (fun w hS=>RunV.lss rfl rfl) fun a hf=>gm hf rfl rfl hb4 rfl rfl fun a hf=>?_
        refine OQ.cutK (K':=fun a=>Fr a 51 [] [(1,vL),(2,vO),(3,(pp b_f1)),(6,iV 0),(7,iV best),(8,iV k),(9,iV (l.getD k 0)),(32,.bool ((decide ((o.getD (Int.toNat (l.getD k 0)) 0)<(0:Int)))&&(decide ((Det.ownerM zs fW fH o (l.getD k 0))≥(0:Int))))),(47,.bool ((decide (best<(0:Int)))||(decide ((zs.getD (Int.toNat (l.getD k 0)) 0)>(zs.getD (Int.toNat best) 0:Int)))))]) 12 ?_ ?_
        · rcases Bool.eq_false_or_eq_true (decide (best<(0:Int))) with hb5 | hb5
          · have hb5p:=of_decide_eq_true hb5
            refine OQ.skipB hf rfl rfl hb5 rfl fun a hf=>OQ.skipB hf rfl rfl hb5 rfl fun a hf=>OQ.skipB hf rfl rfl hb5 rfl fun a hf=>OQ.skipB hf rfl rfl hb5 rfl fun a hf=>OQ.skipB hf rfl rfl hb5 rfl fun a hf=>OQ.skipB hf rfl rfl hb5 rfl fun a hf=>OQ.skipB hf rfl rfl hb5 rfl fun a hf=>OQ.skipB hf rfl rfl hb5 rfl fun a hf=>OQ.skipB hf rfl rfl hb5 rfl fun a hf=>OQ.skipB hf rfl rfl hb5 rfl fun a hf=>OQ.skipB hf rfl rfl hb5 rfl fun a hf=>?_; refine OQ.gval (v:=.bool ((decide (best<(0:Int)))||(decide ((zs.getD (Int.toNat (l.getD k 0)) 0)>(zs.getD (Int.toNat best) 0:Int))))) hf rfl rfl hb4 rfl (fun w hS=>RunV.pick rfl rfl rfl (by rw [hb5]; rfl)) fun a hf=>?_; exact OQ.nil (hf.q rfl)
          · have hb5p:=of_decide_eq_false hb5
            refine OQ.gval (v:=.pointer (some ⟨b_f1,2,none⟩)) hf rfl rfl hb5 rfl (fun w hS=>RunV.field T_field_24_2 rfl rfl) fun a hf=>OQ.gval (v:=vP) hf rfl rfl hb5 rfl (fun w hS=>RunV.load1 T_agg_22 rfl (hS.p 0 rfl) rfl) fun a hf=>gm hf rfl rfl hb5 rfl rfl fun a hf=>OQ.gval (v:=ix vP (Int.toNat (l.getD k 0))) hf rfl rfl hb5 rfl (fun w hS=>RunV.ixV (j:=(Int.toNat (l.getD k 0))) (m:=(Int.toNat (l.getD k 0))) T_elem_22 T_size_2 rfl rfl (hS.rdAt (j:=0) rfl) (by rw [Int.toNat_of_nonneg (by omega)]) (by omega) (Nat.mul_one _)) fun a hf=>OQ.gval (v:=iV (zs.getD (Int.toNat (l.getD k 0)) 0)) hf rfl rfl hb5 rfl (fun w hS=>RunV.ld1 T_agg_2 rfl (hS.rdAt (j:=0) rfl) (ints_get (by omega))) fun a hf=>OQ.gval (v:=.pointer (some ⟨b_f1,2,none⟩)) hf rfl rfl hb5 rfl (fun w hS=>RunV.field T_field_24_2 rfl rfl) fun a hf=>OQ.gval (v:=vP) hf rfl rfl hb5 rfl (fun w hS=>RunV.load1 T_agg_22 rfl (hS.p 0 rfl) rfl) fun a hf=>gm hf rfl rfl hb5 rfl rfl fun a hf=>OQ.gval (v:=ix vP (Int.toNat best)) hf rfl rfl hb5 rfl (fun w hS=>RunV.ixV (j:=(Int.toNat best)) (m:=(Int.toNat best)) T_elem_22 T_size_2 rfl rfl (hS.rdAt (j:=0) rfl) (by rw [Int.toNat_of_nonneg (by omega)]) (by omega) (Nat.mul_one _)) fun a hf=>OQ.gval (v:=iV (zs.getD (Int.toNat best) 0)) hf rfl rfl hb5 rfl (fun w hS=>RunV.ld1 T_agg_2 rfl (hS.rdAt (j:=0) rfl) (ints_get (by omega))) fun a hf=>OQ.gval (v:=.bool (decide ((zs.getD (Int.toNat (l.getD k 0)) 0)>(zs.getD (Int.toNat best) 0:Int)))) hf rfl rfl hb5 rfl (fun w hS=>RunV.gtr rfl rfl) fun a hf=>?_; refine OQ.gval (v:=.bool ((decide (best<(0:Int)))||(decide ((zs.getD (Int.toNat (l.getD k 0)) 0)>(zs.getD (Int.toNat best) 0:Int))))) hf rfl rfl hb4 rfl (fun w hS=>RunV.pick rfl rfl rfl (by rw [hb5]; rfl)) fun a hf=>?_; exact OQ.nil (hf.q rfl)
        clear hf a; intro a hf; refine OQ.val (v:=.bool (((decide ((o.getD (Int.toNat (l.getD k 0)) 0)<(0:Int)))&&(decide ((Det.ownerM zs fW fH o (l.getD k 0))≥(0:Int))))&&((decide (best<(0:Int)))||(decide ((zs.getD (Int.toNat (l.getD k 0)) 0)>(zs.getD (Int.toNat best) 0:Int)))))) hf rfl (fun w hS=>RunV.pick rfl rfl rfl (by rw [hb4]; rfl)) fun a hf=>?_; exact OQ.nil (hf.q rfl)
      · have hb4p:=hb4
        try simp only [bsm] at hb4p
        refine OQ.skipB hf rfl rfl hb4 rfl fun a hf=>OQ.skipB hf rfl rfl hb4 rfl fun a hf=>OQ.skipB hf rfl rfl hb4 rfl fun a hf=>OQ.skipU hf rfl rfl rfl fun a hf=>OQ.skipU hf rfl rfl rfl fun a hf=>OQ.skipU hf rfl rfl rfl fun a hf=>OQ.skipU hf rfl rfl rfl fun a hf=>OQ.skipU hf rfl rfl rfl fun a hf=>OQ.skipU hf rfl rfl rfl fun a hf=>OQ.skipU hf rfl rfl rfl fun a hf=>OQ.skipU hf rfl rfl rfl fun a hf=>OQ.skipU hf rfl rfl rfl fun a hf=>OQ.skipU hf rfl rfl rfl fun a hf=>OQ.skipU hf rfl rfl rfl fun a hf=>OQ.skipB hf rfl rfl hb4 rfl fun a hf=>?_; refine OQ.val (v:=.bool (((decide ((o.getD (Int.toNat (l.getD k 0)) 0)<(0:Int)))&&(decide ((Det.ownerM zs fW fH o (l.getD k 0))≥(0:Int))))&&((decide (best<(0:Int)))||(decide ((zs.getD (Int.toNat (l.getD k 0)) 0)>(zs.getD (Int.toNat best) 0:Int)))))) hf rfl (fun w hS=>RunV.pick rfl rfl rfl (by rw [hb4]; rfl)) fun a hf=>?_; exact OQ.nil (hf.q rfl)
    clear hf a; intro a hf; refine OQ.nil ?_; intro w hS; refine k_seq ?_; refine W.if_ hf rfl (fun hc=>?_) (fun hc=>?_)
    · have hcb:=hc
      try simp only [bsm] at hc
      refine R2 rfl<|mv hf rfl<|fun a hf=>mv hf rfl fun a hf=>?_; refine O.nil<|k_blk_normal<|k_seq<|?_; replace hf:Fr a 51 [] [(1,_),(2,_),(3,_),(6,_),(7,_),(8,_),(9,_)]:=hf.q rfl
      refine R3 rfl<|mv hf rfl<|fun a hf=>ov hf rfl (RunV.addI rfl rfl (by omega)) fun a hf=>mv hf rfl fun a hf=>?_; refine O.nil ?_; refine k_then ⟨(k+1,l.getD k 0),⟨hf.to ⟨rfl,rfl,rfl,rfl,(by first | rfl | exact vI (by omega)),(by first | rfl | exact vI (by omega)),trivial⟩,?_,?_,?_,?_⟩,?_⟩
      · exact hS.eqM rfl
      · omega
      · refine Det.scan_take (by omega) h2 (Det.qNext_eq hnow hoa ?_) hnr.1 (by simp only [Bool.and_eq_true,Bool.or_eq_true,decide_eq_true_eq] at hcb; exact hcb.2)
        simp only [Bool.and_eq_true,decide_eq_true_eq] at hcb; exact hcb.1
      · omega
      · dsimp only; omega
    · have hcb:=hc
      try simp only [bsm] at hc
      refine W.skip<|k_blk_normal<|k_seq<|?_
      refine R3 rfl<|mv hf rfl<|fun a hf=>ov hf rfl (RunV.addI rfl rfl (by omega)) fun a hf=>mv hf rfl fun a hf=>?_; refine O.nil ?_; refine k_then ⟨(k+1,best),⟨hf.to ⟨rfl,rfl,rfl,rfl,(by first | rfl | exact vI (by omega)),(by first | rfl | exact vI (by omega)),trivial⟩,?_,?_,?_,?_⟩,?_⟩
      · exact hS.eqM rfl
      · omega
      · refine Det.scan_not hl (by omega) h2 (fun hq=>?_)
        have hq:=Det.qNext_of hnow hoa hq; rw [decide_eq_true hq.1,decide_eq_true (show _≥_ from hq.2)] at hcb; simpa using hcb
      · omega
      · dsimp only; omega
  · refine W.exit ?_
    refine k_then_exit<|k_then_exit<|k_blk<|k_seq<|W.seq<|?_
    refine R2 rfl<|mv hf rfl<|fun a hf=>mv hf rfl fun a hf=>?_; refine nk<|W.ret<|post1 hf rfl (ResOK.tmp rfl)<|?_; obtain rfl:k=l.length:=by omega
    exact ⟨(),by rw [Det.scan_best h2]; rfl,hS.sub (List.nil_sublist _) |>.noB⟩
end Go.Proofs.YtipfobacinmoiaaGreat

namespace Go.SL
open Go
def sget (ins:List Bool) (k:Int):Bool:=if k<0 then false else ins.getD k.toNat false
section
variable {r:Option Nat} {P:Program} {ops:Array Oper} {Q:Exit→Act→World→Prop} {a:Act} {w w0:World} {n:Nat} {ds:List Deferred} {L:List (Nat × Value)} {X:Nat→Prop} {B M M':List Asr}
  {d i j b:Nat} {ty t kt:TypeId} {pos:String} {af:Array Edge} {rest:List Nat} {x y z:Operand} {ins:List Bool} {k:Int}
end
end Go.SL

namespace Go.SL
open Go
section
variable {r:Option Nat} {P:Program} {ops:Array Oper} {Q:Exit→Act→World→Prop} {a:Act} {w w0:World} {n n':Nat} {ds:List Deferred} {L:List (Nat × Value)} {X:Nat→Prop} {B M M':List Asr}
  {d i j b:Nat} {op:Op} {ty t e:TypeId} {pos:String} {af:Array Edge} {rest:List Nat} {x y z:Operand} {f:FuncId}
def Exit.stl (Q:Exit→Act→World→Prop):Exit→Act→World→Prop
  | .goto _,_,_=>False
  | e,a,w=>Q e a w
theorem stepS_scope {P:Program} {b:Frame} {a:Act} {k:List Item} {cs:List Frame} {w:World} {c:Code}:step P (lone (b.atR a (.code (.scope c)::k)) cs w)=.next (lone (b.atR a (.code c::.inScope c::k)) cs w) :=
  step_lone_go (by simp [stepG,stepG.exec,Frame.atR])
theorem stepS_inScope {P:Program} {b:Frame} {a:Act} {k:List Item} {cs:List Frame} {w:World} {c:Code}:step P (lone (b.atR a (.inScope c::k)) cs w)=.next (lone (b.atR a k) cs w) :=
  step_lone_go (by simp [stepG,stepG.exec,Frame.atR])
theorem W.scopeS {c:Code} (h:W r P c (Exit.stl Q) a w):W r P (.scope c) Q a w:=by
  intro b k cs hro hb hr
  have h0:(lone (b.atR a (.code (.scope c)::k)) cs w).fenced P (FW r):=fenced_calm hb hr rfl
  obtain ⟨e,a₁,w₁,hq,harr⟩:=h b (.inScope c::k) cs hro hb hr
  cases e with
  | normal=>exact ⟨.normal,a₁,w₁,hq,.head h0 stepS_scope (StepsIn.trans harr (.one (fenced_calm hb hr rfl) stepS_inScope))⟩
  | exit id =>
    have hx:exitTo id (.inScope c::k)=exitTo id k:=by simp [exitTo]
    exact ⟨.exit id,a₁,w₁,hq,fun k' hk=>.head h0 stepS_scope (harr.1 k' (by rw [hx]; exact hk)),
      fun hr' hk=>let ⟨k₁,h1,h2⟩:=harr.2 hr' (by rw [hx]; exact hk); ⟨k₁,h1,.head h0 stepS_scope h2⟩⟩
  | goto l=>exact hq.elim
  | ret=>exact ⟨_,a₁,w₁,hq,.of_steps (.one h0 stepS_scope) harr⟩
  | panic ch=>exact ⟨_,a₁,w₁,hq,.of_steps (.one h0 stepS_scope) harr⟩
  | outgrown=>exact ⟨_,a₁,w₁,hq,.of_steps (.one h0 stepS_scope) harr⟩
theorem k_stl_ret (h:Q .ret a w):Exit.stl Q .ret a w:=h
end
end Go.SL

namespace Go.SL
open Go
section
variable {r:Option Nat} {P:Program} {ops:Array Oper} {Q:Exit→Act→World→Prop} {a:Act} {w w0:World} {n:Nat} {ds:List Deferred} {L:List (Nat × Value)} {X:Nat→Prop} {B M:List Asr}
theorem O.buildC {i d j m len:Nat} {t ty e:TypeId} {rest:List Nat} {pos:String} {af:Array Edge} {z:Value} {c:Bool} {p:Asr} {parts:Array (Nat × Operand)} {vs:List (Nat × Value)} {cs' zs:Array Value}
    (hf:Fr a n ds L) (hS:St w0 w X B M) (hj:M[j]? = some (condA c p)) (hc:c=false) (ho:ops[i]? = some ⟨some d,.buildSlice t len parts,ty,pos,af,none⟩) (hd:Nat.blt d n=true)
    (he:tElem P t=some e) (hs:tSize P e=some m) (hz:tZero P e=some z) (h0:Nat.ble (len*m) 16777216=true) (h1:Nat.blt 0 (len*m)=true) (hzs:((List.range (len*m)).map (z.cells[· % z.cells.size]!)).toArray=zs)
    (hv:evP L parts.toList=some vs) (hb:Instr.fill (fun i=>some (i*m,m)) zs vs=some cs')
    (k:∀ b w' a',St w0 w' X B (M.set j (pt b (.cells cs' e (0,0))))→Fr a' n ds ((d,.slice (some ⟨b,0,none⟩) len len)::L)→O r P ops Q rest a' w'):O r P ops Q (i::rest) a w:=by
  refine O.buildSlice hf hS ho hd he hs hz h0 h1 hzs hv hb (fun b w' a' hb hS' hf'=>k b w' a' ?_ hf')
  subst hc
  have h1:=hS'.sep
  obtain ⟨hjl,hje⟩:=List.getElem?_eq_some_iff.1 hj
  refine ⟨hS'.os,hS'.tape,hS'.output,hS'.size,hS'.old,?_,hS'.bor⟩
  have hp:=h1.1
  have hM:=h1.2
  clear h1 hS hS' k hf hf' ho
  revert j
  induction M with
  | nil=>intro j hj hjl _; simp at hj
  | cons q t ih =>
    intro j hj hjl hje
    cases j with
    | zero =>
      simp only [List.set_cons_zero]
      exact ⟨⟨hp.1,hp.2.1,fun s hs=>hp.2.2 s (by simp [hs])⟩,hM.2⟩
    | succ j =>
      simp only [List.set_cons_succ]
      have h2:=ih ⟨hp.1,hp.2.1,fun s hs=>hp.2.2 s (by simp [hs])⟩ hM.2 (j:=j) (by simpa using hj) (by simpa using hjl) (by simpa using hje)
      refine ⟨⟨hM.1.1,hM.1.2.1,fun s hs b' hb' hsb=>?_⟩,h2⟩
      rcases List.mem_or_eq_of_mem_set hs with h3 | h3
      · exact hM.1.2.2 s h3 b' hb' hsb
      · subst h3
        exact hp.2.2 q (by simp) b' hsb hb'
end
section
variable {r:Option Nat} {P:Program} {ops:Array Oper} {Q:Exit→Act→World→Prop} {a:Act} {w w0:World} {n:Nat} {ds:List Deferred} {γ:Type} {X:Nat→Prop} {B M:List Asr}
theorem oj {T:Type} {x y:T} (h:some x=some y):x=y:=Option.some.inj h
def Lq (v:Nat→Value) (i:Nat) (l:List Nat) (N:Nat):List Value:=(List.range N).map fun j=>match Nat.beq j i||l.contains j with
  | true=>undef
  | false=>v j
end
end Go.SL

namespace Go.SL
open Go
section
variable {r:Option Nat} {P:Program} {ops:Array Oper} {Q:Exit→Act→World→Prop} {a:Act} {w w0:World} {n:Nat} {ds:List Deferred} {L:List (Nat × Value)} {X:Nat→Prop} {B M:List Asr}
end
end Go.SL

namespace Go.SL
open Go
theorem St.rdPt {w0 w:World} {X:Nat→Prop} {B M:List Asr} {j b n sz:Nat} {cs:Array Value} {e:TypeId} {z:Nat × Nat} {xs:List Value} (h:St w0 w X B M) (hi:M[j]? = some (pt b (.cells cs e z))) (hn:n≤maxLen) (hc:cs.size=n*sz) (hx:cs=xs.toArray) :
    rdOK (hp w) sz (.slice (some ⟨b,0,none⟩) n n) n xs:=by
  have h1:w.heap[b]? = some (.cells cs e z):=h.at_ hi
  subst hx
  refine ⟨by simpa using hc,hn,some ⟨b,0,none⟩,n,rfl,fun _=>⟨_,_,_,_,rfl,rfl,h1,fun j u hu=>by simpa using hu⟩⟩
theorem u64_id {p:Int} (h:0≤p∧p<18446744073709551616):IntKind.u64.wrap p=p:=by
  simp only [IntKind.wrap,IntKind.bits,IntKind.signed]
  simp
  omega
theorem bitand_le {x y:Int} (hy:0≤y∧y<18446744073709551616):0≤bitand .u64 x y∧bitand .u64 x y≤y:=by
  unfold bitand
  obtain ⟨n,rfl⟩:=Int.eq_ofNat_of_zero_le hy.1
  have h1:(BitVec.ofInt IntKind.u64.bits x&&&BitVec.ofInt IntKind.u64.bits (n:Int)).toNat≤n:=by
    rw [BitVec.toNat_and]
    refine Nat.le_trans Nat.and_le_right ?_
    show (BitVec.ofInt 64 (n:Int)).toNat≤n
    rw [BitVec.toNat_ofInt]
    have:(n:Int) % ((2^64:Nat):Int)=n:=Int.emod_eq_of_lt (by omega) (by omega)
    rw [this]
    simp
  rw [u64_id (by omega)]
  omega
section
variable {P:Program} {w:World} {n:Nat} {ds:List Deferred} {L:List (Nat × Value)} {ty t t':TypeId} {x y:Operand} {p q:Int}
theorem RunV.subU (hx:ev L x=some (.int .u64 p)) (hy:ev L y=some (.int .u64 q)) (h:0≤p-q∧p-q<18446744073709551616):RunV P n ds L (.binOp .sub t x y t') ty w (.int .u64 (p-q)) w:=by
  have h1:=RunV.sub (P:=P) (w:=w) (n:=n) (ds:=ds) (t:=t) (t':=t') (ty:=ty) hx hy
  rwa [u64_id h] at h1
theorem RunV.convU {k:IntKind} (ht:(P.underlying t).isSome=true) (hT:tInt P t'=some .u64) (hx:ev L x=some (.int k p)) (h:0≤p∧p<18446744073709551616):RunV P n ds L (.convert t t' x) ty w (.int .u64 p) w:=by
  have h1:=RunV.conv (P:=P) (w:=w) (n:=n) (ds:=ds) (ty:=ty) ht hT hx
  rwa [u64_id h] at h1
theorem RunV.convI {k:IntKind} (ht:(P.underlying t).isSome=true) (hT:tInt P t'=some .i64) (hx:ev L x=some (.int k p)) (h:0≤p∧p<9223372036854775808):RunV P n ds L (.convert t t' x) ty w (.int .i64 p) w:=by
  have h1:=RunV.conv (P:=P) (w:=w) (n:=n) (ds:=ds) (ty:=ty) ht hT hx
  rwa [i64_id (by omega)] at h1
end
theorem W.joinR {r:Option Nat} {P:Program} {Q:Exit→Act→World→Prop} {a:Act} {w:World} {x:Code} {K:Act→World→Prop} (R:Act→World→Prop) (h:W r P x (Exit.then R Q) a w) (hy:∀ a w,R a w→K a w):W r P x (Exit.then K Q) a w:=by
  refine h.mono fun e a w hq=>?_
  cases e <;> first | exact hq | exact hy a w hq
theorem made_nils (n:Nat):(madeCells (Value.cells (.slice none 0 0)) (n*1)).toList=List.replicate n (.slice none 0 0):=by
  apply List.ext_getElem?
  intro i
  simp only [madeCells,Value.cells,Array.toList_map,Array.toList_range,Nat.mul_one,List.getElem?_map,List.getElem?_replicate]
  by_cases h:i<n
  · simp [h,List.getElem?_range,Nat.mod_one]
  · simp [h]
end Go.SL

namespace Det
open Go.Sort
def cmpI (x y:Int):Int:=if x<y then -1 else if x>y then 1 else 0
def orM:List Int→Int
  | []=>0
  | x::t=>if x≠0 then x else orM t
theorem orM_none:∀ {l:List Int},(∀ i,i<l.length→l.getD i 0=0)→orM l=0
  | [],_=>rfl
  | x::t,h=>by
    have h0:=h 0 (by simp)
    simp only [List.getD_cons_zero] at h0
    unfold orM
    rw [if_neg (by simp [h0])]
    exact orM_none fun i hi=>by simpa using h (i+1) (by simpa using hi)
theorem orM_hit:∀ {l:List Int} {k:Nat},(∀ i,i<k→l.getD i 0=0)→k<l.length→l.getD k 0≠0→orM l=l.getD k 0
  | [],_,_,h,_=>by simp at h
  | x::t,0,_,_,h=>by
    simp only [List.getD_cons_zero] at h ⊢
    unfold orM
    rw [if_pos h]
  | x::t,k+1,h,hk,hn=>by
    have h0:=h 0 (by omega)
    simp only [List.getD_cons_zero] at h0
    simp only [List.getD_cons_succ] at hn ⊢
    unfold orM
    rw [if_neg (by simp [h0])]
    exact orM_hit (fun i hi=>by simpa using h (i+1) (by omega)) (by simpa using hk) hn
def cfP (P:List Int) (a b:Int):Int:=orM [cmpI (P.getD b.toNat 0) (P.getD a.toNat 0),cmpI a b]
def ltP (P:List Int) (a b:Int):Bool:=decide (cfP P a b<0)
theorem or2_neg {x y a b:Int}:orM [cmpI x y,cmpI a b]<0↔x<y∨(x=y∧a<b):=by
  unfold cmpI
  simp only [orM]
  by_cases h1:x<y
  · simp [h1]
  · by_cases h2:x>y
    · simp [h1,h2]; omega
    · have h3:x=y:=by omega
      subst h3
      by_cases h4:a<b
      · simp [h4]
      · by_cases h5:a>b
        · simp [h4,h5]
        · simp [h4,h5]
theorem cfP_neg {P:List Int} {a b:Int}:cfP P a b<0↔brt P a b:=by
  unfold cfP brt
  rw [or2_neg]
  omega
theorem ltP_iff {P:List Int} {a b:Int}:ltP P a b=true↔brt P a b:=by unfold ltP; rw [decide_eq_true_eq,cfP_neg]
theorem ltP_no {P:List Int} {a b:Int}:ltP P a b=false↔¬ brt P a b:=by rw [← ltP_iff,Bool.not_eq_true]
theorem swoP (P:List Int):SWO (ltP P) where
  irrefl x:=by rw [ltP_no]; unfold brt; omega
  trans x y z h1 h2:=by rw [ltP_iff] at *; exact brt_trans h1 h2
  ntrans x y z h1 h2:=by rw [ltP_no] at *; unfold brt at *; omega
theorem ltP_tot {P:List Int} (x y:Int) (h1:ltP P x y=false) (h2:ltP P y x=false):x=y:=by
  rw [ltP_no] at *; unfold brt at *; omega
def swL (l:List Int) (i j:Nat):List Int:=(l.set i (l.getD j 0)).set j (l.getD i 0)
def InR (n:Nat) (l:List Int):Prop:=∀ x ∈ l,0≤x∧x<(n:Int)
section
variable {P l l':List Int} {a b i j k n m hi fi root:Nat} {p:Int→Bool}
theorem arr_get:(l.toArray)[j]! = l.getD j 0:=by
  simp [List.getD_eq_getElem?_getD,getElem!_def]
  cases l[j]? <;> rfl
theorem swp_arr:swp l.toArray i j=(swL l i j).toArray:=by
  unfold swp swL
  rw [arr_get,arr_get]
  simp
theorem swL_len:(swL l i j).length=l.length:=by unfold swL; simp
theorem getD_mem' (h:j<l.length):l.getD j 0 ∈ l:=by
  rw [List.getD_eq_getElem?_getD,List.getElem?_eq_getElem h]; exact List.getElem_mem h
theorem InR.at (h:InR n l) (hj:j<l.length):0≤l.getD j 0∧l.getD j 0<(n:Int):=h _ (getD_mem' hj)
theorem InR.sw (h:InR n l) (hi:i<l.length) (hj:j<l.length):InR n (swL l i j):=fun x hx=>by
  unfold swL at hx
  rcases List.mem_or_eq_of_mem_set hx with hx | rfl
  · rcases List.mem_or_eq_of_mem_set hx with hx | rfl
    · exact h x hx
    · exact h.at hj
  · exact h.at hi
theorem PermIn.len (h:PermIn a b l.toArray l'.toArray):l'.length=l.length:=by simpa using h.1
theorem perm_sw (h1:a≤i) (h2:i<b) (h3:a≤j) (h4:j<b) (hb:b≤l.length):PermIn a b l.toArray (swL l i j).toArray:=by
  rw [← swp_arr]; exact swp_permIn _ _ _ _ _ h1 h2 h3 h4 (by simpa using hb)
theorem ins_go (h:a<j) (hlt:cfP P (l.getD j 0) (l.getD (j-1) 0)<0):insInner (ltP P) a j l.toArray=insInner (ltP P) a (j-1) (swL l j (j-1)).toArray:=by
  obtain ⟨j,rfl⟩:∃ q,j=q+1:=⟨j-1,by omega⟩
  rw [Nat.add_sub_cancel] at *
  conv=>lhs; unfold insInner
  rw [arr_get,arr_get,swp_arr,if_pos (by simp only [ltP,Bool.and_eq_true,Bool.not_eq_true',decide_eq_true_eq,decide_eq_false_iff_not]; omega)]
theorem ins_no (h:¬ a<j∨¬ cfP P (l.getD j 0) (l.getD (j-1) 0)<0):insInner (ltP P) a j l.toArray=l.toArray:=by
  cases j with
  | zero=>rfl
  | succ j =>
    rw [Nat.add_sub_cancel] at h
    unfold insInner
    rw [arr_get,arr_get,if_neg (by simp only [ltP,Bool.and_eq_true,decide_eq_true_eq]; omega)]
theorem insO_go {d:Array Int} (h:i<b):insOuter (ltP P) a b i d=insOuter (ltP P) a b (i+1) (insInner (ltP P) a i d):=by
  conv=>lhs; unfold insOuter
  rw [if_pos h]
theorem insO_no {d:Array Int} (h:¬ i<b):insOuter (ltP P) a b i d=d:=by
  unfold insOuter; rw [if_neg h]
theorem sd_leaf {d:Array Int} (h:hi≤2*root+1):siftDown (ltP P) hi fi root d=d:=by
  unfold siftDown; rw [dif_pos h]
def PickC (P l:List Int) (hi fi root c:Nat):Prop:=(c=2*root+2∧2*root+2<hi∧cfP P (l.getD (fi+(2*root+1)) 0) (l.getD (fi+(2*root+1)+1) 0)<0)∨(c=2*root+1∧2*root+1<hi∧¬ (2*root+2<hi∧cfP P (l.getD (fi+(2*root+1)) 0) (l.getD (fi+(2*root+1)+1) 0)<0))
theorem sd_stop {c:Nat} (h:PickC P l hi fi root c) (hn:¬ cfP P (l.getD (fi+root) 0) (l.getD (fi+c) 0)<0):siftDown (ltP P) hi fi root l.toArray=l.toArray:=by
  unfold siftDown
  simp only [arr_get]
  rcases h with ⟨rfl,h1,h2⟩ | ⟨rfl,h1,h2⟩
  · rw [dif_neg (by omega),if_pos (by simp only [ltP,Bool.and_eq_true,Bool.not_eq_true',decide_eq_true_eq,decide_eq_false_iff_not]; omega),if_pos (by simp only [ltP,Bool.and_eq_true,Bool.not_eq_true',decide_eq_true_eq,decide_eq_false_iff_not]; omega)]
  · rw [dif_neg (by omega),if_neg (by simp only [ltP,Bool.and_eq_true,decide_eq_true_eq]; omega),if_pos (by simp only [ltP,Bool.and_eq_true,Bool.not_eq_true',decide_eq_true_eq,decide_eq_false_iff_not]; omega)]
theorem sd_go {c:Nat} (h:PickC P l hi fi root c) (hn:cfP P (l.getD (fi+root) 0) (l.getD (fi+c) 0)<0):siftDown (ltP P) hi fi root l.toArray=siftDown (ltP P) hi fi c (swL l (fi+root) (fi+c)).toArray:=by
  conv=>lhs; unfold siftDown
  simp only [arr_get,swp_arr]
  rcases h with ⟨rfl,h1,h2⟩ | ⟨rfl,h1,h2⟩
  · rw [dif_neg (by omega),if_pos (by simp only [ltP,Bool.and_eq_true,Bool.not_eq_true',decide_eq_true_eq,decide_eq_false_iff_not]; omega),if_neg (by simp only [ltP,Bool.and_eq_true,Bool.not_eq_true',decide_eq_true_eq,decide_eq_false_iff_not]; omega),dif_pos h1]
  · rw [dif_neg (by omega),if_neg (by simp only [ltP,Bool.and_eq_true,decide_eq_true_eq]; omega),if_neg (by simp only [ltP,Bool.and_eq_true,Bool.not_eq_true',decide_eq_true_eq,decide_eq_false_iff_not]; omega)]
theorem hb_go {d:Array Int} (h:0<k):heapBuild (ltP P) hi fi k d=heapBuild (ltP P) hi fi (k-1) (siftDown (ltP P) hi fi (k-1) d):=by
  obtain ⟨k,rfl⟩:∃ q,k=q+1:=⟨k-1,by omega⟩
  rfl
theorem hp_go (h:0<k):heapPop (ltP P) fi k l.toArray=heapPop (ltP P) fi (k-1) (siftDown (ltP P) (k-1) fi 0 (swL l fi (fi+(k-1))).toArray):=by
  obtain ⟨k,rfl⟩:∃ q,k=q+1:=⟨k-1,by omega⟩
  rw [← swp_arr]; rfl
theorem su_go (h:i≤j) (hp:p (l.getD i 0)=true):scanUp p l.toArray j i=scanUp p l.toArray j (i+1):=by
  conv=>lhs; unfold scanUp
  rw [arr_get,if_pos (by rw [hp,Bool.and_true,decide_eq_true_eq]; exact h)]
theorem su_no (h:¬ i≤j∨p (l.getD i 0)=false):scanUp p l.toArray j i=i:=by
  unfold scanUp
  rw [arr_get,if_neg]
  simp only [Bool.and_eq_true,decide_eq_true_eq]
  rintro ⟨h1,h2⟩
  rcases h with h | h
  · exact h h1
  · rw [h] at h2; cases h2
theorem sn_go (h:i≤j) (hj:0<j) (hp:p (l.getD j 0)=true):scanDown p l.toArray i j=scanDown p l.toArray i (j-1):=by
  obtain ⟨j,rfl⟩:∃ q,j=q+1:=⟨j-1,by omega⟩
  conv=>lhs; unfold scanDown
  rw [arr_get,if_pos (by rw [hp,Bool.and_true,decide_eq_true_eq]; exact h)]; rfl
theorem sn_no (h:¬ i≤j∨p (l.getD j 0)=false):scanDown p l.toArray i j=j:=by
  cases j with
  | zero=>rfl
  | succ j =>
    unfold scanDown
    rw [arr_get,if_neg]
    simp only [Bool.and_eq_true,decide_eq_true_eq]
    rintro ⟨h1,h2⟩
    rcases h with h | h
    · exact h h1
    · rw [h] at h2; cases h2
theorem ss_go (h:i<b) (hp:¬ cfP P (l.getD i 0) (l.getD (i-1) 0)<0):scanSorted (ltP P) l.toArray b i=scanSorted (ltP P) l.toArray b (i+1):=by
  conv=>lhs; unfold scanSorted
  rw [arr_get,arr_get,if_pos (by simp only [ltP,Bool.and_eq_true,Bool.not_eq_true',decide_eq_true_eq,decide_eq_false_iff_not]; omega)]
theorem ss_no (h:¬ i<b∨cfP P (l.getD i 0) (l.getD (i-1) 0)<0):scanSorted (ltP P) l.toArray b i=i:=by
  unfold scanSorted
  rw [arr_get,arr_get,if_neg (by simp only [ltP,Bool.and_eq_true,decide_eq_true_eq,Bool.not_eq_true',decide_eq_false_iff_not]; omega)]
theorem pl_no {i2 j2:Nat} (h1:scanUp (fun x=>ltP P x (l.toArray)[a]!) l.toArray j i=i2) (h2:scanDown (fun x=>!ltP P x (l.toArray)[a]!) l.toArray i2 j=j2) (h:j2<i2):partLoop (ltP P) a i j l.toArray=(j2,l.toArray):=by
  unfold partLoop
  simp only [h1,h2]
  rw [if_pos h]
theorem pl_go {i2 j2:Nat} (h1:scanUp (fun x=>ltP P x (l.toArray)[a]!) l.toArray j i=i2) (h2:scanDown (fun x=>!ltP P x (l.toArray)[a]!) l.toArray i2 j=j2) (h:i2≤j2) (hi:i≤i2) (hj:j2≤j) (h0:0<j2):partLoop (ltP P) a i j l.toArray=partLoop (ltP P) a (i2+1) (j2-1) (swL l i2 j2).toArray:=by
  conv=>lhs; unfold partLoop
  simp only [h1,h2]
  rw [if_neg (by omega),dif_pos (by omega),swp_arr]
theorem pe_no {i2 j2:Nat} (h1:scanUp (fun x=>!ltP P (l.toArray)[a]! x) l.toArray j i=i2) (h2:scanDown (fun x=>ltP P (l.toArray)[a]! x) l.toArray i2 j=j2) (h:j2<i2):partEqLoop (ltP P) a i j l.toArray=(i2,l.toArray):=by
  unfold partEqLoop
  simp only [h1,h2]
  rw [if_pos h]
theorem pe_go {i2 j2:Nat} (h1:scanUp (fun x=>!ltP P (l.toArray)[a]! x) l.toArray j i=i2) (h2:scanDown (fun x=>ltP P (l.toArray)[a]! x) l.toArray i2 j=j2) (h:i2≤j2) (hi:i≤i2) (hj:j2≤j) (h0:0<j2):partEqLoop (ltP P) a i j l.toArray=partEqLoop (ltP P) a (i2+1) (j2-1) (swL l i2 j2).toArray:=by
  conv=>lhs; unfold partEqLoop
  simp only [h1,h2]
  rw [if_neg (by omega),dif_pos (by omega),swp_arr]
theorem sh_no (h:¬ 1≤j∨¬ cfP P (l.getD j 0) (l.getD (j-1) 0)<0):shiftDown (ltP P) j l.toArray=l.toArray:=by
  cases j with
  | zero=>rfl
  | succ j =>
    rw [Nat.add_sub_cancel] at h
    unfold shiftDown
    rw [arr_get,arr_get,if_pos (by simp only [ltP,Bool.and_eq_true,Bool.not_eq_true',decide_eq_true_eq,decide_eq_false_iff_not]; omega)]
theorem sh_go (hj:1≤j) (h:cfP P (l.getD j 0) (l.getD (j-1) 0)<0):shiftDown (ltP P) j l.toArray=shiftDown (ltP P) (j-1) (swL l j (j-1)).toArray:=by
  obtain ⟨j,rfl⟩:∃ q,j=q+1:=⟨j-1,by omega⟩
  rw [Nat.add_sub_cancel] at *
  conv=>lhs; unfold shiftDown
  rw [arr_get,arr_get,swp_arr,if_neg (by simp only [ltP,Bool.and_eq_true,Bool.not_eq_true',decide_eq_true_eq,decide_eq_false_iff_not]; omega)]
theorem shu_no (h:¬ j<b∨¬ cfP P (l.getD j 0) (l.getD (j-1) 0)<0):shiftUp (ltP P) b j l.toArray=l.toArray:=by
  unfold shiftUp
  by_cases hj:j<b
  · rw [if_pos hj,arr_get,arr_get,if_pos (by simp only [ltP,Bool.and_eq_true,Bool.not_eq_true',decide_eq_true_eq,decide_eq_false_iff_not]; omega)]
  · rw [if_neg hj]
theorem shu_go (hj:j<b) (h:cfP P (l.getD j 0) (l.getD (j-1) 0)<0):shiftUp (ltP P) b j l.toArray=shiftUp (ltP P) b (j+1) (swL l j (j-1)).toArray:=by
  conv=>lhs; unfold shiftUp
  rw [if_pos hj,arr_get,arr_get,swp_arr,if_neg (by simp only [ltP,Bool.and_eq_true,Bool.not_eq_true',decide_eq_true_eq,decide_eq_false_iff_not]; omega)]
theorem rv_no (h:¬ i<j) {d:Array Int}:reverseLoop i j d=d:=by unfold reverseLoop; rw [if_neg h]
theorem rv_go (h:i<j):reverseLoop i j l.toArray=reverseLoop (i+1) (j-1) (swL l i j).toArray:=by
  conv=>lhs; unfold reverseLoop
  rw [if_pos h,swp_arr]
theorem pi_sorted {s:Nat} (hs:0<s) (h:scanSorted (ltP P) l.toArray b i=b):partialIns (ltP P) a b s i l.toArray=(l.toArray,true):=by
  obtain ⟨s,rfl⟩:∃ q,s=q+1:=⟨s-1,by omega⟩
  unfold partialIns
  simp only [h,if_true]
theorem pi_short {s k:Nat} (hs:0<s) (h:scanSorted (ltP P) l.toArray b i=k) (hk:k≠b) (h50:b-a<50):partialIns (ltP P) a b s i l.toArray=(l.toArray,false):=by
  obtain ⟨s,rfl⟩:∃ q,s=q+1:=⟨s-1,by omega⟩
  unfold partialIns
  simp only [h,if_neg hk,if_pos h50]
theorem pi_step {s k:Nat} {l2 l3 l4:List Int} (hs:0<s) (h:scanSorted (ltP P) l.toArray b i=k) (hk:k≠b) (h50:¬ b-a<50) (h2:swL l k (k-1)=l2)
    (h3:(if k-a≥2 then shiftDown (ltP P) (k-1) l2.toArray else l2.toArray)=l3.toArray) (h4:(if b-k≥2 then shiftUp (ltP P) b (k+1) l3.toArray else l3.toArray)=l4.toArray) :
    partialIns (ltP P) a b s i l.toArray=partialIns (ltP P) a b (s-1) k l4.toArray:=by
  obtain ⟨s,rfl⟩:∃ q,s=q+1:=⟨s-1,by omega⟩
  conv=>lhs; unfold partialIns
  simp only [h,if_neg hk,if_neg h50,swp_arr,h2,h3,h4]
  rfl
theorem pt_early {l1 l2:List Int} {q:Nat} (hsw:swL l a q=l1) (h1:scanUp (fun x=>ltP P x (l1.toArray)[a]!) l1.toArray (b-1) (a+1)=i) (h2:scanDown (fun x=>!ltP P x (l1.toArray)[a]!) l1.toArray i (b-1)=j) (h:j<i) (h3:swL l1 j a=l2):partition (ltP P) l.toArray a b q=(j,true,l2.toArray):=by
  unfold partition
  simp only [swp_arr,hsw,h1,h2,h3]
  rw [if_pos h]
theorem pt_go {l1 l2 l3 l4:List Int} {q j':Nat} (hsw:swL l a q=l1) (h1:scanUp (fun x=>ltP P x (l1.toArray)[a]!) l1.toArray (b-1) (a+1)=i) (h2:scanDown (fun x=>!ltP P x (l1.toArray)[a]!) l1.toArray i (b-1)=j) (h:¬ j<i) (h3:swL l1 i j=l2)
    (h4:partLoop (ltP P) a (i+1) (j-1) l2.toArray=(j',l3.toArray)) (h5:swL l3 j' a=l4):partition (ltP P) l.toArray a b q=(j',false,l4.toArray):=by
  unfold partition
  simp only [swp_arr,hsw,h1,h2,h3,h4,h5]
  rw [if_neg h]
end
end Det
