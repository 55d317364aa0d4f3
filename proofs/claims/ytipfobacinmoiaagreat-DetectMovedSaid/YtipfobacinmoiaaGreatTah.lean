/- Part of a proof: laws and walks. -/
import Derived.Test.YtipfobacinmoiaaGreatTag
import Derived.Test.YtipfobacinmoiaaGreatTac
import Derived.Test.YtipfobacinmoiaaGreatTaf
import Derived.Test.YtipfobacinmoiaaGreatTab
import Derived.Sort.AssemblyPlain
set_option linter.unusedVariables false
set_option linter.unusedSimpArgs false
namespace Det
section
variable {P px o:List Int} {n k:Nat} {lv:Int}
theorem lZ {x:Int} (hk:k<px.length):x ∈ px.take (k+1)↔x ∈ px.take k∨x=px.getD k 0:=by
  rw [jg hk,List.mem_append,List.mem_singleton]
theorem fZ {α:Type} {f g:Nat→α} (h:∀ i,i<n→f i=g i):(List.range n).map f=(List.range n).map g :=
  List.map_congr_left fun i hi=>h i (List.mem_range.1 hi)
theorem lK {α:Type} {f:Nat→α} {i:Nat} {v:α}:((List.range n).map f).set i v=(List.range n).map fun j=>if i=j then v else f j:=by
  apply List.ext_getElem?
  intro j
  simp only [List.getElem?_set,List.length_map,List.length_range,List.getElem?_map]
  by_cases h:i=j
  · subst h
    by_cases hi:i<n
    · simp [hi]
    · simp [hi]
  · rw [if_neg h]
    by_cases hj:j<n
    · simp [hj,h]
    · simp [hj]
theorem aE6:inM P n [] lv=List.replicate n false:=by
  unfold inM
  exact (fZ (g:=fun _=>false) fun i _=>by simp).trans (by rw [List.map_const',List.length_range])
theorem aAy (hk:k<px.length) (hr:∀ x ∈ px,0≤x) (hnd:px.getD k 0 ∉ px.take k) :
    inM P n (px.take (k+1)) lv=(inM P n (px.take k) lv).set (px.getD k 0).toNat (decide (lv≤P.getD (px.getD k 0).toNat 0)):=by
  unfold inM
  rw [lK]
  refine fZ fun i hi=>?_
  have h0:=hr _ (show px.getD k 0 ∈ px from bL hk)
  by_cases e:(px.getD k 0).toNat=i
  · rw [if_pos e]
    have:(i:Int)=px.getD k 0:=by omega
    rw [decide_eq_true ((lZ hk).2 (.inr this)),Bool.true_and,e]
  · rw [if_neg e]
    congr 1
    exact decide_eq_decide.2 ((lZ hk).trans ⟨fun h=>h.resolve_right (by omega),.inl⟩)
theorem aCM (hk:k<px.length) (hr:∀ x ∈ px,0≤x) (hnd:px.getD k 0 ∉ px.take k) (hp:lv≤P.getD (px.getD k 0).toNat 0) :
    inM P n (px.take (k+1)) lv=(inM P n (px.take k) lv).set (px.getD k 0).toNat true:=by
  rw [aAy hk hr hnd,decide_eq_true hp]
theorem aAn (hk:k<px.length) (hr:∀ x ∈ px,0≤x) (hp:¬ lv≤P.getD (px.getD k 0).toNat 0) :
    inM P n (px.take (k+1)) lv=inM P n (px.take k) lv:=by
  unfold inM
  refine fZ fun i hi=>?_
  have h0:=hr _ (show px.getD k 0 ∈ px from bL hk)
  by_cases e:(i:Int)=px.getD k 0
  · rw [show (px.getD k 0).toNat=i by omega] at hp
    rw [decide_eq_false hp,Bool.and_false,Bool.and_false]
  · congr 1
    exact decide_eq_decide.2 ((lZ hk).trans ⟨fun h=>h.resolve_right e,.inl⟩)
def jq (o px:List Int) (m k:Nat):List (List Int):=(List.range m).map fun (s:Nat)=>(px.take k).filter fun i=>decide (ow o i=(s:Int))
theorem aDY {m:Nat}:jq o px m 0=List.replicate m []:=by
  unfold jq
  exact (fZ (g:=fun _=>[]) fun i _=>by simp).trans (by rw [List.map_const',List.length_range])
theorem zA {m s:Nat} (h:s<m):(jq o px m k).getD s []=(px.take k).filter fun i=>decide (ow o i=(s:Int)):=by
  unfold jq
  simp [List.getD_eq_getElem?_getD,h]
theorem aAW {m:Nat} (hk:k<px.length) (hs:0≤ow o (px.getD k 0)∧ow o (px.getD k 0)<(m:Int)) :
    jq o px m (k+1)=(jq o px m k).set (ow o (px.getD k 0)).toNat ((jq o px m k).getD (ow o (px.getD k 0)).toNat []++[px.getD k 0]):=by
  rw [zA (by omega)]
  unfold jq
  rw [lK]
  refine fZ fun i hi=>?_
  rw [jg hk,List.filter_append]
  by_cases e:(ow o (px.getD k 0)).toNat=i
  · rw [if_pos e]
    subst e
    congr 1
    rw [List.filter_cons,if_pos (by rw [decide_eq_true_eq]; omega)]; rfl
  · rw [if_neg e,List.filter_cons,if_neg (by rw [decide_eq_true_eq]; omega)]; simp
theorem aA0 {W H:Nat} {seeds:List (List Int)}:jq (kT P W H px seeds) px seeds.length px.length=dM P W H px seeds:=by
  unfold jq dM
  rw [List.take_length]
end
theorem zx {n:Nat} {xss:List (List Int)} (hr:∀ x ∈ xss,∀ t ∈ x,0≤t∧t<(n:Int)) (hp:xss.Pairwise (fun a b=>∀ t ∈ a,t ∉ b)):own n xss xss.length=gJ n xss:=by
  apply List.ext_getElem
  · rw [fI,gX]
  intro i h1 h2
  rw [fI] at h1
  have e1:(own n xss xss.length)[i]'(by rw [fI]; exact h1)=(own n xss xss.length).getD i 0:=by
    rw [List.getD_eq_getElem?_getD,List.getElem?_eq_getElem (by rw [fI]; exact h1)]; rfl
  have e2:(gJ n xss)[i]=ow (gJ n xss) (i:Int):=by
    unfold ow
    rw [List.getD_eq_getElem?_getD,Int.toNat_natCast,List.getElem?_eq_getElem h2]; rfl
  rw [e1,e2]
  by_cases hx:∃ q,q<xss.length∧(i:Int) ∈ xss.getD q []
  · obtain ⟨q,hq,hm⟩:=hx
    rw [uq hr hp hm (Nat.le_refl _) hq]
    exact ((fu hp h1).2 ⟨_,List.getElem?_eq_getElem hq,by simpa [List.getD_eq_getElem?_getD,List.getElem?_eq_getElem hq] using hm⟩).symm
  · rw [qK hr h1 (Nat.le_refl _) fun q hq hm=>hx ⟨q,hq,hm⟩]
    by_cases h0:0≤ow (gJ n xss) (i:Int)
    · obtain ⟨s,hs1,hs2⟩:=nG h0
      obtain ⟨x,hx1,hx2⟩:=(fu hp h1).1 hs1
      exact absurd ⟨s,hs2,by rw [List.getD_eq_getElem?_getD,hx1]; exact hx2⟩ hx
    · unfold gJ ow at h0 ⊢
      simp only [List.getD_eq_getElem?_getD,Int.toNat_natCast,List.getElem?_map,List.getElem?_range h1,Option.map_some,Option.getD_some] at h0 ⊢
      cases hf:xss.findIdx? (fun l=>decide ((i:Int) ∈ l)) with
      | none=>rfl
      | some s=>rw [hf] at h0; simp at h0
def rising (l:List Int):Prop:=∀ j,0<j→j<l.length→l.getD (j-1) 0<l.getD j 0
theorem aBi {P l:List Int} {q:Int→Bool} {k n:Nat} {best:Int} (h:iM P l q k best) (hl:∀ x ∈ l,0≤x∧x<(n:Int)):best=-1∨0≤best∧best<(n:Int):=by
  rcases h with ⟨h1,_⟩ | ⟨h1,h2⟩
  · exact .inl h1
  · exact .inr ⟨h1,(hl _ (List.mem_of_mem_take h2.1)).2⟩
noncomputable def ownerM (P:List Int) (W H:Nat) (o:List Int) (i:Int):Int:=if byM P W H o i<0 then -1 else ow o (byM P W H o i)
theorem uO {W H x y:Nat} {v:Int}:∀ l:Nat,(eu W H x y v l).Pairwise (·<·)∧∀ t ∈ eu W H x y v l,t<v*(W:Int)+((x:Int)-1+(l:Int))
  | 0=>by simp [eu]
  | l+1=>by
    obtain ⟨h1,h2⟩:=uO (W:=W) (H:=H) (x:=x) (y:=y) (v:=v) l
    unfold eu
    split
    · refine ⟨List.pairwise_append.2 ⟨h1,List.pairwise_singleton _ _,fun a ha b hb=>?_⟩,fun t ht=>?_⟩
      · rw [List.mem_singleton.1 hb]; exact h2 a ha
      · rcases List.mem_append.1 ht with ht | ht
        · have:=h2 t ht; omega
        · rw [List.mem_singleton.1 ht]; omega
    · rw [List.append_nil]
      exact ⟨h1,fun t ht=>by have:=h2 t ht; omega⟩
theorem rT {W H x y:Nat}:∀ k:Nat,(dQ W H x y k).Pairwise (·<·)∧∀ t ∈ dQ W H x y k,t<((y:Int)-1+(k:Int))*(W:Int)
  | 0=>by simp [dQ]
  | k+1=>by
    obtain ⟨h1,h2⟩:=rT (W:=W) (H:=H) (x:=x) (y:=y) k
    unfold dQ
    have h3:=fun t (ht:t ∈ eu W H x y ((y:Int)-1+(k:Int)) 3)=>mE ht
    have h4:((y:Int)-1+((k+1:Nat):Int))*(W:Int)=((y:Int)-1+(k:Int))*(W:Int)+(W:Int):=by
      rw [show (y:Int)-1+((k+1:Nat):Int)=((y:Int)-1+(k:Int))+1 by omega,Int.add_mul]; simp
    refine ⟨List.pairwise_append.2 ⟨h1,(uO 3).1,fun a ha b hb=>?_⟩,fun t ht=>?_⟩
    · obtain ⟨u,rfl,g1,_⟩:=h3 b hb
      have:=h2 a ha
      omega
    · rw [h4]
      rcases List.mem_append.1 ht with ht | ht
      · have:=h2 t ht; omega
      · obtain ⟨u,rfl,g1,g2,_⟩:=h3 t ht
        omega
theorem aD8 {W H i:Nat}:(nb W H i).Pairwise (·<·):=(rT 3).1
theorem zf {P px o:List Int} {W H:Nat} {seeds:List (List Int)} (hr:∀ i ∈ px,0≤i∧i<((W*H:Nat):Int)) (hg:Grows P W H px (gJ (W*H) seeds) o) (he:bq P W H px o<0):o=kT P W H px seeds :=
  hg.uniq (j6 _ _) he (nM hr _ _ gX (vE _ _))
end Det

set_option maxHeartbeats 1000000
set_option maxRecDepth 8000
namespace Go.Proofs.YtipfobacinmoiaaGreat
open Go Go.SL Go.Shelf Go.RowKit Go.Maps
set_option maxHeartbeats 1000000 in
set_option maxRecDepth 4000 in
theorem rising33_spec (vL:Value) (l:List Int) (w0:World) [Decidable (Det.rising l)] (hL:aQ (hp w0) 1 vL l.length (ints l)) :
    Ret Tryz.prog 33 #[vL] w0 (G:=Unit) (fun _=>.bool (decide (Det.rising l))) (fun _ w=>St w0 w noX [] []):=by
  refine aR (lv:=[vL]) Tryz.func33 rfl rfl rfl (fun a hf=>?_); replace hf:Fr a 20 [] [(0,vL)]:=hf; have hS:St w0 w0 noX [rI vL l] []:=(St.refl w0).bO hL; have hlen:=hL.2.1; unfold maxLen at hlen; refine W.seq ?_
  refine R1 rfl<|mv hf rfl<|fun a hf=>?_; refine nk<|W.seq<|W.seq<|?_
  refine R1 rfl<|mv hf rfl<|fun a hf=>?_; refine nk<|W.block<|?_
  refine W.loop (G:=(Nat)) (fun g a w=>match g with | k=>Fr a 20 [] [(0,vL),(3,iV k)]∧St w0 w noX [rI vL l] []∧(1≤k)∧(k≤max l.length 1)∧(∀ j,0<j→j<k→j<l.length→l.getD (j-1) 0<l.getD j 0)) (fun g=>match g with | k=>l.length-k) 1 ?_ ?_
  · refine ⟨hf.to ⟨rfl,(by first | rfl | exact vI (by omega)),trivial⟩,hS,?_,?_,?_⟩
    · omega
    · omega
    · exact fun j h0 hj hl=>by omega
  clear hf hS a; rintro k a w ⟨hf,hS,g0,h1,h2⟩; refine W.seq<|W.seq<|?_
  refine R4 rfl<|mv hf rfl<|fun a hf=>mv hf rfl fun a hf=>ov hf rfl (aA.bP (e:=2) (by simpa using aN) rfl (hS.aL (j:=0) rfl)) fun a hf=>ov (v:=.bool (decide ((k:Int)<((l.length:Int):Int)))) hf rfl (aA.lss rfl rfl) fun a hf=>?_; refine nk ?_; replace hf:Fr a 20 [] [(0,_),(3,_),(7,_)]:=hf.q rfl; refine W.bJ hf rfl (fun hc1=>?_) (fun hc1=>?_)
  · refine W.skip ?_
    refine aF<|W.seq<|W.block<|W.seq<|?_
    refine W.dY (fun w=>St w0 w noX [rI vL l] []) aV rfl (by kernel_rfl) rfl hS.drew ?_; clear hS; refine q0 hf rfl rfl fun a hf=>q0 hf rfl rfl fun a hf=>OQ.val (v:=ix vL k) hf rfl (fun w hS=>aA.ixV (j:=k) (m:=k) aN bE rfl rfl (hS.aL (j:=0) rfl) rfl (by omega) (Nat.mul_one _)) fun a hf=>OQ.val (v:=iV (l.getD k 0)) hf rfl (fun w hS=>aA.ld1 bT rfl (hS.aL (j:=0) rfl) (aI (by omega))) fun a hf=>q0 hf rfl rfl fun a hf=>q0 hf rfl rfl fun a hf=>OQ.val (v:=iV ((k:Int)-1)) hf rfl (fun w hS=>aA.cZ rfl rfl (by omega)) fun a hf=>?_; refine OQ.val (v:=ix vL (k-1)) hf rfl (fun w hS=>aA.ixV (j:=(k-1)) (m:=(k-1)) aN bE rfl rfl (hS.aL (j:=0) rfl) (by congr 1; omega) (by omega) (Nat.mul_one _)) fun a hf=>?_; refine OQ.val (v:=iV (l.getD (k-1) 0)) hf rfl (fun w hS=>aA.ld1 bT rfl (hS.aL (j:=0) rfl) (aI (by omega))) fun a hf=>OQ.val (v:=.bool (decide ((l.getD k 0)≤(l.getD (k-1) 0:Int)))) hf rfl (fun w hS=>aA.leq rfl rfl) fun a hf=>?_; refine OQ.nil ?_; intro w hS; refine aF ?_; refine W.bJ hf rfl (fun hc=>?_) (fun hc=>?_)
    · refine W.seq ?_
      refine R1 rfl<|mv hf rfl<|fun a hf=>?_; refine nk<|W.ret<|aW<|aK<|aK<|aW<|aK<|bH hf rfl (aO.tmp rfl)<|?_; refine ⟨(),by rw [show decide (Det.rising l)=false from decide_eq_false (fun h=>by have:=h k (by omega) (by omega); first | omega | (simp only [Bool.and_eq_true,decide_eq_true_eq] at hcb; omega))],hS.sub (List.nil_sublist _) |>.noB⟩
    · refine W.skip ?_
      refine aG<|aF<|?_
      refine R3 rfl<|mv hf rfl<|fun a hf=>ov hf rfl (aA.ak rfl rfl (by omega)) fun a hf=>mv hf rfl fun a hf=>?_; refine O.nil ?_; refine aS ⟨(k+1),⟨hf.to ⟨rfl,(by first | rfl | exact vI (by omega)),trivial⟩,?_,?_,?_,?_⟩,?_⟩
      · exact hS.eqM rfl
      · omega
      · omega
      · exact fun j h0 hj hl=>by
          by_cases e:j=k
          · subst e; first | omega | (simp only [Bool.and_eq_false_iff,decide_eq_false_iff_not] at hcb; omega)
          · exact h2 j h0 (by omega) hl
      · dsimp only; omega
  · refine W.exit ?_
    refine aC<|aC<|bD<|aF<|?_; replace hf:Fr a 20 [] []:=hf.to trivial; refine W.seq ?_
    refine R1 rfl<|mv hf rfl<|fun a hf=>?_; refine nk<|W.ret<|bH hf rfl (aO.tmp rfl)<|?_; refine ⟨(),by rw [show decide (Det.rising l)=true from decide_eq_true (fun j h0 hj=>h2 j h0 (by omega) hj)],hS.sub (List.nil_sublist _) |>.noB⟩
set_option maxHeartbeats 1000000 in
set_option maxRecDepth 4000 in
theorem lJ (vL:Value) (l:List Int) (w0:World) [Decidable (Det.rising l)] (hL:aQ (hp w0) 1 vL l.length (ints l)) :
    Ret Tryz.prog 27 #[vL] w0 (G:=Unit) (fun _=>.bool (decide (Det.rising l))) (fun _ w=>St w0 w noX [] []):=by
  refine aR (lv:=[vL]) Tryz.func27 rfl rfl rfl (fun a hf=>?_); replace hf:Fr a 24 [] [(0,vL)]:=hf; have hS:St w0 w0 noX [rI vL l] []:=(St.refl w0).bO hL; have hlen:=hL.2.1; unfold maxLen at hlen; refine W.seq ?_
  refine R1 rfl<|mv hf rfl<|fun a hf=>?_; refine nk<|W.seq<|W.seq<|?_
  refine R3 rfl<|mv hf rfl<|fun a hf=>ov hf rfl (aA.bP (e:=2) (by simpa using aN) rfl (hS.aL (j:=0) rfl)) fun a hf=>mv hf rfl fun a hf=>?_; refine nk ?_; replace hf:Fr a 24 [] [(0,_),(2,_),(5,_),(6,_)]:=hf.q rfl; refine W.block ?_
  refine W.loop (G:=(Nat)) (fun g a w=>match g with | k=>Fr a 24 [] [(0,vL),(5,iV (l.length:Int)),(6,iV k)]∧St w0 w noX [rI vL l] []∧(0≤k)∧(k≤max l.length 0)∧(∀ j,0<j→j<k→j<l.length→l.getD (j-1) 0<l.getD j 0)) (fun g=>match g with | k=>l.length-k) 0 ?_ ?_
  · refine ⟨hf.to ⟨rfl,rfl,(by first | rfl | exact vI (by omega)),trivial⟩,hS,?_,?_,?_⟩
    · omega
    · omega
    · exact fun j h0 hj hl=>by omega
  clear hf hS a; rintro k a w ⟨hf,hS,g0,h1,h2⟩; refine W.seq ?_
  refine R1 rfl<|ov (v:=.bool (decide ((k:Int)<((l.length:Int):Int)))) hf rfl (aA.lss rfl rfl)<|fun a hf=>?_; refine nk<|W.seq<|?_; refine W.bJ hf rfl (fun hc1=>?_) (fun hc1=>?_)
  · refine W.skip ?_
    refine aF<|W.seq<|W.block<|W.seq<|?_
    refine R2 rfl<|mv hf rfl<|fun a hf=>mv hf rfl fun a hf=>?_; refine nk ?_; replace hf:Fr a 24 [] [(0,_),(3,_),(5,_),(6,_)]:=hf.q rfl; refine W.seq ?_
    refine W.dY (fun w=>St w0 w noX [rI vL l] []) aV rfl (by kernel_rfl) rfl hS.drew ?_; clear hS; refine q0 hf rfl rfl fun a hf=>OQ.val (v:=.bool (decide ((k:Int)>(0:Int)))) hf rfl (fun w hS=>aA.gtr rfl rfl) fun a hf=>q0 hf rfl rfl fun a hf=>?_
    refine OQ.ji (K':=fun a=>Fr a 24 [] [(0,vL),(3,iV k),(5,iV (l.length:Int)),(6,iV k),(22,.bool ((decide ((k:Int)>(0:Int)))&&(decide ((l.getD k 0)≤(l.getD (k-1) 0:Int)))))]) 11 ?_ ?_
    · rcases Bool.eq_false_or_eq_true (decide ((k:Int)>(0:Int))) with hb2 | hb2
      · have hb2p:=of_decide_eq_true hb2
        refine gm hf rfl rfl hb2 rfl rfl fun a hf=>gm hf rfl rfl hb2 rfl rfl fun a hf=>OQ.gval (v:=ix vL k) hf rfl rfl hb2 rfl (fun w hS=>aA.ixV (j:=k) (m:=k) aN bE rfl rfl (hS.aL (j:=0) rfl) rfl (by omega) (Nat.mul_one _)) fun a hf=>OQ.gval (v:=iV (l.getD k 0)) hf rfl rfl hb2 rfl (fun w hS=>aA.ld1 bT rfl (hS.aL (j:=0) rfl) (aI (by omega))) fun a hf=>gm hf rfl rfl hb2 rfl rfl fun a hf=>gm hf rfl rfl hb2 rfl rfl fun a hf=>OQ.gval (v:=iV ((k:Int)-1)) hf rfl rfl hb2 rfl (fun w hS=>aA.cZ rfl rfl (by omega)) fun a hf=>?_; refine OQ.gval (v:=ix vL (k-1)) hf rfl rfl hb2 rfl (fun w hS=>aA.ixV (j:=(k-1)) (m:=(k-1)) aN bE rfl rfl (hS.aL (j:=0) rfl) (by congr 1; omega) (by omega) (Nat.mul_one _)) fun a hf=>?_; refine OQ.gval (v:=iV (l.getD (k-1) 0)) hf rfl rfl hb2 rfl (fun w hS=>aA.ld1 bT rfl (hS.aL (j:=0) rfl) (aI (by omega))) fun a hf=>OQ.gval (v:=.bool (decide ((l.getD k 0)≤(l.getD (k-1) 0:Int)))) hf rfl rfl hb2 rfl (fun w hS=>aA.leq rfl rfl) fun a hf=>?_; refine OQ.val (v:=.bool ((decide ((k:Int)>(0:Int)))&&(decide ((l.getD k 0)≤(l.getD (k-1) 0:Int))))) hf rfl (fun w hS=>aA.pick rfl rfl rfl (by rw [hb2]; rfl)) fun a hf=>?_; exact OQ.nil (hf.q rfl)
      · have hb2p:=of_decide_eq_false hb2
        refine OQ.aJ hf rfl rfl hb2 rfl fun a hf=>OQ.aJ hf rfl rfl hb2 rfl fun a hf=>OQ.aJ hf rfl rfl hb2 rfl fun a hf=>OQ.aJ hf rfl rfl hb2 rfl fun a hf=>OQ.aJ hf rfl rfl hb2 rfl fun a hf=>OQ.aJ hf rfl rfl hb2 rfl fun a hf=>OQ.aJ hf rfl rfl hb2 rfl fun a hf=>OQ.aJ hf rfl rfl hb2 rfl fun a hf=>OQ.aJ hf rfl rfl hb2 rfl fun a hf=>OQ.aJ hf rfl rfl hb2 rfl fun a hf=>?_; refine OQ.val (v:=.bool ((decide ((k:Int)>(0:Int)))&&(decide ((l.getD k 0)≤(l.getD (k-1) 0:Int))))) hf rfl (fun w hS=>aA.pick rfl rfl rfl (by rw [hb2]; rfl)) fun a hf=>?_; exact OQ.nil (hf.q rfl)
    clear hf a; intro a hf; refine OQ.nil ?_; intro w hS; refine aF ?_; refine W.if_ hf rfl (fun hc=>?_) (fun hc=>?_)
    · have hcb:=hc
      try simp only [bsm] at hc
      refine W.seq ?_
      refine R1 rfl<|mv hf rfl<|fun a hf=>?_; refine nk<|W.ret<|aW<|aK<|aK<|aW<|aK<|bH hf rfl (aO.tmp rfl)<|?_; refine ⟨(),by rw [show decide (Det.rising l)=false from decide_eq_false (fun h=>by have:=h k (by omega) (by omega); first | omega | (simp only [Bool.and_eq_true,decide_eq_true_eq] at hcb; omega))],hS.sub (List.nil_sublist _) |>.noB⟩
    · have hcb:=hc
      try simp only [bsm] at hc
      refine W.skip<|aG<|aF<|?_
      refine R2 rfl<|ov hf rfl (aA.ak rfl rfl (by omega))<|fun a hf=>mv hf rfl fun a hf=>?_; refine O.nil ?_; refine aS ⟨(k+1),⟨hf.to ⟨rfl,rfl,(by first | rfl | exact vI (by omega)),trivial⟩,?_,?_,?_,?_⟩,?_⟩
      · exact hS.eqM rfl
      · omega
      · omega
      · exact fun j h0 hj hl=>by
          by_cases e:j=k
          · subst e; first | omega | (simp only [Bool.and_eq_false_iff,decide_eq_false_iff_not] at hcb; omega)
          · exact h2 j h0 (by omega) hl
      · dsimp only; omega
  · refine W.exit ?_
    refine aC<|aC<|bD<|aF<|?_; replace hf:Fr a 24 [] []:=hf.to trivial; refine W.seq ?_
    refine R1 rfl<|mv hf rfl<|fun a hf=>?_; refine nk<|W.ret<|bH hf rfl (aO.tmp rfl)<|?_; refine ⟨(),by rw [show decide (Det.rising l)=true from decide_eq_true (fun j h0 hj=>h2 j h0 (by omega) hj)],hS.sub (List.nil_sublist _) |>.noB⟩
end Go.Proofs.YtipfobacinmoiaaGreat

namespace Go.SL
open Go
def sget (ins:List Bool) (k:Int):Bool:=if k<0 then false else ins.getD k.toNat false
section
variable {r:Option Nat} {P:Program} {ops:Array Oper} {Q:Exit→Act→World→Prop} {a:Act} {w w0:World} {n:Nat} {ds:List Deferred} {L:List (Nat × Value)} {X:Nat→Prop} {B M M':List Asr}
  {d i j b:Nat} {ty t kt:TypeId} {pos:String} {af:Array Edge} {rest:List Nat} {x y z:Operand} {ins:List Bool} {k:Int}
end
end Go.SL

namespace Go.SL
open Go
section
variable {r:Option Nat} {P:Program} {ops:Array Oper} {Q:Exit→Act→World→Prop} {a:Act} {w w0:World} {n n':Nat} {ds:List Deferred} {L:List (Nat × Value)} {X:Nat→Prop} {B M M':List Asr}
  {d i j b:Nat} {op:Op} {ty t e:TypeId} {pos:String} {af:Array Edge} {rest:List Nat} {x y z:Operand} {f:FuncId}
def Exit.stl (Q:Exit→Act→World→Prop):Exit→Act→World→Prop
  | .goto _,_,_=>False
  | e,a,w=>Q e a w
theorem gI {P:Program} {b:Frame} {a:Act} {k:List Item} {cs:List Frame} {w:World} {c:Code}:step P (lone (b.atR a (.code (.scope c)::k)) cs w)=.next (lone (b.atR a (.code c::.inScope c::k)) cs w) :=
  step_lone_go (by simp [stepG,stepG.exec,Frame.atR])
theorem qX {P:Program} {b:Frame} {a:Act} {k:List Item} {cs:List Frame} {w:World} {c:Code}:step P (lone (b.atR a (.inScope c::k)) cs w)=.next (lone (b.atR a k) cs w) :=
  step_lone_go (by simp [stepG,stepG.exec,Frame.atR])
theorem W.aD7 {c:Code} (h:W r P c (Exit.stl Q) a w):W r P (.scope c) Q a w:=by
  intro b k cs hro hb hr
  have h0:(lone (b.atR a (.code (.scope c)::k)) cs w).fenced P (FW r):=fenced_calm hb hr rfl
  obtain ⟨e,a₁,w₁,hq,harr⟩:=h b (.inScope c::k) cs hro hb hr
  cases e with
  | normal=>exact ⟨.normal,a₁,w₁,hq,.head h0 gI (StepsIn.trans harr (.one (fenced_calm hb hr rfl) qX))⟩
  | exit id =>
    have hx:exitTo id (.inScope c::k)=exitTo id k:=by simp [exitTo]
    exact ⟨.exit id,a₁,w₁,hq,fun k' hk=>.head h0 gI (harr.1 k' (by rw [hx]; exact hk)),
      fun hr' hk=>let ⟨k₁,h1,h2⟩:=harr.2 hr' (by rw [hx]; exact hk); ⟨k₁,h1,.head h0 gI h2⟩⟩
  | goto l=>exact hq.elim
  | ret=>exact ⟨_,a₁,w₁,hq,.of_steps (.one h0 gI) harr⟩
  | panic ch=>exact ⟨_,a₁,w₁,hq,.of_steps (.one h0 gI) harr⟩
  | outgrown=>exact ⟨_,a₁,w₁,hq,.of_steps (.one h0 gI) harr⟩
theorem aAS (h:Q .ret a w):Exit.stl Q .ret a w:=h
end
end Go.SL

namespace Go.SL
open Go
section
variable {r:Option Nat} {P:Program} {ops:Array Oper} {Q:Exit→Act→World→Prop} {a:Act} {w w0:World} {n:Nat} {ds:List Deferred} {L:List (Nat × Value)} {X:Nat→Prop} {B M:List Asr}
theorem O.nO {i d j m len:Nat} {t ty e:TypeId} {rest:List Nat} {pos:String} {af:Array Edge} {z:Value} {c:Bool} {p:Asr} {parts:Array (Nat × Operand)} {vs:List (Nat × Value)} {cs' zs:Array Value}
    (hf:Fr a n ds L) (hS:St w0 w X B M) (hj:M[j]? = some (aU c p)) (hc:c=false) (ho:ops[i]? = some ⟨some d,.buildSlice t len parts,ty,pos,af,none⟩) (hd:Nat.blt d n=true)
    (he:eU P t=some e) (hs:cO P e=some m) (hz:dx P e=some z) (h0:Nat.ble (len*m) 16777216=true) (h1:Nat.blt 0 (len*m)=true) (hzs:((List.range (len*m)).map (z.cells[· % z.cells.size]!)).toArray=zs)
    (hv:evP L parts.toList=some vs) (hb:Instr.fill (fun i=>some (i*m,m)) zs vs=some cs')
    (k:∀ b w' a',St w0 w' X B (M.set j (pt b (.cells cs' e (0,0))))→Fr a' n ds ((d,.slice (some ⟨b,0,none⟩) len len)::L)→O r P ops Q rest a' w'):O r P ops Q (i::rest) a w:=by
  refine O.buildSlice hf hS ho hd he hs hz h0 h1 hzs hv hb (fun b w' a' hb hS' hf'=>k b w' a' ?_ hf')
  subst hc
  have h1:=hS'.sep
  obtain ⟨hjl,hje⟩:=List.getElem?_eq_some_iff.1 hj
  refine ⟨hS'.os,hS'.tape,hS'.output,hS'.size,hS'.old,?_,hS'.bor⟩
  have hp:=h1.1
  have hM:=h1.2
  clear h1 hS hS' k hf hf' ho
  revert j
  induction M with
  | nil=>intro j hj hjl _; simp at hj
  | cons q t ih =>
    intro j hj hjl hje
    cases j with
    | zero =>
      simp only [List.set_cons_zero]
      exact ⟨⟨hp.1,hp.2.1,fun s hs=>hp.2.2 s (by simp [hs])⟩,hM.2⟩
    | succ j =>
      simp only [List.set_cons_succ]
      have h2:=ih ⟨hp.1,hp.2.1,fun s hs=>hp.2.2 s (by simp [hs])⟩ hM.2 (j:=j) (by simpa using hj) (by simpa using hjl) (by simpa using hje)
      refine ⟨⟨hM.1.1,hM.1.2.1,fun s hs b' hb' hsb=>?_⟩,h2⟩
      rcases List.mem_or_eq_of_mem_set hs with h3 | h3
      · exact hM.1.2.2 s h3 b' hb' hsb
      · subst h3
        exact hp.2.2 q (by simp) b' hsb hb'
end
section
variable {r:Option Nat} {P:Program} {ops:Array Oper} {Q:Exit→Act→World→Prop} {a:Act} {w w0:World} {n:Nat} {ds:List Deferred} {γ:Type} {X:Nat→Prop} {B M:List Asr}
theorem oj {T:Type} {x y:T} (h:some x=some y):x=y:=Option.some.inj h
def Lq (v:Nat→Value) (i:Nat) (l:List Nat) (N:Nat):List Value:=(List.range N).map fun j=>match Nat.beq j i||l.contains j with
  | true=>undef
  | false=>v j
end
end Go.SL

namespace Go.SL
open Go
section
variable {r:Option Nat} {P:Program} {ops:Array Oper} {Q:Exit→Act→World→Prop} {a:Act} {w w0:World} {n:Nat} {ds:List Deferred} {L:List (Nat × Value)} {X:Nat→Prop} {B M:List Asr}
end
end Go.SL

namespace Go.SL
open Go
theorem St.jL {w0 w:World} {X:Nat→Prop} {B M:List Asr} {j b n sz:Nat} {cs:Array Value} {e:TypeId} {z:Nat × Nat} {xs:List Value} (h:St w0 w X B M) (hi:M[j]? = some (pt b (.cells cs e z))) (hn:n≤maxLen) (hc:cs.size=n*sz) (hx:cs=xs.toArray) :
    aQ (hp w) sz (.slice (some ⟨b,0,none⟩) n n) n xs:=by
  have h1:w.heap[b]? = some (.cells cs e z):=h.at_ hi
  subst hx
  refine ⟨by simpa using hc,hn,some ⟨b,0,none⟩,n,rfl,fun _=>⟨_,_,_,_,rfl,rfl,h1,fun j u hu=>by simpa using hu⟩⟩
theorem wY {p:Int} (h:0≤p∧p<18446744073709551616):IntKind.u64.wrap p=p:=by
  simp only [IntKind.wrap,IntKind.bits,IntKind.signed]
  simp
  omega
theorem zP {x y:Int} (hy:0≤y∧y<18446744073709551616):0≤bitand .u64 x y∧bitand .u64 x y≤y:=by
  unfold bitand
  obtain ⟨n,rfl⟩:=Int.eq_ofNat_of_zero_le hy.1
  have h1:(BitVec.ofInt IntKind.u64.bits x&&&BitVec.ofInt IntKind.u64.bits (n:Int)).toNat≤n:=by
    rw [BitVec.toNat_and]
    refine Nat.le_trans Nat.and_le_right ?_
    show (BitVec.ofInt 64 (n:Int)).toNat≤n
    rw [BitVec.toNat_ofInt]
    have:(n:Int) % ((2^64:Nat):Int)=n:=Int.emod_eq_of_lt (by omega) (by omega)
    rw [this]
    simp
  rw [wY (by omega)]
  omega
section
variable {P:Program} {w:World} {n:Nat} {ds:List Deferred} {L:List (Nat × Value)} {ty t t':TypeId} {x y:Operand} {p q:Int}
theorem aA.aFM (hx:ev L x=some (.int .u64 p)) (hy:ev L y=some (.int .u64 q)) (h:0≤p-q∧p-q<18446744073709551616):aA P n ds L (.binOp .sub t x y t') ty w (.int .u64 (p-q)) w:=by
  have h1:=aA.sub (P:=P) (w:=w) (n:=n) (ds:=ds) (t:=t) (t':=t') (ty:=ty) hx hy
  rwa [wY h] at h1
theorem aA.aDQ {k:IntKind} (ht:(P.underlying t).isSome=true) (hT:qZ P t'=some .u64) (hx:ev L x=some (.int k p)) (h:0≤p∧p<18446744073709551616):aA P n ds L (.convert t t' x) ty w (.int .u64 p) w:=by
  have h1:=aA.conv (P:=P) (w:=w) (n:=n) (ds:=ds) (ty:=ty) ht hT hx
  rwa [wY h] at h1
theorem aA.aEO {k:IntKind} (ht:(P.underlying t).isSome=true) (hT:qZ P t'=some .i64) (hx:ev L x=some (.int k p)) (h:0≤p∧p<9223372036854775808):aA P n ds L (.convert t t' x) ty w (.int .i64 p) w:=by
  have h1:=aA.conv (P:=P) (w:=w) (n:=n) (ds:=ds) (ty:=ty) ht hT hx
  rwa [pz (by omega)] at h1
end
theorem W.aBz {r:Option Nat} {P:Program} {Q:Exit→Act→World→Prop} {a:Act} {w:World} {x:Code} {K:Act→World→Prop} (R:Act→World→Prop) (h:W r P x (Exit.then R Q) a w) (hy:∀ a w,R a w→K a w):W r P x (Exit.then K Q) a w:=by
  refine h.mono fun e a w hq=>?_
  cases e <;> first | exact hq | exact hy a w hq
theorem aAJ (n:Nat):(madeCells (Value.cells (.slice none 0 0)) (n*1)).toList=List.replicate n (.slice none 0 0):=by
  apply List.ext_getElem?
  intro i
  simp only [madeCells,Value.cells,Array.toList_map,Array.toList_range,Nat.mul_one,List.getElem?_map,List.getElem?_replicate]
  by_cases h:i<n
  · simp [h,List.getElem?_range,Nat.mod_one]
  · simp [h]
end Go.SL

namespace Det
open Go.Sort
def eY (x y:Int):Int:=if x<y then -1 else if x>y then 1 else 0
def orM:List Int→Int
  | []=>0
  | x::t=>if x≠0 then x else orM t
theorem uL:∀ {l:List Int},(∀ i,i<l.length→l.getD i 0=0)→orM l=0
  | [],_=>rfl
  | x::t,h=>by
    have h0:=h 0 (by simp)
    simp only [List.getD_cons_zero] at h0
    unfold orM
    rw [if_neg (by simp [h0])]
    exact uL fun i hi=>by simpa using h (i+1) (by simpa using hi)
theorem xh:∀ {l:List Int} {k:Nat},(∀ i,i<k→l.getD i 0=0)→k<l.length→l.getD k 0≠0→orM l=l.getD k 0
  | [],_,_,h,_=>by simp at h
  | x::t,0,_,_,h=>by
    simp only [List.getD_cons_zero] at h ⊢
    unfold orM
    rw [if_pos h]
  | x::t,k+1,h,hk,hn=>by
    have h0:=h 0 (by omega)
    simp only [List.getD_cons_zero] at h0
    simp only [List.getD_cons_succ] at hn ⊢
    unfold orM
    rw [if_neg (by simp [h0])]
    exact xh (fun i hi=>by simpa using h (i+1) (by omega)) (by simpa using hk) hn
def cfP (P:List Int) (a b:Int):Int:=orM [eY (P.getD b.toNat 0) (P.getD a.toNat 0),eY a b]
def ltP (P:List Int) (a b:Int):Bool:=decide (cfP P a b<0)
theorem yP {x y a b:Int}:orM [eY x y,eY a b]<0↔x<y∨(x=y∧a<b):=by
  unfold eY
  simp only [orM]
  by_cases h1:x<y
  · simp [h1]
  · by_cases h2:x>y
    · simp [h1,h2]; omega
    · have h3:x=y:=by omega
      subst h3
      by_cases h4:a<b
      · simp [h4]
      · by_cases h5:a>b
        · simp [h4,h5]
        · simp [h4,h5]
theorem jb {P:List Int} {a b:Int}:cfP P a b<0↔brt P a b:=by
  unfold cfP brt
  rw [yP]
  omega
theorem zC {P:List Int} {a b:Int}:ltP P a b=true↔brt P a b:=by unfold ltP; rw [decide_eq_true_eq,jb]
theorem sQ {P:List Int} {a b:Int}:ltP P a b=false↔¬ brt P a b:=by rw [← zC,Bool.not_eq_true]
theorem uJ (P:List Int):SWO (ltP P) where
  irrefl x:=by rw [sQ]; unfold brt; omega
  trans x y z h1 h2:=by rw [zC] at *; exact nL h1 h2
  ntrans x y z h1 h2:=by rw [sQ] at *; unfold brt at *; omega
theorem aC9 {P:List Int} (x y:Int) (h1:ltP P x y=false) (h2:ltP P y x=false):x=y:=by
  rw [sQ] at *; unfold brt at *; omega
def swL (l:List Int) (i j:Nat):List Int:=(l.set i (l.getD j 0)).set j (l.getD i 0)
def InR (n:Nat) (l:List Int):Prop:=∀ x ∈ l,0≤x∧x<(n:Int)
section
variable {P l l':List Int} {a b i j k n m hi fi root:Nat} {p:Int→Bool}
theorem bI:(l.toArray)[j]! = l.getD j 0:=by
  simp [List.getD_eq_getElem?_getD,getElem!_def]
  cases l[j]? <;> rfl
theorem fK:swp l.toArray i j=(swL l i j).toArray:=by
  unfold swp swL
  rw [bI,bI]
  simp
theorem dW:(swL l i j).length=l.length:=by unfold swL; simp
theorem aAZ (h:j<l.length):l.getD j 0 ∈ l:=by
  rw [List.getD_eq_getElem?_getD,List.getElem?_eq_getElem h]; exact List.getElem_mem h
theorem InR.at (h:InR n l) (hj:j<l.length):0≤l.getD j 0∧l.getD j 0<(n:Int):=h _ (aAZ hj)
theorem InR.sw (h:InR n l) (hi:i<l.length) (hj:j<l.length):InR n (swL l i j):=fun x hx=>by
  unfold swL at hx
  rcases List.mem_or_eq_of_mem_set hx with hx | rfl
  · rcases List.mem_or_eq_of_mem_set hx with hx | rfl
    · exact h x hx
    · exact h.at hj
  · exact h.at hi
theorem PermIn.len (h:PermIn a b l.toArray l'.toArray):l'.length=l.length:=by simpa using h.1
theorem xq (h1:a≤i) (h2:i<b) (h3:a≤j) (h4:j<b) (hb:b≤l.length):PermIn a b l.toArray (swL l i j).toArray:=by
  rw [← fK]; exact swp_permIn _ _ _ _ _ h1 h2 h3 h4 (by simpa using hb)
theorem aED (h:a<j) (hlt:cfP P (l.getD j 0) (l.getD (j-1) 0)<0):insInner (ltP P) a j l.toArray=insInner (ltP P) a (j-1) (swL l j (j-1)).toArray:=by
  obtain ⟨j,rfl⟩:∃ q,j=q+1:=⟨j-1,by omega⟩
  rw [Nat.add_sub_cancel] at *
  conv=>lhs; unfold insInner
  rw [bI,bI,fK,if_pos (by simp only [ltP,Bool.and_eq_true,Bool.not_eq_true',decide_eq_true_eq,decide_eq_false_iff_not]; omega)]
theorem aDl (h:¬ a<j∨¬ cfP P (l.getD j 0) (l.getD (j-1) 0)<0):insInner (ltP P) a j l.toArray=l.toArray:=by
  cases j with
  | zero=>rfl
  | succ j =>
    rw [Nat.add_sub_cancel] at h
    unfold insInner
    rw [bI,bI,if_neg (by simp only [ltP,Bool.and_eq_true,decide_eq_true_eq]; omega)]
theorem aCl {d:Array Int} (h:i<b):insOuter (ltP P) a b i d=insOuter (ltP P) a b (i+1) (insInner (ltP P) a i d):=by
  conv=>lhs; unfold insOuter
  rw [if_pos h]
theorem aCr {d:Array Int} (h:¬ i<b):insOuter (ltP P) a b i d=d:=by
  unfold insOuter; rw [if_neg h]
theorem sj {d:Array Int} (h:hi≤2*root+1):siftDown (ltP P) hi fi root d=d:=by
  unfold siftDown; rw [dif_pos h]
def ny (P l:List Int) (hi fi root c:Nat):Prop:=(c=2*root+2∧2*root+2<hi∧cfP P (l.getD (fi+(2*root+1)) 0) (l.getD (fi+(2*root+1)+1) 0)<0)∨(c=2*root+1∧2*root+1<hi∧¬ (2*root+2<hi∧cfP P (l.getD (fi+(2*root+1)) 0) (l.getD (fi+(2*root+1)+1) 0)<0))
theorem sM {c:Nat} (h:ny P l hi fi root c) (hn:¬ cfP P (l.getD (fi+root) 0) (l.getD (fi+c) 0)<0):siftDown (ltP P) hi fi root l.toArray=l.toArray:=by
  unfold siftDown
  simp only [bI]
  rcases h with ⟨rfl,h1,h2⟩ | ⟨rfl,h1,h2⟩
  · rw [dif_neg (by omega),if_pos (by simp only [ltP,Bool.and_eq_true,Bool.not_eq_true',decide_eq_true_eq,decide_eq_false_iff_not]; omega),if_pos (by simp only [ltP,Bool.and_eq_true,Bool.not_eq_true',decide_eq_true_eq,decide_eq_false_iff_not]; omega)]
  · rw [dif_neg (by omega),if_neg (by simp only [ltP,Bool.and_eq_true,decide_eq_true_eq]; omega),if_pos (by simp only [ltP,Bool.and_eq_true,Bool.not_eq_true',decide_eq_true_eq,decide_eq_false_iff_not]; omega)]
theorem aDL {c:Nat} (h:ny P l hi fi root c) (hn:cfP P (l.getD (fi+root) 0) (l.getD (fi+c) 0)<0):siftDown (ltP P) hi fi root l.toArray=siftDown (ltP P) hi fi c (swL l (fi+root) (fi+c)).toArray:=by
  conv=>lhs; unfold siftDown
  simp only [bI,fK]
  rcases h with ⟨rfl,h1,h2⟩ | ⟨rfl,h1,h2⟩
  · rw [dif_neg (by omega),if_pos (by simp only [ltP,Bool.and_eq_true,Bool.not_eq_true',decide_eq_true_eq,decide_eq_false_iff_not]; omega),if_neg (by simp only [ltP,Bool.and_eq_true,Bool.not_eq_true',decide_eq_true_eq,decide_eq_false_iff_not]; omega),dif_pos h1]
  · rw [dif_neg (by omega),if_neg (by simp only [ltP,Bool.and_eq_true,decide_eq_true_eq]; omega),if_neg (by simp only [ltP,Bool.and_eq_true,Bool.not_eq_true',decide_eq_true_eq,decide_eq_false_iff_not]; omega)]
theorem aEd {d:Array Int} (h:0<k):heapBuild (ltP P) hi fi k d=heapBuild (ltP P) hi fi (k-1) (siftDown (ltP P) hi fi (k-1) d):=by
  obtain ⟨k,rfl⟩:∃ q,k=q+1:=⟨k-1,by omega⟩
  rfl
theorem aEg (h:0<k):heapPop (ltP P) fi k l.toArray=heapPop (ltP P) fi (k-1) (siftDown (ltP P) (k-1) fi 0 (swL l fi (fi+(k-1))).toArray):=by
  obtain ⟨k,rfl⟩:∃ q,k=q+1:=⟨k-1,by omega⟩
  rw [← fK]; rfl
theorem aBb (h:i≤j) (hp:p (l.getD i 0)=true):scanUp p l.toArray j i=scanUp p l.toArray j (i+1):=by
  conv=>lhs; unfold scanUp
  rw [bI,if_pos (by rw [hp,Bool.and_true,decide_eq_true_eq]; exact h)]
theorem rJ (h:¬ i≤j∨p (l.getD i 0)=false):scanUp p l.toArray j i=i:=by
  unfold scanUp
  rw [bI,if_neg]
  simp only [Bool.and_eq_true,decide_eq_true_eq]
  rintro ⟨h1,h2⟩
  rcases h with h | h
  · exact h h1
  · rw [h] at h2; cases h2
theorem aBI (h:i≤j) (hj:0<j) (hp:p (l.getD j 0)=true):scanDown p l.toArray i j=scanDown p l.toArray i (j-1):=by
  obtain ⟨j,rfl⟩:∃ q,j=q+1:=⟨j-1,by omega⟩
  conv=>lhs; unfold scanDown
  rw [bI,if_pos (by rw [hp,Bool.and_true,decide_eq_true_eq]; exact h)]; rfl
theorem qj (h:¬ i≤j∨p (l.getD j 0)=false):scanDown p l.toArray i j=j:=by
  cases j with
  | zero=>rfl
  | succ j =>
    unfold scanDown
    rw [bI,if_neg]
    simp only [Bool.and_eq_true,decide_eq_true_eq]
    rintro ⟨h1,h2⟩
    rcases h with h | h
    · exact h h1
    · rw [h] at h2; cases h2
theorem aEY (h:i<b) (hp:¬ cfP P (l.getD i 0) (l.getD (i-1) 0)<0):scanSorted (ltP P) l.toArray b i=scanSorted (ltP P) l.toArray b (i+1):=by
  conv=>lhs; unfold scanSorted
  rw [bI,bI,if_pos (by simp only [ltP,Bool.and_eq_true,Bool.not_eq_true',decide_eq_true_eq,decide_eq_false_iff_not]; omega)]
theorem om (h:¬ i<b∨cfP P (l.getD i 0) (l.getD (i-1) 0)<0):scanSorted (ltP P) l.toArray b i=i:=by
  unfold scanSorted
  rw [bI,bI,if_neg (by simp only [ltP,Bool.and_eq_true,decide_eq_true_eq,Bool.not_eq_true',decide_eq_false_iff_not]; omega)]
theorem aEH {i2 j2:Nat} (h1:scanUp (fun x=>ltP P x (l.toArray)[a]!) l.toArray j i=i2) (h2:scanDown (fun x=>!ltP P x (l.toArray)[a]!) l.toArray i2 j=j2) (h:j2<i2):partLoop (ltP P) a i j l.toArray=(j2,l.toArray):=by
  unfold partLoop
  simp only [h1,h2]
  rw [if_pos h]
theorem aEF {i2 j2:Nat} (h1:scanUp (fun x=>ltP P x (l.toArray)[a]!) l.toArray j i=i2) (h2:scanDown (fun x=>!ltP P x (l.toArray)[a]!) l.toArray i2 j=j2) (h:i2≤j2) (hi:i≤i2) (hj:j2≤j) (h0:0<j2):partLoop (ltP P) a i j l.toArray=partLoop (ltP P) a (i2+1) (j2-1) (swL l i2 j2).toArray:=by
  conv=>lhs; unfold partLoop
  simp only [h1,h2]
  rw [if_neg (by omega),dif_pos (by omega),fK]
theorem aEU {i2 j2:Nat} (h1:scanUp (fun x=>!ltP P (l.toArray)[a]! x) l.toArray j i=i2) (h2:scanDown (fun x=>ltP P (l.toArray)[a]! x) l.toArray i2 j=j2) (h:j2<i2):partEqLoop (ltP P) a i j l.toArray=(i2,l.toArray):=by
  unfold partEqLoop
  simp only [h1,h2]
  rw [if_pos h]
theorem aEk {i2 j2:Nat} (h1:scanUp (fun x=>!ltP P (l.toArray)[a]! x) l.toArray j i=i2) (h2:scanDown (fun x=>ltP P (l.toArray)[a]! x) l.toArray i2 j=j2) (h:i2≤j2) (hi:i≤i2) (hj:j2≤j) (h0:0<j2):partEqLoop (ltP P) a i j l.toArray=partEqLoop (ltP P) a (i2+1) (j2-1) (swL l i2 j2).toArray:=by
  conv=>lhs; unfold partEqLoop
  simp only [h1,h2]
  rw [if_neg (by omega),dif_pos (by omega),fK]
theorem l8 (h:¬ 1≤j∨¬ cfP P (l.getD j 0) (l.getD (j-1) 0)<0):shiftDown (ltP P) j l.toArray=l.toArray:=by
  cases j with
  | zero=>rfl
  | succ j =>
    rw [Nat.add_sub_cancel] at h
    unfold shiftDown
    rw [bI,bI,if_pos (by simp only [ltP,Bool.and_eq_true,Bool.not_eq_true',decide_eq_true_eq,decide_eq_false_iff_not]; omega)]
theorem aEX (hj:1≤j) (h:cfP P (l.getD j 0) (l.getD (j-1) 0)<0):shiftDown (ltP P) j l.toArray=shiftDown (ltP P) (j-1) (swL l j (j-1)).toArray:=by
  obtain ⟨j,rfl⟩:∃ q,j=q+1:=⟨j-1,by omega⟩
  rw [Nat.add_sub_cancel] at *
  conv=>lhs; unfold shiftDown
  rw [bI,bI,fK,if_neg (by simp only [ltP,Bool.and_eq_true,Bool.not_eq_true',decide_eq_true_eq,decide_eq_false_iff_not]; omega)]
theorem jm (h:¬ j<b∨¬ cfP P (l.getD j 0) (l.getD (j-1) 0)<0):shiftUp (ltP P) b j l.toArray=l.toArray:=by
  unfold shiftUp
  by_cases hj:j<b
  · rw [if_pos hj,bI,bI,if_pos (by simp only [ltP,Bool.and_eq_true,Bool.not_eq_true',decide_eq_true_eq,decide_eq_false_iff_not]; omega)]
  · rw [if_neg hj]
theorem wh (hj:j<b) (h:cfP P (l.getD j 0) (l.getD (j-1) 0)<0):shiftUp (ltP P) b j l.toArray=shiftUp (ltP P) b (j+1) (swL l j (j-1)).toArray:=by
  conv=>lhs; unfold shiftUp
  rw [if_pos hj,bI,bI,fK,if_neg (by simp only [ltP,Bool.and_eq_true,Bool.not_eq_true',decide_eq_true_eq,decide_eq_false_iff_not]; omega)]
theorem aE8 (h:¬ i<j) {d:Array Int}:reverseLoop i j d=d:=by unfold reverseLoop; rw [if_neg h]
theorem aEa (h:i<j):reverseLoop i j l.toArray=reverseLoop (i+1) (j-1) (swL l i j).toArray:=by
  conv=>lhs; unfold reverseLoop
  rw [if_pos h,fK]
theorem mh {s:Nat} (hs:0<s) (h:scanSorted (ltP P) l.toArray b i=b):partialIns (ltP P) a b s i l.toArray=(l.toArray,true):=by
  obtain ⟨s,rfl⟩:∃ q,s=q+1:=⟨s-1,by omega⟩
  unfold partialIns
  simp only [h,if_true]
theorem pi_short {s k:Nat} (hs:0<s) (h:scanSorted (ltP P) l.toArray b i=k) (hk:k≠b) (h50:b-a<50):partialIns (ltP P) a b s i l.toArray=(l.toArray,false):=by
  obtain ⟨s,rfl⟩:∃ q,s=q+1:=⟨s-1,by omega⟩
  unfold partialIns
  simp only [h,if_neg hk,if_pos h50]
theorem iN {s k:Nat} {l2 l3 l4:List Int} (hs:0<s) (h:scanSorted (ltP P) l.toArray b i=k) (hk:k≠b) (h50:¬ b-a<50) (h2:swL l k (k-1)=l2)
    (h3:(if k-a≥2 then shiftDown (ltP P) (k-1) l2.toArray else l2.toArray)=l3.toArray) (h4:(if b-k≥2 then shiftUp (ltP P) b (k+1) l3.toArray else l3.toArray)=l4.toArray) :
    partialIns (ltP P) a b s i l.toArray=partialIns (ltP P) a b (s-1) k l4.toArray:=by
  obtain ⟨s,rfl⟩:∃ q,s=q+1:=⟨s-1,by omega⟩
  conv=>lhs; unfold partialIns
  simp only [h,if_neg hk,if_neg h50,fK,h2,h3,h4]
  rfl
theorem aAa {l1 l2:List Int} {q:Nat} (hsw:swL l a q=l1) (h1:scanUp (fun x=>ltP P x (l1.toArray)[a]!) l1.toArray (b-1) (a+1)=i) (h2:scanDown (fun x=>!ltP P x (l1.toArray)[a]!) l1.toArray i (b-1)=j) (h:j<i) (h3:swL l1 j a=l2):partition (ltP P) l.toArray a b q=(j,true,l2.toArray):=by
  unfold partition
  simp only [fK,hsw,h1,h2,h3]
  rw [if_pos h]
theorem aEh {l1 l2 l3 l4:List Int} {q j':Nat} (hsw:swL l a q=l1) (h1:scanUp (fun x=>ltP P x (l1.toArray)[a]!) l1.toArray (b-1) (a+1)=i) (h2:scanDown (fun x=>!ltP P x (l1.toArray)[a]!) l1.toArray i (b-1)=j) (h:¬ j<i) (h3:swL l1 i j=l2)
    (h4:partLoop (ltP P) a (i+1) (j-1) l2.toArray=(j',l3.toArray)) (h5:swL l3 j' a=l4):partition (ltP P) l.toArray a b q=(j',false,l4.toArray):=by
  unfold partition
  simp only [fK,hsw,h1,h2,h3,h4,h5]
  rw [if_neg h]
end
end Det
