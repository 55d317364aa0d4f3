/- DetectDivides: for every input. No conditions. -/
import Derived.Test.YtipfobacinmoiaaGreatTar
import Derived.Test.YtipfobacinmoiaaGreatTac
import Derived.Test.YtipfobacinmoiaaGreatTad
import Derived.Test.YtipfobacinmoiaaGreatTao
import Derived.ProofKit
import Derived.Lib.SmallJoins
import Derived.Deep.Grids
import Derived.Test.YtipfobacinmoiaaGreatRows
set_option linter.unusedVariables false
set_option linter.unusedSimpArgs false
namespace Det
theorem oG {W H:Int} {zs l lv:List Int} [Decidable (bC W H zs)] (h:¬ (bC W H zs∧zs.length≤100∧l.length≤100∧lv.length≤20)) :
    (((decide ((zs.length:Int)>100)||decide ((l.length:Int)>100))||decide ((lv.length:Int)>20))||decide ((if bC W H zs then 0 else 8)≠(0:Int)))=true:=by
  simp only [Bool.or_eq_true,decide_eq_true_eq]
  by_cases h1:bC W H zs
  · have:¬ (zs.length≤100∧l.length≤100∧lv.length≤20):=fun g=>h ⟨h1,g⟩
    omega
  · right; rw [if_neg h1]; decide
section
variable {P l lv:List Int} {W H n k:Nat} {least:Int}
theorem zh:bW [l]=[l]:=by
  have h:=gU (l:=[l])
  exact List.perm_singleton.1 h
theorem gZ {x:List Int}:x ∈ bW (aM P W H least lv l)↔x ∈ aM P W H least lv l:=gU.mem_iff
theorem yE {m:Int} (hls:1≤least) (hs:SetOK W H l) (hm:m≤least∧m≤(l.length:Int)):∀ x ∈ bW (aM P W H least lv l),conn W H x∧m≤(x.length:Int):=fun x hx=>by
  have h:=(dF (P:=P) hls lv l hs).1 x (gZ.1 hx)
  refine ⟨aAB h.1,?_⟩
  rcases h.2.1 with h | h <;> omega
theorem qI (hls:1≤least) (hs:SetOK W H l):∀ x ∈ bW (aM P W H least lv l),∀ t ∈ x,0≤t∧t<((W*H:Nat):Int):=fun x hx =>
  ((dF (P:=P) hls lv l hs).1 x (gZ.1 hx)).1.rng
theorem uZ (hls:1≤least) (hs:SetOK W H l):(bW (aM P W H least lv l)).Pairwise (fun a b=>∀ t ∈ a,t ∉ b) :=
  ((iN (P:=P) hls lv hs).perm gU.symm).ap
theorem aCq (hls:1≤least) (hs:SetOK W H l):(bW (aM P W H least lv l)).Pairwise fun a b=>dz a<dz b :=
  aEb (iN (P:=P) hls lv hs) gU xQ
theorem aAp (hls:1≤least) (hs:SetOK W H l) {i:Nat} (hi:i<W*H) :
    (own (W*H) (bW (aM P W H least lv l)) (bW (aM P W H least lv l)).length).getD i 0≥0↔(i:Int) ∈ l:=by
  have hr:=qI (P:=P) (lv:=lv) hls hs
  have ha:=uZ (P:=P) (lv:=lv) hls hs
  have hd:=dF (P:=P) hls lv l hs
  constructor
  · intro h
    refine Decidable.byContradiction fun hn=>?_
    rw [nG hr hi (Nat.le_refl _) fun q hq hm=>hn ?_] at h
    · exact absurd h (by decide)
    · exact (hd.1 _ (gZ.1 (at_mem hq))).2.2 _ hm
  · intro h
    obtain ⟨x,hx,hm⟩:=hd.2.2 _ h
    obtain ⟨q,hq,e⟩:=List.getElem_of_mem (gZ.2 hx)
    have e2:(bW (aM P W H least lv l)).getD q []=x:=by simp [List.getD_eq_getElem?_getD,List.getElem?_eq_getElem hq,e]
    rw [qQ hr ha (e2▸hm) (Nat.le_refl _) hq]
    omega
def nK (l:List Int) (i:Nat):Nat:=(l.filter fun t=>decide (t<(i:Int))).length
theorem aG5 (h:∀ t ∈ l,0≤t):nK l 0=0:=by
  unfold nK
  rw [List.length_eq_zero_iff,List.filter_eq_nil_iff]
  intro t ht; have:=h t ht; simp; omega
theorem aDh {n:Nat} (h:∀ t ∈ l,t<(n:Int)):nK l n=l.length:=by
  unfold nK
  rw [List.filter_eq_self.2 fun t ht=>by have:=h t ht; simpa using this]
theorem yt {i:Nat} (h:(i:Int) ∉ l):nK l (i+1)=nK l i:=by
  unfold nK
  congr 1
  refine List.filter_congr fun t ht=>?_
  have:t≠(i:Int):=fun e=>h (e▸ht)
  exact decide_eq_decide.2 (by omega)
theorem aB0 {i:Nat}:∀ {l:List Int},l.Pairwise (·<·)→(i:Int) ∈ l→nK l (i+1)=nK l i+1
  | [],_,h=>by cases h
  | x::t,ha,h=>by
    have hp:=List.pairwise_cons.1 ha
    have hc:∀ j:Nat,nK (x::t) j=(if x<(j:Int) then 1 else 0)+nK t j:=fun j=>by
      unfold nK
      rw [List.filter_cons]
      by_cases hx:x<(j:Int)
      · rw [if_pos (by simpa using hx),if_pos hx,List.length_cons]; omega
      · rw [if_neg (by simpa using hx),if_neg hx]; omega
    rw [hc,hc]
    rcases List.mem_cons.1 h with h | h
    · have hn:(i:Int) ∉ t:=fun h2=>by have:=hp.1 _ h2; omega
      rw [yt hn,if_pos (by omega),if_neg (by omega)]
      omega
    · have:=hp.1 _ h
      rw [aB0 hp.2 h,if_pos (by omega),if_pos (by omega)]
      omega
theorem aGC {i:Nat}:nK l i≤l.length:=List.length_filter_le _ _
end
theorem aAT:rising []:=fun j _ h=>by simp at h
end Det
namespace Go.SL
open Go
theorem bO.aIv {h:Hp} {v:Value} {l:List Int} (hr:aR h 1 v l.length (ints l)):bO h [v] [l]:=by
  refine ⟨rfl,fun i hi=>?_⟩
  obtain rfl:i=0:=by simpa using hi
  exact hr
theorem aDm {h:Hp}:aR h 1 (.slice none 0 0) ([]:List Int).length (ints []):=⟨rfl,Nat.zero_le _,none,0,rfl,fun h=>absurd h (Nat.lt_irrefl _)⟩
end Go.SL

set_option maxHeartbeats 1000000
set_option maxRecDepth 8000
namespace Go.Proofs.YtipfobacinmoiaaGreat
open Go Go.SL Go.Shelf Go.RowKit Go.Maps
theorem aBi:aW Tryz.prog 13=true:=by kernel_rfl
theorem aA5:aW Tryz.prog 23=true:=by kernel_rfl
theorem oN:aW Tryz.prog 9=true:=by kernel_rfl
theorem lm (va vb:Value) (vs us:List Value) (xss:List (List Int)) (w0:World) (ha:aR (hp w0) 1 va vs.length vs) (hb:aR (hp w0) 1 vb us.length us) (hia:bO (hp w0) vs xss) (hib:bO (hp w0) us xss) :
    Ret Tryz.prog 13 #[va,vb] w0 (G:=Unit) (fun _=>.bool true) (fun _ w=>St w0 w noX [] []):=by
  have h:=sG va vb vs us xss xss w0 ha hb hia hib; rw [show decide (xss=xss)=true from decide_eq_true rfl] at h; exact h
theorem mW (fW fH:Nat) (least:Int) (vP vL vv:Value) (zs l lv:List Int) (w0:World) (hfo:Det.bC (fW:Int) (fH:Int) zs) (hW:1≤fW∧fW≤100) (hH:1≤fH∧fH≤100) (hn:zs.length=fW*fH) (hP:aR (hp w0) 1 vP zs.length (ints zs)) (hL:aR (hp w0) 1 vL l.length (ints l)) (hv:aR (hp w0) 1 vv lv.length (ints lv)) (hft:vfit vv) (hl20:¬ 20<lv.length) (hno:¬ (Det.conn fW fH l∧Det.rising lv∧1≤least)) :
    Ret Tryz.prog 9 #[(fG fW fH vP),vL,vv,iV least] w0 (G:=Value × List Value) (fun g=>.tuple #[g.1,iV 2]) (fun g w=>St w0 w noX [] [sl 26 1 g.1 g.2.length g.2,inn g.2 []]):=by
  haveI:Decidable (Det.conn fW fH l):=Classical.propDecidable _; haveI:Decidable (Det.rising lv):=Classical.propDecidable _; have h:=sW fW fH least vP vL vv zs l lv w0 hfo hW hH hn hP hL hv hft; have he:=Det.aA1 (least:=least) (px:=l) hfo hl20 (by rw [Int.toNat_natCast,Int.toNat_natCast]; exact hno); rw [he.1,he.2] at h; exact h
theorem oh (fW fH:Nat) (least:Int) (vP vL vv:Value) (zs l lv:List Int) (w0:World) (hfo:Det.bC (fW:Int) (fH:Int) zs) (hW:1≤fW∧fW≤100) (hH:1≤fH∧fH≤100) (hn:zs.length=fW*fH) (hP:aR (hp w0) 1 vP zs.length (ints zs)) (hL:aR (hp w0) 1 vL l.length (ints l)) (hv:aR (hp w0) 1 vv lv.length (ints lv)) (hft:vfit vv) (hl20:¬ 20<lv.length) (hok:Det.conn fW fH l∧Det.rising lv∧1≤least) :
    Ret Tryz.prog 9 #[(fG fW fH vP),vL,vv,iV least] w0 (G:=Value × List Value) (fun g=>.tuple #[g.1,iV 0]) (fun g w=>St w0 w noX [] [sl 26 1 g.1 g.2.length g.2,inn g.2 (Det.bW (Det.aM zs fW fH least lv l))]):=by
  haveI:Decidable (Det.conn fW fH l):=Classical.propDecidable _; haveI:Decidable (Det.rising lv):=Classical.propDecidable _; have h:=sW fW fH least vP vL vv zs l lv w0 hfo hW hH hn hP hL hv hft; have he:=Det.aAu (least:=least) (px:=l) hfo hl20 (by rw [Int.toNat_natCast,Int.toNat_natCast]; exact hok); rw [he.1,he.2,Int.toNat_natCast,Int.toNat_natCast] at h; exact h
theorem qc (fW fH:Nat) (least:Int) (vP vL:Value) (zs l:List Int) (w0:World) (hfo:Det.bC (fW:Int) (fH:Int) zs) (hW:1≤fW∧fW≤100) (hH:1≤fH∧fH≤100) (hn:zs.length=fW*fH) (hP:aR (hp w0) 1 vP zs.length (ints zs)) (hL:aR (hp w0) 1 vL l.length (ints l)) (hc:Det.conn fW fH l) (hls:1≤least) :
    Ret Tryz.prog 9 #[(fG fW fH vP),vL,.slice none 0 0,iV least] w0 (G:=Value × List Value) (fun g=>.tuple #[g.1,iV 0]) (fun g w=>St w0 w noX [] [sl 26 1 g.1 g.2.length g.2,inn g.2 [l]]):=by
  have h:=oh fW fH least vP vL (.slice none 0 0) zs l [] w0 hfo hW hH hn hP hL aDm (Nat.le_refl _) (by simp) ⟨hc,Det.aAT,hls⟩; rw [show Det.aM zs fW fH least [] l=[l] from rfl,Det.zh] at h; exact h
theorem aDL (fW fH:Nat) (vP vL:Value) (zs l:List Int) (w0:World) (hW:1≤fW∧fW≤100) (hH:1≤fH∧fH≤100) (hn:zs.length=fW*fH) (hP:aR (hp w0) 1 vP zs.length (ints zs)) (hL:aR (hp w0) 1 vL l.length (ints l)) (hc:¬ Det.conn fW fH l) :
    Ret Tryz.prog 20 #[(fG fW fH vP),vL] w0 (G:=Unit) (fun _=>.bool false) (fun _ w=>St w0 w noX [] []):=by
  haveI:Decidable (Det.conn fW fH l):=.isFalse hc; have h:=oZ fW fH vP vL zs l w0 hW hH hn hP hL; rw [decide_eq_false hc] at h; exact h
set_option maxHeartbeats 1000000 in
set_option maxRecDepth 4000 in
theorem aIx (vL:Value) (l:List Int) (x:Int) (w0:World) (hL:aR (hp w0) 1 vL l.length (ints l)) :
    Ret Tryz.prog 23 #[vL,iV x] w0 (G:=Unit) (fun _=>.bool (decide (x ∈ l))) (fun _ w=>St w0 w noX [] []):=by
  refine aP (lv:=[vL,iV x]) Tryz.func23 rfl rfl rfl (fun a hf=>?_); replace hf:Fr a 18 [] [(0,vL),(1,iV x)]:=hf; have hS:St w0 w0 noX [rI vL l] []:=(St.refl w0).bP hL; have hlen:=hL.2.1; unfold maxLen at hlen; refine W.seq ?_
  refine R1 rfl<|mv hf rfl<|fun a hf=>?_; refine nk<|W.seq<|W.seq<|?_
  refine R1 rfl<|mv hf rfl<|fun a hf=>?_; refine nk<|W.block<|?_
  refine W.loop (G:=(Nat)) (fun g a w=>match g with | k=>Fr a 18 [] [(0,vL),(1,iV x),(5,iV k)]∧St w0 w noX [rI vL l] []∧(k≤l.length)∧(∀ j,j<k→l.getD j 0≠x)) (fun g=>match g with | k=>l.length-k) 0 ?_ ?_
  · refine ⟨hf.to ⟨rfl,rfl,(by first | rfl | exact vI (by omega)),trivial⟩,hS,?_,?_⟩
    · omega
    · exact fun j hj=>by omega
  clear hf hS a; rintro k a w ⟨hf,hS,h1,h2⟩; refine W.seq<|W.seq<|?_
  refine R4 rfl<|mv hf rfl<|fun a hf=>mv hf rfl fun a hf=>ov hf rfl (aA.bL (e:=3) (by simpa using aB) rfl (hS.aL (j:=0) rfl)) fun a hf=>ov (v:=.bool (decide ((k:Int)<((l.length:Int):Int)))) hf rfl (aA.lss rfl rfl) fun a hf=>?_; refine nk ?_; refine W.bF hf rfl (fun hk=>?_) (fun hk=>?_)
  · refine W.skip ?_
    refine aF<|W.seq<|W.block<|W.seq<|?_
    refine R6 rfl<|mv hf rfl<|fun a hf=>mv hf rfl fun a hf=>ov hf rfl (aA.ixV (j:=k) (m:=k) aB aC rfl rfl (hS.aL (j:=0) rfl) rfl (by omega) (Nat.mul_one _)) fun a hf=>ov hf rfl (aA.ld1 aI rfl (hS.aL (j:=0) rfl) (aH (by omega))) fun a hf=>mv hf rfl fun a hf=>ov (v:=.bool (decide ((l.getD k 0)=(x:Int)))) hf rfl (aA.eql rfl rfl) fun a hf=>?_; refine nk ?_; refine W.bF hf rfl (fun he=>?_) (fun he=>?_)
    · refine W.seq ?_
      refine R1 rfl<|mv hf rfl<|fun a hf=>?_; refine nk<|W.ret<|aN<|aK<|aK<|aN<|aK<|bD hf rfl (aT.tmp rfl)<|?_; exact ⟨(),by rw [show decide (x ∈ l)=true from decide_eq_true (he▸Det.bG (by omega))],hS.sub (List.nil_sublist _) |>.noB⟩
    · refine W.skip ?_
      refine aG<|aF<|?_
      refine R3 rfl<|mv hf rfl<|fun a hf=>ov hf rfl (aA.aj rfl rfl (by omega)) fun a hf=>mv hf rfl fun a hf=>?_; refine O.nil ?_; refine aO ⟨(k+1),⟨hf.to ⟨rfl,rfl,(by first | rfl | exact vI (by omega)),trivial⟩,?_,?_,?_⟩,?_⟩
      · exact hS.eqM rfl
      · omega
      · exact Det.eU h2 he
      · dsimp only; omega
  · refine W.exit ?_
    refine aD<|aD<|bA<|aF<|?_; replace hf:Fr a 18 [] []:=hf.to trivial; refine W.seq ?_
    refine R1 rfl<|mv hf rfl<|fun a hf=>?_; refine nk<|W.ret<|bD hf rfl (aT.tmp rfl)<|?_; refine ⟨(),by rw [show decide (x ∈ l)=false from decide_eq_false (fun h=>by obtain ⟨j,hj,e⟩:=List.getElem_of_mem h; exact h2 j (by omega) (by simpa [List.getD_eq_getElem?_getD,List.getElem?_eq_getElem hj] using e))],hS.sub (List.nil_sublist _) |>.noB⟩
set_option maxHeartbeats 1000000 in
set_option maxRecDepth 4000 in
theorem oG (fW fH least:Int) (vP vL vv:Value) (zs l lv:List Int) (w0:World) [Decidable (Det.bC fW fH zs)] (hP:aR (hp w0) 1 vP zs.length (ints zs)) (hL:aR (hp w0) 1 vL l.length (ints l)) (hv:aR (hp w0) 1 vv lv.length (ints lv)) (hft:vfit vv) (hbad:¬ (Det.bC fW fH zs∧zs.length≤100∧l.length≤100∧lv.length≤20)) :
    Ret Tryz.prog 5 #[(fG fW fH vP),vL,vv,iV least] w0 (G:=Unit) (fun _=>.bool true) (fun _ w=>St w0 w noX [] []):=by
  refine aP (lv:=[(fG fW fH vP),vL,vv,iV least]) Tryz.func5 rfl rfl rfl (fun a hf=>?_); replace hf:Fr a 148 [] [(0,(fG fW fH vP)),(1,vL),(2,vv),(3,iV least)]:=hf; have hS:St w0 w0 noX [rI vP zs,rI vL l,rI vv lv] []:=(((St.refl w0).bP hv).bP hL).bP hP; have hlen:=hL.2.1; unfold maxLen at hlen; have hlev:=hv.2.1; unfold maxLen at hlev; refine W.seq ?_
  refine R2 rfl<|O.box (cs:=#[iV fW,iV fH,vP]) hf hS rfl rfl rfl rfl<|?_; intro b_f1 w a hbb_f1 hS hf; refine mv hf rfl fun a hf=>?_; refine nk<|W.seq<|?_
  refine R2 rfl<|oc hf rfl pz (kD _)<|?_; clear hf a; rintro _ w2 hS1 a hf; replace hS:=hS.cl hS1; refine mv hf rfl fun a hf=>?_; refine nk<|W.seq<|W.seq<|?_
  refine W.aY (l:=[0,1,2,3,4,5,6,7,8,9,10,11,12,13,14,15,16,17,18,19,20]) rfl<|ov hf rfl (aA.cO (cs':=#[iV fW,iV fH,vP]) bR bH rfl (hS.p 0 rfl) (bl rfl) rfl)<|fun a hf=>?_; refine oc hf rfl pW (iK fW fH vP zs _ (hS.aL (j:=0) rfl)) ?_; clear hf a; rintro _ w3 hS1 a hf; replace hS:=hS.cl hS1; refine mv hf rfl fun a hf=>?_
  refine O.fA (l₁:=[3,4,5,6]) (l₂:=_) (fun a w=>Fr a 148 [] [(1,vL),(2,vv),(3,iV least),(4,(pp b_f1)),(8,.bool false),(9,.bool true),(26,.bool ((decide ((zs.length:Int)>100))||(decide ((l.length:Int)>(100:Int)))))]∧St w0 w noX [rI vP zs,rI vL l,rI vv lv] [pt b_f1 (.cells #[iV fW,iV fH,vP] 24 (0,0))]) rfl ?_ ?_
  · rcases Bool.eq_false_or_eq_true (decide ((zs.length:Int)>100)) with hb4 | hb4
    · have hb4p:=hb4
      try simp only [bsm] at hb4p
      refine sk hf rfl hb4 fun a hf=>sk hf rfl hb4 fun a hf=>sk hf rfl hb4 fun a hf=>?_; refine ov (v:=.bool ((decide ((zs.length:Int)>100))||(decide ((l.length:Int)>(100:Int))))) hf rfl (aA.pick rfl rfl rfl (by rw [hb4]; rfl)) fun a hf=>?_; exact O.nil ⟨rfl,hf.q rfl,hS⟩
    · have hb4p:=hb4
      try simp only [bsm] at hb4p
      refine og (v:=vL) hf rfl hb4 (aA.move rfl) fun a hf=>og (v:=iV (l.length:Int)) hf rfl hb4 (aA.bL (e:=3) (by simpa using aB) rfl (hS.aL (j:=1) rfl)) fun a hf=>og (v:=.bool (decide ((l.length:Int)>(100:Int)))) hf rfl hb4 (aA.gtr rfl rfl) fun a hf=>?_; refine ov (v:=.bool ((decide ((zs.length:Int)>100))||(decide ((l.length:Int)>(100:Int))))) hf rfl (aA.pick rfl rfl rfl (by rw [hb4]; rfl)) fun a hf=>?_; exact O.nil ⟨rfl,hf.q rfl,hS⟩
  clear hf hS a; rintro a w ⟨hf,hS⟩; refine mv hf rfl fun a hf=>?_
  refine O.fA (l₁:=[8,9,10,11]) (l₂:=_) (fun a w=>Fr a 148 [] [(1,vL),(2,vv),(3,iV least),(4,(pp b_f1)),(8,.bool false),(9,.bool true),(31,.bool (((decide ((zs.length:Int)>100))||(decide ((l.length:Int)>(100:Int))))||(decide ((lv.length:Int)>(20:Int)))))]∧St w0 w noX [rI vP zs,rI vL l,rI vv lv] [pt b_f1 (.cells #[iV fW,iV fH,vP] 24 (0,0))]) rfl ?_ ?_
  · rcases Bool.eq_false_or_eq_true ((decide ((zs.length:Int)>100))||(decide ((l.length:Int)>(100:Int)))) with hb5 | hb5
    · have hb5p:=hb5
      try simp only [bsm] at hb5p
      refine sk hf rfl hb5 fun a hf=>sk hf rfl hb5 fun a hf=>sk hf rfl hb5 fun a hf=>?_; refine ov (v:=.bool (((decide ((zs.length:Int)>100))||(decide ((l.length:Int)>(100:Int))))||(decide ((lv.length:Int)>(20:Int))))) hf rfl (aA.pick rfl rfl rfl (by rw [hb5]; rfl)) fun a hf=>?_; exact O.nil ⟨rfl,hf.q rfl,hS⟩
    · have hb5p:=hb5
      try simp only [bsm] at hb5p
      refine og (v:=vv) hf rfl hb5 (aA.move rfl) fun a hf=>og (v:=iV (lv.length:Int)) hf rfl hb5 (aA.bL (e:=2) (by simpa using aU) rfl (hS.aL (j:=2) rfl)) fun a hf=>og (v:=.bool (decide ((lv.length:Int)>(20:Int)))) hf rfl hb5 (aA.gtr rfl rfl) fun a hf=>?_; refine ov (v:=.bool (((decide ((zs.length:Int)>100))||(decide ((l.length:Int)>(100:Int))))||(decide ((lv.length:Int)>(20:Int))))) hf rfl (aA.pick rfl rfl rfl (by rw [hb5]; rfl)) fun a hf=>?_; exact O.nil ⟨rfl,hf.q rfl,hS⟩
  clear hf hS a; rintro a w ⟨hf,hS⟩; refine mv hf rfl fun a hf=>?_
  refine O.fA (l₁:=[13,14,15,16]) (l₂:=_) (fun a w=>Fr a 148 [] [(1,vL),(2,vv),(3,iV least),(4,(pp b_f1)),(8,.bool false),(9,.bool true),(36,.bool ((((decide ((zs.length:Int)>100))||(decide ((l.length:Int)>(100:Int))))||(decide ((lv.length:Int)>(20:Int))))||(decide ((if Det.bC fW fH zs then 0 else 8)≠(0:Int)))))]∧St w0 w noX [rI vP zs,rI vL l,rI vv lv] [pt b_f1 (.cells #[iV fW,iV fH,vP] 24 (0,0))]) rfl ?_ ?_
  · rcases Bool.eq_false_or_eq_true (((decide ((zs.length:Int)>100))||(decide ((l.length:Int)>(100:Int))))||(decide ((lv.length:Int)>(20:Int)))) with hb6 | hb6
    · have hb6p:=hb6
      try simp only [bsm] at hb6p
      refine sk hf rfl hb6 fun a hf=>sk hf rfl hb6 fun a hf=>sk hf rfl hb6 fun a hf=>?_; refine ov (v:=.bool ((((decide ((zs.length:Int)>100))||(decide ((l.length:Int)>(100:Int))))||(decide ((lv.length:Int)>(20:Int))))||(decide ((if Det.bC fW fH zs then 0 else 8)≠(0:Int))))) hf rfl (aA.pick rfl rfl rfl (by rw [hb6]; rfl)) fun a hf=>?_; exact O.nil ⟨rfl,hf.q rfl,hS⟩
    · have hb6p:=hb6
      try simp only [bsm] at hb6p
      refine og (v:=(fG fW fH vP)) hf rfl hb6 (aA.cO (cs':=#[iV fW,iV fH,vP]) bR bH rfl (hS.p 0 rfl) (bl rfl) rfl) fun a hf=>?_; refine O.iG hf rfl rfl rfl hb6 rfl rfl (dJ.call (av:=#[(fG fW fH vP)]) pq rfl rfl rfl) (nT fW fH vP zs _ (hS.aL (j:=0) rfl)) ?_; clear hf a; rintro _ w7 hS1 a hf; replace hS:=hS.cl hS1; refine og (v:=.bool (decide ((if Det.bC fW fH zs then 0 else 8)≠(0:Int)))) hf rfl hb6 (aA.neq rfl rfl) fun a hf=>?_; refine ov (v:=.bool ((((decide ((zs.length:Int)>100))||(decide ((l.length:Int)>(100:Int))))||(decide ((lv.length:Int)>(20:Int))))||(decide ((if Det.bC fW fH zs then 0 else 8)≠(0:Int))))) hf rfl (aA.pick rfl rfl rfl (by rw [hb6]; rfl)) fun a hf=>?_; exact O.nil ⟨rfl,hf.q rfl,hS⟩
  clear hf hS a; rintro a w ⟨hf,hS⟩; refine mv hf rfl fun a hf=>?_
  refine O.fA (l₁:=[18,19,20]) (l₂:=_) (fun a w=>Fr a 148 [] [(1,vL),(2,vv),(3,iV least),(4,(pp b_f1)),(8,.bool false),(9,.bool true),(40,.bool (((((decide ((zs.length:Int)>100))||(decide ((l.length:Int)>(100:Int))))||(decide ((lv.length:Int)>(20:Int))))||(decide ((if Det.bC fW fH zs then 0 else 8)≠(0:Int))))||false))]∧St w0 w noX [rI vP zs,rI vL l,rI vv lv] [pt b_f1 (.cells #[iV fW,iV fH,vP] 24 (0,0))]) rfl ?_ ?_
  · rcases Bool.eq_false_or_eq_true ((((decide ((zs.length:Int)>100))||(decide ((l.length:Int)>(100:Int))))||(decide ((lv.length:Int)>(20:Int))))||(decide ((if Det.bC fW fH zs then 0 else 8)≠(0:Int)))) with hb8 | hb8
    · have hb8p:=hb8
      try simp only [bsm] at hb8p
      refine sk hf rfl hb8 fun a hf=>sk hf rfl hb8 fun a hf=>?_; refine ov (v:=.bool (((((decide ((zs.length:Int)>100))||(decide ((l.length:Int)>(100:Int))))||(decide ((lv.length:Int)>(20:Int))))||(decide ((if Det.bC fW fH zs then 0 else 8)≠(0:Int))))||false)) hf rfl (aA.pick rfl rfl rfl (by rw [hb8]; rfl)) fun a hf=>?_; exact O.nil ⟨rfl,hf.q rfl,hS⟩
    · have hb8p:=hb8
      try simp only [bsm] at hb8p
      refine og (v:=.bool true) hf rfl hb8 (aA.move rfl) fun a hf=>og (v:=.bool false) hf rfl hb8 (aA.not (b:=true) rfl) fun a hf=>?_; refine ov (v:=.bool (((((decide ((zs.length:Int)>100))||(decide ((l.length:Int)>(100:Int))))||(decide ((lv.length:Int)>(20:Int))))||(decide ((if Det.bC fW fH zs then 0 else 8)≠(0:Int))))||false)) hf rfl (aA.pick rfl rfl rfl (by rw [hb8]; rfl)) fun a hf=>?_; exact O.nil ⟨rfl,hf.q rfl,hS⟩
  clear hf hS a; rintro a w ⟨hf,hS⟩; refine nk ?_; have hbc:(((((decide ((zs.length:Int)>100))||(decide ((l.length:Int)>(100:Int))))||(decide ((lv.length:Int)>(20:Int))))||(decide ((if Det.bC fW fH zs then 0 else 8)≠(0:Int))))||false)=true:=(by rw [Bool.or_false]; exact Det.oG hbad); simp only [hbc] at hf; clear hbc; refine W.aBT hf rfl<|W.seq<|?_
  refine R2 rfl<|mv hf rfl<|fun a hf=>mv hf rfl fun a hf=>?_; refine nk<|W.ret<|aK<|bD hf rfl (aT.tmp rfl)<|?_; exact ⟨(),rfl,hS.sub (List.nil_sublist _) |>.noB⟩
set_option maxHeartbeats 1000000 in
set_option maxRecDepth 4000 in
theorem aHq (fW fH:Nat) (least:Int) (vP vL vv:Value) (zs l lv:List Int) (w0:World) (hfo:Det.bC (fW:Int) (fH:Int) zs) (hW:1≤fW∧fW≤100) (hH:1≤fH∧fH≤100) (hn:zs.length=fW*fH) (hsz:zs.length≤100) (hls:l.length≤100) (hvs:lv.length≤20) (hP:aR (hp w0) 1 vP zs.length (ints zs)) (hL:aR (hp w0) 1 vL l.length (ints l)) (hv:aR (hp w0) 1 vv lv.length (ints lv)) (hft:vfit vv) (hc:¬ Det.conn fW fH l) :
    Ret Tryz.prog 5 #[(fG fW fH vP),vL,vv,iV least] w0 (G:=Unit) (fun _=>.bool true) (fun _ w=>St w0 w noX [] []):=by
  refine aP (lv:=[(fG fW fH vP),vL,vv,iV least]) Tryz.func5 rfl rfl rfl (fun a hf=>?_); replace hf:Fr a 148 [] [(0,(fG fW fH vP)),(1,vL),(2,vv),(3,iV least)]:=hf; have hS:St w0 w0 noX [rI vP zs,rI vL l,rI vv lv] []:=(((St.refl w0).bP hv).bP hL).bP hP; have hlen:=hL.2.1; unfold maxLen at hlen; have hlev:=hv.2.1; unfold maxLen at hlev; refine W.seq ?_
  refine R2 rfl<|O.box (cs:=#[iV fW,iV fH,vP]) hf hS rfl rfl rfl rfl<|?_; intro b_f1 w a hbb_f1 hS hf; refine mv hf rfl fun a hf=>?_; refine nk<|W.seq<|?_
  refine R2 rfl<|oc hf rfl pz (kD _)<|?_; clear hf a; rintro _ w2 hS1 a hf; replace hS:=hS.cl hS1; refine mv hf rfl fun a hf=>?_; refine nk<|W.seq<|W.seq<|?_
  refine W.aY (l:=[0,1,2,3,4,5,6,7,8,9,10,11,12,13,14,15,16,17,18,19,20]) rfl<|ov hf rfl (aA.cO (cs':=#[iV fW,iV fH,vP]) bR bH rfl (hS.p 0 rfl) (bl rfl) rfl)<|fun a hf=>?_; refine oc hf rfl pW (iK (fW:Int) (fH:Int) vP zs _ (hS.aL (j:=0) rfl)) ?_; clear hf a; rintro _ w3 hS1 a hf; replace hS:=hS.cl hS1; refine mv hf rfl fun a hf=>?_; have hbg:(decide ((zs.length:Int)>100))=false:=(by simp; omega); simp only [hbg] at hf; clear hbg; refine og (v:=vL) hf rfl rfl (aA.move rfl) fun a hf=>og (v:=iV (l.length:Int)) hf rfl rfl (aA.bL (e:=3) (by simpa using aB) rfl (hS.aL (j:=1) rfl)) fun a hf=>og (v:=.bool (decide ((l.length:Int)>(100:Int)))) hf rfl rfl (aA.gtr rfl rfl) fun a hf=>ov (v:=.bool (decide ((l.length:Int)>(100:Int)))) hf rfl (aA.pick rfl rfl rfl rfl) fun a hf=>mv hf rfl fun a hf=>?_; have hbg:(decide ((l.length:Int)>(100:Int)))=false:=(by simp; omega); simp only [hbg] at hf; clear hbg; refine og (v:=vv) hf rfl rfl (aA.move rfl) fun a hf=>og (v:=iV (lv.length:Int)) hf rfl rfl (aA.bL (e:=2) (by simpa using aU) rfl (hS.aL (j:=2) rfl)) fun a hf=>og (v:=.bool (decide ((lv.length:Int)>(20:Int)))) hf rfl rfl (aA.gtr rfl rfl) fun a hf=>ov (v:=.bool (decide ((lv.length:Int)>(20:Int)))) hf rfl (aA.pick rfl rfl rfl rfl) fun a hf=>mv hf rfl fun a hf=>?_; have hbg:(decide ((lv.length:Int)>(20:Int)))=false:=(by simp; omega); simp only [hbg] at hf; clear hbg; refine og (v:=(fG fW fH vP)) hf rfl rfl (aA.cO (cs':=#[iV fW,iV fH,vP]) bR bH rfl (hS.p 0 rfl) (bl rfl) rfl) fun a hf=>?_; refine O.iG hf rfl rfl rfl rfl rfl rfl (dJ.call (av:=#[(fG fW fH vP)]) pq rfl rfl rfl) (mM (fW:Int) (fH:Int) vP zs _ hfo (hS.aL (j:=0) rfl)) ?_; clear hf a; rintro _ w4 hS1 a hf; replace hS:=hS.cl hS1; refine og (v:=.bool false) hf rfl rfl (aA.toB (c:=false) (aA.neq rfl rfl) (by decide)) fun a hf=>ov (v:=.bool false) hf rfl (aA.pick rfl rfl rfl rfl) fun a hf=>mv hf rfl fun a hf=>og (v:=.bool true) hf rfl rfl (aA.move rfl) fun a hf=>og (v:=.bool false) hf rfl rfl (aA.not (b:=true) rfl) fun a hf=>ov (v:=.bool false) hf rfl (aA.pick rfl rfl rfl rfl) fun a hf=>?_; refine nk<|W.fP hf rfl<|W.skip<|aF<|W.seq<|?_
  refine W.aY (l:=[0,1,2,3,4,5,6,7,8,9]) rfl<|ov hf rfl (aA.cO (cs':=#[iV fW,iV fH,vP]) bR bH rfl (hS.p 0 rfl) (bl rfl) rfl)<|fun a hf=>?_; refine mv hf rfl fun a hf=>mv hf rfl fun a hf=>mv hf rfl fun a hf=>?_; refine oc hf rfl oN (mW fW fH least vP vL vv zs l lv _ hfo hW hH hn (hS.aL (j:=0) rfl) (hS.aL (j:=1) rfl) (hS.aL (j:=2) rfl) hft (by omega) (fun h=>hc h.1)) ?_; clear hf a; rintro ⟨va,ua⟩ w5 hS1 a hf; try dsimp only at hS1 hf; replace hS:=hS.cl hS1; refine mv hf rfl fun a hf=>ov hf rfl (aA.extract rfl rfl) fun a hf=>ov hf rfl (aA.extract rfl rfl) fun a hf=>mv hf rfl fun a hf=>mv hf rfl fun a hf=>?_; refine nk<|W.seq<|?_
  refine W.aY (l:=[0,1,2,3,4,5,6,7,8,9]) rfl<|ov hf rfl (aA.cO (cs':=#[iV fW,iV fH,vP]) bR bH rfl (hS.p 2 rfl) (bl rfl) rfl)<|fun a hf=>?_; refine mv hf rfl fun a hf=>mv hf rfl fun a hf=>ov hf rfl (aA.max rfl rfl) fun a hf=>?_; refine oc hf rfl oN (mW fW fH (if (1:Int)<least then least else 1) vP vL (.slice none 0 0) zs l [] _ hfo hW hH hn (hS.aL (j:=0) rfl) (hS.aL (j:=1) rfl) aDm (Nat.le_refl _) (by simp) (fun h=>hc h.1)) ?_; clear hf a; rintro ⟨vb,ub⟩ w6 hS1 a hf; try dsimp only at hS1 hf; replace hS:=hS.cl hS1; refine mv hf rfl fun a hf=>ov hf rfl (aA.extract rfl rfl) fun a hf=>ov hf rfl (aA.extract rfl rfl) fun a hf=>mv hf rfl fun a hf=>mv hf rfl fun a hf=>?_; refine nk<|W.seq<|W.seq<|?_
  refine R2 rfl<|mv hf rfl<|fun a hf=>ov hf rfl (aA.toB (c:=true) (aA.neq rfl rfl) (by decide)) fun a hf=>?_; refine nk<|W.aBT hf rfl<|W.seq<|?_
  refine W.aY (l:=[0,1,2,3,4,5,6,7,8,9,10,11,12,13,14,15]) rfl<|mv hf rfl<|fun a hf=>?_; refine mv hf rfl fun a hf=>og (v:=iV 2) hf rfl rfl (aA.move rfl) fun a hf=>og (v:=.bool true) hf rfl rfl (aA.toB (c:=true) (aA.eql rfl rfl) (by decide)) fun a hf=>ov (v:=.bool true) hf rfl (aA.pick rfl rfl rfl rfl) fun a hf=>mv hf rfl fun a hf=>og (v:=iV 2) hf rfl rfl (aA.move rfl) fun a hf=>og (v:=.bool true) hf rfl rfl (aA.toB (c:=true) (aA.eql rfl rfl) (by decide)) fun a hf=>ov (v:=.bool true) hf rfl (aA.pick rfl rfl rfl rfl) fun a hf=>mv hf rfl fun a hf=>og (v:=(fG fW fH vP)) hf rfl rfl (aA.cO (cs':=#[iV fW,iV fH,vP]) bR bH rfl (hS.p 4 rfl) (bl rfl) rfl) fun a hf=>og (v:=vL) hf rfl rfl (aA.move rfl) fun a hf=>?_; refine O.iG hf rfl rfl rfl rfl rfl rfl (dJ.call (av:=#[(fG fW fH vP),vL]) aAw rfl rfl rfl) (aDL fW fH vP vL zs l _ hW hH hn (hS.aL (j:=0) rfl) (hS.aL (j:=1) rfl) hc) ?_; clear hf a; rintro _ w7 hS1 a hf; replace hS:=hS.cl hS1; refine og (v:=.bool true) hf rfl rfl (aA.not (b:=false) rfl) fun a hf=>ov (v:=.bool true) hf rfl (aA.pick rfl rfl rfl rfl) fun a hf=>mv hf rfl fun a hf=>?_; refine nk<|W.ret<|aK<|bD hf rfl (aT.tmp rfl)<|?_; exact ⟨(),rfl,hS.sub (List.nil_sublist _) |>.noB⟩
set_option maxHeartbeats 1000000 in
set_option maxRecDepth 4000 in
theorem aFj (fW fH:Nat) (least:Int) (vP vL vv:Value) (zs l lv:List Int) (w0:World) (hfo:Det.bC (fW:Int) (fH:Int) zs) (hW:1≤fW∧fW≤100) (hH:1≤fH∧fH≤100) (hn:zs.length=fW*fH) (hsz:zs.length≤100) (hls:l.length≤100) (hvs:lv.length≤20) (hP:aR (hp w0) 1 vP zs.length (ints zs)) (hL:aR (hp w0) 1 vL l.length (ints l)) (hv:aR (hp w0) 1 vv lv.length (ints lv)) (hft:vfit vv) (hc:Det.conn fW fH l) (hno:¬ (Det.rising lv∧1≤least)) :
    Ret Tryz.prog 5 #[(fG fW fH vP),vL,vv,iV least] w0 (G:=Unit) (fun _=>.bool true) (fun _ w=>St w0 w noX [] []):=by
  refine aP (lv:=[(fG fW fH vP),vL,vv,iV least]) Tryz.func5 rfl rfl rfl (fun a hf=>?_); replace hf:Fr a 148 [] [(0,(fG fW fH vP)),(1,vL),(2,vv),(3,iV least)]:=hf; have hS:St w0 w0 noX [rI vP zs,rI vL l,rI vv lv] []:=(((St.refl w0).bP hv).bP hL).bP hP; have hlen:=hL.2.1; unfold maxLen at hlen; have hlev:=hv.2.1; unfold maxLen at hlev; refine W.seq ?_
  refine R2 rfl<|O.box (cs:=#[iV fW,iV fH,vP]) hf hS rfl rfl rfl rfl<|?_; intro b_f1 w a hbb_f1 hS hf; refine mv hf rfl fun a hf=>?_; refine nk<|W.seq<|?_
  refine R2 rfl<|oc hf rfl pz (kD _)<|?_; clear hf a; rintro _ w2 hS1 a hf; replace hS:=hS.cl hS1; refine mv hf rfl fun a hf=>?_; refine nk<|W.seq<|W.seq<|?_
  refine W.aY (l:=[0,1,2,3,4,5,6,7,8,9,10,11,12,13,14,15,16,17,18,19,20]) rfl<|ov hf rfl (aA.cO (cs':=#[iV fW,iV fH,vP]) bR bH rfl (hS.p 0 rfl) (bl rfl) rfl)<|fun a hf=>?_; refine oc hf rfl pW (iK (fW:Int) (fH:Int) vP zs _ (hS.aL (j:=0) rfl)) ?_; clear hf a; rintro _ w3 hS1 a hf; replace hS:=hS.cl hS1; refine mv hf rfl fun a hf=>?_; have hbg:(decide ((zs.length:Int)>100))=false:=(by simp; omega); simp only [hbg] at hf; clear hbg; refine og (v:=vL) hf rfl rfl (aA.move rfl) fun a hf=>og (v:=iV (l.length:Int)) hf rfl rfl (aA.bL (e:=3) (by simpa using aB) rfl (hS.aL (j:=1) rfl)) fun a hf=>og (v:=.bool (decide ((l.length:Int)>(100:Int)))) hf rfl rfl (aA.gtr rfl rfl) fun a hf=>ov (v:=.bool (decide ((l.length:Int)>(100:Int)))) hf rfl (aA.pick rfl rfl rfl rfl) fun a hf=>mv hf rfl fun a hf=>?_; have hbg:(decide ((l.length:Int)>(100:Int)))=false:=(by simp; omega); simp only [hbg] at hf; clear hbg; refine og (v:=vv) hf rfl rfl (aA.move rfl) fun a hf=>og (v:=iV (lv.length:Int)) hf rfl rfl (aA.bL (e:=2) (by simpa using aU) rfl (hS.aL (j:=2) rfl)) fun a hf=>og (v:=.bool (decide ((lv.length:Int)>(20:Int)))) hf rfl rfl (aA.gtr rfl rfl) fun a hf=>ov (v:=.bool (decide ((lv.length:Int)>(20:Int)))) hf rfl (aA.pick rfl rfl rfl rfl) fun a hf=>mv hf rfl fun a hf=>?_; have hbg:(decide ((lv.length:Int)>(20:Int)))=false:=(by simp; omega); simp only [hbg] at hf; clear hbg; refine og (v:=(fG fW fH vP)) hf rfl rfl (aA.cO (cs':=#[iV fW,iV fH,vP]) bR bH rfl (hS.p 0 rfl) (bl rfl) rfl) fun a hf=>?_; refine O.iG hf rfl rfl rfl rfl rfl rfl (dJ.call (av:=#[(fG fW fH vP)]) pq rfl rfl rfl) (mM (fW:Int) (fH:Int) vP zs _ hfo (hS.aL (j:=0) rfl)) ?_; clear hf a; rintro _ w4 hS1 a hf; replace hS:=hS.cl hS1; refine og (v:=.bool false) hf rfl rfl (aA.toB (c:=false) (aA.neq rfl rfl) (by decide)) fun a hf=>ov (v:=.bool false) hf rfl (aA.pick rfl rfl rfl rfl) fun a hf=>mv hf rfl fun a hf=>og (v:=.bool true) hf rfl rfl (aA.move rfl) fun a hf=>og (v:=.bool false) hf rfl rfl (aA.not (b:=true) rfl) fun a hf=>ov (v:=.bool false) hf rfl (aA.pick rfl rfl rfl rfl) fun a hf=>?_; refine nk<|W.fP hf rfl<|W.skip<|aF<|W.seq<|?_
  refine W.aY (l:=[0,1,2,3,4,5,6,7,8,9]) rfl<|ov hf rfl (aA.cO (cs':=#[iV fW,iV fH,vP]) bR bH rfl (hS.p 0 rfl) (bl rfl) rfl)<|fun a hf=>?_; refine mv hf rfl fun a hf=>mv hf rfl fun a hf=>mv hf rfl fun a hf=>?_; refine oc hf rfl oN (mW fW fH least vP vL vv zs l lv _ hfo hW hH hn (hS.aL (j:=0) rfl) (hS.aL (j:=1) rfl) (hS.aL (j:=2) rfl) hft (by omega) (fun h=>hno h.2)) ?_; clear hf a; rintro ⟨va,ua⟩ w5 hS1 a hf; try dsimp only at hS1 hf; replace hS:=hS.cl hS1; refine mv hf rfl fun a hf=>ov hf rfl (aA.extract rfl rfl) fun a hf=>ov hf rfl (aA.extract rfl rfl) fun a hf=>mv hf rfl fun a hf=>mv hf rfl fun a hf=>?_; refine nk<|W.seq<|?_
  refine W.aY (l:=[0,1,2,3,4,5,6,7,8,9]) rfl<|ov hf rfl (aA.cO (cs':=#[iV fW,iV fH,vP]) bR bH rfl (hS.p 2 rfl) (bl rfl) rfl)<|fun a hf=>?_; refine mv hf rfl fun a hf=>mv hf rfl fun a hf=>ov hf rfl (aA.max rfl rfl) fun a hf=>?_; refine oc hf rfl oN (qc fW fH (if (1:Int)<least then least else 1) vP vL zs l _ hfo hW hH hn (hS.aL (j:=0) rfl) (hS.aL (j:=1) rfl) hc (by split <;> omega)) ?_; clear hf a; rintro ⟨vb,ub⟩ w6 hS1 a hf; try dsimp only at hS1 hf; replace hS:=hS.cl hS1; refine mv hf rfl fun a hf=>ov hf rfl (aA.extract rfl rfl) fun a hf=>ov hf rfl (aA.extract rfl rfl) fun a hf=>mv hf rfl fun a hf=>mv hf rfl fun a hf=>?_; refine nk<|W.seq<|W.seq<|?_
  refine R2 rfl<|mv hf rfl<|fun a hf=>ov hf rfl (aA.toB (c:=false) (aA.neq rfl rfl) (by decide)) fun a hf=>?_; refine nk<|W.fP hf rfl<|W.skip<|aF<|W.seq<|W.seq<|?_
  refine R5 rfl<|mv hf rfl<|fun a hf=>mv hf rfl fun a hf=>?_; have hcl8:=aR.cells (hS.aL (j:=1) rfl); refine O.buildSlice (cs':=#[vL]) (zs:=#[.slice none 0 0]) hf hS rfl rfl ah bB eO rfl rfl rfl rfl (by first | (simp only [Instr.fill,hcl8.1]; rfl) | simp [Instr.fill,hcl8.1]) ?_; intro b_s7 w a hbb_s7 hS hf; refine oc hf rfl aBi (lm vb (.slice (some ⟨b_s7,0,none⟩) 1 1) ub [vL] [l] _ (hS.slr (j:=1) rfl) (hS.aHH (j:=0) rfl (by decide) rfl rfl) (hS.iI (j:=2) rfl) (bO.aIv (hS.aL (j:=1) rfl))) ?_; clear hf a; rintro _ w9 hS1 a hf; replace hS:=hS.cl hS1; refine ov (v:=.bool false) hf rfl (aA.not (b:=true) rfl) fun a hf=>?_; refine nk<|W.fP hf rfl<|W.skip<|aF<|W.seq<|W.seq<|?_
  refine R2 rfl<|mv hf rfl<|fun a hf=>ov hf rfl (aA.toB (c:=true) (aA.neq rfl rfl) (by decide)) fun a hf=>?_; refine nk<|W.aBT hf rfl<|W.seq<|?_
  refine R6 rfl<|mv hf rfl<|fun a hf=>mv hf rfl fun a hf=>og (v:=iV 2) hf rfl rfl (aA.move rfl) fun a hf=>og (v:=.bool true) hf rfl rfl (aA.toB (c:=true) (aA.eql rfl rfl) (by decide)) fun a hf=>ov (v:=.bool true) hf rfl (aA.pick rfl rfl rfl rfl) fun a hf=>mv hf rfl fun a hf=>?_; refine nk<|W.ret<|aK<|bD hf rfl (aT.tmp rfl)<|?_; exact ⟨(),rfl,hS.sub (List.nil_sublist _) |>.noB⟩
set_option maxHeartbeats 1000000 in
set_option maxRecDepth 4000 in
theorem aDN (fW fH:Nat) (least:Int) (vP vL vv:Value) (zs l lv:List Int) (w0:World) (hfo:Det.bC (fW:Int) (fH:Int) zs) (hW:1≤fW∧fW≤100) (hH:1≤fH∧fH≤100) (hn:zs.length=fW*fH) (hsz:zs.length≤100) (hls:l.length≤100) (hvs:lv.length≤20) (hP:aR (hp w0) 1 vP zs.length (ints zs)) (hL:aR (hp w0) 1 vL l.length (ints l)) (hv:aR (hp w0) 1 vv lv.length (ints lv)) (hft:vfit vv) (hok:Det.conn fW fH l∧Det.rising lv∧1≤least) :
    Ret Tryz.prog 5 #[(fG fW fH vP),vL,vv,iV least] w0 (G:=Unit) (fun _=>.bool true) (fun _ w=>St w0 w noX [] []):=by
  refine aP (lv:=[(fG fW fH vP),vL,vv,iV least]) Tryz.func5 rfl rfl rfl (fun a hf=>?_); replace hf:Fr a 148 [] [(0,(fG fW fH vP)),(1,vL),(2,vv),(3,iV least)]:=hf; have hS:St w0 w0 noX [rI vP zs,rI vL l,rI vv lv] []:=(((St.refl w0).bP hv).bP hL).bP hP; have hlen:=hL.2.1; unfold maxLen at hlen; have hlev:=hv.2.1; unfold maxLen at hlev; have hc:=hok.1; have hset:=Det.qj hok.1; have hasc:=hset.asc; have hrg:=hset.rng; have hN:fW*fH≤100:=by omega
  have hmem:=Det.aCq (P:=zs) (lv:=lv) hok.2.2 hset; refine W.seq ?_
  refine R2 rfl<|O.box (cs:=#[iV fW,iV fH,vP]) hf hS rfl rfl rfl rfl<|?_; intro b_f1 w a hbb_f1 hS hf; refine mv hf rfl fun a hf=>?_; refine nk<|W.seq<|?_
  refine R2 rfl<|oc hf rfl pz (kD _)<|?_; clear hf a; rintro _ w2 hS1 a hf; replace hS:=hS.cl hS1; refine mv hf rfl fun a hf=>?_; refine nk<|W.seq<|W.seq<|?_
  refine W.aY (l:=[0,1,2,3,4,5,6,7,8,9,10,11,12,13,14,15,16,17,18,19,20]) rfl<|ov hf rfl (aA.cO (cs':=#[iV fW,iV fH,vP]) bR bH rfl (hS.p 0 rfl) (bl rfl) rfl)<|fun a hf=>?_; refine oc hf rfl pW (iK (fW:Int) (fH:Int) vP zs _ (hS.aL (j:=0) rfl)) ?_; clear hf a; rintro _ w3 hS1 a hf; replace hS:=hS.cl hS1; refine mv hf rfl fun a hf=>?_; have hbg:(decide ((zs.length:Int)>100))=false:=(by simp; omega); simp only [hbg] at hf; clear hbg; refine og (v:=vL) hf rfl rfl (aA.move rfl) fun a hf=>og (v:=iV (l.length:Int)) hf rfl rfl (aA.bL (e:=3) (by simpa using aB) rfl (hS.aL (j:=1) rfl)) fun a hf=>og (v:=.bool (decide ((l.length:Int)>(100:Int)))) hf rfl rfl (aA.gtr rfl rfl) fun a hf=>ov (v:=.bool (decide ((l.length:Int)>(100:Int)))) hf rfl (aA.pick rfl rfl rfl rfl) fun a hf=>mv hf rfl fun a hf=>?_; have hbg:(decide ((l.length:Int)>(100:Int)))=false:=(by simp; omega); simp only [hbg] at hf; clear hbg; refine og (v:=vv) hf rfl rfl (aA.move rfl) fun a hf=>og (v:=iV (lv.length:Int)) hf rfl rfl (aA.bL (e:=2) (by simpa using aU) rfl (hS.aL (j:=2) rfl)) fun a hf=>og (v:=.bool (decide ((lv.length:Int)>(20:Int)))) hf rfl rfl (aA.gtr rfl rfl) fun a hf=>ov (v:=.bool (decide ((lv.length:Int)>(20:Int)))) hf rfl (aA.pick rfl rfl rfl rfl) fun a hf=>mv hf rfl fun a hf=>?_; have hbg:(decide ((lv.length:Int)>(20:Int)))=false:=(by simp; omega); simp only [hbg] at hf; clear hbg; refine og (v:=(fG fW fH vP)) hf rfl rfl (aA.cO (cs':=#[iV fW,iV fH,vP]) bR bH rfl (hS.p 0 rfl) (bl rfl) rfl) fun a hf=>?_; refine O.iG hf rfl rfl rfl rfl rfl rfl (dJ.call (av:=#[(fG fW fH vP)]) pq rfl rfl rfl) (mM (fW:Int) (fH:Int) vP zs _ hfo (hS.aL (j:=0) rfl)) ?_; clear hf a; rintro _ w4 hS1 a hf; replace hS:=hS.cl hS1; refine og (v:=.bool false) hf rfl rfl (aA.toB (c:=false) (aA.neq rfl rfl) (by decide)) fun a hf=>ov (v:=.bool false) hf rfl (aA.pick rfl rfl rfl rfl) fun a hf=>mv hf rfl fun a hf=>og (v:=.bool true) hf rfl rfl (aA.move rfl) fun a hf=>og (v:=.bool false) hf rfl rfl (aA.not (b:=true) rfl) fun a hf=>ov (v:=.bool false) hf rfl (aA.pick rfl rfl rfl rfl) fun a hf=>?_; refine nk<|W.fP hf rfl<|W.skip<|aF<|W.seq<|?_
  refine W.aY (l:=[0,1,2,3,4,5,6,7,8,9]) rfl<|ov hf rfl (aA.cO (cs':=#[iV fW,iV fH,vP]) bR bH rfl (hS.p 0 rfl) (bl rfl) rfl)<|fun a hf=>?_; refine mv hf rfl fun a hf=>mv hf rfl fun a hf=>mv hf rfl fun a hf=>?_; refine oc hf rfl oN (oh fW fH least vP vL vv zs l lv _ hfo hW hH hn (hS.aL (j:=0) rfl) (hS.aL (j:=1) rfl) (hS.aL (j:=2) rfl) hft (by omega) hok) ?_; clear hf a; rintro ⟨va,ua⟩ w5 hS1 a hf; try dsimp only at hS1 hf; replace hS:=hS.cl hS1; refine mv hf rfl fun a hf=>ov hf rfl (aA.extract rfl rfl) fun a hf=>ov hf rfl (aA.extract rfl rfl) fun a hf=>mv hf rfl fun a hf=>mv hf rfl fun a hf=>?_; refine O.nil ?_; have hual:=(hS.iI (j:=1) rfl).1; have huam:=(hS.jB (j:=0) rfl).nle; unfold maxLen at huam; refine aF<|W.seq<|?_
  refine W.aY (l:=[0,1,2,3,4,5,6,7,8,9]) rfl<|ov hf rfl (aA.cO (cs':=#[iV fW,iV fH,vP]) bR bH rfl (hS.p 2 rfl) (bl rfl) rfl)<|fun a hf=>?_; refine mv hf rfl fun a hf=>mv hf rfl fun a hf=>ov hf rfl (aA.max rfl rfl) fun a hf=>?_; refine oc hf rfl oN (qc fW fH (if (1:Int)<least then least else 1) vP vL zs l _ hfo hW hH hn (hS.aL (j:=0) rfl) (hS.aL (j:=1) rfl) hc (by split <;> omega)) ?_; clear hf a; rintro ⟨vb,ub⟩ w6 hS1 a hf; try dsimp only at hS1 hf; replace hS:=hS.cl hS1; refine mv hf rfl fun a hf=>ov hf rfl (aA.extract rfl rfl) fun a hf=>ov hf rfl (aA.extract rfl rfl) fun a hf=>mv hf rfl fun a hf=>mv hf rfl fun a hf=>?_; refine nk<|W.seq<|W.seq<|?_
  refine R2 rfl<|mv hf rfl<|fun a hf=>ov hf rfl (aA.toB (c:=false) (aA.neq rfl rfl) (by decide)) fun a hf=>?_; refine nk<|W.fP hf rfl<|W.skip<|aF<|W.seq<|W.seq<|?_
  refine R5 rfl<|mv hf rfl<|fun a hf=>mv hf rfl fun a hf=>?_; have hcl8:=aR.cells (hS.aL (j:=1) rfl); refine O.buildSlice (cs':=#[vL]) (zs:=#[.slice none 0 0]) hf hS rfl rfl ah bB eO rfl rfl rfl rfl (by first | (simp only [Instr.fill,hcl8.1]; rfl) | simp [Instr.fill,hcl8.1]) ?_; intro b_s7 w a hbb_s7 hS hf; refine oc hf rfl aBi (lm vb (.slice (some ⟨b_s7,0,none⟩) 1 1) ub [vL] [l] _ (hS.slr (j:=1) rfl) (hS.aHH (j:=0) rfl (by decide) rfl rfl) (hS.iI (j:=2) rfl) (bO.aIv (hS.aL (j:=1) rfl))) ?_; clear hf a; rintro _ w9 hS1 a hf; replace hS:=hS.cl hS1; refine ov (v:=.bool false) hf rfl (aA.not (b:=true) rfl) fun a hf=>?_; refine nk<|W.fP hf rfl<|W.skip<|aF<|W.seq<|W.seq<|?_
  refine R2 rfl<|mv hf rfl<|fun a hf=>ov hf rfl (aA.toB (c:=false) (aA.neq rfl rfl) (by decide)) fun a hf=>?_; refine nk<|W.fP hf rfl<|W.skip<|aF<|W.seq<|?_
  refine W.aY (l:=[0,1,2,3,4,5,6,7,8,9,10,11]) rfl<|ov hf rfl (aA.cO (cs':=#[iV fW,iV fH,vP]) bR bH rfl (hS.p 5 rfl) (bl rfl) rfl)<|fun a hf=>?_; refine mv hf rfl fun a hf=>mv hf rfl fun a hf=>mv hf rfl fun a hf=>ov hf rfl (aA.bL (e:=3) (by simpa using aB) rfl (hS.aL (j:=1) rfl)) fun a hf=>ov hf rfl (aA.min rfl rfl) fun a hf=>?_; refine oc hf rfl aGR (yj fW fH (if (l.length:Int)<least then (l.length:Int) else least) vP va zs ua (Det.bW (Det.aM zs fW fH least lv l)) _ hW hH hn (hS.aL (j:=0) rfl) (hS.slr (j:=3) rfl) (hS.iI (j:=4) rfl) (Det.yE hok.2.2 hset (by split <;> omega)) (Det.qI hok.2.2 hset) (Det.uZ hok.2.2 hset)) ?_; clear hf a; rintro vo w10 hS1 a hf; replace hS:=hS.cl hS1; refine mv hf rfl fun a hf=>ov hf rfl (aA.extract rfl rfl) fun a hf=>ov hf rfl (aA.extract rfl rfl) fun a hf=>mv hf rfl fun a hf=>mv hf rfl fun a hf=>?_; refine O.nil ?_; obtain ⟨of,hof⟩:∃ z,z=(Det.own (fW*fH) (Det.bW (Det.aM zs fW fH least lv l)) (Det.bW (Det.aM zs fW fH least lv l)).length):=⟨_,rfl⟩; rw [← hof] at hS; have hlo:of.length=fW*fH:=by rw [hof]; exact Det.eP _
  have how:=fun i hi=>Det.aAp (P:=zs) (lv:=lv) hok.2.2 hset (i:=i) hi; rw [← hof] at how; refine aF<|W.seq<|W.seq<|?_
  refine R2 rfl<|mv hf rfl<|fun a hf=>ov (v:=.bool false) hf rfl (aA.not (b:=true) rfl) fun a hf=>?_; refine nk<|W.fP hf rfl<|W.skip<|aF<|W.seq<|?_
  refine R1 rfl<|mv hf rfl<|fun a hf=>?_; refine nk<|W.seq<|W.seq<|?_
  refine R1 rfl<|mv hf rfl<|fun a hf=>?_; refine nk<|W.block<|?_
  refine W.loop (G:=(Nat) × (Nat)) (fun g a w=>match g with | (i,nn)=>Fr a 148 [] [(1,vL),(9,.bool true),(10,va),(14,vo),(16,iV nn),(17,iV i)]∧St w0 w noX [rI vP zs,rI vL l,rI vv lv] [sl 3 1 vo of.length (ints of),pt b_s7 (.cells #[vL] 26 (0,0)),sl 26 1 vb ub.length ub,inn ub [l],sl 26 1 va ua.length ua,inn ua (Det.bW (Det.aM zs fW fH least lv l)),pt b_f1 (.cells #[iV fW,iV fH,vP] 24 (0,0))]∧(i≤of.length)∧(nn=Det.nK l i)) (fun g=>match g with | (i,nn)=>of.length-i) (0,0) ?_ ?_
  · refine ⟨hf.to ⟨rfl,rfl,rfl,rfl,(by first | rfl | exact vI (by omega)),(by first | rfl | exact vI (by omega)),trivial⟩,hS,?_,?_⟩
    · omega
    · exact (Det.aG5 fun t ht=>(hrg t ht).1).symm
  clear hf hS a; rintro ⟨i,nn⟩ a w ⟨hf,hS,h1,h2⟩; refine W.seq<|W.seq<|?_
  refine R4 rfl<|mv hf rfl<|fun a hf=>mv hf rfl fun a hf=>ov hf rfl (aA.bL (e:=3) (by simpa using aB) rfl (hS.slr (j:=0) rfl)) fun a hf=>ov (v:=.bool (decide ((i:Int)<((of.length:Int):Int)))) hf rfl (aA.lss rfl rfl) fun a hf=>?_; refine nk ?_; refine W.bF hf rfl (fun hi1=>?_) (fun hi1=>?_)
  · refine W.skip ?_
    refine aF<|W.seq<|W.block<|W.seq<|W.seq<|?_
    refine R5 rfl ?_; have hcl:=Det.aGC (l:=l) (i:=i); refine mv hf rfl fun a hf=>mv hf rfl fun a hf=>ov hf rfl (aA.ixV (j:=i) (m:=i) aB aC rfl rfl (hS.slr (j:=0) rfl) rfl (by omega) (Nat.mul_one _)) fun a hf=>ov hf rfl (aA.ld1 aI rfl (hS.slr (j:=0) rfl) (aH (by omega))) fun a hf=>ov (v:=.bool (decide ((of.getD i 0)≥(0:Int)))) hf rfl (aA.geq rfl rfl) fun a hf=>?_; refine nk ?_; refine W.bF hf rfl (fun hge=>?_) (fun hge=>?_)
    ·
      refine R3 rfl<|mv hf rfl<|fun a hf=>ov hf rfl (aA.aj rfl rfl (by omega)) fun a hf=>mv hf rfl fun a hf=>?_; refine nk ?_; replace hf:Fr a 148 [] [(1,_),(9,_),(10,_),(14,_),(16,_),(17,_)]:=hf.q rfl; refine W.seq ?_; have hoi:=how i (by omega)
      refine W.dP (fun w=>St w0 w noX [rI vP zs,rI vL l,rI vv lv] [sl 3 1 vo of.length (ints of),pt b_s7 (.cells #[vL] 26 (0,0)),sl 26 1 vb ub.length ub,inn ub [l],sl 26 1 va ua.length ua,inn ua (Det.bW (Det.aM zs fW fH least lv l)),pt b_f1 (.cells #[iV fW,iV fH,vP] 24 (0,0))]) aS rfl (by kernel_rfl) rfl hS.drew ?_; clear hS; refine q0 hf rfl rfl fun a hf=>q0 hf rfl rfl fun a hf=>OQ.val (v:=ix vo i) hf rfl (fun w hS=>aA.ixV (j:=i) (m:=i) aB aC rfl rfl (hS.slr (j:=0) rfl) rfl (by omega) (Nat.mul_one _)) fun a hf=>OQ.val (v:=iV (of.getD i 0)) hf rfl (fun w hS=>aA.ld1 aI rfl (hS.slr (j:=0) rfl) (aH (by omega))) fun a hf=>OQ.val (v:=.bool (decide ((of.getD i 0)≥(0:Int)))) hf rfl (fun w hS=>aA.geq rfl rfl) fun a hf=>q0 hf rfl rfl fun a hf=>q0 hf rfl rfl fun a hf=>OQ.gX (v:=.bool (decide ((i:Int) ∈ l))) hf rfl (fun w hS=>dJ.call (av:=#[vL,iV i]) aA5 rfl rfl rfl) (fun w hS=>aIx vL l (i:Int) _ (hS.aL (j:=1) rfl)) fun a hf=>OQ.val (v:=.bool false) hf rfl (fun w hS=>aA.toB (aA.aAb (b1:=decide (of.getD i 0≥(0:Int))) (b2:=decide ((i:Int) ∈ l)) Tryz.underlying4 rfl rfl) (Det.aBE hoi)) fun a hf=>?_; refine OQ.nil ?_; intro w hS; refine aF<|W.fP hf rfl<|W.skip<|aG<|aF<|?_
      refine R3 rfl<|mv hf rfl<|fun a hf=>ov hf rfl (aA.aj rfl rfl (by omega)) fun a hf=>mv hf rfl fun a hf=>?_; refine O.nil ?_; refine aO ⟨(i+1,(nn+1)),⟨hf.to ⟨rfl,rfl,rfl,rfl,(by first | rfl | exact vI (by omega)),(by first | rfl | exact vI (by omega)),trivial⟩,?_,?_,?_⟩,?_⟩
      · exact hS.eqM rfl
      · omega
      · rw [h2]; exact (Det.aB0 hasc ((how i (by omega)).1 hge)).symm
      · dsimp only; omega
    · refine W.skip ?_
      refine aF<|W.seq<|?_; have hoi:=how i (by omega)
      refine W.dP (fun w=>St w0 w noX [rI vP zs,rI vL l,rI vv lv] [sl 3 1 vo of.length (ints of),pt b_s7 (.cells #[vL] 26 (0,0)),sl 26 1 vb ub.length ub,inn ub [l],sl 26 1 va ua.length ua,inn ua (Det.bW (Det.aM zs fW fH least lv l)),pt b_f1 (.cells #[iV fW,iV fH,vP] 24 (0,0))]) aS rfl (by kernel_rfl) rfl hS.drew ?_; clear hS; refine q0 hf rfl rfl fun a hf=>q0 hf rfl rfl fun a hf=>OQ.val (v:=ix vo i) hf rfl (fun w hS=>aA.ixV (j:=i) (m:=i) aB aC rfl rfl (hS.slr (j:=0) rfl) rfl (by omega) (Nat.mul_one _)) fun a hf=>OQ.val (v:=iV (of.getD i 0)) hf rfl (fun w hS=>aA.ld1 aI rfl (hS.slr (j:=0) rfl) (aH (by omega))) fun a hf=>OQ.val (v:=.bool (decide ((of.getD i 0)≥(0:Int)))) hf rfl (fun w hS=>aA.geq rfl rfl) fun a hf=>q0 hf rfl rfl fun a hf=>q0 hf rfl rfl fun a hf=>OQ.gX (v:=.bool (decide ((i:Int) ∈ l))) hf rfl (fun w hS=>dJ.call (av:=#[vL,iV i]) aA5 rfl rfl rfl) (fun w hS=>aIx vL l (i:Int) _ (hS.aL (j:=1) rfl)) fun a hf=>OQ.val (v:=.bool false) hf rfl (fun w hS=>aA.toB (aA.aAb (b1:=decide (of.getD i 0≥(0:Int))) (b2:=decide ((i:Int) ∈ l)) Tryz.underlying4 rfl rfl) (Det.aBE hoi)) fun a hf=>?_; refine OQ.nil ?_; intro w hS; refine aF<|W.fP hf rfl<|W.skip<|aG<|aF<|?_
      refine R3 rfl<|mv hf rfl<|fun a hf=>ov hf rfl (aA.aj rfl rfl (by omega)) fun a hf=>mv hf rfl fun a hf=>?_; refine O.nil ?_; refine aO ⟨(i+1,nn),⟨hf.to ⟨rfl,rfl,rfl,rfl,(by first | rfl | exact vI (by omega)),(by first | rfl | exact vI (by omega)),trivial⟩,?_,?_,?_⟩,?_⟩
      · exact hS.eqM rfl
      · omega
      · rw [h2]; exact (Det.yt (fun h=>hge ((how i (by omega)).2 h))).symm
      · dsimp only; omega
  · refine W.exit ?_
    refine aD<|aD<|bA<|aF<|W.seq<|W.seq<|?_
    refine R1 rfl<|mv hf rfl<|fun a hf=>?_; refine nk<|W.block<|?_
    refine W.loop (G:=(Nat)) (fun g a w=>match g with | s=>Fr a 148 [] [(1,vL),(9,.bool true),(10,va),(16,iV nn),(18,iV s)]∧St w0 w noX [rI vP zs,rI vL l,rI vv lv] [sl 3 1 vo of.length (ints of),pt b_s7 (.cells #[vL] 26 (0,0)),sl 26 1 vb ub.length ub,inn ub [l],sl 26 1 va ua.length ua,inn ua (Det.bW (Det.aM zs fW fH least lv l)),pt b_f1 (.cells #[iV fW,iV fH,vP] 24 (0,0))]∧(1≤s)) (fun g=>match g with | s=>ua.length-s) 1 ?_ ?_
    · refine ⟨hf.to ⟨rfl,rfl,rfl,rfl,(by first | rfl | exact vI (by omega)),trivial⟩,hS,?_⟩
      · omega
    clear hf hS a; rintro s a w ⟨hf,hS,h3⟩; refine W.seq<|W.seq<|?_
    refine R4 rfl<|mv hf rfl<|fun a hf=>mv hf rfl fun a hf=>ov hf rfl (aA.bL (e:=26) (by simpa using ah) rfl (hS.slr (j:=4) rfl)) fun a hf=>ov (v:=.bool (decide ((s:Int)<((ua.length:Int):Int)))) hf rfl (aA.lss rfl rfl) fun a hf=>?_; refine nk ?_; refine W.bF hf rfl (fun hs1=>?_) (fun hs1=>?_)
    · refine W.skip ?_
      refine aF<|W.seq<|W.block<|W.seq<|?_; have hsl:=List.pairwise_iff_getElem.1 hmem (s-1) s (by omega) (by omega) (by omega); have hn1:=Det.aAQ (fun x hx=>((Det.dF (P:=zs) hok.2.2 lv l hset).1 x (Det.gZ.1 hx)).1.ne) (q:=s) (show s<(Det.bW (Det.aM zs fW fH least lv l)).length by omega); have hn2:=Det.aAQ (fun x hx=>((Det.dF (P:=zs) hok.2.2 lv l hset).1 x (Det.gZ.1 hx)).1.ne) (q:=s-1) (show s-1<(Det.bW (Det.aM zs fW fH least lv l)).length by omega); have hl1:=(hS.iI (j:=5) rfl).get (i:=s) (by omega) |>.2.1; have hl2:=(hS.iI (j:=5) rfl).get (i:=s-1) (by omega) |>.2.1; unfold maxLen at hl1 hl2
      refine W.dP (fun w=>St w0 w noX [rI vP zs,rI vL l,rI vv lv] [sl 3 1 vo of.length (ints of),pt b_s7 (.cells #[vL] 26 (0,0)),sl 26 1 vb ub.length ub,inn ub [l],sl 26 1 va ua.length ua,inn ua (Det.bW (Det.aM zs fW fH least lv l)),pt b_f1 (.cells #[iV fW,iV fH,vP] 24 (0,0))]) aS rfl (by kernel_rfl) rfl hS.drew ?_; clear hS; refine q0 hf rfl rfl fun a hf=>q0 hf rfl rfl fun a hf=>OQ.val (v:=ix va s) hf rfl (fun w hS=>aA.ixV (j:=s) (m:=s) ah bB rfl rfl (hS.slr (j:=4) rfl) rfl (by omega) (Nat.mul_one _)) fun a hf=>OQ.val (v:=(ua.getD s undef)) hf rfl (fun w hS=>aA.ld1 bN rfl (hS.slr (j:=4) rfl) (fV (by omega))) fun a hf=>OQ.val (v:=ix (ua.getD s undef) 0) hf rfl (fun w hS=>aA.ixV (j:=0) (m:=0) aB aC rfl rfl (bO.get (hS.iI (j:=5) rfl) (i:=s) (by omega)) rfl (by omega) (Nat.mul_one _)) fun a hf=>OQ.val (v:=iV (((Det.bW (Det.aM zs fW fH least lv l)).getD s []).getD 0 0)) hf rfl (fun w hS=>aA.ld1 aI rfl (bO.get (hS.iI (j:=5) rfl) (i:=s) (by omega)) (aH (by omega))) fun a hf=>q0 hf rfl rfl fun a hf=>q0 hf rfl rfl fun a hf=>OQ.val (v:=iV ((s:Int)-1)) hf rfl (fun w hS=>aA.bg rfl rfl (by omega)) fun a hf=>OQ.val (v:=ix va (s-1)) hf rfl (fun w hS=>aA.ixV (j:=(s-1)) (m:=(s-1)) ah bB rfl rfl (hS.slr (j:=4) rfl) (by omega) (by omega) (Nat.mul_one _)) fun a hf=>OQ.val (v:=(ua.getD (s-1) undef)) hf rfl (fun w hS=>aA.ld1 bN rfl (hS.slr (j:=4) rfl) (fV (by omega))) fun a hf=>OQ.val (v:=ix (ua.getD (s-1) undef) 0) hf rfl (fun w hS=>aA.ixV (j:=0) (m:=0) aB aC rfl rfl (bO.get (hS.iI (j:=5) rfl) (i:=(s-1)) (by omega)) rfl (by omega) (Nat.mul_one _)) fun a hf=>OQ.val (v:=iV (((Det.bW (Det.aM zs fW fH least lv l)).getD (s-1) []).getD 0 0)) hf rfl (fun w hS=>aA.ld1 aI rfl (bO.get (hS.iI (j:=5) rfl) (i:=(s-1)) (by omega)) (aH (by omega))) fun a hf=>OQ.val (v:=.bool (decide ((((Det.bW (Det.aM zs fW fH least lv l)).getD s []).getD 0 0)≤(((Det.bW (Det.aM zs fW fH least lv l)).getD (s-1) []).getD 0 0:Int)))) hf rfl (fun w hS=>aA.leq rfl rfl) fun a hf=>?_; refine OQ.nil ?_; intro w hS; refine aF ?_; refine W.bF hf rfl (fun hle=>?_) (fun hle=>?_)
      · exfalso; have e1:Det.dz ((Det.bW (Det.aM zs fW fH least lv l))[s-1]'(by omega))=((Det.bW (Det.aM zs fW fH least lv l)).getD (s-1) []).getD 0 0:=by unfold Det.dz; congr 1; simp [List.getD_eq_getElem?_getD,List.getElem?_eq_getElem (show s-1<(Det.bW (Det.aM zs fW fH least lv l)).length by omega)]
        have e2:Det.dz ((Det.bW (Det.aM zs fW fH least lv l))[s]'(by omega))=((Det.bW (Det.aM zs fW fH least lv l)).getD s []).getD 0 0:=by unfold Det.dz; congr 1; simp [List.getD_eq_getElem?_getD,List.getElem?_eq_getElem (show s<(Det.bW (Det.aM zs fW fH least lv l)).length by omega)]
        rw [e1,e2] at hsl
        omega
      · refine W.skip ?_
        refine aG<|aF<|?_
        refine R3 rfl<|mv hf rfl<|fun a hf=>ov hf rfl (aA.aj rfl rfl (by omega)) fun a hf=>mv hf rfl fun a hf=>?_; refine O.nil ?_; refine aO ⟨(s+1),⟨hf.to ⟨rfl,rfl,rfl,rfl,(by first | rfl | exact vI (by omega)),trivial⟩,?_,?_⟩,?_⟩
        · exact hS.eqM rfl
        · omega
        · dsimp only; omega
    · refine W.exit ?_
      refine aD<|aD<|bA<|aF<|W.seq<|?_
      refine W.aY (l:=[0,1,2,3,4,5,6,7]) rfl<|mv hf rfl<|fun a hf=>?_; refine mv hf rfl fun a hf=>og (v:=iV nn) hf rfl rfl (aA.move rfl) fun a hf=>og (v:=vL) hf rfl rfl (aA.move rfl) fun a hf=>og (v:=iV (l.length:Int)) hf rfl rfl (aA.bL (e:=3) (by simpa using aB) rfl (hS.aL (j:=1) rfl)) fun a hf=>og (v:=.bool (decide ((nn:Int)=((l.length:Int):Int)))) hf rfl rfl (aA.eql rfl rfl) fun a hf=>ov (v:=.bool (decide ((nn:Int)=((l.length:Int):Int)))) hf rfl (aA.pick rfl rfl rfl rfl) fun a hf=>mv hf rfl fun a hf=>?_; refine nk<|W.ret<|bD hf rfl (aT.tmp rfl)<|?_; have hnn:nn=l.length:=by rw [h2,show i=fW*fH by omega]; exact Det.aDh fun t ht=>(hrg t ht).2
      refine ⟨(),?_,hS.sub (List.nil_sublist _) |>.noB⟩; rw [hnn,show decide ((l.length:Int)=(l.length:Int))=true from decide_eq_true rfl]
      first | done | rfl
theorem yH (fW fH least:Int) (vP vL vv:Value) (zs l lv:List Int) (w0:World) (hP:aR (hp w0) 1 vP zs.length (ints zs)) (hL:aR (hp w0) 1 vL l.length (ints l)) (hv:aR (hp w0) 1 vv lv.length (ints lv)) (hft:vfit vv) :
    Ret Tryz.prog 5 #[(fG fW fH vP),vL,vv,iV least] w0 (G:=Unit) (fun _=>.bool true) (fun _ w=>St w0 w noX [] []):=by
  haveI:Decidable (Det.bC fW fH zs):=Classical.propDecidable _
  by_cases h:Det.bC fW fH zs∧zs.length≤100∧l.length≤100∧lv.length≤20
  · obtain ⟨hfo,h1,h2,h3⟩:=h
    obtain ⟨W,H,rfl,rfl,hn⟩:=Det.aCl hfo; have hd:=Det.aAS hfo
    by_cases hc:Det.conn W H l
    · by_cases hr:Det.rising lv∧1≤least
      · exact aDN W H least vP vL vv zs l lv w0 hfo hd.1 hd.2 hn h1 h2 h3 hP hL hv hft ⟨hc,hr⟩
      · exact aFj W H least vP vL vv zs l lv w0 hfo hd.1 hd.2 hn h1 h2 h3 hP hL hv hft hc hr
    · exact aHq W H least vP vL vv zs l lv w0 hfo hd.1 hd.2 hn h1 h2 h3 hP hL hv hft hc
  · exact oG fW fH least vP vL vv zs l lv w0 hP hL hv hft h
end Go.Proofs.YtipfobacinmoiaaGreat

namespace Go.SL
open Go Go.ChangeShapes Go.WideShapes Go.ChangeAt Go.RowKit
inductive LK where
  | int (k:IntKind)
  | bool
  | str
def LK.ok:LK→Value→Prop
  | .int k,v=>∃ n,v=.int k n∧(Lit.int k n).wf=true
  | .bool,v=>∃ b,v=.bool b
  | .str,v=>∃ s:ByteArray,v=.string s∧s.size≤maxLen
def aCI:List LK→List Value→Prop
  | [],cs=>cs=[]
  | k::ks,cs=>∃ v t,cs=v::t∧k.ok v∧aCI ks t
theorem aCI.app:∀ {ks ks':List LK} {a b:List Value},aCI ks a→aCI ks' b→aCI (ks++ks') (a++b)
  | [],_,a,b,h1,h2=>by
    have h1:a=[]:=h1
    subst h1; exact h2
  | k::ks,_,a,b,⟨v,t,h1,h2,h3⟩,h4=>by
    subst h1
    exact ⟨v,t++b,rfl,h2,aCI.app h3 h4⟩
def aEm (P:Program) (f:TypeId→Option (List LK)):List Field→Nat→Option (List LK × Nat)
  | [],o=>some ([],o)
  | g::t,o=>if Nat.beq g.offset o=true then
      match f g.type with
      | some ks=>if Nat.beq ks.length (P.cellsOf g.type)=true then
          match aEm P f t (o+ks.length) with
          | some (r,o')=>some (ks++r,o')
          | none=>none
        else none
      | none=>none
    else none
def aGp (P:Program):Nat→TypeId→Option (List LK)
  | 0,_=>none
  | d+1,t=>match P.underlying t with
    | some (.int k)=>some [.int k]
    | some .bool=>some [.bool]
    | some .string=>some [.str]
    | some (.struct fs)=>match aEm P (aGp P d) fs.toList 0 with
      | some (ks,o)=>if Nat.beq o (P.cellsOf t)=true then some ks else none
      | none=>none
    | some (.array n e)=>match aGp P d e with
      | some ks=>if (Nat.beq ks.length (P.cellsOf e)&&Nat.beq (n*ks.length) (P.cellsOf t))=true then some (List.replicate n ks).flatten else none
      | none=>none
    | _=>none
section
variable {H:Type} {enc:TypeId × Value→H} {P:Program} {w:World} {base:Nat} {spare:Nat→Bool} {held:Bool}
end
theorem Below.trodAll {H:Type} {enc:TypeId × Value→H} {P:Program} (hl:laidOutB P=true) {W W':World} (hb:RowKit.Below W.heap.size W W'):∀ (ts:List TypeId) (vs:List Value) (ds:List (DataW H)) (p:List MemPlace),
    (ts.all fun t=>P.readableRec t&&Nat.blt t P.types.size)=true→DataW.TrodAll enc P W 0 (fun _=>true) true ts vs ds p→(∀ x ∈ p,x.block<W.heap.size)→DataW.TrodAll enc P W' 0 (fun b=>decide (b<W.heap.size)) true ts vs ds p
  | [],[],[],p,_,h,_=>h
  | [],[],_::_,p,_,h,_=>by simp [DataW.TrodAll] at h
  | [],_::_,_,p,_,h,_=>by simp [DataW.TrodAll] at h
  | _::_,[],_,p,_,h,_=>by simp [DataW.TrodAll] at h
  | _::_,_::_,[],p,_,h,_=>by simp [DataW.TrodAll] at h
  | t::ts,v::vs,d::ds,p,ha,h,hlt=>by
    simp only [List.all_cons,Bool.and_eq_true] at ha
    obtain ⟨p1,p2,h1,h2,rfl⟩:=h
    exact ⟨p1,p2,RowKit.Below.trod hl ha.1.1 (by simpa using ha.1.2) h1 hb (fun x hx=>hlt x (List.mem_append_left _ hx)),Below.trodAll hl hb ts vs ds p2 ha.2 h2 (fun x hx=>hlt x (List.mem_append_right _ hx)),rfl⟩
theorem gH {H:Type} {enc:TypeId × Value→H} {P:Program} {w:World} {base:Nat} {spare:Nat→Bool} {held:Bool} {t:TypeId} {ts:List TypeId} {args:List Value} {ds:List (DataW H)} {p:List MemPlace}
    (h:DataW.TrodAll enc P w base spare held (t::ts) args ds p):∃ v vs d ds' p1 p2,args=v::vs∧ds=d::ds'∧DataW.Trod enc P w base spare held t v d p1∧DataW.TrodAll enc P w base spare held ts vs ds' p2∧p=p1++p2:=by
  cases args with
  | nil=>simp [DataW.TrodAll] at h
  | cons v vs =>
    cases ds with
    | nil=>simp [DataW.TrodAll] at h
    | cons d ds' =>
      obtain ⟨p1,p2,h1,h2,rfl⟩:=h
      exact ⟨v,vs,d,ds',p1,p2,rfl,rfl,h1,h2,rfl⟩
theorem sK {H:Type} {enc:TypeId × Value→H} {P:Program} {w:World} {base:Nat} {spare:Nat→Bool} {held:Bool} {args:List Value} {ds:List (DataW H)} {p:List MemPlace}
    (h:DataW.TrodAll enc P w base spare held [] args ds p):args=[]∧ds=[]:=by
  cases args with
  | nil =>
    cases ds with
    | nil=>exact ⟨rfl,rfl⟩
    | cons=>simp [DataW.TrodAll] at h
  | cons=>simp [DataW.TrodAll] at h
end Go.SL

namespace Go.Proofs.YtipfobacinmoiaaGreat
open Go Go.SL Go.ChangeShapes Go.WideShapes Go.ChangeAt Go.RowKit
theorem mK {W:World} {a:Addr} {len cap:Nat} {xs:List Value} (hl:xs.length=len) (hm:len≤maxLen) (h:∀ i u,xs[i]? = some u→W.cell? (a.add i)=some u):aR (hp W) 1 (.slice (some a) len cap) len xs:=by
  refine ⟨by omega,hm,some a,cap,rfl,fun hn=>?_⟩
  have h0:=h 0 (xs[0]'(by omega)) (by simp [hl,hn])
  unfold World.cell? at h0
  cases hb:W.heap[a.block]? with
  | none=>simp [Addr.add,hb] at h0
  | some o =>
    cases o with
    | cells cur e z =>
      have hs:a.spot=none:=by
        cases hs:a.spot with
        | none=>rfl
        | some s=>simp [Addr.add,hb,hs] at h0
      refine ⟨a,cur,e,z,rfl,hs,hb,fun j u hj=>?_⟩
      have:=h j u hj
      have ea:a.add j=⟨a.block,a.off+j,none⟩:=by
        obtain ⟨b,o,sp⟩:=a
        simp only at hs
        subst hs
        simp [Addr.add]
      rw [ea] at this
      unfold World.cell? at this
      simpa [hb] using this
    | _=>simp [Addr.add,hb] at h0
theorem Tryz.own:ownKnob Tryz.prog.godebug=none:=by kernel_rfl
theorem Tryz.laidOut:laidOutB Tryz.prog=true:=by kernel_rfl
set_option maxRecDepth 100000 in
theorem detectDivides_lifted (os:Os) (started:os.Started) (H:Type) (enc:TypeId × Value→H) :
    ReturnsInHanded {} Tryz.checked os 5 .any (Rows.detectDividesSpec.pre6 enc Tryz.prog Tryz.f5 Rows.detectDividesRow.domain false) (Rows.detectDividesSpec.post enc Tryz.prog Tryz.f5 false true false false):=by
  refine returnsInHanded_of_change (C:=Tryz.checked) Tryz.own started (by kernel_rfl) Tryz.func5
    (ChangeSpec.witness6 (enc:=enc) (C:=Tryz.checked) false ⟨#[],#[.agg #[.int .i64 0,.int .i64 0,.slice none 0 0],.slice none 0 0,.slice none 0 0,.int .i64 0],[]⟩ 8 (by kernel_rfl) (by kernel_rfl) (by kernel_rfl) (by kernel_rfl)) ?_
  intro W base args ds gs before hval0 hW hcnd _
  have hval:∀ (j:Nat) t v,Tryz.f5.params[j]? = some t→args[j]? = some v→Value.okWide Tryz.prog W .any base t v:=hval0
  have hW':=hW
  obtain ⟨p,q,hA0,hV,rfl,hfz,hnd⟩:=hW
  have hA:DataW.TrodAll enc Tryz.prog W 0 (fun _=>true) true [24,26,22,3] args.toList ds p:=hA0
  obtain ⟨rfl,rfl⟩:=trodVars_none hV
  have hA':=hA
  obtain ⟨v0,a0,d0,ds0,p0,q0,e1,rfl,t0,hB0,rfl⟩:=gH hA
  obtain ⟨v1,a1,d1,ds1,p1,q1,rfl,rfl,t1,hB1,rfl⟩:=gH hB0
  obtain ⟨v2,a2,d2,ds2,p2,q2,rfl,rfl,t2,hB2,rfl⟩:=gH hB1
  obtain ⟨v3,a3,d3,ds3,p3,q3,rfl,rfl,t3,hB3,rfl⟩:=gH hB2
  obtain ⟨rfl,rfl⟩:=sK hB3
  obtain rfl:args=#[v0,v1,v2,v3]:=by
    apply Array.ext'
    simpa using e1
  obtain ⟨fw,fh,vP,y0,y1,y2,m,rfl,rfl,rfl,hy0,hy1,hy2⟩:=Joins.open_agg3 Tryz.underlying24 (by kernel_rfl) (by kernel_rfl) (hval 0 24 v0 rfl rfl) t0
  obtain ⟨a,e0,_,_⟩:=DataW.trod_int Tryz.underlying3 hy0
  obtain ⟨b,e1',_,_⟩:=DataW.trod_int Tryz.underlying3 hy1
  obtain rfl:fw=.int .i64 a:=by simpa using e0
  obtain rfl:fh=.int .i64 b:=by simpa using e1'
  have hP:∃ zs:List Int,aR (hp W) 1 vP zs.length (ints zs):=by
    rcases open_ints Tryz.underlying22 Tryz.underlying2 (by kernel_rfl) hy2 with ⟨hc,_⟩ | ⟨ad,len,cap,zs,hc,_,hl,hm,hz,_,hcell,_⟩
    · obtain rfl:vP=.slice none 0 0:=by simpa using hc
      exact ⟨[],⟨rfl,Nat.zero_le _,none,0,rfl,fun h=>absurd h (Nat.lt_irrefl _)⟩⟩
    · obtain rfl:vP=.slice (some ad) len cap:=by simpa using hc
      have hz':zs.length=cap:=by simpa using hz
      have ht:(zs.take len).length=len:=by rw [List.length_take]; omega
      refine ⟨zs.take len,?_⟩
      rw [ht]
      refine mK (by rw [Go.SL.aV]; exact ht) (by omega) fun i u hu=>?_
      obtain ⟨hi,rfl⟩:=Go.SL.ints_at hu
      rw [hcell i (by omega)]
      congr 2
      simp only [List.getD_eq_getElem?_getD,List.getElem?_take_of_lt (show i<len by omega)]
  obtain ⟨zs,hP⟩:=hP
  have hL1:∃ zs:List Int,aR (hp W) 1 v1 zs.length (ints zs)∧vfit v1:=by
    obtain ⟨a0,len0,cap0,rfl⟩:=okWide_slice Tryz.underlying26 (hval 1 26 v1 rfl rfl)
    obtain ⟨fuel,hf⟩:=t1
    rcases open_ints Tryz.underlying26 Tryz.underlying3 (by kernel_rfl) hf with ⟨hc,_⟩ | ⟨ad,len,cap,zs,hc,_,hl,hm,hz,_,hcell,_⟩
    · have hc:(Value.slice a0 len0 cap0)=.slice none 0 0:=by simpa [Value.cells] using hc
      rw [hc]
      exact ⟨[],⟨rfl,Nat.zero_le _,none,0,rfl,fun h=>absurd h (Nat.lt_irrefl _)⟩,Nat.le_refl _⟩
    · have hc:(Value.slice a0 len0 cap0)=.slice (some ad) len cap:=by simpa [Value.cells] using hc
      rw [hc]
      have hz':zs.length=cap:=by simpa using hz
      have ht:(zs.take len).length=len:=by rw [List.length_take]; omega
      refine ⟨zs.take len,?_,(by show len≤cap; omega)⟩
      rw [ht]
      refine mK (by rw [Go.SL.aV]; exact ht) (by omega) fun i u hu=>?_
      obtain ⟨hi,rfl⟩:=Go.SL.ints_at hu
      rw [hcell i (by omega)]
      congr 2
      simp only [List.getD_eq_getElem?_getD,List.getElem?_take_of_lt (show i<len by omega)]
  obtain ⟨l1,hL1⟩:=hL1
  have hL2:∃ zs:List Int,aR (hp W) 1 v2 zs.length (ints zs)∧vfit v2:=by
    obtain ⟨a0,len0,cap0,rfl⟩:=okWide_slice Tryz.underlying22 (hval 2 22 v2 rfl rfl)
    obtain ⟨fuel,hf⟩:=t2
    rcases open_ints Tryz.underlying22 Tryz.underlying2 (by kernel_rfl) hf with ⟨hc,_⟩ | ⟨ad,len,cap,zs,hc,_,hl,hm,hz,_,hcell,_⟩
    · have hc:(Value.slice a0 len0 cap0)=.slice none 0 0:=by simpa [Value.cells] using hc
      rw [hc]
      exact ⟨[],⟨rfl,Nat.zero_le _,none,0,rfl,fun h=>absurd h (Nat.lt_irrefl _)⟩,Nat.le_refl _⟩
    · have hc:(Value.slice a0 len0 cap0)=.slice (some ad) len cap:=by simpa [Value.cells] using hc
      rw [hc]
      have hz':zs.length=cap:=by simpa using hz
      have ht:(zs.take len).length=len:=by rw [List.length_take]; omega
      refine ⟨zs.take len,?_,(by show len≤cap; omega)⟩
      rw [ht]
      refine mK (by rw [Go.SL.aV]; exact ht) (by omega) fun i u hu=>?_
      obtain ⟨hi,rfl⟩:=Go.SL.ints_at hu
      rw [hcell i (by omega)]
      congr 2
      simp only [List.getD_eq_getElem?_getD,List.getElem?_take_of_lt (show i<len by omega)]
  obtain ⟨l2,hL2⟩:=hL2
  obtain ⟨x3,rfl,rfl,rfl,w3⟩:=open_int Tryz.underlying3 (hval 3 3 v3 rfl rfl) t3
  refine Calls.mono (yH a b x3 vP v1 v2 zs l1 l2 W hP hL1.1 hL2.1 hL2.2) fun e W' ⟨_,he,hS⟩=>?_
  subst he
  have hb:RowKit.Below W.heap.size W W':=⟨hS.os,hS.tape,hS.output,hS.size,fun k hk=>hS.old k hk (fun h=>h)⟩
  refine ⟨_,rfl,_,_,_,[],(y0.2++(y1.2++y2.2))++(p1++(p2++([]++q3))),[],hW',trodAll_mk1 (shut_bool Tryz.underlying4 true),?_,?_,hb.frame _,fun h=>by cases h⟩
  · have hl:=hW'.lt
    simp only [List.append_nil] at hl
    exact Below.trodAll Tryz.laidOut hb _ _ _ _ (by kernel_rfl) hA' (fun x hx=>hl x (by simpa using hx))
  · rfl
theorem detectDivides_holds:Rows.DetectDividesSaid :=
  OpenClaim.holds_of_wide 5 Tryz.f5 rfl rfl rfl rfl rfl rfl rfl ⟨rfl,rfl,rfl,rfl,rfl⟩ rfl rfl rfl rfl rfl (by kernel_rfl) Tryz.func5 (by kernel_rfl)
    (of_decide_eq_true (by kernel_rfl)) (by unfold Func.isWrapper; first | (rw [if_pos (by decide +kernel)]; kernel_rfl) | (rw [if_neg (by decide +kernel)]; exact ⟨rfl,rfl⟩))
    (fun os started H enc _=>detectDivides_lifted os started H enc)
#print axioms detectDivides_holds
end Go.Proofs.YtipfobacinmoiaaGreat
