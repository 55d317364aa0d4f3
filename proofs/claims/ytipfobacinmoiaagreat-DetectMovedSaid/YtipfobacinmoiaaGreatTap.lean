/- Part of a proof: laws and walks. -/
import Derived.Test.YtipfobacinmoiaaGreatTac
import Derived.Test.YtipfobacinmoiaaGreatTao
import Derived.Test.YtipfobacinmoiaaGreatTal
import Derived.Test.YtipfobacinmoiaaGreatTah
set_option linter.unusedVariables false
set_option linter.unusedSimpArgs false
set_option maxHeartbeats 1000000
set_option maxRecDepth 8000
namespace Go.Proofs.YtipfobacinmoiaaGreat
open Go Go.SL Go.Shelf Go.RowKit Go.Maps
theorem aCK:aX Tryz.prog 36=true:=by kernel_rfl
theorem aC7:aX Tryz.prog 37=true:=by kernel_rfl
theorem aCo:aX Tryz.prog 59=true:=by kernel_rfl
theorem kH:iH Tryz.prog 34=some false:=by kernel_rfl
theorem uR:iH Tryz.prog 57=some true:=by kernel_rfl
theorem xB:iq Tryz.prog 57=some 40:=by kernel_rfl
theorem aZ:eU Tryz.prog 34=some 57:=by kernel_rfl
theorem dD:jM Tryz.prog 57 1=some 1:=by kernel_rfl
theorem dJ:jM Tryz.prog 57 2=some 2:=by kernel_rfl
theorem kP:kY Tryz.prog 57=some #[(0,1),(1,1),(2,1)]:=by kernel_rfl
theorem aAD:cO Tryz.prog 34=some 1:=by kernel_rfl
theorem ax:cO Tryz.prog 57=some 3:=by kernel_rfl
theorem zM:dx Tryz.prog 34=some (.slice none 0 0):=by kernel_rfl
theorem gB:dx Tryz.prog 57=some (.agg #[.slice none 0 0,iV 0,iV 0]):=by kernel_rfl
set_option maxHeartbeats 1000000 in
set_option maxRecDepth 4000 in
theorem aEK (fW fH:Int) (vP vL:Value) (zs l:List Int) (w0:World) (hP:aQ (hp w0) 1 vP zs.length (ints zs)) (hL:aQ (hp w0) 1 vL l.length (ints l)) (hne:l≠[]) (hl:l.Pairwise (·<·)) (hr:Det.InR zs.length l) :
    Ret Tryz.prog 59 #[vL,(fB 60 fW fH vP)] w0 (G:=Unit) (fun _=>iV (Det.dP zs l)) (fun _ w=>St w0 w noX [] []):=by
  refine aR (lv:=[vL,(fB 60 fW fH vP)]) Tryz.func59 rfl rfl rfl (fun a hf=>?_); replace hf:Fr a 33 [] [(0,vL),(1,(fB 60 fW fH vP))]:=hf; have hS:St w0 w0 noX [rI vP zs,rI vL l] []:=((St.refl w0).bO hL).bO hP; have hlen:=hL.2.1; unfold maxLen at hlen; have hlp:=List.length_pos_iff.2 hne; refine W.seq ?_
  refine R1 rfl<|mv hf rfl<|fun a hf=>?_; refine nk<|W.seq<|W.seq<|?_
  refine R3 rfl<|mv hf rfl<|fun a hf=>ov hf rfl (aA.bP (e:=3) (by simpa using aB) rfl (hS.aL (j:=1) rfl)) fun a hf=>ov (v:=.bool (decide ((l.length:Int)<(1:Int)))) hf rfl (aA.lss rfl rfl) fun a hf=>?_; refine nk ?_; refine W.bJ hf rfl (fun hemp=>?_) (fun hemp=>?_)
  · exfalso; omega
  · refine W.skip ?_
    refine aF<|W.seq<|?_
    refine R4 rfl<|mv hf rfl<|fun a hf=>ov hf rfl (aA.ixV (j:=0) (m:=0) aB aD rfl rfl (hS.aL (j:=1) rfl) rfl (by omega) (Nat.mul_one _)) fun a hf=>ov hf rfl (aA.ld1 aH rfl (hS.aL (j:=1) rfl) (aI (by omega))) fun a hf=>mv hf rfl fun a hf=>?_; refine nk<|W.seq<|W.seq<|?_
    refine R1 rfl<|mv hf rfl<|fun a hf=>?_; refine nk<|W.block<|?_
    refine W.loop (G:=(Nat) × (Int)) (fun g a w=>match g with | (k,m)=>Fr a 33 [] [(0,vL),(1,(fB 60 fW fH vP)),(4,iV 0),(5,iV m),(6,iV k)]∧St w0 w noX [rI vP zs,rI vL l] []∧(1≤k)∧(k≤l.length)∧(0≤m)∧(Det.iM zs l (fun _=>true) k m)) (fun g=>match g with | (k,m)=>l.length-k) (1,l.getD 0 0) ?_ ?_
    · refine ⟨hf.to ⟨rfl,rfl,rfl,(by first | rfl | exact vI (by omega)),(by first | rfl | exact vI (by omega)),trivial⟩,hS,?_,?_,?_,?_⟩
      · omega
      · omega
      · exact (hr _ (Det.bL (l:=l) (j:=0) hlp)).1
      · exact Det.jc (k:=0) hlp Det.aBH rfl (hr _ (Det.bL (l:=l) (j:=0) hlp)).1 (.inl (by decide))
    clear hf hS a; rintro ⟨k,m⟩ a w ⟨hf,hS,h0,h1,hm,hsc⟩; refine W.seq<|W.seq<|?_
    refine R4 rfl<|mv hf rfl<|fun a hf=>mv hf rfl fun a hf=>ov hf rfl (aA.bP (e:=3) (by simpa using aB) rfl (hS.aL (j:=1) rfl)) fun a hf=>ov (v:=.bool (decide ((k:Int)<((l.length:Int):Int)))) hf rfl (aA.lss rfl rfl) fun a hf=>?_; refine nk ?_; refine W.bJ hf rfl (fun hc2=>?_) (fun hc2=>?_)
    · refine W.skip ?_
      refine aF<|W.seq<|W.block<|W.seq<|?_
      refine W.aY (l:=[0,1,2,3,4,5,6,7]) rfl ?_; have hkr:=hr _ (Det.bL (l:=l) (j:=k) (by omega)); have hbr:=(Det.aBi hsc hr); refine mv hf rfl fun a hf=>mv hf rfl fun a hf=>mv hf rfl fun a hf=>ov hf rfl (aA.ixV (j:=k) (m:=k) aB aD rfl rfl (hS.aL (j:=1) rfl) rfl (by omega) (Nat.mul_one _)) fun a hf=>ov hf rfl (aA.ld1 aH rfl (hS.aL (j:=1) rfl) (aI (by omega))) fun a hf=>mv hf rfl fun a hf=>?_; refine oc hf rfl dX (au fW fH (l.getD k 0) m vP zs _ hkr (by omega) (hS.aL (j:=0) rfl)) ?_; clear hf a; rintro _ w3 hS1 a hf; replace hS:=hS.cl hS1; refine ov (v:=.bool (decide ((Det.cfP zs (l.getD k 0) m)<(0:Int)))) hf rfl (aA.lss rfl rfl) fun a hf=>?_; refine nk ?_; refine W.bJ hf rfl (fun hlt=>?_) (fun hlt=>?_)
      ·
        refine R5 rfl<|mv hf rfl<|fun a hf=>mv hf rfl fun a hf=>ov hf rfl (aA.ixV (j:=k) (m:=k) aB aD rfl rfl (hS.aL (j:=1) rfl) rfl (by omega) (Nat.mul_one _)) fun a hf=>ov hf rfl (aA.ld1 aH rfl (hS.aL (j:=1) rfl) (aI (by omega))) fun a hf=>mv hf rfl fun a hf=>?_; refine O.nil<|aG<|aF<|?_
        refine R3 rfl<|mv hf rfl<|fun a hf=>ov hf rfl (aA.ak rfl rfl (by omega)) fun a hf=>mv hf rfl fun a hf=>?_; refine O.nil ?_; refine aS ⟨(k+1,l.getD k 0),⟨hf.to ⟨rfl,rfl,rfl,(by first | rfl | exact vI (by omega)),(by first | rfl | exact vI (by omega)),trivial⟩,?_,?_,?_,?_,?_⟩,?_⟩
        · exact hS.eqM rfl
        · omega
        · omega
        · omega
        · first
            | exact Det.jc (by omega) hsc rfl hkr.1 (.inr (Det.jb.1 hlt))
            | exact Det.mr hl (by omega) hsc fun h=>h.2.elim (fun h=>by omega) fun h=>hlt (Det.jb.2 h)
        · dsimp only; omega
      · refine W.skip ?_
        refine aG<|aF<|?_
        refine R3 rfl<|mv hf rfl<|fun a hf=>ov hf rfl (aA.ak rfl rfl (by omega)) fun a hf=>mv hf rfl fun a hf=>?_; refine O.nil ?_; refine aS ⟨(k+1,m),⟨hf.to ⟨rfl,rfl,rfl,(by first | rfl | exact vI (by omega)),(by first | rfl | exact vI (by omega)),trivial⟩,?_,?_,?_,?_,?_⟩,?_⟩
        · exact hS.eqM rfl
        · omega
        · omega
        · omega
        · first
            | exact Det.jc (by omega) hsc rfl hkr.1 (.inr (Det.jb.1 hlt))
            | exact Det.mr hl (by omega) hsc fun h=>h.2.elim (fun h=>by omega) fun h=>hlt (Det.jb.2 h)
        · dsimp only; omega
    · refine W.exit ?_
      refine aC<|aC<|bD<|aF<|W.seq<|?_
      refine R2 rfl<|mv hf rfl<|fun a hf=>mv hf rfl fun a hf=>?_; refine nk<|W.ret<|bH hf rfl (aO.tmp rfl)<|?_; obtain rfl:k=l.length:=by omega
      refine ⟨(),by rw [show m=Det.dP zs l from Det.sG hsc],hS.sub (List.nil_sublist _) |>.noB⟩
set_option maxHeartbeats 1000000 in
set_option maxRecDepth 4000 in
theorem aEC (fW fH:Int) (vP vL:Value) (zs l:List Int) (w0:World) (hP:aQ (hp w0) 1 vP zs.length (ints zs)) (hL:aQ (hp w0) 1 vL l.length (ints l)) (hne:l≠[]) (hl:l.Pairwise (·<·)) (hr:Det.InR zs.length l) (hbd:∀ j,j<zs.length→-4294967296≤zs.getD j 0∧zs.getD j 0≤4294967296) (hll:l.length≤10000) :
    Ret Tryz.prog 36 #[(fG fW fH vP),vL] w0 (G:=Unit) (fun _=>.agg #[vL,iV (Det.dP zs l),iV (Det.fP zs l)]) (fun _ w=>St w0 w noX [] []):=by
  refine aR (lv:=[(fG fW fH vP),vL]) Tryz.func36 rfl rfl rfl (fun a hf=>?_); replace hf:Fr a 32 [] [(0,(fG fW fH vP)),(1,vL)]:=hf; have hS:St w0 w0 noX [rI vP zs,rI vL l] []:=((St.refl w0).bO hL).bO hP; have hlen:=hP.2.1; unfold maxLen at hlen; refine W.seq ?_
  refine R2 rfl<|O.box (cs:=#[iV fW,iV fH,vP]) hf hS rfl rfl rfl rfl<|?_; intro b_m1 w a hbb_m1 hS hf; refine O.alloc (cs:=#[.slice none 0 0,iV 0,iV 0]) hf hS rfl rfl gB rfl ?_; intro b_x2 w a hbb_x2 hS hf; refine nk<|W.seq<|?_
  refine W.aY (l:=[0,1,2,3,4,5,6,7]) rfl<|mv hf rfl<|fun a hf=>?_; refine mv hf rfl fun a hf=>ov hf rfl (aA.bf (cs':=#[iV fW,iV fH,vP]) dh dF rfl (hS.p 1 rfl) (bl rfl) rfl) fun a hf=>ov (v:=(fB 60 fW fH vP)) hf rfl (aA.makeFunc rfl rfl rfl rfl) fun a hf=>?_; refine oc hf rfl aCo (aEK fW fH vP vL zs l _ (hS.aL (j:=0) rfl) (hS.aL (j:=1) rfl) hne hl hr) ?_; clear hf a; rintro _ w3 hS1 a hf; replace hS:=hS.cl hS1; have hcl4:=aQ.cells (hS.aL (j:=1) rfl); refine ov hf rfl (aA.kM (cs':=#[vL,iV (Det.dP zs l),iV 0]) kP gB rfl (by simp only [Instr.fill,hcl4.1]; rfl)) fun a hf=>?_; refine O.alloc (cs:=#[.slice none 0 0,iV 0,iV 0]) hf hS rfl rfl gB rfl ?_; intro b_b5 w a hbb_b5 hS hf; have hcl6:=aQ.cells (hS.aL (j:=1) rfl); refine ost 0 #[vL,iV (Det.dP zs l),iV 0] hf hS rfl rfl rfl ax rfl (bM hcl6.2 (bM rfl (bM rfl rfl))) rfl (bl rfl) rfl ?_; intro w hS; refine nk<|W.seq<|W.seq<|?_
  refine R3 rfl<|mv hf rfl<|fun a hf=>ov hf rfl (aA.bP (e:=3) (by simpa using aB) rfl (hS.aL (j:=1) rfl)) fun a hf=>mv hf rfl fun a hf=>?_; refine nk ?_; replace hf:Fr a 32 [] [(2,_),(4,_),(5,_),(14,_),(15,_),(16,_)]:=hf.q rfl; refine W.block ?_
  refine W.loop (G:=(Nat) × (Int)) (fun g a w=>match g with | (k,sm)=>Fr a 32 [] [(2,(pp b_m1)),(4,(pp b_x2)),(5,(pp b_b5)),(14,vL),(15,iV (l.length:Int)),(16,iV k)]∧St w0 w noX [rI vP zs,rI vL l] [pt b_b5 (.cells #[vL,iV (Det.dP zs l),iV sm] 57 (0,0)),pt b_x2 (.cells #[.slice none 0 0,iV 0,iV 0] 57 (0,0)),pt b_m1 (.cells #[iV fW,iV fH,vP] 61 (0,0))]∧(k≤l.length)∧(sm=Det.fP zs (l.take k))) (fun g=>match g with | (k,sm)=>l.length-k) (0,0) ?_ ?_
  · refine ⟨hf.to ⟨rfl,rfl,rfl,rfl,rfl,(by first | rfl | exact vI (by omega)),trivial⟩,hS,?_,?_⟩
    · omega
    · simp [Det.fP]
  clear hf hS a; rintro ⟨k,sm⟩ a w ⟨hf,hS,h1,h2⟩; refine W.seq ?_
  refine R1 rfl<|ov (v:=.bool (decide ((k:Int)<((l.length:Int):Int)))) hf rfl (aA.lss rfl rfl)<|fun a hf=>?_; refine nk<|W.seq<|?_; refine W.bJ hf rfl (fun hc7=>?_) (fun hc7=>?_)
  · refine W.skip ?_
    refine aF<|W.seq<|W.block<|W.seq<|?_
    refine R3 rfl<|ov hf rfl (aA.ixV (j:=k) (m:=k) aB aD rfl rfl (hS.aL (j:=1) rfl) rfl (by omega) (Nat.mul_one _))<|fun a hf=>ov hf rfl (aA.ld1 aH rfl (hS.aL (j:=1) rfl) (aI (by omega))) fun a hf=>mv hf rfl fun a hf=>?_; refine nk ?_; have hkr:=hr _ (Det.bL (l:=l) (j:=k) (by omega)); have hzb:=hbd (Int.toNat (l.getD k 0)) (by omega); have hsb:=Det.wz (P:=zs) (l:=l) (n:=0) (k:=k) hbd hr hll
    have hf1:Fr a 32 [] []:=hf.to trivial; replace hf:Fr a 32 [] [(2,_),(4,_),(5,_),(7,_),(14,_),(15,_),(16,_)]:=hf.q rfl
    let LZ310:List (Nat × Value):=[(2,(pp b_m1)),(4,(pp b_x2)),(5,(pp b_b5)),(7,iV (l.getD k 0)),(14,vL),(15,iV (l.length:Int)),(16,iV k)]
    let MZ310:List Asr:=[pt b_b5 (.cells #[vL,iV (Det.dP zs l),iV sm] 57 (0,0)),pt b_x2 (.cells #[.slice none 0 0,iV 0,iV 0] 57 (0,0)),pt b_m1 (.cells #[iV fW,iV fH,vP] 61 (0,0))]
    let BZ310:List Asr:=[rI vP zs,rI vL l]
    refine W.dn (γ:=Unit) (L0:=LZ310) (L1:=[]) () [10] [] [0,1,2,3,4,5,6,7,8,9] (fun i_=>match i_ with | 1=>[0] | 3=>[2] | 4=>[3] | 6=>[4,5] | 7=>[6] | 8=>[1,7] | 10=>[8,9] | _=>[]) (fun _=>[]) (fun _=>[]) (fun _=>[]) (fun _=>0) (fun i_=>match i_ with | 10=>1 | _=>0) (fun (g:Unit) j_=>match g,j_ with | _,0=>.pointer (some ⟨b_b5,2,none⟩) | _,1=>iV sm | _,2=>(pp b_m1) | _,3=>.pointer (some ⟨b_m1,2,none⟩) | _,4=>vP | _,5=>iV (l.getD k 0) | _,6=>ix vP (Int.toNat (l.getD k 0)) | _,7=>iV (zs.getD (Int.toNat (l.getD k 0)) 0) | _,8=>iV (sm+(zs.getD (Int.toNat (l.getD k 0)) 0)) | _,9=>.pointer (some ⟨b_b5,2,none⟩) | _,_=>undef) (fun k_ (_:Nat→Bool) (g:Unit) w=>match k_,g with | 0,_=>St w0 w noX BZ310 MZ310 | _,_=>St w0 w noX BZ310 [pt b_b5 (.cells #[vL,iV (Det.dP zs l),iV (sm+(zs.getD (Int.toNat (l.getD k 0)) 0))] 57 (0,0)),pt b_x2 (.cells #[.slice none 0 0,iV 0,iV 0] 57 (0,0)),pt b_m1 (.cells #[iV fW,iV fH,vP] 61 (0,0))]) aV (by kernel_rfl) (by kernel_rfl) (by kernel_rfl) hf hf1 hS.drew ?_ ?_ trivial ?_
    · clear hf hf1 hS
      refine ⟨?_,?_,?_,?_,?_,?_,?_,?_,?_,?_,trivial⟩
      · exact fun _ _ _ _ _ _ _ hD _ hf=>qv hf rfl (aA.field dJ rfl rfl) hD
      · exact s1 (fun _ _ _ _ hD _ hf=>qv hf rfl (aA.aT bT rfl (hD.p 0 rfl) rfl) hD) rfl
      · exact fun _ _ _ _ _ _ _ hD _ hf=>qv hf rfl (aA.field dI rfl rfl) hD
      · exact fun _ _ _ _ _ _ _ hD _ hf=>qv hf rfl (aA.field aP rfl rfl) hD
      · exact s1 (fun _ _ _ _ hD _ hf=>qv hf rfl (aA.aT bB rfl (hD.p 2 rfl) rfl) hD) rfl
      · exact qq fun _=>rfl
      · exact s1 (fun _ _ _ _ hD _ hf=>qv hf rfl (aA.ixV (j:=(Int.toNat (l.getD k 0))) (m:=(Int.toNat (l.getD k 0))) aN bE rfl rfl (hD.aL (j:=0) rfl) (by rw [Int.toNat_of_nonneg (by omega)]) (by omega) (Nat.mul_one _)) hD) rfl
      · exact s1 (fun _ _ _ _ hD _ hf=>qv hf rfl (aA.ld1 bT rfl (hD.aL (j:=0) rfl) (aI (by omega))) hD) rfl
      · exact fun _ _ _ _ _ _ _ hD _ hf=>qv hf rfl (aA.ak rfl rfl (by omega)) hD
      · exact fun _ _ _ _ _ _ _ hD _ hf=>qv hf rfl (aA.field dJ rfl rfl) hD
    · clear hf hf1 hS
      refine ⟨?_,trivial⟩
      · intro s_ g w _ hD a hf
        have hS:=hD; clear hD; refine ost 0 #[vL,iV (Det.dP zs l),iV (sm+(zs.getD (Int.toNat (l.getD k 0)) 0))] hf hS rfl rfl rfl bE rfl rfl rfl (bl rfl) rfl ?_; intro w hS; exact nU hf rfl (fun _=>rfl) hS
    clear hf hf1 hS; intro s_ g a w _ hf hD; have hS:=hD; clear hD; replace hf:Fr a 32 [] ((20,.pointer (some ⟨b_b5,2,none⟩))::(21,iV sm)::(22,(pp b_m1))::(23,.pointer (some ⟨b_m1,2,none⟩))::(24,vP)::(25,iV (l.getD k 0))::(26,ix vP (Int.toNat (l.getD k 0)))::(27,iV (zs.getD (Int.toNat (l.getD k 0)) 0))::(28,iV (sm+(zs.getD (Int.toNat (l.getD k 0)) 0)))::(29,.pointer (some ⟨b_b5,2,none⟩))::LZ310):=hf; refine aG<|aF<|?_
    refine R2 rfl<|ov hf rfl (aA.ak rfl rfl (by omega))<|fun a hf=>mv hf rfl fun a hf=>?_; refine O.nil ?_; refine aS ⟨(k+1,sm+(zs.getD (Int.toNat (l.getD k 0)) 0)),⟨hf.to ⟨rfl,rfl,rfl,rfl,rfl,(by first | rfl | exact vI (by omega)),trivial⟩,?_,?_,?_⟩,?_⟩
    · exact hS.eqM rfl
    · omega
    · rw [Det.vT (by omega),← h2]
    · dsimp only; omega
  · refine W.exit ?_
    refine aC<|aC<|bD<|aF<|W.seq<|?_
    refine R2 rfl<|ov hf rfl (aA.bf (cs':=#[vL,iV (Det.dP zs l),iV sm]) uR ax rfl (hS.p 0 rfl) (bl rfl) rfl)<|fun a hf=>?_; have hcl8:=aQ.cells (hS.aL (j:=1) rfl); refine ost 1 #[vL,iV (Det.dP zs l),iV sm] hf hS rfl rfl rfl ax rfl (bM hcl8.2 (bM rfl (bM rfl rfl))) rfl (bl rfl) rfl ?_; intro w hS; refine nk<|W.ret<|bH hf rfl (aO.aAq (cs':=#[vL,iV (Det.dP zs l),iV sm]) rfl uR ax (hS.p 1 rfl) (bl rfl) rfl)<|?_; obtain rfl:k=l.length:=by omega
    rw [List.take_length] at h2; exact ⟨(),by rw [h2],hS.sub (List.nil_sublist _) |>.noB⟩
set_option maxHeartbeats 1000000 in
set_option maxRecDepth 4000 in
theorem aEW (x y:BV) (w0:World) (hx:x.1.oneCell'=true) (hy:y.1.oneCell'=true) :
    Ret Tryz.prog 38 #[.agg #[x.1,iV x.2.peak,iV x.2.sum],.agg #[y.1,iV y.2.peak,iV y.2.sum]] w0 (G:=Unit) (fun _=>iV (Det.orM [Det.eY y.2.sum x.2.sum,Det.eY x.2.peak y.2.peak])) (fun _ w=>St w0 w noX [] []):=by
  refine aR (lv:=[.agg #[x.1,iV x.2.peak,iV x.2.sum],.agg #[y.1,iV y.2.peak,iV y.2.sum]]) Tryz.func38 rfl rfl rfl (fun a hf=>?_); replace hf:Fr a 17 [] [(0,.agg #[x.1,iV x.2.peak,iV x.2.sum]),(1,.agg #[y.1,iV y.2.peak,iV y.2.sum])]:=hf; have hS:St w0 w0 noX [] []:=St.refl w0; refine W.seq ?_
  refine R3 rfl<|O.box (cs:=#[x.1,iV x.2.peak,iV x.2.sum]) hf hS rfl rfl rfl rfl<|?_; intro b_a1 w a hbb_a1 hS hf; refine O.box (cs:=#[y.1,iV y.2.peak,iV y.2.sum]) hf hS rfl rfl rfl rfl ?_; intro b_b2 w a hbb_b2 hS hf; refine mv hf rfl fun a hf=>?_; refine nk ?_; replace hf:Fr a 17 [] [(2,_),(3,_),(4,_)]:=hf.q rfl; refine W.seq ?_
  refine W.xw (l₂:=[10,11,12]) (fun w=>St w0 w noX [] [pt b_b2 (.cells #[y.1,iV y.2.peak,iV y.2.sum] 57 (0,0)),pt b_a1 (.cells #[x.1,iV x.2.peak,iV x.2.sum] 57 (0,0))]) 10 aV rfl rfl rfl (by kernel_rfl) hS.drew ?_; clear hS; refine OQ.val (v:=.pointer (some ⟨b_b2,2,none⟩)) hf rfl (fun w hS=>aA.field dJ rfl rfl) fun a hf=>OQ.val (v:=iV y.2.sum) hf rfl (fun w hS=>aA.aT bT rfl (hS.p 0 rfl) rfl) fun a hf=>OQ.val (v:=.pointer (some ⟨b_a1,2,none⟩)) hf rfl (fun w hS=>aA.field dJ rfl rfl) fun a hf=>OQ.val (v:=iV x.2.sum) hf rfl (fun w hS=>aA.aT bT rfl (hS.p 1 rfl) rfl) fun a hf=>OQ.gT (v:=iV (Det.eY y.2.sum x.2.sum)) hf rfl (fun w hS=>dS.call (av:=#[iV y.2.sum,iV x.2.sum]) yC rfl rfl rfl) (fun w hS=>aDR y.2.sum x.2.sum _) fun a hf=>OQ.val (v:=.pointer (some ⟨b_a1,1,none⟩)) hf rfl (fun w hS=>aA.field dD rfl rfl) fun a hf=>OQ.val (v:=iV x.2.peak) hf rfl (fun w hS=>aA.aT aH rfl (hS.p 1 rfl) rfl) fun a hf=>OQ.val (v:=.pointer (some ⟨b_b2,1,none⟩)) hf rfl (fun w hS=>aA.field dD rfl rfl) fun a hf=>OQ.val (v:=iV y.2.peak) hf rfl (fun w hS=>aA.aT aH rfl (hS.p 0 rfl) rfl) fun a hf=>OQ.gT (v:=iV (Det.eY x.2.peak y.2.peak)) hf rfl (fun w hS=>dS.call (av:=#[iV x.2.peak,iV y.2.peak]) tX rfl rfl rfl) (fun w hS=>aAs x.2.peak y.2.peak _) fun a hf=>?_; refine OQ.nil ?_; intro w hS; refine O.buildSlice (cs':=#[iV (Det.eY y.2.sum x.2.sum),iV (Det.eY x.2.peak y.2.peak)]) (zs:=#[iV 0,iV 0]) hf hS rfl rfl aB aD bY rfl rfl rfl rfl rfl ?_; intro b_s3 w a hbb_s3 hS hf; refine oc hf rfl yt (rq (.slice (some ⟨b_s3,0,none⟩) 2 2) [Det.eY y.2.sum x.2.sum,Det.eY x.2.peak y.2.peak] _ (hS.jL (j:=0) rfl (by decide) rfl rfl)) ?_; clear hf a; rintro _ w4 hS1 a hf; replace hS:=hS.cl hS1; refine mv hf rfl fun a hf=>?_; refine nk<|W.ret<|bH hf rfl (aO.tmp rfl)<|?_; exact ⟨(),rfl,hS.sub (List.nil_sublist _) |>.noB⟩
theorem aFC:∀ args w,(callFunc 38 args).run Tryz.prog w=.ok (.enter 38 args) w:=enters_of Tryz.func38 (by kernel_rfl) rfl
open Go.Sort in
theorem uW (va:Value) (L:List BV) (w0:World) (hX:dZ (hp w0) 57 3 va L.length (encs eB L)) (hvl:L.length≤500) (hia:bS (hp w0) (L.map (·.1)) (L.map (·.2.px))) (hap:∀ p q,p<L.length→q<L.length→(L.getD p default).2.peak=(L.getD q default).2.peak→p=q) :
    Ret Tryz.prog 37 #[va,.func (.func 38) #[] #[]] w0 (G:=List Nat) (fun _=>.tuple #[]) (fun is w=>St w0 w (fun b=>va.ownBlock=some b) [] [sl 57 3 va (fC L is).length (encs eB (fC L is))]∧is.Perm (List.range L.length)∧(fC L is).Pairwise (fun a b=>Det.leB a.2 b.2)):=by
  let T:={i:Nat // i<max 1 L.length}
  haveI:Inhabited T:=⟨⟨0,by omega⟩⟩
  let E:T→List Value:=fun i=>eB (L.getD i.1 default)
  let cf:T→T→Int:=fun i j=>Det.orM [Det.eY (L.getD j.1 default).2.sum (L.getD i.1 default).2.sum,Det.eY (L.getD i.1 default).2.peak (L.getD j.1 default).2.peak]
  have hlt:∀ i j,ltOf cf i j=decide ((L.getD j.1 default).2.sum<(L.getD i.1 default).2.sum∨((L.getD j.1 default).2.sum=(L.getD i.1 default).2.sum∧(L.getD i.1 default).2.peak<(L.getD j.1 default).2.peak)):=fun i j=>by
    unfold ltOf; exact decide_eq_decide.2 Det.yP
  have hO:SWO (ltOf cf):=⟨fun x=>by rw [hlt,decide_eq_false_iff_not]; omega,fun x y z h1 h2=>by rw [hlt,decide_eq_true_eq] at *; omega,fun x y z h1 h2=>by rw [hlt,decide_eq_false_iff_not] at *; omega⟩
  have hT:∀ x y,ltOf cf x y=false→ltOf cf y x=false→x=y:=fun x y h1 h2=>by
    rw [hlt,decide_eq_false_iff_not] at h1 h2
    refine Subtype.ext ?_
    have hx:=x.2
    have hy:=y.2
    by_cases h0:L.length=0
    · omega
    · exact hap _ _ (by omega) (by omega) (by omega)
  let l:List T:=(List.range L.length).pmap (fun i hi=>⟨i,Nat.lt_of_lt_of_le hi (Nat.le_max_right _ _)⟩) (fun i hi=>List.mem_range.1 hi)
  have hl1:l.map (·.1)=List.range L.length:=by simp [l,List.map_pmap]
  have hll:l.length=L.length:=by simp [l]
  have henc:∀ m:List T,encs E m=encs eB (fC L (m.map (·.1))):=fun m=>by
    unfold encs fC
    rw [List.map_map,List.flatMap_map]; rfl
  have hlE:encs E l=encs eB L:=by rw [henc,hl1]; unfold fC; rw [ku]
  have ho:∀ x:T,(L.getD x.1 default).1.oneCell'=true:=fun x=>by
    have hx:=x.2
    by_cases h0:L.length=0
    · exact aBt h0
    · exact aAk hia (by omega)
  have h1:∀ x,∀ v ∈ E x,v.oneCell'=true:=fun x v hv=>by
    have hv:v=(L.getD x.1 default).1∨v=iV (L.getD x.1 default).2.peak∨v=iV (L.getD x.1 default).2.sum:=by simpa [E,eB] using hv
    rcases hv with rfl | rfl | rfl
    · exact ho x
    · rfl
    · rfl
  have hc:=aB7 (E:=E) (k:=3) Tryz.sortB rfl (by intro w; kernel_rfl) (by intro w; kernel_rfl) (fun _=>rfl) h1 cf hO hT aFC 57 va l w0 (by rw [hll,hlE]; exact hX) (by omega) (fun x y W _ _=>by
    refine Calls.mono (rz (aEW (L.getD x.1 default) (L.getD y.1 default) W (ho x) (ho y)) (fun g w' h=>⟨[],h⟩)) ?_
    rintro e w ⟨_,rfl,_,h⟩
    exact ⟨rfl,h⟩)
  refine Calls.mono hc ?_
  rintro e w ⟨_,rfl,hS⟩
  refine ⟨(gZ (ltOf cf) l).map (·.1),rfl,?_,?_,?_⟩
  · unfold slE at hS
    rw [henc] at hS
    rw [show (fC L ((gZ (ltOf cf) l).map (·.1))).length=(gZ (ltOf cf) l).length from by rw [zw,List.length_map]]
    exact hS
  · rw [← hl1]; exact (List.mergeSort_perm l _).map _
  · unfold fC
    rw [List.pairwise_map,List.pairwise_map]
    have hp:=List.pairwise_mergeSort (le:=fun x y=>!ltOf cf y x) (fun a b c h1 h2=>by
      rw [Bool.not_eq_true'] at *; exact hO.ntrans _ _ _ h2 h1) (fun a b=>by
      rw [hlt,hlt]; simp only [Bool.or_eq_true,Bool.not_eq_true',decide_eq_false_iff_not]; omega) l
    refine hp.imp fun {a b} h=>?_
    rw [Bool.not_eq_true',hlt,decide_eq_false_iff_not] at h
    unfold Det.leB
    omega
set_option maxHeartbeats 1000000 in
set_option maxRecDepth 4000 in
theorem xM (fW fH thr least:Int) (vP vB vv:Value) (zs:List Int) (bs:List Bool) (lv:List Int) (w0:World) (hfo:¬ Det.aM fW fH zs) (hP:aQ (hp w0) 1 vP zs.length (ints zs)) (hB:aQ (hp w0) 1 vB bs.length (bools bs)) (hv:aQ (hp w0) 1 vv lv.length (ints lv)) (hft:vfit vv) :
    Ret Tryz.prog 11 #[(fG fW fH vP),vB,iV thr,iV least,vv] w0 (G:=Value × List BV) (fun g=>.tuple #[g.1,iV (Det.eH fW fH thr least zs bs lv)]) (fun g w=>St w0 w noX [] [sl 57 3 g.1 g.2.length (encs eB g.2),inn (g.2.map (·.1)) (g.2.map (·.2.px))]∧g.2.map (·.2)=Det.jB fW fH thr least zs bs lv):=by
  refine aR (lv:=[(fG fW fH vP),vB,iV thr,iV least,vv]) Tryz.func11 rfl rfl rfl (fun a hf=>?_); replace hf:Fr a 69 [] [(0,(fG fW fH vP)),(1,vB),(2,iV thr),(3,iV least),(4,vv)]:=hf; have hS:St w0 w0 noX [rI vP zs,rdv 1 vB bs.length (bools bs),rI vv lv] []:=(((St.refl w0).bO hv).bO hB).bO hP; refine W.seq ?_
  refine R3 rfl<|O.box (cs:=#[iV fW,iV fH,vP]) hf hS rfl rfl rfl rfl<|?_; intro b_f1 w a hbb_f1 hS hf; refine mv hf rfl fun a hf=>mv hf rfl fun a hf=>?_; refine nk<|W.seq<|W.seq<|?_
  refine R3 rfl<|ov hf rfl (aA.bf (cs':=#[iV fW,iV fH,vP]) bK aj rfl (hS.p 0 rfl) (bl rfl) rfl)<|fun a hf=>?_; refine oc hf rfl oP (uQ fW fH vP zs _ hfo (hS.aL (j:=0) rfl)) ?_; clear hf a; rintro _ w2 hS1 a hf; replace hS:=hS.cl hS1; refine mv hf rfl fun a hf=>?_; refine nk<|W.seq<|?_
  refine R2 rfl<|mv hf rfl<|fun a hf=>ov hf rfl (aA.toB (c:=true) (aA.neq rfl rfl) (by decide)) fun a hf=>?_; refine nk<|W.aDU hf rfl<|W.seq<|?_
  refine R3 rfl<|mv hf rfl<|fun a hf=>mv hf rfl fun a hf=>mv hf rfl fun a hf=>?_; refine nk<|W.ret<|aK<|eG hf rfl (aO.tmp rfl) (aO.tmp rfl)<|?_; have he:=Det.aDr (thr:=thr) (least:=least) (bs:=bs) (lv:=lv) hfo; exact ⟨(.slice none 0 0,[]),congrArg (fun e=>Ending.returned (.tuple #[_,iV e])) he.1.symm,St.pushB (hS.sub (List.nil_sublist _) |>.noB),by rw [he.2]; rfl⟩
set_option maxHeartbeats 1000000 in
set_option maxRecDepth 4000 in
theorem aAQ (fW fH:Nat) (thr least:Int) (vP vB vv:Value) (zs:List Int) (bs:List Bool) (lv:List Int) (w0:World) [Decidable (Det.rising lv)] (hfo:Det.aM (fW:Int) (fH:Int) zs) (hW:1≤fW∧fW≤100) (hH:1≤fH∧fH≤100) (hn:zs.length=fW*fH) (hP:aQ (hp w0) 1 vP zs.length (ints zs)) (hB:aQ (hp w0) 1 vB bs.length (bools bs)) (hv:aQ (hp w0) 1 vv lv.length (ints lv)) (hft:vfit vv) :
    Ret Tryz.prog 11 #[(fG fW fH vP),vB,iV thr,iV least,vv] w0 (G:=Value × List BV) (fun g=>.tuple #[g.1,iV (Det.eH (fW:Int) (fH:Int) thr least zs bs lv)]) (fun g w=>St w0 w noX [] [sl 57 3 g.1 g.2.length (encs eB g.2),inn (g.2.map (·.1)) (g.2.map (·.2.px))]∧g.2.map (·.2)=Det.jB (fW:Int) (fH:Int) thr least zs bs lv):=by
  refine iU (lv:=[(fG fW fH vP),vB,iV thr,iV least,vv]) Tryz.func11 rfl rfl rfl (fun a hf=>?_); replace hf:Fr a 69 [] [(0,(fG fW fH vP)),(1,vB),(2,iV thr),(3,iV least),(4,vv)]:=hf; have hS:St w0 w0 noX [rI vP zs,rdv 1 vB bs.length (bools bs),rI vv lv] []:=(((St.refl w0).bO hv).bO hB).bO hP; have hN:fW*fH≤10000:=Nat.mul_le_mul hW.2 hH.2; have hlen:=hP.2.1; unfold maxLen at hlen; have hlev:=hv.2.1; unfold maxLen at hlev; haveI:Decidable (Det.aM (fW:Int) (fH:Int) zs):=.isTrue hfo; refine W.seq ?_
  refine R3 rfl<|O.box (cs:=#[iV fW,iV fH,vP]) hf hS rfl rfl rfl rfl<|?_; intro b_f1 w a hbb_f1 hS hf; refine mv hf rfl fun a hf=>mv hf rfl fun a hf=>?_; refine nk<|W.seq<|W.seq<|?_
  refine R3 rfl<|ov hf rfl (aA.bf (cs':=#[iV fW,iV fH,vP]) bK aj rfl (hS.p 0 rfl) (bl rfl) rfl)<|fun a hf=>?_; refine oc hf rfl oP (p9 (fW:Int) (fH:Int) vP zs _ hfo (hS.aL (j:=0) rfl)) ?_; clear hf a; rintro _ w2 hS1 a hf; replace hS:=hS.cl hS1; refine mv hf rfl fun a hf=>?_; refine nk<|W.seq<|?_
  refine R2 rfl<|mv hf rfl<|fun a hf=>ov hf rfl (aA.toB (c:=false) (aA.neq rfl rfl) (by decide)) fun a hf=>?_; refine nk<|W.jI hf rfl<|W.skip<|aF<|W.seq<|W.seq<|?_
  refine R3 rfl<|mv hf rfl<|fun a hf=>ov hf rfl (aA.bP (e:=2) (by simpa using aN) rfl (hS.aL (j:=2) rfl)) fun a hf=>ov (v:=.bool (decide ((lv.length:Int)>(20:Int)))) hf rfl (aA.gtr rfl rfl) fun a hf=>?_; refine nk ?_; refine W.bJ hf rfl (fun h20=>?_) (fun h20=>?_)
  · refine W.seq ?_
    refine R2 rfl<|mv hf rfl<|fun a hf=>mv hf rfl fun a hf=>?_; refine nk<|W.ret<|aK<|?_; replace hS:=hS.mk0; refine kC hS hf ?_; clear hS hf a; intro w a hf hS; refine eG hf rfl (aO.tmp rfl) (aO.tmp rfl) ?_; have he:=Det.aDo (thr:=thr) (least:=least) (bs:=bs) (lv:=lv) hfo (show 20<lv.length by omega); exact ⟨(.slice none 0 0,[]),congrArg (fun e=>Ending.returned (.tuple #[_,iV e])) he.1.symm,St.pushB (hS.sub (List.nil_sublist _) |>.noB),by rw [he.2]; rfl⟩
  · refine W.skip ?_
    refine aF<|W.seq<|?_
    refine W.aY (l:=[0,1,2,3,4,5,6,7,8,9]) rfl<|ov hf rfl (aA.bf (cs':=#[iV fW,iV fH,vP]) bK aj rfl (hS.p 0 rfl) (bl rfl) rfl)<|fun a hf=>?_; refine mv hf rfl fun a hf=>mv hf rfl fun a hf=>mv hf rfl fun a hf=>?_; refine oc hf rfl yF (nY (fW:Int) (fH:Int) thr least vP vB zs bs _ (hS.aL (j:=0) rfl) (hS.aL (j:=1) rfl)) ?_; clear hf a; rintro ⟨vs,us⟩ w4 hS1 a hf; try dsimp only at hS1 hf; replace hS:=hS.cl hS1; refine mv hf rfl fun a hf=>ov hf rfl (aA.extract rfl rfl) fun a hf=>ov hf rfl (aA.extract rfl rfl) fun a hf=>mv hf rfl fun a hf=>mv hf rfl fun a hf=>?_; refine nk<|W.seq<|W.seq<|?_
    refine R2 rfl<|mv hf rfl<|fun a hf=>ov (v:=.bool (decide ((Det.bg (fW:Int) (fH:Int) zs bs thr least)≠(0:Int)))) hf rfl (aA.neq rfl rfl) fun a hf=>?_; refine nk ?_; refine W.bJ hf rfl (fun hbE=>?_) (fun hbE=>?_)
    · refine W.seq ?_
      refine R3 rfl<|mv hf rfl<|fun a hf=>mv hf rfl fun a hf=>mv hf rfl fun a hf=>?_; refine nk<|W.ret<|aK<|?_; replace hS:=hS.mk0; refine kC hS hf ?_; clear hS hf a; intro w a hf hS; refine eG hf rfl (aO.tmp rfl) (aO.tmp rfl) ?_; have he:=Det.wE (thr:=thr) (least:=least) (bs:=bs) (lv:=lv) hfo (show ¬ 20<lv.length by omega) (by simpa using hbE); exact ⟨(.slice none 0 0,[]),congrArg (fun e=>Ending.returned (.tuple #[_,iV e])) he.1.symm,St.pushB (hS.sub (List.nil_sublist _) |>.noB),by rw [he.2]; rfl⟩
    · have hE:(Det.bg (fW:Int) (fH:Int) zs bs thr least)=0:=by simpa using hbE
      have hpe:=Det.rE hE; have hbl:(Det.bright zs bs thr (fW*fH)).length=fW*fH:=Det.fF _; obtain ⟨ps,hps⟩:∃ ps,ps=(Det.eZ (fW:Int) (fH:Int) zs bs thr least):=⟨_,rfl⟩; rw [← hps] at hS; rw [Det.xX hE hn] at hps; unfold Det.sets at hps; have hul:=(hS.eF (j:=1) rfl).1; have hum:=(hS.iJ (j:=0) rfl).nle; unfold maxLen at hum; refine W.skip<|aF<|W.seq<|W.seq<|?_
      refine R3 rfl<|mv hf rfl<|fun a hf=>?_; refine oc hf rfl yQ (lJ vv lv _ (hS.aL (j:=2) rfl)) ?_; clear hf a; rintro _ w6 hS1 a hf; replace hS:=hS.cl hS1; refine ov (v:=.bool (!(decide (Det.rising lv)))) hf rfl (aA.not rfl) fun a hf=>?_; refine nk ?_; refine W.if_ hf rfl (fun hbri=>?_) (fun hbri=>?_)
      · have hbrib:=hbri
        try simp only [bsm] at hbri
        refine W.seq ?_
        refine R2 rfl<|mv hf rfl<|fun a hf=>mv hf rfl fun a hf=>?_; refine nk<|W.ret<|aK<|?_; replace hS:=hS.mk0; refine kC hS hf ?_; clear hS hf a; intro w a hf hS; refine eG hf rfl (aO.tmp rfl) (aO.tmp rfl) ?_; have he:=Det.xA (thr:=thr) (least:=least) (bs:=bs) (lv:=lv) hfo (show ¬ 20<lv.length by omega) hE (by simpa using hbri); exact ⟨(.slice none 0 0,[]),congrArg (fun e=>Ending.returned (.tuple #[_,iV e])) he.1.symm,St.pushB (hS.sub (List.nil_sublist _) |>.noB),by rw [he.2]; rfl⟩
      · have hbrib:=hbri
        try simp only [bsm] at hbri
        have hri:Det.rising lv:=by simpa using hbri
        refine W.skip<|aF<|W.seq<|?_
        refine R4 rfl<|ov hf rfl (aA.bf (cs':=#[iV fW,iV fH,vP]) bK aj rfl (hS.p 2 rfl) (bl rfl) rfl)<|fun a hf=>ov hf rfl (aA.kM (cs':=#[iV fW,iV fH,vP]) kQ jQ rfl rfl) fun a hf=>?_; refine O.alloc (cs:=#[iV 0,iV 0,.slice none 0 0]) hf hS rfl rfl jQ rfl ?_; intro b_m8 w a hbb_m8 hS hf; have hcl9:=aQ.cells (hS.aL (j:=0) rfl); refine ost 0 #[iV fW,iV fH,vP] hf hS rfl rfl rfl dF rfl (bM rfl (bM rfl (bM hcl9.2 rfl))) rfl (bl rfl) rfl ?_; intro w hS; refine nk<|W.seq<|?_
        refine R1 rfl<|O.alloc (cs:=#[.slice none 0 0]) hf hS rfl rfl zM rfl<|?_; intro b_out10 w a hbb_out10 hS hf; refine nk<|W.seq<|W.seq<|?_
        refine R3 rfl<|mv hf rfl<|fun a hf=>ov hf rfl (aA.bP (e:=26) (by simpa using ah) rfl (hS.slr (j:=2) rfl)) fun a hf=>mv hf rfl fun a hf=>?_; refine nk<|W.block<|?_; replace hS:St w0 _ noX [rI vP zs,rdv 1 vB bs.length (bools bs),rI vv lv] [inn (([]:List BV).map (·.1)) (([]:List BV).map (·.2.px)),pt b_out10 (.cells #[(.slice none 0 0)] 34 (0,0)),pt b_m8 (.cells #[iV fW,iV fH,vP] 61 (0,0)),sl 26 1 vs us.length us,inn us ps,pt b_f1 (.cells #[iV fW,iV fH,vP] 24 (0,0))]:=hS.qA; replace hS:St w0 _ noX [rI vP zs,rdv 1 vB bs.length (bools bs),rI vv lv] [sl 57 3 (.slice none 0 0) (([]:List BV).length) (encs eB ([]:List BV)),inn (([]:List BV).map (·.1)) (([]:List BV).map (·.2.px)),pt b_out10 (.cells #[(.slice none 0 0)] 34 (0,0)),pt b_m8 (.cells #[iV fW,iV fH,vP] 61 (0,0)),sl 26 1 vs us.length us,inn us ps,pt b_f1 (.cells #[iV fW,iV fH,vP] 24 (0,0))]:=hS.jN 57 3; replace hS:=hS.mk0; replace hf:Fr a 69 (dz []) [(3,_),(4,_),(10,_),(11,_),(15,_),(16,_),(44,_),(45,_),(46,_)]:=hf.q rfl
        refine W.loop (G:=(Nat) × (Value) × (List BV) × (List Nat)) (fun g a w=>match g with | (n,vt,L,Ds)=>Fr a 69 (dz Ds) [(3,iV least),(4,vv),(10,.slice none 0 0),(11,iV 0),(15,(pp b_m8)),(16,(pp b_out10)),(44,vs),(45,iV (us.length:Int)),(46,iV n)]∧St w0 w noX [rI vP zs,rdv 1 vB bs.length (bools bs),rI vv lv] [mkA Ds,sl 57 3 vt L.length (encs eB L),inn (L.map (·.1)) (L.map (·.2.px)),pt b_out10 (.cells #[vt] 34 (0,0)),pt b_m8 (.cells #[iV fW,iV fH,vP] 61 (0,0)),sl 26 1 vs us.length us,inn us ps,pt b_f1 (.cells #[iV fW,iV fH,vP] 24 (0,0))]∧(n≤us.length)∧(L.map (·.2)=(Det.iw zs fW fH least lv ps n))) (fun g=>match g with | (n,vt,L,Ds)=>us.length-n) (0,(.slice none 0 0),[],[]) ?_ ?_
        · refine ⟨hf.to ⟨rfl,rfl,rfl,rfl,rfl,rfl,rfl,rfl,(by first | rfl | exact vI (by omega)),trivial⟩,hS,?_,?_⟩
          · omega
          · rw [Det.aA4]; rfl
        clear hf hS a; rintro ⟨n,vt,L,Ds⟩ a w ⟨hf,hS,h1,h5⟩
        skip
        refine W.seq ?_
        refine R1 rfl<|ov (v:=.bool (decide ((n:Int)<((us.length:Int):Int)))) hf rfl (aA.lss rfl rfl)<|fun a hf=>?_; refine nk<|W.seq<|?_; refine W.bJ hf rfl (fun hn1=>?_) (fun hn1=>?_)
        · refine W.skip ?_
          refine aF<|W.seq<|W.block<|W.seq<|?_
          refine R3 rfl ?_; have hl4:=(hS.eF (j:=6) rfl).get (i:=n) (by omega) |>.2.1; unfold maxLen at hl4; refine ov hf rfl (aA.ixV (j:=n) (m:=n) ah ay rfl rfl (hS.slr (j:=5) rfl) rfl (by omega) (Nat.mul_one _)) fun a hf=>ov hf rfl (aA.ld1 bG rfl (hS.slr (j:=5) rfl) (gP (by omega))) fun a hf=>mv hf rfl fun a hf=>?_; refine O.nil ?_; have hokS:=(Det.mq hbl hps).1 _ (Det.at_mem (ss:=ps) (q:=n) (by omega)); refine aF<|W.seq<|?_
          refine R5 rfl<|ov hf rfl (aA.bf (cs':=#[iV fW,iV fH,vP]) dh dF rfl (hS.p 4 rfl) (bl rfl) rfl)<|fun a hf=>mv hf rfl fun a hf=>mv hf rfl fun a hf=>mv hf rfl fun a hf=>?_; refine oc hf rfl tH (aBO fW fH least vP (us.getD n undef) vv zs (ps.getD n []) lv _ (hS.aL (j:=0) rfl) ((hS.eF (j:=6) rfl).get (by omega)) (hS.aL (j:=2) rfl)) ?_; clear hf a; rintro gb w12 hS1 a hf; replace hS:=hS.cl hS1; refine nk<|W.block<|?_; replace hS:=hS.fr 6; replace hS:=hS.fr 6; replace hS:=hS.fr 7
          refine W.qJ (G:=(Value) × (List BV)) (e:=3) (xss:=(Det.bA zs fW fH least lv (ps.getD n []))) (fun x=>(19,x)::[(15,(pp b_m8)),(16,(pp b_out10))]) (fun g=>match g with | (vu,Lc)=>[pt b_out10 (.cells #[vu] 34 (0,0)),sl 57 3 vu Lc.length (encs eB Lc),inn (Lc.map (·.1)) (Lc.map (·.2.px))]) [pt gb.1 (.cells #[vv] 22 (0,0)),pt gb.2.1 (.cells #[(us.getD n undef)] 26 (0,0)),pt gb.2.2.1 (.cells #[iV fW,iV fH,vP] 61 (0,0)),pt gb.2.2.2 (.cells #[iV least] 3 (0,0)),mkA Ds,pt b_m8 (.cells #[iV fW,iV fH,vP] 61 (0,0)),sl 26 1 vs us.length us,inn us ps,pt b_f1 (.cells #[iV fW,iV fH,vP] 24 (0,0))] (o6 fW fH least vP (us.getD n undef) vv zs (ps.getD n []) lv gb.1 gb.2.1 gb.2.2.1 gb.2.2.2) (fun j g=>match g with | (vu,Lc)=>(Lc.map (·.2)=(Det.iw zs fW fH least lv ps n)++((Det.bA zs fW fH least lv (ps.getD n [])).take j).map (Det.dK zs))) (vt,L) hf rfl rfl sU hS ?_ (oZ fW fH least vP zs hW hH hn hpe.2.2 lv.length lv (Nat.le_refl _) gb.1 gb.2.1 gb.2.2.1 gb.2.2.2 (us.getD n undef) vv (ps.getD n []) hokS hft) ?_ ?_ ?_ ?_
          · skip
            dsimp only; rw [h5]; simp
          · clear hf hS; intro w1 X1 M1 hS
            intro p hp; simp only [o6,List.mem_cons,List.not_mem_nil,or_false] at hp
            rcases hp with rfl | rfl | rfl | rfl | rfl | rfl | rfl
            · exact Lt.at hS (i:=0) rfl
            · exact Lt.at hS (i:=1) rfl
            · exact Lt.at hS (i:=2) rfl
            · exact Lt.at hS (i:=3) rfl
            · exact Lt.at hS (i:=9) rfl
            · exact Lt.inn hS (i:=7) (j:=n) rfl (by omega)
            · exact Lt.at hS (i:=11) rfl
          · intro l x w a hf
            refine R1 rfl<|ov (v:=x) hf rfl (aA.assign rfl) fun a hf=>?_; refine O.nil ⟨rfl,hf.q rfl,rfl⟩
          · clear hf hS; rintro lr o_ D j x v ⟨vu,Lc⟩ w0 hx h6 hO hS a hf
            obtain ⟨Xb,hXb⟩:∃ q,q=fps [sl 3 1 v x.length (ints x),pt lr o_,pt D (.deferred (some [])),pt b_out10 (.cells #[vu] 34 (0,0)),sl 57 3 vu Lc.length (encs eB Lc),inn (Lc.map (·.1)) (Lc.map (·.2.px))]:=⟨_,rfl⟩; replace hS:St w0 w0 Xb [pt gb.1 (.cells #[vv] 22 (0,0)),pt gb.2.1 (.cells #[(us.getD n undef)] 26 (0,0)),pt gb.2.2.1 (.cells #[iV fW,iV fH,vP] 61 (0,0)),pt gb.2.2.2 (.cells #[iV least] 3 (0,0)),mkA Ds,pt b_m8 (.cells #[iV fW,iV fH,vP] 61 (0,0)),sl 26 1 vs us.length us,inn us ps,pt b_f1 (.cells #[iV fW,iV fH,vP] 24 (0,0)),rI vP zs,rdv 1 vB bs.length (bools bs),rI vv lv] [sl 3 1 v x.length (ints x),pt lr o_,pt D (.deferred (some [])),pt b_out10 (.cells #[vu] 34 (0,0)),sl 57 3 vu Lc.length (encs eB Lc),inn (Lc.map (·.1)) (Lc.map (·.2.px))]:=by rw [hXb]; exact hS
            have hxl:=(hS.iJ (j:=0) rfl).nle; unfold maxLen at hxl; have hxo:=((Det.bn (P:=zs) hpe.2.2 lv _ hokS).1 x (List.mem_of_getElem? hx)).1; have hxr:Det.InR zs.length x:=fun t ht=>by have:=hxo.rng t ht; rw [hn]; exact this
            have hxl2:x.length≤10000:=Det.jT hxo.asc hxo.rng hN; dsimp only at h6; have hLl:Lc.length≤20000:=by
              have e1:=congrArg List.length h6; have e2:=Det.zG (P:=zs) (lv:=lv) (k:=n) hpe.2.2 hbl hps; have e3:=Det.o5 (P:=zs) (levels:=lv) hpe.2.2 hokS; rw [List.length_map,List.length_append,List.length_map,List.length_take] at e1
              omega
            refine W.block ?_
            have hf1:Fr a 69 [] []:=hf.to trivial; replace hf:Fr a 69 [] [(15,_),(16,_),(19,_)]:=hf.q rfl
            let LZ950:List (Nat × Value):=[(15,(pp b_m8)),(16,(pp b_out10)),(19,v)]
            let MZ950:List Asr:=[sl 3 1 v x.length (ints x),pt lr o_,pt D (.deferred (some [])),pt b_out10 (.cells #[vu] 34 (0,0)),sl 57 3 vu Lc.length (encs eB Lc),inn (Lc.map (·.1)) (Lc.map (·.2.px))]
            let BZ950:List Asr:=[pt gb.1 (.cells #[vv] 22 (0,0)),pt gb.2.1 (.cells #[(us.getD n undef)] 26 (0,0)),pt gb.2.2.1 (.cells #[iV fW,iV fH,vP] 61 (0,0)),pt gb.2.2.2 (.cells #[iV least] 3 (0,0)),mkA Ds,pt b_m8 (.cells #[iV fW,iV fH,vP] 61 (0,0)),sl 26 1 vs us.length us,inn us ps,pt b_f1 (.cells #[iV fW,iV fH,vP] 24 (0,0)),rI vP zs,rdv 1 vB bs.length (bools bs),rI vv lv]
            refine W.dn (γ:=(Nat) × (Value)) (L0:=LZ950) (L1:=[]) (0,default) [4,5,6] [] [0,1,2,3] (fun i_=>match i_ with | 3=>[1,2] | 4=>[3] | 5=>[0,4] | 6=>[5] | _=>[]) (fun _=>[]) (fun i_=>match i_ with | 4=>[5,6] | 5=>[6] | _=>[]) (fun _=>[]) (fun i_=>match i_ with | 5=>1 | 6=>2 | _=>0) (fun i_=>match i_ with | 0=>1 | 4=>1 | 5=>2 | 6=>3 | _=>0) (fun (g:(Nat) × (Value)) j_=>match g,j_ with | ⟨b_s14,v17⟩,0=>vu | ⟨b_s14,v17⟩,1=>(fG fW fH vP) | ⟨b_s14,v17⟩,2=>v | ⟨b_s14,v17⟩,3=>.agg #[v,iV (Det.dP zs x),iV (Det.fP zs x)] | ⟨b_s14,v17⟩,4=>.slice (some ⟨b_s14,0,none⟩) 1 1 | ⟨b_s14,v17⟩,5=>v17 | _,_=>undef) (fun k_ (_:Nat→Bool) (g:(Nat) × (Value)) w=>match k_,g with | 0,⟨b_s14,v17⟩=>St w0 w Xb BZ950 MZ950 | 1,⟨b_s14,v17⟩=>St w0 w Xb BZ950 (pt b_s14 (.cells #[v,iV (Det.dP zs x),iV (Det.fP zs x)] 57 (0,0))::MZ950) | 2,⟨b_s14,v17⟩=>St w0 w Xb BZ950 [pt b_s14 (.cells #[v,iV (Det.dP zs x),iV (Det.fP zs x)] 57 (0,0)),sl 3 1 v x.length (ints x),pt lr o_,pt D (.deferred (some [])),pt b_out10 (.cells #[vu] 34 (0,0)),sl 57 3 v17 ((Lc++[(v,Det.dK zs x)]).length) (encs eB (Lc++[(v,Det.dK zs x)])),inn (Lc.map (·.1)) (Lc.map (·.2.px))] | _,⟨b_s14,v17⟩=>St w0 w Xb BZ950 [pt b_s14 (.cells #[v,iV (Det.dP zs x),iV (Det.fP zs x)] 57 (0,0)),sl 3 1 v x.length (ints x),pt lr o_,pt D (.deferred (some [])),pt b_out10 (.cells #[v17] 34 (0,0)),sl 57 3 v17 ((Lc++[(v,Det.dK zs x)]).length) (encs eB (Lc++[(v,Det.dK zs x)])),inn (Lc.map (·.1)) (Lc.map (·.2.px))]) aV (by kernel_rfl) (by kernel_rfl) (by kernel_rfl) hf hf1 hS.drew ?_ ?_ trivial ?_
            · clear hf hf1 hS
              refine ⟨?_,?_,?_,?_,trivial⟩
              · intro k_ s_ g w hlo hhi _ hD a hf; obtain ⟨b_s14,v17⟩:=g; rcases k_ with _ | _ | _ | k_
                · exact qv hf rfl (aA.aT kH rfl (hD.p 3 rfl) rfl) hD
                · exact qv hf rfl (aA.aT kH rfl (hD.p 4 rfl) rfl) hD
                · exact absurd hhi (by decide)
                · have hhi:k_+3≤1:=hhi; omega
              · exact s1 (fun _ ⟨b_s14,v17⟩ _ _ hD _ hf=>qv hf rfl (aA.bf (cs':=#[iV fW,iV fH,vP]) dh dF rfl (hD.fM (i:=5) rfl) (bl rfl) rfl) hD) rfl
              · exact fun _ _ ⟨b_s14,v17⟩ _ _ _ _ hD _ hf=>qm hf rfl hD
              · intro k_ s_ g w hlo hhi _ hD a hf
                obtain ⟨b_s14,v17⟩:=g; obtain rfl:k_=0:=Nat.le_antisymm hhi hlo; have hS:=hD; clear hD; replace hf:Fr a 69 [] ((57,(fG fW fH vP))::(58,v)::LZ950):=hf; refine oc hf rfl aCK (aEC (fW:Int) (fH:Int) vP v zs x _ (hS.aL (j:=9) rfl) (hS.slr (j:=0) rfl) hxo.ne hxo.asc hxr hfo.2.2.2.2.2 hxl2) ?_; clear hf a; rintro _ w19 hS1 a hf; replace hS:=(hS.call hS1).eqM (N:=MZ950) rfl; exact O.nil ⟨rfl,hf.to trivial,(gt (d:=59) hf rfl rfl),hS⟩
            · clear hf hf1 hS
              refine ⟨?_,?_,?_,trivial⟩
              · intro s_ g w _ hD a hf
                obtain ⟨b_s14,v17⟩:=g; have hS:=hD; clear hD; replace hf:Fr a 69 [] ((59,.agg #[v,iV (Det.dP zs x),iV (Det.fP zs x)])::LZ950):=hf; have hcl21:=aQ.cells (hS.slr (j:=0) rfl); refine O.buildSlice (cs':=#[v,iV (Det.dP zs x),iV (Det.fP zs x)]) (zs:=#[.slice none 0 0,iV 0,iV 0]) hf hS rfl rfl aZ ax gB rfl rfl rfl rfl (by first | (simp only [Instr.fill,hcl21.1]; rfl) | simp [Instr.fill,hcl21.1]) ?_; intro b_s20 w a hbb_s20 hS hf; exact O.nil ⟨rfl,(b_s20,v17),hf.to trivial,(gt (d:=60) hf rfl rfl),(fun j_ hj_ ha_=>match j_,hj_,ha_ with | 0,hj_,ha_=>rfl | 1,hj_,ha_=>rfl | 2,hj_,ha_=>rfl | 3,hj_,ha_=>rfl | 4,hj_,ha_=>absurd rfl hj_ | 5,hj_,ha_=>absurd ha_ (by decide) | 6,hj_,ha_=>absurd ha_ (by decide) | _+7,_,_=>rfl),hS⟩
              · intro s_ g w _ hD a hf
                obtain ⟨b_s14,v17⟩:=g; have hS:=hD; clear hD; replace hf:Fr a 69 [] ((56,vu)::(60,.slice (some ⟨b_s14,0,none⟩) 1 1)::LZ950):=hf; have hcl22:=aQ.cells (hS.slr (j:=1) rfl); refine O.fJ (j:=5) (jj:=0) hf hS rfl rfl aZ ax xB gB rfl rfl rfl rfl rfl rfl rfl (bM hcl22.2 rfl) (by unfold maxLen; omega) (by omega) ?_; intro v23 w a hS hf; replace hS:=hS.reE (i:=5) (M':=[pt b_s14 (.cells #[v,iV (Det.dP zs x),iV (Det.fP zs x)] 57 (0,0)),sl 3 1 v x.length (ints x),pt lr o_,pt D (.deferred (some [])),pt b_out10 (.cells #[vu] 34 (0,0)),sl 57 3 v23 ((Lc++[(v,Det.dK zs x)]).length) (encs eB (Lc++[(v,Det.dK zs x)])),inn (Lc.map (·.1)) (Lc.map (·.2.px))]) rfl (aCZ (enc:=eB) (l:=Lc) (x:=(v,Det.dK zs x))) rfl; exact O.nil ⟨rfl,(b_s14,v23),hf.to trivial,(gt (d:=61) hf rfl rfl),(fun j_ hj_ ha_=>match j_,hj_,ha_ with | 0,hj_,ha_=>rfl | 1,hj_,ha_=>rfl | 2,hj_,ha_=>rfl | 3,hj_,ha_=>rfl | 4,hj_,ha_=>rfl | 5,hj_,ha_=>absurd rfl hj_ | 6,hj_,ha_=>absurd ha_ (by decide) | _+7,_,_=>rfl),hS⟩
              · intro s_ g w _ hD a hf
                obtain ⟨b_s14,v17⟩:=g; have hS:=hD; clear hD; replace hf:Fr a 69 [] ((61,v17)::LZ950):=hf; have hcl24:=aQ.cells (hS.slr (j:=5) rfl); refine O.store (m:=1) (j:=4) (cs':=#[v17]) (M':=[pt b_s14 (.cells #[v,iV (Det.dP zs x),iV (Det.fP zs x)] 57 (0,0)),sl 3 1 v x.length (ints x),pt lr o_,pt D (.deferred (some [])),pt b_out10 (.cells #[v17] 34 (0,0)),sl 57 3 v17 ((Lc++[(v,Det.dK zs x)]).length) (encs eB (Lc++[(v,Det.dK zs x)])),inn (Lc.map (·.1)) (Lc.map (·.2.px))]) hf hS rfl rfl rfl aAD (by rw [hcl24.1]; rfl) (by rw [hcl24.1]; exact hcl24.2) rfl (bl rfl) (by rw [hcl24.1]; rfl) rfl ?_; intro w hS; exact O.nil ⟨rfl,(b_s14,v17),hf.to trivial,(fun d hd=>by cases (show none=some d from hd)),(fun j_ hj_ ha_=>match j_,hj_,ha_ with | 0,hj_,ha_=>rfl | 1,hj_,ha_=>rfl | 2,hj_,ha_=>rfl | 3,hj_,ha_=>rfl | 4,hj_,ha_=>rfl | 5,hj_,ha_=>rfl | 6,hj_,ha_=>absurd rfl hj_ | _+7,_,_=>rfl),hS⟩
            clear hf hf1 hS; intro s_ g a w _ hf hD; obtain ⟨b_s14,v17⟩:=g; have hS:=hD; clear hD; replace hf:Fr a 69 [] ((56,vu)::(57,(fG fW fH vP))::(58,v)::(59,.agg #[v,iV (Det.dP zs x),iV (Det.fP zs x)])::(60,.slice (some ⟨b_s14,0,none⟩) 1 1)::(61,v17)::LZ950):=hf; refine aG ?_; replace hS:=hS.fr 6; replace hS:=hS.fr 2; replace hS:St w0 _ Xb BZ950 [inn ((Lc++[(v,Det.dK zs x)]).map (·.1)) ((Lc++[(v,Det.dK zs x)]).map (·.2.px)),pt b_s14 (.cells #[v,iV (Det.dP zs x),iV (Det.fP zs x)] 57 (0,0)),pt lr o_,pt D (.deferred (some [])),pt b_out10 (.cells #[v17] 34 (0,0)),sl 57 3 v17 ((Lc++[(v,Det.dK zs x)]).length) (encs eB (Lc++[(v,Det.dK zs x)]))]:=St.reE (i:=0) (St.xQ hS) rfl (zS (b:=Det.dK zs x)) rfl; replace hS:=hS.fr 0; replace hS:=hS.fr 5; replace hS:=hS.fr 5; replace hS:=hS.fr 5; replace hS:=hS.fr 5; replace hS:=(hS.sub (N:=[pt lr o_,pt D (.deferred (some [])),pt b_out10 (.cells #[v17] 34 (0,0)),sl 57 3 v17 ((Lc++[(v,Det.dK zs x)]).length) (encs eB (Lc++[(v,Det.dK zs x)])),inn ((Lc++[(v,Det.dK zs x)]).map (·.1)) ((Lc++[(v,Det.dK zs x)]).map (·.2.px))]) (.cons_cons _ (.cons_cons _ (.cons_cons _ (.cons_cons _ (.cons_cons _ (.cons _ .slnil))))))).noB; rw [hXb] at hS; refine ⟨rfl,(v17,(Lc++[(v,Det.dK zs x)])),?_,hS⟩
            · dsimp only at h6 ⊢
              rw [List.map_append,h6,yZ hx,List.map_append,List.append_assoc]; rfl
          clear hf hS; rintro D ⟨vu,Lc⟩ a w h6 hS hf; replace hS:St w0 w noX [rI vP zs,rdv 1 vB bs.length (bools bs),rI vv lv] [pt D (.deferred (some [])),pt b_out10 (.cells #[vu] 34 (0,0)),sl 57 3 vu Lc.length (encs eB Lc),inn (Lc.map (·.1)) (Lc.map (·.2.px)),pt gb.1 (.cells #[vv] 22 (0,0)),pt gb.2.1 (.cells #[(us.getD n undef)] 26 (0,0)),pt gb.2.2.1 (.cells #[iV fW,iV fH,vP] 61 (0,0)),pt gb.2.2.2 (.cells #[iV least] 3 (0,0)),mkA Ds,pt b_m8 (.cells #[iV fW,iV fH,vP] 61 (0,0)),sl 26 1 vs us.length us,inn us ps,pt b_f1 (.cells #[iV fW,iV fH,vP] 24 (0,0))]:=hS; replace hS:=hS.fr 8; replace hS:=hS.fr 1; replace hS:=hS.mY (M:=[pt b_out10 (.cells #[vu] 34 (0,0)),sl 57 3 vu Lc.length (encs eB Lc),inn (Lc.map (·.1)) (Lc.map (·.2.px)),pt gb.1 (.cells #[vv] 22 (0,0)),pt gb.2.1 (.cells #[(us.getD n undef)] 26 (0,0)),pt gb.2.2.1 (.cells #[iV fW,iV fH,vP] 61 (0,0)),pt gb.2.2.2 (.cells #[iV least] 3 (0,0)),pt b_m8 (.cells #[iV fW,iV fH,vP] 61 (0,0)),sl 26 1 vs us.length us,inn us ps,pt b_f1 (.cells #[iV fW,iV fH,vP] 24 (0,0))]); replace hf:Fr a 69 (dz (D::Ds)) [(3,_),(4,_),(10,_),(11,_),(15,_),(16,_),(18,_),(44,_),(45,_),(46,_),(54,_)]:=hf.q rfl; refine aG<|aG<|aF<|?_
          refine R2 rfl<|ov hf rfl (aA.ak rfl rfl (by omega))<|fun a hf=>mv hf rfl fun a hf=>?_; refine O.nil ?_; replace hS:=hS.fr 11; replace hS:=hS.fr 11; replace hS:=hS.fr 11; replace hS:=hS.fr 11; replace hS:=hS.fr 5; replace hS:=hS.fr 7; replace hS:=hS.fr 7; replace hS:=hS.fr 7; replace hS:=hS.sl [1,1,1,1,1,1,1,1]; refine aS ⟨(n+1,vu,Lc,(D::Ds)),⟨hf.to ⟨rfl,rfl,rfl,rfl,rfl,rfl,rfl,rfl,(by first | rfl | exact vI (by omega)),trivial⟩,?_,?_,?_⟩,?_⟩
          · exact hS.eqM rfl
          · omega
          · rw [Det.aBr (by omega),h6,List.take_length]
          · dsimp only; omega
        · refine W.exit ?_
          refine aC<|aC<|bD<|aF<|W.seq<|W.seq<|?_
          refine R3 rfl ?_; have hnu:n=ps.length:=by omega
          have hLe:L.map (·.2)=(Det.eX zs fW fH least lv (Det.bright zs bs thr (fW*fH))).map (Det.dK zs):=by rw [h5,hnu,Det.vw hps]
          have hLl:L.length=(Det.eX zs fW fH least lv (Det.bright zs bs thr (fW*fH))).length:=by have:=congrArg List.length hLe; simpa using this
          refine ov hf rfl (aA.aT kH rfl (hS.p 3 rfl) rfl) fun a hf=>ov hf rfl (aA.bP (e:=57) (by simpa using aZ) rfl (hS.slr (j:=1) rfl)) fun a hf=>ov (v:=.bool (decide ((L.length:Int)>(500:Int)))) hf rfl (aA.gtr rfl rfl) fun a hf=>?_; refine nk ?_; refine W.bJ hf rfl (fun h500=>?_) (fun h500=>?_)
          · refine W.seq ?_
            refine R2 rfl<|mv hf rfl<|fun a hf=>mv hf rfl fun a hf=>?_; refine nk<|W.ret<|aK<|?_; refine kC hS hf ?_; clear hS hf a; intro w a hf hS; refine eG hf rfl (aO.tmp rfl) (aO.tmp rfl) ?_; have he:=Det.wG (thr:=thr) (least:=least) (bs:=bs) (lv:=lv) hfo (show ¬ 20<lv.length by omega) hE hri (by rw [Int.toNat_natCast,Int.toNat_natCast,hn]; omega); exact ⟨(.slice none 0 0,[]),congrArg (fun e=>Ending.returned (.tuple #[_,iV e])) he.1.symm,St.pushB (hS.sub (List.nil_sublist _) |>.noB),by rw [he.2]; rfl⟩
          · refine W.skip ?_
            refine aF<|W.seq<|?_
            refine R2 rfl<|ov hf rfl (aA.aT kH rfl (hS.p 3 rfl) rfl)<|fun a hf=>?_; have hapt:=Det.nV (P:=zs) (W:=fW) (H:=fH) hpe.2.2 hbl lv; refine oc hf rfl aC7 (uW vt L _ (hS.iJ (j:=1) rfl) (by omega) (hS.eF (j:=2) rfl) (zX hapt hLe)) ?_; clear hf a; rintro is w26 ⟨hS1,hpm,hsr⟩ a hf; replace hS:=(hS.dA hS1 (i:=1) rfl (fun _ h=>h)).eqM (N:=[sl 57 3 vt ((fC L is).length) (encs eB (fC L is)),mkA Ds,inn (L.map (·.1)) (L.map (·.2.px)),pt b_out10 (.cells #[vt] 34 (0,0)),pt b_m8 (.cells #[iV fW,iV fH,vP] 61 (0,0)),sl 26 1 vs us.length us,inn us ps,pt b_f1 (.cells #[iV fW,iV fH,vP] 24 (0,0))]) rfl; have hpi:∀ i ∈ is,i<L.length:=fun i hi=>List.mem_range.1 (hpm.mem_iff.1 hi); replace hS:=(hS.xZ (is:=is) (j:=2) rfl (by rw [List.length_map]; exact hpi)).eqM (N:=[sl 57 3 vt ((fC L is).length) (encs eB (fC L is)),mkA Ds,inn ((fC L is).map (·.1)) ((fC L is).map (·.2.px)),pt b_out10 (.cells #[vt] 34 (0,0)),pt b_m8 (.cells #[iV fW,iV fH,vP] 61 (0,0)),sl 26 1 vs us.length us,inn us ps,pt b_f1 (.cells #[iV fW,iV fH,vP] 24 (0,0))]) (by rw [zO hpi,aBG hpi]; rfl); refine nk<|W.seq<|?_
            refine R3 rfl<|ov hf rfl (aA.aT kH rfl (hS.p 3 rfl) rfl)<|fun a hf=>mv hf rfl fun a hf=>mv hf rfl fun a hf=>?_; refine nk<|W.ret<|?_; replace hS:=hS.fr 1; refine kC hS hf ?_; clear hS hf a; intro w a hf hS; refine eG hf rfl (aO.tmp rfl) (aO.tmp rfl) ?_; replace hS:=hS.fr 1; replace hS:=hS.fr 1; have he:=Det.tN (thr:=thr) (least:=least) (bs:=bs) (lv:=lv) hfo (show ¬ 20<lv.length by omega) hE hri (by rw [Int.toNat_natCast,Int.toNat_natCast,hn]; omega); rw [Int.toNat_natCast,Int.toNat_natCast,hn] at he; refine ⟨(vt,fC L is),congrArg (fun e=>Ending.returned (.tuple #[_,iV e])) he.1.symm,(hS.sub (.cons_cons _ (.cons_cons _ (.cons _ (.cons _ (.cons _ (.cons _ (.cons _ .slnil)))))))).noB,?_⟩; rw [he.2]; exact Det.o9 hapt (by rw [← hLe]; exact (xS hpm).map _) (List.pairwise_map.2 hsr)
end Go.Proofs.YtipfobacinmoiaaGreat

namespace Go.SL
open Go
section
variable {w0 w:World} {X:Nat→Prop} {B M:List Asr} {j:Nat} {O L:List BV}
noncomputable def zipB (P:List Int) (sts:List Value) (D:List (List Int)):List BV:=(List.range sts.length).map fun i=>(sts.getD i undef,Det.dK P (D.getD i []))
variable {P:List Int} {sts:List Value} {D:List (List Int)} {k:Nat}
theorem ze {L K:List BV} {k:Nat} (he:L.map (·.2)=K.map (·.2)) (hk:k<L.length):(L.getD k default).2=(K.getD k default).2:=by
  have h2:L.length=K.length:=by have:=congrArg List.length he; simpa using this
  have h1:=congrArg (fun l=>l.getD k default) he
  simp only [iD hk,iD (show k<K.length by omega)] at h1
  exact h1
theorem bS.elB {h:Hp} {L:List BV} {k:Nat} (hi:bS h (L.map (·.1)) (L.map (·.2.px))) (hk:k<L.length):aQ h 1 (L.getD k default).1 (L.getD k default).2.px.length (ints (L.getD k default).2.px):=by
  have h1:=hi.2 k (by rw [List.length_map]; exact hk)
  rw [iD hk,iD hk] at h1
  exact h1
theorem bS.single {h:Hp} {L:List BV} {k:Nat} (hi:bS h (L.map (·.1)) (L.map (·.2.px))) (hk:k<L.length):bS h [(L.getD k default).1] [(L.getD k default).2.px]:=by
  have h1:=hi.2 k (by rw [List.length_map]; exact hk)
  rw [iD hk,iD hk] at h1
  refine ⟨rfl,fun i hl=>?_⟩
  obtain rfl:i=0:=by simpa using hl
  exact h1
end
end Go.SL
namespace Det
section
variable {P l:List Int} {k:Nat} {m:Int}
end
end Det

namespace Det
open Go Go.SL
section
variable {W H:Nat} {thr least d:Int} {P lv:List Int} {bs:List Bool}
theorem qd:∀ k,k≤P.length→bright (shP P d) bs (thr+d) k=bright P bs thr k
  | 0,_=>rfl
  | k+1,h=>by
    unfold bright
    rw [qd k (by omega),nC (by omega),show decide (P.getD k 0+d≥thr+d)=decide (P.getD k 0≥thr) from decide_eq_decide.2 (by omega)]
theorem sH:rising (lv.map (·+d))↔rising lv:=by
  have e:∀ j,j<lv.length→(lv.map (·+d)).getD j 0=lv.getD j 0+d:=fun j h=>nC h
  unfold rising
  rw [List.length_map]
  constructor
  · intro h j h0 h1; have:=h j h0 h1; rw [e j h1,e (j-1) (by omega)] at this; omega
  · intro h j h0 h1; have:=h j h0 h1; rw [e j h1,e (j-1) (by omega)]; omega
theorem xN (hf:aM W H P) (hg:aM W H (shP P d)) (h1:-4294967296≤thr∧thr≤4294967296) (h2:-4294967296≤thr+d∧thr+d≤4294967296) (h3:lv.length≤20) (hn:P.length=W*H) :
    eH W H (thr+d) least (shP P d) bs (lv.map (·+d))=eH W H thr least P bs lv ∧
    ∃ S,(∀ s ∈ S,SetOK W H s)∧Apart S∧jB W H thr least P bs lv=dG P S∧jB W H (thr+d) least (shP P d) bs (lv.map (·+d))=dG (shP P d) S:=by
  have hl:(shP P d).length=P.length:=aCw
  have nilc:∀ S1 S2:List Blob,S1=[]→S2=[]→∃ S,(∀ s ∈ S,SetOK W H s)∧Apart S∧S1=dG P S∧S2=dG (shP P d) S:=fun S1 S2 e1 e2 =>
    ⟨[],(fun _ h=>by cases h),⟨(fun _ h=>by cases h),.nil⟩,(by rw [e1]; simp [dG]),(by rw [e2]; simp [dG])⟩
  have h20:¬ 20<lv.length:=by omega
  have h21:¬ 20<(lv.map (·+d)).length:=by rw [List.length_map]; omega
  have hpe:bg W H (shP P d) bs (thr+d) least=bg W H P bs thr least:=by
    unfold bg
    rw [if_pos hf,if_pos hg,hl]
    by_cases hb:bs.length=P.length∧1≤least
    · rw [if_pos ⟨hb.1,h2.1,h2.2,hb.2⟩,if_pos ⟨hb.1,h1.1,h1.2,hb.2⟩]
    · rw [if_neg fun h=>hb ⟨h.1,h.2.2.2⟩,if_neg fun h=>hb ⟨h.1,h.2.2.2⟩]
  by_cases hp:bg W H P bs thr least=0
  · by_cases hr:rising lv
    · have hle:=(rE hp).2.2
      have hbl:(bright P bs thr P.length).length=W*H:=by rw [fF,hn]
      have hS:eX (shP P d) W H least (lv.map (·+d)) (bright (shP P d) bs (thr+d) (shP P d).length)=eX P W H least lv (bright P bs thr P.length):=by
        rw [hl,qd _ (Nat.le_refl _)]
        exact aBa hn hle hbl lv
      have hr2:=sH (d:=d) |>.2 hr
      by_cases h5:500<(eX P (W:Int).toNat (H:Int).toNat least lv (bright P bs thr P.length)).length
      · have e1:=wG hf h20 hp hr h5
        have e2:=wG (thr:=thr+d) hg h21 (hpe.trans hp) hr2 (by rw [Int.toNat_natCast,Int.toNat_natCast,hS]; exact h5)
        exact ⟨e2.1.trans e1.1.symm,nilc _ _ e1.2 e2.2⟩
      · have e1:=tN hf h20 hp hr h5
        have e2:=tN (thr:=thr+d) hg h21 (hpe.trans hp) hr2 (by rw [Int.toNat_natCast,Int.toNat_natCast,hS]; exact h5)
        rw [Int.toNat_natCast,Int.toNat_natCast] at e1 e2
        rw [hS] at e2
        exact ⟨e2.1.trans e1.1.symm,_,(pI hle hbl lv).1,nV hle hbl lv,e1.2,e2.2⟩
    · have e1:=xA hf h20 hp hr
      have e2:=xA (thr:=thr+d) hg h21 (hpe.trans hp) fun h=>hr (sH.1 h)
      exact ⟨e2.1.trans e1.1.symm,nilc _ _ e1.2 e2.2⟩
  · have e1:=wE (lv:=lv) hf h20 hp
    have e2:=wE (thr:=thr+d) hg h21 (by rw [hpe]; exact hp)
    exact ⟨by rw [e2.1,e1.1,hpe],nilc _ _ e1.2 e2.2⟩
end
section
variable {W H:Nat} {d:Int} {P:List Int} {S:List (List Int)} {L K:List BV} {i:Nat}
theorem aBl (h:L.map (·.2)=dG P S) (hi:i<L.length):(L.getD i default).2 ∈ dG P S:=by
  rw [← h,List.getD_eq_getElem?_getD,List.getElem?_eq_getElem hi]
  exact List.mem_map.2 ⟨_,List.getElem_mem hi,rfl⟩
theorem yR (h:L.map (·.2)=dG P S) (hS:∀ s ∈ S,SetOK W H s) (hi:i<L.length):SetOK W H (L.getD i default).2.px∧(L.getD i default).2.peak=dP P (L.getD i default).2.px∧(L.getD i default).2.sum=fP P (L.getD i default).2.px:=by
  obtain ⟨s,hs,e⟩:=List.mem_map.1 (fA.mem_iff.1 (aBl h hi))
  rw [← e]
  exact ⟨hS s hs,rfl,rfl⟩
theorem oK (hi:i<L.length):L.getD i default=L[i]:=by rw [List.getD_eq_getElem?_getD,List.getElem?_eq_getElem hi]; rfl
theorem aC5 (h:L.map (·.2)=dG P S) (hi:i<L.length) (h0:0<i):(L.getD i default).2.sum≤(L.getD (i-1) default).2.sum:=by
  have h1:=vZ (P:=P) (l:=S)
  rw [← h,List.pairwise_map] at h1
  have h2:=List.pairwise_iff_getElem.1 h1 (i-1) i (by omega) hi (by omega)
  rw [oK hi,oK (show i-1<L.length by omega)]
  unfold leB at h2
  omega
theorem aBw (h:L.map (·.2)=dG P S):L.length=S.length:=by
  have:=congrArg List.length h
  rwa [List.length_map,aAI] at this
theorem aBR (hS:∀ s ∈ S,SetOK W H s) (hap:Apart S) (hn:P.length=W*H) (h:L.map (·.2)=dG P S) (h2:K.map (·.2)=dG (shP P d) S) (hi:i<K.length) :
    ∃ q,q<L.length∧(K.getD i default).2.px=(L.getD q default).2.px∧(K.getD i default).2.peak=(L.getD q default).2.peak∧(K.getD i default).2.sum=(L.getD q default).2.sum+d*((L.getD q default).2.px.length:Int) ∧
      ∀ k,k<L.length→(K.getD i default).2.peak=(L.getD k default).2.peak→k=q:=by
  obtain ⟨a,ha,e⟩:=zl (fun s hs x hx=>by rw [hn]; exact (hS s hs).rng x hx) (aBl h2 hi)
  rw [← h] at ha
  obtain ⟨b,hb,rfl⟩:=List.mem_map.1 ha
  obtain ⟨q,hq,rfl⟩:=List.getElem_of_mem hb
  refine ⟨q,hq,?_⟩
  rw [oK hq]
  refine ⟨e.1,e.2.1,e.2.2,fun k hk hpk=>?_⟩
  have h1:=((fA (P:=P) (l:=S)).symm.pairwise_iff (R:=fun a b:Blob=>a.peak≠b.peak) fun {a b} hab e=>hab e.symm).1 hap.peaks
  rw [← h,List.pairwise_map] at h1
  rw [e.2.1,oK hk] at hpk
  rcases Nat.lt_trichotomy k q with g | g | g
  · exact absurd hpk.symm (List.pairwise_iff_getElem.1 h1 k q hk hq g)
  · exact g
  · exact absurd hpk (List.pairwise_iff_getElem.1 h1 q k hq hk g)
theorem aEL {b:Blob} (hbd:∀ j,j<P.length→-4294967296≤P.getD j 0∧P.getD j 0≤4294967296) (hn:P.length=W*H) (hN:W*H≤10000) (h1:SetOK W H b.px∧b.peak=dP P b.px∧b.sum=fP P b.px):-42949672960000≤b.sum∧b.sum≤42949672960000:=by
  have h2:=wz (P:=P) (l:=b.px) (n:=0) (k:=b.px.length) hbd (fun t ht=>by have:=h1.1.rng t ht; rw [hn]; exact this) (jT h1.1.asc h1.1.rng hN)
  rw [List.take_length] at h2
  rw [h1.2.2]; exact h2
theorem sN (h:L.map (·.2)=dG P S):(L.map (·.2.px)).Perm S:=by
  have e:L.map (·.2.px)=(dG P S).map (·.px):=by rw [← h,List.map_map]; rfl
  rw [e]
  have h1:=(fA (P:=P) (l:=S)).map (·.px)
  rw [List.map_map] at h1
  rwa [show (S.map ((·.px) ∘ dK P))=S from List.map_id S] at h1
theorem aCu (h:L.map (·.2)=dG P S) (hS:∀ s ∈ S,SetOK W H s):∀ x ∈ L.map (·.2.px),conn W H x∧(1:Int)≤(x.length:Int):=fun x hx=>by
  have:=hS x ((sN h).mem_iff.1 hx)
  have h1:=List.length_pos_iff.2 this.ne
  exact ⟨qC this,by omega⟩
theorem aEB (h:L.map (·.2)=dG P S) (hS:∀ s ∈ S,SetOK W H s):∀ x ∈ L.map (·.2.px),∀ t ∈ x,0≤t∧t<((W*H:Nat):Int):=fun x hx=>(hS x ((sN h).mem_iff.1 hx)).rng
theorem aEw (h:L.map (·.2)=dG P S) (hap:Apart S):(L.map (·.2.px)).Pairwise fun a b=>∀ t ∈ a,t ∉ b:=(hap.perm (sN h).symm).ap
theorem aDC {l:List Int} {p:Int} (hl:l≠[]) (hp:p ∈ l):¬ (P.getD (dP P l).toNat 0<P.getD p.toNat 0∨(P.getD p.toNat 0=P.getD (dP P l).toNat 0∧p<dP P l)):=by
  rcases (qf (P:=P) hl).2.2 p hp rfl with e | h
  · rw [e]; omega
  · unfold brt at h; omega
end
section
variable {P lv:List Int} {d:Int} {i:Nat}
def shK (P:List Int) (d:Int) (k:Nat):List Int:=(P.take k).map (·+d)++P.drop k
theorem aEr:shK P d 0=P:=by simp [shK]
theorem aB1 (h:i<P.length):(shK P d i).getD i 0=P.getD i 0:=by
  unfold shK
  rw [List.getD_eq_getElem?_getD,List.getElem?_append_right (by simp; omega),List.getElem?_drop]
  simp only [List.length_map,List.length_take,List.getD_eq_getElem?_getD]
  congr 2
  omega
theorem aEf (h:i<P.length):(shK P d i).set i ((shK P d i).getD i 0+d)=shK P d (i+1):=by
  rw [aB1 h]
  unfold shK
  rw [List.set_append_right _ _ (by simp; omega),List.drop_eq_getElem_cons h,jg h]
  simp only [List.length_map,List.length_take,List.map_append,List.map_cons,List.map_nil,List.append_assoc]
  rw [show i-min i P.length=0 by omega]
  rfl
theorem aCJ (h:P.length≤i):shK P d i=shP P d:=by
  unfold shK shP
  rw [List.take_of_length_le h,List.drop_eq_nil_of_le h,List.append_nil]
theorem aFL (h:i<lv.length):(lv.take i).map (·+d)++[lv.getD i 0+d]=(lv.take (i+1)).map (·+d):=by
  rw [jg h,List.map_append]; rfl
theorem aEM {L:List BV} (h:i<L.length):(L.take i).map (·.1)++[(L.getD i default).1]=(L.take (i+1)).map (·.1):=by
  rw [List.take_add_one,List.getElem?_eq_getElem h,List.map_append,List.getD_eq_getElem?_getD,List.getElem?_eq_getElem h]; rfl
theorem qI {W H thr d:Int} {zs lv:List Int} {bs:List Bool} [Decidable (aM W H zs)]
    (h:¬ (aM W H zs∧bs.length=zs.length∧zs.length≤100∧bs.length≤120∧lv.length≤20∧(-4294967296≤d∧d≤4294967296)∧(-4294967296≤thr∧thr≤4294967296)∧(-4294967296≤thr+d∧thr+d≤4294967296))) :
    (((((((((decide ((zs.length:Int)>100)||decide ((bs.length:Int)>120))||decide ((if aM W H zs then (if bs.length=zs.length then 0 else 2) else 8)≠(0:Int)))||decide ((lv.length:Int)>20))||decide (d<(-4294967296:Int)))||decide (d>(4294967296:Int)))||decide (thr<(-4294967296:Int)))||decide (thr>(4294967296:Int)))||decide (thr+d<(-4294967296:Int)))||decide (thr+d>(4294967296:Int)))=true:=by
  by_cases h1:aM W H zs
  · by_cases h2:bs.length=zs.length
    · have:¬ (zs.length≤100∧bs.length≤120∧lv.length≤20∧(-4294967296≤d∧d≤4294967296)∧(-4294967296≤thr∧thr≤4294967296)∧(-4294967296≤thr+d∧thr+d≤4294967296)):=fun g=>h ⟨h1,h2,g⟩
      simp only [Bool.or_eq_true,decide_eq_true_eq]
      omega
    · rw [if_pos h1,if_neg h2]; simp
  · rw [if_neg h1]; simp
theorem aCR {fo:Bool} {a b:Int} {r q:Nat} (h:a=b→r=q):fo=true∨(fo=false∧a≠b)∨(fo=false∧r=q):=by
  cases fo
  · by_cases he:a=b
    · exact .inr (.inr ⟨rfl,h he⟩)
    · exact .inr (.inl ⟨rfl,he⟩)
  · exact .inl rfl
theorem aDh {fo:Bool} {r q:Nat} (h:fo=true∨r≤q) (h2:¬ r≤q) (h3:(!fo)=true):False:=by
  rcases h with h | h
  · rw [h] at h3; cases h3
  · exact h2 h
theorem aCU {r q:Nat} (h:false=true∨r≤q) (h2:r≠q):r+1≤q:=by
  rcases h with h | h
  · cases h
  · omega
theorem yL {W H:Nat} {zs:List Int} (h:aM (W:Int) (H:Int) zs):(1≤W∧W≤100)∧(1≤H∧H≤100):=by
  obtain ⟨h1,h2,h3,h4,_⟩:=h
  omega
theorem aCW {d:Int} {n:Nat} (h:-4294967296≤d∧d≤4294967296) (hn:n≤10000):-42949672960000≤d*(n:Int)∧d*(n:Int)≤42949672960000:=by
  have h1:d*(n:Int)≤4294967296*(n:Int):=Int.mul_le_mul_of_nonneg_right h.2 (by omega)
  have h2:-4294967296*(n:Int)≤d*(n:Int):=Int.mul_le_mul_of_nonneg_right h.1 (by omega)
  omega
end
end Det

namespace Go.SL
open Go
theorem bS.aFE {h:Hp} {v:Value} {l:List Int} (hr:aQ h 1 v l.length (ints l)):bS h [v] [l]:=by
  refine ⟨rfl,fun i hi=>?_⟩
  obtain rfl:i=0:=by simpa using hi
  exact hr
theorem bS.two {h:Hp} {v u:Value} {l m:List Int} (hr:aQ h 1 v l.length (ints l)) (hs:aQ h 1 u m.length (ints m)):bS h [v,u] [l,m]:=by
  refine ⟨rfl,fun i hi=>?_⟩
  have:i=0∨i=1:=by simp at hi; omega
  rcases this with rfl | rfl
  · exact hr
  · exact hs
end Go.SL
namespace Det
open Go Go.SL
def zsA:List Int:=[3,9,4,8,2]
def bsA:List Bool:=[false,false,false,false,false]
theorem uf:(madeCells (Value.bool false).cells (5*1)).toList=bools bsA:=by kernel_rfl
def pxA:List Int:=[0,1,2,3]
def ssA:List (List Int):=[[0,1,2],[3]]
def blA:List Blob:=[⟨[0,1,2],1,16⟩,⟨[3],3,8⟩]
def beB (P l:List Int) (q:Int→Bool) (i:Int):Bool:=l.contains i&&q i&&l.all fun j=>!(q j)||decide (j=i)||decide (P.getD j.toNat 0<P.getD i.toNat 0)||(decide (P.getD i.toNat 0=P.getD j.toNat 0)&&decide (i<j))
theorem beA {P l:List Int} {q:Int→Bool} {i:Int} (h:beB P l q i=true):iL P l q=i:=by
  unfold beB at h
  simp only [Bool.and_eq_true,List.all_eq_true,Bool.or_eq_true,decide_eq_true_eq,List.contains_iff_mem,Bool.not_eq_true'] at h
  refine eO ⟨h.1.1,h.1.2,fun j hj hq=>?_⟩
  have:=h.2 j hj
  unfold brt
  rcases this with ((h1 | h1) | h1) | h1
  · rw [hq] at h1; cases h1
  · exact .inl h1
  · exact .inr (.inl h1)
  · exact .inr (.inr h1)
theorem beN {P l:List Int} {q:Int→Bool} (h:(l.all fun j=>!(q j))=true):iL P l q=-1:=gG fun j hj=>by
  have:=List.all_eq_true.1 h j hj
  simpa using this
theorem aBN:aM ((5:Nat):Int) ((1:Nat):Int) zsA:=by
  refine ⟨by decide,by decide,by decide,by decide,by decide,fun j hj=>?_⟩
  have:j=0∨j=1∨j=2∨j=3∨j=4:=by
    have:j<5:=hj
    omega
  rcases this with rfl | rfl | rfl | rfl | rfl <;> decide
theorem aEj:sets 5 1 zsA bsA 3 1=[pxA]:=by decide +kernel
theorem aEJ:conn 5 1 pxA:=by
  refine ⟨fun j hj=>?_,by decide,by decide +kernel⟩
  have:j=0∨j=1∨j=2∨j=3:=by
    have:j<4:=hj
    omega
  rcases this with rfl | rfl | rfl | rfl <;> decide
theorem aEZ:rising [5]:=fun j h0 hj=>by simp at hj; omega
def o0A:List Int:=[-1,0,-1,1,-1]
def o1A:List Int:=[-1,0,0,1,-1]
def o2A:List Int:=[0,0,0,1,-1]
theorem aEv {l o o2:List Int} {n b:Int} {f:Nat} (h1:beB zsA l (iE 5 1 o) n=true) (h2:beB zsA (nb 5 1 n.toNat) (oG o) b=true) (h3:¬ n<0) (h4:o.set n.toNat (ow o b)=o2):jF zsA 5 1 l (f+1) o=jF zsA 5 1 l f o2:=by
  have e1:bq zsA 5 1 l o=n:=beA h1
  have e2:byM zsA 5 1 o n=b:=beA h2
  show (if bq zsA 5 1 l o<0 then o else jF zsA 5 1 l f (o.set (bq zsA 5 1 l o).toNat (ow o (byM zsA 5 1 o (bq zsA 5 1 l o)))))=_
  rw [e1,if_neg h3,e2,h4]
theorem aFK:kT zsA 5 1 pxA [[1],[3]]=o2A:=by
  show jF zsA 5 1 pxA (3+1) (gJ 5 [[1],[3]])=o2A
  rw [show gJ 5 [[1],[3]]=o0A from by decide +kernel,aEv (n:=2) (b:=1) (o2:=o1A) (by decide +kernel) (by decide +kernel) (by decide) (by decide +kernel),
    show (3:Nat)=2+1 from rfl,aEv (n:=0) (b:=1) (o2:=o2A) (by decide +kernel) (by decide +kernel) (by decide) (by decide +kernel)]
  have e:bq zsA 5 1 pxA o2A=-1:=beN (by decide +kernel)
  show (if bq zsA 5 1 pxA o2A<0 then o2A else _)=_
  rw [e,if_pos (by decide)]
theorem aEi:bA zsA 5 1 1 [5] pxA=ssA:=by
  have hs:bN zsA 5 1 1 pxA 5=[[1],[3]]:=by decide +kernel
  show (if (bN zsA 5 1 1 pxA 5).length<2 then bA zsA 5 1 1 [] pxA else (dM zsA 5 1 pxA (bN zsA 5 1 1 pxA 5)).flatMap fun s=>bA zsA 5 1 1 [] s)=ssA
  rw [hs,if_neg (by decide)]
  unfold dM
  rw [aFK]
  decide +kernel
theorem apA:Apart ssA:=⟨by decide,by decide⟩
theorem aFF:kJ ssA=ssA:=(pY apA (.refl _) (by decide)).symm
theorem aAx:iK ((5:Nat):Int) ((1:Nat):Int) 1 zsA pxA [5]=0∧kR ((5:Nat):Int) ((1:Nat):Int) 1 zsA pxA [5]=ssA:=by
  have h:=yN (least:=1) (px:=pxA) (lv:=[5]) aBN (by decide) ⟨aEJ,aEZ,by decide⟩
  refine ⟨h.1,h.2.trans ?_⟩
  show kJ (bA zsA 5 1 1 [5] pxA)=ssA
  rw [aEi,aFF]
theorem aE5:eX zsA 5 1 1 [5] (bright zsA bsA 3 zsA.length)=ssA:=by
  have h:(bR 5 1 1 (bright zsA bsA 3 zsA.length) (5*1)).2=[pxA]:=by decide +kernel
  unfold eX
  rw [h]
  show bA zsA 5 1 1 [5] pxA++[]=ssA
  rw [List.append_nil,aEi]
theorem aEp:dG zsA ssA=blA:=by
  refine (o9 apA ?_ ?_).symm
  · have e1:dK zsA [0,1,2]=⟨[0,1,2],1,16⟩:=by
      unfold dK
      rw [show dP zsA [0,1,2]=1 from beA (by decide +kernel),show fP zsA [0,1,2]=16 from by decide]
    have e2:dK zsA [3]=⟨[3],3,8⟩:=by
      unfold dK
      rw [show dP zsA [3]=3 from beA (by decide +kernel),show fP zsA [3]=8 from by decide]
    show blA.Perm [dK zsA [0,1,2],dK zsA [3]]
    rw [e1,e2]; exact .refl _
  · exact .cons (fun b hb=>by rw [List.mem_singleton.1 hb]; exact .inl (by decide)) (.cons (fun b hb=>by cases hb) .nil)
theorem aDS:eH ((5:Nat):Int) ((1:Nat):Int) 3 1 zsA bsA [5]=0∧jB ((5:Nat):Int) ((1:Nat):Int) 3 1 zsA bsA [5]=blA:=by
  have hp:bg ((5:Nat):Int) ((1:Nat):Int) zsA bsA 3 1=0:=by unfold bg; rw [if_pos aBN,if_pos ⟨rfl,by decide,by decide,by decide⟩]
  have h:=tN (least:=1) (lv:=[5]) aBN (by decide) hp aEZ (by
    show ¬ 500<(eX zsA 5 1 1 [5] (bright zsA bsA 3 zsA.length)).length
    rw [aE5]; decide)
  refine ⟨h.1,h.2.trans ?_⟩
  show dG zsA (eX zsA 5 1 1 [5] (bright zsA bsA 3 zsA.length))=blA
  rw [aE5,aEp]
end Det
