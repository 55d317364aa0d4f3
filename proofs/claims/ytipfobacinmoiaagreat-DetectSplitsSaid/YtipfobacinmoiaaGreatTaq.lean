/- Part of a proof: laws and walks. -/
import Derived.Test.YtipfobacinmoiaaGreatTac
import Derived.Test.YtipfobacinmoiaaGreatTap
import Derived.Test.YtipfobacinmoiaaGreatTal
set_option linter.unusedVariables false
set_option linter.unusedSimpArgs false
set_option maxHeartbeats 1000000
set_option maxRecDepth 8000
namespace Go.Proofs.YtipfobacinmoiaaGreat
open Go Go.SL Go.Shelf Go.RowKit Go.Maps
theorem C_ok_36:callOK Tryz.prog 36=true:=by kernel_rfl
theorem C_ok_37:callOK Tryz.prog 37=true:=by kernel_rfl
theorem C_ok_59:callOK Tryz.prog 59=true:=by kernel_rfl
theorem T_agg_34:tAgg Tryz.prog 34=some false:=by kernel_rfl
theorem T_agg_57:tAgg Tryz.prog 57=some true:=by kernel_rfl
theorem T_bytes_57:tBytes Tryz.prog 57=some 40:=by kernel_rfl
theorem T_elem_34:tElem Tryz.prog 34=some 57:=by kernel_rfl
theorem T_field_57_1:tField Tryz.prog 57 1=some 1:=by kernel_rfl
theorem T_field_57_2:tField Tryz.prog 57 2=some 2:=by kernel_rfl
theorem T_places_57:tPlaces Tryz.prog 57=some #[(0,1),(1,1),(2,1)]:=by kernel_rfl
theorem T_size_34:tSize Tryz.prog 34=some 1:=by kernel_rfl
theorem T_size_57:tSize Tryz.prog 57=some 3:=by kernel_rfl
theorem T_zero_34:tZero Tryz.prog 34=some (.slice none 0 0):=by kernel_rfl
theorem T_zero_57:tZero Tryz.prog 57=some (.agg #[.slice none 0 0,iV 0,iV 0]):=by kernel_rfl
set_option maxHeartbeats 1000000 in
set_option maxRecDepth 4000 in
theorem min59 (fW fH:Int) (vP vL:Value) (zs l:List Int) (w0:World) (hP:rdOK (hp w0) 1 vP zs.length (ints zs)) (hL:rdOK (hp w0) 1 vL l.length (ints l)) (hne:l≠[]) (hl:l.Pairwise (·<·)) (hr:Det.InR zs.length l) :
    Ret Tryz.prog 59 #[vL,(fB 60 fW fH vP)] w0 (G:=Unit) (fun _=>iV (Det.peakM zs l)) (fun _ w=>St w0 w noX [] []):=by
  refine ret_of_W (lv:=[vL,(fB 60 fW fH vP)]) Tryz.func59 rfl rfl rfl (fun a hf=>?_); replace hf:Fr a 33 [] [(0,vL),(1,(fB 60 fW fH vP))]:=hf; have hS:St w0 w0 noX [rI vP zs,rI vL l] []:=((St.refl w0).lend0 hL).lend0 hP; have hlen:=hL.2.1; unfold maxLen at hlen; have hlp:=List.length_pos_iff.2 hne; refine W.seq ?_
  refine R1 rfl<|mv hf rfl<|fun a hf=>?_; refine nk<|W.seq<|W.seq<|?_
  refine R3 rfl<|mv hf rfl<|fun a hf=>ov hf rfl (RunV.lenV (e:=3) (by simpa using T_elem_26) rfl (hS.rdAt (j:=1) rfl)) fun a hf=>ov (v:=.bool (decide ((l.length:Int)<(1:Int)))) hf rfl (RunV.lss rfl rfl) fun a hf=>?_; refine nk ?_; refine W.ifdI hf rfl (fun hemp=>?_) (fun hemp=>?_)
  · exfalso; omega
  · refine W.skip ?_
    refine k_seq<|W.seq<|?_
    refine R4 rfl<|mv hf rfl<|fun a hf=>ov hf rfl (RunV.ixV (j:=0) (m:=0) T_elem_26 T_size_3 rfl rfl (hS.rdAt (j:=1) rfl) rfl (by omega) (Nat.mul_one _)) fun a hf=>ov hf rfl (RunV.ld1 T_agg_3 rfl (hS.rdAt (j:=1) rfl) (ints_get (by omega))) fun a hf=>mv hf rfl fun a hf=>?_; refine nk<|W.seq<|W.seq<|?_
    refine R1 rfl<|mv hf rfl<|fun a hf=>?_; refine nk<|W.block<|?_
    refine W.loop (G:=(Nat) × (Int)) (fun g a w=>match g with | (k,m)=>Fr a 33 [] [(0,vL),(1,(fB 60 fW fH vP)),(4,iV 0),(5,iV m),(6,iV k)]∧St w0 w noX [rI vP zs,rI vL l] []∧(1≤k)∧(k≤l.length)∧(0≤m)∧(Det.ScanI zs l (fun _=>true) k m)) (fun g=>match g with | (k,m)=>l.length-k) (1,l.getD 0 0) ?_ ?_
    · refine ⟨hf.to ⟨rfl,rfl,rfl,(by first | rfl | exact vI (by omega)),(by first | rfl | exact vI (by omega)),trivial⟩,hS,?_,?_,?_,?_⟩
      · omega
      · omega
      · exact (hr _ (Det.getD_mem (l:=l) (j:=0) hlp)).1
      · exact Det.scan_takeB (k:=0) hlp Det.scan_0 rfl (hr _ (Det.getD_mem (l:=l) (j:=0) hlp)).1 (.inl (by decide))
    clear hf hS a; rintro ⟨k,m⟩ a w ⟨hf,hS,h0,h1,hm,hsc⟩; refine W.seq<|W.seq<|?_
    refine R4 rfl<|mv hf rfl<|fun a hf=>mv hf rfl fun a hf=>ov hf rfl (RunV.lenV (e:=3) (by simpa using T_elem_26) rfl (hS.rdAt (j:=1) rfl)) fun a hf=>ov (v:=.bool (decide ((k:Int)<((l.length:Int):Int)))) hf rfl (RunV.lss rfl rfl) fun a hf=>?_; refine nk ?_; refine W.ifdI hf rfl (fun hc2=>?_) (fun hc2=>?_)
    · refine W.skip ?_
      refine k_seq<|W.seq<|W.block<|W.seq<|?_
      refine W.regionL (l:=[0,1,2,3,4,5,6,7]) rfl ?_; have hkr:=hr _ (Det.getD_mem (l:=l) (j:=k) (by omega)); have hbr:=(Det.scan_rng hsc hr); refine mv hf rfl fun a hf=>mv hf rfl fun a hf=>mv hf rfl fun a hf=>ov hf rfl (RunV.ixV (j:=k) (m:=k) T_elem_26 T_size_3 rfl rfl (hS.rdAt (j:=1) rfl) rfl (by omega) (Nat.mul_one _)) fun a hf=>ov hf rfl (RunV.ld1 T_agg_3 rfl (hS.rdAt (j:=1) rfl) (ints_get (by omega))) fun a hf=>mv hf rfl fun a hf=>?_; refine oc hf rfl C_ok_60 (brighter60_spec fW fH (l.getD k 0) m vP zs _ hkr (by omega) (hS.rdAt (j:=0) rfl)) ?_; clear hf a; rintro _ w3 hS1 a hf; replace hS:=hS.cl hS1; refine ov (v:=.bool (decide ((Det.cfP zs (l.getD k 0) m)<(0:Int)))) hf rfl (RunV.lss rfl rfl) fun a hf=>?_; refine nk ?_; refine W.ifdI hf rfl (fun hlt=>?_) (fun hlt=>?_)
      ·
        refine R5 rfl<|mv hf rfl<|fun a hf=>mv hf rfl fun a hf=>ov hf rfl (RunV.ixV (j:=k) (m:=k) T_elem_26 T_size_3 rfl rfl (hS.rdAt (j:=1) rfl) rfl (by omega) (Nat.mul_one _)) fun a hf=>ov hf rfl (RunV.ld1 T_agg_3 rfl (hS.rdAt (j:=1) rfl) (ints_get (by omega))) fun a hf=>mv hf rfl fun a hf=>?_; refine O.nil<|k_blk_normal<|k_seq<|?_
        refine R3 rfl<|mv hf rfl<|fun a hf=>ov hf rfl (RunV.addI rfl rfl (by omega)) fun a hf=>mv hf rfl fun a hf=>?_; refine O.nil ?_; refine k_then ⟨(k+1,l.getD k 0),⟨hf.to ⟨rfl,rfl,rfl,(by first | rfl | exact vI (by omega)),(by first | rfl | exact vI (by omega)),trivial⟩,?_,?_,?_,?_,?_⟩,?_⟩
        · exact hS.eqM rfl
        · omega
        · omega
        · omega
        · first
            | exact Det.scan_takeB (by omega) hsc rfl hkr.1 (.inr (Det.cfP_neg.1 hlt))
            | exact Det.scan_notB hl (by omega) hsc fun h=>h.2.elim (fun h=>by omega) fun h=>hlt (Det.cfP_neg.2 h)
        · dsimp only; omega
      · refine W.skip ?_
        refine k_blk_normal<|k_seq<|?_
        refine R3 rfl<|mv hf rfl<|fun a hf=>ov hf rfl (RunV.addI rfl rfl (by omega)) fun a hf=>mv hf rfl fun a hf=>?_; refine O.nil ?_; refine k_then ⟨(k+1,m),⟨hf.to ⟨rfl,rfl,rfl,(by first | rfl | exact vI (by omega)),(by first | rfl | exact vI (by omega)),trivial⟩,?_,?_,?_,?_,?_⟩,?_⟩
        · exact hS.eqM rfl
        · omega
        · omega
        · omega
        · first
            | exact Det.scan_takeB (by omega) hsc rfl hkr.1 (.inr (Det.cfP_neg.1 hlt))
            | exact Det.scan_notB hl (by omega) hsc fun h=>h.2.elim (fun h=>by omega) fun h=>hlt (Det.cfP_neg.2 h)
        · dsimp only; omega
    · refine W.exit ?_
      refine k_then_exit<|k_then_exit<|k_blk<|k_seq<|W.seq<|?_
      refine R2 rfl<|mv hf rfl<|fun a hf=>mv hf rfl fun a hf=>?_; refine nk<|W.ret<|post1 hf rfl (ResOK.tmp rfl)<|?_; obtain rfl:k=l.length:=by omega
      refine ⟨(),by rw [show m=Det.peakM zs l from Det.scan_best hsc],hS.sub (List.nil_sublist _) |>.noB⟩
set_option maxHeartbeats 1000000 in
set_option maxRecDepth 4000 in
theorem blob36 (fW fH:Int) (vP vL:Value) (zs l:List Int) (w0:World) (hP:rdOK (hp w0) 1 vP zs.length (ints zs)) (hL:rdOK (hp w0) 1 vL l.length (ints l)) (hne:l≠[]) (hl:l.Pairwise (·<·)) (hr:Det.InR zs.length l) (hbd:∀ j,j<zs.length→-4294967296≤zs.getD j 0∧zs.getD j 0≤4294967296) (hll:l.length≤10000) :
    Ret Tryz.prog 36 #[(fG fW fH vP),vL] w0 (G:=Unit) (fun _=>.agg #[vL,iV (Det.peakM zs l),iV (Det.sumM zs l)]) (fun _ w=>St w0 w noX [] []):=by
  refine ret_of_W (lv:=[(fG fW fH vP),vL]) Tryz.func36 rfl rfl rfl (fun a hf=>?_); replace hf:Fr a 32 [] [(0,(fG fW fH vP)),(1,vL)]:=hf; have hS:St w0 w0 noX [rI vP zs,rI vL l] []:=((St.refl w0).lend0 hL).lend0 hP; have hlen:=hP.2.1; unfold maxLen at hlen; refine W.seq ?_
  refine R2 rfl<|O.box (cs:=#[iV fW,iV fH,vP]) hf hS rfl rfl rfl rfl<|?_; intro b_m1 w a hbb_m1 hS hf; refine O.alloc (cs:=#[.slice none 0 0,iV 0,iV 0]) hf hS rfl rfl T_zero_57 rfl ?_; intro b_x2 w a hbb_x2 hS hf; refine nk<|W.seq<|?_
  refine W.regionL (l:=[0,1,2,3,4,5,6,7]) rfl<|mv hf rfl<|fun a hf=>?_; refine mv hf rfl fun a hf=>ov hf rfl (RunV.loadN (cs':=#[iV fW,iV fH,vP]) T_agg_61 T_size_61 rfl (hS.p 1 rfl) (bl rfl) rfl) fun a hf=>ov (v:=(fB 60 fW fH vP)) hf rfl (RunV.makeFunc rfl rfl rfl rfl) fun a hf=>?_; refine oc hf rfl C_ok_59 (min59 fW fH vP vL zs l _ (hS.rdAt (j:=0) rfl) (hS.rdAt (j:=1) rfl) hne hl hr) ?_; clear hf a; rintro _ w3 hS1 a hf; replace hS:=hS.cl hS1; have hcl4:=rdOK.cells (hS.rdAt (j:=1) rfl); refine ov hf rfl (RunV.buildS (cs':=#[vL,iV (Det.peakM zs l),iV 0]) T_places_57 T_zero_57 rfl (by simp only [Instr.fill,hcl4.1]; rfl)) fun a hf=>?_; refine O.alloc (cs:=#[.slice none 0 0,iV 0,iV 0]) hf hS rfl rfl T_zero_57 rfl ?_; intro b_b5 w a hbb_b5 hS hf; have hcl6:=rdOK.cells (hS.rdAt (j:=1) rfl); refine ost 0 #[vL,iV (Det.peakM zs l),iV 0] hf hS rfl rfl rfl T_size_57 rfl (oneCells_cc hcl6.2 (oneCells_cc rfl (oneCells_cc rfl rfl))) rfl (bl rfl) rfl ?_; intro w hS; refine nk<|W.seq<|W.seq<|?_
  refine R3 rfl<|mv hf rfl<|fun a hf=>ov hf rfl (RunV.lenV (e:=3) (by simpa using T_elem_26) rfl (hS.rdAt (j:=1) rfl)) fun a hf=>mv hf rfl fun a hf=>?_; refine nk ?_; replace hf:Fr a 32 [] [(2,_),(4,_),(5,_),(14,_),(15,_),(16,_)]:=hf.q rfl; refine W.block ?_
  refine W.loop (G:=(Nat) × (Int)) (fun g a w=>match g with | (k,sm)=>Fr a 32 [] [(2,(pp b_m1)),(4,(pp b_x2)),(5,(pp b_b5)),(14,vL),(15,iV (l.length:Int)),(16,iV k)]∧St w0 w noX [rI vP zs,rI vL l] [pt b_b5 (.cells #[vL,iV (Det.peakM zs l),iV sm] 57 (0,0)),pt b_x2 (.cells #[.slice none 0 0,iV 0,iV 0] 57 (0,0)),pt b_m1 (.cells #[iV fW,iV fH,vP] 61 (0,0))]∧(k≤l.length)∧(sm=Det.sumM zs (l.take k))) (fun g=>match g with | (k,sm)=>l.length-k) (0,0) ?_ ?_
  · refine ⟨hf.to ⟨rfl,rfl,rfl,rfl,rfl,(by first | rfl | exact vI (by omega)),trivial⟩,hS,?_,?_⟩
    · omega
    · simp [Det.sumM]
  clear hf hS a; rintro ⟨k,sm⟩ a w ⟨hf,hS,h1,h2⟩; refine W.seq ?_
  refine R1 rfl<|ov (v:=.bool (decide ((k:Int)<((l.length:Int):Int)))) hf rfl (RunV.lss rfl rfl)<|fun a hf=>?_; refine nk<|W.seq<|?_; refine W.ifdI hf rfl (fun hc7=>?_) (fun hc7=>?_)
  · refine W.skip ?_
    refine k_seq<|W.seq<|W.block<|W.seq<|?_
    refine R3 rfl<|ov hf rfl (RunV.ixV (j:=k) (m:=k) T_elem_26 T_size_3 rfl rfl (hS.rdAt (j:=1) rfl) rfl (by omega) (Nat.mul_one _))<|fun a hf=>ov hf rfl (RunV.ld1 T_agg_3 rfl (hS.rdAt (j:=1) rfl) (ints_get (by omega))) fun a hf=>mv hf rfl fun a hf=>?_; refine nk ?_; have hkr:=hr _ (Det.getD_mem (l:=l) (j:=k) (by omega)); have hzb:=hbd (Int.toNat (l.getD k 0)) (by omega); have hsb:=Det.sum_bd (P:=zs) (l:=l) (n:=0) (k:=k) hbd hr hll
    have hf1:Fr a 32 [] []:=hf.to trivial; replace hf:Fr a 32 [] [(2,_),(4,_),(5,_),(7,_),(14,_),(15,_),(16,_)]:=hf.q rfl
    let LZ310:List (Nat × Value):=[(2,(pp b_m1)),(4,(pp b_x2)),(5,(pp b_b5)),(7,iV (l.getD k 0)),(14,vL),(15,iV (l.length:Int)),(16,iV k)]
    let MZ310:List Asr:=[pt b_b5 (.cells #[vL,iV (Det.peakM zs l),iV sm] 57 (0,0)),pt b_x2 (.cells #[.slice none 0 0,iV 0,iV 0] 57 (0,0)),pt b_m1 (.cells #[iV fW,iV fH,vP] 61 (0,0))]
    let BZ310:List Asr:=[rI vP zs,rI vL l]
    refine W.drawD (γ:=Unit) (L0:=LZ310) (L1:=[]) () [10] [] [0,1,2,3,4,5,6,7,8,9] (fun i_=>match i_ with | 1=>[0] | 3=>[2] | 4=>[3] | 6=>[4,5] | 7=>[6] | 8=>[1,7] | 10=>[8,9] | _=>[]) (fun _=>[]) (fun _=>[]) (fun _=>[]) (fun _=>0) (fun i_=>match i_ with | 10=>1 | _=>0) (fun (g:Unit) j_=>match g,j_ with | _,0=>.pointer (some ⟨b_b5,2,none⟩) | _,1=>iV sm | _,2=>(pp b_m1) | _,3=>.pointer (some ⟨b_m1,2,none⟩) | _,4=>vP | _,5=>iV (l.getD k 0) | _,6=>ix vP (Int.toNat (l.getD k 0)) | _,7=>iV (zs.getD (Int.toNat (l.getD k 0)) 0) | _,8=>iV (sm+(zs.getD (Int.toNat (l.getD k 0)) 0)) | _,9=>.pointer (some ⟨b_b5,2,none⟩) | _,_=>undef) (fun k_ (_:Nat→Bool) (g:Unit) w=>match k_,g with | 0,_=>St w0 w noX BZ310 MZ310 | _,_=>St w0 w noX BZ310 [pt b_b5 (.cells #[vL,iV (Det.peakM zs l),iV (sm+(zs.getD (Int.toNat (l.getD k 0)) 0))] 57 (0,0)),pt b_x2 (.cells #[.slice none 0 0,iV 0,iV 0] 57 (0,0)),pt b_m1 (.cells #[iV fW,iV fH,vP] 61 (0,0))]) P_mixed (by kernel_rfl) (by kernel_rfl) (by kernel_rfl) hf hf1 hS.drew ?_ ?_ trivial ?_
    · clear hf hf1 hS
      refine ⟨?_,?_,?_,?_,?_,?_,?_,?_,?_,?_,trivial⟩
      · exact fun _ _ _ _ _ _ _ hD _ hf=>qv hf rfl (RunV.field T_field_57_2 rfl rfl) hD
      · exact s1 (fun _ _ _ _ hD _ hf=>qv hf rfl (RunV.load1 T_agg_2 rfl (hD.p 0 rfl) rfl) hD) rfl
      · exact fun _ _ _ _ _ _ _ hD _ hf=>qv hf rfl (RunV.field T_field_61_0 rfl rfl) hD
      · exact fun _ _ _ _ _ _ _ hD _ hf=>qv hf rfl (RunV.field T_field_24_2 rfl rfl) hD
      · exact s1 (fun _ _ _ _ hD _ hf=>qv hf rfl (RunV.load1 T_agg_22 rfl (hD.p 2 rfl) rfl) hD) rfl
      · exact qq fun _=>rfl
      · exact s1 (fun _ _ _ _ hD _ hf=>qv hf rfl (RunV.ixV (j:=(Int.toNat (l.getD k 0))) (m:=(Int.toNat (l.getD k 0))) T_elem_22 T_size_2 rfl rfl (hD.rdAt (j:=0) rfl) (by rw [Int.toNat_of_nonneg (by omega)]) (by omega) (Nat.mul_one _)) hD) rfl
      · exact s1 (fun _ _ _ _ hD _ hf=>qv hf rfl (RunV.ld1 T_agg_2 rfl (hD.rdAt (j:=0) rfl) (ints_get (by omega))) hD) rfl
      · exact fun _ _ _ _ _ _ _ hD _ hf=>qv hf rfl (RunV.addI rfl rfl (by omega)) hD
      · exact fun _ _ _ _ _ _ _ hD _ hf=>qv hf rfl (RunV.field T_field_57_2 rfl rfl) hD
    · clear hf hf1 hS
      refine ⟨?_,trivial⟩
      · intro s_ g w _ hD a hf
        have hS:=hD; clear hD; refine ost 0 #[vL,iV (Det.peakM zs l),iV (sm+(zs.getD (Int.toNat (l.getD k 0)) 0))] hf hS rfl rfl rfl T_size_2 rfl rfl rfl (bl rfl) rfl ?_; intro w hS; exact nU hf rfl (fun _=>rfl) hS
    clear hf hf1 hS; intro s_ g a w _ hf hD; have hS:=hD; clear hD; replace hf:Fr a 32 [] ((20,.pointer (some ⟨b_b5,2,none⟩))::(21,iV sm)::(22,(pp b_m1))::(23,.pointer (some ⟨b_m1,2,none⟩))::(24,vP)::(25,iV (l.getD k 0))::(26,ix vP (Int.toNat (l.getD k 0)))::(27,iV (zs.getD (Int.toNat (l.getD k 0)) 0))::(28,iV (sm+(zs.getD (Int.toNat (l.getD k 0)) 0)))::(29,.pointer (some ⟨b_b5,2,none⟩))::LZ310):=hf; refine k_blk_normal<|k_seq<|?_
    refine R2 rfl<|ov hf rfl (RunV.addI rfl rfl (by omega))<|fun a hf=>mv hf rfl fun a hf=>?_; refine O.nil ?_; refine k_then ⟨(k+1,sm+(zs.getD (Int.toNat (l.getD k 0)) 0)),⟨hf.to ⟨rfl,rfl,rfl,rfl,rfl,(by first | rfl | exact vI (by omega)),trivial⟩,?_,?_,?_⟩,?_⟩
    · exact hS.eqM rfl
    · omega
    · rw [Det.sum_take (by omega),← h2]
    · dsimp only; omega
  · refine W.exit ?_
    refine k_then_exit<|k_then_exit<|k_blk<|k_seq<|W.seq<|?_
    refine R2 rfl<|ov hf rfl (RunV.loadN (cs':=#[vL,iV (Det.peakM zs l),iV sm]) T_agg_57 T_size_57 rfl (hS.p 0 rfl) (bl rfl) rfl)<|fun a hf=>?_; have hcl8:=rdOK.cells (hS.rdAt (j:=1) rfl); refine ost 1 #[vL,iV (Det.peakM zs l),iV sm] hf hS rfl rfl rfl T_size_57 rfl (oneCells_cc hcl8.2 (oneCells_cc rfl (oneCells_cc rfl rfl))) rfl (bl rfl) rfl ?_; intro w hS; refine nk<|W.ret<|post1 hf rfl (ResOK.cellN (cs':=#[vL,iV (Det.peakM zs l),iV sm]) rfl T_agg_57 T_size_57 (hS.p 1 rfl) (bl rfl) rfl)<|?_; obtain rfl:k=l.length:=by omega
    rw [List.take_length] at h2; exact ⟨(),by rw [h2],hS.sub (List.nil_sublist _) |>.noB⟩
set_option maxHeartbeats 1000000 in
set_option maxRecDepth 4000 in
theorem clo38 (x y:BV) (w0:World) (hx:x.1.oneCell'=true) (hy:y.1.oneCell'=true) :
    Ret Tryz.prog 38 #[.agg #[x.1,iV x.2.peak,iV x.2.sum],.agg #[y.1,iV y.2.peak,iV y.2.sum]] w0 (G:=Unit) (fun _=>iV (Det.orM [Det.cmpI y.2.sum x.2.sum,Det.cmpI x.2.peak y.2.peak])) (fun _ w=>St w0 w noX [] []):=by
  refine ret_of_W (lv:=[.agg #[x.1,iV x.2.peak,iV x.2.sum],.agg #[y.1,iV y.2.peak,iV y.2.sum]]) Tryz.func38 rfl rfl rfl (fun a hf=>?_); replace hf:Fr a 17 [] [(0,.agg #[x.1,iV x.2.peak,iV x.2.sum]),(1,.agg #[y.1,iV y.2.peak,iV y.2.sum])]:=hf; have hS:St w0 w0 noX [] []:=St.refl w0; refine W.seq ?_
  refine R3 rfl<|O.box (cs:=#[x.1,iV x.2.peak,iV x.2.sum]) hf hS rfl rfl rfl rfl<|?_; intro b_a1 w a hbb_a1 hS hf; refine O.box (cs:=#[y.1,iV y.2.peak,iV y.2.sum]) hf hS rfl rfl rfl rfl ?_; intro b_b2 w a hbb_b2 hS hf; refine mv hf rfl fun a hf=>?_; refine nk ?_; replace hf:Fr a 17 [] [(2,_),(3,_),(4,_)]:=hf.q rfl; refine W.seq ?_
  refine W.drawM (l₂:=[10,11,12]) (fun w=>St w0 w noX [] [pt b_b2 (.cells #[y.1,iV y.2.peak,iV y.2.sum] 57 (0,0)),pt b_a1 (.cells #[x.1,iV x.2.peak,iV x.2.sum] 57 (0,0))]) 10 P_mixed rfl rfl rfl (by kernel_rfl) hS.drew ?_; clear hS; refine OQ.val (v:=.pointer (some ⟨b_b2,2,none⟩)) hf rfl (fun w hS=>RunV.field T_field_57_2 rfl rfl) fun a hf=>OQ.val (v:=iV y.2.sum) hf rfl (fun w hS=>RunV.load1 T_agg_2 rfl (hS.p 0 rfl) rfl) fun a hf=>OQ.val (v:=.pointer (some ⟨b_a1,2,none⟩)) hf rfl (fun w hS=>RunV.field T_field_57_2 rfl rfl) fun a hf=>OQ.val (v:=iV x.2.sum) hf rfl (fun w hS=>RunV.load1 T_agg_2 rfl (hS.p 1 rfl) rfl) fun a hf=>OQ.callRq (v:=iV (Det.cmpI y.2.sum x.2.sum)) hf rfl (fun w hS=>RunE.call (av:=#[iV y.2.sum,iV x.2.sum]) C_ok_40 rfl rfl rfl) (fun w hS=>cmp40 y.2.sum x.2.sum _) fun a hf=>OQ.val (v:=.pointer (some ⟨b_a1,1,none⟩)) hf rfl (fun w hS=>RunV.field T_field_57_1 rfl rfl) fun a hf=>OQ.val (v:=iV x.2.peak) hf rfl (fun w hS=>RunV.load1 T_agg_3 rfl (hS.p 1 rfl) rfl) fun a hf=>OQ.val (v:=.pointer (some ⟨b_b2,1,none⟩)) hf rfl (fun w hS=>RunV.field T_field_57_1 rfl rfl) fun a hf=>OQ.val (v:=iV y.2.peak) hf rfl (fun w hS=>RunV.load1 T_agg_3 rfl (hS.p 0 rfl) rfl) fun a hf=>OQ.callRq (v:=iV (Det.cmpI x.2.peak y.2.peak)) hf rfl (fun w hS=>RunE.call (av:=#[iV x.2.peak,iV y.2.peak]) C_ok_32 rfl rfl rfl) (fun w hS=>cmp32 x.2.peak y.2.peak _) fun a hf=>?_; refine OQ.nil ?_; intro w hS; refine O.buildSlice (cs':=#[iV (Det.cmpI y.2.sum x.2.sum),iV (Det.cmpI x.2.peak y.2.peak)]) (zs:=#[iV 0,iV 0]) hf hS rfl rfl T_elem_26 T_size_3 T_zero_3 rfl rfl rfl rfl rfl ?_; intro b_s3 w a hbb_s3 hS hf; refine oc hf rfl C_ok_39 (or39_spec (.slice (some ⟨b_s3,0,none⟩) 2 2) [Det.cmpI y.2.sum x.2.sum,Det.cmpI x.2.peak y.2.peak] _ (hS.rdPt (j:=0) rfl (by decide) rfl rfl)) ?_; clear hf a; rintro _ w4 hS1 a hf; replace hS:=hS.cl hS1; refine mv hf rfl fun a hf=>?_; refine nk<|W.ret<|post1 hf rfl (ResOK.tmp rfl)<|?_; exact ⟨(),rfl,hS.sub (List.nil_sublist _) |>.noB⟩
theorem eg38:∀ args w,(callFunc 38 args).run Tryz.prog w=.ok (.enter 38 args) w:=enters_of Tryz.func38 (by kernel_rfl) rfl
open Go.Sort in
theorem sort37_spec (va:Value) (L:List BV) (w0:World) (hX:slOK (hp w0) 57 3 va L.length (encs eB L)) (hvl:L.length≤500) (hia:innOK (hp w0) (L.map (·.1)) (L.map (·.2.px))) (hap:∀ p q,p<L.length→q<L.length→(L.getD p default).2.peak=(L.getD q default).2.peak→p=q) :
    Ret Tryz.prog 37 #[va,.func (.func 38) #[] #[]] w0 (G:=List Nat) (fun _=>.tuple #[]) (fun is w=>St w0 w (fun b=>va.ownBlock=some b) [] [sl 57 3 va (pickB L is).length (encs eB (pickB L is))]∧is.Perm (List.range L.length)∧(pickB L is).Pairwise (fun a b=>Det.leB a.2 b.2)):=by
  let T:={i:Nat // i<max 1 L.length}
  haveI:Inhabited T:=⟨⟨0,by omega⟩⟩
  let E:T→List Value:=fun i=>eB (L.getD i.1 default)
  let cf:T→T→Int:=fun i j=>Det.orM [Det.cmpI (L.getD j.1 default).2.sum (L.getD i.1 default).2.sum,Det.cmpI (L.getD i.1 default).2.peak (L.getD j.1 default).2.peak]
  have hlt:∀ i j,ltOf cf i j=decide ((L.getD j.1 default).2.sum<(L.getD i.1 default).2.sum∨((L.getD j.1 default).2.sum=(L.getD i.1 default).2.sum∧(L.getD i.1 default).2.peak<(L.getD j.1 default).2.peak)):=fun i j=>by
    unfold ltOf; exact decide_eq_decide.2 Det.or2_neg
  have hO:SWO (ltOf cf):=⟨fun x=>by rw [hlt,decide_eq_false_iff_not]; omega,fun x y z h1 h2=>by rw [hlt,decide_eq_true_eq] at *; omega,fun x y z h1 h2=>by rw [hlt,decide_eq_false_iff_not] at *; omega⟩
  have hT:∀ x y,ltOf cf x y=false→ltOf cf y x=false→x=y:=fun x y h1 h2=>by
    rw [hlt,decide_eq_false_iff_not] at h1 h2
    refine Subtype.ext ?_
    have hx:=x.2
    have hy:=y.2
    by_cases h0:L.length=0
    · omega
    · exact hap _ _ (by omega) (by omega) (by omega)
  let l:List T:=(List.range L.length).pmap (fun i hi=>⟨i,Nat.lt_of_lt_of_le hi (Nat.le_max_right _ _)⟩) (fun i hi=>List.mem_range.1 hi)
  have hl1:l.map (·.1)=List.range L.length:=by simp [l,List.map_pmap]
  have hll:l.length=L.length:=by simp [l]
  have henc:∀ m:List T,encs E m=encs eB (pickB L (m.map (·.1))):=fun m=>by
    unfold encs pickB
    rw [List.map_map,List.flatMap_map]; rfl
  have hlE:encs E l=encs eB L:=by rw [henc,hl1]; unfold pickB; rw [range_all]
  have ho:∀ x:T,(L.getD x.1 default).1.oneCell'=true:=fun x=>by
    have hx:=x.2
    by_cases h0:L.length=0
    · exact nilB_one h0
    · exact innB_one hia (by omega)
  have h1:∀ x,∀ v ∈ E x,v.oneCell'=true:=fun x v hv=>by
    have hv:v=(L.getD x.1 default).1∨v=iV (L.getD x.1 default).2.peak∨v=iV (L.getD x.1 default).2.sum:=by simpa [E,eB] using hv
    rcases hv with rfl | rfl | rfl
    · exact ho x
    · rfl
    · rfl
  have hc:=sortF_G (E:=E) (k:=3) Tryz.sortB rfl (by intro w; kernel_rfl) (by intro w; kernel_rfl) (fun _=>rfl) h1 cf hO hT eg38 57 va l w0 (by rw [hll,hlE]; exact hX) (by omega) (fun x y W _ _=>by
    refine Calls.mono (ret_grown (clo38 (L.getD x.1 default) (L.getD y.1 default) W (ho x) (ho y)) (fun g w' h=>⟨[],h⟩)) ?_
    rintro e w ⟨_,rfl,_,h⟩
    exact ⟨rfl,h⟩)
  refine Calls.mono hc ?_
  rintro e w ⟨_,rfl,hS⟩
  refine ⟨(srtF (ltOf cf) l).map (·.1),rfl,?_,?_,?_⟩
  · unfold slE at hS
    rw [henc] at hS
    rw [show (pickB L ((srtF (ltOf cf) l).map (·.1))).length=(srtF (ltOf cf) l).length from by rw [pickB_len,List.length_map]]
    exact hS
  · rw [← hl1]; exact (List.mergeSort_perm l _).map _
  · unfold pickB
    rw [List.pairwise_map,List.pairwise_map]
    have hp:=List.pairwise_mergeSort (le:=fun x y=>!ltOf cf y x) (fun a b c h1 h2=>by
      rw [Bool.not_eq_true'] at *; exact hO.ntrans _ _ _ h2 h1) (fun a b=>by
      rw [hlt,hlt]; simp only [Bool.or_eq_true,Bool.not_eq_true',decide_eq_false_iff_not]; omega) l
    refine hp.imp fun {a b} h=>?_
    rw [Bool.not_eq_true',hlt,decide_eq_false_iff_not] at h
    unfold Det.leB
    omega
set_option maxHeartbeats 1000000 in
set_option maxRecDepth 4000 in
theorem find11_bad (fW fH thr least:Int) (vP vB vv:Value) (zs:List Int) (bs:List Bool) (lv:List Int) (w0:World) (hfo:¬ Det.fieldOK fW fH zs) (hP:rdOK (hp w0) 1 vP zs.length (ints zs)) (hB:rdOK (hp w0) 1 vB bs.length (bools bs)) (hv:rdOK (hp w0) 1 vv lv.length (ints lv)) (hft:vfit vv) :
    Ret Tryz.prog 11 #[(fG fW fH vP),vB,iV thr,iV least,vv] w0 (G:=Value × List BV) (fun g=>.tuple #[g.1,iV (Det.findE fW fH thr least zs bs lv)]) (fun g w=>St w0 w noX [] [sl 57 3 g.1 g.2.length (encs eB g.2),inn (g.2.map (·.1)) (g.2.map (·.2.px))]∧g.2.map (·.2)=Det.findR fW fH thr least zs bs lv):=by
  refine ret_of_W (lv:=[(fG fW fH vP),vB,iV thr,iV least,vv]) Tryz.func11 rfl rfl rfl (fun a hf=>?_); replace hf:Fr a 69 [] [(0,(fG fW fH vP)),(1,vB),(2,iV thr),(3,iV least),(4,vv)]:=hf; have hS:St w0 w0 noX [rI vP zs,rdv 1 vB bs.length (bools bs),rI vv lv] []:=(((St.refl w0).lend0 hv).lend0 hB).lend0 hP; refine W.seq ?_
  refine R3 rfl<|O.box (cs:=#[iV fW,iV fH,vP]) hf hS rfl rfl rfl rfl<|?_; intro b_f1 w a hbb_f1 hS hf; refine mv hf rfl fun a hf=>mv hf rfl fun a hf=>?_; refine nk<|W.seq<|W.seq<|?_
  refine R3 rfl<|ov hf rfl (RunV.loadN (cs':=#[iV fW,iV fH,vP]) T_agg_24 T_size_24 rfl (hS.p 0 rfl) (bl rfl) rfl)<|fun a hf=>?_; refine oc hf rfl C_ok_25 (check11_bad fW fH vP zs _ hfo (hS.rdAt (j:=0) rfl)) ?_; clear hf a; rintro _ w2 hS1 a hf; replace hS:=hS.cl hS1; refine mv hf rfl fun a hf=>?_; refine nk<|W.seq<|?_
  refine R2 rfl<|mv hf rfl<|fun a hf=>ov hf rfl (RunV.toB (c:=true) (RunV.neq rfl rfl) (by decide)) fun a hf=>?_; refine nk<|W.if_tt hf rfl<|W.seq<|?_
  refine R3 rfl<|mv hf rfl<|fun a hf=>mv hf rfl fun a hf=>mv hf rfl fun a hf=>?_; refine nk<|W.ret<|k_then_ret<|post2 hf rfl (ResOK.tmp rfl) (ResOK.tmp rfl)<|?_; have he:=Det.find_8 (thr:=thr) (least:=least) (bs:=bs) (lv:=lv) hfo; exact ⟨(.slice none 0 0,[]),congrArg (fun e=>Ending.returned (.tuple #[_,iV e])) he.1.symm,St.pushB (hS.sub (List.nil_sublist _) |>.noB),by rw [he.2]; rfl⟩
set_option maxHeartbeats 1000000 in
set_option maxRecDepth 4000 in
theorem find11_ok (fW fH:Nat) (thr least:Int) (vP vB vv:Value) (zs:List Int) (bs:List Bool) (lv:List Int) (w0:World) [Decidable (Det.rising lv)] (hfo:Det.fieldOK (fW:Int) (fH:Int) zs) (hW:1≤fW∧fW≤100) (hH:1≤fH∧fH≤100) (hn:zs.length=fW*fH) (hP:rdOK (hp w0) 1 vP zs.length (ints zs)) (hB:rdOK (hp w0) 1 vB bs.length (bools bs)) (hv:rdOK (hp w0) 1 vv lv.length (ints lv)) (hft:vfit vv) :
    Ret Tryz.prog 11 #[(fG fW fH vP),vB,iV thr,iV least,vv] w0 (G:=Value × List BV) (fun g=>.tuple #[g.1,iV (Det.findE (fW:Int) (fH:Int) thr least zs bs lv)]) (fun g w=>St w0 w noX [] [sl 57 3 g.1 g.2.length (encs eB g.2),inn (g.2.map (·.1)) (g.2.map (·.2.px))]∧g.2.map (·.2)=Det.findR (fW:Int) (fH:Int) thr least zs bs lv):=by
  refine ret_of_WM (lv:=[(fG fW fH vP),vB,iV thr,iV least,vv]) Tryz.func11 rfl rfl rfl (fun a hf=>?_); replace hf:Fr a 69 [] [(0,(fG fW fH vP)),(1,vB),(2,iV thr),(3,iV least),(4,vv)]:=hf; have hS:St w0 w0 noX [rI vP zs,rdv 1 vB bs.length (bools bs),rI vv lv] []:=(((St.refl w0).lend0 hv).lend0 hB).lend0 hP; have hN:fW*fH≤10000:=Nat.mul_le_mul hW.2 hH.2; have hlen:=hP.2.1; unfold maxLen at hlen; have hlev:=hv.2.1; unfold maxLen at hlev; haveI:Decidable (Det.fieldOK (fW:Int) (fH:Int) zs):=.isTrue hfo; refine W.seq ?_
  refine R3 rfl<|O.box (cs:=#[iV fW,iV fH,vP]) hf hS rfl rfl rfl rfl<|?_; intro b_f1 w a hbb_f1 hS hf; refine mv hf rfl fun a hf=>mv hf rfl fun a hf=>?_; refine nk<|W.seq<|W.seq<|?_
  refine R3 rfl<|ov hf rfl (RunV.loadN (cs':=#[iV fW,iV fH,vP]) T_agg_24 T_size_24 rfl (hS.p 0 rfl) (bl rfl) rfl)<|fun a hf=>?_; refine oc hf rfl C_ok_25 (check11_ok (fW:Int) (fH:Int) vP zs _ hfo (hS.rdAt (j:=0) rfl)) ?_; clear hf a; rintro _ w2 hS1 a hf; replace hS:=hS.cl hS1; refine mv hf rfl fun a hf=>?_; refine nk<|W.seq<|?_
  refine R2 rfl<|mv hf rfl<|fun a hf=>ov hf rfl (RunV.toB (c:=false) (RunV.neq rfl rfl) (by decide)) fun a hf=>?_; refine nk<|W.if_ff hf rfl<|W.skip<|k_seq<|W.seq<|W.seq<|?_
  refine R3 rfl<|mv hf rfl<|fun a hf=>ov hf rfl (RunV.lenV (e:=2) (by simpa using T_elem_22) rfl (hS.rdAt (j:=2) rfl)) fun a hf=>ov (v:=.bool (decide ((lv.length:Int)>(20:Int)))) hf rfl (RunV.gtr rfl rfl) fun a hf=>?_; refine nk ?_; refine W.ifdI hf rfl (fun h20=>?_) (fun h20=>?_)
  · refine W.seq ?_
    refine R2 rfl<|mv hf rfl<|fun a hf=>mv hf rfl fun a hf=>?_; refine nk<|W.ret<|k_then_ret<|?_; replace hS:=hS.mk0; refine postM hS hf ?_; clear hS hf a; intro w a hf hS; refine post2 hf rfl (ResOK.tmp rfl) (ResOK.tmp rfl) ?_; have he:=Det.find_4 (thr:=thr) (least:=least) (bs:=bs) (lv:=lv) hfo (show 20<lv.length by omega); exact ⟨(.slice none 0 0,[]),congrArg (fun e=>Ending.returned (.tuple #[_,iV e])) he.1.symm,St.pushB (hS.sub (List.nil_sublist _) |>.noB),by rw [he.2]; rfl⟩
  · refine W.skip ?_
    refine k_seq<|W.seq<|?_
    refine W.regionL (l:=[0,1,2,3,4,5,6,7,8,9]) rfl<|ov hf rfl (RunV.loadN (cs':=#[iV fW,iV fH,vP]) T_agg_24 T_size_24 rfl (hS.p 0 rfl) (bl rfl) rfl)<|fun a hf=>?_; refine mv hf rfl fun a hf=>mv hf rfl fun a hf=>mv hf rfl fun a hf=>?_; refine oc hf rfl C_ok_17 (parts6_spec (fW:Int) (fH:Int) thr least vP vB zs bs _ (hS.rdAt (j:=0) rfl) (hS.rdAt (j:=1) rfl)) ?_; clear hf a; rintro ⟨vs,us⟩ w4 hS1 a hf; try dsimp only at hS1 hf; replace hS:=hS.cl hS1; refine mv hf rfl fun a hf=>ov hf rfl (RunV.extract rfl rfl) fun a hf=>ov hf rfl (RunV.extract rfl rfl) fun a hf=>mv hf rfl fun a hf=>mv hf rfl fun a hf=>?_; refine nk<|W.seq<|W.seq<|?_
    refine R2 rfl<|mv hf rfl<|fun a hf=>ov (v:=.bool (decide ((Det.partsE (fW:Int) (fH:Int) zs bs thr least)≠(0:Int)))) hf rfl (RunV.neq rfl rfl) fun a hf=>?_; refine nk ?_; refine W.ifdI hf rfl (fun hbE=>?_) (fun hbE=>?_)
    · refine W.seq ?_
      refine R3 rfl<|mv hf rfl<|fun a hf=>mv hf rfl fun a hf=>mv hf rfl fun a hf=>?_; refine nk<|W.ret<|k_then_ret<|?_; replace hS:=hS.mk0; refine postM hS hf ?_; clear hS hf a; intro w a hf hS; refine post2 hf rfl (ResOK.tmp rfl) (ResOK.tmp rfl) ?_; have he:=Det.find_p (thr:=thr) (least:=least) (bs:=bs) (lv:=lv) hfo (show ¬ 20<lv.length by omega) (by simpa using hbE); exact ⟨(.slice none 0 0,[]),congrArg (fun e=>Ending.returned (.tuple #[_,iV e])) he.1.symm,St.pushB (hS.sub (List.nil_sublist _) |>.noB),by rw [he.2]; rfl⟩
    · have hE:(Det.partsE (fW:Int) (fH:Int) zs bs thr least)=0:=by simpa using hbE
      have hpe:=Det.partsE_ok hE; have hbl:(Det.bright zs bs thr (fW*fH)).length=fW*fH:=Det.bright_len _; obtain ⟨ps,hps⟩:∃ ps,ps=(Det.partsR (fW:Int) (fH:Int) zs bs thr least):=⟨_,rfl⟩; rw [← hps] at hS; rw [Det.sets_of hE hn] at hps; unfold Det.sets at hps; have hul:=(hS.innAt (j:=1) rfl).1; have hum:=(hS.slAt (j:=0) rfl).nle; unfold maxLen at hum; refine W.skip<|k_seq<|W.seq<|W.seq<|?_
      refine R3 rfl<|mv hf rfl<|fun a hf=>?_; refine oc hf rfl C_ok_27 (rising27_spec vv lv _ (hS.rdAt (j:=2) rfl)) ?_; clear hf a; rintro _ w6 hS1 a hf; replace hS:=hS.cl hS1; refine ov (v:=.bool (!(decide (Det.rising lv)))) hf rfl (RunV.not rfl) fun a hf=>?_; refine nk ?_; refine W.if_ hf rfl (fun hbri=>?_) (fun hbri=>?_)
      · have hbrib:=hbri
        try simp only [bsm] at hbri
        refine W.seq ?_
        refine R2 rfl<|mv hf rfl<|fun a hf=>mv hf rfl fun a hf=>?_; refine nk<|W.ret<|k_then_ret<|?_; replace hS:=hS.mk0; refine postM hS hf ?_; clear hS hf a; intro w a hf hS; refine post2 hf rfl (ResOK.tmp rfl) (ResOK.tmp rfl) ?_; have he:=Det.find_2 (thr:=thr) (least:=least) (bs:=bs) (lv:=lv) hfo (show ¬ 20<lv.length by omega) hE (by simpa using hbri); exact ⟨(.slice none 0 0,[]),congrArg (fun e=>Ending.returned (.tuple #[_,iV e])) he.1.symm,St.pushB (hS.sub (List.nil_sublist _) |>.noB),by rw [he.2]; rfl⟩
      · have hbrib:=hbri
        try simp only [bsm] at hbri
        have hri:Det.rising lv:=by simpa using hbri
        refine W.skip<|k_seq<|W.seq<|?_
        refine R4 rfl<|ov hf rfl (RunV.loadN (cs':=#[iV fW,iV fH,vP]) T_agg_24 T_size_24 rfl (hS.p 2 rfl) (bl rfl) rfl)<|fun a hf=>ov hf rfl (RunV.buildS (cs':=#[iV fW,iV fH,vP]) T_places_61 T_zero_61 rfl rfl) fun a hf=>?_; refine O.alloc (cs:=#[iV 0,iV 0,.slice none 0 0]) hf hS rfl rfl T_zero_61 rfl ?_; intro b_m8 w a hbb_m8 hS hf; have hcl9:=rdOK.cells (hS.rdAt (j:=0) rfl); refine ost 0 #[iV fW,iV fH,vP] hf hS rfl rfl rfl T_size_61 rfl (oneCells_cc rfl (oneCells_cc rfl (oneCells_cc hcl9.2 rfl))) rfl (bl rfl) rfl ?_; intro w hS; refine nk<|W.seq<|?_
        refine R1 rfl<|O.alloc (cs:=#[.slice none 0 0]) hf hS rfl rfl T_zero_34 rfl<|?_; intro b_out10 w a hbb_out10 hS hf; refine nk<|W.seq<|W.seq<|?_
        refine R3 rfl<|mv hf rfl<|fun a hf=>ov hf rfl (RunV.lenV (e:=26) (by simpa using T_elem_28) rfl (hS.slr (j:=2) rfl)) fun a hf=>mv hf rfl fun a hf=>?_; refine nk<|W.block<|?_; replace hS:St w0 _ noX [rI vP zs,rdv 1 vB bs.length (bools bs),rI vv lv] [inn (([]:List BV).map (·.1)) (([]:List BV).map (·.2.px)),pt b_out10 (.cells #[(.slice none 0 0)] 34 (0,0)),pt b_m8 (.cells #[iV fW,iV fH,vP] 61 (0,0)),sl 26 1 vs us.length us,inn us ps,pt b_f1 (.cells #[iV fW,iV fH,vP] 24 (0,0))]:=hS.innNil; replace hS:St w0 _ noX [rI vP zs,rdv 1 vB bs.length (bools bs),rI vv lv] [sl 57 3 (.slice none 0 0) (([]:List BV).length) (encs eB ([]:List BV)),inn (([]:List BV).map (·.1)) (([]:List BV).map (·.2.px)),pt b_out10 (.cells #[(.slice none 0 0)] 34 (0,0)),pt b_m8 (.cells #[iV fW,iV fH,vP] 61 (0,0)),sl 26 1 vs us.length us,inn us ps,pt b_f1 (.cells #[iV fW,iV fH,vP] 24 (0,0))]:=hS.nilSl 57 3; replace hS:=hS.mk0; replace hf:Fr a 69 (mkDs []) [(3,_),(4,_),(10,_),(11,_),(15,_),(16,_),(44,_),(45,_),(46,_)]:=hf.q rfl
        refine W.loop (G:=(Nat) × (Value) × (List BV) × (List Nat)) (fun g a w=>match g with | (n,vt,L,Ds)=>Fr a 69 (mkDs Ds) [(3,iV least),(4,vv),(10,.slice none 0 0),(11,iV 0),(15,(pp b_m8)),(16,(pp b_out10)),(44,vs),(45,iV (us.length:Int)),(46,iV n)]∧St w0 w noX [rI vP zs,rdv 1 vB bs.length (bools bs),rI vv lv] [mkA Ds,sl 57 3 vt L.length (encs eB L),inn (L.map (·.1)) (L.map (·.2.px)),pt b_out10 (.cells #[vt] 34 (0,0)),pt b_m8 (.cells #[iV fW,iV fH,vP] 61 (0,0)),sl 26 1 vs us.length us,inn us ps,pt b_f1 (.cells #[iV fW,iV fH,vP] 24 (0,0))]∧(n≤us.length)∧(L.map (·.2)=(Det.foundB zs fW fH least lv ps n))) (fun g=>match g with | (n,vt,L,Ds)=>us.length-n) (0,(.slice none 0 0),[],[]) ?_ ?_
        · refine ⟨hf.to ⟨rfl,rfl,rfl,rfl,rfl,rfl,rfl,rfl,(by first | rfl | exact vI (by omega)),trivial⟩,hS,?_,?_⟩
          · omega
          · rw [Det.foundB_0]; rfl
        clear hf hS a; rintro ⟨n,vt,L,Ds⟩ a w ⟨hf,hS,h1,h5⟩
        skip
        refine W.seq ?_
        refine R1 rfl<|ov (v:=.bool (decide ((n:Int)<((us.length:Int):Int)))) hf rfl (RunV.lss rfl rfl)<|fun a hf=>?_; refine nk<|W.seq<|?_; refine W.ifdI hf rfl (fun hn1=>?_) (fun hn1=>?_)
        · refine W.skip ?_
          refine k_seq<|W.seq<|W.block<|W.seq<|?_
          refine R3 rfl ?_; have hl4:=(hS.innAt (j:=6) rfl).get (i:=n) (by omega) |>.2.1; unfold maxLen at hl4; refine ov hf rfl (RunV.ixV (j:=n) (m:=n) T_elem_28 T_size_26 rfl rfl (hS.slr (j:=5) rfl) rfl (by omega) (Nat.mul_one _)) fun a hf=>ov hf rfl (RunV.ld1 T_agg_26 rfl (hS.slr (j:=5) rfl) (vs_get (by omega))) fun a hf=>mv hf rfl fun a hf=>?_; refine O.nil ?_; have hokS:=(Det.parts_set hbl hps).1 _ (Det.at_mem (ss:=ps) (q:=n) (by omega)); refine k_seq<|W.seq<|?_
          refine R5 rfl<|ov hf rfl (RunV.loadN (cs':=#[iV fW,iV fH,vP]) T_agg_61 T_size_61 rfl (hS.p 4 rfl) (bl rfl) rfl)<|fun a hf=>mv hf rfl fun a hf=>mv hf rfl fun a hf=>mv hf rfl fun a hf=>?_; refine oc hf rfl C_ok_29 (div29 fW fH least vP (us.getD n undef) vv zs (ps.getD n []) lv _ (hS.rdAt (j:=0) rfl) ((hS.innAt (j:=6) rfl).get (by omega)) (hS.rdAt (j:=2) rfl)) ?_; clear hf a; rintro gb w12 hS1 a hf; replace hS:=hS.cl hS1; refine nk<|W.block<|?_; replace hS:=hS.fr 6; replace hS:=hS.fr 6; replace hS:=hS.fr 7
          refine W.rangeFnM (G:=(Value) × (List BV)) (e:=3) (xss:=(Det.divideM zs fW fH least lv (ps.getD n []))) (fun x=>(19,x)::[(15,(pp b_m8)),(16,(pp b_out10))]) (fun g=>match g with | (vu,Lc)=>[pt b_out10 (.cells #[vu] 34 (0,0)),sl 57 3 vu Lc.length (encs eB Lc),inn (Lc.map (·.1)) (Lc.map (·.2.px))]) [pt gb.1 (.cells #[vv] 22 (0,0)),pt gb.2.1 (.cells #[(us.getD n undef)] 26 (0,0)),pt gb.2.2.1 (.cells #[iV fW,iV fH,vP] 61 (0,0)),pt gb.2.2.2 (.cells #[iV least] 3 (0,0)),mkA Ds,pt b_m8 (.cells #[iV fW,iV fH,vP] 61 (0,0)),sl 26 1 vs us.length us,inn us ps,pt b_f1 (.cells #[iV fW,iV fH,vP] 24 (0,0))] (divBL fW fH least vP (us.getD n undef) vv zs (ps.getD n []) lv gb.1 gb.2.1 gb.2.2.1 gb.2.2.2) (fun j g=>match g with | (vu,Lc)=>(Lc.map (·.2)=(Det.foundB zs fW fH least lv ps n)++((Det.divideM zs fW fH least lv (ps.getD n [])).take j).map (Det.blobM zs))) (vt,L) hf rfl rfl C_ok_51 hS ?_ (div_iter fW fH least vP zs hW hH hn hpe.2.2 lv.length lv (Nat.le_refl _) gb.1 gb.2.1 gb.2.2.1 gb.2.2.2 (us.getD n undef) vv (ps.getD n []) hokS hft) ?_ ?_ ?_ ?_
          · skip
            dsimp only; rw [h5]; simp
          · clear hf hS; intro w1 X1 M1 hS
            intro p hp; simp only [divBL,List.mem_cons,List.not_mem_nil,or_false] at hp
            rcases hp with rfl | rfl | rfl | rfl | rfl | rfl | rfl
            · exact Lt.at hS (i:=0) rfl
            · exact Lt.at hS (i:=1) rfl
            · exact Lt.at hS (i:=2) rfl
            · exact Lt.at hS (i:=3) rfl
            · exact Lt.at hS (i:=9) rfl
            · exact Lt.inn hS (i:=7) (j:=n) rfl (by omega)
            · exact Lt.at hS (i:=11) rfl
          · intro l x w a hf
            refine R1 rfl<|ov (v:=x) hf rfl (RunV.assign rfl) fun a hf=>?_; refine O.nil ⟨rfl,hf.q rfl,rfl⟩
          · clear hf hS; rintro lr o_ D j x v ⟨vu,Lc⟩ w0 hx h6 hO hS a hf
            obtain ⟨Xb,hXb⟩:∃ q,q=fps [sl 3 1 v x.length (ints x),pt lr o_,pt D (.deferred (some [])),pt b_out10 (.cells #[vu] 34 (0,0)),sl 57 3 vu Lc.length (encs eB Lc),inn (Lc.map (·.1)) (Lc.map (·.2.px))]:=⟨_,rfl⟩; replace hS:St w0 w0 Xb [pt gb.1 (.cells #[vv] 22 (0,0)),pt gb.2.1 (.cells #[(us.getD n undef)] 26 (0,0)),pt gb.2.2.1 (.cells #[iV fW,iV fH,vP] 61 (0,0)),pt gb.2.2.2 (.cells #[iV least] 3 (0,0)),mkA Ds,pt b_m8 (.cells #[iV fW,iV fH,vP] 61 (0,0)),sl 26 1 vs us.length us,inn us ps,pt b_f1 (.cells #[iV fW,iV fH,vP] 24 (0,0)),rI vP zs,rdv 1 vB bs.length (bools bs),rI vv lv] [sl 3 1 v x.length (ints x),pt lr o_,pt D (.deferred (some [])),pt b_out10 (.cells #[vu] 34 (0,0)),sl 57 3 vu Lc.length (encs eB Lc),inn (Lc.map (·.1)) (Lc.map (·.2.px))]:=by rw [hXb]; exact hS
            have hxl:=(hS.slAt (j:=0) rfl).nle; unfold maxLen at hxl; have hxo:=((Det.divide_ok (P:=zs) hpe.2.2 lv _ hokS).1 x (List.mem_of_getElem? hx)).1; have hxr:Det.InR zs.length x:=fun t ht=>by have:=hxo.rng t ht; rw [hn]; exact this
            have hxl2:x.length≤10000:=Det.asc_lele hxo.asc hxo.rng hN; dsimp only at h6; have hLl:Lc.length≤20000:=by
              have e1:=congrArg List.length h6; have e2:=Det.foundB_le (P:=zs) (lv:=lv) (k:=n) hpe.2.2 hbl hps; have e3:=Det.divide_len (P:=zs) (levels:=lv) hpe.2.2 hokS; rw [List.length_map,List.length_append,List.length_map,List.length_take] at e1
              omega
            refine W.block ?_
            have hf1:Fr a 69 [] []:=hf.to trivial; replace hf:Fr a 69 [] [(15,_),(16,_),(19,_)]:=hf.q rfl
            let LZ950:List (Nat × Value):=[(15,(pp b_m8)),(16,(pp b_out10)),(19,v)]
            let MZ950:List Asr:=[sl 3 1 v x.length (ints x),pt lr o_,pt D (.deferred (some [])),pt b_out10 (.cells #[vu] 34 (0,0)),sl 57 3 vu Lc.length (encs eB Lc),inn (Lc.map (·.1)) (Lc.map (·.2.px))]
            let BZ950:List Asr:=[pt gb.1 (.cells #[vv] 22 (0,0)),pt gb.2.1 (.cells #[(us.getD n undef)] 26 (0,0)),pt gb.2.2.1 (.cells #[iV fW,iV fH,vP] 61 (0,0)),pt gb.2.2.2 (.cells #[iV least] 3 (0,0)),mkA Ds,pt b_m8 (.cells #[iV fW,iV fH,vP] 61 (0,0)),sl 26 1 vs us.length us,inn us ps,pt b_f1 (.cells #[iV fW,iV fH,vP] 24 (0,0)),rI vP zs,rdv 1 vB bs.length (bools bs),rI vv lv]
            refine W.drawD (γ:=(Nat) × (Value)) (L0:=LZ950) (L1:=[]) (0,default) [4,5,6] [] [0,1,2,3] (fun i_=>match i_ with | 3=>[1,2] | 4=>[3] | 5=>[0,4] | 6=>[5] | _=>[]) (fun _=>[]) (fun i_=>match i_ with | 4=>[5,6] | 5=>[6] | _=>[]) (fun _=>[]) (fun i_=>match i_ with | 5=>1 | 6=>2 | _=>0) (fun i_=>match i_ with | 0=>1 | 4=>1 | 5=>2 | 6=>3 | _=>0) (fun (g:(Nat) × (Value)) j_=>match g,j_ with | ⟨b_s14,v17⟩,0=>vu | ⟨b_s14,v17⟩,1=>(fG fW fH vP) | ⟨b_s14,v17⟩,2=>v | ⟨b_s14,v17⟩,3=>.agg #[v,iV (Det.peakM zs x),iV (Det.sumM zs x)] | ⟨b_s14,v17⟩,4=>.slice (some ⟨b_s14,0,none⟩) 1 1 | ⟨b_s14,v17⟩,5=>v17 | _,_=>undef) (fun k_ (_:Nat→Bool) (g:(Nat) × (Value)) w=>match k_,g with | 0,⟨b_s14,v17⟩=>St w0 w Xb BZ950 MZ950 | 1,⟨b_s14,v17⟩=>St w0 w Xb BZ950 (pt b_s14 (.cells #[v,iV (Det.peakM zs x),iV (Det.sumM zs x)] 57 (0,0))::MZ950) | 2,⟨b_s14,v17⟩=>St w0 w Xb BZ950 [pt b_s14 (.cells #[v,iV (Det.peakM zs x),iV (Det.sumM zs x)] 57 (0,0)),sl 3 1 v x.length (ints x),pt lr o_,pt D (.deferred (some [])),pt b_out10 (.cells #[vu] 34 (0,0)),sl 57 3 v17 ((Lc++[(v,Det.blobM zs x)]).length) (encs eB (Lc++[(v,Det.blobM zs x)])),inn (Lc.map (·.1)) (Lc.map (·.2.px))] | _,⟨b_s14,v17⟩=>St w0 w Xb BZ950 [pt b_s14 (.cells #[v,iV (Det.peakM zs x),iV (Det.sumM zs x)] 57 (0,0)),sl 3 1 v x.length (ints x),pt lr o_,pt D (.deferred (some [])),pt b_out10 (.cells #[v17] 34 (0,0)),sl 57 3 v17 ((Lc++[(v,Det.blobM zs x)]).length) (encs eB (Lc++[(v,Det.blobM zs x)])),inn (Lc.map (·.1)) (Lc.map (·.2.px))]) P_mixed (by kernel_rfl) (by kernel_rfl) (by kernel_rfl) hf hf1 hS.drew ?_ ?_ trivial ?_
            · clear hf hf1 hS
              refine ⟨?_,?_,?_,?_,trivial⟩
              · intro k_ s_ g w hlo hhi _ hD a hf; obtain ⟨b_s14,v17⟩:=g; rcases k_ with _ | _ | _ | k_
                · exact qv hf rfl (RunV.load1 T_agg_34 rfl (hD.p 3 rfl) rfl) hD
                · exact qv hf rfl (RunV.load1 T_agg_34 rfl (hD.p 4 rfl) rfl) hD
                · exact absurd hhi (by decide)
                · have hhi:k_+3≤1:=hhi; omega
              · exact s1 (fun _ ⟨b_s14,v17⟩ _ _ hD _ hf=>qv hf rfl (RunV.loadN (cs':=#[iV fW,iV fH,vP]) T_agg_61 T_size_61 rfl (hD.bptAt (i:=5) rfl) (bl rfl) rfl) hD) rfl
              · exact fun _ _ ⟨b_s14,v17⟩ _ _ _ _ hD _ hf=>qm hf rfl hD
              · intro k_ s_ g w hlo hhi _ hD a hf
                obtain ⟨b_s14,v17⟩:=g; obtain rfl:k_=0:=Nat.le_antisymm hhi hlo; have hS:=hD; clear hD; replace hf:Fr a 69 [] ((57,(fG fW fH vP))::(58,v)::LZ950):=hf; refine oc hf rfl C_ok_36 (blob36 (fW:Int) (fH:Int) vP v zs x _ (hS.rdAt (j:=9) rfl) (hS.slr (j:=0) rfl) hxo.ne hxo.asc hxr hfo.2.2.2.2.2 hxl2) ?_; clear hf a; rintro _ w19 hS1 a hf; replace hS:=(hS.call hS1).eqM (N:=MZ950) rfl; exact O.nil ⟨rfl,hf.to trivial,(gt (d:=59) hf rfl rfl),hS⟩
            · clear hf hf1 hS
              refine ⟨?_,?_,?_,trivial⟩
              · intro s_ g w _ hD a hf
                obtain ⟨b_s14,v17⟩:=g; have hS:=hD; clear hD; replace hf:Fr a 69 [] ((59,.agg #[v,iV (Det.peakM zs x),iV (Det.sumM zs x)])::LZ950):=hf; have hcl21:=rdOK.cells (hS.slr (j:=0) rfl); refine O.buildSlice (cs':=#[v,iV (Det.peakM zs x),iV (Det.sumM zs x)]) (zs:=#[.slice none 0 0,iV 0,iV 0]) hf hS rfl rfl T_elem_34 T_size_57 T_zero_57 rfl rfl rfl rfl (by first | (simp only [Instr.fill,hcl21.1]; rfl) | simp [Instr.fill,hcl21.1]) ?_; intro b_s20 w a hbb_s20 hS hf; exact O.nil ⟨rfl,(b_s20,v17),hf.to trivial,(gt (d:=60) hf rfl rfl),(fun j_ hj_ ha_=>match j_,hj_,ha_ with | 0,hj_,ha_=>rfl | 1,hj_,ha_=>rfl | 2,hj_,ha_=>rfl | 3,hj_,ha_=>rfl | 4,hj_,ha_=>absurd rfl hj_ | 5,hj_,ha_=>absurd ha_ (by decide) | 6,hj_,ha_=>absurd ha_ (by decide) | _+7,_,_=>rfl),hS⟩
              · intro s_ g w _ hD a hf
                obtain ⟨b_s14,v17⟩:=g; have hS:=hD; clear hD; replace hf:Fr a 69 [] ((56,vu)::(60,.slice (some ⟨b_s14,0,none⟩) 1 1)::LZ950):=hf; have hcl22:=rdOK.cells (hS.slr (j:=1) rfl); refine O.append1 (j:=5) (jj:=0) hf hS rfl rfl T_elem_34 T_size_57 T_bytes_57 T_zero_57 rfl rfl rfl rfl rfl rfl rfl (oneCells_cc hcl22.2 rfl) (by unfold maxLen; omega) (by omega) ?_; intro v23 w a hS hf; replace hS:=hS.reE (i:=5) (M':=[pt b_s14 (.cells #[v,iV (Det.peakM zs x),iV (Det.sumM zs x)] 57 (0,0)),sl 3 1 v x.length (ints x),pt lr o_,pt D (.deferred (some [])),pt b_out10 (.cells #[vu] 34 (0,0)),sl 57 3 v23 ((Lc++[(v,Det.blobM zs x)]).length) (encs eB (Lc++[(v,Det.blobM zs x)])),inn (Lc.map (·.1)) (Lc.map (·.2.px))]) rfl (sl_snoc (enc:=eB) (l:=Lc) (x:=(v,Det.blobM zs x))) rfl; exact O.nil ⟨rfl,(b_s14,v23),hf.to trivial,(gt (d:=61) hf rfl rfl),(fun j_ hj_ ha_=>match j_,hj_,ha_ with | 0,hj_,ha_=>rfl | 1,hj_,ha_=>rfl | 2,hj_,ha_=>rfl | 3,hj_,ha_=>rfl | 4,hj_,ha_=>rfl | 5,hj_,ha_=>absurd rfl hj_ | 6,hj_,ha_=>absurd ha_ (by decide) | _+7,_,_=>rfl),hS⟩
              · intro s_ g w _ hD a hf
                obtain ⟨b_s14,v17⟩:=g; have hS:=hD; clear hD; replace hf:Fr a 69 [] ((61,v17)::LZ950):=hf; have hcl24:=rdOK.cells (hS.slr (j:=5) rfl); refine O.store (m:=1) (j:=4) (cs':=#[v17]) (M':=[pt b_s14 (.cells #[v,iV (Det.peakM zs x),iV (Det.sumM zs x)] 57 (0,0)),sl 3 1 v x.length (ints x),pt lr o_,pt D (.deferred (some [])),pt b_out10 (.cells #[v17] 34 (0,0)),sl 57 3 v17 ((Lc++[(v,Det.blobM zs x)]).length) (encs eB (Lc++[(v,Det.blobM zs x)])),inn (Lc.map (·.1)) (Lc.map (·.2.px))]) hf hS rfl rfl rfl T_size_34 (by rw [hcl24.1]; rfl) (by rw [hcl24.1]; exact hcl24.2) rfl (bl rfl) (by rw [hcl24.1]; rfl) rfl ?_; intro w hS; exact O.nil ⟨rfl,(b_s14,v17),hf.to trivial,(fun d hd=>by cases (show none=some d from hd)),(fun j_ hj_ ha_=>match j_,hj_,ha_ with | 0,hj_,ha_=>rfl | 1,hj_,ha_=>rfl | 2,hj_,ha_=>rfl | 3,hj_,ha_=>rfl | 4,hj_,ha_=>rfl | 5,hj_,ha_=>rfl | 6,hj_,ha_=>absurd rfl hj_ | _+7,_,_=>rfl),hS⟩
            clear hf hf1 hS; intro s_ g a w _ hf hD; obtain ⟨b_s14,v17⟩:=g; have hS:=hD; clear hD; replace hf:Fr a 69 [] ((56,vu)::(57,(fG fW fH vP))::(58,v)::(59,.agg #[v,iV (Det.peakM zs x),iV (Det.sumM zs x)])::(60,.slice (some ⟨b_s14,0,none⟩) 1 1)::(61,v17)::LZ950):=hf; refine k_blk_normal ?_; replace hS:=hS.fr 6; replace hS:=hS.fr 2; replace hS:St w0 _ Xb BZ950 [inn ((Lc++[(v,Det.blobM zs x)]).map (·.1)) ((Lc++[(v,Det.blobM zs x)]).map (·.2.px)),pt b_s14 (.cells #[v,iV (Det.peakM zs x),iV (Det.sumM zs x)] 57 (0,0)),pt lr o_,pt D (.deferred (some [])),pt b_out10 (.cells #[v17] 34 (0,0)),sl 57 3 v17 ((Lc++[(v,Det.blobM zs x)]).length) (encs eB (Lc++[(v,Det.blobM zs x)]))]:=St.reE (i:=0) (St.innAdd hS) rfl (inn_snocB (b:=Det.blobM zs x)) rfl; replace hS:=hS.fr 0; replace hS:=hS.fr 5; replace hS:=hS.fr 5; replace hS:=hS.fr 5; replace hS:=hS.fr 5; replace hS:=(hS.sub (N:=[pt lr o_,pt D (.deferred (some [])),pt b_out10 (.cells #[v17] 34 (0,0)),sl 57 3 v17 ((Lc++[(v,Det.blobM zs x)]).length) (encs eB (Lc++[(v,Det.blobM zs x)])),inn ((Lc++[(v,Det.blobM zs x)]).map (·.1)) ((Lc++[(v,Det.blobM zs x)]).map (·.2.px))]) (.cons_cons _ (.cons_cons _ (.cons_cons _ (.cons_cons _ (.cons_cons _ (.cons _ .slnil))))))).noB; rw [hXb] at hS; refine ⟨rfl,(v17,(Lc++[(v,Det.blobM zs x)])),?_,hS⟩
            · dsimp only at h6 ⊢
              rw [List.map_append,h6,take_sx hx,List.map_append,List.append_assoc]; rfl
          clear hf hS; rintro D ⟨vu,Lc⟩ a w h6 hS hf; replace hS:St w0 w noX [rI vP zs,rdv 1 vB bs.length (bools bs),rI vv lv] [pt D (.deferred (some [])),pt b_out10 (.cells #[vu] 34 (0,0)),sl 57 3 vu Lc.length (encs eB Lc),inn (Lc.map (·.1)) (Lc.map (·.2.px)),pt gb.1 (.cells #[vv] 22 (0,0)),pt gb.2.1 (.cells #[(us.getD n undef)] 26 (0,0)),pt gb.2.2.1 (.cells #[iV fW,iV fH,vP] 61 (0,0)),pt gb.2.2.2 (.cells #[iV least] 3 (0,0)),mkA Ds,pt b_m8 (.cells #[iV fW,iV fH,vP] 61 (0,0)),sl 26 1 vs us.length us,inn us ps,pt b_f1 (.cells #[iV fW,iV fH,vP] 24 (0,0))]:=hS; replace hS:=hS.fr 8; replace hS:=hS.fr 1; replace hS:=hS.mkCons (M:=[pt b_out10 (.cells #[vu] 34 (0,0)),sl 57 3 vu Lc.length (encs eB Lc),inn (Lc.map (·.1)) (Lc.map (·.2.px)),pt gb.1 (.cells #[vv] 22 (0,0)),pt gb.2.1 (.cells #[(us.getD n undef)] 26 (0,0)),pt gb.2.2.1 (.cells #[iV fW,iV fH,vP] 61 (0,0)),pt gb.2.2.2 (.cells #[iV least] 3 (0,0)),pt b_m8 (.cells #[iV fW,iV fH,vP] 61 (0,0)),sl 26 1 vs us.length us,inn us ps,pt b_f1 (.cells #[iV fW,iV fH,vP] 24 (0,0))]); replace hf:Fr a 69 (mkDs (D::Ds)) [(3,_),(4,_),(10,_),(11,_),(15,_),(16,_),(18,_),(44,_),(45,_),(46,_),(54,_)]:=hf.q rfl; refine k_blk_normal<|k_blk_normal<|k_seq<|?_
          refine R2 rfl<|ov hf rfl (RunV.addI rfl rfl (by omega))<|fun a hf=>mv hf rfl fun a hf=>?_; refine O.nil ?_; replace hS:=hS.fr 11; replace hS:=hS.fr 11; replace hS:=hS.fr 11; replace hS:=hS.fr 11; replace hS:=hS.fr 5; replace hS:=hS.fr 7; replace hS:=hS.fr 7; replace hS:=hS.fr 7; replace hS:=hS.sl [1,1,1,1,1,1,1,1]; refine k_then ⟨(n+1,vu,Lc,(D::Ds)),⟨hf.to ⟨rfl,rfl,rfl,rfl,rfl,rfl,rfl,rfl,(by first | rfl | exact vI (by omega)),trivial⟩,?_,?_,?_⟩,?_⟩
          · exact hS.eqM rfl
          · omega
          · rw [Det.foundB_s (by omega),h6,List.take_length]
          · dsimp only; omega
        · refine W.exit ?_
          refine k_then_exit<|k_then_exit<|k_blk<|k_seq<|W.seq<|W.seq<|?_
          refine R3 rfl ?_; have hnu:n=ps.length:=by omega
          have hLe:L.map (·.2)=(Det.findS zs fW fH least lv (Det.bright zs bs thr (fW*fH))).map (Det.blobM zs):=by rw [h5,hnu,Det.foundB_all hps]
          have hLl:L.length=(Det.findS zs fW fH least lv (Det.bright zs bs thr (fW*fH))).length:=by have:=congrArg List.length hLe; simpa using this
          refine ov hf rfl (RunV.load1 T_agg_34 rfl (hS.p 3 rfl) rfl) fun a hf=>ov hf rfl (RunV.lenV (e:=57) (by simpa using T_elem_34) rfl (hS.slr (j:=1) rfl)) fun a hf=>ov (v:=.bool (decide ((L.length:Int)>(500:Int)))) hf rfl (RunV.gtr rfl rfl) fun a hf=>?_; refine nk ?_; refine W.ifdI hf rfl (fun h500=>?_) (fun h500=>?_)
          · refine W.seq ?_
            refine R2 rfl<|mv hf rfl<|fun a hf=>mv hf rfl fun a hf=>?_; refine nk<|W.ret<|k_then_ret<|?_; refine postM hS hf ?_; clear hS hf a; intro w a hf hS; refine post2 hf rfl (ResOK.tmp rfl) (ResOK.tmp rfl) ?_; have he:=Det.find_m (thr:=thr) (least:=least) (bs:=bs) (lv:=lv) hfo (show ¬ 20<lv.length by omega) hE hri (by rw [Int.toNat_natCast,Int.toNat_natCast,hn]; omega); exact ⟨(.slice none 0 0,[]),congrArg (fun e=>Ending.returned (.tuple #[_,iV e])) he.1.symm,St.pushB (hS.sub (List.nil_sublist _) |>.noB),by rw [he.2]; rfl⟩
          · refine W.skip ?_
            refine k_seq<|W.seq<|?_
            refine R2 rfl<|ov hf rfl (RunV.load1 T_agg_34 rfl (hS.p 3 rfl) rfl)<|fun a hf=>?_; have hapt:=Det.findS_apart (P:=zs) (W:=fW) (H:=fH) hpe.2.2 hbl lv; refine oc hf rfl C_ok_37 (sort37_spec vt L _ (hS.slAt (j:=1) rfl) (by omega) (hS.innAt (j:=2) rfl) (peaks_inj hapt hLe)) ?_; clear hf a; rintro is w26 ⟨hS1,hpm,hsr⟩ a hf; replace hS:=(hS.callX1 hS1 (i:=1) rfl (fun _ h=>h)).eqM (N:=[sl 57 3 vt ((pickB L is).length) (encs eB (pickB L is)),mkA Ds,inn (L.map (·.1)) (L.map (·.2.px)),pt b_out10 (.cells #[vt] 34 (0,0)),pt b_m8 (.cells #[iV fW,iV fH,vP] 61 (0,0)),sl 26 1 vs us.length us,inn us ps,pt b_f1 (.cells #[iV fW,iV fH,vP] 24 (0,0))]) rfl; have hpi:∀ i ∈ is,i<L.length:=fun i hi=>List.mem_range.1 (hpm.mem_iff.1 hi); replace hS:=(hS.innPick (is:=is) (j:=2) rfl (by rw [List.length_map]; exact hpi)).eqM (N:=[sl 57 3 vt ((pickB L is).length) (encs eB (pickB L is)),mkA Ds,inn ((pickB L is).map (·.1)) ((pickB L is).map (·.2.px)),pt b_out10 (.cells #[vt] 34 (0,0)),pt b_m8 (.cells #[iV fW,iV fH,vP] 61 (0,0)),sl 26 1 vs us.length us,inn us ps,pt b_f1 (.cells #[iV fW,iV fH,vP] 24 (0,0))]) (by rw [pickB_fst hpi,pickB_px hpi]; rfl); refine nk<|W.seq<|?_
            refine R3 rfl<|ov hf rfl (RunV.load1 T_agg_34 rfl (hS.p 3 rfl) rfl)<|fun a hf=>mv hf rfl fun a hf=>mv hf rfl fun a hf=>?_; refine nk<|W.ret<|?_; replace hS:=hS.fr 1; refine postM hS hf ?_; clear hS hf a; intro w a hf hS; refine post2 hf rfl (ResOK.tmp rfl) (ResOK.tmp rfl) ?_; replace hS:=hS.fr 1; replace hS:=hS.fr 1; have he:=Det.find_0 (thr:=thr) (least:=least) (bs:=bs) (lv:=lv) hfo (show ¬ 20<lv.length by omega) hE hri (by rw [Int.toNat_natCast,Int.toNat_natCast,hn]; omega); rw [Int.toNat_natCast,Int.toNat_natCast,hn] at he; refine ⟨(vt,pickB L is),congrArg (fun e=>Ending.returned (.tuple #[_,iV e])) he.1.symm,(hS.sub (.cons_cons _ (.cons_cons _ (.cons _ (.cons _ (.cons _ (.cons _ (.cons _ .slnil)))))))).noB,?_⟩; rw [he.2]; exact Det.blobs_uniq hapt (by rw [← hLe]; exact (pickB_perm hpm).map _) (List.pairwise_map.2 hsr)
end Go.Proofs.YtipfobacinmoiaaGreat

namespace Go.SL
open Go
section
variable {w0 w:World} {X:Nat→Prop} {B M:List Asr} {j:Nat} {O L:List BV}
theorem at_of_perm (hp:O.Perm L) {i:Nat} (hi:i<O.length):∃ m,m<L.length∧L.getD m default=O.getD i default:=by
  have h1:O[i] ∈ L:=hp.mem_iff.1 (List.getElem_mem hi)
  obtain ⟨m,hm,e⟩:=List.getElem_of_mem h1
  exact ⟨m,hm,by simp [List.getD_eq_getElem?_getD,List.getElem?_eq_getElem hm,List.getElem?_eq_getElem hi,e]⟩
theorem St.innPerm (hS:St w0 w X B M) (hi:M[j]? = some (inn (L.map (·.1)) (L.map (·.2.px)))) (hp:O.Perm L):St w0 w X B (M.set j (inn (O.map (·.1)) (O.map (·.2.px)))):=by
  refine hS.conv hi (fun hh=>⟨by simp,fun i hi=>?_⟩) (fun b ⟨k,hk,h0,hb⟩=>?_)
  · rw [List.length_map] at hi
    obtain ⟨m,hm,e⟩:=at_of_perm hp hi
    have h1:=hh.2 m (by rw [List.length_map]; exact hm)
    rw [map_getD hm,map_getD hm,e] at h1
    rw [map_getD hi,map_getD hi]
    exact h1
  · rw [List.length_map] at hk
    obtain ⟨m,hm,e⟩:=at_of_perm hp hk
    rw [map_getD hk] at h0 hb
    refine ⟨m,by rw [List.length_map]; exact hm,?_,?_⟩
    · rw [map_getD hm,e]; exact h0
    · rw [map_getD hm,e]; exact hb
theorem oneB {b:BV} (h:b.1.oneCell'=true):oneCells (eB b)=true:=by
  obtain ⟨v,x⟩:=b
  refine oneCells_cc (t:=[.int .i64 x.peak,.int .i64 x.sum]) ?_ rfl
  cases v <;> first | rfl | cases h
noncomputable def zipB (P:List Int) (sts:List Value) (D:List (List Int)):List BV:=(List.range sts.length).map fun i=>(sts.getD i undef,Det.blobM P (D.getD i []))
variable {P:List Int} {sts:List Value} {D:List (List Int)} {k:Nat}
theorem zipB_len:(zipB P sts D).length=sts.length:=by unfold zipB; simp
theorem zipB_s (hk:k<sts.length):(zipB P sts D).take (k+1)=(zipB P sts D).take k++[(sts.getD k undef,Det.blobM P (D.getD k []))]:=by
  rw [List.take_add_one]
  congr 1
  unfold zipB
  simp [hk]
theorem zipB_at {i:Nat} (hk:i<sts.length):(sts.getD i undef,Det.blobM P (D.getD i [])) ∈ zipB P sts D:=by
  unfold zipB
  exact List.mem_map.2 ⟨i,List.mem_range.2 hk,rfl⟩
theorem zipB_fst:(zipB P sts D).map (·.1)=sts:=by
  unfold zipB
  rw [List.map_map]
  exact range_all sts undef
theorem zipB_px (hl:sts.length=D.length):(zipB P sts D).map (·.2.px)=D:=by
  unfold zipB
  rw [List.map_map,hl]
  exact range_all D []
theorem zipB_snd (hl:sts.length=D.length):(zipB P sts D).map (·.2)=D.map (Det.blobM P):=by
  have h:=zipB_px (P:=P) hl
  unfold zipB at h ⊢
  rw [List.map_map] at h ⊢
  conv=>rhs; rw [← h,List.map_map]
  rfl
theorem idx_nat {T:Type} [Inhabited T] {l:List T} {j:Nat} (h:j<l.length):idx l ((j:Nat):Int)=some (l.getD j default):=by
  unfold idx
  simp [h,List.getD_eq_getElem?_getD]
theorem inn_one {h:Hp} {vs:List Value} {xss:List (List Int)} (hi:innOK h vs xss) {i:Nat} (hl:i<vs.length):(vs.getD i undef).oneCell'=true:=by
  obtain ⟨_,_,A,c,he,_⟩:=hi.2 i hl
  rw [he]; rfl
theorem pool_one {h:Hp} (hi:innOK h (L.map (·.1)) (L.map (·.2.px))):∀ b ∈ L,b.1.oneCell'=true:=fun b hb=>by
  obtain ⟨i,hl,rfl⟩:=List.getElem_of_mem hb
  have:=innB_one hi hl
  simpa [List.getD_eq_getElem?_getD,List.getElem?_eq_getElem hl] using this
theorem zip_one {h:Hp} (hi:innOK h sts D):∀ b ∈ zipB P sts D,b.1.oneCell'=true:=fun b hb=>by
  unfold zipB at hb
  obtain ⟨i,hl,rfl⟩:=List.mem_map.1 hb
  exact inn_one hi (List.mem_range.1 hl)
theorem getD_memB {q:Nat} {l:List BV} (h:q<l.length):l.getD q default ∈ l:=by
  rw [List.getD_eq_getElem?_getD,List.getElem?_eq_getElem h]; exact List.getElem_mem h
theorem one_of {Z:List BV} {xb:BV} {m:Nat} (hO:O.Perm (L++Z.take k)) (hx:xb ∈ Z) (hL:∀ b ∈ L,b.1.oneCell'=true) (hZ:∀ b ∈ Z,b.1.oneCell'=true):∀ q,q<(putA O m xb).length→((putA O m xb).getD q default).1.oneCell'=true:=fun q hq=>by
  have h1:=putA_perm.mem_iff.1 (getD_memB hq)
  rcases List.mem_append.1 h1 with h1 | h1
  · rcases List.mem_append.1 (hO.mem_iff.1 h1) with h2 | h2
    · exact hL _ h2
    · exact hZ _ (List.mem_of_mem_take h2)
  · rw [List.mem_singleton.1 h1]; exact hZ _ hx
theorem map_eq_at {L K:List BV} {k:Nat} (he:L.map (·.2)=K.map (·.2)) (hk:k<L.length):(L.getD k default).2=(K.getD k default).2:=by
  have h2:L.length=K.length:=by have:=congrArg List.length he; simpa using this
  have h1:=congrArg (fun l=>l.getD k default) he
  simp only [map_getD hk,map_getD (show k<K.length by omega)] at h1
  exact h1
theorem innOK.elB {h:Hp} {L:List BV} {k:Nat} (hi:innOK h (L.map (·.1)) (L.map (·.2.px))) (hk:k<L.length):rdOK h 1 (L.getD k default).1 (L.getD k default).2.px.length (ints (L.getD k default).2.px):=by
  have h1:=hi.2 k (by rw [List.length_map]; exact hk)
  rw [map_getD hk,map_getD hk] at h1
  exact h1
theorem innOK.single {h:Hp} {L:List BV} {k:Nat} (hi:innOK h (L.map (·.1)) (L.map (·.2.px))) (hk:k<L.length):innOK h [(L.getD k default).1] [(L.getD k default).2.px]:=by
  have h1:=hi.2 k (by rw [List.length_map]; exact hk)
  rw [map_getD hk,map_getD hk] at h1
  refine ⟨rfl,fun i hl=>?_⟩
  obtain rfl:i=0:=by simpa using hl
  exact h1
end
end Go.SL
namespace Det
section
variable {P l:List Int} {k:Nat} {m:Int}
theorem scan_first1 (hl:l.Pairwise (·<·)) (hk:k<l.length) (h:ScanI P l (fun _=>true) (max k 1) m) (h0:0≤l.getD k 0) (hg:P.getD (l.getD k 0).toNat 0>P.getD m.toNat 0):ScanI P l (fun _=>true) (max (k+1) 1) (l.getD k 0):=by
  rw [show max (k+1) 1=k+1 by omega]
  rcases Nat.eq_zero_or_pos k with rfl | h1
  · exact scan_takeB hk scan_0 rfl h0 (.inl (by decide))
  · rw [show max k 1=k by omega] at h
    exact scan_take hk h rfl h0 (.inr hg)
theorem scan_first0 (hl:l.Pairwise (·<·)) (hk:k<l.length) (h:ScanI P l (fun _=>true) (max k 1) m) (hg:¬ P.getD (l.getD k 0).toNat 0>P.getD m.toNat 0):ScanI P l (fun _=>true) (max (k+1) 1) m:=by
  rcases Nat.eq_zero_or_pos k with rfl | h1
  · exact h
  · rw [show max k 1=k by omega] at h
    rw [show max (k+1) 1=k+1 by omega]
    refine scan_keep hl hk h fun hb=>hg (hb.resolve_left fun hb=>?_)
    rcases h with ⟨e,h2⟩ | ⟨h2,_⟩
    · exact absurd (h2 0 h1) (by simp)
    · omega
theorem insB_go {a b:Blob} {c:Bool} (h:(c&&(decide (a.sum<b.sum)||decide (a.sum=b.sum)&&decide (a.peak>b.peak)))=true):leB b a:=by
  simp only [Bool.and_eq_true,Bool.or_eq_true,decide_eq_true_eq] at h
  unfold leB; omega
theorem insB_stop {a b:Blob} {m:Nat} (h0:¬ m=0) (h:(decide ((m:Int)>0)&&(decide (a.sum<b.sum)||decide (a.sum=b.sum)&&decide (a.peak>b.peak)))=false):leB a b:=by
  rw [decide_eq_true (show (m:Int)>0 by omega),Bool.true_and] at h
  simp only [Bool.or_eq_false_iff,Bool.and_eq_false_iff,decide_eq_false_iff_not] at h
  unfold leB; omega
end
end Det
