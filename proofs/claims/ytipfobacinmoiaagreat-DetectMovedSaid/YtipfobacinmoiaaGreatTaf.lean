/- Part of a proof: laws and walks. -/
import Derived.Test.YtipfobacinmoiaaGreatTac
import Derived.Test.YtipfobacinmoiaaGreatTad
import Derived.Test.YtipfobacinmoiaaGreatLaya
set_option linter.unusedVariables false
set_option linter.unusedSimpArgs false
set_option maxHeartbeats 1000000
set_option maxRecDepth 8000
namespace Go.Proofs.YtipfobacinmoiaaGreat
open Go Go.SL Go.Shelf Go.RowKit Go.Maps
theorem aDE:aX Tryz.prog 19=true:=by kernel_rfl
theorem aCd:aX Tryz.prog 21=true:=by kernel_rfl
theorem tY:aX Tryz.prog 22=true:=by kernel_rfl
theorem oP:aX Tryz.prog 25=true:=by kernel_rfl
theorem yI:aX Tryz.prog 44=true:=by kernel_rfl
theorem yT:aX Tryz.prog 45=true:=by kernel_rfl
theorem y8:aX Tryz.prog 46=true:=by kernel_rfl
theorem aCI:aX Tryz.prog 47=true:=by kernel_rfl
theorem aCN:aX Tryz.prog 48=true:=by kernel_rfl
theorem yS:aX Tryz.prog 49=true:=by kernel_rfl
theorem aCL:aX Tryz.prog 57=true:=by kernel_rfl
theorem aDH:aX Tryz.prog 63=true:=by kernel_rfl
theorem aDD:aX Tryz.prog 64=true:=by kernel_rfl
theorem y9:aX Tryz.prog 65=true:=by kernel_rfl
theorem yg:aX Tryz.prog 66=true:=by kernel_rfl
theorem aDB:aX Tryz.prog 90=true:=by kernel_rfl
theorem yO:aX Tryz.prog 91=true:=by kernel_rfl
theorem aV:Tryz.prog.follows .mixedOrders=true:=by kernel_rfl
theorem bT:iH Tryz.prog 2=some false:=by kernel_rfl
theorem bB:iH Tryz.prog 22=some false:=by kernel_rfl
theorem bK:iH Tryz.prog 24=some true:=by kernel_rfl
theorem bG:iH Tryz.prog 26=some false:=by kernel_rfl
theorem aH:iH Tryz.prog 3=some false:=by kernel_rfl
theorem mG:iH Tryz.prog 4=some false:=by kernel_rfl
theorem dh:iH Tryz.prog 61=some true:=by kernel_rfl
theorem pU:iH Tryz.prog 82=some false:=by kernel_rfl
theorem qx:iq Tryz.prog 2=some 8:=by kernel_rfl
theorem iX:iq Tryz.prog 26=some 24:=by kernel_rfl
theorem gF:iq Tryz.prog 3=some 8:=by kernel_rfl
theorem jR:iq Tryz.prog 4=some 1:=by kernel_rfl
theorem aN:eU Tryz.prog 22=some 2:=by kernel_rfl
theorem bZ:eU Tryz.prog 25=some 4:=by kernel_rfl
theorem aB:eU Tryz.prog 26=some 3:=by kernel_rfl
theorem ah:eU Tryz.prog 28=some 26:=by kernel_rfl
theorem bQ:jM Tryz.prog 24 0=some 0:=by kernel_rfl
theorem cB:jM Tryz.prog 24 1=some 1:=by kernel_rfl
theorem aP:jM Tryz.prog 24 2=some 2:=by kernel_rfl
theorem dI:jM Tryz.prog 61 0=some 0:=by kernel_rfl
theorem oD:kY Tryz.prog 24=some #[(0,1),(1,1),(2,1)]:=by kernel_rfl
theorem kQ:kY Tryz.prog 61=some #[(0,3)]:=by kernel_rfl
theorem iF:tV Tryz.prog 82=some 3:=by kernel_rfl
theorem bE:cO Tryz.prog 2=some 1:=by kernel_rfl
theorem aj:cO Tryz.prog 24=some 3:=by kernel_rfl
theorem ay:cO Tryz.prog 26=some 1:=by kernel_rfl
theorem aD:cO Tryz.prog 3=some 1:=by kernel_rfl
theorem dN:cO Tryz.prog 4=some 1:=by kernel_rfl
theorem dF:cO Tryz.prog 61=some 3:=by kernel_rfl
theorem iZ:dx Tryz.prog 2=some (iV 0):=by kernel_rfl
theorem iW:dx Tryz.prog 24=some (.agg #[iV 0,iV 0,.slice none 0 0]):=by kernel_rfl
theorem cu:dx Tryz.prog 26=some (.slice none 0 0):=by kernel_rfl
theorem bY:dx Tryz.prog 3=some (iV 0):=by kernel_rfl
theorem jY:dx Tryz.prog 4=some (.bool false):=by kernel_rfl
theorem jQ:dx Tryz.prog 61=some (.agg #[iV 0,iV 0,.slice none 0 0]):=by kernel_rfl
set_option maxHeartbeats 1000000 in
set_option maxRecDepth 4000 in
theorem tL (fW fH:Int) (vP:Value) (zs:List Int) (w0:World) (hP:aQ (hp w0) 1 vP zs.length (ints zs)) :
    Ret Tryz.prog 21 #[(fG fW fH vP)] w0 (G:=Unit) (fun _=>.bool (decide ((zs.length:Int)>100))) (fun _ w=>St w0 w noX [] []):=by
  refine aR (lv:=[(fG fW fH vP)]) Tryz.func21 rfl rfl rfl (fun a hf=>?_); replace hf:Fr a 7 [] [(0,(fG fW fH vP))]:=hf; have hS:St w0 w0 noX [rI vP zs] []:=(St.refl w0).bO hP; refine W.seq ?_
  refine R2 rfl<|O.box (cs:=#[iV fW,iV fH,vP]) hf hS rfl rfl rfl rfl<|?_; intro b_f1 w a hbb_f1 hS hf; refine mv hf rfl fun a hf=>?_; refine nk<|W.seq<|?_
  refine R5 rfl<|ov hf rfl (aA.field aP rfl rfl)<|fun a hf=>ov hf rfl (aA.aT bB rfl (hS.p 0 rfl) rfl) fun a hf=>ov hf rfl (aA.bP (e:=2) (by simpa using aN) rfl (hS.aL (j:=0) rfl)) fun a hf=>ov (v:=.bool (decide ((zs.length:Int)>(100:Int)))) hf rfl (aA.gtr rfl rfl) fun a hf=>mv hf rfl fun a hf=>?_; refine nk<|W.ret<|bH hf rfl (aO.tmp rfl)<|?_; exact ⟨(),rfl,hS.sub (List.nil_sublist _) |>.noB⟩
set_option maxHeartbeats 1000000 in
set_option maxRecDepth 4000 in
theorem pV (fW fH:Int) (vP vB:Value) (zs:List Int) (bs:List Bool) (w0:World) (hP:aQ (hp w0) 1 vP zs.length (ints zs)) (hB:aQ (hp w0) 1 vB bs.length (bools bs)) :
    Ret Tryz.prog 8 #[(fG fW fH vP),vB] w0 (G:=Unit) (fun _=>.bool (decide ((zs.length:Int)>100)||decide ((bs.length:Int)>120))) (fun _ w=>St w0 w noX [] []):=by
  refine aR (lv:=[(fG fW fH vP),vB]) Tryz.func8 rfl rfl rfl (fun a hf=>?_); replace hf:Fr a 12 [] [(0,(fG fW fH vP)),(1,vB)]:=hf; have hS:St w0 w0 noX [rI vP zs,rdv 1 vB bs.length (bools bs)] []:=((St.refl w0).bO hB).bO hP; refine W.seq ?_
  refine R2 rfl<|O.box (cs:=#[iV fW,iV fH,vP]) hf hS rfl rfl rfl rfl<|?_; intro b_f1 w a hbb_f1 hS hf; refine mv hf rfl fun a hf=>?_; refine nk<|W.seq<|?_
  refine W.aY (l:=[0,1,2,3,4,5,6,7]) rfl<|ov hf rfl (aA.bf (cs':=#[iV fW,iV fH,vP]) bK aj rfl (hS.p 0 rfl) (bl rfl) rfl)<|fun a hf=>?_; refine oc hf rfl aCd (tL fW fH vP zs _ (hS.aL (j:=0) rfl)) ?_; clear hf a; rintro _ w2 hS1 a hf; replace hS:=hS.cl hS1; refine mv hf rfl fun a hf=>?_
  refine O.dV (l₁:=[3,4,5,6]) (l₂:=_) (fun a w=>Fr a 12 [] [(4,.bool false),(11,.bool ((decide ((zs.length:Int)>100))||(decide ((bs.length:Int)>(120:Int)))))]∧St w0 w noX [rI vP zs,rdv 1 vB bs.length (bools bs)] [pt b_f1 (.cells #[iV fW,iV fH,vP] 24 (0,0))]) rfl ?_ ?_
  · rcases Bool.eq_false_or_eq_true (decide ((zs.length:Int)>100)) with hb3 | hb3
    · have hb3p:=of_decide_eq_true hb3
      refine sk hf rfl hb3 fun a hf=>sk hf rfl hb3 fun a hf=>sk hf rfl hb3 fun a hf=>?_; refine ov (v:=.bool ((decide ((zs.length:Int)>100))||(decide ((bs.length:Int)>(120:Int))))) hf rfl (aA.pick rfl rfl rfl (by rw [hb3]; rfl)) fun a hf=>?_; exact O.nil ⟨rfl,hf.q rfl,hS⟩
    · have hb3p:=of_decide_eq_false hb3
      refine og (v:=vB) hf rfl hb3 (aA.move rfl) fun a hf=>og (v:=iV (bs.length:Int)) hf rfl hb3 (aA.bP (e:=4) (by simpa using bZ) rfl (hS.aL (j:=1) rfl)) fun a hf=>og (v:=.bool (decide ((bs.length:Int)>(120:Int)))) hf rfl hb3 (aA.gtr rfl rfl) fun a hf=>?_; refine ov (v:=.bool ((decide ((zs.length:Int)>100))||(decide ((bs.length:Int)>(120:Int))))) hf rfl (aA.pick rfl rfl rfl (by rw [hb3]; rfl)) fun a hf=>?_; exact O.nil ⟨rfl,hf.q rfl,hS⟩
  clear hf hS a; rintro a w ⟨hf,hS⟩; refine mv hf rfl fun a hf=>?_; refine nk<|W.ret<|bH hf rfl (aO.tmp rfl)<|?_; exact ⟨(),rfl,hS.sub (List.nil_sublist _) |>.noB⟩
set_option maxHeartbeats 1000000 in
set_option maxRecDepth 4000 in
theorem jf (fW fH:Int) (vP:Value) (zs:List Int) (w0:World) (hP:aQ (hp w0) 1 vP zs.length (ints zs)) [Decidable (Det.aM fW fH zs)] :
    Ret Tryz.prog 22 #[(fG fW fH vP)] w0 (G:=Unit) (fun _=>iV (if Det.aM fW fH zs then 0 else 8)) (fun _ w=>St w0 w noX [] []):=by
  refine aR (lv:=[(fG fW fH vP)]) Tryz.func22 rfl rfl rfl (fun a hf=>?_); replace hf:Fr a 54 [] [(0,(fG fW fH vP))]:=hf; have hS:St w0 w0 noX [rI vP zs] []:=(St.refl w0).bO hP; have hlen:=hP.2.1; unfold maxLen at hlen; refine W.seq ?_
  refine R2 rfl<|O.box (cs:=#[iV fW,iV fH,vP]) hf hS rfl rfl rfl rfl<|?_; intro b_f1 w a hbb_f1 hS hf; refine mv hf rfl fun a hf=>?_; refine nk<|W.seq<|W.seq<|?_
  refine W.aY (l:=[0,1,2,3,4,5,6,7,8,9,10,11,12,13,14,15,16,17,18,19,20,21,22,23,24,25,26,27,28]) rfl<|ov hf rfl (aA.field bQ rfl rfl)<|fun a hf=>?_; refine ov hf rfl (aA.aT aH rfl (hS.p 0 rfl) rfl) fun a hf=>ov (v:=.bool (decide (fW<(1:Int)))) hf rfl (aA.lss rfl rfl) fun a hf=>mv hf rfl fun a hf=>?_
  refine O.dV (l₁:=[4,5,6,7]) (l₂:=_) (fun a w=>Fr a 54 [] [(1,(pp b_f1)),(2,iV 0),(11,.bool ((decide (fW<(1:Int)))||(decide (fW>(100:Int)))))]∧St w0 w noX [rI vP zs] [pt b_f1 (.cells #[iV fW,iV fH,vP] 24 (0,0))]) rfl ?_ ?_
  · rcases Bool.eq_false_or_eq_true (decide (fW<(1:Int))) with hb2 | hb2
    · have hb2p:=of_decide_eq_true hb2
      refine sk hf rfl hb2 fun a hf=>sk hf rfl hb2 fun a hf=>sk hf rfl hb2 fun a hf=>?_; refine ov (v:=.bool ((decide (fW<(1:Int)))||(decide (fW>(100:Int))))) hf rfl (aA.pick rfl rfl rfl (by rw [hb2]; rfl)) fun a hf=>?_; exact O.nil ⟨rfl,hf.q rfl,hS⟩
    · have hb2p:=of_decide_eq_false hb2
      refine og (v:=(pp b_f1)) hf rfl hb2 (aA.field bQ rfl rfl) fun a hf=>og (v:=iV fW) hf rfl hb2 (aA.aT aH rfl (hS.p 0 rfl) rfl) fun a hf=>og (v:=.bool (decide (fW>(100:Int)))) hf rfl hb2 (aA.gtr rfl rfl) fun a hf=>?_; refine ov (v:=.bool ((decide (fW<(1:Int)))||(decide (fW>(100:Int))))) hf rfl (aA.pick rfl rfl rfl (by rw [hb2]; rfl)) fun a hf=>?_; exact O.nil ⟨rfl,hf.q rfl,hS⟩
  clear hf hS a; rintro a w ⟨hf,hS⟩; refine mv hf rfl fun a hf=>?_
  refine O.dV (l₁:=[9,10,11,12]) (l₂:=_) (fun a w=>Fr a 54 [] [(1,(pp b_f1)),(2,iV 0),(16,.bool (((decide (fW<(1:Int)))||(decide (fW>(100:Int))))||(decide (fH<(1:Int)))))]∧St w0 w noX [rI vP zs] [pt b_f1 (.cells #[iV fW,iV fH,vP] 24 (0,0))]) rfl ?_ ?_
  · rcases Bool.eq_false_or_eq_true ((decide (fW<(1:Int)))||(decide (fW>(100:Int)))) with hb3 | hb3
    · have hb3p:=hb3
      try simp only [bsm] at hb3p
      refine sk hf rfl hb3 fun a hf=>sk hf rfl hb3 fun a hf=>sk hf rfl hb3 fun a hf=>?_; refine ov (v:=.bool (((decide (fW<(1:Int)))||(decide (fW>(100:Int))))||(decide (fH<(1:Int))))) hf rfl (aA.pick rfl rfl rfl (by rw [hb3]; rfl)) fun a hf=>?_; exact O.nil ⟨rfl,hf.q rfl,hS⟩
    · have hb3p:=hb3
      try simp only [bsm] at hb3p
      refine og (v:=.pointer (some ⟨b_f1,1,none⟩)) hf rfl hb3 (aA.field cB rfl rfl) fun a hf=>og (v:=iV fH) hf rfl hb3 (aA.aT aH rfl (hS.p 0 rfl) rfl) fun a hf=>og (v:=.bool (decide (fH<(1:Int)))) hf rfl hb3 (aA.lss rfl rfl) fun a hf=>?_; refine ov (v:=.bool (((decide (fW<(1:Int)))||(decide (fW>(100:Int))))||(decide (fH<(1:Int))))) hf rfl (aA.pick rfl rfl rfl (by rw [hb3]; rfl)) fun a hf=>?_; exact O.nil ⟨rfl,hf.q rfl,hS⟩
  clear hf hS a; rintro a w ⟨hf,hS⟩; refine mv hf rfl fun a hf=>?_
  refine O.dV (l₁:=[14,15,16,17]) (l₂:=_) (fun a w=>Fr a 54 [] [(1,(pp b_f1)),(2,iV 0),(21,.bool ((((decide (fW<(1:Int)))||(decide (fW>(100:Int))))||(decide (fH<(1:Int))))||(decide (fH>(100:Int)))))]∧St w0 w noX [rI vP zs] [pt b_f1 (.cells #[iV fW,iV fH,vP] 24 (0,0))]) rfl ?_ ?_
  · rcases Bool.eq_false_or_eq_true (((decide (fW<(1:Int)))||(decide (fW>(100:Int))))||(decide (fH<(1:Int)))) with hb4 | hb4
    · have hb4p:=hb4
      try simp only [bsm] at hb4p
      refine sk hf rfl hb4 fun a hf=>sk hf rfl hb4 fun a hf=>sk hf rfl hb4 fun a hf=>?_; refine ov (v:=.bool ((((decide (fW<(1:Int)))||(decide (fW>(100:Int))))||(decide (fH<(1:Int))))||(decide (fH>(100:Int))))) hf rfl (aA.pick rfl rfl rfl (by rw [hb4]; rfl)) fun a hf=>?_; exact O.nil ⟨rfl,hf.q rfl,hS⟩
    · have hb4p:=hb4
      try simp only [bsm] at hb4p
      refine og (v:=.pointer (some ⟨b_f1,1,none⟩)) hf rfl hb4 (aA.field cB rfl rfl) fun a hf=>og (v:=iV fH) hf rfl hb4 (aA.aT aH rfl (hS.p 0 rfl) rfl) fun a hf=>og (v:=.bool (decide (fH>(100:Int)))) hf rfl hb4 (aA.gtr rfl rfl) fun a hf=>?_; refine ov (v:=.bool ((((decide (fW<(1:Int)))||(decide (fW>(100:Int))))||(decide (fH<(1:Int))))||(decide (fH>(100:Int))))) hf rfl (aA.pick rfl rfl rfl (by rw [hb4]; rfl)) fun a hf=>?_; exact O.nil ⟨rfl,hf.q rfl,hS⟩
  clear hf hS a; rintro a w ⟨hf,hS⟩; refine mv hf rfl fun a hf=>?_
  refine O.dV (l₁:=[19,20,21,22,23,24,25,26,27,28]) (l₂:=_) (fun a w=>Fr a 54 [] [(1,(pp b_f1)),(2,iV 0),(32,.bool (((((decide (fW<(1:Int)))||(decide (fW>(100:Int))))||(decide (fH<(1:Int))))||(decide (fH>(100:Int))))||(decide ((zs.length:Int)≠(fW*fH:Int)))))]∧St w0 w noX [rI vP zs] [pt b_f1 (.cells #[iV fW,iV fH,vP] 24 (0,0))]) rfl ?_ ?_
  · rcases Bool.eq_false_or_eq_true ((((decide (fW<(1:Int)))||(decide (fW>(100:Int))))||(decide (fH<(1:Int))))||(decide (fH>(100:Int)))) with hb5 | hb5
    · have hb5p:=hb5
      try simp only [bsm] at hb5p
      refine sk hf rfl hb5 fun a hf=>sk hf rfl hb5 fun a hf=>sk hf rfl hb5 fun a hf=>sk hf rfl hb5 fun a hf=>sk hf rfl hb5 fun a hf=>sk hf rfl hb5 fun a hf=>sk hf rfl hb5 fun a hf=>sk hf rfl hb5 fun a hf=>sk hf rfl hb5 fun a hf=>?_; refine ov (v:=.bool (((((decide (fW<(1:Int)))||(decide (fW>(100:Int))))||(decide (fH<(1:Int))))||(decide (fH>(100:Int))))||(decide ((zs.length:Int)≠(fW*fH:Int))))) hf rfl (aA.pick rfl rfl rfl (by rw [hb5]; rfl)) fun a hf=>?_; exact O.nil ⟨rfl,hf.q rfl,hS⟩
    · have hb5p:=hb5
      try simp only [bsm] at hb5p
      refine og (v:=.pointer (some ⟨b_f1,2,none⟩)) hf rfl hb5 (aA.field aP rfl rfl) fun a hf=>og (v:=vP) hf rfl hb5 (aA.aT bB rfl (hS.p 0 rfl) rfl) fun a hf=>og (v:=iV (zs.length:Int)) hf rfl hb5 (aA.bP (e:=2) (by simpa using aN) rfl (hS.aL (j:=0) rfl)) fun a hf=>og (v:=(pp b_f1)) hf rfl hb5 (aA.field bQ rfl rfl) fun a hf=>og (v:=iV fW) hf rfl hb5 (aA.aT aH rfl (hS.p 0 rfl) rfl) fun a hf=>og (v:=.pointer (some ⟨b_f1,1,none⟩)) hf rfl hb5 (aA.field cB rfl rfl) fun a hf=>og (v:=iV fH) hf rfl hb5 (aA.aT aH rfl (hS.p 0 rfl) rfl) fun a hf=>?_; refine og (v:=iV (fW*fH)) hf rfl hb5 (aA.qG rfl rfl (by have:=Det.oW (a:=fW) (b:=fH) (by omega) (by omega); omega)) fun a hf=>?_; refine og (v:=.bool (decide ((zs.length:Int)≠(fW*fH:Int)))) hf rfl hb5 (aA.neq rfl rfl) fun a hf=>?_; refine ov (v:=.bool (((((decide (fW<(1:Int)))||(decide (fW>(100:Int))))||(decide (fH<(1:Int))))||(decide (fH>(100:Int))))||(decide ((zs.length:Int)≠(fW*fH:Int))))) hf rfl (aA.pick rfl rfl rfl (by rw [hb5]; rfl)) fun a hf=>?_; exact O.nil ⟨rfl,hf.q rfl,hS⟩
  clear hf hS a; rintro a w ⟨hf,hS⟩; refine nk ?_; refine W.if_ hf rfl (fun hbad=>?_) (fun hbad=>?_)
  · have hbadb:=hbad
    try simp only [bsm] at hbad
    refine W.seq ?_
    refine R1 rfl<|mv hf rfl<|fun a hf=>?_; refine nk<|W.ret<|aK<|bH hf rfl (aO.tmp rfl)<|?_; refine ⟨(),by rw [if_neg (fun h=>by obtain ⟨g1,g2,g3,g4,g5,g6⟩:=h; first | omega | (have:=g6 k (by omega); omega))],hS.sub (List.nil_sublist _) |>.noB⟩
  · have hbadb:=hbad
    try simp only [bsm] at hbad
    refine W.skip<|aF<|W.seq<|W.seq<|?_
    refine R1 rfl<|mv hf rfl<|fun a hf=>?_; refine nk<|W.block<|?_
    refine W.loop (G:=(Nat)) (fun g a w=>match g with | k=>Fr a 54 [] [(1,(pp b_f1)),(3,iV k)]∧St w0 w noX [rI vP zs] [pt b_f1 (.cells #[iV fW,iV fH,vP] 24 (0,0))]∧(k≤zs.length)∧(∀ j,j<k→-4294967296≤zs.getD j 0∧zs.getD j 0≤4294967296)) (fun g=>match g with | k=>zs.length-k) 0 ?_ ?_
    · refine ⟨hf.to ⟨rfl,(by first | rfl | exact vI (by omega)),trivial⟩,hS,?_,?_⟩
      · omega
      · exact fun j hj=>by omega
    clear hf hS a; rintro k a w ⟨hf,hS,h1,h2⟩; refine W.seq<|W.seq<|?_
    refine R5 rfl<|mv hf rfl<|fun a hf=>ov hf rfl (aA.field aP rfl rfl) fun a hf=>ov hf rfl (aA.aT bB rfl (hS.p 0 rfl) rfl) fun a hf=>ov hf rfl (aA.bP (e:=2) (by simpa using aN) rfl (hS.aL (j:=0) rfl)) fun a hf=>ov (v:=.bool (decide ((k:Int)<((zs.length:Int):Int)))) hf rfl (aA.lss rfl rfl) fun a hf=>?_; refine nk ?_; refine W.bJ hf rfl (fun hlt=>?_) (fun hlt=>?_)
    · refine W.skip ?_
      refine aF<|W.seq<|W.block<|W.seq<|?_
      refine W.aY (l:=[0,1,2,3,4,5,6,7,8,9,10,11,12,13]) rfl<|ov hf rfl (aA.field aP rfl rfl)<|fun a hf=>?_; refine ov hf rfl (aA.aT bB rfl (hS.p 0 rfl) rfl) fun a hf=>mv hf rfl fun a hf=>ov hf rfl (aA.ixV (j:=k) (m:=k) aN bE rfl rfl (hS.aL (j:=0) rfl) rfl (by omega) (Nat.mul_one _)) fun a hf=>ov hf rfl (aA.ld1 bT rfl (hS.aL (j:=0) rfl) (aI (by omega))) fun a hf=>ov (v:=.bool (decide ((zs.getD k 0)<(-4294967296:Int)))) hf rfl (aA.lss rfl rfl) fun a hf=>mv hf rfl fun a hf=>?_
      refine O.dV (l₁:=[7,8,9,10,11,12,13]) (l₂:=_) (fun a w=>Fr a 54 [] [(1,(pp b_f1)),(3,iV k),(53,.bool ((decide ((zs.getD k 0)<(-4294967296:Int)))||(decide ((zs.getD k 0)>(4294967296:Int)))))]∧St w0 w noX [rI vP zs] [pt b_f1 (.cells #[iV fW,iV fH,vP] 24 (0,0))]) rfl ?_ ?_
      · rcases Bool.eq_false_or_eq_true (decide ((zs.getD k 0)<(-4294967296:Int))) with hb8 | hb8
        · have hb8p:=of_decide_eq_true hb8
          refine sk hf rfl hb8 fun a hf=>sk hf rfl hb8 fun a hf=>sk hf rfl hb8 fun a hf=>sk hf rfl hb8 fun a hf=>sk hf rfl hb8 fun a hf=>sk hf rfl hb8 fun a hf=>?_; refine ov (v:=.bool ((decide ((zs.getD k 0)<(-4294967296:Int)))||(decide ((zs.getD k 0)>(4294967296:Int))))) hf rfl (aA.pick rfl rfl rfl (by rw [hb8]; rfl)) fun a hf=>?_; exact O.nil ⟨rfl,hf.q rfl,hS⟩
        · have hb8p:=of_decide_eq_false hb8
          refine og (v:=.pointer (some ⟨b_f1,2,none⟩)) hf rfl hb8 (aA.field aP rfl rfl) fun a hf=>og (v:=vP) hf rfl hb8 (aA.aT bB rfl (hS.p 0 rfl) rfl) fun a hf=>og (v:=iV k) hf rfl hb8 (aA.move rfl) fun a hf=>og (v:=ix vP k) hf rfl hb8 (aA.ixV (j:=k) (m:=k) aN bE rfl rfl (hS.aL (j:=0) rfl) rfl (by omega) (Nat.mul_one _)) fun a hf=>og (v:=iV (zs.getD k 0)) hf rfl hb8 (aA.ld1 bT rfl (hS.aL (j:=0) rfl) (aI (by omega))) fun a hf=>og (v:=.bool (decide ((zs.getD k 0)>(4294967296:Int)))) hf rfl hb8 (aA.gtr rfl rfl) fun a hf=>?_; refine ov (v:=.bool ((decide ((zs.getD k 0)<(-4294967296:Int)))||(decide ((zs.getD k 0)>(4294967296:Int))))) hf rfl (aA.pick rfl rfl rfl (by rw [hb8]; rfl)) fun a hf=>?_; exact O.nil ⟨rfl,hf.q rfl,hS⟩
      clear hf hS a; rintro a w ⟨hf,hS⟩; refine nk ?_; refine W.if_ hf rfl (fun hpix=>?_) (fun hpix=>?_)
      · have hpixb:=hpix
        try simp only [bsm] at hpix
        refine W.seq ?_
        refine R1 rfl<|mv hf rfl<|fun a hf=>?_; refine nk<|W.ret<|aW<|aK<|aK<|aW<|aK<|bH hf rfl (aO.tmp rfl)<|?_; refine ⟨(),by rw [if_neg (fun h=>by obtain ⟨g1,g2,g3,g4,g5,g6⟩:=h; first | omega | (have:=g6 k (by omega); omega))],hS.sub (List.nil_sublist _) |>.noB⟩
      · have hpixb:=hpix
        try simp only [bsm] at hpix
        refine W.skip<|aG<|aF<|?_
        refine R3 rfl<|mv hf rfl<|fun a hf=>ov hf rfl (aA.ak rfl rfl (by omega)) fun a hf=>mv hf rfl fun a hf=>?_; refine O.nil ?_; refine aS ⟨(k+1),⟨hf.to ⟨rfl,(by first | rfl | exact vI (by omega)),trivial⟩,?_,?_,?_⟩,?_⟩
        · exact hS.eqM rfl
        · omega
        · exact Det.fV h2 (by omega)
        · dsimp only; omega
    · refine W.exit ?_
      refine aC<|aC<|bD<|aF<|?_; replace hf:Fr a 54 [] []:=hf.to trivial; refine W.seq ?_
      refine R1 rfl<|mv hf rfl<|fun a hf=>?_; refine nk<|W.ret<|bH hf rfl (aO.tmp rfl)<|?_; refine ⟨(),by rw [if_pos ⟨by omega,by omega,by omega,by omega,by omega,fun j hj=>h2 j (by omega)⟩],hS.sub (List.nil_sublist _) |>.noB⟩
set_option maxHeartbeats 1000000 in
set_option maxRecDepth 4000 in
theorem pX (n:Nat) (vL:Value) (l:List Int) (w0:World) (hL:aQ (hp w0) 1 vL l.length (ints l)) (hn:n≤1000000) (hl:∀ i,i<l.length→0≤l.getD i 0∧l.getD i 0<(n:Int)) :
    Ret Tryz.prog 46 #[iV n,vL] w0 (G:=Value) (fun v=>v) (fun v w=>St w0 w noX [] [sl 4 1 v (Det.marks n l l.length).length (bools (Det.marks n l l.length))]):=by
  refine aR (lv:=[iV n,vL]) Tryz.func46 rfl rfl rfl (fun a hf=>?_); replace hf:Fr a 22 [] [(0,iV n),(1,vL)]:=hf; have hS:St w0 w0 noX [rI vL l] []:=(St.refl w0).bO hL; have hlen:=hL.2.1; unfold maxLen at hlen; refine W.seq ?_
  refine R1 rfl<|mv hf rfl<|fun a hf=>?_; refine nk<|W.seq<|?_
  refine R3 rfl<|mv hf rfl<|fun a hf=>?_; refine O.make (N:=n) hf hS rfl rfl bZ dN jR jY rfl rfl (by unfold maxLen; omega) (by omega) ?_; intro b_m1 w a hbb_m1 hS hf; have hS:=hS.eqM (N:=[sl 4 1 (.slice (some ⟨b_m1,0,none⟩) n n) n (bools (List.replicate n false))]) (by rw [wT]); refine mv hf rfl fun a hf=>?_; refine O.nil ?_; obtain ⟨vm,hvm⟩:∃ vm,(.slice (some ⟨b_m1,0,none⟩) n n:Value)=vm:=⟨_,rfl⟩; rw [hvm] at hf hS; clear hvm; replace hS:=hS.eqM (N:=[sl 4 1 vm ((List.replicate n false).length) (bools (List.replicate n false))]) (by simp); refine aF<|W.seq<|W.seq<|?_
  refine R1 rfl<|mv hf rfl<|fun a hf=>?_; refine nk<|W.block<|?_
  refine W.loop (G:=(Nat) × (List Bool)) (fun g a w=>match g with | (k,bs)=>Fr a 22 [] [(1,vL),(4,.slice none 0 0),(5,vm),(6,iV k)]∧St w0 w noX [rI vL l] [sl 4 1 vm bs.length (bools bs)]∧(k≤l.length)∧(bs=Det.marks n l k)∧(bs.length=n)) (fun g=>match g with | (k,bs)=>l.length-k) (0,(List.replicate n false)) ?_ ?_
  · refine ⟨hf.to ⟨rfl,rfl,rfl,(by first | rfl | exact vI (by omega)),trivial⟩,hS,?_,?_,?_⟩
    · omega
    · rfl
    · simp
  clear hf hS a; rintro ⟨k,bs⟩ a w ⟨hf,hS,h1,h2,h3⟩; refine W.seq<|W.seq<|?_
  refine R4 rfl<|mv hf rfl<|fun a hf=>mv hf rfl fun a hf=>ov hf rfl (aA.bP (e:=3) (by simpa using aB) rfl (hS.aL (j:=0) rfl)) fun a hf=>ov (v:=.bool (decide ((k:Int)<((l.length:Int):Int)))) hf rfl (aA.lss rfl rfl) fun a hf=>?_; refine nk ?_; refine W.bJ hf rfl (fun hc2=>?_) (fun hc2=>?_)
  · refine W.skip ?_
    refine aF<|W.seq<|W.block<|?_
    refine R7 rfl ?_; have hk:=hl k (by omega); refine mv hf rfl fun a hf=>mv hf rfl fun a hf=>mv hf rfl fun a hf=>ov hf rfl (aA.ixV (j:=k) (m:=k) aB aD rfl rfl (hS.aL (j:=0) rfl) rfl (by omega) (Nat.mul_one _)) fun a hf=>ov hf rfl (aA.ld1 aH rfl (hS.aL (j:=0) rfl) (aI (by omega))) fun a hf=>ov hf rfl (aA.ixV (j:=(Int.toNat (l.getD k 0))) (m:=(Int.toNat (l.getD k 0))) bZ dN rfl rfl (hS.slr (j:=0) rfl) (by omega) (by omega) (Nat.mul_one _)) fun a hf=>?_; refine O.bF (j:=0) (m:=(Int.toNat (l.getD k 0))) (xs':=bools (bs.set (Int.toNat (l.getD k 0)) true)) (M':=[sl 4 1 vm bs.length (bools (bs.set (Int.toNat (l.getD k 0)) true))]) hf hS rfl rfl rfl dN rfl rfl rfl (by simp only [nS,List.length_set]; omega) nN rfl rfl ?_; intro w hS; refine O.nil<|aG<|aF<|?_
    refine R3 rfl<|mv hf rfl<|fun a hf=>ov hf rfl (aA.ak rfl rfl (by omega)) fun a hf=>mv hf rfl fun a hf=>?_; refine O.nil ?_; refine aS ⟨(k+1,(bs.set (Int.toNat (l.getD k 0)) true)),⟨hf.to ⟨rfl,rfl,rfl,(by first | rfl | exact vI (by omega)),trivial⟩,?_,?_,?_,?_⟩,?_⟩
    · exact hS.eqM (by rw [List.length_set])
    · omega
    · rw [h2]; rfl
    · simp only [List.length_set]; exact h3
    · dsimp only; omega
  · refine W.exit ?_
    refine aC<|aC<|bD<|aF<|W.seq<|?_
    refine R2 rfl<|mv hf rfl<|fun a hf=>mv hf rfl fun a hf=>?_; refine nk<|W.ret<|bH hf rfl (aO.tmp rfl)<|?_
    subst h2; obtain rfl:k=l.length:=by omega
    exact ⟨vm,rfl,hS.noB⟩
set_option maxHeartbeats 1000000 in
set_option maxRecDepth 4000 in
theorem uV (fW fH i:Nat) (vP:Value) (w0:World) (hW:1≤fW∧fW≤100) (hH:1≤fH∧fH≤100) (hi:i<fW*fH) :
    Ret Tryz.prog 19 #[(fG fW fH vP),iV i,.bool false] w0 (G:=Value) (fun v=>v) (fun v w=>St w0 w noX [] [sl 3 1 v (Det.nb fW fH i).length (ints (Det.nb fW fH i))]):=by
  refine aR (lv:=[(fG fW fH vP),iV i,.bool false]) Tryz.func19 rfl rfl rfl (fun a hf=>?_); replace hf:Fr a 87 [] [(0,(fG fW fH vP)),(1,iV i),(2,.bool false)]:=hf; have hS:St w0 w0 noX [] []:=St.refl w0; have hi2:i<10000:=by have:=Nat.mul_le_mul hW.2 hH.2; omega
  refine W.seq ?_
  refine R2 rfl<|O.box (cs:=#[iV fW,iV fH,vP]) hf hS rfl rfl rfl rfl<|?_; intro b_f1 w a hbb_f1 hS hf; refine mv hf rfl fun a hf=>?_; refine nk ?_; replace hf:Fr a 87 [] [(1,_),(2,_),(3,_),(6,_)]:=hf.q rfl; refine W.seq ?_
  refine W.dY (fun w=>St w0 w noX [] [pt b_f1 (.cells #[iV fW,iV fH,vP] 24 (0,0))]) aV rfl (by kernel_rfl) rfl hS.drew ?_; clear hS; refine q0 hf rfl rfl fun a hf=>OQ.val (v:=(pp b_f1)) hf rfl (fun w hS=>aA.field bQ rfl rfl) fun a hf=>OQ.val (v:=iV fW) hf rfl (fun w hS=>aA.aT aH rfl (hS.p 0 rfl) rfl) fun a hf=>OQ.val (v:=iV ((i % fW:Nat):Int)) hf rfl (fun w hS=>aA.aEc rfl rfl rfl rfl (by omega)) fun a hf=>q0 hf rfl rfl fun a hf=>OQ.val (v:=(pp b_f1)) hf rfl (fun w hS=>aA.field bQ rfl rfl) fun a hf=>OQ.val (v:=iV fW) hf rfl (fun w hS=>aA.aT aH rfl (hS.p 0 rfl) rfl) fun a hf=>OQ.val (v:=iV ((i/fW:Nat):Int)) hf rfl (fun w hS=>aA.uH rfl rfl rfl rfl (by omega) (by omega)) fun a hf=>OQ.val (v:=iV ((i % fW:Nat):Int)) hf rfl (fun w hS=>aA.assign rfl) fun a hf=>OQ.val (v:=iV ((i/fW:Nat):Int)) hf rfl (fun w hS=>aA.assign rfl) fun a hf=>?_; refine OQ.nil ?_; intro w hS; have hxb:=Nat.mod_lt i (show 0<fW by omega); have hyb:i/fW<fH:=Nat.div_lt_of_lt_mul hi
  generalize hx:i % fW=x at *
  generalize hy:i/fW=y at *
  refine aF<|W.seq<|?_
  refine R1 rfl<|mv hf rfl<|fun a hf=>?_; refine nk<|W.seq<|W.seq<|?_
  refine R3 rfl<|mv hf rfl<|fun a hf=>ov hf rfl (aA.cZ rfl rfl (by omega)) fun a hf=>mv hf rfl fun a hf=>?_; refine nk ?_; replace hf:Fr a 87 [] [(2,_),(3,_),(6,_),(7,_),(8,_),(9,_),(10,_)]:=hf.q rfl; refine W.block ?_; replace hS:St w0 _ noX [] [sl 3 1 (.slice none 0 0) (([]:List Int).length) (ints []),pt b_f1 (.cells #[iV fW,iV fH,vP] 24 (0,0))]:=hS.jN 3 1
  refine W.loop (G:=(Nat) × (Value) × (List Int)) (fun g a w=>match g with | (k,vo,out)=>Fr a 87 [] [(2,.bool false),(3,(pp b_f1)),(6,.slice none 0 0),(7,iV x),(8,iV y),(9,vo),(10,iV (((y:Nat):Int)-1+(k:Int)))]∧St w0 w noX [] [sl 3 1 vo out.length (ints out),pt b_f1 (.cells #[iV fW,iV fH,vP] 24 (0,0))]∧(k≤3)∧(out=Det.dQ fW fH x y k)∧(out.length≤3*k)) (fun g=>match g with | (k,vo,out)=>3-k) (0,(.slice none 0 0),[]) ?_ ?_
  · refine ⟨hf.to ⟨rfl,rfl,rfl,rfl,rfl,(by first | rfl | exact vI (by omega)),(by first | rfl | exact vI (by omega)),trivial⟩,hS,?_,?_,?_⟩
    · omega
    · rfl
    · simp
  clear hf hS a; rintro ⟨k,vo,out⟩ a w ⟨hf,hS,h1,h2,h3⟩; refine W.seq<|W.seq<|?_
  refine R4 rfl<|mv hf rfl<|fun a hf=>mv hf rfl fun a hf=>ov hf rfl (aA.ak rfl rfl (by omega)) fun a hf=>ov (v:=.bool (decide ((((y:Nat):Int)-1+(k:Int))≤(((y:Nat):Int)+1:Int)))) hf rfl (aA.leq rfl rfl) fun a hf=>?_; refine nk ?_; refine W.bJ hf rfl (fun hv=>?_) (fun hv=>?_)
  · refine W.skip ?_
    refine aF<|W.seq<|W.block<|W.seq<|?_
    refine R3 rfl<|mv hf rfl<|fun a hf=>ov hf rfl (aA.cZ rfl rfl (by omega)) fun a hf=>mv hf rfl fun a hf=>?_; refine nk ?_; replace hf:Fr a 87 [] [(2,_),(3,_),(6,_),(7,_),(8,_),(9,_),(10,_),(11,_)]:=hf.q rfl; refine W.block ?_
    refine W.loop (G:=(Nat) × (Value) × (List Int)) (fun g a w=>match g with | (l,vi,inn)=>Fr a 87 [] [(2,.bool false),(3,(pp b_f1)),(6,.slice none 0 0),(7,iV x),(8,iV y),(9,vi),(10,iV (((y:Nat):Int)-1+(k:Int))),(11,iV (((x:Nat):Int)-1+(l:Int)))]∧St w0 w noX [] [sl 3 1 vi inn.length (ints inn),pt b_f1 (.cells #[iV fW,iV fH,vP] 24 (0,0))]∧(l≤3)∧(inn=out++Det.eu fW fH x y (((y:Nat):Int)-1+(k:Int)) l)∧(inn.length≤3*k+l)) (fun g=>match g with | (l,vi,inn)=>3-l) (0,vo,out) ?_ ?_
    · refine ⟨hf.to ⟨rfl,rfl,rfl,rfl,rfl,(by first | rfl | exact vI (by omega)),rfl,(by first | rfl | exact vI (by omega)),trivial⟩,hS,?_,?_,?_⟩
      · omega
      · simp [Det.eu]
      · omega
    clear hf hS a; rintro ⟨l,vi,inn⟩ a w ⟨hf,hS,h4,h5,h6⟩; refine W.seq<|W.seq<|?_
    refine R4 rfl<|mv hf rfl<|fun a hf=>mv hf rfl fun a hf=>ov hf rfl (aA.ak rfl rfl (by omega)) fun a hf=>ov (v:=.bool (decide ((((x:Nat):Int)-1+(l:Int))≤(((x:Nat):Int)+1:Int)))) hf rfl (aA.leq rfl rfl) fun a hf=>?_; refine nk ?_; refine W.bJ hf rfl (fun hu=>?_) (fun hu=>?_)
    · refine W.skip ?_
      refine aF<|W.seq<|W.block<|W.seq<|W.seq<|?_
      refine W.aY (l:=[0,1,2,3,4,5,6,7,8,9,10,11,12,13,14,15,16,17,18,19,20,21,22,23,24,25,26,27,28,29,30,31,32,33,34,35,36,37,38,39,40]) rfl<|mv hf rfl<|fun a hf=>?_; refine ov (v:=.bool (decide ((((x:Nat):Int)-1+(l:Int))<(0:Int)))) hf rfl (aA.lss rfl rfl) fun a hf=>mv hf rfl fun a hf=>?_
      refine O.dV (l₁:=[3,4,5,6,7]) (l₂:=_) (fun a w=>Fr a 87 [] [(2,.bool false),(3,(pp b_f1)),(6,.slice none 0 0),(7,iV x),(8,iV y),(9,vi),(10,iV (((y:Nat):Int)-1+(k:Int))),(11,iV (((x:Nat):Int)-1+(l:Int))),(43,.bool ((decide ((((x:Nat):Int)-1+(l:Int))<(0:Int)))||(decide ((((x:Nat):Int)-1+(l:Int))≥((fW:Int):Int)))))]∧St w0 w noX [] [sl 3 1 vi inn.length (ints inn),pt b_f1 (.cells #[iV fW,iV fH,vP] 24 (0,0))]) rfl ?_ ?_
      · rcases Bool.eq_false_or_eq_true (decide ((((x:Nat):Int)-1+(l:Int))<(0:Int))) with hb4 | hb4
        · have hb4p:=of_decide_eq_true hb4
          refine sk hf rfl hb4 fun a hf=>sk hf rfl hb4 fun a hf=>sk hf rfl hb4 fun a hf=>sk hf rfl hb4 fun a hf=>?_; refine ov (v:=.bool ((decide ((((x:Nat):Int)-1+(l:Int))<(0:Int)))||(decide ((((x:Nat):Int)-1+(l:Int))≥((fW:Int):Int))))) hf rfl (aA.pick rfl rfl rfl (by rw [hb4]; rfl)) fun a hf=>?_; exact O.nil ⟨rfl,hf.q rfl,hS⟩
        · have hb4p:=of_decide_eq_false hb4
          refine og (v:=iV (((x:Nat):Int)-1+(l:Int))) hf rfl hb4 (aA.move rfl) fun a hf=>og (v:=(pp b_f1)) hf rfl hb4 (aA.field bQ rfl rfl) fun a hf=>og (v:=iV fW) hf rfl hb4 (aA.aT aH rfl (hS.p 1 rfl) rfl) fun a hf=>og (v:=.bool (decide ((((x:Nat):Int)-1+(l:Int))≥((fW:Int):Int)))) hf rfl hb4 (aA.geq rfl rfl) fun a hf=>?_; refine ov (v:=.bool ((decide ((((x:Nat):Int)-1+(l:Int))<(0:Int)))||(decide ((((x:Nat):Int)-1+(l:Int))≥((fW:Int):Int))))) hf rfl (aA.pick rfl rfl rfl (by rw [hb4]; rfl)) fun a hf=>?_; exact O.nil ⟨rfl,hf.q rfl,hS⟩
      clear hf hS a; rintro a w ⟨hf,hS⟩; refine mv hf rfl fun a hf=>?_
      refine O.dV (l₁:=[9,10,11]) (l₂:=_) (fun a w=>Fr a 87 [] [(2,.bool false),(3,(pp b_f1)),(6,.slice none 0 0),(7,iV x),(8,iV y),(9,vi),(10,iV (((y:Nat):Int)-1+(k:Int))),(11,iV (((x:Nat):Int)-1+(l:Int))),(47,.bool (((decide ((((x:Nat):Int)-1+(l:Int))<(0:Int)))||(decide ((((x:Nat):Int)-1+(l:Int))≥((fW:Int):Int))))||(decide ((((y:Nat):Int)-1+(k:Int))<(0:Int)))))]∧St w0 w noX [] [sl 3 1 vi inn.length (ints inn),pt b_f1 (.cells #[iV fW,iV fH,vP] 24 (0,0))]) rfl ?_ ?_
      · rcases Bool.eq_false_or_eq_true ((decide ((((x:Nat):Int)-1+(l:Int))<(0:Int)))||(decide ((((x:Nat):Int)-1+(l:Int))≥((fW:Int):Int)))) with hb5 | hb5
        · have hb5p:=hb5
          try simp only [bsm] at hb5p
          refine sk hf rfl hb5 fun a hf=>sk hf rfl hb5 fun a hf=>?_; refine ov (v:=.bool (((decide ((((x:Nat):Int)-1+(l:Int))<(0:Int)))||(decide ((((x:Nat):Int)-1+(l:Int))≥((fW:Int):Int))))||(decide ((((y:Nat):Int)-1+(k:Int))<(0:Int))))) hf rfl (aA.pick rfl rfl rfl (by rw [hb5]; rfl)) fun a hf=>?_; exact O.nil ⟨rfl,hf.q rfl,hS⟩
        · have hb5p:=hb5
          try simp only [bsm] at hb5p
          refine og (v:=iV (((y:Nat):Int)-1+(k:Int))) hf rfl hb5 (aA.move rfl) fun a hf=>og (v:=.bool (decide ((((y:Nat):Int)-1+(k:Int))<(0:Int)))) hf rfl hb5 (aA.lss rfl rfl) fun a hf=>?_; refine ov (v:=.bool (((decide ((((x:Nat):Int)-1+(l:Int))<(0:Int)))||(decide ((((x:Nat):Int)-1+(l:Int))≥((fW:Int):Int))))||(decide ((((y:Nat):Int)-1+(k:Int))<(0:Int))))) hf rfl (aA.pick rfl rfl rfl (by rw [hb5]; rfl)) fun a hf=>?_; exact O.nil ⟨rfl,hf.q rfl,hS⟩
      clear hf hS a; rintro a w ⟨hf,hS⟩; refine mv hf rfl fun a hf=>?_
      refine O.dV (l₁:=[13,14,15,16,17]) (l₂:=_) (fun a w=>Fr a 87 [] [(2,.bool false),(3,(pp b_f1)),(6,.slice none 0 0),(7,iV x),(8,iV y),(9,vi),(10,iV (((y:Nat):Int)-1+(k:Int))),(11,iV (((x:Nat):Int)-1+(l:Int))),(53,.bool ((((decide ((((x:Nat):Int)-1+(l:Int))<(0:Int)))||(decide ((((x:Nat):Int)-1+(l:Int))≥((fW:Int):Int))))||(decide ((((y:Nat):Int)-1+(k:Int))<(0:Int))))||(decide ((((y:Nat):Int)-1+(k:Int))≥((fH:Int):Int)))))]∧St w0 w noX [] [sl 3 1 vi inn.length (ints inn),pt b_f1 (.cells #[iV fW,iV fH,vP] 24 (0,0))]) rfl ?_ ?_
      · rcases Bool.eq_false_or_eq_true (((decide ((((x:Nat):Int)-1+(l:Int))<(0:Int)))||(decide ((((x:Nat):Int)-1+(l:Int))≥((fW:Int):Int))))||(decide ((((y:Nat):Int)-1+(k:Int))<(0:Int)))) with hb6 | hb6
        · have hb6p:=hb6
          try simp only [bsm] at hb6p
          refine sk hf rfl hb6 fun a hf=>sk hf rfl hb6 fun a hf=>sk hf rfl hb6 fun a hf=>sk hf rfl hb6 fun a hf=>?_; refine ov (v:=.bool ((((decide ((((x:Nat):Int)-1+(l:Int))<(0:Int)))||(decide ((((x:Nat):Int)-1+(l:Int))≥((fW:Int):Int))))||(decide ((((y:Nat):Int)-1+(k:Int))<(0:Int))))||(decide ((((y:Nat):Int)-1+(k:Int))≥((fH:Int):Int))))) hf rfl (aA.pick rfl rfl rfl (by rw [hb6]; rfl)) fun a hf=>?_; exact O.nil ⟨rfl,hf.q rfl,hS⟩
        · have hb6p:=hb6
          try simp only [bsm] at hb6p
          refine og (v:=iV (((y:Nat):Int)-1+(k:Int))) hf rfl hb6 (aA.move rfl) fun a hf=>og (v:=.pointer (some ⟨b_f1,1,none⟩)) hf rfl hb6 (aA.field cB rfl rfl) fun a hf=>og (v:=iV fH) hf rfl hb6 (aA.aT aH rfl (hS.p 1 rfl) rfl) fun a hf=>og (v:=.bool (decide ((((y:Nat):Int)-1+(k:Int))≥((fH:Int):Int)))) hf rfl hb6 (aA.geq rfl rfl) fun a hf=>?_; refine ov (v:=.bool ((((decide ((((x:Nat):Int)-1+(l:Int))<(0:Int)))||(decide ((((x:Nat):Int)-1+(l:Int))≥((fW:Int):Int))))||(decide ((((y:Nat):Int)-1+(k:Int))<(0:Int))))||(decide ((((y:Nat):Int)-1+(k:Int))≥((fH:Int):Int))))) hf rfl (aA.pick rfl rfl rfl (by rw [hb6]; rfl)) fun a hf=>?_; exact O.nil ⟨rfl,hf.q rfl,hS⟩
      clear hf hS a; rintro a w ⟨hf,hS⟩; refine mv hf rfl fun a hf=>?_
      refine O.dV (l₁:=[19,20,21,22,23,24,25,26,27]) (l₂:=_) (fun a w=>Fr a 87 [] [(2,.bool false),(3,(pp b_f1)),(6,.slice none 0 0),(7,iV x),(8,iV y),(9,vi),(10,iV (((y:Nat):Int)-1+(k:Int))),(11,iV (((x:Nat):Int)-1+(l:Int))),(63,.bool (((((decide ((((x:Nat):Int)-1+(l:Int))<(0:Int)))||(decide ((((x:Nat):Int)-1+(l:Int))≥((fW:Int):Int))))||(decide ((((y:Nat):Int)-1+(k:Int))<(0:Int))))||(decide ((((y:Nat):Int)-1+(k:Int))≥((fH:Int):Int))))||((decide ((((x:Nat):Int)-1+(l:Int))=(((x:Nat):Int):Int)))&&(decide ((((y:Nat):Int)-1+(k:Int))=(((y:Nat):Int):Int))))))]∧St w0 w noX [] [sl 3 1 vi inn.length (ints inn),pt b_f1 (.cells #[iV fW,iV fH,vP] 24 (0,0))]) rfl ?_ ?_
      · rcases Bool.eq_false_or_eq_true ((((decide ((((x:Nat):Int)-1+(l:Int))<(0:Int)))||(decide ((((x:Nat):Int)-1+(l:Int))≥((fW:Int):Int))))||(decide ((((y:Nat):Int)-1+(k:Int))<(0:Int))))||(decide ((((y:Nat):Int)-1+(k:Int))≥((fH:Int):Int)))) with hb7 | hb7
        · have hb7p:=hb7
          try simp only [bsm] at hb7p
          refine sk hf rfl hb7 fun a hf=>sk hf rfl hb7 fun a hf=>sk hf rfl hb7 fun a hf=>sk hf rfl hb7 fun a hf=>O.bC hf rfl rfl rfl rfl fun a hf=>O.bC hf rfl rfl rfl rfl fun a hf=>O.bC hf rfl rfl rfl rfl fun a hf=>sk hf rfl hb7 fun a hf=>?_; refine ov (v:=.bool (((((decide ((((x:Nat):Int)-1+(l:Int))<(0:Int)))||(decide ((((x:Nat):Int)-1+(l:Int))≥((fW:Int):Int))))||(decide ((((y:Nat):Int)-1+(k:Int))<(0:Int))))||(decide ((((y:Nat):Int)-1+(k:Int))≥((fH:Int):Int))))||((decide ((((x:Nat):Int)-1+(l:Int))=(((x:Nat):Int):Int)))&&(decide ((((y:Nat):Int)-1+(k:Int))=(((y:Nat):Int):Int)))))) hf rfl (aA.pick rfl rfl rfl (by rw [hb7]; rfl)) fun a hf=>?_; exact O.nil ⟨rfl,hf.q rfl,hS⟩
        · have hb7p:=hb7
          try simp only [bsm] at hb7p
          refine og (v:=iV (((x:Nat):Int)-1+(l:Int))) hf rfl hb7 (aA.move rfl) fun a hf=>og (v:=iV x) hf rfl hb7 (aA.move rfl) fun a hf=>og (v:=.bool (decide ((((x:Nat):Int)-1+(l:Int))=(((x:Nat):Int):Int)))) hf rfl hb7 (aA.eql rfl rfl) fun a hf=>og (v:=.bool (decide ((((x:Nat):Int)-1+(l:Int))=(((x:Nat):Int):Int)))) hf rfl hb7 (aA.move rfl) fun a hf=>?_
          refine O.dV (l₁:=[23,24,25,26]) (l₂:=_) (fun a w=>Fr a 87 [] [(2,.bool false),(3,(pp b_f1)),(6,.slice none 0 0),(7,iV x),(8,iV y),(9,vi),(10,iV (((y:Nat):Int)-1+(k:Int))),(11,iV (((x:Nat):Int)-1+(l:Int))),(54,.bool ((((decide ((((x:Nat):Int)-1+(l:Int))<(0:Int)))||(decide ((((x:Nat):Int)-1+(l:Int))≥((fW:Int):Int))))||(decide ((((y:Nat):Int)-1+(k:Int))<(0:Int))))||(decide ((((y:Nat):Int)-1+(k:Int))≥((fH:Int):Int))))),(62,.bool ((decide ((((x:Nat):Int)-1+(l:Int))=(((x:Nat):Int):Int)))&&(decide ((((y:Nat):Int)-1+(k:Int))=(((y:Nat):Int):Int)))))]∧St w0 w noX [] [sl 3 1 vi inn.length (ints inn),pt b_f1 (.cells #[iV fW,iV fH,vP] 24 (0,0))]) rfl ?_ ?_
          · rcases Bool.eq_false_or_eq_true (decide ((((x:Nat):Int)-1+(l:Int))=(((x:Nat):Int):Int))) with hb8 | hb8
            · have hb8p:=of_decide_eq_true hb8
              refine og (v:=iV (((y:Nat):Int)-1+(k:Int))) hf rfl hb8 (aA.move rfl) fun a hf=>og (v:=iV y) hf rfl hb8 (aA.move rfl) fun a hf=>og (v:=.bool (decide ((((y:Nat):Int)-1+(k:Int))=(((y:Nat):Int):Int)))) hf rfl hb8 (aA.eql rfl rfl) fun a hf=>?_; refine og (v:=.bool ((decide ((((x:Nat):Int)-1+(l:Int))=(((x:Nat):Int):Int)))&&(decide ((((y:Nat):Int)-1+(k:Int))=(((y:Nat):Int):Int))))) hf rfl hb7 (aA.pick rfl rfl rfl (by rw [hb8]; rfl)) fun a hf=>?_; exact O.nil ⟨rfl,hf.q rfl,hS⟩
            · have hb8p:=of_decide_eq_false hb8
              refine sk hf rfl hb8 fun a hf=>sk hf rfl hb8 fun a hf=>sk hf rfl hb8 fun a hf=>?_; refine og (v:=.bool ((decide ((((x:Nat):Int)-1+(l:Int))=(((x:Nat):Int):Int)))&&(decide ((((y:Nat):Int)-1+(k:Int))=(((y:Nat):Int):Int))))) hf rfl hb7 (aA.pick rfl rfl rfl (by rw [hb8]; rfl)) fun a hf=>?_; exact O.nil ⟨rfl,hf.q rfl,hS⟩
          clear hf hS a; rintro a w ⟨hf,hS⟩; refine ov (v:=.bool (((((decide ((((x:Nat):Int)-1+(l:Int))<(0:Int)))||(decide ((((x:Nat):Int)-1+(l:Int))≥((fW:Int):Int))))||(decide ((((y:Nat):Int)-1+(k:Int))<(0:Int))))||(decide ((((y:Nat):Int)-1+(k:Int))≥((fH:Int):Int))))||((decide ((((x:Nat):Int)-1+(l:Int))=(((x:Nat):Int):Int)))&&(decide ((((y:Nat):Int)-1+(k:Int))=(((y:Nat):Int):Int)))))) hf rfl (aA.pick rfl rfl rfl (by rw [hb7]; rfl)) fun a hf=>?_; exact O.nil ⟨rfl,hf.q rfl,hS⟩
      clear hf hS a; rintro a w ⟨hf,hS⟩; refine mv hf rfl fun a hf=>?_
      refine O.dV (l₁:=[29,30,31,32,33,34,35,36,37,38,39,40]) (l₂:=_) (fun a w=>Fr a 87 [] [(2,.bool false),(3,(pp b_f1)),(6,.slice none 0 0),(7,iV x),(8,iV y),(9,vi),(10,iV (((y:Nat):Int)-1+(k:Int))),(11,iV (((x:Nat):Int)-1+(l:Int))),(76,.bool ((((((decide ((((x:Nat):Int)-1+(l:Int))<(0:Int)))||(decide ((((x:Nat):Int)-1+(l:Int))≥((fW:Int):Int))))||(decide ((((y:Nat):Int)-1+(k:Int))<(0:Int))))||(decide ((((y:Nat):Int)-1+(k:Int))≥((fH:Int):Int))))||((decide ((((x:Nat):Int)-1+(l:Int))=(((x:Nat):Int):Int)))&&(decide ((((y:Nat):Int)-1+(k:Int))=(((y:Nat):Int):Int)))))||false))]∧St w0 w noX [] [sl 3 1 vi inn.length (ints inn),pt b_f1 (.cells #[iV fW,iV fH,vP] 24 (0,0))]) rfl ?_ ?_
      · rcases Bool.eq_false_or_eq_true (((((decide ((((x:Nat):Int)-1+(l:Int))<(0:Int)))||(decide ((((x:Nat):Int)-1+(l:Int))≥((fW:Int):Int))))||(decide ((((y:Nat):Int)-1+(k:Int))<(0:Int))))||(decide ((((y:Nat):Int)-1+(k:Int))≥((fH:Int):Int))))||((decide ((((x:Nat):Int)-1+(l:Int))=(((x:Nat):Int):Int)))&&(decide ((((y:Nat):Int)-1+(k:Int))=(((y:Nat):Int):Int))))) with hb9 | hb9
        · have hb9p:=hb9
          try simp only [bsm] at hb9p
          refine sk hf rfl hb9 fun a hf=>sk hf rfl hb9 fun a hf=>O.bC hf rfl rfl rfl rfl fun a hf=>O.bC hf rfl rfl rfl rfl fun a hf=>O.bC hf rfl rfl rfl rfl fun a hf=>sk hf rfl hb9 fun a hf=>sk hf rfl hb9 fun a hf=>O.bC hf rfl rfl rfl rfl fun a hf=>O.bC hf rfl rfl rfl rfl fun a hf=>O.bC hf rfl rfl rfl rfl fun a hf=>sk hf rfl hb9 fun a hf=>?_; refine ov (v:=.bool ((((((decide ((((x:Nat):Int)-1+(l:Int))<(0:Int)))||(decide ((((x:Nat):Int)-1+(l:Int))≥((fW:Int):Int))))||(decide ((((y:Nat):Int)-1+(k:Int))<(0:Int))))||(decide ((((y:Nat):Int)-1+(k:Int))≥((fH:Int):Int))))||((decide ((((x:Nat):Int)-1+(l:Int))=(((x:Nat):Int):Int)))&&(decide ((((y:Nat):Int)-1+(k:Int))=(((y:Nat):Int):Int)))))||false)) hf rfl (aA.pick rfl rfl rfl (by rw [hb9]; rfl)) fun a hf=>?_; exact O.nil ⟨rfl,hf.q rfl,hS⟩
        · have hb9p:=hb9
          try simp only [bsm] at hb9p
          refine og (v:=.bool false) hf rfl hb9 (aA.move rfl) fun a hf=>og (v:=.bool false) hf rfl hb9 (aA.move rfl) fun a hf=>sk hf rfl rfl fun a hf=>sk hf rfl rfl fun a hf=>sk hf rfl rfl fun a hf=>og (v:=.bool false) hf rfl hb9 (aA.pick rfl rfl rfl rfl)<|fun a hf=>og (v:=.bool false) hf rfl hb9 (aA.move rfl) fun a hf=>sk hf rfl rfl fun a hf=>sk hf rfl rfl fun a hf=>sk hf rfl rfl fun a hf=>og (v:=.bool false) hf rfl hb9 (aA.pick rfl rfl rfl rfl)<|fun a hf=>?_; refine ov (v:=.bool ((((((decide ((((x:Nat):Int)-1+(l:Int))<(0:Int)))||(decide ((((x:Nat):Int)-1+(l:Int))≥((fW:Int):Int))))||(decide ((((y:Nat):Int)-1+(k:Int))<(0:Int))))||(decide ((((y:Nat):Int)-1+(k:Int))≥((fH:Int):Int))))||((decide ((((x:Nat):Int)-1+(l:Int))=(((x:Nat):Int):Int)))&&(decide ((((y:Nat):Int)-1+(k:Int))=(((y:Nat):Int):Int)))))||false)) hf rfl (aA.pick rfl rfl rfl (by rw [hb9]; rfl)) fun a hf=>?_; exact O.nil ⟨rfl,hf.q rfl,hS⟩
      clear hf hS a; rintro a w ⟨hf,hS⟩; refine nk ?_; refine W.if_ hf rfl (fun hc=>?_) (fun hc=>?_)
      · have hcb:=hc
        try simp only [bsm] at hc
        refine W.exit<|aC<|bD<|aF<|?_
        refine R3 rfl<|mv hf rfl<|fun a hf=>ov hf rfl (aA.ak rfl rfl (by omega)) fun a hf=>mv hf rfl fun a hf=>?_; refine O.nil ?_; refine aS ⟨(l+1,vi,inn),⟨hf.to ⟨rfl,rfl,rfl,rfl,rfl,(by first | rfl | exact vI (by omega)),rfl,(by first | rfl | exact vI (by omega)),trivial⟩,?_,?_,?_,?_⟩,?_⟩
        · exact hS.eqM rfl
        · omega
        · subst h5; rw [Det.iT (by simp only [Bool.or_false] at hcb; simp only [Det.jk,hcb]; rfl)]
        · first | omega | (rw [List.length_append,List.length_singleton]; omega)
        · dsimp only; omega
      · have hcb:=hc
        try simp only [bsm] at hc
        refine W.skip<|aF<|?_
        refine W.aY (l:=[0,1,2,3,4,5,6,7,8,9]) rfl ?_; have hm:=Det.oW (a:=((y:Nat):Int)-1+(k:Int)) (b:=(fW:Int)) (by omega) (by omega); refine mv hf rfl fun a hf=>mv hf rfl fun a hf=>ov hf rfl (aA.field bQ rfl rfl) fun a hf=>ov hf rfl (aA.aT aH rfl (hS.p 1 rfl) rfl) fun a hf=>ov hf rfl (aA.qG rfl rfl (by omega)) fun a hf=>mv hf rfl fun a hf=>ov hf rfl (aA.ak rfl rfl (by omega)) fun a hf=>?_; refine O.buildSlice (cs':=#[iV (((((y:Nat):Int)-1+(k:Int))*(fW:Int))+(((x:Nat):Int)-1+(l:Int)))]) (zs:=#[iV 0]) hf hS rfl rfl aB aD bY rfl rfl rfl rfl rfl ?_; intro b_s11 w a hbb_s11 hS hf; refine O.fJ (j:=1) (jj:=0) hf hS rfl rfl aB aD gF bY rfl rfl rfl rfl rfl rfl rfl rfl (by unfold maxLen; omega) (by omega) ?_; intro v12 w a hS hf; replace hS:=hS.eqM (N:=[pt b_s11 (.cells #[iV (((((y:Nat):Int)-1+(k:Int))*(fW:Int))+(((x:Nat):Int)-1+(l:Int)))] 3 (0,0)),sl 3 1 v12 (inn.length+1) (ints inn++[iV (((((y:Nat):Int)-1+(k:Int))*(fW:Int))+(((x:Nat):Int)-1+(l:Int)))]),pt b_f1 (.cells #[iV fW,iV fH,vP] 24 (0,0))]) rfl; replace hS:=hS.eqM (N:=[pt b_s11 (.cells #[iV (((((y:Nat):Int)-1+(k:Int))*(fW:Int))+(((x:Nat):Int)-1+(l:Int)))] 3 (0,0)),sl 3 1 v12 ((inn++[((((y:Nat):Int)-1+(k:Int))*(fW:Int))+(((x:Nat):Int)-1+(l:Int))]).length) (ints (inn++[((((y:Nat):Int)-1+(k:Int))*(fW:Int))+(((x:Nat):Int)-1+(l:Int))])),pt b_f1 (.cells #[iV fW,iV fH,vP] 24 (0,0))]) (by rw [je]); refine mv hf rfl fun a hf=>?_; refine O.nil<|aG<|aF<|?_
        refine R3 rfl<|mv hf rfl<|fun a hf=>ov hf rfl (aA.ak rfl rfl (by omega)) fun a hf=>mv hf rfl fun a hf=>?_; refine O.nil ?_; replace hS:=hS.sl [0,1,1]; refine aS ⟨(l+1,v12,(inn++[((((y:Nat):Int)-1+(k:Int))*(fW:Int))+(((x:Nat):Int)-1+(l:Int))])),⟨hf.to ⟨rfl,rfl,rfl,rfl,rfl,(by first | rfl | exact vI (by omega)),rfl,(by first | rfl | exact vI (by omega)),trivial⟩,?_,?_,?_,?_⟩,?_⟩
        · exact hS.eqM rfl
        · omega
        · subst h5; rw [Det.kZ (by simp only [Bool.or_false] at hcb; simp only [Det.jk,hcb]; rfl),List.append_assoc]
        · first | omega | (rw [List.length_append,List.length_singleton]; omega)
        · dsimp only; omega
    · refine W.exit ?_
      refine aC<|aC<|bD<|aG<|aF<|?_
      refine R3 rfl<|mv hf rfl<|fun a hf=>ov hf rfl (aA.ak rfl rfl (by omega)) fun a hf=>mv hf rfl fun a hf=>?_; refine O.nil ?_; refine aS ⟨(k+1,vi,inn),⟨hf.to ⟨rfl,rfl,rfl,rfl,rfl,(by first | rfl | exact vI (by omega)),(by first | rfl | exact vI (by omega)),trivial⟩,?_,?_,?_,?_⟩,?_⟩
      · exact hS.eqM rfl
      · omega
      · subst h5 h2; obtain rfl:l=3:=by omega
        rfl
      · omega
      · dsimp only; omega
  · refine W.exit ?_
    refine aC<|aC<|bD<|aF<|W.seq<|?_
    refine R2 rfl<|mv hf rfl<|fun a hf=>mv hf rfl fun a hf=>?_; refine nk<|W.ret<|bH hf rfl (aO.tmp rfl)<|?_
    subst h2; obtain rfl:k=3:=by omega
    subst hx hy
    exact ⟨vo,rfl,(hS.sub (List.Sublist.cons_cons _ (List.nil_sublist _))).noB⟩
set_option maxHeartbeats 1000000 in
set_option maxRecDepth 4000 in
theorem uT (fW fH:Int) (vP:Value) (zs:List Int) (w0:World) (hz:zs.length≤10000) (hP:aQ (hp w0) 1 vP zs.length (ints zs)) :
    Ret Tryz.prog 24 #[(fG fW fH vP)] w0 (G:=Value) (fun v=>(fG fW fH v)) (fun v w=>St w0 w noX [] [sl 2 1 v zs.length (ints zs)]):=by
  refine aR (lv:=[(fG fW fH vP)]) Tryz.func24 rfl rfl rfl (fun a hf=>?_); replace hf:Fr a 12 [] [(0,(fG fW fH vP))]:=hf; have hS:St w0 w0 noX [rI vP zs] []:=(St.refl w0).bO hP; refine W.seq ?_
  refine R2 rfl<|O.box (cs:=#[iV fW,iV fH,vP]) hf hS rfl rfl rfl rfl<|?_; intro b_f1 w a hbb_f1 hS hf; refine O.alloc (cs:=#[iV 0,iV 0,.slice none 0 0]) hf hS rfl rfl iW rfl ?_; intro b_x2 w a hbb_x2 hS hf; refine nk ?_; replace hf:Fr a 12 [] [(1,_),(2,_)]:=hf.q rfl; refine W.seq ?_
  refine W.aDM (γ:=(Nat) × (Value)) (L0:=[(1,(pp b_f1)),(2,(pp b_x2))]) (0,default) [4,7,8,9] [0,1,2,3,5,6] (fun i=>match i with | 0=>[] | 1=>[0] | 2=>[] | 3=>[2] | 4=>[] | 5=>[] | 6=>[5] | 7=>[4,6] | 8=>[1,3,7] | 9=>[0,1,2,3,4,5,6,7,8] | _=>[]) (fun (g:(Nat) × (Value)) j=>match g,j with | ⟨b_s3,v4⟩,0=>(pp b_f1) | ⟨b_s3,v4⟩,1=>iV fW | ⟨b_s3,v4⟩,2=>.pointer (some ⟨b_f1,1,none⟩) | ⟨b_s3,v4⟩,3=>iV fH | ⟨b_s3,v4⟩,4=>.slice (some ⟨b_s3,0,none⟩) 0 0 | ⟨b_s3,v4⟩,5=>.pointer (some ⟨b_f1,2,none⟩) | ⟨b_s3,v4⟩,6=>vP | ⟨b_s3,v4⟩,7=>v4 | ⟨b_s3,v4⟩,8=>(fG fW fH v4) | _,_=>undef) (fun k (g:(Nat) × (Value)) w=>match k,g with | 0,⟨b_s3,v4⟩=>St w0 w noX [rI vP zs] [pt b_x2 (.cells #[iV 0,iV 0,.slice none 0 0] 24 (0,0)),pt b_f1 (.cells #[iV fW,iV fH,vP] 24 (0,0))] | 1,⟨b_s3,v4⟩=>St w0 w noX [rI vP zs] [sl 2 1 (.slice (some ⟨b_s3,0,none⟩) 0 0) (([]:List Int).length) (ints []),pt b_x2 (.cells #[iV 0,iV 0,.slice none 0 0] 24 (0,0)),pt b_f1 (.cells #[iV fW,iV fH,vP] 24 (0,0))] | 2,⟨b_s3,v4⟩=>St w0 w noX [rI vP zs] [sl 2 1 v4 zs.length (ints zs),pt b_x2 (.cells #[iV 0,iV 0,.slice none 0 0] 24 (0,0)),pt b_f1 (.cells #[iV fW,iV fH,vP] 24 (0,0))] | 3,⟨b_s3,v4⟩=>St w0 w noX [rI vP zs] [sl 2 1 v4 zs.length (ints zs),pt b_x2 (.cells #[iV 0,iV 0,.slice none 0 0] 24 (0,0)),pt b_f1 (.cells #[iV fW,iV fH,vP] 24 (0,0))] | _,⟨b_s3,v4⟩=>St w0 w noX [rI vP zs] [sl 2 1 v4 zs.length (ints zs),pt b_x2 (.cells #[iV fW,iV fH,v4] 24 (0,0)),pt b_f1 (.cells #[iV fW,iV fH,vP] 24 (0,0))]) aV (by kernel_rfl) hf hS.drew ?_ ?_ ?_
  · clear hf hS
    refine ⟨?_,?_,?_,?_,?_,?_,trivial⟩
    · intro k g w hD a hf
      obtain ⟨b_s3,v4⟩:=g
      rcases k with _ | _ | _ | _ | k
      · have hS:=hD; clear hD
        replace hf:Fr a 12 [] [(1,_),(2,_)]:=hf.q rfl; refine ov hf rfl (aA.field bQ rfl rfl) fun a hf=>?_; exact O.nil ⟨rfl,hf.to trivial,(gt (d:=3) hf rfl rfl),hS⟩
      · have hS:=hD; clear hD
        replace hf:Fr a 12 [] [(1,_),(2,_)]:=hf.q rfl; refine ov hf rfl (aA.field bQ rfl rfl) fun a hf=>?_; exact O.nil ⟨rfl,hf.to trivial,(gt (d:=3) hf rfl rfl),hS⟩
      · have hS:=hD; clear hD
        replace hf:Fr a 12 [] [(1,_),(2,_)]:=hf.q rfl; refine ov hf rfl (aA.field bQ rfl rfl) fun a hf=>?_; exact O.nil ⟨rfl,hf.to trivial,(gt (d:=3) hf rfl rfl),hS⟩
      · have hS:=hD; clear hD
        replace hf:Fr a 12 [] [(1,_),(2,_)]:=hf.q rfl; refine ov hf rfl (aA.field bQ rfl rfl) fun a hf=>?_; exact O.nil ⟨rfl,hf.to trivial,(gt (d:=3) hf rfl rfl),hS⟩
      · have hS:=hD; clear hD
        replace hf:Fr a 12 [] [(1,_),(2,_)]:=hf.q rfl; refine ov hf rfl (aA.field bQ rfl rfl) fun a hf=>?_; exact O.nil ⟨rfl,hf.to trivial,(gt (d:=3) hf rfl rfl),hS⟩
    · intro k g w hD a hf
      obtain ⟨b_s3,v4⟩:=g
      rcases k with _ | _ | _ | _ | k
      · have hS:=hD; clear hD
        replace hf:Fr a 12 [] [(3,_),(1,_),(2,_)]:=hf.q rfl; refine ov hf rfl (aA.aT aH rfl (hS.p 1 rfl) rfl) fun a hf=>?_; exact O.nil ⟨rfl,hf.to trivial,(gt (d:=4) hf rfl rfl),hS⟩
      · have hS:=hD; clear hD
        replace hf:Fr a 12 [] [(3,_),(1,_),(2,_)]:=hf.q rfl; refine ov hf rfl (aA.aT aH rfl (hS.p 2 rfl) rfl) fun a hf=>?_; exact O.nil ⟨rfl,hf.to trivial,(gt (d:=4) hf rfl rfl),hS⟩
      · have hS:=hD; clear hD
        replace hf:Fr a 12 [] [(3,_),(1,_),(2,_)]:=hf.q rfl; refine ov hf rfl (aA.aT aH rfl (hS.p 2 rfl) rfl) fun a hf=>?_; exact O.nil ⟨rfl,hf.to trivial,(gt (d:=4) hf rfl rfl),hS⟩
      · have hS:=hD; clear hD
        replace hf:Fr a 12 [] [(3,_),(1,_),(2,_)]:=hf.q rfl; refine ov hf rfl (aA.aT aH rfl (hS.p 2 rfl) rfl) fun a hf=>?_; exact O.nil ⟨rfl,hf.to trivial,(gt (d:=4) hf rfl rfl),hS⟩
      · have hS:=hD; clear hD
        replace hf:Fr a 12 [] [(3,_),(1,_),(2,_)]:=hf.q rfl; refine ov hf rfl (aA.aT aH rfl (hS.p 2 rfl) rfl) fun a hf=>?_; exact O.nil ⟨rfl,hf.to trivial,(gt (d:=4) hf rfl rfl),hS⟩
    · intro k g w hD a hf
      obtain ⟨b_s3,v4⟩:=g
      rcases k with _ | _ | _ | _ | k
      · have hS:=hD; clear hD
        replace hf:Fr a 12 [] [(1,_),(2,_)]:=hf.q rfl; refine ov hf rfl (aA.field cB rfl rfl) fun a hf=>?_; exact O.nil ⟨rfl,hf.to trivial,(gt (d:=5) hf rfl rfl),hS⟩
      · have hS:=hD; clear hD
        replace hf:Fr a 12 [] [(1,_),(2,_)]:=hf.q rfl; refine ov hf rfl (aA.field cB rfl rfl) fun a hf=>?_; exact O.nil ⟨rfl,hf.to trivial,(gt (d:=5) hf rfl rfl),hS⟩
      · have hS:=hD; clear hD
        replace hf:Fr a 12 [] [(1,_),(2,_)]:=hf.q rfl; refine ov hf rfl (aA.field cB rfl rfl) fun a hf=>?_; exact O.nil ⟨rfl,hf.to trivial,(gt (d:=5) hf rfl rfl),hS⟩
      · have hS:=hD; clear hD
        replace hf:Fr a 12 [] [(1,_),(2,_)]:=hf.q rfl; refine ov hf rfl (aA.field cB rfl rfl) fun a hf=>?_; exact O.nil ⟨rfl,hf.to trivial,(gt (d:=5) hf rfl rfl),hS⟩
      · have hS:=hD; clear hD
        replace hf:Fr a 12 [] [(1,_),(2,_)]:=hf.q rfl; refine ov hf rfl (aA.field cB rfl rfl) fun a hf=>?_; exact O.nil ⟨rfl,hf.to trivial,(gt (d:=5) hf rfl rfl),hS⟩
    · intro k g w hD a hf
      obtain ⟨b_s3,v4⟩:=g
      rcases k with _ | _ | _ | _ | k
      · have hS:=hD; clear hD
        replace hf:Fr a 12 [] [(5,_),(1,_),(2,_)]:=hf.q rfl; refine ov hf rfl (aA.aT aH rfl (hS.p 1 rfl) rfl) fun a hf=>?_; exact O.nil ⟨rfl,hf.to trivial,(gt (d:=6) hf rfl rfl),hS⟩
      · have hS:=hD; clear hD
        replace hf:Fr a 12 [] [(5,_),(1,_),(2,_)]:=hf.q rfl; refine ov hf rfl (aA.aT aH rfl (hS.p 2 rfl) rfl) fun a hf=>?_; exact O.nil ⟨rfl,hf.to trivial,(gt (d:=6) hf rfl rfl),hS⟩
      · have hS:=hD; clear hD
        replace hf:Fr a 12 [] [(5,_),(1,_),(2,_)]:=hf.q rfl; refine ov hf rfl (aA.aT aH rfl (hS.p 2 rfl) rfl) fun a hf=>?_; exact O.nil ⟨rfl,hf.to trivial,(gt (d:=6) hf rfl rfl),hS⟩
      · have hS:=hD; clear hD
        replace hf:Fr a 12 [] [(5,_),(1,_),(2,_)]:=hf.q rfl; refine ov hf rfl (aA.aT aH rfl (hS.p 2 rfl) rfl) fun a hf=>?_; exact O.nil ⟨rfl,hf.to trivial,(gt (d:=6) hf rfl rfl),hS⟩
      · have hS:=hD; clear hD
        replace hf:Fr a 12 [] [(5,_),(1,_),(2,_)]:=hf.q rfl; refine ov hf rfl (aA.aT aH rfl (hS.p 2 rfl) rfl) fun a hf=>?_; exact O.nil ⟨rfl,hf.to trivial,(gt (d:=6) hf rfl rfl),hS⟩
    · intro k g w hD a hf
      obtain ⟨b_s3,v4⟩:=g
      rcases k with _ | _ | _ | _ | k
      · have hS:=hD; clear hD
        replace hf:Fr a 12 [] [(1,_),(2,_)]:=hf.q rfl; refine ov hf rfl (aA.field aP rfl rfl) fun a hf=>?_; exact O.nil ⟨rfl,hf.to trivial,(gt (d:=8) hf rfl rfl),hS⟩
      · have hS:=hD; clear hD
        replace hf:Fr a 12 [] [(1,_),(2,_)]:=hf.q rfl; refine ov hf rfl (aA.field aP rfl rfl) fun a hf=>?_; exact O.nil ⟨rfl,hf.to trivial,(gt (d:=8) hf rfl rfl),hS⟩
      · have hS:=hD; clear hD
        replace hf:Fr a 12 [] [(1,_),(2,_)]:=hf.q rfl; refine ov hf rfl (aA.field aP rfl rfl) fun a hf=>?_; exact O.nil ⟨rfl,hf.to trivial,(gt (d:=8) hf rfl rfl),hS⟩
      · have hS:=hD; clear hD
        replace hf:Fr a 12 [] [(1,_),(2,_)]:=hf.q rfl; refine ov hf rfl (aA.field aP rfl rfl) fun a hf=>?_; exact O.nil ⟨rfl,hf.to trivial,(gt (d:=8) hf rfl rfl),hS⟩
      · have hS:=hD; clear hD
        replace hf:Fr a 12 [] [(1,_),(2,_)]:=hf.q rfl; refine ov hf rfl (aA.field aP rfl rfl) fun a hf=>?_; exact O.nil ⟨rfl,hf.to trivial,(gt (d:=8) hf rfl rfl),hS⟩
    · intro k g w hD a hf
      obtain ⟨b_s3,v4⟩:=g
      rcases k with _ | _ | _ | _ | k
      · have hS:=hD; clear hD
        replace hf:Fr a 12 [] [(8,_),(1,_),(2,_)]:=hf.q rfl; refine ov hf rfl (aA.aT bB rfl (hS.p 1 rfl) rfl) fun a hf=>?_; exact O.nil ⟨rfl,hf.to trivial,(gt (d:=9) hf rfl rfl),hS⟩
      · have hS:=hD; clear hD
        replace hf:Fr a 12 [] [(8,_),(1,_),(2,_)]:=hf.q rfl; refine ov hf rfl (aA.aT bB rfl (hS.p 2 rfl) rfl) fun a hf=>?_; exact O.nil ⟨rfl,hf.to trivial,(gt (d:=9) hf rfl rfl),hS⟩
      · have hS:=hD; clear hD
        replace hf:Fr a 12 [] [(8,_),(1,_),(2,_)]:=hf.q rfl; refine ov hf rfl (aA.aT bB rfl (hS.p 2 rfl) rfl) fun a hf=>?_; exact O.nil ⟨rfl,hf.to trivial,(gt (d:=9) hf rfl rfl),hS⟩
      · have hS:=hD; clear hD
        replace hf:Fr a 12 [] [(8,_),(1,_),(2,_)]:=hf.q rfl; refine ov hf rfl (aA.aT bB rfl (hS.p 2 rfl) rfl) fun a hf=>?_; exact O.nil ⟨rfl,hf.to trivial,(gt (d:=9) hf rfl rfl),hS⟩
      · have hS:=hD; clear hD
        replace hf:Fr a 12 [] [(8,_),(1,_),(2,_)]:=hf.q rfl; refine ov hf rfl (aA.aT bB rfl (hS.p 2 rfl) rfl) fun a hf=>?_; exact O.nil ⟨rfl,hf.to trivial,(gt (d:=9) hf rfl rfl),hS⟩
  · clear hf hS
    refine ⟨?_,?_,?_,?_,trivial⟩
    · intro g w hD a hf
      obtain ⟨b_s3,v4⟩:=g; have hS:=hD; clear hD; replace hf:Fr a 12 [] [(1,_),(2,_)]:=hf.q rfl; refine O.kU hf hS rfl rfl aN bE rfl ?_; intro b_s7 w a hbb_s7 hS hf; replace hS:St w0 w noX [rI vP zs] [sl 2 1 (.slice (some ⟨b_s7,0,none⟩) 0 0) (([]:List Int).length) (ints []),pt b_x2 (.cells #[iV 0,iV 0,.slice none 0 0] 24 (0,0)),pt b_f1 (.cells #[iV fW,iV fH,vP] 24 (0,0))]:=hS; exact O.nil ⟨rfl,(b_s7,v4),hf.to trivial,(gt (d:=7) hf rfl rfl),(fun j hj=>match j,hj with | 0,hj=>rfl | 1,hj=>rfl | 2,hj=>rfl | 3,hj=>rfl | 4,hj=>absurd hj (by decide) | 5,hj=>rfl | 6,hj=>rfl | 7,hj=>absurd hj (by decide) | 8,hj=>absurd hj (by decide) | 9,hj=>absurd hj (by decide) | _+10,_=>rfl),hS⟩
    · intro g w hD a hf
      obtain ⟨b_s3,v4⟩:=g; have hS:=hD; clear hD; replace hf:Fr a 12 [] [(7,_),(9,_),(1,_),(2,_)]:=hf.q rfl; refine O.tZ (j:=0) hf hS rfl rfl aN bE qx iZ rfl rfl rfl rfl rfl (hS.aL (j:=0) rfl) (lS _) (by unfold maxLen; simp only [List.length_nil]; omega) (by simp only [List.length_nil]; omega) ?_; intro v8 w a hS hf; replace hS:=hS.eqM (N:=[sl 2 1 v8 (([]:List Int).length+zs.length) (ints []++ints zs),pt b_x2 (.cells #[iV 0,iV 0,.slice none 0 0] 24 (0,0)),pt b_f1 (.cells #[iV fW,iV fH,vP] 24 (0,0))]) rfl; replace hS:=hS.eqM (N:=[sl 2 1 v8 zs.length (ints zs),pt b_x2 (.cells #[iV 0,iV 0,.slice none 0 0] 24 (0,0)),pt b_f1 (.cells #[iV fW,iV fH,vP] 24 (0,0))]) (by simp only [o7,List.length_append,List.length_nil,Nat.zero_add,List.nil_append,ints,List.map_nil]); exact O.nil ⟨rfl,(b_s3,v8),hf.to trivial,(gt (d:=10) hf rfl rfl),(fun j hj=>match j,hj with | 0,hj=>rfl | 1,hj=>rfl | 2,hj=>rfl | 3,hj=>rfl | 4,hj=>rfl | 5,hj=>rfl | 6,hj=>rfl | 7,hj=>absurd hj (by decide) | 8,hj=>absurd hj (by decide) | 9,hj=>absurd hj (by decide) | _+10,_=>rfl),hS⟩
    · intro g w hD a hf
      obtain ⟨b_s3,v4⟩:=g; have hS:=hD; clear hD; replace hf:Fr a 12 [] [(4,_),(6,_),(10,_),(1,_),(2,_)]:=hf.q rfl; have hcl9:=aQ.cells (hS.slr (j:=0) rfl); refine ov hf rfl (aA.kM (cs':=#[iV fW,iV fH,v4]) oD iW rfl (by simp only [Instr.fill,hcl9.1]; rfl)) fun a hf=>?_; exact O.nil ⟨rfl,(b_s3,v4),hf.to trivial,(gt (d:=11) hf rfl rfl),(fun j hj=>match j,hj with | 0,hj=>rfl | 1,hj=>rfl | 2,hj=>rfl | 3,hj=>rfl | 4,hj=>rfl | 5,hj=>rfl | 6,hj=>rfl | 7,hj=>rfl | 8,hj=>absurd hj (by decide) | 9,hj=>absurd hj (by decide) | _+10,_=>rfl),hS⟩
    · intro g w hD a hf
      obtain ⟨b_s3,v4⟩:=g; have hS:=hD; clear hD; replace hf:Fr a 12 [] [(3,_),(4,_),(5,_),(6,_),(7,_),(8,_),(9,_),(10,_),(11,_),(1,_),(2,_)]:=hf.q rfl; have hcl10:=aQ.cells (hS.slr (j:=0) rfl); refine ost 1 #[iV fW,iV fH,v4] hf hS rfl rfl rfl aj rfl (bM rfl (bM rfl (bM hcl10.2 rfl))) rfl (bl rfl) rfl ?_; intro w hS; exact O.nil ⟨rfl,(b_s3,v4),hf.to trivial,(fun d hd=>by cases (show none=some d from hd)),(fun j hj=>match j,hj with | 0,hj=>rfl | 1,hj=>rfl | 2,hj=>rfl | 3,hj=>rfl | 4,hj=>rfl | 5,hj=>rfl | 6,hj=>rfl | 7,hj=>rfl | 8,hj=>rfl | 9,hj=>absurd hj (by decide) | _+10,_=>rfl),hS⟩
  clear hf hS; intro g a w hf hD; obtain ⟨b_s3,v4⟩:=g; have hS:=hD; clear hD; replace hf:Fr a 12 [] [(3,_),(4,_),(5,_),(6,_),(7,_),(8,_),(9,_),(10,_),(11,_),(1,_),(2,_)]:=hf.q rfl; refine aF<|W.ret<|bH hf rfl (aO.aAq (cs':=#[iV fW,iV fH,v4]) rfl bK aj (hS.p 1 rfl) (bl rfl) rfl)<|?_; exact ⟨v4,rfl,(hS.sub (List.Sublist.cons_cons _ (List.nil_sublist _))).noB⟩
set_option maxHeartbeats 1000000 in
set_option maxRecDepth 4000 in
theorem aAp (vX:Value) (l:List Int) (w0:World) (hne:0<l.length) (hX:aQ (hp w0) 1 vX l.length (ints l)) :
    Ret Tryz.prog 47 #[vX] w0 (G:=Unit) (fun _=>iV (Det.oH l)) (fun _ w=>St w0 w noX [] []):=by
  refine aR (lv:=[vX]) Tryz.func47 rfl rfl rfl (fun a hf=>?_); replace hf:Fr a 25 [] [(0,vX)]:=hf; have hS:St w0 w0 noX [rI vX l] []:=(St.refl w0).bO hX; have hlen:=hX.2.1; unfold maxLen at hlen; refine W.seq ?_
  refine R1 rfl<|mv hf rfl<|fun a hf=>?_; refine nk<|W.seq<|W.seq<|?_
  refine R3 rfl<|mv hf rfl<|fun a hf=>ov hf rfl (aA.bP (e:=2) (by simpa using aN) rfl (hS.aL (j:=0) rfl)) fun a hf=>ov (v:=.bool (decide ((l.length:Int)<(1:Int)))) hf rfl (aA.lss rfl rfl) fun a hf=>?_; refine nk ?_; refine W.bJ hf rfl (fun hemp=>?_) (fun hemp=>?_)
  · exfalso; omega
  · refine W.skip ?_
    refine aF<|W.seq<|?_
    refine R4 rfl<|mv hf rfl<|fun a hf=>ov hf rfl (aA.ixV (j:=0) (m:=0) aN bE rfl rfl (hS.aL (j:=0) rfl) rfl (by omega) (Nat.mul_one _)) fun a hf=>ov hf rfl (aA.ld1 bT rfl (hS.aL (j:=0) rfl) (aI (by omega))) fun a hf=>mv hf rfl fun a hf=>?_; refine nk<|W.seq<|W.seq<|?_
    refine R1 rfl<|mv hf rfl<|fun a hf=>?_; refine nk<|W.block<|?_
    refine W.loop (G:=(Nat) × (Int)) (fun g a w=>match g with | (k,m)=>Fr a 25 [] [(0,vX),(2,iV 0),(3,iV m),(4,iV k)]∧St w0 w noX [rI vX l] []∧(1≤k)∧(k≤l.length)∧(∀ j,j<k→l.getD j 0≤m)∧(∃ j,j<l.length∧l.getD j 0=m)) (fun g=>match g with | (k,m)=>l.length-k) (1,l.getD 0 0) ?_ ?_
    · refine ⟨hf.to ⟨rfl,rfl,(by first | rfl | exact vI (by omega)),(by first | rfl | exact vI (by omega)),trivial⟩,hS,?_,?_,?_,?_⟩
      · omega
      · omega
      · intro j hj; obtain rfl:j=0:=by omega
        omega
      · exact ⟨0,by omega,rfl⟩
    clear hf hS a; rintro ⟨k,m⟩ a w ⟨hf,hS,h0,h1,h2,h3⟩; refine W.seq<|W.seq<|?_
    refine R4 rfl<|mv hf rfl<|fun a hf=>mv hf rfl fun a hf=>ov hf rfl (aA.bP (e:=2) (by simpa using aN) rfl (hS.aL (j:=0) rfl)) fun a hf=>ov (v:=.bool (decide ((k:Int)<((l.length:Int):Int)))) hf rfl (aA.lss rfl rfl) fun a hf=>?_; refine nk ?_; refine W.bJ hf rfl (fun hlt=>?_) (fun hlt=>?_)
    · refine W.skip ?_
      refine aF<|W.seq<|W.block<|?_
      refine R7 rfl<|mv hf rfl<|fun a hf=>mv hf rfl fun a hf=>mv hf rfl fun a hf=>ov hf rfl (aA.ixV (j:=k) (m:=k) aN bE rfl rfl (hS.aL (j:=0) rfl) rfl (by omega) (Nat.mul_one _)) fun a hf=>ov hf rfl (aA.ld1 bT rfl (hS.aL (j:=0) rfl) (aI (by omega))) fun a hf=>ov hf rfl (aA.max rfl rfl) fun a hf=>mv hf rfl fun a hf=>?_; refine O.nil<|aG<|aF<|?_
      refine R3 rfl<|mv hf rfl<|fun a hf=>ov hf rfl (aA.ak rfl rfl (by omega)) fun a hf=>mv hf rfl fun a hf=>?_; refine O.nil ?_; refine aS ⟨(k+1,if m<(l.getD k 0) then (l.getD k 0) else m),⟨hf.to ⟨rfl,rfl,(by first | rfl | exact vI (by omega)),(by first | rfl | exact vI (by omega)),trivial⟩,?_,?_,?_,?_,?_⟩,?_⟩
      · exact hS.eqM rfl
      · omega
      · omega
      · intro j hj; rcases Nat.lt_or_ge j k with h | h
        · have:=h2 j h; split <;> omega
        · obtain rfl:j=k:=by omega
          split <;> omega
      · obtain ⟨j,hj1,hj2⟩:=h3; split
        · exact ⟨k,by omega,rfl⟩
        · exact ⟨j,hj1,hj2⟩
      · dsimp only; omega
    · refine W.exit ?_
      refine aC<|aC<|bD<|aF<|W.seq<|?_
      refine R2 rfl<|mv hf rfl<|fun a hf=>mv hf rfl fun a hf=>?_; refine nk<|W.ret<|bH hf rfl (aO.tmp rfl)<|?_; obtain rfl:k=l.length:=by omega
      obtain rfl:=Det.aCx h2 h3; exact ⟨(),rfl,hS.sub (List.nil_sublist _) |>.noB⟩
set_option maxHeartbeats 1000000 in
set_option maxRecDepth 4000 in
theorem aBM (vX:Value) (l:List Int) (w0:World) (hne:0<l.length) (hX:aQ (hp w0) 1 vX l.length (ints l)) :
    Ret Tryz.prog 48 #[vX] w0 (G:=Unit) (fun _=>iV (Det.vV l)) (fun _ w=>St w0 w noX [] []):=by
  refine aR (lv:=[vX]) Tryz.func48 rfl rfl rfl (fun a hf=>?_); replace hf:Fr a 25 [] [(0,vX)]:=hf; have hS:St w0 w0 noX [rI vX l] []:=(St.refl w0).bO hX; have hlen:=hX.2.1; unfold maxLen at hlen; refine W.seq ?_
  refine R1 rfl<|mv hf rfl<|fun a hf=>?_; refine nk<|W.seq<|W.seq<|?_
  refine R3 rfl<|mv hf rfl<|fun a hf=>ov hf rfl (aA.bP (e:=2) (by simpa using aN) rfl (hS.aL (j:=0) rfl)) fun a hf=>ov (v:=.bool (decide ((l.length:Int)<(1:Int)))) hf rfl (aA.lss rfl rfl) fun a hf=>?_; refine nk ?_; refine W.bJ hf rfl (fun hemp=>?_) (fun hemp=>?_)
  · exfalso; omega
  · refine W.skip ?_
    refine aF<|W.seq<|?_
    refine R4 rfl<|mv hf rfl<|fun a hf=>ov hf rfl (aA.ixV (j:=0) (m:=0) aN bE rfl rfl (hS.aL (j:=0) rfl) rfl (by omega) (Nat.mul_one _)) fun a hf=>ov hf rfl (aA.ld1 bT rfl (hS.aL (j:=0) rfl) (aI (by omega))) fun a hf=>mv hf rfl fun a hf=>?_; refine nk<|W.seq<|W.seq<|?_
    refine R1 rfl<|mv hf rfl<|fun a hf=>?_; refine nk<|W.block<|?_
    refine W.loop (G:=(Nat) × (Int)) (fun g a w=>match g with | (k,m)=>Fr a 25 [] [(0,vX),(2,iV 0),(3,iV m),(4,iV k)]∧St w0 w noX [rI vX l] []∧(1≤k)∧(k≤l.length)∧(∀ j,j<k→m≤l.getD j 0)∧(∃ j,j<l.length∧l.getD j 0=m)) (fun g=>match g with | (k,m)=>l.length-k) (1,l.getD 0 0) ?_ ?_
    · refine ⟨hf.to ⟨rfl,rfl,(by first | rfl | exact vI (by omega)),(by first | rfl | exact vI (by omega)),trivial⟩,hS,?_,?_,?_,?_⟩
      · omega
      · omega
      · intro j hj; obtain rfl:j=0:=by omega
        omega
      · exact ⟨0,by omega,rfl⟩
    clear hf hS a; rintro ⟨k,m⟩ a w ⟨hf,hS,h0,h1,h2,h3⟩; refine W.seq<|W.seq<|?_
    refine R4 rfl<|mv hf rfl<|fun a hf=>mv hf rfl fun a hf=>ov hf rfl (aA.bP (e:=2) (by simpa using aN) rfl (hS.aL (j:=0) rfl)) fun a hf=>ov (v:=.bool (decide ((k:Int)<((l.length:Int):Int)))) hf rfl (aA.lss rfl rfl) fun a hf=>?_; refine nk ?_; refine W.bJ hf rfl (fun hlt=>?_) (fun hlt=>?_)
    · refine W.skip ?_
      refine aF<|W.seq<|W.block<|?_
      refine R7 rfl<|mv hf rfl<|fun a hf=>mv hf rfl fun a hf=>mv hf rfl fun a hf=>ov hf rfl (aA.ixV (j:=k) (m:=k) aN bE rfl rfl (hS.aL (j:=0) rfl) rfl (by omega) (Nat.mul_one _)) fun a hf=>ov hf rfl (aA.ld1 bT rfl (hS.aL (j:=0) rfl) (aI (by omega))) fun a hf=>ov hf rfl (aA.min rfl rfl) fun a hf=>mv hf rfl fun a hf=>?_; refine O.nil<|aG<|aF<|?_
      refine R3 rfl<|mv hf rfl<|fun a hf=>ov hf rfl (aA.ak rfl rfl (by omega)) fun a hf=>mv hf rfl fun a hf=>?_; refine O.nil ?_; refine aS ⟨(k+1,if (l.getD k 0)<m then (l.getD k 0) else m),⟨hf.to ⟨rfl,rfl,(by first | rfl | exact vI (by omega)),(by first | rfl | exact vI (by omega)),trivial⟩,?_,?_,?_,?_,?_⟩,?_⟩
      · exact hS.eqM rfl
      · omega
      · omega
      · intro j hj; rcases Nat.lt_or_ge j k with h | h
        · have:=h2 j h; split <;> omega
        · obtain rfl:j=k:=by omega
          split <;> omega
      · obtain ⟨j,hj1,hj2⟩:=h3; split
        · exact ⟨k,by omega,rfl⟩
        · exact ⟨j,hj1,hj2⟩
      · dsimp only; omega
    · refine W.exit ?_
      refine aC<|aC<|bD<|aF<|W.seq<|?_
      refine R2 rfl<|mv hf rfl<|fun a hf=>mv hf rfl fun a hf=>?_; refine nk<|W.ret<|bH hf rfl (aO.tmp rfl)<|?_; obtain rfl:k=l.length:=by omega
      obtain rfl:=Det.aB5 h2 h3; exact ⟨(),rfl,hS.sub (List.nil_sublist _) |>.noB⟩
set_option maxHeartbeats 1000000 in
set_option maxRecDepth 4000 in
theorem jd (fW fH:Int) (vP:Value) (zs:List Int) (w0:World) (hP:aQ (hp w0) 1 vP zs.length (ints zs)) [Decidable (Det.aM fW fH zs)] :
    Ret Tryz.prog 25 #[(fG fW fH vP)] w0 (G:=Unit) (fun _=>iV (if Det.aM fW fH zs then 0 else 8)) (fun _ w=>St w0 w noX [] []):=by
  refine aR (lv:=[(fG fW fH vP)]) Tryz.func25 rfl rfl rfl (fun a hf=>?_); replace hf:Fr a 47 [] [(0,(fG fW fH vP))]:=hf; have hS:St w0 w0 noX [rI vP zs] []:=(St.refl w0).bO hP; have hlen:=hP.2.1; unfold maxLen at hlen; refine W.seq ?_
  refine R2 rfl<|O.box (cs:=#[iV fW,iV fH,vP]) hf hS rfl rfl rfl rfl<|?_; intro b_f1 w a hbb_f1 hS hf; refine mv hf rfl fun a hf=>?_; refine nk<|W.seq<|?_
  refine W.aY (l:=[0,1,2,3,4,5,6,7,8,9,10,11,12,13,14,15,16,17,18,19,20,21,22,23,24,25,26,27,28,29]) rfl<|ov hf rfl (aA.field bQ rfl rfl)<|fun a hf=>?_; refine ov hf rfl (aA.aT aH rfl (hS.p 0 rfl) rfl) fun a hf=>ov (v:=.bool (decide (fW≥(1:Int)))) hf rfl (aA.geq rfl rfl) fun a hf=>mv hf rfl fun a hf=>?_
  refine O.dV (l₁:=[4,5,6,7]) (l₂:=_) (fun a w=>Fr a 47 [] [(1,(pp b_f1)),(2,iV 0),(11,.bool ((decide (fW≥(1:Int)))&&(decide (fW≤(100:Int)))))]∧St w0 w noX [rI vP zs] [pt b_f1 (.cells #[iV fW,iV fH,vP] 24 (0,0))]) rfl ?_ ?_
  · rcases Bool.eq_false_or_eq_true (decide (fW≥(1:Int))) with hb2 | hb2
    · have hb2p:=of_decide_eq_true hb2
      refine og (v:=(pp b_f1)) hf rfl hb2 (aA.field bQ rfl rfl) fun a hf=>og (v:=iV fW) hf rfl hb2 (aA.aT aH rfl (hS.p 0 rfl) rfl) fun a hf=>og (v:=.bool (decide (fW≤(100:Int)))) hf rfl hb2 (aA.leq rfl rfl) fun a hf=>?_; refine ov (v:=.bool ((decide (fW≥(1:Int)))&&(decide (fW≤(100:Int))))) hf rfl (aA.pick rfl rfl rfl (by rw [hb2]; rfl)) fun a hf=>?_; exact O.nil ⟨rfl,hf.q rfl,hS⟩
    · have hb2p:=of_decide_eq_false hb2
      refine sk hf rfl hb2 fun a hf=>sk hf rfl hb2 fun a hf=>sk hf rfl hb2 fun a hf=>?_; refine ov (v:=.bool ((decide (fW≥(1:Int)))&&(decide (fW≤(100:Int))))) hf rfl (aA.pick rfl rfl rfl (by rw [hb2]; rfl)) fun a hf=>?_; exact O.nil ⟨rfl,hf.q rfl,hS⟩
  clear hf hS a; rintro a w ⟨hf,hS⟩; refine mv hf rfl fun a hf=>?_
  refine O.dV (l₁:=[9,10,11,12]) (l₂:=_) (fun a w=>Fr a 47 [] [(1,(pp b_f1)),(2,iV 0),(16,.bool (((decide (fW≥(1:Int)))&&(decide (fW≤(100:Int))))&&(decide (fH≥(1:Int)))))]∧St w0 w noX [rI vP zs] [pt b_f1 (.cells #[iV fW,iV fH,vP] 24 (0,0))]) rfl ?_ ?_
  · rcases Bool.eq_false_or_eq_true ((decide (fW≥(1:Int)))&&(decide (fW≤(100:Int)))) with hb3 | hb3
    · have hb3p:=hb3
      try simp only [bsm] at hb3p
      refine og (v:=.pointer (some ⟨b_f1,1,none⟩)) hf rfl hb3 (aA.field cB rfl rfl) fun a hf=>og (v:=iV fH) hf rfl hb3 (aA.aT aH rfl (hS.p 0 rfl) rfl) fun a hf=>og (v:=.bool (decide (fH≥(1:Int)))) hf rfl hb3 (aA.geq rfl rfl) fun a hf=>?_; refine ov (v:=.bool (((decide (fW≥(1:Int)))&&(decide (fW≤(100:Int))))&&(decide (fH≥(1:Int))))) hf rfl (aA.pick rfl rfl rfl (by rw [hb3]; rfl)) fun a hf=>?_; exact O.nil ⟨rfl,hf.q rfl,hS⟩
    · have hb3p:=hb3
      try simp only [bsm] at hb3p
      refine sk hf rfl hb3 fun a hf=>sk hf rfl hb3 fun a hf=>sk hf rfl hb3 fun a hf=>?_; refine ov (v:=.bool (((decide (fW≥(1:Int)))&&(decide (fW≤(100:Int))))&&(decide (fH≥(1:Int))))) hf rfl (aA.pick rfl rfl rfl (by rw [hb3]; rfl)) fun a hf=>?_; exact O.nil ⟨rfl,hf.q rfl,hS⟩
  clear hf hS a; rintro a w ⟨hf,hS⟩; refine mv hf rfl fun a hf=>?_
  refine O.dV (l₁:=[14,15,16,17]) (l₂:=_) (fun a w=>Fr a 47 [] [(1,(pp b_f1)),(2,iV 0),(21,.bool ((((decide (fW≥(1:Int)))&&(decide (fW≤(100:Int))))&&(decide (fH≥(1:Int))))&&(decide (fH≤(100:Int)))))]∧St w0 w noX [rI vP zs] [pt b_f1 (.cells #[iV fW,iV fH,vP] 24 (0,0))]) rfl ?_ ?_
  · rcases Bool.eq_false_or_eq_true (((decide (fW≥(1:Int)))&&(decide (fW≤(100:Int))))&&(decide (fH≥(1:Int)))) with hb4 | hb4
    · have hb4p:=hb4
      try simp only [bsm] at hb4p
      refine og (v:=.pointer (some ⟨b_f1,1,none⟩)) hf rfl hb4 (aA.field cB rfl rfl) fun a hf=>og (v:=iV fH) hf rfl hb4 (aA.aT aH rfl (hS.p 0 rfl) rfl) fun a hf=>og (v:=.bool (decide (fH≤(100:Int)))) hf rfl hb4 (aA.leq rfl rfl) fun a hf=>?_; refine ov (v:=.bool ((((decide (fW≥(1:Int)))&&(decide (fW≤(100:Int))))&&(decide (fH≥(1:Int))))&&(decide (fH≤(100:Int))))) hf rfl (aA.pick rfl rfl rfl (by rw [hb4]; rfl)) fun a hf=>?_; exact O.nil ⟨rfl,hf.q rfl,hS⟩
    · have hb4p:=hb4
      try simp only [bsm] at hb4p
      refine sk hf rfl hb4 fun a hf=>sk hf rfl hb4 fun a hf=>sk hf rfl hb4 fun a hf=>?_; refine ov (v:=.bool ((((decide (fW≥(1:Int)))&&(decide (fW≤(100:Int))))&&(decide (fH≥(1:Int))))&&(decide (fH≤(100:Int))))) hf rfl (aA.pick rfl rfl rfl (by rw [hb4]; rfl)) fun a hf=>?_; exact O.nil ⟨rfl,hf.q rfl,hS⟩
  clear hf hS a; rintro a w ⟨hf,hS⟩; refine mv hf rfl fun a hf=>?_
  refine O.dV (l₁:=[19,20,21,22,23,24,25,26,27,28]) (l₂:=_) (fun a w=>Fr a 47 [] [(1,(pp b_f1)),(2,iV 0),(32,.bool (((((decide (fW≥(1:Int)))&&(decide (fW≤(100:Int))))&&(decide (fH≥(1:Int))))&&(decide (fH≤(100:Int))))&&(decide ((zs.length:Int)=(fW*fH:Int)))))]∧St w0 w noX [rI vP zs] [pt b_f1 (.cells #[iV fW,iV fH,vP] 24 (0,0))]) rfl ?_ ?_
  · rcases Bool.eq_false_or_eq_true ((((decide (fW≥(1:Int)))&&(decide (fW≤(100:Int))))&&(decide (fH≥(1:Int))))&&(decide (fH≤(100:Int)))) with hb5 | hb5
    · have hb5p:=hb5
      try simp only [bsm] at hb5p
      refine og (v:=.pointer (some ⟨b_f1,2,none⟩)) hf rfl hb5 (aA.field aP rfl rfl) fun a hf=>og (v:=vP) hf rfl hb5 (aA.aT bB rfl (hS.p 0 rfl) rfl) fun a hf=>og (v:=iV (zs.length:Int)) hf rfl hb5 (aA.bP (e:=2) (by simpa using aN) rfl (hS.aL (j:=0) rfl)) fun a hf=>og (v:=(pp b_f1)) hf rfl hb5 (aA.field bQ rfl rfl) fun a hf=>og (v:=iV fW) hf rfl hb5 (aA.aT aH rfl (hS.p 0 rfl) rfl) fun a hf=>og (v:=.pointer (some ⟨b_f1,1,none⟩)) hf rfl hb5 (aA.field cB rfl rfl) fun a hf=>og (v:=iV fH) hf rfl hb5 (aA.aT aH rfl (hS.p 0 rfl) rfl) fun a hf=>?_; refine og (v:=iV (fW*fH)) hf rfl hb5 (aA.qG rfl rfl (by have:=Det.oW (a:=fW) (b:=fH) (by omega) (by omega); omega)) fun a hf=>?_; refine og (v:=.bool (decide ((zs.length:Int)=(fW*fH:Int)))) hf rfl hb5 (aA.eql rfl rfl) fun a hf=>?_; refine ov (v:=.bool (((((decide (fW≥(1:Int)))&&(decide (fW≤(100:Int))))&&(decide (fH≥(1:Int))))&&(decide (fH≤(100:Int))))&&(decide ((zs.length:Int)=(fW*fH:Int))))) hf rfl (aA.pick rfl rfl rfl (by rw [hb5]; rfl)) fun a hf=>?_; exact O.nil ⟨rfl,hf.q rfl,hS⟩
    · have hb5p:=hb5
      try simp only [bsm] at hb5p
      refine sk hf rfl hb5 fun a hf=>sk hf rfl hb5 fun a hf=>sk hf rfl hb5 fun a hf=>sk hf rfl hb5 fun a hf=>sk hf rfl hb5 fun a hf=>sk hf rfl hb5 fun a hf=>sk hf rfl hb5 fun a hf=>sk hf rfl hb5 fun a hf=>sk hf rfl hb5 fun a hf=>?_; refine ov (v:=.bool (((((decide (fW≥(1:Int)))&&(decide (fW≤(100:Int))))&&(decide (fH≥(1:Int))))&&(decide (fH≤(100:Int))))&&(decide ((zs.length:Int)=(fW*fH:Int))))) hf rfl (aA.pick rfl rfl rfl (by rw [hb5]; rfl)) fun a hf=>?_; exact O.nil ⟨rfl,hf.q rfl,hS⟩
  clear hf hS a; rintro a w ⟨hf,hS⟩; refine mv hf rfl fun a hf=>?_; refine nk<|W.seq<|W.seq<|?_
  refine W.aY (l:=[0,1,2,3,4,5,6,7,8,9,10,11,12,13]) rfl<|mv hf rfl<|fun a hf=>?_; refine ov (v:=.bool (!(((((decide (fW≥(1:Int)))&&(decide (fW≤(100:Int))))&&(decide (fH≥(1:Int))))&&(decide (fH≤(100:Int))))&&(decide ((zs.length:Int)=(fW*fH:Int)))))) hf rfl (aA.not rfl) fun a hf=>mv hf rfl fun a hf=>?_
  refine O.dV (l₁:=[3,4,5,6,7]) (l₂:=_) (fun a w=>Fr a 47 [] [(1,(pp b_f1)),(2,iV 0),(40,.bool ((!(((((decide (fW≥(1:Int)))&&(decide (fW≤(100:Int))))&&(decide (fH≥(1:Int))))&&(decide (fH≤(100:Int))))&&(decide ((zs.length:Int)=(fW*fH:Int)))))||(decide ((Det.oH zs)>(4294967296:Int)))))]∧St w0 w noX [rI vP zs] [pt b_f1 (.cells #[iV fW,iV fH,vP] 24 (0,0))]) rfl ?_ ?_
  · rcases Bool.eq_false_or_eq_true (!(((((decide (fW≥(1:Int)))&&(decide (fW≤(100:Int))))&&(decide (fH≥(1:Int))))&&(decide (fH≤(100:Int))))&&(decide ((zs.length:Int)=(fW*fH:Int))))) with hb6 | hb6
    · have hb6p:=hb6
      try simp only [bsm] at hb6p
      refine sk hf rfl hb6 fun a hf=>sk hf rfl hb6 fun a hf=>sk hf rfl hb6 fun a hf=>sk hf rfl hb6 fun a hf=>?_; refine ov (v:=.bool ((!(((((decide (fW≥(1:Int)))&&(decide (fW≤(100:Int))))&&(decide (fH≥(1:Int))))&&(decide (fH≤(100:Int))))&&(decide ((zs.length:Int)=(fW*fH:Int)))))||(decide ((Det.oH zs)>(4294967296:Int))))) hf rfl (aA.pick rfl rfl rfl (by rw [hb6]; rfl)) fun a hf=>?_; exact O.nil ⟨rfl,hf.q rfl,hS⟩
    · have hb6p:=hb6
      try simp only [bsm] at hb6p
      refine og (v:=.pointer (some ⟨b_f1,2,none⟩)) hf rfl hb6 (aA.field aP rfl rfl) fun a hf=>og (v:=vP) hf rfl hb6 (aA.aT bB rfl (hS.p 0 rfl) rfl) fun a hf=>?_; refine O.gM hf rfl rfl rfl hb6 rfl rfl (dS.call (av:=#[vP]) aCI rfl rfl rfl) (aAp vP zs _ (by have:=Det.uD (a:=fW) (b:=fH) (by omega) (by omega); omega) (hS.aL (j:=0) rfl)) ?_; clear hf a; rintro _ w7 hS1 a hf; replace hS:=hS.cl hS1; refine og (v:=.bool (decide ((Det.oH zs)>(4294967296:Int)))) hf rfl hb6 (aA.gtr rfl rfl) fun a hf=>?_; refine ov (v:=.bool ((!(((((decide (fW≥(1:Int)))&&(decide (fW≤(100:Int))))&&(decide (fH≥(1:Int))))&&(decide (fH≤(100:Int))))&&(decide ((zs.length:Int)=(fW*fH:Int)))))||(decide ((Det.oH zs)>(4294967296:Int))))) hf rfl (aA.pick rfl rfl rfl (by rw [hb6]; rfl)) fun a hf=>?_; exact O.nil ⟨rfl,hf.q rfl,hS⟩
  clear hf hS a; rintro a w ⟨hf,hS⟩; refine mv hf rfl fun a hf=>?_
  refine O.dV (l₁:=[9,10,11,12,13]) (l₂:=_) (fun a w=>Fr a 47 [] [(2,iV 0),(46,.bool (((!(((((decide (fW≥(1:Int)))&&(decide (fW≤(100:Int))))&&(decide (fH≥(1:Int))))&&(decide (fH≤(100:Int))))&&(decide ((zs.length:Int)=(fW*fH:Int)))))||(decide ((Det.oH zs)>(4294967296:Int))))||(decide ((Det.vV zs)<(-4294967296:Int)))))]∧St w0 w noX [rI vP zs] [pt b_f1 (.cells #[iV fW,iV fH,vP] 24 (0,0))]) rfl ?_ ?_
  · rcases Bool.eq_false_or_eq_true ((!(((((decide (fW≥(1:Int)))&&(decide (fW≤(100:Int))))&&(decide (fH≥(1:Int))))&&(decide (fH≤(100:Int))))&&(decide ((zs.length:Int)=(fW*fH:Int)))))||(decide ((Det.oH zs)>(4294967296:Int)))) with hb8 | hb8
    · have hb8p:=hb8
      try simp only [bsm] at hb8p
      refine sk hf rfl hb8 fun a hf=>sk hf rfl hb8 fun a hf=>sk hf rfl hb8 fun a hf=>sk hf rfl hb8 fun a hf=>?_; refine ov (v:=.bool (((!(((((decide (fW≥(1:Int)))&&(decide (fW≤(100:Int))))&&(decide (fH≥(1:Int))))&&(decide (fH≤(100:Int))))&&(decide ((zs.length:Int)=(fW*fH:Int)))))||(decide ((Det.oH zs)>(4294967296:Int))))||(decide ((Det.vV zs)<(-4294967296:Int))))) hf rfl (aA.pick rfl rfl rfl (by rw [hb8]; rfl)) fun a hf=>?_; exact O.nil ⟨rfl,hf.q rfl,hS⟩
    · have hb8p:=hb8
      try simp only [bsm] at hb8p
      refine og (v:=.pointer (some ⟨b_f1,2,none⟩)) hf rfl hb8 (aA.field aP rfl rfl) fun a hf=>og (v:=vP) hf rfl hb8 (aA.aT bB rfl (hS.p 0 rfl) rfl) fun a hf=>?_; refine O.gM hf rfl rfl rfl hb8 rfl rfl (dS.call (av:=#[vP]) aCN rfl rfl rfl) (aBM vP zs _ (by have:=Det.uD (a:=fW) (b:=fH) (by omega) (by omega); omega) (hS.aL (j:=0) rfl)) ?_; clear hf a; rintro _ w9 hS1 a hf; replace hS:=hS.cl hS1; refine og (v:=.bool (decide ((Det.vV zs)<(-4294967296:Int)))) hf rfl hb8 (aA.lss rfl rfl) fun a hf=>?_; refine ov (v:=.bool (((!(((((decide (fW≥(1:Int)))&&(decide (fW≤(100:Int))))&&(decide (fH≥(1:Int))))&&(decide (fH≤(100:Int))))&&(decide ((zs.length:Int)=(fW*fH:Int)))))||(decide ((Det.oH zs)>(4294967296:Int))))||(decide ((Det.vV zs)<(-4294967296:Int))))) hf rfl (aA.pick rfl rfl rfl (by rw [hb8]; rfl)) fun a hf=>?_; exact O.nil ⟨rfl,hf.q rfl,hS⟩
  clear hf hS a; rintro a w ⟨hf,hS⟩; refine nk ?_; refine W.if_ hf rfl (fun hbad=>?_) (fun hbad=>?_)
  · have hbadb:=hbad
    try simp only [bsm] at hbad
    refine W.seq ?_
    refine R1 rfl<|mv hf rfl<|fun a hf=>?_; refine nk<|W.ret<|aK<|bH hf rfl (aO.tmp rfl)<|?_; refine ⟨(),?_,hS.sub (List.nil_sublist _) |>.noB⟩; rw [if_neg]; rintro ⟨g1,g2,g3,g4,g5,g6⟩; have hp:=Det.uD (a:=fW) (b:=fH) g1 g3; obtain ⟨i,hi,hi'⟩:=Det.xY (l:=zs) (by omega); obtain ⟨j,hj,hj'⟩:=Det.xW (l:=zs) (by omega); have:=g6 i hi; have:=g6 j hj
    omega
  · have hbadb:=hbad
    try simp only [bsm] at hbad
    refine W.skip<|aF<|W.seq<|?_
    refine R1 rfl<|mv hf rfl<|fun a hf=>?_; refine nk<|W.ret<|bH hf rfl (aO.tmp rfl)<|?_; refine ⟨(),by rw [if_pos ⟨by omega,by omega,by omega,by omega,by omega,fun j hj=>⟨by have:=Det.yB hj; omega,by have:=Det.yH hj; omega⟩⟩],hS.sub (List.nil_sublist _) |>.noB⟩
set_option maxHeartbeats 1000000 in
set_option maxRecDepth 4000 in
theorem wH (fW fH i b1 b2 l0:Nat) (vP:Value) (w0:World) (hW:1≤fW∧fW≤100) (hH:1≤fH∧fH≤100) (hi:i<fW*fH) (R:Nat→World→Prop) (hdr:∀ k w,R k w→R k w.drew) (hBs:∀ k w,R k w→∀ p ∈ [(b1,Obj.cells #[iV i] 3 (0,0)),(b2,Obj.cells #[iV fW,iV fH,vP] 61 (0,0))],w.heap[p.1]? = some p.2) (hround:∀ k x,(ints (Det.nb fW fH i))[k]? = some x→∀ w,R k w→YieldAt (FW none) 0 Tryz.prog l0 #[x] w (fun e w'=>e=.returned (.bool true)∧R (k+1) w')) (hR:R 0 w0) :
    Ret Tryz.prog 91 #[(.func (.yield l0) #[] #[]),(pp b1),(pp b2)] w0 (G:=Unit) (fun _=>.tuple #[]) (fun _ w=>R (ints (Det.nb fW fH i)).length w):=by
  refine aR (lv:=[(.func (.yield l0) #[] #[]),(pp b1),(pp b2)]) Tryz.func91 rfl rfl rfl (fun a hf=>?_); replace hf:Fr a 63 [] [(0,(.func (.yield l0) #[] #[])),(1,(pp b1)),(2,(pp b2))]:=hf; have hS:St w0 w0 noX [pt b1 (.cells #[iV i] 3 (0,0)),pt b2 (.cells #[iV fW,iV fH,vP] 61 (0,0))] []:=St.yU (hBs _ _ hR); have hi2:i<10000:=by have:=Nat.mul_le_mul hW.2 hH.2; omega
  have hnb:Det.nb fW fH i=Det.dQ fW fH (i % fW) (i/fW) 3:=rfl; rw [hnb] at hround; have hixy:i=i/fW*fW+i % fW:=(Nat.div_add_mod' i fW).symm; refine W.seq<|W.dY (fun w=>St w w noX [pt b1 (.cells #[iV i] 3 (0,0)),pt b2 (.cells #[iV fW,iV fH,vP] 61 (0,0))] []∧R 0 w) aV rfl (by kernel_rfl) rfl ⟨hS.aBu,hdr _ _ hR⟩<|?_; clear hS hR; refine OQ.val (v:=iV i) hf rfl (fun w hS=>aA.aT aH rfl (hS.1.fM (i:=0) rfl) rfl) fun a hf=>OQ.val (v:=(pp b2)) hf rfl (fun w hS=>aA.field dI rfl rfl) fun a hf=>OQ.val (v:=(pp b2)) hf rfl (fun w hS=>aA.field bQ rfl rfl) fun a hf=>OQ.val (v:=iV fW) hf rfl (fun w hS=>aA.aT aH rfl (hS.1.fM (i:=1) rfl) rfl) fun a hf=>OQ.val (v:=iV ((i % fW:Nat):Int)) hf rfl (fun w hS=>aA.aEc rfl rfl rfl rfl (by omega)) fun a hf=>OQ.val (v:=iV i) hf rfl (fun w hS=>aA.aT aH rfl (hS.1.fM (i:=0) rfl) rfl) fun a hf=>OQ.val (v:=(pp b2)) hf rfl (fun w hS=>aA.field dI rfl rfl) fun a hf=>OQ.val (v:=(pp b2)) hf rfl (fun w hS=>aA.field bQ rfl rfl) fun a hf=>OQ.val (v:=iV fW) hf rfl (fun w hS=>aA.aT aH rfl (hS.1.fM (i:=1) rfl) rfl) fun a hf=>OQ.val (v:=iV ((i/fW:Nat):Int)) hf rfl (fun w hS=>aA.uH rfl rfl rfl rfl (by omega) (by omega)) fun a hf=>OQ.val (v:=iV ((i % fW:Nat):Int)) hf rfl (fun w hS=>aA.assign rfl) fun a hf=>OQ.val (v:=iV ((i/fW:Nat):Int)) hf rfl (fun w hS=>aA.assign rfl) fun a hf=>?_; refine OQ.nil ?_; rintro w ⟨hS,hR⟩; have hxb:=Nat.mod_lt i (show 0<fW by omega); have hyb:i/fW<fH:=Nat.div_lt_of_lt_mul hi
  generalize hx:i % fW=x at *
  generalize hy:i/fW=y at *
  refine aF<|W.seq<|?_
  refine R4 rfl<|mv hf rfl<|fun a hf=>ov hf rfl (aA.cZ rfl rfl (by omega)) fun a hf=>ov hf rfl (aA.max rfl rfl) fun a hf=>mv hf rfl fun a hf=>?_; refine O.nil ?_; rw [show (if 0<(((y:Nat):Int)-1) then (((y:Nat):Int)-1) else 0)=((y:Nat):Int)-1+((1-y:Nat):Int) from by split <;> omega] at hf; refine aF ?_; replace hf:Fr a 63 [] [(0,_),(1,_),(2,_),(4,_),(5,_),(6,_)]:=hf.q rfl; refine W.block ?_
  refine W.loop (G:=(Nat)) (fun g a w=>match g with | k=>Fr a 63 [] [(0,(.func (.yield l0) #[] #[])),(1,(pp b1)),(2,(pp b2)),(4,iV x),(5,iV y),(6,iV (((y:Nat):Int)-1+(k:Int)))]∧St w w noX [pt b1 (.cells #[iV i] 3 (0,0)),pt b2 (.cells #[iV fW,iV fH,vP] 61 (0,0))] []∧(k≤3)∧(0≤((y:Nat):Int)-1+(k:Int))∧(R (Det.dQ fW fH x y k).length w)) (fun g=>match g with | k=>3-k) (1-y) ?_ ?_
  · refine ⟨hf.to ⟨rfl,rfl,rfl,rfl,rfl,(by first | rfl | exact vI (by omega)),trivial⟩,hS,?_,?_,?_⟩
    · omega
    · omega
    · rcases Nat.eq_zero_or_pos y with h | h
      · rw [show 1-y=1 from by omega,Det.ve h]; exact hR
      · rw [show 1-y=0 from by omega]; exact hR
  clear hf hS a; rintro k a w ⟨hf,hS,h1,h2,hR⟩; refine W.seq<|W.seq<|?_
  refine W.aY (l:=[0,1,2,3,4,5,6,7,8]) rfl<|mv hf rfl<|fun a hf=>?_; refine ov hf rfl (aA.field dI rfl rfl) fun a hf=>ov hf rfl (aA.field cB rfl rfl) fun a hf=>ov hf rfl (aA.aT aH rfl (hS.fM (i:=1) rfl) rfl) fun a hf=>ov hf rfl (aA.cZ rfl rfl (by omega)) fun a hf=>mv hf rfl fun a hf=>ov hf rfl (aA.ak rfl rfl (by omega)) fun a hf=>ov hf rfl (aA.min rfl rfl) fun a hf=>ov (v:=.bool (decide ((((y:Nat):Int)-1+(k:Int))≤(if (((y:Nat):Int)+1)<((fH:Int)-1) then (((y:Nat):Int)+1) else ((fH:Int)-1):Int)))) hf rfl (aA.leq rfl rfl) fun a hf=>?_; refine nk ?_; refine W.bJ hf rfl (fun hv=>?_) (fun hv=>?_)
  · have hv1:(((y:Nat):Int)-1+(k:Int))≤(fH:Int)-1∧(((y:Nat):Int)-1+(k:Int))≤(y:Int)+1:=by split at hv <;> omega
    refine W.skip<|aF<|W.seq<|W.block<|W.seq<|?_
    refine R4 rfl<|mv hf rfl<|fun a hf=>ov hf rfl (aA.cZ rfl rfl (by omega)) fun a hf=>ov hf rfl (aA.max rfl rfl) fun a hf=>mv hf rfl fun a hf=>?_; refine O.nil ?_; rw [show (if 0<(((x:Nat):Int)-1) then (((x:Nat):Int)-1) else 0)=((x:Nat):Int)-1+((1-x:Nat):Int) from by split <;> omega] at hf; refine aF ?_; replace hf:Fr a 63 [] [(0,_),(1,_),(2,_),(4,_),(5,_),(6,_),(7,_)]:=hf.q rfl; refine W.block ?_
    refine W.loop (G:=(Nat)) (fun g a w=>match g with | l=>Fr a 63 [] [(0,(.func (.yield l0) #[] #[])),(1,(pp b1)),(2,(pp b2)),(4,iV x),(5,iV y),(6,iV (((y:Nat):Int)-1+(k:Int))),(7,iV (((x:Nat):Int)-1+(l:Int)))]∧St w w noX [pt b1 (.cells #[iV i] 3 (0,0)),pt b2 (.cells #[iV fW,iV fH,vP] 61 (0,0))] []∧(l≤3)∧(0≤((x:Nat):Int)-1+(l:Int))∧(R ((Det.dQ fW fH x y k).length+(Det.eu fW fH x y (((y:Nat):Int)-1+(k:Int)) l).length) w)) (fun g=>match g with | l=>3-l) (1-x) ?_ ?_
    · refine ⟨hf.to ⟨rfl,rfl,rfl,rfl,rfl,rfl,(by first | rfl | exact vI (by omega)),trivial⟩,hS,?_,?_,?_⟩
      · omega
      · omega
      · rcases Nat.eq_zero_or_pos x with h | h
        · rw [show 1-x=1 from by omega,Det.wK h]; exact hR
        · rw [show 1-x=0 from by omega]; exact hR
    clear hf hS a; rintro l a w ⟨hf,hS,h3,h4,hR⟩; refine W.seq<|W.seq<|?_
    refine W.aY (l:=[0,1,2,3,4,5,6,7,8]) rfl<|mv hf rfl<|fun a hf=>?_; refine ov hf rfl (aA.field dI rfl rfl) fun a hf=>ov hf rfl (aA.field bQ rfl rfl) fun a hf=>ov hf rfl (aA.aT aH rfl (hS.fM (i:=1) rfl) rfl) fun a hf=>ov hf rfl (aA.cZ rfl rfl (by omega)) fun a hf=>mv hf rfl fun a hf=>ov hf rfl (aA.ak rfl rfl (by omega)) fun a hf=>ov hf rfl (aA.min rfl rfl) fun a hf=>ov (v:=.bool (decide ((((x:Nat):Int)-1+(l:Int))≤(if (((x:Nat):Int)+1)<((fW:Int)-1) then (((x:Nat):Int)+1) else ((fW:Int)-1):Int)))) hf rfl (aA.leq rfl rfl) fun a hf=>?_; refine nk ?_; refine W.bJ hf rfl (fun hu=>?_) (fun hu=>?_)
    · have hu1:(((x:Nat):Int)-1+(l:Int))≤(fW:Int)-1∧(((x:Nat):Int)-1+(l:Int))≤(x:Int)+1:=by split at hu <;> omega
      refine W.skip<|aF<|W.seq<|W.block<|W.seq<|?_
      refine W.aY (l:=[0,1,2,3,4,5,6,7]) rfl ?_; have hk3:k<3:=by omega
      have hl3:l<3:=by omega
      have hpix:=Det.aD2 (W:=fW) (x:=x) (y:=y) (u:=(((x:Nat):Int)-1+(l:Int))) (v:=(((y:Nat):Int)-1+(k:Int))) (by omega) (by omega) (by omega) hxb; have hm:=Det.oW (a:=(((y:Nat):Int)-1+(k:Int))) (b:=(fW:Int)) (by omega) (by omega); refine mv hf rfl fun a hf=>ov hf rfl (aA.field dI rfl rfl) fun a hf=>ov hf rfl (aA.field bQ rfl rfl) fun a hf=>ov hf rfl (aA.aT aH rfl (hS.fM (i:=1) rfl) rfl) fun a hf=>ov hf rfl (aA.qG rfl rfl (by omega)) fun a hf=>mv hf rfl fun a hf=>ov hf rfl (aA.ak rfl rfl (by omega)) fun a hf=>mv hf rfl fun a hf=>?_; refine nk<|W.seq<|?_
      refine W.aY (l:=[0,1,2,3,4,5,6,7,8]) rfl<|mv hf rfl<|fun a hf=>?_; refine ov hf rfl (aA.aT aH rfl (hS.fM (i:=0) rfl) rfl) fun a hf=>ov (v:=.bool (decide ((((((y:Nat):Int)-1+(k:Int))*(fW:Int))+(((x:Nat):Int)-1+(l:Int)))≠((i:Int):Int)))) hf rfl (aA.neq rfl rfl) fun a hf=>mv hf rfl fun a hf=>?_
      refine O.dV (l₁:=[4,5,6,7,8]) (l₂:=_) (fun a w=>Fr a 63 [] [(0,(.func (.yield l0) #[] #[])),(1,(pp b1)),(2,(pp b2)),(4,iV x),(5,iV y),(6,iV (((y:Nat):Int)-1+(k:Int))),(7,iV (((x:Nat):Int)-1+(l:Int))),(8,iV (((((y:Nat):Int)-1+(k:Int))*(fW:Int))+(((x:Nat):Int)-1+(l:Int)))),(62,.bool ((decide ((((((y:Nat):Int)-1+(k:Int))*(fW:Int))+(((x:Nat):Int)-1+(l:Int)))≠((i:Int):Int)))&&false))]∧St w w noX [pt b1 (.cells #[iV i] 3 (0,0)),pt b2 (.cells #[iV fW,iV fH,vP] 61 (0,0))] []∧R ((Det.dQ fW fH x y k).length+(Det.eu fW fH x y (((y:Nat):Int)-1+(k:Int)) (l+1)).length) w) rfl ?_ ?_
      · rcases Bool.eq_false_or_eq_true (decide ((((((y:Nat):Int)-1+(k:Int))*(fW:Int))+(((x:Nat):Int)-1+(l:Int)))≠((i:Int):Int))) with hb3 | hb3
        · have hb3p:=of_decide_eq_true hb3
          refine og (v:=(.func (.yield l0) #[] #[])) hf rfl hb3 (aA.move rfl) fun a hf=>og (v:=iV (((((y:Nat):Int)-1+(k:Int))*(fW:Int))+(((x:Nat):Int)-1+(l:Int)))) hf rfl hb3 (aA.move rfl) fun a hf=>?_; have hok:Det.jk fW fH x y (((x:Nat):Int)-1+(l:Int)) (((y:Nat):Int)-1+(k:Int))=true:=by
            simp only [Det.jk,Bool.not_eq_true',Bool.or_eq_false_iff,Bool.and_eq_false_iff,decide_eq_false_iff_not]; omega
          refine O.gyield (R:=R ((Det.dQ fW fH x y k).length+(Det.eu fW fH x y (((y:Nat):Int)-1+(k:Int)) l).length+1)) hf rfl rfl rfl hb3 rfl rfl rfl (hround _ _ (by simp only [ints,List.getElem?_map,Det.aES hk3 hl3 hok]; rfl) w hR) ?_; clear hf hS hR a; intro w a hR hf; have hS:St w w noX [pt b1 (.cells #[iV i] 3 (0,0)),pt b2 (.cells #[iV fW,iV fH,vP] 61 (0,0))] []:=St.yU (hBs _ _ hR); refine og (v:=.bool false) hf rfl hb3 (aA.not (b:=true) rfl) fun a hf=>?_; refine ov (v:=.bool ((decide ((((((y:Nat):Int)-1+(k:Int))*(fW:Int))+(((x:Nat):Int)-1+(l:Int)))≠((i:Int):Int)))&&false)) hf rfl (aA.pick rfl rfl rfl (by rw [hb3]; rfl)) fun a hf=>?_; exact O.nil ⟨rfl,hf.q rfl,hS,(by rw [Det.kZ hok,List.length_append]; exact hR)⟩
        · have hb3p:=of_decide_eq_false hb3
          refine sk hf rfl hb3 fun a hf=>sk hf rfl hb3 fun a hf=>sk hf rfl hb3 fun a hf=>sk hf rfl hb3 fun a hf=>?_; refine ov (v:=.bool ((decide ((((((y:Nat):Int)-1+(k:Int))*(fW:Int))+(((x:Nat):Int)-1+(l:Int)))≠((i:Int):Int)))&&false)) hf rfl (aA.pick rfl rfl rfl (by rw [hb3]; rfl)) fun a hf=>?_; exact O.nil ⟨rfl,hf.q rfl,hS,(by
            have hok:Det.jk fW fH x y (((x:Nat):Int)-1+(l:Int)) (((y:Nat):Int)-1+(k:Int))=false:=by
              simp only [Det.jk,Bool.not_eq_false',Bool.or_eq_true,Bool.and_eq_true,decide_eq_true_eq]; omega
            rw [Det.iT hok]; exact hR)⟩
      clear hf hS a; rintro a w ⟨hf,hS,hR⟩; refine nk ?_; have hbc:((decide ((((((y:Nat):Int)-1+(k:Int))*(fW:Int))+(((x:Nat):Int)-1+(l:Int)))≠((i:Int):Int)))&&false)=false:=(by simp); simp only [hbc] at hf; clear hbc; refine W.jI hf rfl<|W.skip<|aG<|aF<|?_
      refine R3 rfl<|mv hf rfl<|fun a hf=>ov hf rfl (aA.ak rfl rfl (by omega)) fun a hf=>mv hf rfl fun a hf=>?_; refine O.nil ?_; refine aS ⟨(l+1),⟨hf.to ⟨rfl,rfl,rfl,rfl,rfl,rfl,(by first | rfl | exact vI (by omega)),trivial⟩,?_,?_,?_,?_⟩,?_⟩
      · exact hS.eqM rfl
      · omega
      · omega
      · exact hR
      · dsimp only; omega
    · have hu1:¬ ((((x:Nat):Int)-1+(l:Int))≤(fW:Int)-1∧(((x:Nat):Int)-1+(l:Int))≤(x:Int)+1):=by split at hu <;> omega
      refine W.exit<|aC<|aC<|bD<|aG<|aF<|?_
      refine R3 rfl<|mv hf rfl<|fun a hf=>ov hf rfl (aA.ak rfl rfl (by omega)) fun a hf=>mv hf rfl fun a hf=>?_; refine O.nil ?_; refine aS ⟨(k+1),⟨hf.to ⟨rfl,rfl,rfl,rfl,rfl,(by first | rfl | exact vI (by omega)),trivial⟩,?_,?_,?_,?_⟩,?_⟩
      · exact hS.eqM rfl
      · omega
      · omega
      · rw [Det.aAi h3 (by omega)] at hR
        have e:Det.dQ fW fH x y (k+1)=Det.dQ fW fH x y k++Det.eu fW fH x y (((y:Nat):Int)-1+(k:Int)) 3:=rfl; rw [e,List.length_append]; exact hR
      · dsimp only; omega
  · have hv1:¬ ((((y:Nat):Int)-1+(k:Int))≤(fH:Int)-1∧(((y:Nat):Int)-1+(k:Int))≤(y:Int)+1):=by split at hv <;> omega
    refine W.exit<|aC<|aC<|bD<|eP<|iY hf rfl <|?_; refine ⟨(),rfl,?_⟩; rw [Det.zb h1 (by omega)] at hR; rw [show (ints (Det.nb fW fH i)).length=(Det.dQ fW fH x y 3).length from by rw [hnb]; simp [ints]]; exact hR
set_option maxHeartbeats 1000000 in
set_option maxRecDepth 4000 in
theorem nX (fW fH i:Int) (vP:Value) (w0:World) :
    Ret Tryz.prog 65 #[(fG fW fH vP),iV i] w0 (G:=Nat × Nat) (fun g=>.func (.func 91) #[] #[.pointer (some ⟨g.1,0,none⟩),.pointer (some ⟨g.2,0,none⟩)]) (fun g w=>St w0 w noX [] [pt g.1 (.cells #[iV i] 3 (0,0)),pt g.2 (.cells #[iV fW,iV fH,vP] 61 (0,0))]):=by
  refine aR (lv:=[(fG fW fH vP),iV i]) Tryz.func65 rfl rfl rfl (fun a hf=>?_); replace hf:Fr a 6 [] [(0,(fG fW fH vP)),(1,iV i)]:=hf; have hS:St w0 w0 noX [] []:=St.refl w0; refine W.seq ?_
  refine R3 rfl<|O.box (cs:=#[iV fW,iV fH,vP]) hf hS rfl rfl rfl rfl<|?_; intro b_m1 w a hbb_m1 hS hf; refine O.box (cs:=#[iV i]) hf hS rfl rfl rfl rfl ?_; intro b_i2 w a hbb_i2 hS hf; refine mv hf rfl fun a hf=>?_; refine nk<|W.seq<|?_
  refine R2 rfl<|ov (v:=.func (.func 91) #[] #[(pp b_i2),(pp b_m1)]) hf rfl (aA.makeFunc rfl rfl rfl rfl)<|fun a hf=>mv hf rfl fun a hf=>?_; refine nk<|W.ret<|bH hf rfl (aO.tmp rfl)<|?_; exact ⟨(b_i2,b_m1),rfl,hS⟩
theorem qo (fW fH i b1 b2:Nat) (vP:Value) (hW:1≤fW∧fW≤100) (hH:1≤fH∧fH≤100) (hi:i<fW*fH) :
    qa Tryz.prog 91 #[(pp b1),(pp b2)] (ints (Det.nb fW fH i)) [(b1,Obj.cells #[iV i] 3 (0,0)),(b2,Obj.cells #[iV fW,iV fH,vP] 61 (0,0))]:=by
  intro l R hdr hBs hround w hR; exact Calls.mono (wH fW fH i b1 b2 l vP w hW hH hi R hdr hBs hround hR) (fun e w' ⟨_,he,h⟩=>⟨⟨_,he⟩,h⟩)
theorem aAU (vX:Value) (l:List Int) (w0:World) (hX:dZ (hp w0) 3 1 vX l.length (ints l)) (hl:l.length≤10000) :
    Ret Tryz.prog 66 #[vX] w0 (G:=Unit) (fun _=>.tuple #[]) (fun _ w=>St w0 w (oB vX) [] [sl 3 1 vX (Det.srt l).length (ints (Det.srt l))]) :=
  aBB Tryz.sortA 3 vX l w0 hX hl
set_option maxHeartbeats 1000000 in
set_option maxRecDepth 4000 in
theorem ni (fW fH first bm:Nat) (vP:Value) (ins0:List Bool) (w0:World) (hW:1≤fW∧fW≤100) (hH:1≤fH∧fH≤100) (hi0:ins0.length=fW*fH) (hfi:first<fW*fH) (hm:jC (hp w0) bm ins0) :
    Ret Tryz.prog 49 #[(fG fW fH vP),.map (some bm),iV first] w0 (G:=Value) (fun v=>v) (fun v w=>St w0 w (fun k=>k=bm) [] [sl 3 1 v (Det.part fW fH ins0 first).2.length (ints (Det.part fW fH ins0 first).2),ms bm (Det.part fW fH ins0 first).1]):=by
  refine iU (lv:=[(fG fW fH vP),.map (some bm),iV first]) Tryz.func49 rfl rfl rfl (fun a hf=>?_); replace hf:Fr a 39 [] [(0,(fG fW fH vP)),(1,.map (some bm)),(2,iV first)]:=hf; have hS:St w0 w0 (fun k=>k=bm) [] [ms bm ins0]:=St.aDO hm; have hN:fW*fH≤10000:=Nat.mul_le_mul hW.2 hH.2; refine W.seq ?_
  refine R3 rfl<|O.box (cs:=#[iV fW,iV fH,vP]) hf hS rfl rfl rfl rfl<|?_; intro b_m1 w a hbb_m1 hS hf; refine O.box (cs:=#[.map (some bm)]) hf hS rfl rfl rfl rfl ?_; intro b_s2 w a hbb_s2 hS hf; refine mv hf rfl fun a hf=>?_; refine nk<|W.seq<|?_
  refine R3 rfl<|ov hf rfl (aA.aT pU rfl (hS.p 0 rfl) rfl)<|fun a hf=>mv hf rfl fun a hf=>?_; refine O.aBg (j:=2) hf hS rfl iF rfl rfl rfl rfl rfl ?_; intro w hS; refine nk<|W.seq<|?_
  refine R4 rfl<|mv hf rfl<|fun a hf=>?_; refine O.buildSlice (cs':=#[iV first]) (zs:=#[iV 0]) hf hS rfl rfl aB aD bY rfl rfl rfl rfl rfl ?_; intro b_s3 w a hbb_s3 hS hf; refine O.alloc (cs:=#[.slice none 0 0]) hf hS rfl rfl cu rfl ?_; intro b_out4 w a hbb_out4 hS hf; refine ost 0 #[.slice (some ⟨b_s3,0,none⟩) 1 1] hf hS rfl rfl rfl ay rfl rfl rfl (bl rfl) rfl ?_; intro w hS; refine O.nil ?_; replace hS:=hS.aDe (j:=1) (n:=1) (sz:=1) (xs:=ints [(first:Int)]) (M':=[pt b_out4 (.cells #[.slice (some ⟨b_s3,0,none⟩) 1 1] 26 (0,0)),sl 3 1 (.slice (some ⟨b_s3,0,none⟩) 1 1) 1 (ints [(first:Int)]),pt b_s2 (.cells #[.map (some bm)] 82 (0,0)),pt b_m1 (.cells #[iV fW,iV fH,vP] 61 (0,0)),ms bm (ins0.set first false)]) rfl (by unfold maxLen; omega) rfl rfl rfl; obtain ⟨vt0,hvv⟩:∃ v,(.slice (some ⟨b_s3,0,none⟩) 1 1:Value)=v:=⟨_,rfl⟩; rw [hvv] at hf hS; clear hvv; replace hS:St w0 _ (fun k=>k=bm) [] [pt b_out4 (.cells #[vt0] 26 (0,0)),sl 3 1 vt0 (([(first:Int)]).length) (ints [(first:Int)]),pt b_s2 (.cells #[.map (some bm)] 82 (0,0)),pt b_m1 (.cells #[iV fW,iV fH,vP] 61 (0,0)),ms bm (ins0.set first false)]:=hS; refine aF<|W.seq<|W.seq<|?_
  refine R1 rfl<|mv hf rfl<|fun a hf=>?_; refine nk<|W.block<|?_; replace hS:=hS.mk0
  refine W.loop (G:=(Nat) × (Value) × (List Bool) × (List Int) × (List Nat)) (fun g a w=>match g with | (k,vt,ins,todo,Ds)=>Fr a 39 (dz Ds) [(3,(pp b_m1)),(4,(pp b_s2)),(6,.slice none 0 0),(7,(pp b_out4)),(8,iV k)]∧St w0 w (fun k=>k=bm) [] [mkA Ds,pt b_out4 (.cells #[vt] 26 (0,0)),sl 3 1 vt todo.length (ints todo),pt b_s2 (.cells #[.map (some bm)] 82 (0,0)),pt b_m1 (.cells #[iV fW,iV fH,vP] 61 (0,0)),ms bm ins]∧(k≤todo.length)∧((ins,todo)=Det.bfs fW fH ins0 first k)∧(Det.Inv (fW*fH) (ins,todo))∧(Det.Inv2 (ins,todo))) (fun g=>match g with | (k,vt,ins,todo,Ds)=>fW*fH-k) (0,vt0,(ins0.set first false),[(first:Int)],[]) ?_ ?_
  · refine ⟨hf.to ⟨rfl,rfl,rfl,rfl,(by first | rfl | exact vI (by omega)),trivial⟩,hS,?_,?_,?_,?_⟩
    · omega
    · rfl
    · exact Det.Inv.start hi0 hfi
    · exact Det.Inv2.start
  clear hf hS a; rintro ⟨k,vt,ins,todo,Ds⟩ a w ⟨hf,hS,h1,h2,hI,hJ⟩; refine W.seq<|W.seq<|?_
  refine R4 rfl<|mv hf rfl<|fun a hf=>ov hf rfl (aA.aT bG rfl (hS.p 1 rfl) rfl) fun a hf=>ov hf rfl (aA.bP (e:=3) (by simpa using aB) rfl (hS.slr (j:=2) rfl)) fun a hf=>ov (v:=.bool (decide ((k:Int)<((todo.length:Int):Int)))) hf rfl (aA.lss rfl rfl) fun a hf=>?_; refine nk ?_; replace hf:Fr a 39 (dz Ds) [(3,_),(4,_),(6,_),(7,_),(8,_),(17,_)]:=hf.q rfl; refine W.bJ hf rfl (fun hk=>?_) (fun hk=>?_)
  · refine W.skip ?_
    refine aF<|W.seq<|W.block<|W.seq<|?_
    refine W.xw (l₂:=[5]) (fun w=>St w0 w (fun k=>k=bm) [] [mkA Ds,pt b_out4 (.cells #[vt] 26 (0,0)),sl 3 1 vt todo.length (ints todo),pt b_s2 (.cells #[.map (some bm)] 82 (0,0)),pt b_m1 (.cells #[iV fW,iV fH,vP] 61 (0,0)),ms bm ins]) 5 aV rfl rfl rfl (by kernel_rfl) hS.drew ?_; clear hS; refine OQ.val (v:=(fG fW fH vP)) hf rfl (fun w hS=>aA.bf (cs':=#[iV fW,iV fH,vP]) dh dF rfl (hS.p 4 rfl) (bl rfl) rfl) fun a hf=>OQ.val (v:=vt) hf rfl (fun w hS=>aA.aT bG rfl (hS.p 1 rfl) rfl) fun a hf=>q0 hf rfl rfl fun a hf=>OQ.val (v:=ix vt k) hf rfl (fun w hS=>aA.ixV (j:=k) (m:=k) aB aD rfl rfl (hS.slr (j:=2) rfl) rfl (by omega) (Nat.mul_one _)) fun a hf=>OQ.val (v:=iV (todo.getD k 0)) hf rfl (fun w hS=>aA.ld1 aH rfl (hS.slr (j:=2) rfl) (aI (by omega))) fun a hf=>?_; refine OQ.nil ?_; intro w hS; have hgk:=hI.2.2 _ (Det.bL (l:=todo) (j:=k) (by omega)); rw [show todo.getD k 0=(((todo.getD k 0).toNat:Nat):Int) from by omega] at hf; refine oc hf rfl y9 (nX (fW:Int) (fH:Int) ((todo.getD k 0).toNat:Int) vP _) ?_; clear hf a; rintro ⟨bi,bj⟩ w6 hS1 a hf; try dsimp only at hS1 hf; replace hS:=hS.cl hS1; refine nk<|W.block<|?_; have hit:=qo fW fH (todo.getD k 0).toNat bi bj vP hW hH (by have:=hI.2.2 _ (Det.bL (l:=todo) (j:=k) (by omega)); omega); have hlr:∀ t ∈ Det.nb fW fH (todo.getD k 0).toNat,0≤t∧t<((fW*fH:Nat):Int):=fun t ht=>Det.jK ht; have hstep:=Det.vJ (s:=(ins,todo)) h2 (by dsimp only; omega); dsimp only at hstep
    generalize hl:Det.nb fW fH (todo.getD k 0).toNat=l at *
    refine W.tF (G:=(Value) × (List Bool) × (List Int)) (fun x=>(9,x)::[(4,(pp b_s2)),(7,(pp b_out4))]) (fun g=>match g with | (vu,in2,td)=>[pt bi (.cells #[iV ((todo.getD k 0).toNat:Int)] 3 (0,0)),pt bj (.cells #[iV fW,iV fH,vP] 61 (0,0)),mkA Ds,pt b_out4 (.cells #[vu] 26 (0,0)),sl 3 1 vu td.length (ints td),pt b_s2 (.cells #[.map (some bm)] 82 (0,0)),pt b_m1 (.cells #[iV fW,iV fH,vP] 61 (0,0)),ms bm in2]) (fun j g=>match g with | (vu,in2,td)=>((in2,td)=Det.bU (ins,todo) l j)∧(Det.Inv (fW*fH) (in2,td))∧(Det.Inv2 (in2,td))) (vt,ins,todo) [(bi,Obj.cells #[iV ((todo.getD k 0).toNat:Int)] 3 (0,0)),(bj,Obj.cells #[iV fW,iV fH,vP] 61 (0,0))] hf rfl rfl yO hS ?_ (hit) ?_ ?_ ?_ ?_
    · refine ⟨?_,?_,?_⟩
      · rfl
      · exact hI
      · exact hJ
    · rintro ⟨vu,in2,td⟩ w hS
      intro p hp; simp only [List.mem_cons,List.not_mem_nil,or_false] at hp
      rcases hp with rfl | rfl
      · exact hS.sW (i:=0) rfl
      · exact hS.sW (i:=1) rfl
    · intro l x w a hf
      refine R1 rfl<|ov (v:=x) hf rfl (aA.assign rfl) fun a hf=>?_; refine O.nil ⟨rfl,hf.q rfl,rfl⟩
    · rintro lr o_ D j x ⟨vu,in2,td⟩ w hx ⟨h5,hI2,hJ2⟩ hS a hf
      replace hf:Fr a 39 [] ((9,x)::[(4,(pp b_s2)),(7,(pp b_out4))]):=hf.q rfl; obtain ⟨hj,rfl⟩:=ints_at hx; have hjr:=hlr _ (Det.bL (l:=l) hj); obtain ⟨q,hq⟩:=Int.eq_ofNat_of_zero_le hjr.1; rw [hq] at hf hjr; refine W.block<|W.seq<|?_
      refine R3 rfl<|ov hf rfl (aA.aT pU rfl (hS.p 7 rfl) rfl)<|fun a hf=>mv hf rfl fun a hf=>ov hf rfl (aA.xg iF rfl rfl (hS.tT (j:=9) rfl)) fun a hf=>?_; refine nk ?_; refine W.if_ hf rfl (fun hc=>?_) (fun hc=>?_)
      · have hcb:=hc
        try simp only [bsm] at hc
        refine W.seq ?_
        refine R3 rfl<|ov hf rfl (aA.aT pU rfl (hS.p 7 rfl) rfl)<|fun a hf=>mv hf rfl fun a hf=>?_; refine O.aBg (j:=9) hf hS rfl iF rfl rfl rfl rfl rfl ?_; intro w hS; refine nk ?_
        refine R5 rfl<|ov hf rfl (aA.aT bG rfl (hS.p 5 rfl) rfl)<|fun a hf=>mv hf rfl fun a hf=>?_; refine O.buildSlice (cs':=#[iV q]) (zs:=#[iV 0]) hf hS rfl rfl aB aD bY rfl rfl rfl rfl rfl ?_; intro b_s8 w a hbb_s8 hS hf; refine O.fJ (j:=7) (jj:=0) hf hS rfl rfl aB aD gF bY rfl rfl rfl rfl rfl rfl rfl rfl (by have:=hI2.2.1; dsimp only at this; unfold maxLen; omega) (by have:=hI2.2.1; dsimp only at this; omega) ?_; intro v9 w a hS hf; replace hS:=hS.eqM (N:=[pt b_s8 (.cells #[iV q] 3 (0,0)),pt lr o_,pt D (.deferred (some [])),pt bi (.cells #[iV ((todo.getD k 0).toNat:Int)] 3 (0,0)),pt bj (.cells #[iV fW,iV fH,vP] 61 (0,0)),mkA Ds,pt b_out4 (.cells #[vu] 26 (0,0)),sl 3 1 v9 (td.length+1) (ints td++[iV q]),pt b_s2 (.cells #[.map (some bm)] 82 (0,0)),pt b_m1 (.cells #[iV fW,iV fH,vP] 61 (0,0)),ms bm (in2.set q false)]) rfl; replace hS:=hS.eqM (N:=[pt b_s8 (.cells #[iV q] 3 (0,0)),pt lr o_,pt D (.deferred (some [])),pt bi (.cells #[iV ((todo.getD k 0).toNat:Int)] 3 (0,0)),pt bj (.cells #[iV fW,iV fH,vP] 61 (0,0)),mkA Ds,pt b_out4 (.cells #[vu] 26 (0,0)),sl 3 1 v9 ((td++[(q:Int)]).length) (ints (td++[(q:Int)])),pt b_s2 (.cells #[.map (some bm)] 82 (0,0)),pt b_m1 (.cells #[iV fW,iV fH,vP] 61 (0,0)),ms bm (in2.set q false)]) (by rw [je]); have hcl10:=aQ.cells (hS.slr (j:=7) rfl); refine O.store (m:=1) (j:=6) (cs':=#[v9]) (M':=[pt b_s8 (.cells #[iV q] 3 (0,0)),pt lr o_,pt D (.deferred (some [])),pt bi (.cells #[iV ((todo.getD k 0).toNat:Int)] 3 (0,0)),pt bj (.cells #[iV fW,iV fH,vP] 61 (0,0)),mkA Ds,pt b_out4 (.cells #[v9] 26 (0,0)),sl 3 1 v9 ((td++[(q:Int)]).length) (ints (td++[(q:Int)])),pt b_s2 (.cells #[.map (some bm)] 82 (0,0)),pt b_m1 (.cells #[iV fW,iV fH,vP] 61 (0,0)),ms bm (in2.set q false)]) hf hS rfl rfl rfl ay (by rw [hcl10.1]; rfl) (by rw [hcl10.1]; exact hcl10.2) rfl (bl rfl) (by rw [hcl10.1]; rfl) rfl ?_; intro w hS; refine O.nil<|aG<|?_; replace hS:=hS.sl [0,1,1,1,1,1,1,1,1,1,1]; refine ⟨rfl,(v9,in2.set q false,(td++[(q:Int)])),⟨?_,?_,?_⟩,hS⟩
        · have h:=Det.kI h5 (by rw [hq]; exact hc)
          rw [hq] at h; exact h
        · exact Det.Inv.take hI2 (by omega) hc
        · exact Det.Inv2.take hJ2 hc
      · have hcb:=hc
        try simp only [bsm] at hc
        refine W.skip<|aG<|?_; refine ⟨rfl,(vu,in2,td),⟨?_,?_,?_⟩,hS⟩
        · exact Det.jy h5 (by rw [hq]; simpa using hc)
        · exact hI2
        · exact hJ2
    rintro D ⟨vu,in2,td⟩ a w ⟨h5,hI2,hJ2⟩ hS hf; replace hS:=hS.fr 3; replace hS:=hS.fr 1; replace hS:=hS.mY (M:=[pt bi (.cells #[iV ((todo.getD k 0).toNat:Int)] 3 (0,0)),pt bj (.cells #[iV fW,iV fH,vP] 61 (0,0)),pt b_out4 (.cells #[vu] 26 (0,0)),sl 3 1 vu td.length (ints td),pt b_s2 (.cells #[.map (some bm)] 82 (0,0)),pt b_m1 (.cells #[iV fW,iV fH,vP] 61 (0,0)),ms bm in2]); replace hf:Fr a 39 (dz (D::Ds)) [(3,_),(4,_),(6,_),(7,_),(8,_),(25,_)]:=hf.q rfl; refine aG<|aG<|aF<|?_
    refine R3 rfl ?_; have hi4:=hI.2.1; dsimp only at hi4; refine mv hf rfl fun a hf=>ov hf rfl (aA.ak rfl rfl (by omega)) fun a hf=>mv hf rfl fun a hf=>?_; refine O.nil ?_; replace hS:=hS.sl [1,0,0,1,1,1,1,1]; refine aS ⟨(k+1,vu,in2,td,(D::Ds)),⟨hf.to ⟨rfl,rfl,rfl,rfl,(by first | rfl | exact vI (by omega)),trivial⟩,?_,?_,?_,?_,?_⟩,?_⟩
    · exact hS.eqM rfl
    · have:=Det.nR (s:=(ins,todo)) (l:=l) (ints l).length; rw [← h5] at this; dsimp only at this; omega
    · rw [ai] at h5; rw [h5]; exact hstep
    · exact hI2
    · exact hJ2
    · dsimp only; have:=hI2.2.1; have:=Det.nR (s:=(ins,todo)) (l:=l) (ints l).length; rw [← h5] at this; dsimp only at *; omega
  · refine W.exit ?_
    refine aC<|aC<|bD<|aF<|W.seq<|?_
    refine R2 rfl<|ov hf rfl (aA.aT bG rfl (hS.p 1 rfl) rfl)<|fun a hf=>?_; refine oc hf rfl yg (aAU vt todo _ (hS.iJ (j:=2) rfl) (by have:=hI.2.1; dsimp only at this; omega)) ?_; clear hf a; rintro _ w11 hS1 a hf; replace hS:=(hS.dA hS1 (i:=2) rfl (fun _ h=>h)).eqM (N:=[sl 3 1 vt ((Det.srt todo).length) (ints (Det.srt todo)),mkA Ds,pt b_out4 (.cells #[vt] 26 (0,0)),pt b_s2 (.cells #[.map (some bm)] 82 (0,0)),pt b_m1 (.cells #[iV fW,iV fH,vP] 61 (0,0)),ms bm ins]) rfl; refine nk<|W.seq<|?_
    refine R2 rfl<|ov hf rfl (aA.aT bG rfl (hS.p 2 rfl) rfl)<|fun a hf=>mv hf rfl fun a hf=>?_; refine nk<|W.ret<|?_; replace hS:=hS.fr 1; refine kC hS hf ?_; clear hS hf a; intro w a hf hS; refine bH hf rfl (aO.tmp rfl) ?_; obtain rfl:k=todo.length:=by omega
    have hp:=Det.yh h2 (by have:=hI.2.1; dsimp only at this; omega); have hs:=Det.aCb hJ.1 hI.2.2; dsimp only at hs; replace hS:=hS.fr 4; replace hS:=hS.fr 1; rw [hs] at hS; refine ⟨vt,rfl,?_⟩; rw [hp]; exact (hS.sub (List.Sublist.cons_cons _ (List.Sublist.cons_cons _ (List.nil_sublist _)))).noB
set_option maxHeartbeats 1000000 in
set_option maxRecDepth 4000 in
theorem nZ (fW fH first:Nat) (vP vI:Value) (zs:List Int) (ins0:List Bool) (w0:World) (hW:1≤fW∧fW≤100) (hH:1≤fH∧fH≤100) (hn:zs.length=fW*fH) (hi0:ins0.length=fW*fH) (hfi:first<fW*fH) (hP:aQ (hp w0) 1 vP zs.length (ints zs)) (hI0:dZ (hp w0) 4 1 vI ins0.length (bools ins0)) (hsep:∀ b,0<zs.length→vP.ownBlock=some b→¬ vI.ownBlock=some b) :
    Ret Tryz.prog 45 #[(fG fW fH vP),vI,iV first] w0 (G:=Value) (fun v=>v) (fun v w=>St w0 w (oB vI) [] [sl 3 1 v (Det.part fW fH ins0 first).2.length (ints (Det.part fW fH ins0 first).2),sl 4 1 vI (Det.part fW fH ins0 first).1.length (bools (Det.part fW fH ins0 first).1)]):=by
  refine aR (lv:=[(fG fW fH vP),vI,iV first]) Tryz.func45 rfl rfl rfl (fun a hf=>?_); replace hf:Fr a 77 [] [(0,(fG fW fH vP)),(1,vI),(2,iV first)]:=hf; have hS:St w0 w0 (oB vI) [rI vP zs] [sl 4 1 vI ins0.length (bools ins0)]:=(St.own hI0).lend hP hsep; have hN:fW*fH≤10000:=Nat.mul_le_mul hW.2 hH.2; refine W.seq ?_
  refine R2 rfl<|O.box (cs:=#[iV fW,iV fH,vP]) hf hS rfl rfl rfl rfl<|?_; intro b_f1 w a hbb_f1 hS hf; refine mv hf rfl fun a hf=>?_; refine nk<|W.seq<|?_
  refine R3 rfl<|mv hf rfl<|fun a hf=>?_; refine O.buildSlice (cs':=#[iV first]) (zs:=#[iV 0]) hf hS rfl rfl aB aD bY rfl rfl rfl rfl rfl ?_; intro b_s2 w a hbb_s2 hS hf; refine mv hf rfl fun a hf=>?_; refine O.nil ?_; replace hS:=hS.aDe (j:=0) (n:=1) (sz:=1) (xs:=ints [(first:Int)]) (M':=[sl 3 1 (.slice (some ⟨b_s2,0,none⟩) 1 1) 1 (ints [(first:Int)]),pt b_f1 (.cells #[iV fW,iV fH,vP] 24 (0,0)),sl 4 1 vI ins0.length (bools ins0)]) rfl (by unfold maxLen; omega) rfl rfl rfl; obtain ⟨vt0,hvv⟩:∃ v,(.slice (some ⟨b_s2,0,none⟩) 1 1:Value)=v:=⟨_,rfl⟩; rw [hvv] at hf hS; clear hvv; replace hS:St w0 _ (oB vI) [rI vP zs] [sl 3 1 vt0 (([(first:Int)]).length) (ints [(first:Int)]),pt b_f1 (.cells #[iV fW,iV fH,vP] 24 (0,0)),sl 4 1 vI ins0.length (bools ins0)]:=hS; refine aF<|W.seq<|?_
  refine R4 rfl<|mv hf rfl<|fun a hf=>mv hf rfl fun a hf=>ov hf rfl (aA.ixV (j:=first) (m:=first) bZ dN rfl rfl (hS.slr (j:=2) rfl) rfl (by omega) (Nat.mul_one _)) fun a hf=>?_; refine O.bF (j:=2) (m:=first) (xs':=bools (ins0.set first false)) (M':=[sl 3 1 vt0 (([(first:Int)]).length) (ints [(first:Int)]),pt b_f1 (.cells #[iV fW,iV fH,vP] 24 (0,0)),sl 4 1 vI ins0.length (bools (ins0.set first false))]) hf hS rfl rfl rfl dN rfl rfl rfl (by simp only [nS,List.length_set]; omega) nN rfl rfl ?_; intro w hS; refine nk<|W.seq<|W.seq<|?_
  refine R1 rfl<|mv hf rfl<|fun a hf=>?_; refine nk<|W.block<|?_
  refine W.loop (G:=(Nat) × (Value) × (List Bool) × (List Int)) (fun g a w=>match g with | (k,vt,ins,todo)=>Fr a 77 [] [(1,vI),(3,(pp b_f1)),(6,.slice none 0 0),(7,vt),(8,iV k)]∧St w0 w (oB vI) [rI vP zs] [sl 3 1 vt todo.length (ints todo),pt b_f1 (.cells #[iV fW,iV fH,vP] 24 (0,0)),sl 4 1 vI ins.length (bools ins)]∧(k≤todo.length)∧((ins,todo)=Det.bfs fW fH ins0 first k)∧(Det.Inv (fW*fH) (ins,todo))) (fun g=>match g with | (k,vt,ins,todo)=>fW*fH-k) (0,vt0,(ins0.set first false),[(first:Int)]) ?_ ?_
  · refine ⟨hf.to ⟨rfl,rfl,rfl,(by first | rfl | exact vI (by omega)),(by first | rfl | exact vI (by omega)),trivial⟩,hS.eqM (by simp only [List.length_set]),?_,?_,?_⟩
    · simp
    · rfl
    · exact Det.Inv.start hi0 hfi
  clear hf hS a; rintro ⟨k,vt,ins,todo⟩ a w ⟨hf,hS,h1,h2,hI⟩; refine W.seq<|W.seq<|?_
  refine R4 rfl<|mv hf rfl<|fun a hf=>mv hf rfl fun a hf=>ov hf rfl (aA.bP (e:=3) (by simpa using aB) rfl (hS.slr (j:=0) rfl)) fun a hf=>ov (v:=.bool (decide ((k:Int)<((todo.length:Int):Int)))) hf rfl (aA.lss rfl rfl) fun a hf=>?_; refine nk ?_; replace hf:Fr a 77 [] [(1,_),(3,_),(6,_),(7,_),(8,_),(22,_)]:=hf.q rfl; refine W.bJ hf rfl (fun hk=>?_) (fun hk=>?_)
  · refine W.skip ?_
    refine aF<|W.seq<|W.block<|W.seq<|?_
    refine W.xw (l₂:=[5,6]) (fun w=>St w0 w (oB vI) [rI vP zs] [sl 3 1 vt todo.length (ints todo),pt b_f1 (.cells #[iV fW,iV fH,vP] 24 (0,0)),sl 4 1 vI ins.length (bools ins)]) 5 aV rfl rfl rfl (by kernel_rfl) hS.drew ?_; clear hS; refine OQ.val (v:=(fG fW fH vP)) hf rfl (fun w hS=>aA.bf (cs':=#[iV fW,iV fH,vP]) bK aj rfl (hS.p 1 rfl) (bl rfl) rfl) fun a hf=>q0 hf rfl rfl fun a hf=>q0 hf rfl rfl fun a hf=>OQ.val (v:=ix vt k) hf rfl (fun w hS=>aA.ixV (j:=k) (m:=k) aB aD rfl rfl (hS.slr (j:=0) rfl) rfl (by omega) (Nat.mul_one _)) fun a hf=>OQ.val (v:=iV (todo.getD k 0)) hf rfl (fun w hS=>aA.ld1 aH rfl (hS.slr (j:=0) rfl) (aI (by omega))) fun a hf=>?_; refine OQ.nil ?_; intro w hS; have hgk:=hI.2.2 _ (Det.bL (l:=todo) (j:=k) (by omega)); rw [show todo.getD k 0=(((todo.getD k 0).toNat:Nat):Int) from by omega] at hf; refine oc hf rfl aDE (uV fW fH (todo.getD k 0).toNat vP _ hW hH (by have:=hI.2.2 _ (Det.bL (l:=todo) (j:=k) (by omega)); omega)) ?_; clear hf a; rintro vn w4 hS1 a hf; replace hS:=hS.cl hS1; refine mv hf rfl fun a hf=>?_; refine O.nil ?_; have hlr:∀ t ∈ Det.nb fW fH (todo.getD k 0).toNat,0≤t∧t<((fW*fH:Nat):Int):=fun t ht=>Det.jK ht; have hstep:=fun (h:k<todo.length)=>Det.vJ (s:=(ins,todo)) h2 h; dsimp only at hstep; have hlm:=(hS.iJ (j:=0) rfl).nle; unfold maxLen at hlm
    generalize hl:Det.nb fW fH (todo.getD k 0).toNat=l at *
    refine aF<|W.seq<|?_
    refine R1 rfl<|mv hf rfl<|fun a hf=>?_; refine nk<|W.block<|?_
    refine W.loop (G:=(Nat) × (Value) × (List Bool) × (List Int)) (fun g a w=>match g with | (j,vt2,ins2,todo2)=>Fr a 77 [] [(1,vI),(3,(pp b_f1)),(6,.slice none 0 0),(7,vt2),(8,iV k),(9,vn),(10,iV j)]∧St w0 w (oB vI) [rI vP zs] [sl 3 1 vn l.length (ints l),sl 3 1 vt2 todo2.length (ints todo2),pt b_f1 (.cells #[iV fW,iV fH,vP] 24 (0,0)),sl 4 1 vI ins2.length (bools ins2)]∧(j≤l.length)∧((ins2,todo2)=Det.bU (ins,todo) l j)∧(Det.Inv (fW*fH) (ins2,todo2))∧(k+1≤todo2.length)) (fun g=>match g with | (j,vt2,ins2,todo2)=>l.length-j) (0,vt,ins,todo) ?_ ?_
    · refine ⟨hf.to ⟨rfl,rfl,rfl,(by first | rfl | exact vI (by omega)),rfl,rfl,(by first | rfl | exact vI (by omega)),trivial⟩,hS,?_,?_,?_,?_⟩
      · omega
      · rfl
      · exact hI
      · omega
    clear hf hS a; rintro ⟨j,vt2,ins2,todo2⟩ a w ⟨hf,hS,h4,h5,hI2,hlen2⟩; refine W.seq<|W.seq<|?_
    refine R4 rfl<|mv hf rfl<|fun a hf=>mv hf rfl fun a hf=>ov hf rfl (aA.bP (e:=3) (by simpa using aB) rfl (hS.slr (j:=0) rfl)) fun a hf=>ov (v:=.bool (decide ((j:Int)<((l.length:Int):Int)))) hf rfl (aA.lss rfl rfl) fun a hf=>?_; refine nk ?_; refine W.bJ hf rfl (fun hj=>?_) (fun hj=>?_)
    · refine W.skip ?_
      refine aF<|W.seq<|W.block<|W.seq<|?_
      refine R7 rfl ?_; have hr:=hlr _ (Det.bL (l:=l) (j:=j) (by omega)); have hi2:=hI2.1; dsimp only at hi2; refine mv hf rfl fun a hf=>mv hf rfl fun a hf=>mv hf rfl fun a hf=>ov hf rfl (aA.ixV (j:=j) (m:=j) aB aD rfl rfl (hS.slr (j:=0) rfl) rfl (by omega) (Nat.mul_one _)) fun a hf=>ov hf rfl (aA.ld1 aH rfl (hS.slr (j:=0) rfl) (aI (by omega))) fun a hf=>?_; refine ov hf rfl (aA.ixV (j:=(l.getD j 0).toNat) (m:=(l.getD j 0).toNat) bZ dN rfl rfl (hS.slr (j:=3) rfl) (by have:=hlr _ (Det.bL (l:=l) (j:=j) (by omega)); omega) (by have:=hlr _ (Det.bL (l:=l) (j:=j) (by omega)); have:=hI2.1; dsimp only at this; omega) (Nat.mul_one _)) fun a hf=>?_; refine ov hf rfl (aA.ld1 mG rfl (hS.slr (j:=3) rfl) (jP (by omega))) fun a hf=>?_; refine nk ?_; refine W.if_ hf rfl (fun hc=>?_) (fun hc=>?_)
      · have hcb:=hc
        try simp only [bsm] at hc
        refine W.seq ?_
        refine R7 rfl<|mv hf rfl<|fun a hf=>mv hf rfl fun a hf=>mv hf rfl fun a hf=>ov hf rfl (aA.ixV (j:=j) (m:=j) aB aD rfl rfl (hS.slr (j:=0) rfl) rfl (by omega) (Nat.mul_one _)) fun a hf=>ov hf rfl (aA.ld1 aH rfl (hS.slr (j:=0) rfl) (aI (by omega))) fun a hf=>ov hf rfl (aA.ixV (j:=(l.getD j 0).toNat) (m:=(l.getD j 0).toNat) bZ dN rfl rfl (hS.slr (j:=3) rfl) (by omega) (by omega) (Nat.mul_one _)) fun a hf=>?_; refine O.bF (j:=3) (m:=(l.getD j 0).toNat) (xs':=bools (ins2.set ((l.getD j 0).toNat) false)) (M':=[sl 3 1 vn l.length (ints l),sl 3 1 vt2 todo2.length (ints todo2),pt b_f1 (.cells #[iV fW,iV fH,vP] 24 (0,0)),sl 4 1 vI ins2.length (bools (ins2.set ((l.getD j 0).toNat) false))]) hf hS rfl rfl rfl dN rfl rfl rfl (by simp only [nS,List.length_set]; omega) nN rfl rfl ?_; intro w hS; refine nk ?_
        refine W.aY (l:=[0,1,2,3,4,5,6,7]) rfl ?_; have hi3:=hI2.2.1; dsimp only at hi3; refine mv hf rfl fun a hf=>mv hf rfl fun a hf=>mv hf rfl fun a hf=>ov hf rfl (aA.ixV (j:=j) (m:=j) aB aD rfl rfl (hS.slr (j:=0) rfl) rfl (by omega) (Nat.mul_one _)) fun a hf=>ov hf rfl (aA.ld1 aH rfl (hS.slr (j:=0) rfl) (aI (by omega))) fun a hf=>?_; refine O.buildSlice (cs':=#[iV (l.getD j 0)]) (zs:=#[iV 0]) hf hS rfl rfl aB aD bY rfl rfl rfl rfl rfl ?_; intro b_s7 w a hbb_s7 hS hf; refine O.fJ (j:=2) (jj:=0) hf hS rfl rfl aB aD gF bY rfl rfl rfl rfl rfl rfl rfl rfl (by unfold maxLen; omega) (by omega) ?_; intro v8 w a hS hf; replace hS:=hS.eqM (N:=[pt b_s7 (.cells #[iV (l.getD j 0)] 3 (0,0)),sl 3 1 vn l.length (ints l),sl 3 1 v8 (todo2.length+1) (ints todo2++[iV (l.getD j 0)]),pt b_f1 (.cells #[iV fW,iV fH,vP] 24 (0,0)),sl 4 1 vI ins2.length (bools (ins2.set ((l.getD j 0).toNat) false))]) rfl; replace hS:=hS.eqM (N:=[pt b_s7 (.cells #[iV (l.getD j 0)] 3 (0,0)),sl 3 1 vn l.length (ints l),sl 3 1 v8 ((todo2++[l.getD j 0]).length) (ints (todo2++[l.getD j 0])),pt b_f1 (.cells #[iV fW,iV fH,vP] 24 (0,0)),sl 4 1 vI ins2.length (bools (ins2.set ((l.getD j 0).toNat) false))]) (by rw [je]); refine mv hf rfl fun a hf=>?_; refine O.nil<|aG<|aF<|?_
        refine R3 rfl<|mv hf rfl<|fun a hf=>ov hf rfl (aA.ak rfl rfl (by omega)) fun a hf=>mv hf rfl fun a hf=>?_; refine O.nil ?_; replace hS:=hS.sl [0,1,1,1,1]; refine aS ⟨(j+1,v8,(ins2.set ((l.getD j 0).toNat) false),(todo2++[l.getD j 0])),⟨hf.to ⟨rfl,rfl,rfl,(by first | rfl | exact vI (by omega)),rfl,rfl,(by first | rfl | exact vI (by omega)),trivial⟩,?_,?_,?_,?_,?_⟩,?_⟩
        · exact hS.eqM (by simp only [List.length_set])
        · omega
        · exact Det.kI h5 hcb
        · rw [Det.kI h5 hcb]; exact Det.Inv.bU hI hlr (j+1) (by omega)
        · first | omega | (rw [List.length_append]; omega)
        · dsimp only; omega
      · have hcb:=hc
        try simp only [bsm] at hc
        refine W.skip<|aG<|aF<|?_
        refine R3 rfl<|mv hf rfl<|fun a hf=>ov hf rfl (aA.ak rfl rfl (by omega)) fun a hf=>mv hf rfl fun a hf=>?_; refine O.nil ?_; refine aS ⟨(j+1,vt2,ins2,todo2),⟨hf.to ⟨rfl,rfl,rfl,(by first | rfl | exact vI (by omega)),rfl,rfl,(by first | rfl | exact vI (by omega)),trivial⟩,?_,?_,?_,?_,?_⟩,?_⟩
        · exact hS.eqM (by simp only [List.length_set])
        · omega
        · exact Det.jy h5 (by rw [hcb]; exact Bool.false_ne_true)
        · rw [Det.jy h5 (by rw [hcb]; exact Bool.false_ne_true)]; exact Det.Inv.bU hI hlr (j+1) (by omega)
        · first | omega | (rw [List.length_append]; omega)
        · dsimp only; omega
    · refine W.exit ?_
      refine aC<|aC<|bD<|aG<|aF<|?_
      refine R3 rfl ?_; have hi4:=hI.2.1; dsimp only at hi4; refine mv hf rfl fun a hf=>ov hf rfl (aA.ak rfl rfl (by omega)) fun a hf=>mv hf rfl fun a hf=>?_; refine O.nil ?_; replace hS:=hS.sl [0,1,1,1]; refine aS ⟨(k+1,vt2,ins2,todo2),⟨hf.to ⟨rfl,rfl,rfl,(by first | rfl | exact vI (by omega)),(by first | rfl | exact vI (by omega)),trivial⟩,?_,?_,?_,?_⟩,?_⟩
      · exact hS.eqM rfl
      · have:=hlen2; omega
      · rw [← hstep (by omega),h5]; congr 1; omega
      · exact hI2
      · dsimp only; have:=hI.2.1; dsimp only at this; omega
  · refine W.exit ?_
    refine aC<|aC<|bD<|aF<|W.seq<|?_
    refine R6 rfl<|ov hf rfl (aA.field aP rfl rfl)<|fun a hf=>ov hf rfl (aA.aT bB rfl (hS.p 1 rfl) rfl) fun a hf=>ov hf rfl (aA.bP (e:=2) (by simpa using aN) rfl (hS.aL (j:=0) rfl)) fun a hf=>mv hf rfl fun a hf=>?_; rw [show ((zs.length:Nat):Int)=((fW*fH:Nat):Int) from by rw [hn]] at hf; refine oc hf rfl y8 (pX (fW*fH) vt todo _ (hS.slr (j:=0) rfl) (by omega) (fun i hi=>hI.2.2 _ (Det.bL hi))) ?_; clear hf a; rintro vm w9 hS1 a hf; replace hS:=hS.cl hS1; refine mv hf rfl fun a hf=>?_; refine O.nil ?_; have hml:=Det.gK (fW*fH) todo todo.length
    generalize hmk:Det.marks (fW*fH) todo todo.length=mk at *
    refine aF<|W.seq<|?_
    refine R1 rfl<|mv hf rfl<|fun a hf=>?_; refine nk<|W.seq<|W.seq<|?_
    refine R1 rfl<|mv hf rfl<|fun a hf=>?_; refine nk<|W.block<|?_; replace hS:St w0 _ (oB vI) [rI vP zs] [sl 3 1 (.slice none 0 0) (([]:List Int).length) (ints []),sl 4 1 vm mk.length (bools mk),sl 3 1 vt todo.length (ints todo),pt b_f1 (.cells #[iV fW,iV fH,vP] 24 (0,0)),sl 4 1 vI ins.length (bools ins)]:=hS.jN 3 1
    refine W.loop (G:=(Nat) × (Value) × (List Int)) (fun g a w=>match g with | (q,vo,out)=>Fr a 77 [] [(6,.slice none 0 0),(11,vm),(12,vo),(13,iV q)]∧St w0 w (oB vI) [rI vP zs] [sl 3 1 vo out.length (ints out),sl 4 1 vm mk.length (bools mk),sl 3 1 vt todo.length (ints todo),pt b_f1 (.cells #[iV fW,iV fH,vP] 24 (0,0)),sl 4 1 vI ins.length (bools ins)]∧(q≤fW*fH)∧(out=Det.asc mk q)∧(out.length≤q)) (fun g=>match g with | (q,vo,out)=>fW*fH-q) (0,(.slice none 0 0),[]) ?_ ?_
    · refine ⟨hf.to ⟨rfl,rfl,(by first | rfl | exact vI (by omega)),(by first | rfl | exact vI (by omega)),trivial⟩,hS,?_,?_,?_⟩
      · omega
      · rfl
      · simp
    clear hf hS a; rintro ⟨q,vo,out⟩ a w ⟨hf,hS,h7,h8,h9⟩; refine W.seq<|W.seq<|?_
    refine R4 rfl<|mv hf rfl<|fun a hf=>mv hf rfl fun a hf=>ov hf rfl (aA.bP (e:=4) (by simpa using bZ) rfl (hS.slr (j:=1) rfl)) fun a hf=>ov (v:=.bool (decide ((q:Int)<((mk.length:Int):Int)))) hf rfl (aA.lss rfl rfl) fun a hf=>?_; refine nk ?_; refine W.bJ hf rfl (fun hq=>?_) (fun hq=>?_)
    · refine W.skip ?_
      refine aF<|W.seq<|W.block<|W.seq<|?_
      refine R4 rfl<|mv hf rfl<|fun a hf=>mv hf rfl fun a hf=>ov hf rfl (aA.ixV (j:=q) (m:=q) bZ dN rfl rfl (hS.slr (j:=1) rfl) rfl (by omega) (Nat.mul_one _)) fun a hf=>ov hf rfl (aA.ld1 mG rfl (hS.slr (j:=1) rfl) (jP (by omega))) fun a hf=>?_; refine nk ?_; refine W.if_ hf rfl (fun hm=>?_) (fun hm=>?_)
      · have hmb:=hm
        try simp only [bsm] at hm
        refine R5 rfl<|mv hf rfl<|fun a hf=>mv hf rfl fun a hf=>?_; refine O.buildSlice (cs':=#[iV q]) (zs:=#[iV 0]) hf hS rfl rfl aB aD bY rfl rfl rfl rfl rfl ?_; intro b_s12 w a hbb_s12 hS hf; refine O.fJ (j:=1) (jj:=0) hf hS rfl rfl aB aD gF bY rfl rfl rfl rfl rfl rfl rfl rfl (by unfold maxLen; omega) (by omega) ?_; intro v13 w a hS hf; replace hS:=hS.eqM (N:=[pt b_s12 (.cells #[iV q] 3 (0,0)),sl 3 1 v13 (out.length+1) (ints out++[iV q]),sl 4 1 vm mk.length (bools mk),sl 3 1 vt todo.length (ints todo),pt b_f1 (.cells #[iV fW,iV fH,vP] 24 (0,0)),sl 4 1 vI ins.length (bools ins)]) rfl; replace hS:=hS.eqM (N:=[pt b_s12 (.cells #[iV q] 3 (0,0)),sl 3 1 v13 ((out++[(q:Int)]).length) (ints (out++[(q:Int)])),sl 4 1 vm mk.length (bools mk),sl 3 1 vt todo.length (ints todo),pt b_f1 (.cells #[iV fW,iV fH,vP] 24 (0,0)),sl 4 1 vI ins.length (bools ins)]) (by rw [je]); refine mv hf rfl fun a hf=>?_; refine O.nil<|aG<|aF<|?_
        refine R3 rfl<|mv hf rfl<|fun a hf=>ov hf rfl (aA.ak rfl rfl (by omega)) fun a hf=>mv hf rfl fun a hf=>?_; refine O.nil ?_; replace hS:=hS.sl [0,1,1,1,1,1]; refine aS ⟨(q+1,v13,(out++[(q:Int)])),⟨hf.to ⟨rfl,rfl,(by first | rfl | exact vI (by omega)),(by first | rfl | exact vI (by omega)),trivial⟩,?_,?_,?_,?_⟩,?_⟩
        · exact hS.eqM rfl
        · omega
        · rw [h8]; exact (Det.uK hmb).symm
        · first | omega | (rw [List.length_append,List.length_singleton]; omega)
        · dsimp only; omega
      · have hmb:=hm
        try simp only [bsm] at hm
        refine W.skip<|aG<|aF<|?_
        refine R3 rfl<|mv hf rfl<|fun a hf=>ov hf rfl (aA.ak rfl rfl (by omega)) fun a hf=>mv hf rfl fun a hf=>?_; refine O.nil ?_; refine aS ⟨(q+1,vo,out),⟨hf.to ⟨rfl,rfl,(by first | rfl | exact vI (by omega)),(by first | rfl | exact vI (by omega)),trivial⟩,?_,?_,?_,?_⟩,?_⟩
        · exact hS.eqM rfl
        · omega
        · rw [h8]; exact (Det.uo (by rw [hmb]; exact Bool.false_ne_true)).symm
        · first | omega | (rw [List.length_append,List.length_singleton]; omega)
        · dsimp only; omega
    · refine W.exit ?_
      refine aC<|aC<|bD<|aF<|W.seq<|?_
      refine R2 rfl<|mv hf rfl<|fun a hf=>mv hf rfl fun a hf=>?_; refine nk<|W.ret<|bH hf rfl (aO.tmp rfl)<|?_; obtain rfl:q=fW*fH:=by omega
      obtain rfl:k=todo.length:=by omega
      have hpart:=Det.yh h2 (by have:=hI.2.1; dsimp only at this; omega)
      subst h8
      subst hmk
      refine ⟨vo,rfl,?_⟩; rw [hpart]; exact (hS.sub (.cons_cons _ (.cons _ (.cons _ (.cons _ (.cons_cons _ .slnil)))))).noB
set_option maxHeartbeats 1000000 in
set_option maxRecDepth 4000 in
theorem si (fW fH:Nat) (least:Int) (vP vB:Value) (zs:List Int) (bs:List Bool) (w0:World) (hW:1≤fW∧fW≤100) (hH:1≤fH∧fH≤100) (hn:zs.length=fW*fH) (hb:bs.length=fW*fH) (hP:aQ (hp w0) 1 vP zs.length (ints zs)) (hB:aQ (hp w0) 1 vB bs.length (bools bs)) :
    Ret Tryz.prog 57 #[(fG fW fH vP),vB,iV least] w0 (G:=Value × List Value) (fun g=>g.1) (fun g w=>St w0 w noX [] [sl 26 1 g.1 g.2.length g.2,inn g.2 (Det.bR fW fH least bs bs.length).2]):=by
  refine aR (lv:=[(fG fW fH vP),vB,iV least]) Tryz.func57 rfl rfl rfl (fun a hf=>?_); replace hf:Fr a 36 [] [(0,(fG fW fH vP)),(1,vB),(2,iV least)]:=hf; have hS:St w0 w0 noX [rI vP zs,rdv 1 vB bs.length (bools bs)] []:=((St.refl w0).bO hB).bO hP; have hN:fW*fH≤10000:=Nat.mul_le_mul hW.2 hH.2; refine W.seq ?_
  refine R2 rfl<|O.box (cs:=#[iV fW,iV fH,vP]) hf hS rfl rfl rfl rfl<|?_; intro b_f1 w a hbb_f1 hS hf; refine mv hf rfl fun a hf=>?_; refine nk<|W.seq<|?_
  refine R4 rfl<|O.kU hf hS rfl rfl bZ dN rfl<|?_; intro b_s2 w a hbb_s2 hS hf; replace hS:St w0 w noX [rI vP zs,rdv 1 vB bs.length (bools bs)] [sl 4 1 (.slice (some ⟨b_s2,0,none⟩) 0 0) (([]:List Bool).length) (bools []),pt b_f1 (.cells #[iV fW,iV fH,vP] 24 (0,0))]:=hS; refine mv hf rfl fun a hf=>?_; refine O.tZ (j:=0) hf hS rfl rfl bZ dN jR jY rfl rfl rfl rfl rfl (hS.aL (j:=1) rfl) (qF _) (by unfold maxLen; simp only [List.length_nil]; omega) (by simp only [List.length_nil]; omega) ?_; intro v3 w a hS hf; replace hS:=hS.eqM (N:=[sl 4 1 v3 (([]:List Bool).length+bs.length) (bools []++bools bs),pt b_f1 (.cells #[iV fW,iV fH,vP] 24 (0,0))]) rfl; replace hS:=hS.eqM (N:=[sl 4 1 v3 bs.length (bools bs),pt b_f1 (.cells #[iV fW,iV fH,vP] 24 (0,0))]) (by simp only [rF,List.length_append,List.length_nil,Nat.zero_add,List.nil_append,bools,List.map_nil]); refine mv hf rfl fun a hf=>?_; refine O.nil ?_; obtain ⟨vI,hvv⟩:∃ v,v=v3:=⟨_,rfl⟩; rw [← hvv] at hf hS; clear hvv; refine aF<|W.seq<|?_
  refine R1 rfl<|mv hf rfl<|fun a hf=>?_; refine nk<|W.seq<|W.seq<|?_
  refine R1 rfl<|mv hf rfl<|fun a hf=>?_; refine nk<|W.block<|?_; replace hS:St w0 _ noX [rI vP zs,rdv 1 vB bs.length (bools bs)] [sl 26 1 (.slice none 0 0) (([]:List Value).length) ([]:List Value),sl 4 1 vI bs.length (bools bs),pt b_f1 (.cells #[iV fW,iV fH,vP] 24 (0,0))]:=hS.jN 26 1; replace hS:=hS.qA
  refine W.loop (G:=(Nat) × (Value) × (List Value) × (List Bool) × (List (List Int))) (fun g a w=>match g with | (k,vo,vs,ins,xss)=>Fr a 36 [] [(1,vI),(2,iV least),(3,(pp b_f1)),(6,.slice none 0 0),(7,vo),(8,iV k)]∧St w0 w noX [rI vP zs,rdv 1 vB bs.length (bools bs)] [inn vs xss,sl 26 1 vo vs.length vs,sl 4 1 vI ins.length (bools ins),pt b_f1 (.cells #[iV fW,iV fH,vP] 24 (0,0))]∧(k≤bs.length)∧((ins,xss)=Det.bR fW fH least bs k)∧(ins.length=fW*fH)∧(vs.length≤k)) (fun g=>match g with | (k,vo,vs,ins,xss)=>bs.length-k) (0,(.slice none 0 0),[],bs,[]) ?_ ?_
  · refine ⟨hf.to ⟨rfl,rfl,rfl,rfl,(by first | rfl | exact vI (by omega)),(by first | rfl | exact vI (by omega)),trivial⟩,hS,?_,?_,?_,?_⟩
    · omega
    · rfl
    · exact hb
    · simp
  clear hf hS a; rintro ⟨k,vo,vs,ins,xss⟩ a w ⟨hf,hS,h1,h2,h3,h4⟩; refine W.seq<|W.seq<|?_
  refine R4 rfl<|mv hf rfl<|fun a hf=>mv hf rfl fun a hf=>ov hf rfl (aA.bP (e:=4) (by simpa using bZ) rfl (hS.slr (j:=2) rfl)) fun a hf=>ov (v:=.bool (decide ((k:Int)<((ins.length:Int):Int)))) hf rfl (aA.lss rfl rfl) fun a hf=>?_; refine nk ?_; refine W.bJ hf rfl (fun hk=>?_) (fun hk=>?_)
  · refine W.skip ?_
    refine aF<|W.seq<|W.block<|W.seq<|?_
    refine R4 rfl<|mv hf rfl<|fun a hf=>mv hf rfl fun a hf=>ov hf rfl (aA.ixV (j:=k) (m:=k) bZ dN rfl rfl (hS.slr (j:=2) rfl) rfl (by omega) (Nat.mul_one _)) fun a hf=>ov hf rfl (aA.ld1 mG rfl (hS.slr (j:=2) rfl) (jP (by omega))) fun a hf=>?_; refine nk ?_; refine W.if_ hf rfl (fun hin=>?_) (fun hin=>?_)
    · have hinb:=hin
      try simp only [bsm] at hin
      refine W.seq ?_
      refine R5 rfl<|ov hf rfl (aA.bf (cs':=#[iV fW,iV fH,vP]) bK aj rfl (hS.p 3 rfl) (bl rfl) rfl)<|fun a hf=>mv hf rfl fun a hf=>mv hf rfl fun a hf=>?_; refine oc hf rfl yT (nZ fW fH k vP vI zs ins _ hW hH hn h3 (by omega) (hS.aL (j:=0) rfl) (hS.iJ (j:=2) rfl) (fun b g1 g2=>hS.apart (i:=2) (j:=0) rfl rfl b ⟨g1,g2⟩)) ?_; clear hf a; rintro vp w6 hS1 a hf; replace hS:=(hS.dA hS1 (i:=2) rfl (fun _ h=>h)).eqM (N:=[sl 3 1 vp ((Det.part fW fH ins k).2.length) (ints (Det.part fW fH ins k).2),sl 4 1 vI ((Det.part fW fH ins k).1.length) (bools (Det.part fW fH ins k).1),inn vs xss,sl 26 1 vo vs.length vs,pt b_f1 (.cells #[iV fW,iV fH,vP] 24 (0,0))]) rfl; refine mv hf rfl fun a hf=>?_; refine nk<|W.seq<|?_
      refine R4 rfl ?_; have hple:(Det.part fW fH ins k).2.length≤fW*fH:=Det.yc; refine mv hf rfl fun a hf=>ov hf rfl (aA.bP (e:=3) (by simpa using aB) rfl (hS.slr (j:=0) rfl)) fun a hf=>mv hf rfl fun a hf=>ov (v:=.bool (decide (((Det.part fW fH ins k).2.length:Int)≥(least:Int)))) hf rfl (aA.geq rfl rfl) fun a hf=>?_; refine nk ?_; refine W.bJ hf rfl (fun hle=>?_) (fun hle=>?_)
      ·
        refine R5 rfl<|mv hf rfl<|fun a hf=>mv hf rfl fun a hf=>?_; have hcl9:=aQ.cells (hS.slr (j:=0) rfl); refine O.buildSlice (cs':=#[vp]) (zs:=#[.slice none 0 0]) hf hS rfl rfl ah ay cu rfl rfl rfl rfl (by first | (simp only [Instr.fill,hcl9.1]; rfl) | simp [Instr.fill,hcl9.1]) ?_; intro b_s8 w a hbb_s8 hS hf; have hcl11:=aQ.cells (hS.slr (j:=1) rfl); refine O.fJ (j:=4) (jj:=0) hf hS rfl rfl ah ay iX cu rfl rfl rfl rfl rfl rfl rfl hcl11.2 (by unfold maxLen; omega) (by omega) ?_; intro v10 w a hS hf; replace hS:=hS.eqM (N:=[pt b_s8 (.cells #[vp] 26 (0,0)),sl 3 1 vp ((Det.part fW fH ins k).2.length) (ints (Det.part fW fH ins k).2),sl 4 1 vI ((Det.part fW fH ins k).1.length) (bools (Det.part fW fH ins k).1),inn vs xss,sl 26 1 v10 (vs.length+1) (vs++[vp]),pt b_f1 (.cells #[iV fW,iV fH,vP] 24 (0,0))]) rfl; replace hS:=hS.eqM (N:=[pt b_s8 (.cells #[vp] 26 (0,0)),sl 3 1 vp ((Det.part fW fH ins k).2.length) (ints (Det.part fW fH ins k).2),sl 4 1 vI ((Det.part fW fH ins k).1.length) (bools (Det.part fW fH ins k).1),inn vs xss,sl 26 1 v10 ((vs++[vp]).length) (vs++[vp]),pt b_f1 (.cells #[iV fW,iV fH,vP] 24 (0,0))]) (by rw [aAt]); refine mv hf rfl fun a hf=>?_; refine O.nil ?_; replace hS:=hS.fr 3; replace hS:=hS.fr 2; replace hS:=hS.xQ; refine aG<|aF<|?_
        refine R3 rfl<|mv hf rfl<|fun a hf=>ov hf rfl (aA.ak rfl rfl (by omega)) fun a hf=>mv hf rfl fun a hf=>?_; refine O.nil ?_; replace hS:=hS.fr 4; replace hS:=hS.fr 3; replace hS:=hS.fr 4; replace hS:=hS.fr 3; replace hS:=hS.sl [1,1,1,1]; refine aS ⟨(k+1,v10,(vs++[vp]),((Det.part fW fH ins k).1),(xss++[(Det.part fW fH ins k).2])),⟨hf.to ⟨rfl,rfl,rfl,rfl,(by first | rfl | exact vI (by omega)),(by first | rfl | exact vI (by omega)),trivial⟩,?_,?_,?_,?_,?_⟩,?_⟩
        · exact hS.eqM rfl
        · omega
        · exact Det.vU h2 hinb (by omega)
        · exact Det.jr h3 (by omega)
        · simp only [List.length_append,List.length_singleton]; omega
        · dsimp only; omega
      · refine W.skip ?_
        refine aG<|aF<|?_
        refine R3 rfl<|mv hf rfl<|fun a hf=>ov hf rfl (aA.ak rfl rfl (by omega)) fun a hf=>mv hf rfl fun a hf=>?_; refine O.nil ?_; replace hS:=hS.fr 4; replace hS:=hS.fr 2; replace hS:=hS.fr 4; replace hS:=hS.fr 4; replace hS:=hS.sl [1,1,1,1]; refine aS ⟨(k+1,vo,vs,((Det.part fW fH ins k).1),xss),⟨hf.to ⟨rfl,rfl,rfl,rfl,(by first | rfl | exact vI (by omega)),(by first | rfl | exact vI (by omega)),trivial⟩,?_,?_,?_,?_,?_⟩,?_⟩
        · exact hS.eqM rfl
        · omega
        · exact Det.tq h2 hinb (by omega)
        · exact Det.jr h3 (by omega)
        · omega
        · dsimp only; omega
    · have hinb:=hin
      try simp only [bsm] at hin
      refine W.skip<|aG<|aF<|?_
      refine R3 rfl<|mv hf rfl<|fun a hf=>ov hf rfl (aA.ak rfl rfl (by omega)) fun a hf=>mv hf rfl fun a hf=>?_; refine O.nil ?_; refine aS ⟨(k+1,vo,vs,ins,xss),⟨hf.to ⟨rfl,rfl,rfl,rfl,(by first | rfl | exact vI (by omega)),(by first | rfl | exact vI (by omega)),trivial⟩,?_,?_,?_,?_,?_⟩,?_⟩
      · exact hS.eqM rfl
      · omega
      · exact Det.uZ h2 (by rw [hinb]; exact Bool.false_ne_true)
      · exact h3
      · omega
      · dsimp only; omega
  · refine W.exit ?_
    refine aC<|aC<|bD<|aF<|W.seq<|?_
    refine R2 rfl<|mv hf rfl<|fun a hf=>mv hf rfl fun a hf=>?_; refine nk<|W.ret<|bH hf rfl (aO.tmp rfl)<|?_; replace hS:=hS.fr 0; replace hS:=hS.fr 1; obtain rfl:k=bs.length:=by omega
    refine ⟨(vo,vs),rfl,?_⟩; rw [← h2]; exact (hS.sub (.cons_cons _ (.cons_cons _ (.cons _ (.cons _ .slnil))))).noB
set_option maxHeartbeats 1000000 in
set_option maxRecDepth 4000 in
theorem vW (bm:Nat) (w0:World) :
    Ret Tryz.prog 64 #[.map (some bm)] w0 (G:=Nat) (fun b=>.func (.func 90) #[] #[(pp b)]) (fun b w=>St w0 w noX [] [pt b (.cells #[.map (some bm)] 82 (0,0))]):=by
  refine aR (lv:=[.map (some bm)]) Tryz.func64 rfl rfl rfl (fun a hf=>?_); replace hf:Fr a 4 [] [(0,.map (some bm))]:=hf; have hS:St w0 w0 noX [] []:=St.refl w0; refine W.seq ?_
  refine R2 rfl<|O.box (cs:=#[.map (some bm)]) hf hS rfl rfl rfl rfl<|?_; intro b_m1 w a hbb_m1 hS hf; refine mv hf rfl fun a hf=>?_; refine nk<|W.seq<|?_
  refine R2 rfl<|ov (v:=.func (.func 90) #[] #[(pp b_m1)]) hf rfl (aA.makeFunc rfl rfl rfl rfl)<|fun a hf=>mv hf rfl fun a hf=>?_; refine nk<|W.ret<|bH hf rfl (aO.tmp rfl)<|?_; exact ⟨b_m1,rfl,hS⟩
theorem qY (b bm:Nat) (ins:List Bool) (w0:World) (hb:w0.heap[b]? = some (.cells #[.map (some bm)] 82 (0,0))) (hm:jC (hp w0) bm ins) (hl:ins.length≤10000) :
    Ret Tryz.prog 63 #[.func (.func 90) #[] #[(pp b)]] w0 (G:=Value) (fun v=>v) (fun v w=>St w0 w noX [] [sl 3 1 v (Det.asc ins ins.length).length (ints (Det.asc ins ins.length))]):=by
  obtain ⟨D,hown,hnd,hmem,hsz⟩:=aAu (P:=Tryz.prog) (k:=3) (e:=4) Tryz.underlying3 Tryz.underlying4 hm hl; have hblt:b<w0.heap.size:=(Array.getElem?_eq_some_iff.1 hb).1; have hcell:w0.cell? ⟨b,0,none⟩=some (.map (some bm)):=by simp [World.cell?,hb]
  have hseq:SeqGives Fence.wide 2 Tryz.prog 90 #[(pp b)] encZ (fun ss=>ss.Perm (intKeys D)) (Maps.size D) w0 :=
    AnyZI.keys_gives (ρ:=Tryz.keysA_ren) { Tryz.keysA with } Fence.wide _ trivial rfl (by omega) b bm 10000 D w0 hblt hcell hown
  have sorts:AnyZI.SortsIn Tryz.prog Tryz.sortedA_ren Fence.wide 4:=⟨fun blk off cap ss W hH hblk hsz=>callsIn_wide.2 (AnyM.slices_Sort_int Tryz.sortA blk off cap ss W hH hblk hsz),fun p cap W=>callsIn_wide.2 (AnyM.slices_Sort_int_none Tryz.sortA p cap W)⟩; have cS:=AnyZI.sorted_in Tryz.sortedA Fence.wide 5 trivial trivial trivial trivial rfl (by omega) sorts (fun args w=>iO yg args w) 90 #[(pp b)] trivial (fun args w=>iO aDB args w) _ _ (by unfold maxLen; omega) (by omega) w0 hseq; refine Calls.mono (callsIn_wide.1 cS) ?_; rintro e w ⟨v,ss,rfl,hp,hrow,_,hbl⟩; have e1:ss.mergeSort (fun x y=>decide (x≤y))=Det.asc ins ins.length :=
    Det.lq (hp.symm.nodup hnd) (fun t=>by rw [hp.mem_iff]; exact hmem t)
  have e2:ss.length=(Det.asc ins ins.length).length:=by rw [← e1,List.length_mergeSort]
  rw [e1,e2] at hrow; exact ⟨v,rfl,ownsRow.st hbl hrow⟩
set_option maxHeartbeats 1000000 in
set_option maxRecDepth 4000 in
theorem mV (fW fH bm:Nat) (least:Int) (vP:Value) (ins0:List Bool) (w0:World) (hW:1≤fW∧fW≤100) (hH:1≤fH∧fH≤100) (hi0:ins0.length=fW*fH) (hm:jC (hp w0) bm ins0) :
    Ret Tryz.prog 44 #[(fG fW fH vP),.map (some bm),iV least] w0 (G:=Value × List Value) (fun g=>g.1) (fun g w=>St w0 w (fun k=>k=bm) [] [sl 26 1 g.1 g.2.length g.2,inn g.2 (Det.bR fW fH least ins0 ins0.length).2]):=by
  refine aR (lv:=[(fG fW fH vP),.map (some bm),iV least]) Tryz.func44 rfl rfl rfl (fun a hf=>?_); replace hf:Fr a 37 [] [(0,(fG fW fH vP)),(1,.map (some bm)),(2,iV least)]:=hf; have hS:St w0 w0 (fun k=>k=bm) [] [ms bm ins0]:=St.aDO hm; have hN:fW*fH≤10000:=Nat.mul_le_mul hW.2 hH.2; refine W.seq ?_
  refine R2 rfl<|O.box (cs:=#[iV fW,iV fH,vP]) hf hS rfl rfl rfl rfl<|?_; intro b_m1 w a hbb_m1 hS hf; refine mv hf rfl fun a hf=>?_; refine nk<|W.seq<|?_
  refine R1 rfl<|mv hf rfl<|fun a hf=>?_; refine nk<|W.seq<|W.seq<|?_
  refine R5 rfl<|mv hf rfl<|fun a hf=>?_; refine oc hf rfl aDD (vW bm _) ?_; clear hf a; rintro bk w2 hS1 a hf; replace hS:=hS.cl hS1; refine oc hf rfl aDH (qY bk bm ins0 _ (hS.p 0 rfl) (hS.tT (j:=2) rfl) (by omega)) ?_; clear hf a; rintro vk w3 hS1 a hf; replace hS:=hS.cl hS1; refine ov hf rfl (aA.bP (e:=3) (by simpa using aB) rfl (hS.slr (j:=0) rfl)) fun a hf=>mv hf rfl fun a hf=>?_; refine O.nil ?_; have hfin:=Det.qR (W:=fW) (H:=fH) (least:=least) (bs:=ins0) ins0.length; have hkr:∀ t ∈ Det.asc ins0 ins0.length,∃ q:Nat,t=(q:Int)∧q<fW*fH:=fun t ht=>by obtain ⟨i,h1,h2,_⟩:=Det.jh.1 ht; exact ⟨i,h1,by omega⟩
  have hkl:=Det.oL (bs:=ins0) ins0.length
  generalize hks:Det.asc ins0 ins0.length=ks at *
  refine aF<|W.block<|?_; replace hS:St w0 _ (fun k=>k=bm) [] [sl 26 1 (.slice none 0 0) (([]:List Value).length) ([]:List Value),sl 3 1 vk ks.length (ints ks),pt bk (.cells #[.map (some bm)] 82 (0,0)),pt b_m1 (.cells #[iV fW,iV fH,vP] 61 (0,0)),ms bm ins0]:=hS.jN 26 1; replace hS:=hS.qA
  refine W.loop (G:=(Nat) × (Value) × (List Value) × (List Bool) × (List (List Int))) (fun g a w=>match g with | (j,vo,vs,ins,xss)=>Fr a 37 [] [(1,.map (some bm)),(2,iV least),(3,(pp b_m1)),(6,.slice none 0 0),(7,vo),(13,vk),(14,iV (ks.length:Int)),(15,iV j)]∧St w0 w (fun k=>k=bm) [] [inn vs xss,sl 26 1 vo vs.length vs,sl 3 1 vk ks.length (ints ks),pt bk (.cells #[.map (some bm)] 82 (0,0)),pt b_m1 (.cells #[iV fW,iV fH,vP] 61 (0,0)),ms bm ins]∧(j≤ks.length)∧((ins,xss)=Det.dw fW fH least ins0 ks j)∧(ins.length=fW*fH)∧(vs.length≤j)) (fun g=>match g with | (j,vo,vs,ins,xss)=>ks.length-j) (0,(.slice none 0 0),[],ins0,[]) ?_ ?_
  · refine ⟨hf.to ⟨rfl,rfl,rfl,rfl,(by first | rfl | exact vI (by omega)),rfl,rfl,(by first | rfl | exact vI (by omega)),trivial⟩,hS,?_,?_,?_,?_⟩
    · omega
    · rfl
    · exact hi0
    · simp
  clear hf hS a; rintro ⟨j,vo,vs,ins,xss⟩ a w ⟨hf,hS,h1,h2,h3,h4⟩; refine W.seq ?_
  refine R1 rfl<|ov (v:=.bool (decide ((j:Int)<((ks.length:Int):Int)))) hf rfl (aA.lss rfl rfl)<|fun a hf=>?_; refine nk<|W.seq<|?_; refine W.bJ hf rfl (fun hk=>?_) (fun hk=>?_)
  · refine W.skip ?_
    refine aF<|W.seq<|W.block<|W.seq<|?_
    refine R3 rfl<|ov hf rfl (aA.ixV (j:=j) (m:=j) aB aD rfl rfl (hS.slr (j:=2) rfl) rfl (by omega) (Nat.mul_one _))<|fun a hf=>ov hf rfl (aA.ld1 aH rfl (hS.slr (j:=2) rfl) (aI (by omega))) fun a hf=>mv hf rfl fun a hf=>?_; refine O.nil ?_; obtain ⟨q,hq,hqn⟩:=hkr _ (Det.bL (l:=ks) (j:=j) (by omega)); rw [hq] at hf; refine aF<|W.seq<|W.seq<|?_
    refine R4 rfl<|mv hf rfl<|fun a hf=>mv hf rfl fun a hf=>ov hf rfl (aA.xg iF rfl rfl (hS.tT (j:=5) rfl)) fun a hf=>ov (v:=.bool (!(ins.getD q false))) hf rfl (aA.not rfl) fun a hf=>?_; refine nk ?_; refine W.if_ hf rfl (fun hnin=>?_) (fun hnin=>?_)
    · have hninb:=hnin
      try simp only [bsm] at hnin
      have hin:¬ ins.getD q false=true:=by simpa using hnin
      refine W.exit<|aC<|bD<|aF<|?_
      refine R2 rfl<|ov hf rfl (aA.ak rfl rfl (by omega))<|fun a hf=>mv hf rfl fun a hf=>?_; refine O.nil ?_; refine aS ⟨(j+1,vo,vs,ins,xss),⟨hf.to ⟨rfl,rfl,rfl,rfl,(by first | rfl | exact vI (by omega)),rfl,rfl,(by first | rfl | exact vI (by omega)),trivial⟩,?_,?_,?_,?_,?_⟩,?_⟩
      · exact hS.eqM rfl
      · omega
      · exact Det.ug h2 hq hin
      · exact h3
      · omega
      · dsimp only; omega
    · have hninb:=hnin
      try simp only [bsm] at hnin
      have hin:ins.getD q false=true:=by simpa using hnin
      refine W.skip<|aF<|W.seq<|?_
      refine R5 rfl<|ov hf rfl (aA.bf (cs':=#[iV fW,iV fH,vP]) dh dF rfl (hS.p 4 rfl) (bl rfl) rfl)<|fun a hf=>mv hf rfl fun a hf=>mv hf rfl fun a hf=>?_; refine oc hf rfl yS (ni fW fH q bm vP ins _ hW hH h3 hqn (hS.tT (j:=5) rfl)) ?_; clear hf a; rintro vp w6 hS1 a hf; replace hS:=(hS.dA hS1 (i:=5) rfl (fun _ h=>h)).eqM (N:=[sl 3 1 vp ((Det.part fW fH ins q).2.length) (ints (Det.part fW fH ins q).2),ms bm ((Det.part fW fH ins q).1),inn vs xss,sl 26 1 vo vs.length vs,sl 3 1 vk ks.length (ints ks),pt bk (.cells #[.map (some bm)] 82 (0,0)),pt b_m1 (.cells #[iV fW,iV fH,vP] 61 (0,0))]) rfl; refine mv hf rfl fun a hf=>?_; refine nk<|W.seq<|?_
      refine R4 rfl ?_; have hple:(Det.part fW fH ins q).2.length≤fW*fH:=Det.yc; refine mv hf rfl fun a hf=>ov hf rfl (aA.bP (e:=3) (by simpa using aB) rfl (hS.slr (j:=0) rfl)) fun a hf=>mv hf rfl fun a hf=>ov (v:=.bool (decide (((Det.part fW fH ins q).2.length:Int)≥(least:Int)))) hf rfl (aA.geq rfl rfl) fun a hf=>?_; refine nk ?_; refine W.bJ hf rfl (fun hle=>?_) (fun hle=>?_)
      ·
        refine R5 rfl<|mv hf rfl<|fun a hf=>mv hf rfl fun a hf=>?_; have hcl9:=aQ.cells (hS.slr (j:=0) rfl); refine O.buildSlice (cs':=#[vp]) (zs:=#[.slice none 0 0]) hf hS rfl rfl ah ay cu rfl rfl rfl rfl (by first | (simp only [Instr.fill,hcl9.1]; rfl) | simp [Instr.fill,hcl9.1]) ?_; intro b_s8 w a hbb_s8 hS hf; have hcl11:=aQ.cells (hS.slr (j:=1) rfl); refine O.fJ (j:=4) (jj:=0) hf hS rfl rfl ah ay iX cu rfl rfl rfl rfl rfl rfl rfl hcl11.2 (by unfold maxLen; omega) (by omega) ?_; intro v10 w a hS hf; replace hS:=hS.eqM (N:=[pt b_s8 (.cells #[vp] 26 (0,0)),sl 3 1 vp ((Det.part fW fH ins q).2.length) (ints (Det.part fW fH ins q).2),ms bm ((Det.part fW fH ins q).1),inn vs xss,sl 26 1 v10 (vs.length+1) (vs++[vp]),sl 3 1 vk ks.length (ints ks),pt bk (.cells #[.map (some bm)] 82 (0,0)),pt b_m1 (.cells #[iV fW,iV fH,vP] 61 (0,0))]) rfl; replace hS:=hS.eqM (N:=[pt b_s8 (.cells #[vp] 26 (0,0)),sl 3 1 vp ((Det.part fW fH ins q).2.length) (ints (Det.part fW fH ins q).2),ms bm ((Det.part fW fH ins q).1),inn vs xss,sl 26 1 v10 ((vs++[vp]).length) (vs++[vp]),sl 3 1 vk ks.length (ints ks),pt bk (.cells #[.map (some bm)] 82 (0,0)),pt b_m1 (.cells #[iV fW,iV fH,vP] 61 (0,0))]) (by rw [aAt]); refine mv hf rfl fun a hf=>?_; refine O.nil ?_; replace hS:=hS.fr 3; replace hS:=hS.fr 2; replace hS:=hS.xQ; refine aG<|aF<|?_
        refine R2 rfl<|ov hf rfl (aA.ak rfl rfl (by omega))<|fun a hf=>mv hf rfl fun a hf=>?_; refine O.nil ?_; replace hS:=hS.fr 2; replace hS:=hS.fr 6; replace hS:=hS.fr 6; replace hS:=hS.fr 6; replace hS:=hS.fr 6; replace hS:=hS.fr 5; replace hS:=hS.sl [1,1,1,1,1,1]; refine aS ⟨(j+1,v10,(vs++[vp]),(Det.part fW fH ins q).1,(xss++[(Det.part fW fH ins q).2])),⟨hf.to ⟨rfl,rfl,rfl,rfl,(by first | rfl | exact vI (by omega)),rfl,rfl,(by first | rfl | exact vI (by omega)),trivial⟩,?_,?_,?_,?_,?_⟩,?_⟩
        · exact hS.eqM rfl
        · omega
        · exact Det.vY h2 hq hin (by omega)
        · exact Det.jr h3 hqn
        · simp only [List.length_append,List.length_singleton]; omega
        · dsimp only; omega
      · refine W.skip ?_
        refine aG<|aF<|?_
        refine R2 rfl<|ov hf rfl (aA.ak rfl rfl (by omega))<|fun a hf=>mv hf rfl fun a hf=>?_; refine O.nil ?_; replace hS:=hS.fr 1; replace hS:=hS.fr 6; replace hS:=hS.fr 6; replace hS:=hS.fr 6; replace hS:=hS.fr 6; replace hS:=hS.fr 6; replace hS:=hS.sl [1,1,1,1,1,1]; refine aS ⟨(j+1,vo,vs,(Det.part fW fH ins q).1,xss),⟨hf.to ⟨rfl,rfl,rfl,rfl,(by first | rfl | exact vI (by omega)),rfl,rfl,(by first | rfl | exact vI (by omega)),trivial⟩,?_,?_,?_,?_,?_⟩,?_⟩
        · exact hS.eqM rfl
        · omega
        · exact Det.tQ h2 hq hin (by omega)
        · exact Det.jr h3 hqn
        · omega
        · dsimp only; omega
  · refine W.exit ?_
    refine aC<|aC<|bD<|aF<|W.seq<|?_
    refine R2 rfl<|mv hf rfl<|fun a hf=>mv hf rfl fun a hf=>?_; refine nk<|W.ret<|bH hf rfl (aO.tmp rfl)<|?_; replace hS:=hS.fr 0; replace hS:=hS.fr 1; obtain rfl:j=ks.length:=by omega
    rw [hfin] at h2; refine ⟨(vo,vs),rfl,?_⟩; rw [← h2]; exact (hS.sub (.cons_cons _ (.cons_cons _ (.cons _ (.cons _ (.cons _ (.cons _ .slnil))))))).noB
set_option maxHeartbeats 1000000 in
set_option maxRecDepth 4000 in
theorem parts7_spec (fW fH thr least:Int) (vP vB:Value) (zs:List Int) (bs:List Bool) (w0:World) [Decidable (Det.aM fW fH zs)] (hP:aQ (hp w0) 1 vP zs.length (ints zs)) (hB:aQ (hp w0) 1 vB bs.length (bools bs)) :
    Ret Tryz.prog 41 #[(fG fW fH vP),vB,iV thr,iV least] w0 (G:=Value × List Value) (fun g=>.tuple #[g.1,iV (Det.bg fW fH zs bs thr least)]) (fun g w=>St w0 w noX [] [sl 26 1 g.1 g.2.length g.2,inn g.2 (Det.eZ fW fH zs bs thr least)]):=by
  refine aR (lv:=[(fG fW fH vP),vB,iV thr,iV least]) Tryz.func41 rfl rfl rfl (fun a hf=>?_); replace hf:Fr a 64 [] [(0,(fG fW fH vP)),(1,vB),(2,iV thr),(3,iV least)]:=hf; have hS:St w0 w0 noX [rI vP zs,rdv 1 vB bs.length (bools bs)] []:=((St.refl w0).bO hB).bO hP; have hlen:=hP.2.1; unfold maxLen at hlen; refine W.seq ?_
  refine R3 rfl<|O.box (cs:=#[iV fW,iV fH,vP]) hf hS rfl rfl rfl rfl<|?_; intro b_f1 w a hbb_f1 hS hf; refine mv hf rfl fun a hf=>mv hf rfl fun a hf=>?_; refine nk<|W.seq<|W.seq<|?_
  refine R3 rfl<|ov hf rfl (aA.bf (cs':=#[iV fW,iV fH,vP]) bK aj rfl (hS.p 0 rfl) (bl rfl) rfl)<|fun a hf=>?_; refine oc hf rfl tY (jf fW fH vP zs _ (hS.aL (j:=0) rfl)) ?_; clear hf a; rintro _ w2 hS1 a hf; replace hS:=hS.cl hS1; refine mv hf rfl fun a hf=>?_; refine nk<|W.seq<|?_
  refine R2 rfl<|mv hf rfl<|fun a hf=>ov (v:=.bool (decide ((if Det.aM fW fH zs then 0 else 8)≠(0:Int)))) hf rfl (aA.neq rfl rfl) fun a hf=>?_; refine nk ?_; refine W.bJ hf rfl (fun hce=>?_) (fun hce=>?_)
  · have hfo:¬ Det.aM fW fH zs:=fun h=>hce (if_pos h)
    refine W.seq ?_
    refine R3 rfl<|mv hf rfl<|fun a hf=>mv hf rfl fun a hf=>mv hf rfl fun a hf=>?_; refine nk<|W.ret<|aK<|eG hf rfl (aO.tmp rfl) (aO.tmp rfl)<|?_; have he:Det.bg fW fH zs bs thr least=8:=by unfold Det.bg; rw [if_neg hfo]
    have hr:Det.eZ fW fH zs bs thr least=[]:=by unfold Det.eZ; rw [if_neg (by rw [he]; decide)]
    refine ⟨(.slice none 0 0,[]),by rw [he,if_neg hfo],?_⟩; rw [hr]; exact St.nE (hS.sub (List.nil_sublist _) |>.noB) 26
  · have hfo:Det.aM fW fH zs:=Classical.byContradiction fun h=>hce (by rw [if_neg h]; decide)
    have hzl:=Det.sJ hfo; refine W.skip<|aF<|W.seq<|W.seq<|?_
    refine W.aY (l:=[0,1,2,3,4,5,6,7,8,9,10,11,12,13,14,15,16,17]) rfl<|mv hf rfl<|fun a hf=>?_; refine ov hf rfl (aA.bP (e:=4) (by simpa using bZ) rfl (hS.aL (j:=1) rfl)) fun a hf=>ov hf rfl (aA.field aP rfl rfl) fun a hf=>ov hf rfl (aA.aT bB rfl (hS.p 0 rfl) rfl) fun a hf=>ov hf rfl (aA.bP (e:=2) (by simpa using aN) rfl (hS.aL (j:=0) rfl)) fun a hf=>ov (v:=.bool (decide ((bs.length:Int)≠((zs.length:Int):Int)))) hf rfl (aA.neq rfl rfl) fun a hf=>mv hf rfl fun a hf=>?_
    refine O.dV (l₁:=[7,8,9]) (l₂:=_) (fun a w=>Fr a 64 [] [(1,vB),(2,iV thr),(3,iV least),(4,(pp b_f1)),(8,.slice none 0 0),(9,iV 0),(27,.bool ((decide ((bs.length:Int)≠((zs.length:Int):Int)))||(decide (thr<(-4294967296:Int)))))]∧St w0 w noX [rI vP zs,rdv 1 vB bs.length (bools bs)] [pt b_f1 (.cells #[iV fW,iV fH,vP] 24 (0,0))]) rfl ?_ ?_
    · rcases Bool.eq_false_or_eq_true (decide ((bs.length:Int)≠((zs.length:Int):Int))) with hb4 | hb4
      · have hb4p:=of_decide_eq_true hb4
        refine sk hf rfl hb4 fun a hf=>sk hf rfl hb4 fun a hf=>?_; refine ov (v:=.bool ((decide ((bs.length:Int)≠((zs.length:Int):Int)))||(decide (thr<(-4294967296:Int))))) hf rfl (aA.pick rfl rfl rfl (by rw [hb4]; rfl)) fun a hf=>?_; exact O.nil ⟨rfl,hf.q rfl,hS⟩
      · have hb4p:=of_decide_eq_false hb4
        refine og (v:=iV thr) hf rfl hb4 (aA.move rfl) fun a hf=>og (v:=.bool (decide (thr<(-4294967296:Int)))) hf rfl hb4 (aA.lss rfl rfl) fun a hf=>?_; refine ov (v:=.bool ((decide ((bs.length:Int)≠((zs.length:Int):Int)))||(decide (thr<(-4294967296:Int))))) hf rfl (aA.pick rfl rfl rfl (by rw [hb4]; rfl)) fun a hf=>?_; exact O.nil ⟨rfl,hf.q rfl,hS⟩
    clear hf hS a; rintro a w ⟨hf,hS⟩; refine mv hf rfl fun a hf=>?_
    refine O.dV (l₁:=[11,12,13]) (l₂:=_) (fun a w=>Fr a 64 [] [(1,vB),(2,iV thr),(3,iV least),(4,(pp b_f1)),(8,.slice none 0 0),(9,iV 0),(31,.bool (((decide ((bs.length:Int)≠((zs.length:Int):Int)))||(decide (thr<(-4294967296:Int))))||(decide (thr>(4294967296:Int)))))]∧St w0 w noX [rI vP zs,rdv 1 vB bs.length (bools bs)] [pt b_f1 (.cells #[iV fW,iV fH,vP] 24 (0,0))]) rfl ?_ ?_
    · rcases Bool.eq_false_or_eq_true ((decide ((bs.length:Int)≠((zs.length:Int):Int)))||(decide (thr<(-4294967296:Int)))) with hb5 | hb5
      · have hb5p:=hb5
        try simp only [bsm] at hb5p
        refine sk hf rfl hb5 fun a hf=>sk hf rfl hb5 fun a hf=>?_; refine ov (v:=.bool (((decide ((bs.length:Int)≠((zs.length:Int):Int)))||(decide (thr<(-4294967296:Int))))||(decide (thr>(4294967296:Int))))) hf rfl (aA.pick rfl rfl rfl (by rw [hb5]; rfl)) fun a hf=>?_; exact O.nil ⟨rfl,hf.q rfl,hS⟩
      · have hb5p:=hb5
        try simp only [bsm] at hb5p
        refine og (v:=iV thr) hf rfl hb5 (aA.move rfl) fun a hf=>og (v:=.bool (decide (thr>(4294967296:Int)))) hf rfl hb5 (aA.gtr rfl rfl) fun a hf=>?_; refine ov (v:=.bool (((decide ((bs.length:Int)≠((zs.length:Int):Int)))||(decide (thr<(-4294967296:Int))))||(decide (thr>(4294967296:Int))))) hf rfl (aA.pick rfl rfl rfl (by rw [hb5]; rfl)) fun a hf=>?_; exact O.nil ⟨rfl,hf.q rfl,hS⟩
    clear hf hS a; rintro a w ⟨hf,hS⟩; refine mv hf rfl fun a hf=>?_
    refine O.dV (l₁:=[15,16,17]) (l₂:=_) (fun a w=>Fr a 64 [] [(1,vB),(2,iV thr),(3,iV least),(4,(pp b_f1)),(8,.slice none 0 0),(9,iV 0),(35,.bool ((((decide ((bs.length:Int)≠((zs.length:Int):Int)))||(decide (thr<(-4294967296:Int))))||(decide (thr>(4294967296:Int))))||(decide (least<(1:Int)))))]∧St w0 w noX [rI vP zs,rdv 1 vB bs.length (bools bs)] [pt b_f1 (.cells #[iV fW,iV fH,vP] 24 (0,0))]) rfl ?_ ?_
    · rcases Bool.eq_false_or_eq_true (((decide ((bs.length:Int)≠((zs.length:Int):Int)))||(decide (thr<(-4294967296:Int))))||(decide (thr>(4294967296:Int)))) with hb6 | hb6
      · have hb6p:=hb6
        try simp only [bsm] at hb6p
        refine sk hf rfl hb6 fun a hf=>sk hf rfl hb6 fun a hf=>?_; refine ov (v:=.bool ((((decide ((bs.length:Int)≠((zs.length:Int):Int)))||(decide (thr<(-4294967296:Int))))||(decide (thr>(4294967296:Int))))||(decide (least<(1:Int))))) hf rfl (aA.pick rfl rfl rfl (by rw [hb6]; rfl)) fun a hf=>?_; exact O.nil ⟨rfl,hf.q rfl,hS⟩
      · have hb6p:=hb6
        try simp only [bsm] at hb6p
        refine og (v:=iV least) hf rfl hb6 (aA.move rfl) fun a hf=>og (v:=.bool (decide (least<(1:Int)))) hf rfl hb6 (aA.lss rfl rfl) fun a hf=>?_; refine ov (v:=.bool ((((decide ((bs.length:Int)≠((zs.length:Int):Int)))||(decide (thr<(-4294967296:Int))))||(decide (thr>(4294967296:Int))))||(decide (least<(1:Int))))) hf rfl (aA.pick rfl rfl rfl (by rw [hb6]; rfl)) fun a hf=>?_; exact O.nil ⟨rfl,hf.q rfl,hS⟩
    clear hf hS a; rintro a w ⟨hf,hS⟩; refine nk ?_; refine W.if_ hf rfl (fun hca=>?_) (fun hca=>?_)
    · have hcab:=hca
      try simp only [bsm] at hca
      refine W.seq ?_
      refine R2 rfl<|mv hf rfl<|fun a hf=>mv hf rfl fun a hf=>?_; refine nk<|W.ret<|aK<|eG hf rfl (aO.tmp rfl) (aO.tmp rfl)<|?_; have he:Det.bg fW fH zs bs thr least=2:=by unfold Det.bg; rw [if_pos hfo,if_neg (fun h=>by omega)]
      have hr:Det.eZ fW fH zs bs thr least=[]:=by unfold Det.eZ; rw [if_neg (by rw [he]; decide)]
      refine ⟨(.slice none 0 0,[]),by rw [he],?_⟩; rw [hr]; exact St.nE (hS.sub (List.nil_sublist _) |>.noB) 26
    · have hcab:=hca
      try simp only [bsm] at hca
      refine W.skip<|aF<|W.seq<|?_
      refine R1 rfl<|mv hf rfl<|fun a hf=>?_; refine nk<|W.seq<|W.seq<|?_
      refine R1 rfl<|mv hf rfl<|fun a hf=>?_; refine nk<|W.block<|?_; replace hS:St w0 _ noX [rI vP zs,rdv 1 vB bs.length (bools bs)] [sl 4 1 (.slice none 0 0) (([]:List Bool).length) (bools []),pt b_f1 (.cells #[iV fW,iV fH,vP] 24 (0,0))]:=hS.jN 4 1
      refine W.loop (G:=(Nat) × (Value) × (List Bool)) (fun g a w=>match g with | (k,vi,inn0)=>Fr a 64 [] [(1,vB),(2,iV thr),(3,iV least),(4,(pp b_f1)),(8,.slice none 0 0),(9,iV 0),(11,vi),(12,iV k)]∧St w0 w noX [rI vP zs,rdv 1 vB bs.length (bools bs)] [sl 4 1 vi inn0.length (bools inn0),pt b_f1 (.cells #[iV fW,iV fH,vP] 24 (0,0))]∧(k≤zs.length)∧(inn0=Det.bright zs bs thr k)∧(inn0.length=k)) (fun g=>match g with | (k,vi,inn0)=>zs.length-k) (0,(.slice none 0 0),[]) ?_ ?_
      · refine ⟨hf.to ⟨rfl,rfl,rfl,rfl,rfl,rfl,(by first | rfl | exact vI (by omega)),(by first | rfl | exact vI (by omega)),trivial⟩,hS,?_,?_,?_⟩
        · omega
        · rfl
        · rfl
      clear hf hS a; rintro ⟨k,vi,inn0⟩ a w ⟨hf,hS,h1,h2,h3⟩; refine W.seq<|W.seq<|?_
      refine R5 rfl<|mv hf rfl<|fun a hf=>ov hf rfl (aA.field aP rfl rfl) fun a hf=>ov hf rfl (aA.aT bB rfl (hS.p 1 rfl) rfl) fun a hf=>ov hf rfl (aA.bP (e:=2) (by simpa using aN) rfl (hS.aL (j:=0) rfl)) fun a hf=>ov (v:=.bool (decide ((k:Int)<((zs.length:Int):Int)))) hf rfl (aA.lss rfl rfl) fun a hf=>?_; refine nk ?_; refine W.bJ hf rfl (fun hk=>?_) (fun hk=>?_)
      · refine W.skip ?_
        refine aF<|W.seq<|W.block<|?_
        refine W.aY (l:=[0,1,2,3,4,5,6,7,8,9,10,11,12,13,14,15,16,17]) rfl<|mv hf rfl<|fun a hf=>?_; refine mv hf rfl fun a hf=>mv hf rfl fun a hf=>ov hf rfl (aA.ixV (j:=k) (m:=k) bZ dN rfl rfl (hS.aL (j:=1) rfl) rfl (by omega) (Nat.mul_one _)) fun a hf=>ov hf rfl (aA.ld1 mG rfl (hS.aL (j:=1) rfl) (jP (by omega))) fun a hf=>ov (v:=.bool (!(bs.getD k false))) hf rfl (aA.not rfl) fun a hf=>mv hf rfl fun a hf=>?_
        refine O.dV (l₁:=[7,8,9,10,11,12,13,14]) (l₂:=_) (fun a w=>Fr a 64 [] [(1,vB),(2,iV thr),(3,iV least),(4,(pp b_f1)),(8,.slice none 0 0),(9,iV 0),(11,vi),(12,iV k),(43,vi),(57,.bool ((!(bs.getD k false))&&(decide ((zs.getD k 0)≥(thr:Int)))))]∧St w0 w noX [rI vP zs,rdv 1 vB bs.length (bools bs)] [sl 4 1 vi inn0.length (bools inn0),pt b_f1 (.cells #[iV fW,iV fH,vP] 24 (0,0))]) rfl ?_ ?_
        · rcases Bool.eq_false_or_eq_true (!(bs.getD k false)) with hb9 | hb9
          · have hb9p:=hb9
            try simp only [bsm] at hb9p
            refine og (v:=.pointer (some ⟨b_f1,2,none⟩)) hf rfl hb9 (aA.field aP rfl rfl) fun a hf=>og (v:=vP) hf rfl hb9 (aA.aT bB rfl (hS.p 1 rfl) rfl) fun a hf=>og (v:=iV k) hf rfl hb9 (aA.move rfl) fun a hf=>og (v:=ix vP k) hf rfl hb9 (aA.ixV (j:=k) (m:=k) aN bE rfl rfl (hS.aL (j:=0) rfl) rfl (by omega) (Nat.mul_one _)) fun a hf=>og (v:=iV (zs.getD k 0)) hf rfl hb9 (aA.ld1 bT rfl (hS.aL (j:=0) rfl) (aI (by omega))) fun a hf=>og (v:=iV thr) hf rfl hb9 (aA.move rfl) fun a hf=>og (v:=.bool (decide ((zs.getD k 0)≥(thr:Int)))) hf rfl hb9 (aA.geq rfl rfl) fun a hf=>?_; refine ov (v:=.bool ((!(bs.getD k false))&&(decide ((zs.getD k 0)≥(thr:Int))))) hf rfl (aA.pick rfl rfl rfl (by rw [hb9]; rfl)) fun a hf=>?_; exact O.nil ⟨rfl,hf.q rfl,hS⟩
          · have hb9p:=hb9
            try simp only [bsm] at hb9p
            refine sk hf rfl hb9 fun a hf=>sk hf rfl hb9 fun a hf=>sk hf rfl hb9 fun a hf=>sk hf rfl hb9 fun a hf=>sk hf rfl hb9 fun a hf=>sk hf rfl hb9 fun a hf=>sk hf rfl hb9 fun a hf=>?_; refine ov (v:=.bool ((!(bs.getD k false))&&(decide ((zs.getD k 0)≥(thr:Int))))) hf rfl (aA.pick rfl rfl rfl (by rw [hb9]; rfl)) fun a hf=>?_; exact O.nil ⟨rfl,hf.q rfl,hS⟩
        clear hf hS a; rintro a w ⟨hf,hS⟩; refine O.buildSlice (cs':=#[.bool ((!(bs.getD k false))&&(decide ((zs.getD k 0)≥(thr:Int))))]) (zs:=#[.bool false]) hf hS rfl rfl bZ dN jY rfl rfl rfl rfl rfl ?_; intro b_s10 w a hbb_s10 hS hf; refine O.fJ (j:=1) (jj:=0) hf hS rfl rfl bZ dN jR jY rfl rfl rfl rfl rfl rfl rfl rfl (by unfold maxLen; omega) (by omega) ?_; intro v11 w a hS hf; replace hS:=hS.eqM (N:=[pt b_s10 (.cells #[.bool ((!(bs.getD k false))&&(decide ((zs.getD k 0)≥(thr:Int))))] 4 (0,0)),sl 4 1 v11 (inn0.length+1) (bools inn0++[.bool ((!(bs.getD k false))&&(decide ((zs.getD k 0)≥(thr:Int))))]),pt b_f1 (.cells #[iV fW,iV fH,vP] 24 (0,0))]) rfl; replace hS:=hS.eqM (N:=[pt b_s10 (.cells #[.bool ((!(bs.getD k false))&&(decide ((zs.getD k 0)≥(thr:Int))))] 4 (0,0)),sl 4 1 v11 ((inn0++[(!(bs.getD k false))&&(decide ((zs.getD k 0)≥(thr:Int)))]).length) (bools (inn0++[(!(bs.getD k false))&&(decide ((zs.getD k 0)≥(thr:Int)))])),pt b_f1 (.cells #[iV fW,iV fH,vP] 24 (0,0))]) (by rw [aAf]); refine mv hf rfl fun a hf=>?_; refine O.nil<|aG<|aF<|?_
        refine R3 rfl<|mv hf rfl<|fun a hf=>ov hf rfl (aA.ak rfl rfl (by omega)) fun a hf=>mv hf rfl fun a hf=>?_; refine O.nil ?_; replace hS:=hS.sl [0,1,1]; refine aS ⟨(k+1,v11,(inn0++[(!(bs.getD k false))&&(decide ((zs.getD k 0)≥(thr:Int)))])),⟨hf.to ⟨rfl,rfl,rfl,rfl,rfl,rfl,(by first | rfl | exact vI (by omega)),(by first | rfl | exact vI (by omega)),trivial⟩,?_,?_,?_,?_⟩,?_⟩
        · exact hS.eqM rfl
        · omega
        · rw [h2]; rfl
        · rw [List.length_append,List.length_singleton]; omega
        · dsimp only; omega
      · refine W.exit ?_
        refine aC<|aC<|bD<|aF<|W.seq<|?_
        refine R6 rfl<|ov hf rfl (aA.bf (cs':=#[iV fW,iV fH,vP]) bK aj rfl (hS.p 1 rfl) (bl rfl) rfl)<|fun a hf=>mv hf rfl fun a hf=>mv hf rfl fun a hf=>?_; obtain ⟨hf1,hf2,hf3,hf4,hf5,hf6⟩:=hfo; have hw:fW=((fW.toNat:Nat):Int):=by omega
        have hh:fH=((fH.toNat:Nat):Int):=by omega
        have hnn:zs.length=fW.toNat*fH.toNat:=by rw [hw,hh] at hf5; exact_mod_cast hf5
        obtain rfl:k=zs.length:=by omega
        subst h2
        have he0:Det.bg fW fH zs bs thr least=0:=by unfold Det.bg; rw [if_pos ⟨hf1,hf2,hf3,hf4,hf5,hf6⟩,if_pos (by omega)]
        have hr0:Det.eZ fW fH zs bs thr least=(Det.bR fW.toNat fH.toNat least (Det.bright zs bs thr zs.length) (Det.bright zs bs thr zs.length).length).2:=by unfold Det.eZ; rw [if_pos he0,Det.fF]
        rw [hw,hh] at hf; refine oc hf rfl aCL (si fW.toNat fH.toNat least vP vi zs (Det.bright zs bs thr zs.length) _ (by omega) (by omega) hnn (by rw [Det.fF]; exact hnn) (hS.aL (j:=0) rfl) (hS.slr (j:=0) rfl)) ?_; clear hf a; rintro ⟨vo,vs⟩ w12 hS1 a hf; try dsimp only at hS1 hf; replace hS:=hS.cl hS1; refine mv hf rfl fun a hf=>mv hf rfl fun a hf=>?_; refine nk<|W.ret<|eG hf rfl (aO.tmp rfl) (aO.tmp rfl)<|?_; replace hS:=hS.fr 1; replace hS:=hS.fr 1; refine ⟨(vo,vs),by rw [he0],?_⟩; rw [hr0]; exact (hS.sub (.cons_cons _ (.cons_cons _ (.cons _ (.cons _ .slnil))))).noB
set_option maxHeartbeats 1000000 in
set_option maxRecDepth 4000 in
theorem nY (fW fH thr least:Int) (vP vB:Value) (zs:List Int) (bs:List Bool) (w0:World) [Decidable (Det.aM fW fH zs)] (hP:aQ (hp w0) 1 vP zs.length (ints zs)) (hB:aQ (hp w0) 1 vB bs.length (bools bs)) :
    Ret Tryz.prog 17 #[(fG fW fH vP),vB,iV thr,iV least] w0 (G:=Value × List Value) (fun g=>.tuple #[g.1,iV (Det.bg fW fH zs bs thr least)]) (fun g w=>St w0 w noX [] [sl 26 1 g.1 g.2.length g.2,inn g.2 (Det.eZ fW fH zs bs thr least)]):=by
  refine aR (lv:=[(fG fW fH vP),vB,iV thr,iV least]) Tryz.func17 rfl rfl rfl (fun a hf=>?_); replace hf:Fr a 64 [] [(0,(fG fW fH vP)),(1,vB),(2,iV thr),(3,iV least)]:=hf; have hS:St w0 w0 noX [rI vP zs,rdv 1 vB bs.length (bools bs)] []:=((St.refl w0).bO hB).bO hP; have hlen:=hP.2.1; unfold maxLen at hlen; refine W.seq ?_
  refine R3 rfl<|O.box (cs:=#[iV fW,iV fH,vP]) hf hS rfl rfl rfl rfl<|?_; intro b_f1 w a hbb_f1 hS hf; refine mv hf rfl fun a hf=>mv hf rfl fun a hf=>?_; refine nk<|W.seq<|W.seq<|?_
  refine R3 rfl<|ov hf rfl (aA.bf (cs':=#[iV fW,iV fH,vP]) bK aj rfl (hS.p 0 rfl) (bl rfl) rfl)<|fun a hf=>?_; refine oc hf rfl oP (jd fW fH vP zs _ (hS.aL (j:=0) rfl)) ?_; clear hf a; rintro _ w2 hS1 a hf; replace hS:=hS.cl hS1; refine mv hf rfl fun a hf=>?_; refine nk<|W.seq<|?_
  refine R2 rfl<|mv hf rfl<|fun a hf=>ov (v:=.bool (decide ((if Det.aM fW fH zs then 0 else 8)≠(0:Int)))) hf rfl (aA.neq rfl rfl) fun a hf=>?_; refine nk ?_; refine W.bJ hf rfl (fun hce=>?_) (fun hce=>?_)
  · have hfo:¬ Det.aM fW fH zs:=fun h=>hce (if_pos h)
    refine W.seq ?_
    refine R3 rfl<|mv hf rfl<|fun a hf=>mv hf rfl fun a hf=>mv hf rfl fun a hf=>?_; refine nk<|W.ret<|aK<|eG hf rfl (aO.tmp rfl) (aO.tmp rfl)<|?_; have he:Det.bg fW fH zs bs thr least=8:=by unfold Det.bg; rw [if_neg hfo]
    have hr:Det.eZ fW fH zs bs thr least=[]:=by unfold Det.eZ; rw [if_neg (by rw [he]; decide)]
    refine ⟨(.slice none 0 0,[]),by rw [he,if_neg hfo],?_⟩; rw [hr]; exact St.nE (hS.sub (List.nil_sublist _) |>.noB) 26
  · have hfo:Det.aM fW fH zs:=Classical.byContradiction fun h=>hce (by rw [if_neg h]; decide)
    have hzl:=Det.sJ hfo; refine W.skip<|aF<|W.seq<|W.seq<|?_
    refine W.aY (l:=[0,1,2,3,4,5,6,7,8,9,10,11,12,13,14,15,16,17]) rfl<|mv hf rfl<|fun a hf=>?_; refine ov hf rfl (aA.bP (e:=4) (by simpa using bZ) rfl (hS.aL (j:=1) rfl)) fun a hf=>ov hf rfl (aA.field aP rfl rfl) fun a hf=>ov hf rfl (aA.aT bB rfl (hS.p 0 rfl) rfl) fun a hf=>ov hf rfl (aA.bP (e:=2) (by simpa using aN) rfl (hS.aL (j:=0) rfl)) fun a hf=>ov (v:=.bool (decide ((bs.length:Int)≠((zs.length:Int):Int)))) hf rfl (aA.neq rfl rfl) fun a hf=>mv hf rfl fun a hf=>?_
    refine O.dV (l₁:=[7,8,9]) (l₂:=_) (fun a w=>Fr a 64 [] [(1,vB),(2,iV thr),(3,iV least),(4,(pp b_f1)),(8,.slice none 0 0),(9,iV 0),(28,.bool ((decide ((bs.length:Int)≠((zs.length:Int):Int)))||(decide (thr<(-4294967296:Int)))))]∧St w0 w noX [rI vP zs,rdv 1 vB bs.length (bools bs)] [pt b_f1 (.cells #[iV fW,iV fH,vP] 24 (0,0))]) rfl ?_ ?_
    · rcases Bool.eq_false_or_eq_true (decide ((bs.length:Int)≠((zs.length:Int):Int))) with hb4 | hb4
      · have hb4p:=of_decide_eq_true hb4
        refine sk hf rfl hb4 fun a hf=>sk hf rfl hb4 fun a hf=>?_; refine ov (v:=.bool ((decide ((bs.length:Int)≠((zs.length:Int):Int)))||(decide (thr<(-4294967296:Int))))) hf rfl (aA.pick rfl rfl rfl (by rw [hb4]; rfl)) fun a hf=>?_; exact O.nil ⟨rfl,hf.q rfl,hS⟩
      · have hb4p:=of_decide_eq_false hb4
        refine og (v:=iV thr) hf rfl hb4 (aA.move rfl) fun a hf=>og (v:=.bool (decide (thr<(-4294967296:Int)))) hf rfl hb4 (aA.lss rfl rfl) fun a hf=>?_; refine ov (v:=.bool ((decide ((bs.length:Int)≠((zs.length:Int):Int)))||(decide (thr<(-4294967296:Int))))) hf rfl (aA.pick rfl rfl rfl (by rw [hb4]; rfl)) fun a hf=>?_; exact O.nil ⟨rfl,hf.q rfl,hS⟩
    clear hf hS a; rintro a w ⟨hf,hS⟩; refine mv hf rfl fun a hf=>?_
    refine O.dV (l₁:=[11,12,13]) (l₂:=_) (fun a w=>Fr a 64 [] [(1,vB),(2,iV thr),(3,iV least),(4,(pp b_f1)),(8,.slice none 0 0),(9,iV 0),(32,.bool (((decide ((bs.length:Int)≠((zs.length:Int):Int)))||(decide (thr<(-4294967296:Int))))||(decide (thr>(4294967296:Int)))))]∧St w0 w noX [rI vP zs,rdv 1 vB bs.length (bools bs)] [pt b_f1 (.cells #[iV fW,iV fH,vP] 24 (0,0))]) rfl ?_ ?_
    · rcases Bool.eq_false_or_eq_true ((decide ((bs.length:Int)≠((zs.length:Int):Int)))||(decide (thr<(-4294967296:Int)))) with hb5 | hb5
      · have hb5p:=hb5
        try simp only [bsm] at hb5p
        refine sk hf rfl hb5 fun a hf=>sk hf rfl hb5 fun a hf=>?_; refine ov (v:=.bool (((decide ((bs.length:Int)≠((zs.length:Int):Int)))||(decide (thr<(-4294967296:Int))))||(decide (thr>(4294967296:Int))))) hf rfl (aA.pick rfl rfl rfl (by rw [hb5]; rfl)) fun a hf=>?_; exact O.nil ⟨rfl,hf.q rfl,hS⟩
      · have hb5p:=hb5
        try simp only [bsm] at hb5p
        refine og (v:=iV thr) hf rfl hb5 (aA.move rfl) fun a hf=>og (v:=.bool (decide (thr>(4294967296:Int)))) hf rfl hb5 (aA.gtr rfl rfl) fun a hf=>?_; refine ov (v:=.bool (((decide ((bs.length:Int)≠((zs.length:Int):Int)))||(decide (thr<(-4294967296:Int))))||(decide (thr>(4294967296:Int))))) hf rfl (aA.pick rfl rfl rfl (by rw [hb5]; rfl)) fun a hf=>?_; exact O.nil ⟨rfl,hf.q rfl,hS⟩
    clear hf hS a; rintro a w ⟨hf,hS⟩; refine mv hf rfl fun a hf=>?_
    refine O.dV (l₁:=[15,16,17]) (l₂:=_) (fun a w=>Fr a 64 [] [(1,vB),(2,iV thr),(3,iV least),(4,(pp b_f1)),(8,.slice none 0 0),(9,iV 0),(36,.bool ((((decide ((bs.length:Int)≠((zs.length:Int):Int)))||(decide (thr<(-4294967296:Int))))||(decide (thr>(4294967296:Int))))||(decide (least<(1:Int)))))]∧St w0 w noX [rI vP zs,rdv 1 vB bs.length (bools bs)] [pt b_f1 (.cells #[iV fW,iV fH,vP] 24 (0,0))]) rfl ?_ ?_
    · rcases Bool.eq_false_or_eq_true (((decide ((bs.length:Int)≠((zs.length:Int):Int)))||(decide (thr<(-4294967296:Int))))||(decide (thr>(4294967296:Int)))) with hb6 | hb6
      · have hb6p:=hb6
        try simp only [bsm] at hb6p
        refine sk hf rfl hb6 fun a hf=>sk hf rfl hb6 fun a hf=>?_; refine ov (v:=.bool ((((decide ((bs.length:Int)≠((zs.length:Int):Int)))||(decide (thr<(-4294967296:Int))))||(decide (thr>(4294967296:Int))))||(decide (least<(1:Int))))) hf rfl (aA.pick rfl rfl rfl (by rw [hb6]; rfl)) fun a hf=>?_; exact O.nil ⟨rfl,hf.q rfl,hS⟩
      · have hb6p:=hb6
        try simp only [bsm] at hb6p
        refine og (v:=iV least) hf rfl hb6 (aA.move rfl) fun a hf=>og (v:=.bool (decide (least<(1:Int)))) hf rfl hb6 (aA.lss rfl rfl) fun a hf=>?_; refine ov (v:=.bool ((((decide ((bs.length:Int)≠((zs.length:Int):Int)))||(decide (thr<(-4294967296:Int))))||(decide (thr>(4294967296:Int))))||(decide (least<(1:Int))))) hf rfl (aA.pick rfl rfl rfl (by rw [hb6]; rfl)) fun a hf=>?_; exact O.nil ⟨rfl,hf.q rfl,hS⟩
    clear hf hS a; rintro a w ⟨hf,hS⟩; refine nk ?_; refine W.if_ hf rfl (fun hca=>?_) (fun hca=>?_)
    · have hcab:=hca
      try simp only [bsm] at hca
      refine W.seq ?_
      refine R2 rfl<|mv hf rfl<|fun a hf=>mv hf rfl fun a hf=>?_; refine nk<|W.ret<|aK<|eG hf rfl (aO.tmp rfl) (aO.tmp rfl)<|?_; have he:Det.bg fW fH zs bs thr least=2:=by unfold Det.bg; rw [if_pos hfo,if_neg (fun h=>by omega)]
      have hr:Det.eZ fW fH zs bs thr least=[]:=by unfold Det.eZ; rw [if_neg (by rw [he]; decide)]
      refine ⟨(.slice none 0 0,[]),by rw [he],?_⟩; rw [hr]; exact St.nE (hS.sub (List.nil_sublist _) |>.noB) 26
    · have hcab:=hca
      try simp only [bsm] at hca
      refine W.skip<|aF<|W.seq<|?_
      refine R2 rfl<|O.makeMap hf hS rfl rfl (List.replicate zs.length false) (Det.oQ _)<|?_; intro b_m8 w a hbb_m8 hS hf; refine mv hf rfl fun a hf=>?_; refine nk<|W.seq<|W.seq<|?_
      refine R4 rfl<|ov hf rfl (aA.field aP rfl rfl)<|fun a hf=>ov hf rfl (aA.aT bB rfl (hS.p 1 rfl) rfl) fun a hf=>ov hf rfl (aA.bP (e:=2) (by simpa using aN) rfl (hS.aL (j:=0) rfl)) fun a hf=>mv hf rfl fun a hf=>?_; refine nk ?_; replace hf:Fr a 64 [] [(1,_),(2,_),(3,_),(4,_),(8,_),(9,_),(11,_),(39,_),(40,_),(41,_)]:=hf.q rfl; refine W.block ?_
      refine W.loop (G:=(Nat) × (List Bool)) (fun g a w=>match g with | (k,in1)=>Fr a 64 [] [(1,vB),(2,iV thr),(3,iV least),(4,(pp b_f1)),(8,.slice none 0 0),(9,iV 0),(11,.map (some b_m8)),(39,vP),(40,iV (zs.length:Int)),(41,iV k)]∧St w0 w noX [rI vP zs,rdv 1 vB bs.length (bools bs)] [ms b_m8 in1,pt b_f1 (.cells #[iV fW,iV fH,vP] 24 (0,0))]∧(k≤zs.length)∧(in1=Det.bright zs bs thr k++List.replicate (zs.length-k) false)∧(in1.length=zs.length)) (fun g=>match g with | (k,in1)=>zs.length-k) (0,(List.replicate zs.length false)) ?_ ?_
      · refine ⟨hf.to ⟨rfl,rfl,rfl,rfl,rfl,rfl,rfl,rfl,rfl,(by first | rfl | exact vI (by omega)),trivial⟩,hS,?_,?_,?_⟩
        · omega
        · rfl
        · simp
      clear hf hS a; rintro ⟨k,in1⟩ a w ⟨hf,hS,h1,h2,h3⟩; refine W.seq ?_
      refine R1 rfl<|ov (v:=.bool (decide ((k:Int)<((zs.length:Int):Int)))) hf rfl (aA.lss rfl rfl)<|fun a hf=>?_; refine nk<|W.seq<|?_; refine W.bJ hf rfl (fun hk=>?_) (fun hk=>?_)
      · refine W.skip ?_
        refine aF<|W.seq<|W.block<|W.seq<|?_
        refine R5 rfl<|mv hf rfl<|fun a hf=>ov hf rfl (aA.ixV (j:=k) (m:=k) aN bE rfl rfl (hS.aL (j:=0) rfl) rfl (by omega) (Nat.mul_one _)) fun a hf=>ov hf rfl (aA.ld1 bT rfl (hS.aL (j:=0) rfl) (aI (by omega))) fun a hf=>mv hf rfl fun a hf=>mv hf rfl fun a hf=>?_; refine nk<|W.seq<|?_
        refine W.aY (l:=[0,1,2,3,4,5,6,7,8,9]) rfl<|mv hf rfl<|fun a hf=>?_; refine mv hf rfl fun a hf=>ov hf rfl (aA.ixV (j:=k) (m:=k) bZ dN rfl rfl (hS.aL (j:=1) rfl) rfl (by omega) (Nat.mul_one _)) fun a hf=>ov hf rfl (aA.ld1 mG rfl (hS.aL (j:=1) rfl) (jP (by omega))) fun a hf=>ov (v:=.bool (!(bs.getD k false))) hf rfl (aA.not rfl) fun a hf=>mv hf rfl fun a hf=>?_
        refine O.dV (l₁:=[6,7,8,9]) (l₂:=_) (fun a w=>Fr a 64 [] [(1,vB),(2,iV thr),(3,iV least),(4,(pp b_f1)),(8,.slice none 0 0),(9,iV 0),(11,.map (some b_m8)),(12,iV k),(13,iV (zs.getD k 0)),(39,vP),(40,iV (zs.length:Int)),(41,iV k),(55,.bool ((!(bs.getD k false))&&(decide ((zs.getD k 0)≥(thr:Int)))))]∧St w0 w noX [rI vP zs,rdv 1 vB bs.length (bools bs)] [ms b_m8 in1,pt b_f1 (.cells #[iV fW,iV fH,vP] 24 (0,0))]) rfl ?_ ?_
        · rcases Bool.eq_false_or_eq_true (!(bs.getD k false)) with hb10 | hb10
          · have hb10p:=hb10
            try simp only [bsm] at hb10p
            refine og (v:=iV (zs.getD k 0)) hf rfl hb10 (aA.move rfl) fun a hf=>og (v:=iV thr) hf rfl hb10 (aA.move rfl) fun a hf=>og (v:=.bool (decide ((zs.getD k 0)≥(thr:Int)))) hf rfl hb10 (aA.geq rfl rfl) fun a hf=>?_; refine ov (v:=.bool ((!(bs.getD k false))&&(decide ((zs.getD k 0)≥(thr:Int))))) hf rfl (aA.pick rfl rfl rfl (by rw [hb10]; rfl)) fun a hf=>?_; exact O.nil ⟨rfl,hf.q rfl,hS⟩
          · have hb10p:=hb10
            try simp only [bsm] at hb10p
            refine sk hf rfl hb10 fun a hf=>sk hf rfl hb10 fun a hf=>sk hf rfl hb10 fun a hf=>?_; refine ov (v:=.bool ((!(bs.getD k false))&&(decide ((zs.getD k 0)≥(thr:Int))))) hf rfl (aA.pick rfl rfl rfl (by rw [hb10]; rfl)) fun a hf=>?_; exact O.nil ⟨rfl,hf.q rfl,hS⟩
        clear hf hS a; rintro a w ⟨hf,hS⟩; refine nk ?_; refine W.if_ hf rfl (fun hbr=>?_) (fun hbr=>?_)
        · have hbrb:=hbr
          try simp only [bsm] at hbr
          refine R3 rfl<|mv hf rfl<|fun a hf=>mv hf rfl fun a hf=>?_; refine O.uG (j:=0) hf hS rfl iF rfl rfl rfl rfl (by omega) rfl ?_; intro w hS; refine O.nil<|aG<|aF<|?_
          refine R2 rfl<|ov hf rfl (aA.ak rfl rfl (by omega))<|fun a hf=>mv hf rfl fun a hf=>?_; refine O.nil ?_; refine aS ⟨(k+1,in1.set k true),⟨hf.to ⟨rfl,rfl,rfl,rfl,rfl,rfl,rfl,rfl,rfl,(by first | rfl | exact vI (by omega)),trivial⟩,?_,?_,?_,?_⟩,?_⟩
          · exact hS.eqM rfl
          · omega
          · rw [h2]; exact Det.zn (by omega) hbrb
          · rw [List.length_set]; exact h3
          · dsimp only; omega
        · have hbrb:=hbr
          try simp only [bsm] at hbr
          refine W.skip<|aG<|aF<|?_
          refine R2 rfl<|ov hf rfl (aA.ak rfl rfl (by omega))<|fun a hf=>mv hf rfl fun a hf=>?_; refine O.nil ?_; refine aS ⟨(k+1,in1),⟨hf.to ⟨rfl,rfl,rfl,rfl,rfl,rfl,rfl,rfl,rfl,(by first | rfl | exact vI (by omega)),trivial⟩,?_,?_,?_,?_⟩,?_⟩
          · exact hS.eqM rfl
          · omega
          · rw [h2]; exact Det.aAP (by omega) hbrb
          · exact h3
          · dsimp only; omega
      · refine W.exit ?_
        refine aC<|aC<|bD<|aF<|W.seq<|?_
        refine R7 rfl<|ov hf rfl (aA.bf (cs':=#[iV fW,iV fH,vP]) bK aj rfl (hS.p 1 rfl) (bl rfl) rfl)<|fun a hf=>ov hf rfl (aA.kM (cs':=#[iV fW,iV fH,vP]) kQ jQ rfl rfl) fun a hf=>mv hf rfl fun a hf=>mv hf rfl fun a hf=>?_; obtain ⟨hf1,hf2,hf3,hf4,hf5,hf6⟩:=hfo; have hw:fW=((fW.toNat:Nat):Int):=by omega
        have hh:fH=((fH.toNat:Nat):Int):=by omega
        have hnn:zs.length=fW.toNat*fH.toNat:=by rw [hw,hh] at hf5; exact_mod_cast hf5
        obtain rfl:k=zs.length:=by omega
        replace h2:in1=(Det.bright zs bs thr zs.length):=by rw [h2]; simp
        subst h2
        have he0:Det.bg fW fH zs bs thr least=0:=by unfold Det.bg; rw [if_pos ⟨hf1,hf2,hf3,hf4,hf5,hf6⟩,if_pos (by omega)]
        have hr0:Det.eZ fW fH zs bs thr least=(Det.bR fW.toNat fH.toNat least (Det.bright zs bs thr zs.length) (Det.bright zs bs thr zs.length).length).2:=by unfold Det.eZ; rw [if_pos he0,Det.fF]
        rw [hw,hh] at hf; refine oc hf rfl yI (mV fW.toNat fH.toNat b_m8 least vP (Det.bright zs bs thr zs.length) _ (by omega) (by omega) (by rw [Det.fF]; exact hnn) (hS.tT (j:=0) rfl)) ?_; clear hf a; rintro ⟨vo,vs⟩ w12 hS1 a hf; try dsimp only at hS1 hf; replace hS:=(hS.dA hS1 (i:=0) rfl (fun _ h=>h)).eqM (N:=[sl 26 1 vo vs.length vs,inn vs (Det.bR fW.toNat fH.toNat least (Det.bright zs bs thr zs.length) (Det.bright zs bs thr zs.length).length).2,pt b_f1 (.cells #[iV fW,iV fH,vP] 24 (0,0))]) rfl; refine mv hf rfl fun a hf=>mv hf rfl fun a hf=>?_; refine nk<|W.ret<|eG hf rfl (aO.tmp rfl) (aO.tmp rfl)<|?_; replace hS:=hS.fr 1; replace hS:=hS.fr 1; refine ⟨(vo,vs),by rw [he0],?_⟩; rw [hr0]; exact (hS.sub (.cons_cons _ (.cons_cons _ (.cons _ .slnil)))).noB
set_option maxHeartbeats 1000000 in
set_option maxRecDepth 4000 in
theorem qU (va vb:Value) (vs us:List Value) (xss yss:List (List Int)) (w0:World) (ha:aQ (hp w0) 1 va vs.length vs) (hb:aQ (hp w0) 1 vb us.length us) (hia:bS (hp w0) vs xss) (hib:bS (hp w0) us yss) :
    Ret Tryz.prog 13 #[va,vb] w0 (G:=Unit) (fun _=>.bool (decide (xss=yss))) (fun _ w=>St w0 w noX [] []):=by
  refine aR (lv:=[va,vb]) Tryz.func13 rfl rfl rfl (fun a hf=>?_); replace hf:Fr a 53 [] [(0,va),(1,vb)]:=hf; have hS:St w0 w0 noX [rdv 1 va vs.length vs,rdv 1 vb us.length us,inn vs xss,inn us yss] []:=((((St.refl w0).mg hib).mg hia).bO hb).bO ha; have hl1:=ha.2.1; unfold maxLen at hl1; have hl2:=hia.1; have hl3:=hib.1; refine W.seq ?_
  refine R1 rfl<|mv hf rfl<|fun a hf=>?_; refine nk<|W.seq<|W.seq<|?_
  refine R5 rfl<|mv hf rfl<|fun a hf=>ov hf rfl (aA.bP (e:=26) (by simpa using ah) rfl (hS.aL (j:=0) rfl)) fun a hf=>mv hf rfl fun a hf=>ov hf rfl (aA.bP (e:=26) (by simpa using ah) rfl (hS.aL (j:=1) rfl)) fun a hf=>ov (v:=.bool (decide ((vs.length:Int)≠((us.length:Int):Int)))) hf rfl (aA.neq rfl rfl) fun a hf=>?_; refine nk ?_; refine W.bJ hf rfl (fun hne=>?_) (fun hne=>?_)
  · refine W.seq ?_
    refine R1 rfl<|mv hf rfl<|fun a hf=>?_; refine nk<|W.ret<|aK<|bH hf rfl (aO.tmp rfl)<|?_; refine ⟨(),by rw [show decide (xss=yss)=false from decide_eq_false (fun h=>by subst h; omega)],hS.sub (List.nil_sublist _) |>.noB⟩
  · refine W.skip ?_
    refine aF<|W.seq<|W.seq<|?_
    refine R1 rfl<|mv hf rfl<|fun a hf=>?_; refine nk<|W.block<|?_
    refine W.loop (G:=(Nat)) (fun g a w=>match g with | k=>Fr a 53 [] [(0,va),(1,vb),(5,iV k)]∧St w0 w noX [rdv 1 va vs.length vs,rdv 1 vb us.length us,inn vs xss,inn us yss] []∧(k≤vs.length)∧(∀ j,j<k→(xss.getD j []).length=(yss.getD j []).length∧∀ q,q<(xss.getD j []).length→(xss.getD j []).getD q 0=(yss.getD j []).getD q 0)) (fun g=>match g with | k=>vs.length-k) 0 ?_ ?_
    · refine ⟨hf.to ⟨rfl,rfl,(by first | rfl | exact vI (by omega)),trivial⟩,hS,?_,?_⟩
      · omega
      · exact fun j hj=>by omega
    clear hf hS a; rintro k a w ⟨hf,hS,h1,h2⟩; refine W.seq<|W.seq<|?_
    refine R4 rfl<|mv hf rfl<|fun a hf=>mv hf rfl fun a hf=>ov hf rfl (aA.bP (e:=26) (by simpa using ah) rfl (hS.aL (j:=0) rfl)) fun a hf=>ov (v:=.bool (decide ((k:Int)<((vs.length:Int):Int)))) hf rfl (aA.lss rfl rfl) fun a hf=>?_; refine nk ?_; replace hf:Fr a 53 [] [(0,_),(1,_),(5,_),(15,_)]:=hf.q rfl; refine W.bJ hf rfl (fun hk=>?_) (fun hk=>?_)
    · refine W.skip ?_
      refine aF<|W.seq<|W.block<|W.seq<|W.seq<|?_
      refine W.dY (fun w=>St w0 w noX [rdv 1 va vs.length vs,rdv 1 vb us.length us,inn vs xss,inn us yss] []) aV rfl (by kernel_rfl) rfl hS.drew ?_; clear hS; refine q0 hf rfl rfl fun a hf=>q0 hf rfl rfl fun a hf=>OQ.val (v:=ix va k) hf rfl (fun w hS=>aA.ixV (j:=k) (m:=k) ah ay rfl rfl (hS.aL (j:=0) rfl) rfl (by omega) (Nat.mul_one _)) fun a hf=>OQ.val (v:=(vs.getD k undef)) hf rfl (fun w hS=>aA.ld1 bG rfl (hS.aL (j:=0) rfl) (gP (by omega))) fun a hf=>OQ.val (v:=iV ((xss.getD k []).length:Int)) hf rfl (fun w hS=>aA.bP (e:=3) (by simpa using aB) rfl (bS.get (hS.iI (j:=2) rfl) (i:=k) (by omega))) fun a hf=>q0 hf rfl rfl fun a hf=>q0 hf rfl rfl fun a hf=>OQ.val (v:=ix vb k) hf rfl (fun w hS=>aA.ixV (j:=k) (m:=k) ah ay rfl rfl (hS.aL (j:=1) rfl) rfl (by omega) (Nat.mul_one _)) fun a hf=>OQ.val (v:=(us.getD k undef)) hf rfl (fun w hS=>aA.ld1 bG rfl (hS.aL (j:=1) rfl) (gP (by omega))) fun a hf=>OQ.val (v:=iV ((yss.getD k []).length:Int)) hf rfl (fun w hS=>aA.bP (e:=3) (by simpa using aB) rfl (bS.get (hS.iI (j:=3) rfl) (i:=k) (by omega))) fun a hf=>OQ.val (v:=.bool (decide (((xss.getD k []).length:Int)≠(((yss.getD k []).length:Int):Int)))) hf rfl (fun w hS=>aA.neq rfl rfl) fun a hf=>?_; refine OQ.nil ?_; intro w hS; refine aF ?_; refine W.bJ hf rfl (fun hlen=>?_) (fun hlen=>?_)
      · refine W.seq ?_
        refine R1 rfl<|mv hf rfl<|fun a hf=>?_; refine nk<|W.ret<|aK<|aW<|aK<|aK<|aW<|aK<|bH hf rfl (aO.tmp rfl)<|?_; refine ⟨(),by rw [show decide (xss=yss)=false from decide_eq_false (fun h=>by subst h; omega)],hS.sub (List.nil_sublist _) |>.noB⟩
      · refine W.skip ?_
        refine aF<|W.seq<|?_
        refine R1 rfl<|mv hf rfl<|fun a hf=>?_; refine nk<|W.block<|?_
        refine W.loop (G:=(Nat)) (fun g a w=>match g with | q=>Fr a 53 [] [(0,va),(1,vb),(5,iV k),(6,iV q)]∧St w0 w noX [rdv 1 va vs.length vs,rdv 1 vb us.length us,inn vs xss,inn us yss] []∧(q≤(xss.getD k []).length)∧(∀ j,j<q→(xss.getD k []).getD j 0=(yss.getD k []).getD j 0)) (fun g=>match g with | q=>(xss.getD k []).length-q) 0 ?_ ?_
        · refine ⟨hf.to ⟨rfl,rfl,rfl,(by first | rfl | exact vI (by omega)),trivial⟩,hS,?_,?_⟩
          · omega
          · exact fun j hj=>by omega
        clear hf hS a; rintro q a w ⟨hf,hS,h3,h4⟩; refine W.seq<|W.seq<|?_
        refine R7 rfl ?_; have hl4:=(hS.iI (j:=2) rfl).get (i:=k) (by omega) |>.2.1; unfold maxLen at hl4; refine mv hf rfl fun a hf=>mv hf rfl fun a hf=>mv hf rfl fun a hf=>ov hf rfl (aA.ixV (j:=k) (m:=k) ah ay rfl rfl (hS.aL (j:=0) rfl) rfl (by omega) (Nat.mul_one _)) fun a hf=>ov hf rfl (aA.ld1 bG rfl (hS.aL (j:=0) rfl) (gP (by omega))) fun a hf=>ov hf rfl (aA.bP (e:=3) (by simpa using aB) rfl (bS.get (hS.iI (j:=2) rfl) (i:=k) (by omega))) fun a hf=>ov (v:=.bool (decide ((q:Int)<(((xss.getD k []).length:Int):Int)))) hf rfl (aA.lss rfl rfl) fun a hf=>?_; refine nk ?_; replace hf:Fr a 53 [] [(0,_),(1,_),(5,_),(6,_),(35,_)]:=hf.q rfl; refine W.bJ hf rfl (fun hq=>?_) (fun hq=>?_)
        · refine W.skip ?_
          refine aF<|W.seq<|W.block<|W.seq<|?_
          refine W.dY (fun w=>St w0 w noX [rdv 1 va vs.length vs,rdv 1 vb us.length us,inn vs xss,inn us yss] []) aV rfl (by kernel_rfl) rfl hS.drew ?_; clear hS; refine q0 hf rfl rfl fun a hf=>q0 hf rfl rfl fun a hf=>OQ.val (v:=ix va k) hf rfl (fun w hS=>aA.ixV (j:=k) (m:=k) ah ay rfl rfl (hS.aL (j:=0) rfl) rfl (by omega) (Nat.mul_one _)) fun a hf=>OQ.val (v:=(vs.getD k undef)) hf rfl (fun w hS=>aA.ld1 bG rfl (hS.aL (j:=0) rfl) (gP (by omega))) fun a hf=>q0 hf rfl rfl fun a hf=>OQ.val (v:=ix (vs.getD k undef) q) hf rfl (fun w hS=>aA.ixV (j:=q) (m:=q) aB aD rfl rfl (bS.get (hS.iI (j:=2) rfl) (i:=k) (by omega)) rfl (by omega) (Nat.mul_one _)) fun a hf=>OQ.val (v:=iV ((xss.getD k []).getD q 0)) hf rfl (fun w hS=>aA.ld1 aH rfl (bS.get (hS.iI (j:=2) rfl) (i:=k) (by omega)) (aI (by omega))) fun a hf=>q0 hf rfl rfl fun a hf=>q0 hf rfl rfl fun a hf=>OQ.val (v:=ix vb k) hf rfl (fun w hS=>aA.ixV (j:=k) (m:=k) ah ay rfl rfl (hS.aL (j:=1) rfl) rfl (by omega) (Nat.mul_one _)) fun a hf=>OQ.val (v:=(us.getD k undef)) hf rfl (fun w hS=>aA.ld1 bG rfl (hS.aL (j:=1) rfl) (gP (by omega))) fun a hf=>q0 hf rfl rfl fun a hf=>OQ.val (v:=ix (us.getD k undef) q) hf rfl (fun w hS=>aA.ixV (j:=q) (m:=q) aB aD rfl rfl (bS.get (hS.iI (j:=3) rfl) (i:=k) (by omega)) rfl (by omega) (Nat.mul_one _)) fun a hf=>OQ.val (v:=iV ((yss.getD k []).getD q 0)) hf rfl (fun w hS=>aA.ld1 aH rfl (bS.get (hS.iI (j:=3) rfl) (i:=k) (by omega)) (aI (by omega))) fun a hf=>OQ.val (v:=.bool (decide (((xss.getD k []).getD q 0)≠((yss.getD k []).getD q 0:Int)))) hf rfl (fun w hS=>aA.neq rfl rfl) fun a hf=>?_; refine OQ.nil ?_; intro w hS; refine aF ?_; refine W.bJ hf rfl (fun hx=>?_) (fun hx=>?_)
          · refine W.seq ?_
            refine R1 rfl<|mv hf rfl<|fun a hf=>?_; refine nk<|W.ret<|aW<|aK<|aK<|aW<|aW<|aK<|aK<|aW<|?_; refine aK<|bH hf rfl (aO.tmp rfl)<|?_; refine ⟨(),by rw [show decide (xss=yss)=false from decide_eq_false (fun h=>by subst h; omega)],hS.sub (List.nil_sublist _) |>.noB⟩
          · refine W.skip ?_
            refine aG<|aF<|?_
            refine R3 rfl<|mv hf rfl<|fun a hf=>ov hf rfl (aA.ak rfl rfl (by omega)) fun a hf=>mv hf rfl fun a hf=>?_; refine O.nil ?_; refine aS ⟨(q+1),⟨hf.to ⟨rfl,rfl,rfl,(by first | rfl | exact vI (by omega)),trivial⟩,?_,?_,?_⟩,?_⟩
            · exact hS.eqM rfl
            · omega
            · exact Det.fV h4 (by omega)
            · dsimp only; omega
        · refine W.exit ?_
          refine aC<|aC<|bD<|aG<|aF<|?_
          refine R3 rfl<|mv hf rfl<|fun a hf=>ov hf rfl (aA.ak rfl rfl (by omega)) fun a hf=>mv hf rfl fun a hf=>?_; refine O.nil ?_; refine aS ⟨(k+1),⟨hf.to ⟨rfl,rfl,(by first | rfl | exact vI (by omega)),trivial⟩,?_,?_,?_⟩,?_⟩
          · exact hS.eqM rfl
          · omega
          · exact Det.fV h2 ⟨by omega,fun q hq=>h4 q (by omega)⟩
          · dsimp only; omega
    · refine W.exit ?_
      refine aC<|aC<|bD<|aF<|?_; replace hf:Fr a 53 [] []:=hf.to trivial; refine W.seq ?_
      refine R1 rfl<|mv hf rfl<|fun a hf=>?_; refine nk<|W.ret<|bH hf rfl (aO.tmp rfl)<|?_; refine ⟨(),by rw [show decide (xss=yss)=true from decide_eq_true (Det.wZ (by omega) (fun j hj=>(h2 j (by omega)).1) (fun j hj=>(h2 j (by omega)).2))],hS.sub (List.nil_sublist _) |>.noB⟩
end Go.Proofs.YtipfobacinmoiaaGreat
