/- Part of a proof: laws and walks. -/
import Derived.Test.YtipfobacinmoiaaGreatTac
import Derived.Test.YtipfobacinmoiaaGreatTam
import Derived.Test.YtipfobacinmoiaaGreatTag
import Derived.Test.YtipfobacinmoiaaGreatTal
set_option linter.unusedVariables false
set_option linter.unusedSimpArgs false
set_option maxHeartbeats 1000000
set_option maxRecDepth 8000
namespace Go.Proofs.YtipfobacinmoiaaGreat
open Go Go.SL Go.Shelf Go.RowKit Go.Maps
theorem aBL:aX Tryz.prog 103=true:=by kernel_rfl
theorem tH:aX Tryz.prog 29=true:=by kernel_rfl
theorem aB2:aX Tryz.prog 50=true:=by kernel_rfl
theorem sU:aX Tryz.prog 51=true:=by kernel_rfl
theorem aCk:aX Tryz.prog 52=true:=by kernel_rfl
theorem aCv:aX Tryz.prog 53=true:=by kernel_rfl
theorem aCF:aX Tryz.prog 67=true:=by kernel_rfl
theorem aCQ:aX Tryz.prog 68=true:=by kernel_rfl
theorem aDG:aX Tryz.prog 89=true:=by kernel_rfl
theorem aC4:aX Tryz.prog 93=true:=by kernel_rfl
theorem aCD:aX Tryz.prog 94=true:=by kernel_rfl
theorem iQ:iH Tryz.prog 106=some false:=by kernel_rfl
theorem u7:iH Tryz.prog 28=some false:=by kernel_rfl
theorem qM:iH Tryz.prog 62=some false:=by kernel_rfl
theorem gY:pG Tryz.prog 106=some (3,iV 0):=by kernel_rfl
theorem xO:cO Tryz.prog 106=some 1:=by kernel_rfl
theorem zo:cO Tryz.prog 28=some 1:=by kernel_rfl
theorem wm:dx Tryz.prog 106=some (.map none):=by kernel_rfl
set_option maxHeartbeats 1000000 in
set_option maxRecDepth 4000 in
theorem wU (fW fH:Nat) (vP vL:Value) (zs l:List Int) (w0:World) [Decidable (Det.conn fW fH l)] (hW:1≤fW∧fW≤100) (hH:1≤fH∧fH≤100) (hn:zs.length=fW*fH) (hP:aQ (hp w0) 1 vP zs.length (ints zs)) (hL:aQ (hp w0) 1 vL l.length (ints l)) (hpos:0<l.length) :
    Ret Tryz.prog 26 #[(fG fW fH vP),vL] w0 (G:=Unit) (fun _=>.bool (decide (Det.conn fW fH l))) (fun _ w=>St w0 w noX [] []):=by
  refine aR (lv:=[(fG fW fH vP),vL]) Tryz.func26 rfl rfl rfl (fun a hf=>?_); replace hf:Fr a 57 [] [(0,(fG fW fH vP)),(1,vL)]:=hf; have hS:St w0 w0 noX [rI vP zs,rI vL l] []:=((St.refl w0).bO hL).bO hP; have hN:fW*fH≤10000:=Nat.mul_le_mul hW.2 hH.2; have hlen:=hL.2.1; unfold maxLen at hlen; have hz:=fun (h:0<l.length) (h2:Det.okL (fW*fH) l)=>h2 0 h; refine W.seq ?_
  refine R2 rfl<|O.box (cs:=#[iV fW,iV fH,vP]) hf hS rfl rfl rfl rfl<|?_; intro b_m1 w a hbb_m1 hS hf; refine mv hf rfl fun a hf=>?_; refine nk<|W.seq<|?_
  refine R2 rfl<|O.makeMap hf hS rfl rfl (List.replicate (fW*fH) false) (Det.oQ _)<|?_; intro b_m2 w a hbb_m2 hS hf; refine mv hf rfl fun a hf=>?_; refine nk<|W.seq<|W.seq<|?_
  refine R3 rfl<|mv hf rfl<|fun a hf=>ov hf rfl (aA.bP (e:=3) (by simpa using aB) rfl (hS.aL (j:=1) rfl)) fun a hf=>mv hf rfl fun a hf=>?_; refine nk<|W.block<|?_
  refine W.loop (G:=(Nat) × (List Bool)) (fun g a w=>match g with | (k,ins)=>Fr a 57 [] [(1,vL),(2,(pp b_m1)),(5,.map (some b_m2)),(9,vL),(10,iV (l.length:Int)),(11,iV k)]∧St w0 w noX [rI vP zs,rI vL l] [ms b_m2 ins,pt b_m1 (.cells #[iV fW,iV fH,vP] 61 (0,0))]∧(k≤l.length)∧(∀ j,j<k→(0≤l.getD j 0∧l.getD j 0<((fW*fH:Nat):Int))∧(0<j→l.getD (j-1) 0<l.getD j 0))∧(ins=Det.marks (fW*fH) l k)∧(ins.length=fW*fH)) (fun g=>match g with | (k,ins)=>l.length-k) (0,(List.replicate (fW*fH) false)) ?_ ?_
  · refine ⟨hf.to ⟨rfl,rfl,rfl,rfl,rfl,(by first | rfl | exact vI (by omega)),trivial⟩,hS,?_,?_,?_,?_⟩
    · omega
    · exact fun j hj=>by omega
    · rfl
    · simp
  clear hf hS a; rintro ⟨k,ins⟩ a w ⟨hf,hS,h1,h2,h3,h4⟩; refine W.seq ?_
  refine R1 rfl<|ov (v:=.bool (decide ((k:Int)<((l.length:Int):Int)))) hf rfl (aA.lss rfl rfl)<|fun a hf=>?_; refine nk<|W.seq<|?_; refine W.bJ hf rfl (fun hk=>?_) (fun hk=>?_)
  · refine W.skip ?_
    refine aF<|W.seq<|W.block<|W.seq<|?_
    refine R5 rfl<|mv hf rfl<|fun a hf=>ov hf rfl (aA.ixV (j:=k) (m:=k) aB aD rfl rfl (hS.aL (j:=1) rfl) rfl (by omega) (Nat.mul_one _)) fun a hf=>ov hf rfl (aA.ld1 aH rfl (hS.aL (j:=1) rfl) (aI (by omega))) fun a hf=>mv hf rfl fun a hf=>mv hf rfl fun a hf=>?_; refine nk<|W.seq<|W.seq<|?_
    refine W.aY (l:=[0,1,2,3,4,5,6,7,8,9,10,11,12,13,14,15,16,17,18,19,20,21,22]) rfl<|mv hf rfl<|fun a hf=>?_; refine ov (v:=.bool (decide ((l.getD k 0)<(0:Int)))) hf rfl (aA.lss rfl rfl) fun a hf=>mv hf rfl fun a hf=>?_
    refine O.dV (l₁:=[3,4,5,6,7,8,9]) (l₂:=_) (fun a w=>Fr a 57 [] [(1,vL),(2,(pp b_m1)),(5,.map (some b_m2)),(6,iV k),(7,iV (l.getD k 0)),(9,vL),(10,iV (l.length:Int)),(11,iV k),(25,.bool ((decide ((l.getD k 0)<(0:Int)))||(decide ((l.getD k 0)≥((zs.length:Int):Int)))))]∧St w0 w noX [rI vP zs,rI vL l] [ms b_m2 ins,pt b_m1 (.cells #[iV fW,iV fH,vP] 61 (0,0))]) rfl ?_ ?_
    · rcases Bool.eq_false_or_eq_true (decide ((l.getD k 0)<(0:Int))) with hb4 | hb4
      · have hb4p:=of_decide_eq_true hb4
        refine sk hf rfl hb4 fun a hf=>sk hf rfl hb4 fun a hf=>sk hf rfl hb4 fun a hf=>sk hf rfl hb4 fun a hf=>sk hf rfl hb4 fun a hf=>sk hf rfl hb4 fun a hf=>?_; refine ov (v:=.bool ((decide ((l.getD k 0)<(0:Int)))||(decide ((l.getD k 0)≥((zs.length:Int):Int))))) hf rfl (aA.pick rfl rfl rfl (by rw [hb4]; rfl)) fun a hf=>?_; exact O.nil ⟨rfl,hf.q rfl,hS⟩
      · have hb4p:=of_decide_eq_false hb4
        refine og (v:=iV (l.getD k 0)) hf rfl hb4 (aA.move rfl) fun a hf=>og (v:=(pp b_m1)) hf rfl hb4 (aA.field dI rfl rfl) fun a hf=>og (v:=.pointer (some ⟨b_m1,2,none⟩)) hf rfl hb4 (aA.field aP rfl rfl) fun a hf=>og (v:=vP) hf rfl hb4 (aA.aT bB rfl (hS.p 1 rfl) rfl) fun a hf=>og (v:=iV (zs.length:Int)) hf rfl hb4 (aA.bP (e:=2) (by simpa using aN) rfl (hS.aL (j:=0) rfl)) fun a hf=>og (v:=.bool (decide ((l.getD k 0)≥((zs.length:Int):Int)))) hf rfl hb4 (aA.geq rfl rfl) fun a hf=>?_; refine ov (v:=.bool ((decide ((l.getD k 0)<(0:Int)))||(decide ((l.getD k 0)≥((zs.length:Int):Int))))) hf rfl (aA.pick rfl rfl rfl (by rw [hb4]; rfl)) fun a hf=>?_; exact O.nil ⟨rfl,hf.q rfl,hS⟩
    clear hf hS a; rintro a w ⟨hf,hS⟩; refine mv hf rfl fun a hf=>?_
    refine O.dV (l₁:=[11,12,13,14,15,16,17,18,19,20,21,22]) (l₂:=_) (fun a w=>Fr a 57 [] [(1,vL),(2,(pp b_m1)),(5,.map (some b_m2)),(6,iV k),(7,iV (l.getD k 0)),(9,vL),(10,iV (l.length:Int)),(11,iV k),(38,.bool (((decide ((l.getD k 0)<(0:Int)))||(decide ((l.getD k 0)≥((zs.length:Int):Int))))||((decide ((k:Int)>(0:Int)))&&(decide ((l.getD k 0)≤(l.getD (k-1) 0:Int))))))]∧St w0 w noX [rI vP zs,rI vL l] [ms b_m2 ins,pt b_m1 (.cells #[iV fW,iV fH,vP] 61 (0,0))]) rfl ?_ ?_
    · rcases Bool.eq_false_or_eq_true ((decide ((l.getD k 0)<(0:Int)))||(decide ((l.getD k 0)≥((zs.length:Int):Int)))) with hb5 | hb5
      · have hb5p:=hb5
        try simp only [bsm] at hb5p
        refine sk hf rfl hb5 fun a hf=>sk hf rfl hb5 fun a hf=>sk hf rfl hb5 fun a hf=>O.bC hf rfl rfl rfl rfl fun a hf=>O.bC hf rfl rfl rfl rfl fun a hf=>O.bC hf rfl rfl rfl rfl fun a hf=>O.bC hf rfl rfl rfl rfl fun a hf=>O.bC hf rfl rfl rfl rfl fun a hf=>O.bC hf rfl rfl rfl rfl fun a hf=>O.bC hf rfl rfl rfl rfl fun a hf=>sk hf rfl hb5 fun a hf=>?_; refine ov (v:=.bool (((decide ((l.getD k 0)<(0:Int)))||(decide ((l.getD k 0)≥((zs.length:Int):Int))))||((decide ((k:Int)>(0:Int)))&&(decide ((l.getD k 0)≤(l.getD (k-1) 0:Int)))))) hf rfl (aA.pick rfl rfl rfl (by rw [hb5]; rfl)) fun a hf=>?_; exact O.nil ⟨rfl,hf.q rfl,hS⟩
      · have hb5p:=hb5
        try simp only [bsm] at hb5p
        refine og (v:=iV k) hf rfl hb5 (aA.move rfl) fun a hf=>og (v:=.bool (decide ((k:Int)>(0:Int)))) hf rfl hb5 (aA.gtr rfl rfl) fun a hf=>og (v:=.bool (decide ((k:Int)>(0:Int)))) hf rfl hb5 (aA.move rfl) fun a hf=>?_
        refine O.dV (l₁:=[14,15,16,17,18,19,20,21]) (l₂:=_) (fun a w=>Fr a 57 [] [(1,vL),(2,(pp b_m1)),(5,.map (some b_m2)),(6,iV k),(7,iV (l.getD k 0)),(9,vL),(10,iV (l.length:Int)),(11,iV k),(26,.bool ((decide ((l.getD k 0)<(0:Int)))||(decide ((l.getD k 0)≥((zs.length:Int):Int))))),(37,.bool ((decide ((k:Int)>(0:Int)))&&(decide ((l.getD k 0)≤(l.getD (k-1) 0:Int)))))]∧St w0 w noX [rI vP zs,rI vL l] [ms b_m2 ins,pt b_m1 (.cells #[iV fW,iV fH,vP] 61 (0,0))]) rfl ?_ ?_
        · rcases Bool.eq_false_or_eq_true (decide ((k:Int)>(0:Int))) with hb6 | hb6
          · have hb6p:=of_decide_eq_true hb6
            refine og (v:=iV (l.getD k 0)) hf rfl hb6 (aA.move rfl) fun a hf=>og (v:=vL) hf rfl hb6 (aA.move rfl) fun a hf=>og (v:=iV k) hf rfl hb6 (aA.move rfl) fun a hf=>og (v:=iV ((k:Int)-1)) hf rfl hb6 (aA.cZ rfl rfl (by omega)) fun a hf=>?_; refine og (v:=ix vL (k-1)) hf rfl hb6 (aA.ixV (j:=(k-1)) (m:=(k-1)) aB aD rfl rfl (hS.aL (j:=1) rfl) (by congr 1; omega) (by omega) (Nat.mul_one _)) fun a hf=>?_; refine og (v:=iV (l.getD (k-1) 0)) hf rfl hb6 (aA.ld1 aH rfl (hS.aL (j:=1) rfl) (aI (by omega))) fun a hf=>og (v:=.bool (decide ((l.getD k 0)≤(l.getD (k-1) 0:Int)))) hf rfl hb6 (aA.leq rfl rfl) fun a hf=>?_; refine og (v:=.bool ((decide ((k:Int)>(0:Int)))&&(decide ((l.getD k 0)≤(l.getD (k-1) 0:Int))))) hf rfl hb5 (aA.pick rfl rfl rfl (by rw [hb6]; rfl)) fun a hf=>?_; exact O.nil ⟨rfl,hf.q rfl,hS⟩
          · have hb6p:=of_decide_eq_false hb6
            refine sk hf rfl hb6 fun a hf=>sk hf rfl hb6 fun a hf=>sk hf rfl hb6 fun a hf=>sk hf rfl hb6 fun a hf=>sk hf rfl hb6 fun a hf=>sk hf rfl hb6 fun a hf=>sk hf rfl hb6 fun a hf=>?_; refine og (v:=.bool ((decide ((k:Int)>(0:Int)))&&(decide ((l.getD k 0)≤(l.getD (k-1) 0:Int))))) hf rfl hb5 (aA.pick rfl rfl rfl (by rw [hb6]; rfl)) fun a hf=>?_; exact O.nil ⟨rfl,hf.q rfl,hS⟩
        clear hf hS a; rintro a w ⟨hf,hS⟩; refine ov (v:=.bool (((decide ((l.getD k 0)<(0:Int)))||(decide ((l.getD k 0)≥((zs.length:Int):Int))))||((decide ((k:Int)>(0:Int)))&&(decide ((l.getD k 0)≤(l.getD (k-1) 0:Int)))))) hf rfl (aA.pick rfl rfl rfl (by rw [hb5]; rfl)) fun a hf=>?_; exact O.nil ⟨rfl,hf.q rfl,hS⟩
    clear hf hS a; rintro a w ⟨hf,hS⟩; refine nk ?_; refine W.if_ hf rfl (fun hbad=>?_) (fun hbad=>?_)
    · have hbadb:=hbad
      try simp only [bsm] at hbad
      refine W.seq ?_
      refine R1 rfl<|mv hf rfl<|fun a hf=>?_; refine nk<|W.ret<|aK<|aW<|aK<|aK<|aW<|aK<|bH hf rfl (aO.tmp rfl)<|?_; refine ⟨(),by rw [show decide (Det.conn fW fH l)=false from decide_eq_false (fun h=>by first | exact absurd h.2.1 (by omega) | have:=h.1 k (by omega); simp only [Bool.or_eq_true,Bool.and_eq_true,decide_eq_true_eq] at hbadb; rw [hn] at hbadb; omega)],hS.sub (List.nil_sublist _) |>.noB⟩
    · have hbadb:=hbad
      try simp only [bsm] at hbad
      refine W.skip<|aF<|?_
      refine R3 rfl ?_; rw [show l.getD k 0=(((l.getD k 0).toNat:Nat):Int) from by omega] at hf; refine mv hf rfl fun a hf=>mv hf rfl fun a hf=>?_; refine O.uG (j:=0) hf hS rfl iF rfl rfl rfl rfl (by omega) rfl ?_; intro w hS; refine O.nil<|aG<|aF<|?_
      refine R2 rfl<|ov hf rfl (aA.ak rfl rfl (by omega))<|fun a hf=>mv hf rfl fun a hf=>?_; refine O.nil ?_; refine aS ⟨(k+1,ins.set ((l.getD k 0).toNat) true),⟨hf.to ⟨rfl,rfl,rfl,rfl,rfl,(by first | rfl | exact vI (by omega)),trivial⟩,?_,?_,?_,?_,?_⟩,?_⟩
      · exact hS.eqM rfl
      · omega
      · simp only [Bool.or_eq_false_iff,Bool.and_eq_false_iff,decide_eq_false_iff_not] at hbadb
        rw [hn] at hbadb; exact Det.fV h2 (by omega)
      · rw [h3]; rfl
      · rw [List.length_set]; exact h4
      · dsimp only; omega
  · refine W.exit ?_
    refine aC<|aC<|bD<|aF<|W.seq<|?_; have hke:k=l.length:=by omega
    rw [hke] at h3 h2; have hz0:=hz hpos h2; rw [h3] at hS
    have hf1:Fr a 57 [] []:=hf.to trivial; replace hf:Fr a 57 [] [(1,_),(2,_),(5,_)]:=hf.q rfl
    let MZ277:List Asr:=[ms b_m2 (Det.marks (fW*fH) l l.length),pt b_m1 (.cells #[iV fW,iV fH,vP] 61 (0,0))]
    let BZ277:List Asr:=[rI vP zs,rI vL l]
    refine W.dn (γ:=(Value)) (L0:=[(1,vL),(2,(pp b_m1)),(5,.map (some b_m2))]) (L1:=[]) (default) [9] [] [0,1,2,3,4,5,6,7,8,10,11,12,13,14,15] (fun i_=>match i_ with | 1=>[0] | 2=>[1] | 3=>[2] | 4=>[3] | 5=>[3] | 6=>[3] | 7=>[3,6] | 8=>[3,7] | 9=>[3,4,5,8] | 10=>[3,9] | 11=>[3] | 12=>[3,11] | 13=>[3,10,12] | 14=>[3,13] | 15=>[14] | _=>[]) (fun _=>[]) (fun i_=>match i_ with | 9=>[10,13,14,15] | _=>[]) (fun _=>[]) (fun i_=>match i_ with | 10=>1 | 13=>1 | 14=>1 | 15=>1 | _=>0) (fun i_=>match i_ with | 9=>1 | 10=>1 | 11=>1 | 12=>1 | 13=>1 | 14=>1 | 15=>1 | _=>0) (fun (g:(Value)) j_=>match g,j_ with | vp,0=>vL | vp,1=>iV (l.length:Int) | vp,2=>.bool true | vp,3=>.bool true | vp,4=>(fG fW fH vP) | vp,5=>.map (some b_m2) | vp,6=>vL | vp,7=>ix vL 0 | vp,8=>iV (l.getD 0 0) | vp,9=>vp | vp,10=>iV ((Det.part fW fH (Det.marks (fW*fH) l l.length) (l.getD 0 0).toNat).2.length:Int) | vp,11=>vL | vp,12=>iV (l.length:Int) | vp,13=>.bool (decide (((Det.part fW fH (Det.marks (fW*fH) l l.length) (l.getD 0 0).toNat).2.length:Int)=((l.length:Int):Int))) | vp,14=>.bool (decide (((Det.part fW fH (Det.marks (fW*fH) l l.length) (l.getD 0 0).toNat).2.length:Int)=((l.length:Int):Int))) | vp,15=>.bool (decide (((Det.part fW fH (Det.marks (fW*fH) l l.length) (l.getD 0 0).toNat).2.length:Int)=((l.length:Int):Int))) | _,_=>undef) (fun k_ (_:Nat→Bool) (g:(Value)) w=>match k_,g with | 0,vp=>St w0 w noX BZ277 MZ277 | _,vp=>St w0 w noX BZ277 [sl 3 1 vp ((Det.part fW fH (Det.marks (fW*fH) l l.length) (l.getD 0 0).toNat).2.length) (ints (Det.part fW fH (Det.marks (fW*fH) l l.length) (l.getD 0 0).toNat).2),ms b_m2 ((Det.part fW fH (Det.marks (fW*fH) l l.length) (l.getD 0 0).toNat).1),pt b_m1 (.cells #[iV fW,iV fH,vP] 61 (0,0))]) aV (by kernel_rfl) (by kernel_rfl) (by kernel_rfl) hf hf1 hS.drew ?_ ?_ trivial ?_
    · clear hf hf1 hS
      refine ⟨?_,?_,?_,?_,?_,?_,?_,?_,?_,?_,?_,?_,?_,?_,?_,trivial⟩
      · exact qq fun _=>rfl
      · exact s1 (fun _ vp _ _ hD _ hf=>qv hf rfl (aA.bP (e:=3) (by simpa using aB) rfl (hD.aL (j:=1) rfl)) hD) rfl
      · exact fun _ _ vp _ _ _ _ hD _ hf=>qv hf rfl (aA.toB (aA.gtr rfl rfl) (decide_eq_true (by omega))) hD
      · exact qq fun _=>rfl
      · intro k_ s_ vp w hlo hhi _ hD a hf
        obtain rfl:k_=0:=Nat.le_antisymm hhi hlo; have hS:=hD; clear hD; replace hf:Fr a 57 [] [(45,_),(1,_),(2,_),(5,_)]:=hf.q rfl; refine og (v:=(fG fW fH vP)) hf rfl rfl (aA.bf (cs':=#[iV fW,iV fH,vP]) dh dF rfl (hS.p 1 rfl) (bl rfl) rfl) fun a hf=>?_; exact O.nil ⟨rfl,hf.to trivial,(gt (d:=46) hf rfl rfl),hS⟩
      · intro k_ s_ vp w hlo hhi _ hD a hf
        obtain rfl:k_=0:=Nat.le_antisymm hhi hlo; have hS:=hD; clear hD; replace hf:Fr a 57 [] [(45,_),(1,_),(2,_),(5,_)]:=hf.q rfl; refine og (v:=.map (some b_m2)) hf rfl rfl (aA.move rfl) fun a hf=>?_; exact O.nil ⟨rfl,hf.to trivial,(gt (d:=47) hf rfl rfl),hS⟩
      · intro k_ s_ vp w hlo hhi _ hD a hf
        obtain rfl:k_=0:=Nat.le_antisymm hhi hlo; have hS:=hD; clear hD; replace hf:Fr a 57 [] [(45,_),(1,_),(2,_),(5,_)]:=hf.q rfl; refine og (v:=vL) hf rfl rfl (aA.move rfl) fun a hf=>?_; exact O.nil ⟨rfl,hf.to trivial,(gt (d:=48) hf rfl rfl),hS⟩
      · intro k_ s_ vp w hlo hhi _ hD a hf
        obtain rfl:k_=0:=Nat.le_antisymm hhi hlo; have hS:=hD; clear hD; replace hf:Fr a 57 [] [(45,_),(48,_),(1,_),(2,_),(5,_)]:=hf.q rfl; refine og (v:=ix vL 0) hf rfl rfl (aA.ixV (j:=0) (m:=0) aB aD rfl rfl (hS.aL (j:=1) rfl) rfl (by omega) (Nat.mul_one _)) fun a hf=>?_; exact O.nil ⟨rfl,hf.to trivial,(gt (d:=49) hf rfl rfl),hS⟩
      · intro k_ s_ vp w hlo hhi _ hD a hf
        obtain rfl:k_=0:=Nat.le_antisymm hhi hlo; have hS:=hD; clear hD; replace hf:Fr a 57 [] [(45,_),(49,_),(1,_),(2,_),(5,_)]:=hf.q rfl; refine og (v:=iV (l.getD 0 0)) hf rfl rfl (aA.ld1 aH rfl (hS.aL (j:=1) rfl) (aI (by omega))) fun a hf=>?_; exact O.nil ⟨rfl,hf.to trivial,(gt (d:=50) hf rfl rfl),hS⟩
      · intro k_ s_ vp w hlo hhi _ hD a hf
        obtain rfl:k_=1:=Nat.le_antisymm hhi hlo; have hS:=hD; clear hD; replace hf:Fr a 57 [] [(45,_),(51,_),(1,_),(2,_),(5,_)]:=hf.q rfl; refine og (v:=iV ((Det.part fW fH (Det.marks (fW*fH) l l.length) (l.getD 0 0).toNat).2.length:Int)) hf rfl rfl (aA.bP (e:=3) (by simpa using aB) rfl (hS.slr (j:=0) rfl)) fun a hf=>?_; exact O.nil ⟨rfl,hf.to trivial,(gt (d:=52) hf rfl rfl),hS⟩
      · intro k_ s_ vp w hlo hhi _ hD a hf
        rcases k_ with _ | k_
        · have hS:=hD; clear hD
          replace hf:Fr a 57 [] [(45,_),(1,_),(2,_),(5,_)]:=hf.q rfl; refine og (v:=vL) hf rfl rfl (aA.move rfl) fun a hf=>?_; exact O.nil ⟨rfl,hf.to trivial,(gt (d:=53) hf rfl rfl),hS⟩
        · have hS:=hD; clear hD
          replace hf:Fr a 57 [] [(45,_),(1,_),(2,_),(5,_)]:=hf.q rfl; refine og (v:=vL) hf rfl rfl (aA.move rfl) fun a hf=>?_; exact O.nil ⟨rfl,hf.to trivial,(gt (d:=53) hf rfl rfl),hS⟩
      · intro k_ s_ vp w hlo hhi _ hD a hf
        rcases k_ with _ | k_
        · have hS:=hD; clear hD
          replace hf:Fr a 57 [] [(45,_),(53,_),(1,_),(2,_),(5,_)]:=hf.q rfl; refine og (v:=iV (l.length:Int)) hf rfl rfl (aA.bP (e:=3) (by simpa using aB) rfl (hS.aL (j:=1) rfl)) fun a hf=>?_; exact O.nil ⟨rfl,hf.to trivial,(gt (d:=54) hf rfl rfl),hS⟩
        · have hS:=hD; clear hD
          replace hf:Fr a 57 [] [(45,_),(53,_),(1,_),(2,_),(5,_)]:=hf.q rfl; refine og (v:=iV (l.length:Int)) hf rfl rfl (aA.bP (e:=3) (by simpa using aB) rfl (hS.aL (j:=1) rfl)) fun a hf=>?_; exact O.nil ⟨rfl,hf.to trivial,(gt (d:=54) hf rfl rfl),hS⟩
      · intro k_ s_ vp w hlo hhi _ hD a hf
        obtain rfl:k_=1:=Nat.le_antisymm hhi hlo; have hS:=hD; clear hD; replace hf:Fr a 57 [] [(45,_),(52,_),(54,_),(1,_),(2,_),(5,_)]:=hf.q rfl; refine og (v:=.bool (decide (((Det.part fW fH (Det.marks (fW*fH) l l.length) (l.getD 0 0).toNat).2.length:Int)=((l.length:Int):Int)))) hf rfl rfl (aA.eql rfl rfl) fun a hf=>?_; exact O.nil ⟨rfl,hf.to trivial,(gt (d:=55) hf rfl rfl),hS⟩
      · exact fun _ _ vp _ _ _ _ hD _ hf=>qv hf rfl (aA.pick rfl rfl rfl rfl) hD
      · exact qq fun _=>rfl
    · clear hf hf1 hS
      refine ⟨?_,trivial⟩
      · intro s_ vp w _ hD a hf
        have hS:=hD; clear hD; replace hf:Fr a 57 [] [(45,_),(46,_),(47,_),(50,_),(1,_),(2,_),(5,_)]:=hf.q rfl; rw [show l.getD 0 0=(((l.getD 0 0).toNat:Nat):Int) from by omega] at hf; refine O.gM hf rfl rfl rfl rfl rfl rfl (dS.call (av:=#[(fG fW fH vP),.map (some b_m2),iV ((l.getD 0 0).toNat:Int)]) yS rfl rfl rfl) (ni fW fH (l.getD 0 0).toNat b_m2 vP (Det.marks (fW*fH) l l.length) _ hW hH (Det.gK _ _ _) (by omega) (hS.tT (j:=0) rfl)) ?_; clear hf a; rintro vp w9 hS1 a hf; replace hS:=(hS.dA hS1 (i:=0) rfl (fun _ h=>h)).eqM (N:=[sl 3 1 vp ((Det.part fW fH (Det.marks (fW*fH) l l.length) (l.getD 0 0).toNat).2.length) (ints (Det.part fW fH (Det.marks (fW*fH) l l.length) (l.getD 0 0).toNat).2),ms b_m2 ((Det.part fW fH (Det.marks (fW*fH) l l.length) (l.getD 0 0).toNat).1),pt b_m1 (.cells #[iV fW,iV fH,vP] 61 (0,0))]) rfl; exact O.nil ⟨rfl,(vp),hf.to trivial,(gt (d:=51) hf rfl rfl),(fun j_ hj_ ha_=>match j_,hj_,ha_ with | 0,hj_,ha_=>rfl | 1,hj_,ha_=>rfl | 2,hj_,ha_=>rfl | 3,hj_,ha_=>rfl | 4,hj_,ha_=>rfl | 5,hj_,ha_=>rfl | 6,hj_,ha_=>rfl | 7,hj_,ha_=>rfl | 8,hj_,ha_=>rfl | 9,hj_,ha_=>absurd rfl hj_ | 10,hj_,ha_=>absurd ha_ (by decide) | 11,hj_,ha_=>rfl | 12,hj_,ha_=>rfl | 13,hj_,ha_=>absurd ha_ (by decide) | 14,hj_,ha_=>absurd ha_ (by decide) | 15,hj_,ha_=>absurd ha_ (by decide) | _+16,_,_=>rfl),hS⟩
    clear hf hf1 hS; intro s_ vp a w _ hf hD; have hS:=hD; clear hD; replace hf:Fr a 57 [] [(42,_),(43,_),(44,_),(45,_),(46,_),(47,_),(48,_),(49,_),(50,_),(51,_),(52,_),(53,_),(54,_),(55,_),(56,_),(4,_),(1,_),(2,_),(5,_)]:=hf.q rfl; refine aF<|W.ret<|bH hf rfl (aO.tmp rfl)<|?_; refine ⟨(),?_,hS.sub (List.nil_sublist _) |>.noB⟩
    apply congrArg Ending.returned; apply congrArg Value.bool; apply decide_eq_decide.2; constructor
    · intro h; exact ⟨h2,hpos,by omega⟩
    · intro h; have:=h.2.2; omega
set_option maxHeartbeats 1000000 in
set_option maxRecDepth 4000 in
theorem xH (fW fH:Nat) (vP vL:Value) (zs l:List Int) (w0:World) [Decidable (Det.conn fW fH l)] (hW:1≤fW∧fW≤100) (hH:1≤fH∧fH≤100) (hn:zs.length=fW*fH) (hP:aQ (hp w0) 1 vP zs.length (ints zs)) (hL:aQ (hp w0) 1 vL l.length (ints l)) (hpos:l.length=0) :
    Ret Tryz.prog 26 #[(fG fW fH vP),vL] w0 (G:=Unit) (fun _=>.bool (decide (Det.conn fW fH l))) (fun _ w=>St w0 w noX [] []):=by
  refine aR (lv:=[(fG fW fH vP),vL]) Tryz.func26 rfl rfl rfl (fun a hf=>?_); replace hf:Fr a 57 [] [(0,(fG fW fH vP)),(1,vL)]:=hf; have hS:St w0 w0 noX [rI vP zs,rI vL l] []:=((St.refl w0).bO hL).bO hP; have hN:fW*fH≤10000:=Nat.mul_le_mul hW.2 hH.2; have hlen:=hL.2.1; unfold maxLen at hlen; have hz:=fun (h:0<l.length) (h2:Det.okL (fW*fH) l)=>h2 0 h; refine W.seq ?_
  refine R2 rfl<|O.box (cs:=#[iV fW,iV fH,vP]) hf hS rfl rfl rfl rfl<|?_; intro b_m1 w a hbb_m1 hS hf; refine mv hf rfl fun a hf=>?_; refine nk<|W.seq<|?_
  refine R2 rfl<|O.makeMap hf hS rfl rfl (List.replicate (fW*fH) false) (Det.oQ _)<|?_; intro b_m2 w a hbb_m2 hS hf; refine mv hf rfl fun a hf=>?_; refine nk<|W.seq<|W.seq<|?_
  refine R3 rfl<|mv hf rfl<|fun a hf=>ov hf rfl (aA.bP (e:=3) (by simpa using aB) rfl (hS.aL (j:=1) rfl)) fun a hf=>mv hf rfl fun a hf=>?_; refine nk<|W.block<|?_
  refine W.loop (G:=(Nat) × (List Bool)) (fun g a w=>match g with | (k,ins)=>Fr a 57 [] [(1,vL),(2,(pp b_m1)),(5,.map (some b_m2)),(9,vL),(10,iV (l.length:Int)),(11,iV k)]∧St w0 w noX [rI vP zs,rI vL l] [ms b_m2 ins,pt b_m1 (.cells #[iV fW,iV fH,vP] 61 (0,0))]∧(k≤l.length)∧(∀ j,j<k→(0≤l.getD j 0∧l.getD j 0<((fW*fH:Nat):Int))∧(0<j→l.getD (j-1) 0<l.getD j 0))∧(ins=Det.marks (fW*fH) l k)∧(ins.length=fW*fH)) (fun g=>match g with | (k,ins)=>l.length-k) (0,(List.replicate (fW*fH) false)) ?_ ?_
  · refine ⟨hf.to ⟨rfl,rfl,rfl,rfl,rfl,(by first | rfl | exact vI (by omega)),trivial⟩,hS,?_,?_,?_,?_⟩
    · omega
    · exact fun j hj=>by omega
    · rfl
    · simp
  clear hf hS a; rintro ⟨k,ins⟩ a w ⟨hf,hS,h1,h2,h3,h4⟩; refine W.seq ?_
  refine R1 rfl<|ov (v:=.bool (decide ((k:Int)<((l.length:Int):Int)))) hf rfl (aA.lss rfl rfl)<|fun a hf=>?_; refine nk<|W.seq<|?_; refine W.bJ hf rfl (fun hk=>?_) (fun hk=>?_)
  · refine W.skip ?_
    refine aF<|W.seq<|W.block<|W.seq<|?_
    refine R5 rfl<|mv hf rfl<|fun a hf=>ov hf rfl (aA.ixV (j:=k) (m:=k) aB aD rfl rfl (hS.aL (j:=1) rfl) rfl (by omega) (Nat.mul_one _)) fun a hf=>ov hf rfl (aA.ld1 aH rfl (hS.aL (j:=1) rfl) (aI (by omega))) fun a hf=>mv hf rfl fun a hf=>mv hf rfl fun a hf=>?_; refine nk<|W.seq<|W.seq<|?_
    refine W.aY (l:=[0,1,2,3,4,5,6,7,8,9,10,11,12,13,14,15,16,17,18,19,20,21,22]) rfl<|mv hf rfl<|fun a hf=>?_; refine ov (v:=.bool (decide ((l.getD k 0)<(0:Int)))) hf rfl (aA.lss rfl rfl) fun a hf=>mv hf rfl fun a hf=>?_
    refine O.dV (l₁:=[3,4,5,6,7,8,9]) (l₂:=_) (fun a w=>Fr a 57 [] [(1,vL),(2,(pp b_m1)),(5,.map (some b_m2)),(6,iV k),(7,iV (l.getD k 0)),(9,vL),(10,iV (l.length:Int)),(11,iV k),(25,.bool ((decide ((l.getD k 0)<(0:Int)))||(decide ((l.getD k 0)≥((zs.length:Int):Int)))))]∧St w0 w noX [rI vP zs,rI vL l] [ms b_m2 ins,pt b_m1 (.cells #[iV fW,iV fH,vP] 61 (0,0))]) rfl ?_ ?_
    · rcases Bool.eq_false_or_eq_true (decide ((l.getD k 0)<(0:Int))) with hb4 | hb4
      · have hb4p:=of_decide_eq_true hb4
        refine sk hf rfl hb4 fun a hf=>sk hf rfl hb4 fun a hf=>sk hf rfl hb4 fun a hf=>sk hf rfl hb4 fun a hf=>sk hf rfl hb4 fun a hf=>sk hf rfl hb4 fun a hf=>?_; refine ov (v:=.bool ((decide ((l.getD k 0)<(0:Int)))||(decide ((l.getD k 0)≥((zs.length:Int):Int))))) hf rfl (aA.pick rfl rfl rfl (by rw [hb4]; rfl)) fun a hf=>?_; exact O.nil ⟨rfl,hf.q rfl,hS⟩
      · have hb4p:=of_decide_eq_false hb4
        refine og (v:=iV (l.getD k 0)) hf rfl hb4 (aA.move rfl) fun a hf=>og (v:=(pp b_m1)) hf rfl hb4 (aA.field dI rfl rfl) fun a hf=>og (v:=.pointer (some ⟨b_m1,2,none⟩)) hf rfl hb4 (aA.field aP rfl rfl) fun a hf=>og (v:=vP) hf rfl hb4 (aA.aT bB rfl (hS.p 1 rfl) rfl) fun a hf=>og (v:=iV (zs.length:Int)) hf rfl hb4 (aA.bP (e:=2) (by simpa using aN) rfl (hS.aL (j:=0) rfl)) fun a hf=>og (v:=.bool (decide ((l.getD k 0)≥((zs.length:Int):Int)))) hf rfl hb4 (aA.geq rfl rfl) fun a hf=>?_; refine ov (v:=.bool ((decide ((l.getD k 0)<(0:Int)))||(decide ((l.getD k 0)≥((zs.length:Int):Int))))) hf rfl (aA.pick rfl rfl rfl (by rw [hb4]; rfl)) fun a hf=>?_; exact O.nil ⟨rfl,hf.q rfl,hS⟩
    clear hf hS a; rintro a w ⟨hf,hS⟩; refine mv hf rfl fun a hf=>?_
    refine O.dV (l₁:=[11,12,13,14,15,16,17,18,19,20,21,22]) (l₂:=_) (fun a w=>Fr a 57 [] [(1,vL),(2,(pp b_m1)),(5,.map (some b_m2)),(6,iV k),(7,iV (l.getD k 0)),(9,vL),(10,iV (l.length:Int)),(11,iV k),(38,.bool (((decide ((l.getD k 0)<(0:Int)))||(decide ((l.getD k 0)≥((zs.length:Int):Int))))||((decide ((k:Int)>(0:Int)))&&(decide ((l.getD k 0)≤(l.getD (k-1) 0:Int))))))]∧St w0 w noX [rI vP zs,rI vL l] [ms b_m2 ins,pt b_m1 (.cells #[iV fW,iV fH,vP] 61 (0,0))]) rfl ?_ ?_
    · rcases Bool.eq_false_or_eq_true ((decide ((l.getD k 0)<(0:Int)))||(decide ((l.getD k 0)≥((zs.length:Int):Int)))) with hb5 | hb5
      · have hb5p:=hb5
        try simp only [bsm] at hb5p
        refine sk hf rfl hb5 fun a hf=>sk hf rfl hb5 fun a hf=>sk hf rfl hb5 fun a hf=>O.bC hf rfl rfl rfl rfl fun a hf=>O.bC hf rfl rfl rfl rfl fun a hf=>O.bC hf rfl rfl rfl rfl fun a hf=>O.bC hf rfl rfl rfl rfl fun a hf=>O.bC hf rfl rfl rfl rfl fun a hf=>O.bC hf rfl rfl rfl rfl fun a hf=>O.bC hf rfl rfl rfl rfl fun a hf=>sk hf rfl hb5 fun a hf=>?_; refine ov (v:=.bool (((decide ((l.getD k 0)<(0:Int)))||(decide ((l.getD k 0)≥((zs.length:Int):Int))))||((decide ((k:Int)>(0:Int)))&&(decide ((l.getD k 0)≤(l.getD (k-1) 0:Int)))))) hf rfl (aA.pick rfl rfl rfl (by rw [hb5]; rfl)) fun a hf=>?_; exact O.nil ⟨rfl,hf.q rfl,hS⟩
      · have hb5p:=hb5
        try simp only [bsm] at hb5p
        refine og (v:=iV k) hf rfl hb5 (aA.move rfl) fun a hf=>og (v:=.bool (decide ((k:Int)>(0:Int)))) hf rfl hb5 (aA.gtr rfl rfl) fun a hf=>og (v:=.bool (decide ((k:Int)>(0:Int)))) hf rfl hb5 (aA.move rfl) fun a hf=>?_
        refine O.dV (l₁:=[14,15,16,17,18,19,20,21]) (l₂:=_) (fun a w=>Fr a 57 [] [(1,vL),(2,(pp b_m1)),(5,.map (some b_m2)),(6,iV k),(7,iV (l.getD k 0)),(9,vL),(10,iV (l.length:Int)),(11,iV k),(26,.bool ((decide ((l.getD k 0)<(0:Int)))||(decide ((l.getD k 0)≥((zs.length:Int):Int))))),(37,.bool ((decide ((k:Int)>(0:Int)))&&(decide ((l.getD k 0)≤(l.getD (k-1) 0:Int)))))]∧St w0 w noX [rI vP zs,rI vL l] [ms b_m2 ins,pt b_m1 (.cells #[iV fW,iV fH,vP] 61 (0,0))]) rfl ?_ ?_
        · rcases Bool.eq_false_or_eq_true (decide ((k:Int)>(0:Int))) with hb6 | hb6
          · have hb6p:=of_decide_eq_true hb6
            refine og (v:=iV (l.getD k 0)) hf rfl hb6 (aA.move rfl) fun a hf=>og (v:=vL) hf rfl hb6 (aA.move rfl) fun a hf=>og (v:=iV k) hf rfl hb6 (aA.move rfl) fun a hf=>og (v:=iV ((k:Int)-1)) hf rfl hb6 (aA.cZ rfl rfl (by omega)) fun a hf=>?_; refine og (v:=ix vL (k-1)) hf rfl hb6 (aA.ixV (j:=(k-1)) (m:=(k-1)) aB aD rfl rfl (hS.aL (j:=1) rfl) (by congr 1; omega) (by omega) (Nat.mul_one _)) fun a hf=>?_; refine og (v:=iV (l.getD (k-1) 0)) hf rfl hb6 (aA.ld1 aH rfl (hS.aL (j:=1) rfl) (aI (by omega))) fun a hf=>og (v:=.bool (decide ((l.getD k 0)≤(l.getD (k-1) 0:Int)))) hf rfl hb6 (aA.leq rfl rfl) fun a hf=>?_; refine og (v:=.bool ((decide ((k:Int)>(0:Int)))&&(decide ((l.getD k 0)≤(l.getD (k-1) 0:Int))))) hf rfl hb5 (aA.pick rfl rfl rfl (by rw [hb6]; rfl)) fun a hf=>?_; exact O.nil ⟨rfl,hf.q rfl,hS⟩
          · have hb6p:=of_decide_eq_false hb6
            refine sk hf rfl hb6 fun a hf=>sk hf rfl hb6 fun a hf=>sk hf rfl hb6 fun a hf=>sk hf rfl hb6 fun a hf=>sk hf rfl hb6 fun a hf=>sk hf rfl hb6 fun a hf=>sk hf rfl hb6 fun a hf=>?_; refine og (v:=.bool ((decide ((k:Int)>(0:Int)))&&(decide ((l.getD k 0)≤(l.getD (k-1) 0:Int))))) hf rfl hb5 (aA.pick rfl rfl rfl (by rw [hb6]; rfl)) fun a hf=>?_; exact O.nil ⟨rfl,hf.q rfl,hS⟩
        clear hf hS a; rintro a w ⟨hf,hS⟩; refine ov (v:=.bool (((decide ((l.getD k 0)<(0:Int)))||(decide ((l.getD k 0)≥((zs.length:Int):Int))))||((decide ((k:Int)>(0:Int)))&&(decide ((l.getD k 0)≤(l.getD (k-1) 0:Int)))))) hf rfl (aA.pick rfl rfl rfl (by rw [hb5]; rfl)) fun a hf=>?_; exact O.nil ⟨rfl,hf.q rfl,hS⟩
    clear hf hS a; rintro a w ⟨hf,hS⟩; refine nk ?_; refine W.if_ hf rfl (fun hbad=>?_) (fun hbad=>?_)
    · have hbadb:=hbad
      try simp only [bsm] at hbad
      refine W.seq ?_
      refine R1 rfl<|mv hf rfl<|fun a hf=>?_; refine nk<|W.ret<|aK<|aW<|aK<|aK<|aW<|aK<|bH hf rfl (aO.tmp rfl)<|?_; refine ⟨(),by rw [show decide (Det.conn fW fH l)=false from decide_eq_false (fun h=>by first | exact absurd h.2.1 (by omega) | have:=h.1 k (by omega); simp only [Bool.or_eq_true,Bool.and_eq_true,decide_eq_true_eq] at hbadb; rw [hn] at hbadb; omega)],hS.sub (List.nil_sublist _) |>.noB⟩
    · have hbadb:=hbad
      try simp only [bsm] at hbad
      refine W.skip<|aF<|?_
      refine R3 rfl ?_; rw [show l.getD k 0=(((l.getD k 0).toNat:Nat):Int) from by omega] at hf; refine mv hf rfl fun a hf=>mv hf rfl fun a hf=>?_; refine O.uG (j:=0) hf hS rfl iF rfl rfl rfl rfl (by omega) rfl ?_; intro w hS; refine O.nil<|aG<|aF<|?_
      refine R2 rfl<|ov hf rfl (aA.ak rfl rfl (by omega))<|fun a hf=>mv hf rfl fun a hf=>?_; refine O.nil ?_; refine aS ⟨(k+1,ins.set ((l.getD k 0).toNat) true),⟨hf.to ⟨rfl,rfl,rfl,rfl,rfl,(by first | rfl | exact vI (by omega)),trivial⟩,?_,?_,?_,?_,?_⟩,?_⟩
      · exact hS.eqM rfl
      · omega
      · simp only [Bool.or_eq_false_iff,Bool.and_eq_false_iff,decide_eq_false_iff_not] at hbadb
        rw [hn] at hbadb; exact Det.fV h2 (by omega)
      · rw [h3]; rfl
      · rw [List.length_set]; exact h4
      · dsimp only; omega
  · refine W.exit ?_
    refine aC<|aC<|bD<|aF<|?_; replace hf:Fr a 57 [] [(1,_),(2,_),(5,_)]:=hf.q rfl; refine W.seq ?_; have hke:k=l.length:=by omega
    rw [hke] at h3 h2
    refine W.dY (fun w=>St w0 w noX [rI vP zs,rI vL l] [ms b_m2 ins,pt b_m1 (.cells #[iV fW,iV fH,vP] 61 (0,0))]) aV rfl (by kernel_rfl) rfl hS.drew ?_; clear hS; refine q0 hf rfl rfl fun a hf=>OQ.val (v:=iV (l.length:Int)) hf rfl (fun w hS=>aA.bP (e:=3) (by simpa using aB) rfl (hS.aL (j:=1) rfl)) fun a hf=>OQ.val (v:=.bool false) hf rfl (fun w hS=>aA.toB (aA.gtr rfl rfl) (decide_eq_false (by omega))) fun a hf=>q0 hf rfl rfl fun a hf=>OQ.aJ hf rfl rfl rfl rfl fun a hf=>OQ.aJ hf rfl rfl rfl rfl fun a hf=>OQ.aJ hf rfl rfl rfl rfl fun a hf=>OQ.aJ hf rfl rfl rfl rfl fun a hf=>OQ.aJ hf rfl rfl rfl rfl fun a hf=>OQ.aJ hf rfl rfl rfl rfl fun a hf=>OQ.aJ hf rfl rfl rfl rfl fun a hf=>OQ.aJ hf rfl rfl rfl rfl fun a hf=>OQ.aJ hf rfl rfl rfl rfl fun a hf=>OQ.aJ hf rfl rfl rfl rfl fun a hf=>OQ.val (v:=.bool false) hf rfl (fun w hS=>aA.pick rfl rfl rfl rfl) fun a hf=>OQ.val (v:=.bool false) hf rfl (fun w hS=>aA.assign rfl) fun a hf=>?_; refine OQ.nil ?_; intro w hS; refine aF<|W.ret<|bH hf rfl (aO.tmp rfl)<|?_; refine ⟨(),by rw [show decide (Det.conn fW fH l)=false from decide_eq_false (fun h=>by first | exact absurd h.2.1 (by omega) | have:=h.1 k (by omega); simp only [Bool.or_eq_true,Bool.and_eq_true,decide_eq_true_eq] at hbadb; rw [hn] at hbadb; omega)],hS.sub (List.nil_sublist _) |>.noB⟩
theorem uX (fW fH:Nat) (vP vL:Value) (zs l:List Int) (w0:World) [Decidable (Det.conn fW fH l)] (hW:1≤fW∧fW≤100) (hH:1≤fH∧fH≤100) (hn:zs.length=fW*fH) (hP:aQ (hp w0) 1 vP zs.length (ints zs)) (hL:aQ (hp w0) 1 vL l.length (ints l)) :
    Ret Tryz.prog 26 #[(fG fW fH vP),vL] w0 (G:=Unit) (fun _=>.bool (decide (Det.conn fW fH l))) (fun _ w=>St w0 w noX [] []):=by
  rcases Nat.eq_zero_or_pos l.length with h | h
  · exact xH fW fH vP vL zs l w0 hW hH hn hP hL h
  · exact wU fW fH vP vL zs l w0 hW hH hn hP hL h
set_option maxHeartbeats 1000000 in
set_option maxRecDepth 4000 in
theorem aAR (b1 l0:Nat) (vL:Value) (l:List Int) (w0:World) (Bs:List (Nat × Obj)) (hrd:∀ w:World,(∀ p ∈ Bs,w.heap[p.1]? = some p.2)→w.heap[b1]? = some (.cells #[vL] 26 (0,0))∧aQ (hp w) 1 vL l.length (ints l)) (R:Nat→World→Prop) (hBs:∀ k w,R k w→∀ p ∈ Bs,w.heap[p.1]? = some p.2) (hround:∀ k x,(ints l)[k]? = some x→∀ w,R k w→YieldAt (FW none) 0 Tryz.prog l0 #[x] w (fun e w'=>e=.returned (.bool true)∧R (k+1) w')) (hR:R 0 w0) :
    Ret Tryz.prog 94 #[(.func (.yield l0) #[] #[]),(pp b1)] w0 (G:=Unit) (fun _=>.tuple #[]) (fun _ w=>R (ints l).length w):=by
  refine aR (lv:=[(.func (.yield l0) #[] #[]),(pp b1)]) Tryz.func94 rfl rfl rfl (fun a hf=>?_); replace hf:Fr a 16 [] [(0,(.func (.yield l0) #[] #[])),(1,(pp b1))]:=hf; have hS:St w0 w0 noX [pt b1 (.cells #[vL] 26 (0,0)),rI vL l] []:=St.aBs (hrd _ (hBs _ _ hR)).1 (hrd _ (hBs _ _ hR)).2; have hlm:=(hrd _ (hBs _ _ hR)).2.2.1; unfold maxLen at hlm; refine W.seq ?_
  refine R3 rfl<|ov hf rfl (aA.aT bG rfl (hS.fM (i:=0) rfl) rfl)<|fun a hf=>ov hf rfl (aA.bP (e:=3) (by simpa using aB) rfl (hS.aL (j:=1) rfl)) fun a hf=>mv hf rfl fun a hf=>?_; refine nk ?_; replace hf:Fr a 16 [] [(0,_),(5,_),(6,_),(7,_)]:=hf.q rfl; refine W.block ?_
  refine W.loop (G:=(Nat)) (fun g a w=>match g with | j=>Fr a 16 [] [(0,(.func (.yield l0) #[] #[])),(5,vL),(6,iV (l.length:Int)),(7,iV j)]∧St w w noX [pt b1 (.cells #[vL] 26 (0,0)),rI vL l] []∧(j≤l.length)∧(R j w)) (fun g=>match g with | j=>l.length-j) 0 ?_ ?_
  · refine ⟨hf.to ⟨rfl,rfl,rfl,(by first | rfl | exact vI (by omega)),trivial⟩,hS,?_,?_⟩
    · omega
    · exact hR
  clear hf hS a; rintro j a w ⟨hf,hS,h1,hR⟩; refine W.seq ?_
  refine R1 rfl<|ov (v:=.bool (decide ((j:Int)<((l.length:Int):Int)))) hf rfl (aA.lss rfl rfl)<|fun a hf=>?_; refine nk<|W.seq<|?_; refine W.bJ hf rfl (fun hj=>?_) (fun hj=>?_)
  · refine W.skip ?_
    refine aF<|W.seq<|W.block<|W.seq<|?_
    refine R3 rfl<|ov hf rfl (aA.ixV (j:=j) (m:=j) aB aD rfl rfl (hS.aL (j:=1) rfl) rfl (by omega) (Nat.mul_one _))<|fun a hf=>ov hf rfl (aA.ld1 aH rfl (hS.aL (j:=1) rfl) (aI (by omega))) fun a hf=>mv hf rfl fun a hf=>?_; refine nk<|W.seq<|?_
    refine R4 rfl<|mv hf rfl<|fun a hf=>mv hf rfl fun a hf=>?_; refine O.yield (R:=R (j+1)) hf rfl rfl rfl rfl (hround _ _ (aI (by omega)) w hR) ?_; clear hf hS hR a; intro w a hR hf; have hS:St w w noX [pt b1 (.cells #[vL] 26 (0,0)),rI vL l] []:=St.aBs (hrd _ (hBs _ _ hR)).1 (hrd _ (hBs _ _ hR)).2; refine ov (v:=.bool false) hf rfl (aA.not (b:=true) rfl) fun a hf=>?_; refine nk<|W.jI hf rfl<|W.skip<|aG<|aF<|?_
    refine R2 rfl<|ov hf rfl (aA.ak rfl rfl (by omega))<|fun a hf=>mv hf rfl fun a hf=>?_; refine O.nil ?_; refine aS ⟨(j+1),⟨hf.to ⟨rfl,rfl,rfl,(by first | rfl | exact vI (by omega)),trivial⟩,?_,?_,?_⟩,?_⟩
    · exact hS.eqM rfl
    · omega
    · exact hR
    · dsimp only; omega
  · refine W.exit ?_
    refine aC<|aC<|bD<|eP<|iY hf rfl <|?_; obtain rfl:j=l.length:=by omega
    refine ⟨(),rfl,?_⟩; rw [ai]; exact hR
theorem aBT (b1:Nat) (vL:Value) (l:List Int) (Bs:List (Nat × Obj)) (hrd:∀ w:World,(∀ p ∈ Bs,w.heap[p.1]? = some p.2)→w.heap[b1]? = some (.cells #[vL] 26 (0,0))∧aQ (hp w) 1 vL l.length (ints l)):qa Tryz.prog 94 #[(pp b1)] (ints l) Bs:=by
  intro l0 R hdr hBs hround w hR; exact Calls.mono (aAR b1 l0 vL l w Bs hrd R hBs hround hR) (fun e w' ⟨_,he,h⟩=>⟨⟨_,he⟩,h⟩)
set_option maxHeartbeats 1000000 in
set_option maxRecDepth 4000 in
theorem wJ (vL:Value) (l:List Int) (w0:World) (hL:aQ (hp w0) 1 vL l.length (ints l)) :
    Ret Tryz.prog 68 #[vL] w0 (G:=Nat) (fun b=>.func (.func 94) #[] #[(pp b)]) (fun b w=>St w0 w noX [] [pt b (.cells #[vL] 26 (0,0))]):=by
  refine aR (lv:=[vL]) Tryz.func68 rfl rfl rfl (fun a hf=>?_); replace hf:Fr a 4 [] [(0,vL)]:=hf; have hS:St w0 w0 noX [rI vL l] []:=(St.refl w0).bO hL; refine W.seq ?_
  refine R2 rfl ?_; have hcl2:=aQ.cells (hS.aL (j:=0) rfl); refine O.box (cs:=#[vL]) hf hS rfl rfl rfl hcl2.1 ?_; intro b_s1 w a hbb_s1 hS hf; refine mv hf rfl fun a hf=>?_; refine nk<|W.seq<|?_
  refine R2 rfl<|ov (v:=.func (.func 94) #[] #[(pp b_s1)]) hf rfl (aA.makeFunc rfl rfl rfl rfl)<|fun a hf=>mv hf rfl fun a hf=>?_; refine nk<|W.ret<|bH hf rfl (aO.tmp rfl)<|?_; exact ⟨b_s1,rfl,hS.noB⟩
set_option maxHeartbeats 1000000 in
set_option maxRecDepth 4000 in
theorem aDs (b1:Nat) (vL:Value) (l:List Int) (w0:World) (Bs:List (Nat × Obj)) (hbs:∀ p ∈ Bs,w0.heap[p.1]? = some p.2) (hit:qa Tryz.prog 94 #[(pp b1)] (ints l) Bs) (hll:l.length≤10000) :
    Ret Tryz.prog 103 #[.slice none 0 0,.func (.func 94) #[] #[(pp b1)]] w0 (G:=Value) (fun v=>v) (fun v w=>St w0 w noX [] [sl 3 1 v l.length (ints l)]):=by
  refine iU (lv:=[.slice none 0 0,.func (.func 94) #[] #[(pp b1)]]) Tryz.func103 rfl rfl rfl (fun a hf=>?_); replace hf:Fr a 13 [] [(0,.slice none 0 0),(1,.func (.func 94) #[] #[(pp b1)])]:=hf; have hS:St w0 w0 noX [qV Bs] []:=(St.refl w0).oJ hbs; refine W.seq ?_
  refine R2 rfl<|O.box (cs:=#[.slice none 0 0]) hf hS rfl rfl rfl rfl<|?_; intro b_s1 w a hbb_s1 hS hf; refine mv hf rfl fun a hf=>?_; refine nk<|W.seq<|W.seq<|?_
  refine R1 rfl<|mv hf rfl<|fun a hf=>?_; refine nk<|W.block<|?_; replace hS:St w0 _ noX [qV Bs] [sl 3 1 (.slice none 0 0) (([]:List Int).length) (ints ([]:List Int)),pt b_s1 (.cells #[(.slice none 0 0)] 26 (0,0))]:=hS.jN 3 1; replace hS:=hS.mk0; replace hf:Fr a 13 (dz []) [(2,_),(4,_),(6,_)]:=hf.q rfl
  refine W.tF (G:=(Value) × (List Int)) (fun x=>(5,x)::[(2,(pp b_s1))]) (fun g=>match g with | (vu,td)=>[mkA ([]),sl 3 1 vu td.length (ints td),pt b_s1 (.cells #[vu] 26 (0,0))]) (fun j g=>match g with | (vu,td)=>(td=l.take j)) ((.slice none 0 0),[]) Bs hf rfl rfl aCD hS ?_ (hit) ?_ ?_ ?_ ?_
  · skip
    rfl
  · rintro ⟨vu,td⟩ w hS
    exact hS.aC2 (j:=0) rfl
  · intro l x w a hf
    refine R1 rfl<|ov (v:=x) hf rfl (aA.assign rfl) fun a hf=>?_; refine O.nil ⟨rfl,hf.q rfl,rfl⟩
  · rintro lr o_ D j x ⟨vu,td⟩ w hx h5 hS a hf
    replace hf:Fr a 13 [] ((5,x)::[(2,(pp b_s1))]):=hf.q rfl; obtain ⟨hj,rfl⟩:=ints_at hx; have hjl:td.length=j:=by rw [h5,List.length_take]; omega
    refine W.block ?_
    refine R5 rfl<|ov hf rfl (aA.aT bG rfl (hS.p 4 rfl) rfl)<|fun a hf=>mv hf rfl fun a hf=>?_; refine O.buildSlice (cs':=#[iV (l.getD j 0)]) (zs:=#[iV 0]) hf hS rfl rfl aB aD bY rfl rfl rfl rfl rfl ?_; intro b_s2 w a hbb_s2 hS hf; refine O.fJ (j:=4) (jj:=0) hf hS rfl rfl aB aD gF bY rfl rfl rfl rfl rfl rfl rfl rfl (by unfold maxLen; omega) (by omega) ?_; intro v3 w a hS hf; replace hS:=hS.eqM (N:=[pt b_s2 (.cells #[iV (l.getD j 0)] 3 (0,0)),pt lr o_,pt D (.deferred (some [])),mkA ([]),sl 3 1 v3 (td.length+1) (ints td++[iV (l.getD j 0)]),pt b_s1 (.cells #[vu] 26 (0,0))]) rfl; replace hS:=hS.eqM (N:=[pt b_s2 (.cells #[iV (l.getD j 0)] 3 (0,0)),pt lr o_,pt D (.deferred (some [])),mkA ([]),sl 3 1 v3 ((td++[(l.getD j 0)]).length) (ints (td++[(l.getD j 0)])),pt b_s1 (.cells #[vu] 26 (0,0))]) (by rw [je]); have hcl4:=aQ.cells (hS.slr (j:=4) rfl); refine O.store (m:=1) (j:=5) (cs':=#[v3]) (M':=[pt b_s2 (.cells #[iV (l.getD j 0)] 3 (0,0)),pt lr o_,pt D (.deferred (some [])),mkA ([]),sl 3 1 v3 ((td++[(l.getD j 0)]).length) (ints (td++[(l.getD j 0)])),pt b_s1 (.cells #[v3] 26 (0,0))]) hf hS rfl rfl rfl ay (by rw [hcl4.1]; rfl) (by rw [hcl4.1]; exact hcl4.2) rfl (bl rfl) (by rw [hcl4.1]; rfl) rfl ?_; intro w hS; refine O.nil<|aG<|?_; replace hS:=hS.sl [0,1,1,1,1,1]; refine ⟨rfl,(v3,(td++[(l.getD j 0)])),?_,hS⟩
    · rw [h5,Det.jg hj]
  rintro D ⟨vu,td⟩ a w h5 hS hf; replace hS:=hS.fr 1; replace hS:=hS.fr 1; replace hS:=hS.mY (M:=[sl 3 1 vu td.length (ints td),pt b_s1 (.cells #[vu] 26 (0,0))]); replace hf:Fr a 13 (dz (D::[])) [(2,_),(4,_),(6,_)]:=hf.q rfl; refine aG<|aF<|W.seq<|?_
  refine R2 rfl<|ov hf rfl (aA.aT bG rfl (hS.p 2 rfl) rfl)<|fun a hf=>mv hf rfl fun a hf=>?_; refine nk<|W.ret<|?_; refine kC hS hf ?_; clear hS hf a; intro w a hf hS; refine bH hf rfl (aO.tmp rfl) ?_; replace hS:=hS.fr 0; rw [ai,List.take_length] at h5; exact ⟨vu,rfl,by rw [← h5]; exact (hS.sub (.cons_cons _ (.cons _ .slnil))).noB⟩
set_option maxHeartbeats 1000000 in
set_option maxRecDepth 4000 in
theorem aEP (b1:Nat) (vL:Value) (l:List Int) (w0:World) (Bs:List (Nat × Obj)) (hbs:∀ p ∈ Bs,w0.heap[p.1]? = some p.2) (hit:qa Tryz.prog 94 #[(pp b1)] (ints l) Bs) (hll:l.length≤10000) :
    Ret Tryz.prog 89 #[.func (.func 94) #[] #[(pp b1)]] w0 (G:=Value) (fun v=>v) (fun v w=>St w0 w noX [] [sl 3 1 v l.length (ints l)]):=by
  refine aR (lv:=[.func (.func 94) #[] #[(pp b1)]]) Tryz.func89 rfl rfl rfl (fun a hf=>?_); replace hf:Fr a 5 [] [(0,.func (.func 94) #[] #[(pp b1)])]:=hf; have hS:St w0 w0 noX [qV Bs] []:=(St.refl w0).oJ hbs; refine W.seq ?_
  refine R1 rfl<|mv hf rfl<|fun a hf=>?_; refine nk<|W.seq<|?_
  refine R3 rfl<|mv hf rfl<|fun a hf=>?_; refine oc hf rfl aBL (aDs b1 vL l _ Bs (hS.aC2 (j:=0) rfl) hit hll) ?_; clear hf a; rintro vc w1 hS1 a hf; replace hS:=hS.cl hS1; refine mv hf rfl fun a hf=>?_; refine nk<|W.ret<|bH hf rfl (aO.tmp rfl)<|?_; exact ⟨vc,rfl,hS.noB⟩
set_option maxHeartbeats 1000000 in
set_option maxRecDepth 4000 in
theorem aEu (b1:Nat) (vL vP:Value) (l zs:List Int) (fW fH:Int) (w0:World) (Bs:List (Nat × Obj)) (hbs:∀ p ∈ Bs,w0.heap[p.1]? = some p.2) (hit:qa Tryz.prog 94 #[(pp b1)] (ints l) Bs) (hll:l.length≤10000) (hP:aQ (hp w0) 1 vP zs.length (ints zs)) (hr:Det.InR zs.length l) :
    Ret Tryz.prog 67 #[.func (.func 94) #[] #[(pp b1)],(fB 60 fW fH vP)] w0 (G:=Value) (fun v=>v) (fun v w=>St w0 w noX [] [sl 3 1 v l.length (ints (l.mergeSort fun x y=>!Det.ltP zs y x))]):=by
  refine aR (lv:=[.func (.func 94) #[] #[(pp b1)],(fB 60 fW fH vP)]) Tryz.func67 rfl rfl rfl (fun a hf=>?_); replace hf:Fr a 12 [] [(0,.func (.func 94) #[] #[(pp b1)]),(1,(fB 60 fW fH vP))]:=hf; have hS:St w0 w0 noX [qV Bs,rI vP zs] []:=((St.refl w0).bO hP).oJ hbs; refine W.seq ?_
  refine R1 rfl<|mv hf rfl<|fun a hf=>?_; refine nk<|W.seq<|?_
  refine R3 rfl<|mv hf rfl<|fun a hf=>?_; refine oc hf rfl aDG (aEP b1 vL l _ Bs (hS.aC2 (j:=0) rfl) hit hll) ?_; clear hf a; rintro vc w1 hS1 a hf; replace hS:=hS.cl hS1; refine mv hf rfl fun a hf=>?_; refine nk<|W.seq<|?_
  refine R3 rfl<|mv hf rfl<|fun a hf=>mv hf rfl fun a hf=>?_; refine oc hf rfl aC4 (aD3 l.length vc vP l zs fW fH _ (by omega) rfl hr (hS.aL (j:=1) rfl) (fun b g1 g2=>hS.apart (i:=0) (j:=1) rfl rfl b ⟨g1,g2⟩) (hS.iJ (j:=0) rfl) hll) ?_; clear hf a; rintro l7 w2 ⟨hS1,hso,hl7,hr7⟩ a hf; replace hS:=(hS.dA hS1 (i:=0) rfl (fun _ h=>h)).eqM (N:=[sl 3 1 vc l.length (ints l7)]) rfl; refine nk<|W.seq<|?_
  refine R2 rfl<|mv hf rfl<|fun a hf=>mv hf rfl fun a hf=>?_; refine nk<|W.ret<|bH hf rfl (aO.tmp rfl)<|?_; rw [hso] at hS; exact ⟨vc,rfl,hS.noB⟩
set_option maxHeartbeats 1000000 in
set_option maxRecDepth 4000 in
theorem aDm (fW fH:Nat) (vP vL va:Value) (zs l:List Int) (vs:List Value) (seeds:List (List Int)) (w0:World) (hW:1≤fW∧fW≤100) (hH:1≤fH∧fH≤100) (hn:zs.length=fW*fH) (hl:l.Pairwise (·<·)) (hr:∀ x ∈ l,0≤x∧x<((fW*fH:Nat):Int)) (hP:aQ (hp w0) 1 vP zs.length (ints zs)) (hL:aQ (hp w0) 1 vL l.length (ints l)) (ha:aQ (hp w0) 1 va vs.length vs) (hia:bS (hp w0) vs seeds) (hsr:∀ x ∈ seeds,∀ t ∈ x,0≤t∧t<((fW*fH:Nat):Int)) (hap:seeds.Pairwise (fun a b=>∀ t ∈ a,t ∉ b)) (hsn:vs.length≤10000) (hfu:∀ i ∈ l,0≤Det.ow (Det.kT zs fW fH l seeds) i∧Det.ow (Det.kT zs fW fH l seeds) i<(seeds.length:Int)) (ob:List (Nat × Obj)) (ho1:∀ p ∈ ob,w0.heap[p.1]? = some p.2) (ho2:∀ h:Hp,(∀ p ∈ ob,h p.1=some p.2)→aQ h 1 vL l.length (ints l)) :
    Ret Tryz.prog 52 #[(fG fW fH vP),vL,va] w0 (G:=Value × List Value) (fun g=>g.1) (fun g w=>St w0 w noX [] [sl 26 1 g.1 g.2.length g.2,inn g.2 (Det.dM zs fW fH l seeds)]):=by
  refine iU (lv:=[(fG fW fH vP),vL,va]) Tryz.func52 rfl rfl rfl (fun a hf=>?_); replace hf:Fr a 117 [] [(0,(fG fW fH vP)),(1,vL),(2,va)]:=hf; have hS:St w0 w0 noX [rI vP zs,rI vL l,rdv 1 va vs.length vs,inn vs seeds,qV ob] []:=((((((St.refl w0).oJ ho1).mg hia).bO ha).bO hL)).bO hP; have hN:fW*fH≤10000:=Nat.mul_le_mul hW.2 hH.2; have hlen:=hL.2.1; unfold maxLen at hlen; have hlen2:=ha.2.1; unfold maxLen at hlen2; have hxl:=hia.1; have hll:l.length≤10000:=Det.jT hl hr hN; have hr2:Det.InR zs.length l:=fun x hx=>by rw [hn]; exact hr x hx
  refine W.seq ?_
  refine R2 rfl<|O.box (cs:=#[iV fW,iV fH,vP]) hf hS rfl rfl rfl rfl<|?_; intro b_m1 w a hbb_m1 hS hf; refine mv hf rfl fun a hf=>?_; refine nk<|W.aD7<|W.seq<|?_
  refine R3 rfl<|O.aEo (Value.int .i64) hf hS rfl rfl<|?_; intro b_m2 w a hbb_m2 hS hf; refine O.alloc (cs:=#[.map none]) hf hS rfl rfl wm rfl ?_; intro b_owner3 w a hbb_owner3 hS hf; refine ost 0 #[.map (some b_m2)] hf hS rfl rfl rfl xO rfl rfl rfl (bl rfl) rfl ?_; intro w hS; refine nk<|W.seq<|W.seq<|?_
  refine R3 rfl<|mv hf rfl<|fun a hf=>ov hf rfl (aA.bP (e:=26) (by simpa using ah) rfl (hS.aL (j:=2) rfl)) fun a hf=>mv hf rfl fun a hf=>?_; refine nk<|W.block<|?_
  refine W.loop (G:=(Nat) × (List (Int × Value))) (fun g a w=>match g with | (s,kvs)=>Fr a 117 [] [(1,vL),(2,va),(3,(pp b_m1)),(6,.slice none 0 0),(7,(pp b_owner3)),(26,va),(27,iV (vs.length:Int)),(28,iV s)]∧St w0 w noX [rI vP zs,rI vL l,rdv 1 va vs.length vs,inn vs seeds,qV ob] [pt b_owner3 (.cells #[.map (some b_m2)] 106 (0,0)),mp (Value.int .i64) b_m2 kvs,pt b_m1 (.cells #[iV fW,iV fH,vP] 61 (0,0))]∧(s≤vs.length)∧(jV (Det.own (fW*fH) seeds s) kvs)) (fun g=>match g with | (s,kvs)=>vs.length-s) (0,[]) ?_ ?_
  · refine ⟨hf.to ⟨rfl,rfl,rfl,rfl,rfl,rfl,rfl,(by first | rfl | exact vI (by omega)),trivial⟩,hS,?_,?_⟩
    · omega
    · exact jV.nil _
  clear hf hS a; rintro ⟨s,kvs⟩ a w ⟨hf,hS,g1,hkv1⟩; refine W.seq ?_
  refine R1 rfl<|ov (v:=.bool (decide ((s:Int)<((vs.length:Int):Int)))) hf rfl (aA.lss rfl rfl)<|fun a hf=>?_; refine nk<|W.seq<|?_; refine W.bJ hf rfl (fun hs1=>?_) (fun hs1=>?_)
  · refine W.skip ?_
    refine aF<|W.seq<|W.block<|W.seq<|?_
    refine R5 rfl<|mv hf rfl<|fun a hf=>ov hf rfl (aA.ixV (j:=s) (m:=s) ah ay rfl rfl (hS.aL (j:=2) rfl) rfl (by omega) (Nat.mul_one _)) fun a hf=>ov hf rfl (aA.ld1 bG rfl (hS.aL (j:=2) rfl) (gP (by omega))) fun a hf=>mv hf rfl fun a hf=>mv hf rfl fun a hf=>?_; refine nk<|W.seq<|?_
    refine R3 rfl ?_; have hl4:=(hS.iI (j:=3) rfl).get (i:=s) (by omega) |>.2.1; unfold maxLen at hl4; refine mv hf rfl fun a hf=>ov hf rfl (aA.bP (e:=3) (by simpa using aB) rfl (bS.get (hS.iI (j:=3) rfl) (i:=s) (by omega))) fun a hf=>mv hf rfl fun a hf=>?_; refine nk<|W.block<|?_
    refine W.loop (G:=(Nat) × (List (Int × Value))) (fun g a w=>match g with | (k,kv2)=>Fr a 117 [] [(1,vL),(2,va),(3,(pp b_m1)),(6,.slice none 0 0),(7,(pp b_owner3)),(8,iV s),(9,(vs.getD s undef)),(26,va),(27,iV (vs.length:Int)),(28,iV s),(33,(vs.getD s undef)),(34,iV ((seeds.getD s []).length:Int)),(35,iV k)]∧St w0 w noX [rI vP zs,rI vL l,rdv 1 va vs.length vs,inn vs seeds,qV ob] [pt b_owner3 (.cells #[.map (some b_m2)] 106 (0,0)),mp (Value.int .i64) b_m2 kv2,pt b_m1 (.cells #[iV fW,iV fH,vP] 61 (0,0))]∧(k≤(seeds.getD s []).length)∧(jV (Det.ig (Det.own (fW*fH) seeds s) (seeds.getD s []) (s:Int) k) kv2)) (fun g=>match g with | (k,kv2)=>(seeds.getD s []).length-k) (0,kvs) ?_ ?_
    · refine ⟨hf.to ⟨rfl,rfl,rfl,rfl,rfl,rfl,rfl,rfl,rfl,rfl,rfl,rfl,(by first | rfl | exact vI (by omega)),trivial⟩,hS,?_,?_⟩
      · omega
      · exact hkv1
    clear hf hS a; rintro ⟨k,kv2⟩ a w ⟨hf,hS,g5,hkv2⟩; refine W.seq ?_
    refine R1 rfl<|ov (v:=.bool (decide ((k:Int)<(((seeds.getD s []).length:Int):Int)))) hf rfl (aA.lss rfl rfl)<|fun a hf=>?_; refine nk<|W.seq<|?_; refine W.bJ hf rfl (fun hk1=>?_) (fun hk1=>?_)
    · refine W.skip ?_
      refine aF<|W.seq<|W.block<|W.seq<|?_
      refine R3 rfl<|ov hf rfl (aA.ixV (j:=k) (m:=k) aB aD rfl rfl (bS.get (hS.iI (j:=3) rfl) (i:=s) (by omega)) rfl (by omega) (Nat.mul_one _))<|fun a hf=>ov hf rfl (aA.ld1 aH rfl (bS.get (hS.iI (j:=3) rfl) (i:=s) (by omega)) (aI (by omega))) fun a hf=>mv hf rfl fun a hf=>?_; refine nk ?_
      refine R4 rfl ?_; have hel:=hsr _ (Det.at_mem (ss:=seeds) (q:=s) (by omega)) _ (Det.bL (l:=(seeds.getD s [])) (j:=k) (by omega)); refine ov hf rfl (aA.aT iQ rfl (hS.p 0 rfl) rfl) fun a hf=>mv hf rfl fun a hf=>mv hf rfl fun a hf=>?_; refine O.aET (j:=1) (k:=((seeds.getD s []).getD k 0)) (v:=iV s) (kvs:=kv2) (M':=[pt b_owner3 (.cells #[.map (some b_m2)] 106 (0,0)),mp (Value.int .i64) b_m2 (jU ((seeds.getD s []).getD k 0) (iV s) kv2),pt b_m1 (.cells #[iV fW,iV fH,vP] 61 (0,0))]) hf hS rfl gY rfl rfl rfl rfl rfl ?_; intro w hS; refine O.nil<|aG<|aF<|?_
      refine R2 rfl<|ov hf rfl (aA.ak rfl rfl (by omega))<|fun a hf=>mv hf rfl fun a hf=>?_; refine O.nil ?_; refine aS ⟨(k+1,(jU ((seeds.getD s []).getD k 0) (iV s) kv2)),⟨hf.to ⟨rfl,rfl,rfl,rfl,rfl,rfl,rfl,rfl,rfl,rfl,rfl,rfl,(by first | rfl | exact vI (by omega)),trivial⟩,?_,?_,?_⟩,?_⟩
      · exact hS.eqM rfl
      · omega
      · exact hkv2.set hel.1 (by rw [Det.kr,Det.fI]; omega) (by omega)
      · dsimp only; omega
    · refine W.exit ?_
      refine aC<|aC<|bD<|aG<|aF<|?_
      refine R2 rfl<|ov hf rfl (aA.ak rfl rfl (by omega))<|fun a hf=>mv hf rfl fun a hf=>?_; refine O.nil ?_; refine aS ⟨(s+1,kv2),⟨hf.to ⟨rfl,rfl,rfl,rfl,rfl,rfl,rfl,(by first | rfl | exact vI (by omega)),trivial⟩,?_,?_,?_⟩,?_⟩
      · exact hS.eqM rfl
      · omega
      · obtain rfl:k=(seeds.getD s []).length:=by omega
        exact hkv2
      · dsimp only; omega
  · refine W.exit ?_
    refine aC<|aC<|bD<|aF<|W.seq<|?_
    have hf1:Fr a 117 [] []:=hf.to trivial; replace hf:Fr a 117 [] [(1,_),(2,_),(3,_),(6,_),(7,_)]:=hf.q rfl
    let MZ1201:List Asr:=[pt b_owner3 (.cells #[.map (some b_m2)] 106 (0,0)),mp (Value.int .i64) b_m2 kvs,pt b_m1 (.cells #[iV fW,iV fH,vP] 61 (0,0))]
    let BZ1201:List Asr:=[rI vP zs,rI vL l,rdv 1 va vs.length vs,inn vs seeds,qV ob]
    refine W.dn (γ:=(Nat) × (Value)) (L0:=[(1,vL),(2,va),(3,(pp b_m1)),(6,.slice none 0 0),(7,(pp b_owner3))]) (L1:=[]) (0,undef) [1,4] [] [0,2,3,5] (fun i_=>match i_ with | 1=>[0] | 3=>[2] | 4=>[1,3] | 5=>[4] | _=>[]) (fun _=>[]) (fun i_=>match i_ with | 1=>[4,5] | 4=>[5] | _=>[]) (fun _=>[]) (fun i_=>match i_ with | 4=>1 | 5=>2 | _=>0) (fun i_=>match i_ with | 1=>1 | 2=>1 | 3=>1 | 4=>2 | 5=>2 | _=>0) (fun (g:(Nat) × (Value)) j_=>match g,j_ with | ⟨bv,vo⟩,0=>vL | ⟨bv,vo⟩,1=>.func (.func 94) #[] #[(pp bv)] | ⟨bv,vo⟩,2=>(fG fW fH vP) | ⟨bv,vo⟩,3=>(fB 60 fW fH vP) | ⟨bv,vo⟩,4=>vo | ⟨bv,vo⟩,5=>vo | _,_=>undef) (fun k_ (_:Nat→Bool) (g:(Nat) × (Value)) w=>match k_,g with | 0,⟨bv,vo⟩=>St w0 w noX BZ1201 MZ1201 | 1,⟨bv,vo⟩=>St w0 w noX BZ1201 (pt bv (.cells #[vL] 26 (0,0))::MZ1201) | _,⟨bv,vo⟩=>St w0 w noX BZ1201 (sl 3 1 vo l.length (ints (l.mergeSort fun x y=>!Det.ltP zs y x))::pt bv (.cells #[vL] 26 (0,0))::MZ1201)) aV (by kernel_rfl) (by kernel_rfl) (by kernel_rfl) hf hf1 hS.drew ?_ ?_ trivial ?_
    · clear hf hf1 hS
      refine ⟨?_,?_,?_,?_,trivial⟩
      · exact fun _ _ ⟨bv,vo⟩ _ _ _ _ hD _ hf=>qm hf rfl hD
      · intro k_ s_ g w hlo hhi _ hD a hf; obtain ⟨bv,vo⟩:=g; rcases k_ with _ | _ | k_
        · exact qv hf rfl (aA.bf (cs':=#[iV fW,iV fH,vP]) dh dF rfl (hD.p 2 rfl) (bl rfl) rfl) hD
        · exact qv hf rfl (aA.bf (cs':=#[iV fW,iV fH,vP]) dh dF rfl (hD.p 3 rfl) (bl rfl) rfl) hD
        · have hhi:k_+2≤1:=hhi; omega
      · exact fun _ _ ⟨bv,vo⟩ _ _ _ _ hD _ hf=>qv hf rfl (aA.makeFunc rfl rfl rfl rfl) hD
      · exact fun _ _ ⟨bv,vo⟩ _ _ _ _ hD _ hf=>qm hf rfl hD
    · clear hf hf1 hS
      refine ⟨?_,?_,trivial⟩
      · intro s_ g w _ hD a hf
        obtain ⟨bv,vo⟩:=g; have hS:=hD; clear hD; replace hf:Fr a 117 [] [(44,_),(1,_),(2,_),(3,_),(6,_),(7,_)]:=hf.q rfl; refine oc hf rfl aCQ (wJ vL l _ (hS.aL (j:=1) rfl)) ?_; clear hf a; rintro bv w8 hS1 a hf; replace hS:=(hS.call hS1).eqM (N:=(pt bv (.cells #[vL] 26 (0,0))::MZ1201)) rfl; exact O.nil ⟨rfl,(bv,vo),hf.to trivial,(gt (d:=45) hf rfl rfl),(fun j_ hj_ ha_=>match j_,hj_,ha_ with | 0,hj_,ha_=>rfl | 1,hj_,ha_=>absurd rfl hj_ | 2,hj_,ha_=>rfl | 3,hj_,ha_=>rfl | 4,hj_,ha_=>absurd ha_ (by decide) | 5,hj_,ha_=>absurd ha_ (by decide) | _+6,_,_=>rfl),hS⟩
      · intro s_ g w _ hD a hf
        obtain ⟨bv,vo⟩:=g; have hS:=hD; clear hD; replace hf:Fr a 117 [] [(45,_),(47,_),(1,_),(2,_),(3,_),(6,_),(7,_)]:=hf.q rfl; refine oc hf rfl aCF (aEu bv vL vP l zs (fW:Int) (fH:Int) _ ((bv,Obj.cells #[vL] 26 (0,0))::ob) (fun p hp=>by
            rcases List.mem_cons.1 hp with rfl | hp
            · exact hS.sW (i:=0) rfl
            · exact hS.aC2 (j:=4) rfl p hp) (aBT bv vL l ((bv,Obj.cells #[vL] 26 (0,0))::ob) (fun w h=>⟨h _ List.mem_cons_self,ho2 _ (fun p hp=>h p (List.mem_cons_of_mem _ hp))⟩)) hll (hS.aL (j:=0) rfl) hr2) ?_
        clear hf a; rintro vo w9 hS1 a hf; replace hS:=(hS.call hS1).eqM (N:=(sl 3 1 vo l.length (ints (l.mergeSort fun x y=>!Det.ltP zs y x))::pt bv (.cells #[vL] 26 (0,0))::MZ1201)) rfl; exact O.nil ⟨rfl,(bv,vo),hf.to trivial,(gt (d:=48) hf rfl rfl),(fun j_ hj_ ha_=>match j_,hj_,ha_ with | 0,hj_,ha_=>rfl | 1,hj_,ha_=>rfl | 2,hj_,ha_=>rfl | 3,hj_,ha_=>rfl | 4,hj_,ha_=>absurd rfl hj_ | 5,hj_,ha_=>absurd ha_ (by decide) | _+6,_,_=>rfl),hS⟩
    clear hf hf1 hS; intro s_ g a w _ hf hD; obtain ⟨bv,vo⟩:=g; have hS:=hD; clear hD; replace hf:Fr a 117 [] [(44,_),(45,_),(46,_),(47,_),(48,_),(12,_),(1,_),(2,_),(3,_),(6,_),(7,_)]:=hf.q rfl; obtain ⟨ord,hord⟩:∃ q,q=(l.mergeSort fun x y=>!Det.ltP zs y x):=⟨_,rfl⟩; have hof:=Det.zY hord hl; have hol:ord.length=l.length:=hof.1.length_eq; rw [← hord] at hS; have hor:∀ x ∈ ord,0≤x∧x<((fW*fH:Nat):Int):=fun x hx=>hr x (hof.1.mem_iff.1 hx); refine aF<|W.seq<|W.label<|aF<|W.seq<|W.block<|?_; replace hS:=hS.mk0
    refine W.loop (G:=(List (Int × Value)) × (List Int) × (List Nat)) (fun g a w=>match g with | (kv3,o3,Ds)=>Fr a 117 (dz Ds) [(1,vL),(2,va),(3,(pp b_m1)),(6,.slice none 0 0),(7,(pp b_owner3)),(12,vo)]∧St w0 w noX BZ1201 [mkA Ds,sl 3 1 vo l.length (ints ord),pt bv (.cells #[vL] 26 (0,0)),pt b_owner3 (.cells #[.map (some b_m2)] 106 (0,0)),mp (Value.int .i64) b_m2 kv3,pt b_m1 (.cells #[iV fW,iV fH,vP] 61 (0,0))]∧(Det.Grows zs fW fH l (Det.gJ (fW*fH) seeds) o3)∧(o3.length=fW*fH)∧(jV o3 kv3)) (fun g=>match g with | (kv3,o3,Ds)=>Det.rR l o3) (kvs,(Det.own (fW*fH) seeds seeds.length),[]) ?_ ?_
    · refine ⟨hf.q rfl,hS,?_,?_,?_⟩
      · rw [Det.zx hsr hap]; exact Det.Grows.refl
      · rw [Det.fI]
      · obtain rfl:s=seeds.length:=by omega
        exact hkv1
    clear hf hS a; rintro ⟨kv3,o3,Ds⟩ a w ⟨hf,hS,hgr,g6,hkv3⟩; refine W.block<|W.seq<|W.seq<|?_
    refine R3 rfl<|mv hf rfl<|fun a hf=>ov hf rfl (aA.bP (e:=3) (by simpa using aB) rfl (hS.slr (j:=1) rfl)) fun a hf=>mv hf rfl fun a hf=>?_; refine nk<|W.block<|?_
    refine W.loop (G:=(Nat) × (List Nat)) (fun g a w=>match g with | (jj,Ds2)=>Fr a 117 (dz Ds2) [(1,vL),(2,va),(3,(pp b_m1)),(6,.slice none 0 0),(7,(pp b_owner3)),(12,vo),(49,vo),(50,iV (l.length:Int)),(51,iV jj)]∧St w0 w noX BZ1201 [mkA Ds2,sl 3 1 vo l.length (ints ord),pt bv (.cells #[vL] 26 (0,0)),pt b_owner3 (.cells #[.map (some b_m2)] 106 (0,0)),mp (Value.int .i64) b_m2 kv3,pt b_m1 (.cells #[iV fW,iV fH,vP] 61 (0,0))]∧(jj≤l.length)∧(∀ q,q<jj→Det.iE fW fH o3 (ord.getD q 0)=false)) (fun g=>match g with | (jj,Ds2)=>l.length-jj) (0,Ds) ?_ ?_
    · refine ⟨hf.to ⟨rfl,rfl,rfl,rfl,rfl,rfl,rfl,rfl,(by first | rfl | exact vI (by omega)),trivial⟩,hS,?_,?_⟩
      · omega
      · exact fun q hq=>by omega
    clear hf hS a; rintro ⟨jj,Ds2⟩ a w ⟨hf,hS,hj0,hnf⟩; refine W.seq ?_
    refine R1 rfl<|ov (v:=.bool (decide ((jj:Int)<((l.length:Int):Int)))) hf rfl (aA.lss rfl rfl)<|fun a hf=>?_; refine nk<|W.seq<|?_; refine W.bJ hf rfl (fun hj1=>?_) (fun hj1=>?_)
    · refine W.skip ?_
      refine aF<|W.seq<|W.block<|W.seq<|?_
      refine R3 rfl<|ov hf rfl (aA.ixV (j:=jj) (m:=jj) aB aD rfl rfl (hS.slr (j:=1) rfl) rfl (by omega) (Nat.mul_one _))<|fun a hf=>ov hf rfl (aA.ld1 aH rfl (hS.slr (j:=1) rfl) (aI (by omega))) fun a hf=>mv hf rfl fun a hf=>?_; refine O.nil ?_; have hio:=hor _ (Det.bL (l:=ord) (j:=jj) (by omega)); obtain ⟨i,hi⟩:=Int.eq_ofNat_of_zero_le hio.1; rw [hi] at hf hio; refine aF<|W.seq<|W.seq<|?_
      refine W.aY (l:=[0,1,2,3,4,5,6,7]) rfl<|ov hf rfl (aA.aT iQ rfl (hS.p 3 rfl) rfl)<|fun a hf=>?_; refine mv hf rfl fun a hf=>ov hf rfl (aA.yX (ok:=true) (k:=(i:Int)) (kvs:=kv3) gY rfl rfl (hS.aA7 (j:=4) rfl) (hkv3.has (z:=iV 0) (by omega))) fun a hf=>mv hf rfl fun a hf=>ov hf rfl (aA.extract rfl rfl) fun a hf=>ov hf rfl (aA.extract rfl rfl) fun a hf=>mv hf rfl fun a hf=>mv hf rfl fun a hf=>?_; refine nk ?_; replace hf:Fr a 117 (dz Ds2) [(1,vL),(2,va),(3,(pp b_m1)),(6,.slice none 0 0),(7,(pp b_owner3)),(12,vo),(14,iV i),(16,.bool (decide (0≤Det.ow o3 (i:Int)))),(49,vo),(50,iV (l.length:Int)),(51,iV jj)]:=hf.q rfl; refine W.seq ?_
      refine R1 rfl<|mv hf rfl<|fun a hf=>?_; refine nk ?_; refine W.bJ hf rfl (fun hown=>?_) (fun hown=>?_)
      · refine W.exit ?_
        refine aC<|bD<|aF<|?_
        refine R2 rfl<|ov hf rfl (aA.ak rfl rfl (by omega))<|fun a hf=>mv hf rfl fun a hf=>?_; refine O.nil ?_; refine aS ⟨(jj+1,Ds2),⟨hf.to ⟨rfl,rfl,rfl,rfl,rfl,rfl,rfl,rfl,(by first | rfl | exact vI (by omega)),trivial⟩,?_,?_,?_⟩,?_⟩
        · exact hS.eqM rfl
        · omega
        · exact Det.fV hnf (by rw [hi]; first | exact Det.q9 (by omega) | exact Det.rO (Det.qw hsc (by omega)))
        · dsimp only; omega
      · refine W.skip ?_
        refine aF<|W.seq<|?_
        refine R2 rfl<|O.alloc (cs:=#[iV 0]) hf hS rfl rfl bY rfl<|?_; intro b_best12 w a hbb_best12 hS hf; refine ost 0 #[iV (-1)] hf hS rfl rfl rfl aD rfl rfl rfl (bl rfl) rfl ?_; intro w hS; refine nk<|W.seq<|W.seq<|?_
        refine R3 rfl<|ov hf rfl (aA.bf (cs':=#[iV fW,iV fH,vP]) dh dF rfl (hS.p 6 rfl) (bl rfl) rfl)<|fun a hf=>mv hf rfl fun a hf=>?_; refine oc hf rfl y9 (nX (fW:Int) (fH:Int) (i:Int) vP _) ?_; clear hf a; rintro ⟨bi,bj⟩ w13 hS1 a hf; try dsimp only at hS1 hf; replace hS:=hS.cl hS1; refine nk<|W.block<|?_; have hit:=qo fW fH i bi bj vP hW hH (by omega); have hlr:∀ t ∈ (Det.nb fW fH i),0≤t∧t<((fW*fH:Nat):Int):=fun t ht=>Det.jK ht
        refine W.tF (G:=(Int)) (fun x=>(18,x)::[(3,(pp b_m1)),(7,(pp b_owner3)),(17,(pp b_best12))]) (fun g=>match g with | best=>[pt bi (.cells #[iV i] 3 (0,0)),pt bj (.cells #[iV fW,iV fH,vP] 61 (0,0)),pt b_best12 (.cells #[iV best] 3 (0,0)),mkA Ds2,sl 3 1 vo l.length (ints ord),pt bv (.cells #[vL] 26 (0,0)),pt b_owner3 (.cells #[.map (some b_m2)] 106 (0,0)),mp (Value.int .i64) b_m2 kv3,pt b_m1 (.cells #[iV fW,iV fH,vP] 61 (0,0))]) (fun j g=>match g with | best=>(Det.iM zs (Det.nb fW fH i) (Det.oG o3) j best)∧(best=-1∨(0≤best∧best<((fW*fH:Nat):Int)))) (-1) [(bi,Obj.cells #[iV i] 3 (0,0)),(bj,Obj.cells #[iV fW,iV fH,vP] 61 (0,0))] hf rfl rfl yO hS ?_ (hit) ?_ ?_ ?_ ?_
        · refine ⟨?_,?_⟩
          · exact Det.aBH
          · exact .inl rfl
        · rintro best w hS
          intro p hp; simp only [List.mem_cons,List.not_mem_nil,or_false] at hp
          rcases hp with rfl | rfl
          · exact hS.sW (i:=0) rfl
          · exact hS.sW (i:=1) rfl
        · intro l x w a hf
          refine R1 rfl<|ov (v:=x) hf rfl (aA.assign rfl) fun a hf=>?_; refine O.nil ⟨rfl,hf.q rfl,rfl⟩
        · rintro lr o_ D j x best w hx ⟨hsc,hbr⟩ hS a hf
          replace hf:Fr a 117 [] ((18,x)::[(3,(pp b_m1)),(7,(pp b_owner3)),(17,(pp b_best12))]):=hf.q rfl; obtain ⟨hj,rfl⟩:=ints_at hx; have hjr:=hlr _ (Det.bL (l:=(Det.nb fW fH i)) hj); obtain ⟨q,hq⟩:=Int.eq_ofNat_of_zero_le hjr.1; rw [hq] at hf hjr; refine W.block<|W.seq<|?_
          refine W.aY (l:=[0,1,2,3,4,5,6,7]) rfl<|ov hf rfl (aA.aT iQ rfl (hS.p 8 rfl) rfl)<|fun a hf=>?_; refine mv hf rfl fun a hf=>ov hf rfl (aA.yX (ok:=true) (k:=(q:Int)) (kvs:=kv3) gY rfl rfl (hS.aA7 (j:=9) rfl) (hkv3.has (z:=iV 0) (by omega))) fun a hf=>mv hf rfl fun a hf=>ov hf rfl (aA.extract rfl rfl) fun a hf=>ov hf rfl (aA.extract rfl rfl) fun a hf=>mv hf rfl fun a hf=>mv hf rfl fun a hf=>?_; refine nk ?_; replace hf:Fr a 117 [] [(3,(pp b_m1)),(17,(pp b_best12)),(18,iV q),(20,.bool (decide (0≤Det.ow o3 (q:Int))))]:=hf.q rfl; refine W.seq ?_
          refine W.aY (l:=[0,1,2,3,4,5,6,7,8,9,10,11]) rfl<|mv hf rfl<|fun a hf=>?_; refine mv hf rfl fun a hf=>?_
          refine O.dV (l₁:=[2,3,4,5,6,7,8,9,10,11]) (l₂:=_) (fun a w=>Fr a 117 [] [(17,(pp b_best12)),(18,iV q),(83,.bool ((decide (0≤Det.ow o3 (q:Int)))&&((decide (best<(0:Int)))||(decide ((Det.cfP zs (q:Int) best)<(0:Int))))))]∧St w0 w noX BZ1201 [pt lr o_,pt D (.deferred (some [])),pt bi (.cells #[iV i] 3 (0,0)),pt bj (.cells #[iV fW,iV fH,vP] 61 (0,0)),pt b_best12 (.cells #[iV best] 3 (0,0)),mkA Ds2,sl 3 1 vo l.length (ints ord),pt bv (.cells #[vL] 26 (0,0)),pt b_owner3 (.cells #[.map (some b_m2)] 106 (0,0)),mp (Value.int .i64) b_m2 kv3,pt b_m1 (.cells #[iV fW,iV fH,vP] 61 (0,0))]) rfl ?_ ?_
          · rcases Bool.eq_false_or_eq_true (decide (0≤Det.ow o3 (q:Int))) with hb14 | hb14
            · have hb14p:=of_decide_eq_true hb14
              refine og (v:=iV best) hf rfl hb14 (aA.aT aH rfl (hS.p 4 rfl) rfl) fun a hf=>og (v:=.bool (decide (best<(0:Int)))) hf rfl hb14 (aA.lss rfl rfl) fun a hf=>og (v:=.bool (decide (best<(0:Int)))) hf rfl hb14 (aA.move rfl) fun a hf=>?_
              refine O.dV (l₁:=[5,6,7,8,9,10]) (l₂:=_) (fun a w=>Fr a 117 [] [(17,(pp b_best12)),(18,iV q),(73,.bool (decide (0≤Det.ow o3 (q:Int)))),(82,.bool ((decide (best<(0:Int)))||(decide ((Det.cfP zs (q:Int) best)<(0:Int)))))]∧St w0 w noX BZ1201 [pt lr o_,pt D (.deferred (some [])),pt bi (.cells #[iV i] 3 (0,0)),pt bj (.cells #[iV fW,iV fH,vP] 61 (0,0)),pt b_best12 (.cells #[iV best] 3 (0,0)),mkA Ds2,sl 3 1 vo l.length (ints ord),pt bv (.cells #[vL] 26 (0,0)),pt b_owner3 (.cells #[.map (some b_m2)] 106 (0,0)),mp (Value.int .i64) b_m2 kv3,pt b_m1 (.cells #[iV fW,iV fH,vP] 61 (0,0))]) rfl ?_ ?_
              · rcases Bool.eq_false_or_eq_true (decide (best<(0:Int))) with hb15 | hb15
                · have hb15p:=of_decide_eq_true hb15
                  refine sk hf rfl hb15 fun a hf=>sk hf rfl hb15 fun a hf=>sk hf rfl hb15 fun a hf=>sk hf rfl hb15 fun a hf=>sk hf rfl hb15 fun a hf=>?_; refine og (v:=.bool ((decide (best<(0:Int)))||(decide ((Det.cfP zs (q:Int) best)<(0:Int))))) hf rfl hb14 (aA.pick rfl rfl rfl (by rw [hb15]; rfl)) fun a hf=>?_; exact O.nil ⟨rfl,hf.q rfl,hS⟩
                · have hb15p:=of_decide_eq_false hb15
                  refine og (v:=(fG fW fH vP)) hf rfl hb15 (aA.bf (cs':=#[iV fW,iV fH,vP]) dh dF rfl (hS.p 10 rfl) (bl rfl) rfl) fun a hf=>og (v:=iV q) hf rfl hb15 (aA.move rfl) fun a hf=>og (v:=iV best) hf rfl hb15 (aA.aT aH rfl (hS.p 4 rfl) rfl) fun a hf=>?_; refine O.gM hf rfl rfl rfl hb15 rfl rfl (dS.call (av:=#[(fG fW fH vP),iV q,iV best]) dX rfl rfl rfl) (au (fW:Int) (fH:Int) (q:Int) best vP zs _ (by rw [hn]; omega) (by rw [hn]; omega) (hS.aL (j:=0) rfl)) ?_; clear hf a; rintro _ w16 hS1 a hf; replace hS:=hS.cl hS1; refine og (v:=.bool (decide ((Det.cfP zs (q:Int) best)<(0:Int)))) hf rfl hb15 (aA.lss rfl rfl) fun a hf=>?_; refine og (v:=.bool ((decide (best<(0:Int)))||(decide ((Det.cfP zs (q:Int) best)<(0:Int))))) hf rfl hb14 (aA.pick rfl rfl rfl (by rw [hb15]; rfl)) fun a hf=>?_; exact O.nil ⟨rfl,hf.q rfl,hS⟩
              clear hf hS a; rintro a w ⟨hf,hS⟩; refine ov (v:=.bool ((decide (0≤Det.ow o3 (q:Int)))&&((decide (best<(0:Int)))||(decide ((Det.cfP zs (q:Int) best)<(0:Int)))))) hf rfl (aA.pick rfl rfl rfl (by rw [hb14]; rfl)) fun a hf=>?_; exact O.nil ⟨rfl,hf.q rfl,hS⟩
            · have hb14p:=of_decide_eq_false hb14
              refine sk hf rfl hb14 fun a hf=>sk hf rfl hb14 fun a hf=>sk hf rfl hb14 fun a hf=>O.bC hf rfl rfl rfl rfl fun a hf=>O.bC hf rfl rfl rfl rfl fun a hf=>O.bC hf rfl rfl rfl rfl fun a hf=>O.bC hf rfl rfl rfl rfl fun a hf=>O.bC hf rfl rfl rfl rfl fun a hf=>sk hf rfl hb14 fun a hf=>?_; refine ov (v:=.bool ((decide (0≤Det.ow o3 (q:Int)))&&((decide (best<(0:Int)))||(decide ((Det.cfP zs (q:Int) best)<(0:Int)))))) hf rfl (aA.pick rfl rfl rfl (by rw [hb14]; rfl)) fun a hf=>?_; exact O.nil ⟨rfl,hf.q rfl,hS⟩
          clear hf hS a; rintro a w ⟨hf,hS⟩; refine nk ?_; refine W.if_ hf rfl (fun hcb=>?_) (fun hcb=>?_)
          · have hcbb:=hcb
            try simp only [bsm] at hcb
            refine R2 rfl<|mv hf rfl<|fun a hf=>?_; refine ost 4 #[iV q] hf hS rfl rfl rfl aD rfl rfl rfl (bl rfl) rfl ?_; intro w hS; refine O.nil<|aG<|?_; refine ⟨rfl,(q:Int),⟨?_,?_⟩,hS⟩
            · have h:=Det.jc hj hsc (by rw [hq]; unfold Det.oG; rw [decide_eq_true_eq]; simp only [Bool.and_eq_true,decide_eq_true_eq] at hcbb; exact hcbb.1) (by omega) (by rw [hq,← Det.jb]; simp only [Bool.and_eq_true,Bool.or_eq_true,decide_eq_true_eq] at hcbb; exact hcbb.2)
              rw [hq] at h; exact h
            · right; omega
          · have hcbb:=hcb
            try simp only [bsm] at hcb
            refine W.skip<|aG<|?_; refine ⟨rfl,best,⟨?_,?_⟩,hS⟩
            · refine Det.mr Det.aD8 hj hsc (fun hqq=>?_)
              rw [hq,← Det.jb] at hqq; unfold Det.oG at hqq; rw [decide_eq_true_eq] at hqq; simp only [Bool.and_eq_false_iff,Bool.or_eq_false_iff,decide_eq_false_iff_not] at hcbb
              omega
            · exact hbr
        rintro D best a w ⟨hsc,hbr⟩ hS hf; replace hS:=hS.front (i:=4) (M':=[mkA Ds2,pt D (.deferred (some [])),pt bi (.cells #[iV i] 3 (0,0)),pt bj (.cells #[iV fW,iV fH,vP] 61 (0,0)),pt b_best12 (.cells #[iV best] 3 (0,0)),sl 3 1 vo l.length (ints ord),pt bv (.cells #[vL] 26 (0,0)),pt b_owner3 (.cells #[.map (some b_m2)] 106 (0,0)),mp (Value.int .i64) b_m2 kv3,pt b_m1 (.cells #[iV fW,iV fH,vP] 61 (0,0))]) rfl rfl; replace hS:=hS.front (i:=1) (M':=[pt D (.deferred (some [])),mkA Ds2,pt bi (.cells #[iV i] 3 (0,0)),pt bj (.cells #[iV fW,iV fH,vP] 61 (0,0)),pt b_best12 (.cells #[iV best] 3 (0,0)),sl 3 1 vo l.length (ints ord),pt bv (.cells #[vL] 26 (0,0)),pt b_owner3 (.cells #[.map (some b_m2)] 106 (0,0)),mp (Value.int .i64) b_m2 kv3,pt b_m1 (.cells #[iV fW,iV fH,vP] 61 (0,0))]) rfl rfl; replace hS:=hS.mY (M:=[pt bi (.cells #[iV i] 3 (0,0)),pt bj (.cells #[iV fW,iV fH,vP] 61 (0,0)),pt b_best12 (.cells #[iV best] 3 (0,0)),sl 3 1 vo l.length (ints ord),pt bv (.cells #[vL] 26 (0,0)),pt b_owner3 (.cells #[.map (some b_m2)] 106 (0,0)),mp (Value.int .i64) b_m2 kv3,pt b_m1 (.cells #[iV fW,iV fH,vP] 61 (0,0))]); replace hf:Fr a 117 (dz (D::Ds2)) [(1,_),(2,_),(3,_),(6,_),(7,_),(12,_),(14,_),(17,_),(49,_),(50,_),(51,_),(64,_)]:=hf.q rfl; refine aG<|aF<|W.seq<|?_
        refine R2 rfl ?_; rw [ai] at hsc; refine ov hf rfl (aA.aT aH rfl (hS.p 3 rfl) rfl) fun a hf=>ov (v:=.bool (decide (best≥(0:Int)))) hf rfl (aA.geq rfl rfl) fun a hf=>?_; refine nk ?_; refine W.bJ hf rfl (fun hge=>?_) (fun hge=>?_)
        · refine W.seq ?_
          refine R6 rfl ?_; have hone:=Det.aBD hsc (by omega); have hbw:=hone.2; unfold Det.oG at hbw; rw [decide_eq_true_eq] at hbw; have hqy:=Det.zh (W:=fW) (H:=fH) (by omega) hone.1 hone.2; have hnx:=Det.wB (P:=zs) hof.1 hof.2 (by omega) (by rw [hi]; exact hqy) hnf; rw [hi] at hnx; refine ov hf rfl (aA.aT iQ rfl (hS.p 6 rfl) rfl) fun a hf=>mv hf rfl fun a hf=>ov hf rfl (aA.aT iQ rfl (hS.p 6 rfl) rfl) fun a hf=>ov hf rfl (aA.aT aH rfl (hS.p 3 rfl) rfl) fun a hf=>ov hf rfl (aA.yX (ok:=false) (k:=best) (kvs:=kv3) gY rfl rfl (hS.aA7 (j:=7) rfl) (hkv3.get (z:=iV 0) (by omega) hbw)) fun a hf=>?_; refine O.aET (j:=7) (k:=(i:Int)) (v:=iV (Det.ow o3 best)) (kvs:=kv3) (M':=[mkA (D::Ds2),pt bi (.cells #[iV i] 3 (0,0)),pt bj (.cells #[iV fW,iV fH,vP] 61 (0,0)),pt b_best12 (.cells #[iV best] 3 (0,0)),sl 3 1 vo l.length (ints ord),pt bv (.cells #[vL] 26 (0,0)),pt b_owner3 (.cells #[.map (some b_m2)] 106 (0,0)),mp (Value.int .i64) b_m2 (jU (i:Int) (iV (Det.ow o3 best)) kv3),pt b_m1 (.cells #[iV fW,iV fH,vP] 61 (0,0))]) hf hS rfl gY rfl rfl rfl rfl rfl ?_; intro w hS; refine nk<|W.exit<|fT rfl<|aC<|aC<|fT rfl<|aC<|bD<|?_; replace hS:=hS.sl [1,0,0,0,1,1,1,1,1]; refine aS ⟨((jU (i:Int) (iV (Det.ow o3 best)) kv3),(Det.stepG zs fW fH l o3),(D::Ds2)),⟨hf.q rfl,?_,?_,?_,?_⟩,?_⟩
          · exact hS.eqM rfl
          · exact hgr.step (by rw [hnx]; omega)
          · rw [Det.mo]; exact g6
          · have hby:Det.byM zs fW fH o3 (i:Int)=best:=by unfold Det.byM; rw [Int.toNat_natCast]; exact (Det.sG hsc).symm
            unfold Det.stepG; rw [hnx,hby]; exact hkv3.set (by omega) (by omega) hbw
          · dsimp only; exact Det.nK hr g6 (by rw [hnx]; omega)
        · refine W.skip ?_
          refine aG<|aF<|?_
          refine R2 rfl<|ov hf rfl (aA.ak rfl rfl (by omega))<|fun a hf=>mv hf rfl fun a hf=>?_; refine O.nil ?_; replace hS:=hS.sl [1,0,0,0,1,1,1,1,1]; refine aS ⟨(jj+1,(D::Ds2)),⟨hf.to ⟨rfl,rfl,rfl,rfl,rfl,rfl,rfl,rfl,(by first | rfl | exact vI (by omega)),trivial⟩,?_,?_,?_⟩,?_⟩
          · exact hS.eqM rfl
          · omega
          · exact Det.fV hnf (by rw [hi]; first | exact Det.q9 (by omega) | exact Det.rO (Det.qw hsc (by omega)))
          · dsimp only; omega
    · refine W.exit ?_
      refine aC<|aC<|bD<|aF<|W.exit<|fT rfl<|aC<|bD<|aF<|W.seq<|?_
      refine R4 rfl<|mv hf rfl<|fun a hf=>ov hf rfl (aA.bP (e:=26) (by simpa using ah) rfl (hS.aL (j:=2) rfl)) fun a hf=>?_; refine O.make (N:=vs.length) hf hS rfl rfl ah ay iX cu rfl rfl (by unfold maxLen; omega) (by omega) ?_; intro b_m19 w a hbb_m19 hS hf; have hS:=hS.eqM (N:=[sl 26 1 (.slice (some ⟨b_m19,0,none⟩) vs.length vs.length) vs.length (List.replicate vs.length (Value.slice none 0 0)),mkA Ds2,sl 3 1 vo l.length (ints ord),pt bv (.cells #[vL] 26 (0,0)),pt b_owner3 (.cells #[.map (some b_m2)] 106 (0,0)),mp (Value.int .i64) b_m2 kv3,pt b_m1 (.cells #[iV fW,iV fH,vP] 61 (0,0))]) (by rw [aAJ]); refine mv hf rfl fun a hf=>?_; refine O.nil ?_; obtain ⟨vt,hvt⟩:∃ vt,(.slice (some ⟨b_m19,0,none⟩) vs.length vs.length:Value)=vt:=⟨_,rfl⟩; rw [hvt] at hf hS; clear hvt; replace hS:=hS.eqM (N:=[sl 26 1 vt ((List.replicate vs.length (Value.slice none 0 0)).length) (List.replicate vs.length (Value.slice none 0 0)),mkA Ds2,sl 3 1 vo l.length (ints ord),pt bv (.cells #[vL] 26 (0,0)),pt b_owner3 (.cells #[.map (some b_m2)] 106 (0,0)),mp (Value.int .i64) b_m2 kv3,pt b_m1 (.cells #[iV fW,iV fH,vP] 61 (0,0))]) (by simp); refine aF<|W.seq<|W.seq<|?_
      refine R3 rfl<|mv hf rfl<|fun a hf=>ov hf rfl (aA.bP (e:=3) (by simpa using aB) rfl (hS.aL (j:=1) rfl)) fun a hf=>mv hf rfl fun a hf=>?_; refine nk<|W.block<|?_; have hoe:=Det.zf (P:=zs) hr hgr (by rw [Det.zH hof.1 (fun q hq=>hnf q (by omega))]; decide); have hfu3:∀ i ∈ l,0≤Det.ow o3 i∧Det.ow o3 i<(seeds.length:Int):=by rw [hoe]; exact hfu
      replace hS:St w0 _ noX BZ1201 [dH (dR 3 (List.replicate vs.length (Value.slice none 0 0)) (List.replicate vs.length [])),sl 26 1 vt ((List.replicate vs.length (Value.slice none 0 0)).length) (List.replicate vs.length (Value.slice none 0 0)),mkA Ds2,sl 3 1 vo l.length (ints ord),pt bv (.cells #[vL] 26 (0,0)),pt b_owner3 (.cells #[.map (some b_m2)] 106 (0,0)),mp (Value.int .i64) b_m2 kv3,pt b_m1 (.cells #[iV fW,iV fH,vP] 61 (0,0))]:=hS.wC 3 vs.length
      refine W.loop (G:=(Nat) × (List Value) × (List (List Int))) (fun g a w=>match g with | (k,us,outs)=>Fr a 117 (dz Ds2) [(6,.slice none 0 0),(7,(pp b_owner3)),(21,vt),(96,vL),(97,iV (l.length:Int)),(98,iV k)]∧St w0 w noX BZ1201 [dH (dR 3 us outs),sl 26 1 vt us.length us,mkA Ds2,sl 3 1 vo l.length (ints ord),pt bv (.cells #[vL] 26 (0,0)),pt b_owner3 (.cells #[.map (some b_m2)] 106 (0,0)),mp (Value.int .i64) b_m2 kv3,pt b_m1 (.cells #[iV fW,iV fH,vP] 61 (0,0))]∧(k≤l.length)∧(outs=Det.jq o3 l seeds.length k)∧(us.length=vs.length)∧(outs.length=vs.length)) (fun g=>match g with | (k,us,outs)=>l.length-k) (0,(List.replicate vs.length (Value.slice none 0 0)),(List.replicate vs.length [])) ?_ ?_
      · refine ⟨hf.to ⟨rfl,rfl,rfl,rfl,rfl,(by first | rfl | exact vI (by omega)),trivial⟩,hS,?_,?_,?_,?_⟩
        · omega
        · rw [Det.aDY,← hxl]
        · simp
        · simp
      clear hf hS a; rintro ⟨k,us,outs⟩ a w ⟨hf,hS,h6,h7,h8,h9⟩; refine W.seq ?_
      refine R1 rfl<|ov (v:=.bool (decide ((k:Int)<((l.length:Int):Int)))) hf rfl (aA.lss rfl rfl)<|fun a hf=>?_; refine nk<|W.seq<|?_; refine W.bJ hf rfl (fun hk3=>?_) (fun hk3=>?_)
      · refine W.skip ?_
        refine aF<|W.seq<|W.block<|W.seq<|?_
        refine R3 rfl<|ov hf rfl (aA.ixV (j:=k) (m:=k) aB aD rfl rfl (hS.aL (j:=1) rfl) rfl (by omega) (Nat.mul_one _))<|fun a hf=>ov hf rfl (aA.ld1 aH rfl (hS.aL (j:=1) rfl) (aI (by omega))) fun a hf=>mv hf rfl fun a hf=>?_; refine O.nil ?_; have hwr:=hfu3 _ (Det.bL (l:=l) (j:=k) (by omega)); have hnr:=hr _ (Det.bL (l:=l) (j:=k) (by omega)); have hin_:((outs.getD (Det.ow o3 (l.getD k 0)).toNat []).length:Int)≤10000:=by
          rw [h7,Det.zA (by omega)]; have e1:=List.length_filter_le (fun i=>decide (Det.ow o3 i=(((Det.ow o3 (l.getD k 0)).toNat:Nat):Int))) (l.take k); rw [List.length_take] at e1
          omega
        refine aF<|W.seq<|?_
        refine R4 rfl<|ov hf rfl (aA.aT iQ rfl (hS.p 5 rfl) rfl)<|fun a hf=>mv hf rfl fun a hf=>ov hf rfl (aA.yX (ok:=false) (k:=(l.getD k 0)) (kvs:=kv3) gY rfl rfl (hS.aA7 (j:=6) rfl) (hkv3.get (z:=iV 0) hnr.1 hwr.1)) fun a hf=>mv hf rfl fun a hf=>?_; refine O.nil ?_; have hsw:((Det.ow o3 (l.getD k 0)).toNat)<us.length:=by omega
        replace hS:=St.aCq (N:=[]) (s:=((Det.ow o3 (l.getD k 0)).toNat)) hS hsw; replace hS:St w0 _ noX BZ1201 [sl 3 1 (us.getD ((Det.ow o3 (l.getD k 0)).toNat) undef) ((outs.getD ((Det.ow o3 (l.getD k 0)).toNat) []).length) (ints (outs.getD ((Det.ow o3 (l.getD k 0)).toNat) [])),dH ((dR 3 us outs).eraseIdx ((Det.ow o3 (l.getD k 0)).toNat)),sl 26 1 vt us.length us,mkA Ds2,sl 3 1 vo l.length (ints ord),pt bv (.cells #[vL] 26 (0,0)),pt b_owner3 (.cells #[.map (some b_m2)] 106 (0,0)),mp (Value.int .i64) b_m2 kv3,pt b_m1 (.cells #[iV fW,iV fH,vP] 61 (0,0))]:=hS; refine aF ?_; replace hf:Fr a 117 (dz Ds2) [(6,.slice none 0 0),(7,(pp b_owner3)),(21,vt),(23,iV (l.getD k 0)),(24,iV (Det.ow o3 (l.getD k 0))),(96,vL),(97,iV (l.length:Int)),(98,iV k)]:=hf.q rfl
        refine W.aY (l:=[0,1,2,3,4,5,6,7,8,9,10]) rfl<|mv hf rfl<|fun a hf=>?_; refine mv hf rfl fun a hf=>mv hf rfl fun a hf=>mv hf rfl fun a hf=>ov hf rfl (aA.ixV (j:=(Det.ow o3 (l.getD k 0)).toNat) (m:=(Det.ow o3 (l.getD k 0)).toNat) ah ay rfl rfl (hS.slr (j:=2) rfl) (by rw [Int.toNat_of_nonneg hwr.1]) (by omega) (Nat.mul_one _)) fun a hf=>ov hf rfl (aA.ld1 bG rfl (hS.slr (j:=2) rfl) (gP (by omega))) fun a hf=>mv hf rfl fun a hf=>?_; refine O.buildSlice (cs':=#[iV (l.getD k 0)]) (zs:=#[iV 0]) hf hS rfl rfl aB aD bY rfl rfl rfl rfl rfl ?_; intro b_s21 w a hbb_s21 hS hf; refine O.fJ (j:=1) (jj:=0) hf hS rfl rfl aB aD gF bY rfl rfl rfl rfl rfl rfl rfl rfl (by unfold maxLen; omega) (by omega) ?_; intro v22 w a hS hf; replace hS:=hS.eqM (N:=[pt b_s21 (.cells #[iV (l.getD k 0)] 3 (0,0)),sl 3 1 v22 ((outs.getD ((Det.ow o3 (l.getD k 0)).toNat) []).length+1) (ints (outs.getD ((Det.ow o3 (l.getD k 0)).toNat) [])++[iV (l.getD k 0)]),dH ((dR 3 us outs).eraseIdx ((Det.ow o3 (l.getD k 0)).toNat)),sl 26 1 vt us.length us,mkA Ds2,sl 3 1 vo l.length (ints ord),pt bv (.cells #[vL] 26 (0,0)),pt b_owner3 (.cells #[.map (some b_m2)] 106 (0,0)),mp (Value.int .i64) b_m2 kv3,pt b_m1 (.cells #[iV fW,iV fH,vP] 61 (0,0))]) rfl; replace hS:=hS.eqM (N:=[pt b_s21 (.cells #[iV (l.getD k 0)] 3 (0,0)),sl 3 1 v22 (((outs.getD ((Det.ow o3 (l.getD k 0)).toNat) [])++[l.getD k 0]).length) (ints ((outs.getD ((Det.ow o3 (l.getD k 0)).toNat) [])++[l.getD k 0])),dH ((dR 3 us outs).eraseIdx ((Det.ow o3 (l.getD k 0)).toNat)),sl 26 1 vt us.length us,mkA Ds2,sl 3 1 vo l.length (ints ord),pt bv (.cells #[vL] 26 (0,0)),pt b_owner3 (.cells #[.map (some b_m2)] 106 (0,0)),mp (Value.int .i64) b_m2 kv3,pt b_m1 (.cells #[iV fW,iV fH,vP] 61 (0,0))]) (by rw [je]); refine ov hf rfl (aA.ixV (j:=(Det.ow o3 (l.getD k 0)).toNat) (m:=(Det.ow o3 (l.getD k 0)).toNat) ah ay rfl rfl (hS.slr (j:=3) rfl) (by rw [Int.toNat_of_nonneg hwr.1]) (by omega) (Nat.mul_one _)) fun a hf=>?_; have hcl23:=aQ.cells (hS.slr (j:=1) rfl); refine O.bF (j:=3) (m:=(Det.ow o3 (l.getD k 0)).toNat) (xs':=us.set ((Det.ow o3 (l.getD k 0)).toNat) v22) (M':=[pt b_s21 (.cells #[iV (l.getD k 0)] 3 (0,0)),sl 3 1 v22 (((outs.getD ((Det.ow o3 (l.getD k 0)).toNat) [])++[l.getD k 0]).length) (ints ((outs.getD ((Det.ow o3 (l.getD k 0)).toNat) [])++[l.getD k 0])),dH ((dR 3 us outs).eraseIdx ((Det.ow o3 (l.getD k 0)).toNat)),sl 26 1 vt us.length (us.set ((Det.ow o3 (l.getD k 0)).toNat) v22),mkA Ds2,sl 3 1 vo l.length (ints ord),pt bv (.cells #[vL] 26 (0,0)),pt b_owner3 (.cells #[.map (some b_m2)] 106 (0,0)),mp (Value.int .i64) b_m2 kv3,pt b_m1 (.cells #[iV fW,iV fH,vP] 61 (0,0))]) hf hS rfl rfl rfl ay hcl23.1 hcl23.2 rfl (by first | omega | (simp only [List.length_set]; omega)) rfl rfl rfl ?_; intro w hS; refine O.nil ?_; replace hS:St w0 _ noX BZ1201 [pt b_s21 (.cells #[iV (l.getD k 0)] 3 (0,0)),dH (dR 3 (us.set ((Det.ow o3 (l.getD k 0)).toNat) v22) (outs.set ((Det.ow o3 (l.getD k 0)).toNat) ((outs.getD ((Det.ow o3 (l.getD k 0)).toNat) [])++[l.getD k 0]))),sl 26 1 vt us.length (us.set ((Det.ow o3 (l.getD k 0)).toNat) v22),mkA Ds2,sl 3 1 vo l.length (ints ord),pt bv (.cells #[vL] 26 (0,0)),pt b_owner3 (.cells #[.map (some b_m2)] 106 (0,0)),mp (Value.int .i64) b_m2 kv3,pt b_m1 (.cells #[iV fW,iV fH,vP] 61 (0,0))]:=St.aDk (N:=[pt b_s21 (.cells #[iV (l.getD k 0)] 3 (0,0))]) hS hsw (by omega); refine aG<|aF<|?_; replace hf:Fr a 117 (dz Ds2) [(6,.slice none 0 0),(7,(pp b_owner3)),(21,vt),(23,iV (l.getD k 0)),(24,iV (Det.ow o3 (l.getD k 0))),(96,vL),(97,iV (l.length:Int)),(98,iV k)]:=hf.q rfl
        refine R2 rfl<|ov hf rfl (aA.ak rfl rfl (by omega))<|fun a hf=>mv hf rfl fun a hf=>?_; refine O.nil ?_; replace hS:=hS.sl [0,1,1,1,1,1,1,1,1]; refine aS ⟨(k+1,(us.set ((Det.ow o3 (l.getD k 0)).toNat) v22),(outs.set ((Det.ow o3 (l.getD k 0)).toNat) ((outs.getD ((Det.ow o3 (l.getD k 0)).toNat) [])++[l.getD k 0]))),⟨hf.to ⟨rfl,rfl,rfl,rfl,rfl,(by first | rfl | exact vI (by omega)),trivial⟩,?_,?_,?_,?_,?_⟩,?_⟩
        · exact hS.eqM (by simp only [List.length_set])
        · omega
        · rw [h7,Det.aAW (by omega) hwr]
        · simp only [List.length_set]; exact h8
        · simp only [List.length_set]; exact h9
        · dsimp only; omega
      · refine W.exit ?_
        refine aC<|aC<|bD<|aF<|W.seq<|?_
        refine R2 rfl<|mv hf rfl<|fun a hf=>mv hf rfl fun a hf=>?_; refine nk<|W.ret<|aAS<|?_; replace hS:=hS.front (i:=2) (M':=[mkA Ds2,dH (dR 3 us outs),sl 26 1 vt us.length us,sl 3 1 vo l.length (ints ord),pt bv (.cells #[vL] 26 (0,0)),pt b_owner3 (.cells #[.map (some b_m2)] 106 (0,0)),mp (Value.int .i64) b_m2 kv3,pt b_m1 (.cells #[iV fW,iV fH,vP] 61 (0,0))]) rfl rfl; refine kC hS hf ?_; clear hS hf a; intro w a hf hS; refine bH hf rfl (aO.tmp rfl) ?_; obtain rfl:k=l.length:=by omega
        replace hS:=hS.aBJ (j:=0) rfl (by omega); have h7e:outs=Det.dM zs fW fH l seeds:=by rw [h7,hoe,Det.aA0]
        rw [h7e] at hS; replace hS:=hS.front (i:=0) (M':=[inn us (Det.dM zs fW fH l seeds),sl 26 1 vt us.length us,sl 3 1 vo l.length (ints ord),pt bv (.cells #[vL] 26 (0,0)),pt b_owner3 (.cells #[.map (some b_m2)] 106 (0,0)),mp (Value.int .i64) b_m2 kv3,pt b_m1 (.cells #[iV fW,iV fH,vP] 61 (0,0))]) rfl rfl; replace hS:=hS.front (i:=1) (M':=[sl 26 1 vt us.length us,inn us (Det.dM zs fW fH l seeds),sl 3 1 vo l.length (ints ord),pt bv (.cells #[vL] 26 (0,0)),pt b_owner3 (.cells #[.map (some b_m2)] 106 (0,0)),mp (Value.int .i64) b_m2 kv3,pt b_m1 (.cells #[iV fW,iV fH,vP] 61 (0,0))]) rfl rfl; exact ⟨(vt,us),rfl,(hS.sub (.cons_cons _ (.cons_cons _ (.cons _ (.cons _ (.cons _ (.cons _ (.cons _ .slnil)))))))).noB⟩
set_option maxHeartbeats 1000000 in
set_option maxRecDepth 4000 in
theorem aCY (vL:Value) (l:List Int) (w0:World) (hne:l≠[]) (hll:l.length≤10000) (hL:aQ (hp w0) 1 vL l.length (ints l)) :
    Ret Tryz.prog 53 #[vL] w0 (G:=Value) (fun v=>v) (fun v w=>St w0 w noX [] [sl 3 1 v l.length (ints l)]):=by
  refine aR (lv:=[vL]) Tryz.func53 rfl rfl rfl (fun a hf=>?_); replace hf:Fr a 8 [] [(0,vL)]:=hf; have hS:St w0 w0 noX [rI vL l] []:=(St.refl w0).bO hL; obtain ⟨ad,c,hv⟩  :=aBd hL hne; have hlm:=hL.2.1; refine W.seq ?_
  refine R1 rfl<|mv hf rfl<|fun a hf=>?_; refine nk<|W.seq<|W.seq<|?_
  refine R2 rfl<|mv hf rfl<|fun a hf=>ov hf rfl (aA.aDp aB hv rfl rfl) fun a hf=>?_; refine nk<|W.jI hf rfl<|W.skip<|aF<|W.seq<|?_
  refine R4 rfl<|O.kU hf hS rfl rfl aB aD rfl<|?_; intro b_s1 w a hbb_s1 hS hf; replace hS:St w0 w noX [rI vL l] [sl 3 1 (.slice (some ⟨b_s1,0,none⟩) 0 0) (([]:List Int).length) (ints [])]:=hS; refine mv hf rfl fun a hf=>?_; refine O.tZ (j:=0) hf hS rfl rfl aB aD gF bY rfl rfl rfl rfl rfl (hS.aL (j:=0) rfl) (lS _) (by unfold maxLen; simp only [List.length_nil]; omega) (by simp only [List.length_nil]; omega) ?_; intro v2 w a hS hf; replace hS:=hS.eqM (N:=[sl 3 1 v2 (([]:List Int).length+l.length) (ints []++ints l)]) rfl; replace hS:=hS.eqM (N:=[sl 3 1 v2 l.length (ints l)]) (by simp only [o7,List.length_append,List.length_nil,Nat.zero_add,List.nil_append,ints,List.map_nil]); refine mv hf rfl fun a hf=>?_; refine nk<|W.ret<|bH hf rfl (aO.tmp rfl)<|?_; exact ⟨v2,rfl,hS.noB⟩
set_option maxHeartbeats 1000000 in
set_option maxRecDepth 4000 in
theorem aEN (b1 b2 b3 b4:Nat) (xss:List (List Int)) (BL:List Asr) (w0:World) (hit:IterM Tryz.prog 51 #[(pp b1),(pp b2),(pp b3),(pp b4)] 3 xss BL) (hB0:∀ p ∈ BL,p.holds (hp w0)∧∀ b,p.fp b→b<w0.heap.size) (hxl:xss.length≤10000) :
    Ret Tryz.prog 50 #[.slice none 0 0,.func (.func 51) #[] #[(pp b1),(pp b2),(pp b3),(pp b4)]] w0 (G:=Value × List Value) (fun g=>g.1) (fun g w=>St w0 w noX [] [sl 26 1 g.1 g.2.length g.2,inn g.2 xss]):=by
  refine iU (lv:=[.slice none 0 0,.func (.func 51) #[] #[(pp b1),(pp b2),(pp b3),(pp b4)]]) Tryz.func50 rfl rfl rfl (fun a hf=>?_); replace hf:Fr a 13 [] [(0,.slice none 0 0),(1,.func (.func 51) #[] #[(pp b1),(pp b2),(pp b3),(pp b4)])]:=hf; have hS:St w0 w0 noX BL []:=St.borrow hB0; refine W.seq ?_
  refine R2 rfl<|O.box (cs:=#[.slice none 0 0]) hf hS rfl rfl rfl rfl<|?_; intro b_s1 w a hbb_s1 hS hf; refine mv hf rfl fun a hf=>?_; refine nk<|W.seq<|W.seq<|?_
  refine R1 rfl<|mv hf rfl<|fun a hf=>?_; refine nk<|W.block<|?_; replace hS:St w0 _ noX BL [sl 26 1 (.slice none 0 0) (([]:List Value).length) ([]),pt b_s1 (.cells #[(.slice none 0 0)] 28 (0,0))]:=hS.jN 26 1; replace hS:St w0 _ noX BL [dH (dR 3 [] []),sl 26 1 (.slice none 0 0) (([]:List Value).length) ([]),pt b_s1 (.cells #[(.slice none 0 0)] 28 (0,0))]:=hS.wC 3 0; replace hS:=hS.mk0; replace hf:Fr a 13 (dz []) [(2,_),(4,_),(6,_)]:=hf.q rfl; replace hS:=hS.front (i:=1) (M':=[dH (dR 3 [] []),mkA ([]),sl 26 1 (.slice none 0 0) (([]:List Value).length) ([]),pt b_s1 (.cells #[(.slice none 0 0)] 28 (0,0))]) rfl rfl; replace hS:=hS.front (i:=2) (M':=[sl 26 1 (.slice none 0 0) (([]:List Value).length) ([]),dH (dR 3 [] []),mkA ([]),pt b_s1 (.cells #[(.slice none 0 0)] 28 (0,0))]) rfl rfl; replace hS:=hS.front (i:=3) (M':=[pt b_s1 (.cells #[(.slice none 0 0)] 28 (0,0)),sl 26 1 (.slice none 0 0) (([]:List Value).length) ([]),dH (dR 3 [] []),mkA ([])]) rfl rfl
  refine W.qJ (G:=(Value) × (List Value) × (List (List Int))) (e:=3) (xss:=xss) (fun x=>(5,x)::[(2,(pp b_s1))]) (fun g=>match g with | (vt,us,outs)=>[pt b_s1 (.cells #[vt] 28 (0,0)),sl 26 1 vt us.length us,dH (dR 3 us outs)]) [mkA ([])] BL (fun j g=>match g with | (vt,us,outs)=>(outs=xss.take j)∧(us.length=outs.length)) ((.slice none 0 0),[],[]) hf rfl rfl sU hS ?_ (hit) ?_ ?_ ?_ ?_
  · refine ⟨?_,?_⟩
    · rfl
    · rfl
  · clear hf hS; intro w1 X1 M1 hS
    exact fun p hp=>hS.lt (by simp [hp])
  · intro l x w a hf
    refine R1 rfl<|ov (v:=x) hf rfl (aA.assign rfl) fun a hf=>?_; refine O.nil ⟨rfl,hf.q rfl,rfl⟩
  · clear hf hS; rintro lr o_ D j x v ⟨vt,us,outs⟩ w0 hx ⟨h5,h6⟩ hO hS a hf
    obtain ⟨Xb,hXb⟩:∃ q,q=fps [sl 3 1 v x.length (ints x),pt lr o_,pt D (.deferred (some [])),pt b_s1 (.cells #[vt] 28 (0,0)),sl 26 1 vt us.length us,dH (dR 3 us outs)]:=⟨_,rfl⟩; replace hS:St w0 w0 Xb (mkA ([])::BL) [sl 3 1 v x.length (ints x),pt lr o_,pt D (.deferred (some [])),pt b_s1 (.cells #[vt] 28 (0,0)),sl 26 1 vt us.length us,dH (dR 3 us outs)]:=by rw [hXb]; exact hS
    have hxl:=(hS.iJ (j:=0) rfl).nle; unfold maxLen at hxl; have hjx:=(List.getElem?_eq_some_iff.1 hx).1; have hol:outs.length=j:=by rw [h5,List.length_take]; omega
    refine W.block ?_
    refine R5 rfl<|ov hf rfl (aA.aT u7 rfl (hS.p 3 rfl) rfl)<|fun a hf=>mv hf rfl fun a hf=>?_; have hcl3:=aQ.cells (hS.slr (j:=0) rfl); refine O.buildSlice (cs':=#[v]) (zs:=#[.slice none 0 0]) hf hS rfl rfl ah ay cu rfl rfl rfl rfl (by first | (simp only [Instr.fill,hcl3.1]; rfl) | simp [Instr.fill,hcl3.1]) ?_; intro b_s2 w a hbb_s2 hS hf; have hcl4:=aQ.cells (hS.slr (j:=1) rfl); refine O.fJ (j:=5) (jj:=0) hf hS rfl rfl ah ay iX cu rfl rfl rfl rfl rfl rfl rfl hcl4.2 (by unfold maxLen; omega) (by omega) ?_; intro v5 w a hS hf; replace hS:=hS.eqM (N:=[pt b_s2 (.cells #[v] 26 (0,0)),sl 3 1 v x.length (ints x),pt lr o_,pt D (.deferred (some [])),pt b_s1 (.cells #[vt] 28 (0,0)),sl 26 1 v5 ((us++[v]).length) (us++[v]),dH (dR 3 us outs)]) (by rw [List.length_append]; rfl); have hcl6:=aQ.cells (hS.slr (j:=5) rfl); refine O.store (m:=1) (j:=4) (cs':=#[v5]) (M':=[pt b_s2 (.cells #[v] 26 (0,0)),sl 3 1 v x.length (ints x),pt lr o_,pt D (.deferred (some [])),pt b_s1 (.cells #[v5] 28 (0,0)),sl 26 1 v5 ((us++[v]).length) (us++[v]),dH (dR 3 us outs)]) hf hS rfl rfl rfl zo (by rw [hcl6.1]; rfl) (by rw [hcl6.1]; exact hcl6.2) rfl (bl rfl) (by rw [hcl6.1]; rfl) rfl ?_; intro w hS; refine O.nil<|aG<|?_; replace hS:=hS.front (i:=6) (M':=[dH (dR 3 us outs),pt b_s2 (.cells #[v] 26 (0,0)),sl 3 1 v x.length (ints x),pt lr o_,pt D (.deferred (some [])),pt b_s1 (.cells #[v5] 28 (0,0)),sl 26 1 v5 ((us++[v]).length) (us++[v])]) rfl rfl; replace hS:=hS.front (i:=2) (M':=[sl 3 1 v x.length (ints x),dH (dR 3 us outs),pt b_s2 (.cells #[v] 26 (0,0)),pt lr o_,pt D (.deferred (some [])),pt b_s1 (.cells #[v5] 28 (0,0)),sl 26 1 v5 ((us++[v]).length) (us++[v])]) rfl rfl; replace hS:St w0 _ Xb (mkA ([])::BL) [dH (dR 3 (us++[v]) (outs++[x])),pt b_s2 (.cells #[v] 26 (0,0)),pt lr o_,pt D (.deferred (some [])),pt b_s1 (.cells #[v5] 28 (0,0)),sl 26 1 v5 ((us++[v]).length) (us++[v])]:=hS.aCp (by omega); replace hS:=hS.front (i:=0) (M':=[dH (dR 3 (us++[v]) (outs++[x])),pt b_s2 (.cells #[v] 26 (0,0)),pt lr o_,pt D (.deferred (some [])),pt b_s1 (.cells #[v5] 28 (0,0)),sl 26 1 v5 ((us++[v]).length) (us++[v])]) rfl rfl; replace hS:=hS.front (i:=5) (M':=[sl 26 1 v5 ((us++[v]).length) (us++[v]),dH (dR 3 (us++[v]) (outs++[x])),pt b_s2 (.cells #[v] 26 (0,0)),pt lr o_,pt D (.deferred (some [])),pt b_s1 (.cells #[v5] 28 (0,0))]) rfl rfl; replace hS:=hS.front (i:=5) (M':=[pt b_s1 (.cells #[v5] 28 (0,0)),sl 26 1 v5 ((us++[v]).length) (us++[v]),dH (dR 3 (us++[v]) (outs++[x])),pt b_s2 (.cells #[v] 26 (0,0)),pt lr o_,pt D (.deferred (some []))]) rfl rfl; replace hS:=hS.front (i:=5) (M':=[pt D (.deferred (some [])),pt b_s1 (.cells #[v5] 28 (0,0)),sl 26 1 v5 ((us++[v]).length) (us++[v]),dH (dR 3 (us++[v]) (outs++[x])),pt b_s2 (.cells #[v] 26 (0,0)),pt lr o_]) rfl rfl; replace hS:=hS.front (i:=5) (M':=[pt lr o_,pt D (.deferred (some [])),pt b_s1 (.cells #[v5] 28 (0,0)),sl 26 1 v5 ((us++[v]).length) (us++[v]),dH (dR 3 (us++[v]) (outs++[x])),pt b_s2 (.cells #[v] 26 (0,0))]) rfl rfl; replace hS:=(hS.sub (N:=[pt lr o_,pt D (.deferred (some [])),pt b_s1 (.cells #[v5] 28 (0,0)),sl 26 1 v5 ((us++[v]).length) (us++[v]),dH (dR 3 (us++[v]) (outs++[x]))]) (.cons_cons _ (.cons_cons _ (.cons_cons _ (.cons_cons _ (.cons_cons _ (.cons _ .slnil))))))).noB; rw [hXb] at hS; refine ⟨rfl,(v5,(us++[v]),(outs++[x])),⟨?_,?_⟩,hS⟩
    · rw [h5,yZ hx]
    · simp only [List.length_append,List.length_singleton]; omega
  clear hf hS; rintro D ⟨vt,us,outs⟩ a w ⟨h5,h6⟩ hS hf; replace hS:St w0 w noX BL [pt D (.deferred (some [])),pt b_s1 (.cells #[vt] 28 (0,0)),sl 26 1 vt us.length us,dH (dR 3 us outs),mkA ([])]:=hS; replace hS:=hS.front (i:=4) (M':=[mkA ([]),pt D (.deferred (some [])),pt b_s1 (.cells #[vt] 28 (0,0)),sl 26 1 vt us.length us,dH (dR 3 us outs)]) rfl rfl; replace hS:=hS.front (i:=1) (M':=[pt D (.deferred (some [])),mkA ([]),pt b_s1 (.cells #[vt] 28 (0,0)),sl 26 1 vt us.length us,dH (dR 3 us outs)]) rfl rfl; replace hS:=hS.mY (M:=[pt b_s1 (.cells #[vt] 28 (0,0)),sl 26 1 vt us.length us,dH (dR 3 us outs)]); replace hf:Fr a 13 (dz (D::[])) [(2,_),(4,_),(6,_)]:=hf.q rfl; refine aG<|aF<|W.seq<|?_
  refine R2 rfl<|ov hf rfl (aA.aT u7 rfl (hS.p 1 rfl) rfl)<|fun a hf=>mv hf rfl fun a hf=>?_; refine nk<|W.ret<|?_; refine kC hS hf ?_; clear hS hf a; intro w a hf hS; refine bH hf rfl (aO.tmp rfl) ?_; rw [List.take_length] at h5; rw [h5] at hS; replace hS:=hS.aBJ (j:=2) rfl (by rw [h6,h5]); replace hS:=hS.front (i:=2) (M':=[inn us xss,pt b_s1 (.cells #[vt] 28 (0,0)),sl 26 1 vt us.length us]) rfl rfl; replace hS:=hS.front (i:=2) (M':=[sl 26 1 vt us.length us,inn us xss,pt b_s1 (.cells #[vt] 28 (0,0))]) rfl rfl; exact ⟨(vt,us),rfl,(hS.sub (.cons_cons _ (.cons_cons _ (.cons _ .slnil)))).noB⟩
set_option maxHeartbeats 1000000 in
set_option maxRecDepth 4000 in
theorem aEz (b1 b2 b3 b4:Nat) (xss:List (List Int)) (BL:List Asr) (w0:World) (hit:IterM Tryz.prog 51 #[(pp b1),(pp b2),(pp b3),(pp b4)] 3 xss BL) (hB0:∀ p ∈ BL,p.holds (hp w0)∧∀ b,p.fp b→b<w0.heap.size) (hxl:xss.length≤10000) :
    Ret Tryz.prog 28 #[.func (.func 51) #[] #[(pp b1),(pp b2),(pp b3),(pp b4)]] w0 (G:=Value × List Value) (fun g=>g.1) (fun g w=>St w0 w noX [] [sl 26 1 g.1 g.2.length g.2,inn g.2 xss]):=by
  refine aR (lv:=[.func (.func 51) #[] #[(pp b1),(pp b2),(pp b3),(pp b4)]]) Tryz.func28 rfl rfl rfl (fun a hf=>?_); replace hf:Fr a 5 [] [(0,.func (.func 51) #[] #[(pp b1),(pp b2),(pp b3),(pp b4)])]:=hf; have hS:St w0 w0 noX [] []:=St.refl w0; refine W.seq ?_
  refine R1 rfl<|mv hf rfl<|fun a hf=>?_; refine nk<|W.seq<|?_
  refine R3 rfl<|mv hf rfl<|fun a hf=>?_; refine oc hf rfl aB2 (aEN b1 b2 b3 b4 xss BL _ hit hB0 hxl) ?_; clear hf a; rintro ⟨vc,us⟩ w1 hS1 a hf; try dsimp only at hS1 hf; replace hS:=hS.cl hS1; refine mv hf rfl fun a hf=>?_; refine nk<|W.ret<|bH hf rfl (aO.tmp rfl)<|?_; exact ⟨(vc,us),rfl,hS.noB⟩
set_option maxHeartbeats 1000000 in
set_option maxRecDepth 4000 in
theorem aBO (fW fH:Nat) (least:Int) (vP vL vv:Value) (zs l lv:List Int) (w0:World) (hP:aQ (hp w0) 1 vP zs.length (ints zs)) (hL:aQ (hp w0) 1 vL l.length (ints l)) (hv:aQ (hp w0) 1 vv lv.length (ints lv)) :
    Ret Tryz.prog 29 #[(fG fW fH vP),vL,vv,iV least] w0 (G:=Nat × Nat × Nat × Nat) (fun g=>.func (.func 51) #[] #[.pointer (some ⟨g.1,0,none⟩),.pointer (some ⟨g.2.1,0,none⟩),.pointer (some ⟨g.2.2.1,0,none⟩),.pointer (some ⟨g.2.2.2,0,none⟩)]) (fun g w=>St w0 w noX [] [pt g.1 (.cells #[vv] 22 (0,0)),pt g.2.1 (.cells #[vL] 26 (0,0)),pt g.2.2.1 (.cells #[iV fW,iV fH,vP] 61 (0,0)),pt g.2.2.2 (.cells #[iV least] 3 (0,0))]):=by
  refine aR (lv:=[(fG fW fH vP),vL,vv,iV least]) Tryz.func29 rfl rfl rfl (fun a hf=>?_); replace hf:Fr a 10 [] [(0,(fG fW fH vP)),(1,vL),(2,vv),(3,iV least)]:=hf; have hS:St w0 w0 noX [rI vP zs,rI vL l,rI vv lv] []:=(((St.refl w0).bO hv).bO hL).bO hP; refine W.seq ?_
  refine R5 rfl<|O.box (cs:=#[iV fW,iV fH,vP]) hf hS rfl rfl rfl rfl<|?_; intro b_m1 w a hbb_m1 hS hf; have hcl3:=aQ.cells (hS.aL (j:=1) rfl); refine O.box (cs:=#[vL]) hf hS rfl rfl rfl hcl3.1 ?_; intro b_pixels2 w a hbb_pixels2 hS hf; have hcl5:=aQ.cells (hS.aL (j:=2) rfl); refine O.box (cs:=#[vv]) hf hS rfl rfl rfl hcl5.1 ?_; intro b_levels4 w a hbb_levels4 hS hf; refine O.box (cs:=#[iV least]) hf hS rfl rfl rfl rfl ?_; intro b_least6 w a hbb_least6 hS hf; refine mv hf rfl fun a hf=>?_; refine nk<|W.seq<|?_
  refine R2 rfl<|ov (v:=.func (.func 51) #[] #[(pp b_levels4),(pp b_pixels2),(pp b_m1),(pp b_least6)]) hf rfl (aA.makeFunc rfl rfl rfl rfl)<|fun a hf=>mv hf rfl fun a hf=>?_; refine nk<|W.ret<|bH hf rfl (aO.tmp rfl)<|?_; replace hS:=hS.fr 0; replace hS:=hS.fr 3; replace hS:=hS.fr 3; replace hS:=hS.fr 3; exact ⟨(b_levels4,b_pixels2,b_m1,b_least6),rfl,hS.noB⟩
abbrev o6 (fW fH:Nat) (least:Int) (vP vL vv:Value) (zs l lv:List Int) (b1 b2 b3 b4:Nat):List Asr:=[pt b1 (.cells #[vv] 22 (0,0)),pt b2 (.cells #[vL] 26 (0,0)),pt b3 (.cells #[iV fW,iV fH,vP] 61 (0,0)),pt b4 (.cells #[iV least] 3 (0,0)),rI vP zs,rI vL l,rI vv lv]
def aEQ (fW fH:Nat) (least:Int) (vP:Value) (zs lv:List Int):Prop:=∀ (b1 b2 b3 b4:Nat) (vL vv:Value) (l:List Int),Det.SetOK fW fH l→vfit vv→IterM Tryz.prog 51 #[(pp b1),(pp b2),(pp b3),(pp b4)] 3 (Det.bA zs fW fH least lv l) (o6 fW fH least vP vL vv zs l lv b1 b2 b3 b4)
theorem aB3 (fW fH bm:Nat) (least lw:Int) (vP:Value) (zs l:List Int) (ins:List Bool) (w0:World) (hW:1≤fW∧fW≤100) (hH:1≤fH∧fH≤100) (hi:ins.length=fW*fH) (he:ins=Det.inM zs (fW*fH) l lw) (hm:jC (hp w0) bm ins) :
    Ret Tryz.prog 44 #[(fG fW fH vP),.map (some bm),iV least] w0 (G:=Value × List Value) (fun g=>g.1) (fun g w=>St w0 w (fun k=>k=bm) [] [sl 26 1 g.1 g.2.length g.2,inn g.2 (Det.bN zs fW fH least l lw)]):=by
  have h:=mV fW fH bm least vP ins w0 hW hH hi hm; rw [hi] at h; unfold Det.bN; rw [← he]; exact h
set_option maxHeartbeats 1000000 in
set_option maxRecDepth 4000 in
theorem aE4 (fW fH:Nat) (least:Int) (vP vL vv:Value) (zs l lv:List Int) (b1 b2 b3 b4 l0:Nat) (w0:World) (γ:Type) (U:γ→Asr) (Fc:Nat→γ→Prop) (g0:γ) (hW:1≤fW∧fW≤100) (hH:1≤fH∧fH≤100) (hn:zs.length=fW*fH) (hls:1≤least) (hok:Det.SetOK fW fH l) (hft:vfit vv) (ih:∀ n,n<lv.length→aEQ fW fH least vP zs (lv.drop (n+1))) (hF:Fc 0 g0) (hS0:St w0 w0 (fps [U g0]) [pt b1 (.cells #[vv] 22 (0,0)),pt b2 (.cells #[vL] 26 (0,0)),pt b3 (.cells #[iV fW,iV fH,vP] 61 (0,0)),pt b4 (.cells #[iV least] 3 (0,0)),rI vP zs,rI vL l,rI vv lv] [U g0]) (hround:∀ k x,(Det.bA zs fW fH least lv l)[k]? = some x→∀ g' v w,Fc k g'→St w0 w (fps [U g0]) [] [sl 3 1 v x.length (ints x),U g']→YieldAt (FW none) 0 Tryz.prog l0 #[v] w (fun e' w'=>e'=.returned (.bool true)∧∃ g'',Fc (k+1) g''∧St w w' (fps [sl 3 1 v x.length (ints x),U g']) [] [U g''])) :
    Ret Tryz.prog 51 #[(.func (.yield l0) #[] #[]),(pp b1),(pp b2),(pp b3),(pp b4)] w0 (G:=γ) (fun _=>.tuple #[]) (fun g w=>Fc (Det.bA zs fW fH least lv l).length g∧St w0 w (fps [U g0]) [] [U g]):=by
  refine iU (lv:=[(.func (.yield l0) #[] #[]),(pp b1),(pp b2),(pp b3),(pp b4)]) Tryz.func51 rfl rfl rfl (fun a hf=>?_); replace hf:Fr a 75 [] [(0,(.func (.yield l0) #[] #[])),(1,(pp b1)),(2,(pp b2)),(3,(pp b3)),(4,(pp b4))]:=hf; have hS:St w0 w0 (fps [U g0]) [pt b1 (.cells #[vv] 22 (0,0)),pt b2 (.cells #[vL] 26 (0,0)),pt b3 (.cells #[iV fW,iV fH,vP] 61 (0,0)),pt b4 (.cells #[iV least] 3 (0,0)),rI vP zs,rI vL l,rI vv lv] [U g0]:=hS0; have hN:fW*fH≤10000:=Nat.mul_le_mul hW.2 hH.2; have hlen:=(hS0.aL (j:=5) rfl).2.1; unfold maxLen at hlen; have hlev:=(hS0.aL (j:=6) rfl).2.1; unfold maxLen at hlev; have hl:=hok.asc; have hr:=hok.rng; have hll:l.length≤10000:=Det.jT hl hr hN; refine W.seq ?_
  refine R1 rfl<|O.box (cs:=#[(.func (.yield l0) #[] #[])]) hf hS rfl rfl rfl rfl<|?_; intro b_yield1 w a hbb_yield1 hS hf; refine nk<|W.seq<|W.seq<|?_
  refine R3 rfl<|ov hf rfl (aA.aT bB rfl (hS.fM (i:=0) rfl) rfl)<|fun a hf=>ov hf rfl (aA.bP (e:=2) (by simpa using aN) rfl (hS.aL (j:=6) rfl)) fun a hf=>mv hf rfl fun a hf=>?_; refine nk<|W.block<|?_
  refine W.loop (G:=(Nat)) (fun g a w=>match g with | n=>Fr a 75 [] [(1,(pp b1)),(2,(pp b2)),(3,(pp b3)),(4,(pp b4)),(5,(pp b_yield1)),(15,vv),(16,iV (lv.length:Int)),(17,iV n)]∧St w0 w (fps [U g0]) [pt b1 (.cells #[vv] 22 (0,0)),pt b2 (.cells #[vL] 26 (0,0)),pt b3 (.cells #[iV fW,iV fH,vP] 61 (0,0)),pt b4 (.cells #[iV least] 3 (0,0)),rI vP zs,rI vL l,rI vv lv] [pt b_yield1 (.cells #[(.func (.yield l0) #[] #[])] 62 (0,0)),U g0]∧(n≤lv.length)∧(Det.bA zs fW fH least (lv.drop n) l=(Det.bA zs fW fH least lv l))) (fun g=>match g with | n=>lv.length-n) 0 ?_ ?_
  · refine ⟨hf.to ⟨rfl,rfl,rfl,rfl,rfl,rfl,rfl,(by first | rfl | exact vI (by omega)),trivial⟩,hS,?_,?_⟩
    · omega
    · rw [List.drop_zero]
  clear hf hS a; rintro n a w ⟨hf,hS,h1,hd⟩; refine W.seq ?_
  refine R1 rfl<|ov (v:=.bool (decide ((n:Int)<((lv.length:Int):Int)))) hf rfl (aA.lss rfl rfl)<|fun a hf=>?_; refine nk<|W.seq<|?_; refine W.bJ hf rfl (fun hn1=>?_) (fun hn1=>?_)
  · refine W.skip ?_
    refine aF<|W.seq<|W.block<|W.seq<|?_
    refine R5 rfl<|mv hf rfl<|fun a hf=>ov hf rfl (aA.ixV (j:=n) (m:=n) aN bE rfl rfl (hS.aL (j:=6) rfl) rfl (by omega) (Nat.mul_one _)) fun a hf=>ov hf rfl (aA.ld1 bT rfl (hS.aL (j:=6) rfl) (aI (by omega))) fun a hf=>mv hf rfl fun a hf=>mv hf rfl fun a hf=>?_; refine nk<|W.seq<|?_
    refine R2 rfl<|O.makeMap hf hS rfl rfl (List.replicate (fW*fH) false) (Det.oQ _)<|?_; intro b_m3 w a hbb_m3 hS hf; refine mv hf rfl fun a hf=>?_; refine nk<|W.seq<|W.seq<|?_
    refine R3 rfl<|ov hf rfl (aA.aT bG rfl (hS.fM (i:=1) rfl) rfl)<|fun a hf=>ov hf rfl (aA.bP (e:=3) (by simpa using aB) rfl (hS.aL (j:=5) rfl)) fun a hf=>mv hf rfl fun a hf=>?_; refine nk<|W.block<|?_
    refine W.loop (G:=(Nat) × (List Bool)) (fun g a w=>match g with | (k,ins)=>Fr a 75 [] [(1,(pp b1)),(2,(pp b2)),(3,(pp b3)),(4,(pp b4)),(5,(pp b_yield1)),(6,iV n),(7,iV (lv.getD n 0)),(8,.map (some b_m3)),(15,vv),(16,iV (lv.length:Int)),(17,iV n),(23,vL),(24,iV (l.length:Int)),(25,iV k)]∧St w0 w (fps [U g0]) [pt b1 (.cells #[vv] 22 (0,0)),pt b2 (.cells #[vL] 26 (0,0)),pt b3 (.cells #[iV fW,iV fH,vP] 61 (0,0)),pt b4 (.cells #[iV least] 3 (0,0)),rI vP zs,rI vL l,rI vv lv] [ms b_m3 ins,pt b_yield1 (.cells #[(.func (.yield l0) #[] #[])] 62 (0,0)),U g0]∧(k≤l.length)∧(ins=Det.inM zs (fW*fH) (l.take k) (lv.getD n 0))∧(ins.length=fW*fH)) (fun g=>match g with | (k,ins)=>l.length-k) (0,(List.replicate (fW*fH) false)) ?_ ?_
    · refine ⟨hf.to ⟨rfl,rfl,rfl,rfl,rfl,rfl,rfl,rfl,rfl,rfl,rfl,rfl,rfl,(by first | rfl | exact vI (by omega)),trivial⟩,hS,?_,?_,?_⟩
      · omega
      · rw [List.take_zero,Det.aE6]
      · simp
    clear hf hS a; rintro ⟨k,ins⟩ a w ⟨hf,hS,h2,h3,h4⟩; refine W.seq ?_
    refine R1 rfl<|ov (v:=.bool (decide ((k:Int)<((l.length:Int):Int)))) hf rfl (aA.lss rfl rfl)<|fun a hf=>?_; refine nk<|W.seq<|?_; refine W.bJ hf rfl (fun hk1=>?_) (fun hk1=>?_)
    · refine W.skip ?_
      refine aF<|W.seq<|W.block<|W.seq<|?_
      refine R3 rfl<|ov hf rfl (aA.ixV (j:=k) (m:=k) aB aD rfl rfl (hS.aL (j:=5) rfl) rfl (by omega) (Nat.mul_one _))<|fun a hf=>ov hf rfl (aA.ld1 aH rfl (hS.aL (j:=5) rfl) (aI (by omega))) fun a hf=>mv hf rfl fun a hf=>?_; refine O.nil ?_; have hnr:=hr _ (Det.bL (l:=l) (j:=k) (by omega)); refine aF<|W.seq<|?_
      refine W.aY (l:=[0,1,2,3,4,5,6,7]) rfl<|ov hf rfl (aA.field dI rfl rfl)<|fun a hf=>?_; refine ov hf rfl (aA.field aP rfl rfl) fun a hf=>ov hf rfl (aA.aT bB rfl (hS.fM (i:=2) rfl) rfl) fun a hf=>mv hf rfl fun a hf=>ov hf rfl (aA.ixV (j:=(Int.toNat (l.getD k 0))) (m:=(Int.toNat (l.getD k 0))) aN bE rfl rfl (hS.aL (j:=4) rfl) (by rw [Int.toNat_of_nonneg (by omega)]) (by omega) (Nat.mul_one _)) fun a hf=>ov hf rfl (aA.ld1 bT rfl (hS.aL (j:=4) rfl) (aI (by omega))) fun a hf=>mv hf rfl fun a hf=>ov (v:=.bool (decide ((zs.getD (Int.toNat (l.getD k 0)) 0)≥(lv.getD n 0:Int)))) hf rfl (aA.geq rfl rfl) fun a hf=>?_; refine nk ?_; refine W.bJ hf rfl (fun hge=>?_) (fun hge=>?_)
      ·
        refine R3 rfl ?_; rw [show l.getD k 0=(((l.getD k 0).toNat:Nat):Int) from by omega] at hf; refine mv hf rfl fun a hf=>mv hf rfl fun a hf=>?_; refine O.uG (j:=0) hf hS rfl iF rfl rfl rfl rfl (by omega) rfl ?_; intro w hS; refine O.nil<|aG<|aF<|?_
        refine R2 rfl<|ov hf rfl (aA.ak rfl rfl (by omega))<|fun a hf=>mv hf rfl fun a hf=>?_; refine O.nil ?_; refine aS ⟨(k+1,ins.set ((l.getD k 0).toNat) true),⟨hf.to ⟨rfl,rfl,rfl,rfl,rfl,rfl,rfl,rfl,rfl,rfl,rfl,rfl,rfl,(by first | rfl | exact vI (by omega)),trivial⟩,?_,?_,?_,?_⟩,?_⟩
        · exact hS.eqM rfl
        · omega
        · rw [h3]; exact (Det.aCM (by omega) (fun x hx=>(hr x hx).1) (Det.aBY hl (by omega)) hge).symm
        · rw [List.length_set]; exact h4
        · dsimp only; omega
      · refine W.skip ?_
        refine aG<|aF<|?_
        refine R2 rfl<|ov hf rfl (aA.ak rfl rfl (by omega))<|fun a hf=>mv hf rfl fun a hf=>?_; refine O.nil ?_; refine aS ⟨(k+1,ins),⟨hf.to ⟨rfl,rfl,rfl,rfl,rfl,rfl,rfl,rfl,rfl,rfl,rfl,rfl,rfl,(by first | rfl | exact vI (by omega)),trivial⟩,?_,?_,?_,?_⟩,?_⟩
        · exact hS.eqM rfl
        · omega
        · rw [h3]; exact (Det.aAn (by omega) (fun x hx=>(hr x hx).1) hge).symm
        · exact h4
        · dsimp only; omega
    · refine W.exit ?_
      refine aC<|aC<|bD<|aF<|W.seq<|?_
      refine R5 rfl ?_; have hins:ins=Det.inM zs (fW*fH) l (lv.getD n 0):=by rw [h3,show k=l.length from by omega,List.take_length]
      refine ov hf rfl (aA.bf (cs':=#[iV fW,iV fH,vP]) dh dF rfl (hS.fM (i:=2) rfl) (bl rfl) rfl) fun a hf=>mv hf rfl fun a hf=>ov hf rfl (aA.aT aH rfl (hS.fM (i:=3) rfl) rfl) fun a hf=>?_; refine oc hf rfl yI (aB3 fW fH b_m3 least (lv.getD n 0) vP zs l ins _ hW hH h4 hins (hS.tT (j:=0) rfl)) ?_; clear hf a; rintro ⟨vsd,sd⟩ w6 hS1 a hf; try dsimp only at hS1 hf; replace hS:=(hS.dA hS1 (i:=0) rfl (fun _ h=>h)).eqM (N:=[sl 26 1 vsd sd.length sd,inn sd (Det.bN zs fW fH least l (lv.getD n 0)),pt b_yield1 (.cells #[(.func (.yield l0) #[] #[])] 62 (0,0)),U g0]) rfl; refine mv hf rfl fun a hf=>?_; refine O.nil ?_; have hsl:=(hS.eF (j:=1) rfl).1
      try dsimp only at hsl
      refine aF<|W.seq<|W.seq<|?_
      refine R3 rfl<|mv hf rfl<|fun a hf=>ov hf rfl (aA.bP (e:=26) (by simpa using ah) rfl (hS.slr (j:=0) rfl)) fun a hf=>ov (v:=.bool (decide ((sd.length:Int)<(2:Int)))) hf rfl (aA.lss rfl rfl) fun a hf=>?_; refine nk ?_; refine W.bJ hf rfl (fun h2c=>?_) (fun h2c=>?_)
      · refine W.exit ?_
        refine aC<|bD<|aF<|?_
        refine R2 rfl<|ov hf rfl (aA.ak rfl rfl (by omega))<|fun a hf=>mv hf rfl fun a hf=>?_; refine O.nil ?_; replace hS:=hS.sl [0,0,1,1]; refine aS ⟨(n+1),⟨hf.to ⟨rfl,rfl,rfl,rfl,rfl,rfl,rfl,(by first | rfl | exact vI (by omega)),trivial⟩,?_,?_,?_⟩,?_⟩
        · exact hS.eqM rfl
        · omega
        · rw [← hd,Det.xU (k:=n) (by omega),Det.vN (by omega)]
        · dsimp only; omega
      · refine W.skip ?_
        refine aF<|W.seq<|W.seq<|?_
        refine R6 rfl<|ov hf rfl (aA.bf (cs':=#[iV fW,iV fH,vP]) dh dF rfl (hS.fM (i:=2) rfl) (bl rfl) rfl)<|fun a hf=>ov hf rfl (aA.aT bG rfl (hS.fM (i:=1) rfl) rfl) fun a hf=>mv hf rfl fun a hf=>?_; obtain ⟨ob,ho1,ho2⟩:=aQ.obs (hS.aL (j:=5) rfl); refine oc hf rfl aCk (aDm fW fH vP vL vsd zs l sd (Det.bN zs fW fH least l (lv.getD n 0)) _ hW hH hn hl hr (hS.aL (j:=4) rfl) (hS.aL (j:=5) rfl) (hS.slr (j:=0) rfl) (hS.eF (j:=1) rfl) Det.lF.1 Det.lF.2 (by have:=Det.vQ (P:=zs) (W:=fW) (H:=fH) (least:=least) (px:=l) (lv:=(lv.getD n 0)); omega) (Det.aCC hok hls (by omega)) ob (fun p hp=>(ho1 p hp).1) ho2) ?_; clear hf a; rintro ⟨vst,sts⟩ w8 hS1 a hf; try dsimp only at hS1 hf; replace hS:=hS.cl hS1; refine ov hf rfl (aA.bP (e:=26) (by simpa using ah) rfl (hS.slr (j:=0) rfl)) fun a hf=>mv hf rfl fun a hf=>?_; refine O.nil ?_; have hst:=(hS.eF (j:=1) rfl).1
        try dsimp only at hst
        have hst2:sts.length≤10000:=by
          rw [hst,Det.aBn]; have:=Det.vQ (P:=zs) (W:=fW) (H:=fH) (least:=least) (px:=l) (lv:=(lv.getD n 0))
          omega
        refine aF ?_; replace hf:Fr a 75 [] [(1,_),(2,_),(3,_),(4,_),(5,_),(6,_),(7,_),(8,_),(11,_),(15,_),(16,_),(17,_),(23,_),(24,_),(25,_),(50,_),(51,_),(52,_)]:=hf.q rfl; refine W.block ?_; replace hS:=hS.mk0
        refine W.loop (G:=(Nat) × (γ) × (List Nat)) (fun g a w=>match g with | (s,g1,Ds)=>Fr a 75 (dz Ds) [(1,(pp b1)),(2,(pp b2)),(3,(pp b3)),(4,(pp b4)),(5,(pp b_yield1)),(6,iV n),(7,iV (lv.getD n 0)),(8,.map (some b_m3)),(11,vsd),(15,vv),(16,iV (lv.length:Int)),(17,iV n),(23,vL),(24,iV (l.length:Int)),(25,iV k),(50,vst),(51,iV (sts.length:Int)),(52,iV s)]∧St w0 w (fps [U g0]) [pt b1 (.cells #[vv] 22 (0,0)),pt b2 (.cells #[vL] 26 (0,0)),pt b3 (.cells #[iV fW,iV fH,vP] 61 (0,0)),pt b4 (.cells #[iV least] 3 (0,0)),rI vP zs,rI vL l,rI vv lv] [mkA Ds,sl 26 1 vst sts.length sts,inn sts (Det.dM zs fW fH l (Det.bN zs fW fH least l (lv.getD n 0))),sl 26 1 vsd sd.length sd,inn sd (Det.bN zs fW fH least l (lv.getD n 0)),pt b_yield1 (.cells #[(.func (.yield l0) #[] #[])] 62 (0,0)),U g1]∧(s≤sts.length)∧(Fc (((Det.dM zs fW fH l (Det.bN zs fW fH least l (lv.getD n 0))).take s).flatMap (Det.bA zs fW fH least (lv.drop (n+1)))).length g1)) (fun g=>match g with | (s,g1,Ds)=>sts.length-s) (0,g0,[]) ?_ ?_
        · refine ⟨hf.to ⟨rfl,rfl,rfl,rfl,rfl,rfl,rfl,rfl,rfl,rfl,rfl,rfl,rfl,rfl,rfl,rfl,rfl,(by first | rfl | exact vI (by omega)),trivial⟩,hS,?_,?_⟩
          · omega
          · exact hF
        clear hf hS a; rintro ⟨s,g1,Ds⟩ a w ⟨hf,hS,g1s,hFc⟩; refine W.seq ?_
        refine R1 rfl<|ov (v:=.bool (decide ((s:Int)<((sts.length:Int):Int)))) hf rfl (aA.lss rfl rfl)<|fun a hf=>?_; refine nk<|W.seq<|?_; refine W.bJ hf rfl (fun hs1=>?_) (fun hs1=>?_)
        · refine W.skip ?_
          refine aF<|W.seq<|W.block<|W.seq<|?_
          refine R3 rfl<|ov hf rfl (aA.ixV (j:=s) (m:=s) ah ay rfl rfl (hS.slr (j:=1) rfl) rfl (by omega) (Nat.mul_one _))<|fun a hf=>ov hf rfl (aA.ld1 bG rfl (hS.slr (j:=1) rfl) (gP (by omega))) fun a hf=>mv hf rfl fun a hf=>?_; refine nk<|W.seq<|?_
          have hf1:Fr a 75 (dz Ds) []:=hf.to trivial; replace hf:Fr a 75 (dz Ds) [(1,_),(2,_),(3,_),(4,_),(5,_),(6,_),(7,_),(8,_),(11,_),(13,_),(15,_),(16,_),(17,_),(23,_),(24,_),(25,_),(50,_),(51,_),(52,_)]:=hf.q rfl
          let LZ2393:List (Nat × Value):=[(1,(pp b1)),(2,(pp b2)),(3,(pp b3)),(4,(pp b4)),(5,(pp b_yield1)),(6,iV n),(7,iV (lv.getD n 0)),(8,.map (some b_m3)),(11,vsd),(13,(sts.getD s undef)),(15,vv),(16,iV (lv.length:Int)),(17,iV n),(23,vL),(24,iV (l.length:Int)),(25,iV k),(50,vst),(51,iV (sts.length:Int)),(52,iV s)]
          refine W.dn (γ:=(Nat × Nat × Nat × Nat)) (L0:=LZ2393) (L1:=[]) ((0,0,0,0)) [7] [] [0,1,2,3,4,5,6] (fun i_=>match i_ with | 4=>[3] | 5=>[2,4] | 7=>[0,1,5,6] | _=>[]) (fun _=>[]) (fun _=>[]) (fun _=>[]) (fun _=>0) (fun i_=>match i_ with | 7=>1 | _=>0) (fun (g:(Nat × Nat × Nat × Nat)) j_=>match g,j_ with | gb,0=>(fG fW fH vP) | gb,1=>(sts.getD s undef) | gb,2=>vv | gb,3=>iV n | gb,4=>iV ((n+1:Nat):Int) | gb,5=>(fO vv lv (n+1)) | gb,6=>iV least | gb,7=>.func (.func 51) #[] #[.pointer (some ⟨gb.1,0,none⟩),.pointer (some ⟨gb.2.1,0,none⟩),.pointer (some ⟨gb.2.2.1,0,none⟩),.pointer (some ⟨gb.2.2.2,0,none⟩)] | _,_=>undef) (fun k_ (_:Nat→Bool) (g:(Nat × Nat × Nat × Nat)) w=>match k_,g with | 0,gb=>St w0 w (fps [U g0]) [pt b1 (.cells #[vv] 22 (0,0)),pt b2 (.cells #[vL] 26 (0,0)),pt b3 (.cells #[iV fW,iV fH,vP] 61 (0,0)),pt b4 (.cells #[iV least] 3 (0,0)),rI vP zs,rI vL l,rI vv lv] [mkA Ds,sl 26 1 vst sts.length sts,inn sts (Det.dM zs fW fH l (Det.bN zs fW fH least l (lv.getD n 0))),sl 26 1 vsd sd.length sd,inn sd (Det.bN zs fW fH least l (lv.getD n 0)),pt b_yield1 (.cells #[(.func (.yield l0) #[] #[])] 62 (0,0)),U g1] | _,gb=>St w0 w (fps [U g0]) [pt b1 (.cells #[vv] 22 (0,0)),pt b2 (.cells #[vL] 26 (0,0)),pt b3 (.cells #[iV fW,iV fH,vP] 61 (0,0)),pt b4 (.cells #[iV least] 3 (0,0)),rI vP zs,rI vL l,rI vv lv] [pt gb.1 (.cells #[(fO vv lv (n+1))] 22 (0,0)),pt gb.2.1 (.cells #[(sts.getD s undef)] 26 (0,0)),pt gb.2.2.1 (.cells #[iV fW,iV fH,vP] 61 (0,0)),pt gb.2.2.2 (.cells #[iV least] 3 (0,0)),mkA Ds,sl 26 1 vst sts.length sts,inn sts (Det.dM zs fW fH l (Det.bN zs fW fH least l (lv.getD n 0))),sl 26 1 vsd sd.length sd,inn sd (Det.bN zs fW fH least l (lv.getD n 0)),pt b_yield1 (.cells #[(.func (.yield l0) #[] #[])] 62 (0,0)),U g1]) aV (by kernel_rfl) (by kernel_rfl) (by kernel_rfl) hf hf1 hS.drew ?_ ?_ trivial ?_
          · clear hf hf1 hS
            refine ⟨?_,?_,?_,?_,?_,?_,?_,trivial⟩
            · intro k_ s_ gb w hlo hhi _ hD a hf
              obtain rfl:k_=0:=Nat.le_antisymm hhi hlo; have hS:=hD; clear hD; replace hf:Fr a 75 (dz Ds) LZ2393:=hf; refine ov hf rfl (aA.bf (cs':=#[iV fW,iV fH,vP]) dh dF rfl (hS.fM (i:=2) rfl) (bl rfl) rfl) fun a hf=>?_; exact O.nil ⟨rfl,hf.to trivial,(gt (d:=56) hf rfl rfl),hS⟩
            · intro k_ s_ gb w hlo hhi _ hD a hf
              obtain rfl:k_=0:=Nat.le_antisymm hhi hlo; have hS:=hD; clear hD; replace hf:Fr a 75 (dz Ds) LZ2393:=hf; refine mv hf rfl fun a hf=>?_; exact O.nil ⟨rfl,hf.to trivial,(gt (d:=57) hf rfl rfl),hS⟩
            · intro k_ s_ gb w hlo hhi _ hD a hf
              obtain rfl:k_=0:=Nat.le_antisymm hhi hlo; have hS:=hD; clear hD; replace hf:Fr a 75 (dz Ds) LZ2393:=hf; refine ov hf rfl (aA.aT bB rfl (hS.fM (i:=0) rfl) rfl) fun a hf=>?_; exact O.nil ⟨rfl,hf.to trivial,(gt (d:=58) hf rfl rfl),hS⟩
            · intro k_ s_ gb w hlo hhi _ hD a hf
              obtain rfl:k_=0:=Nat.le_antisymm hhi hlo; have hS:=hD; clear hD; replace hf:Fr a 75 (dz Ds) LZ2393:=hf; refine mv hf rfl fun a hf=>?_; exact O.nil ⟨rfl,hf.to trivial,(gt (d:=59) hf rfl rfl),hS⟩
            · intro k_ s_ gb w hlo hhi _ hD a hf
              obtain rfl:k_=0:=Nat.le_antisymm hhi hlo; have hS:=hD; clear hD; replace hf:Fr a 75 (dz Ds) ((59,iV n)::LZ2393):=hf; refine ov hf rfl (aA.aEn rfl rfl (by omega)) fun a hf=>?_; exact O.nil ⟨rfl,hf.to trivial,(gt (d:=60) hf rfl rfl),hS⟩
            · intro k_ s_ gb w hlo hhi _ hD a hf
              obtain rfl:k_=0:=Nat.le_antisymm hhi hlo; have hS:=hD; clear hD; replace hf:Fr a 75 (dz Ds) ((58,vv)::(60,iV ((n+1:Nat):Int))::LZ2393):=hf; refine ov hf rfl (aA.aE1 (k:=n+1) aN bE rfl rfl (hS.aL (j:=6) rfl) hft (by omega)) fun a hf=>?_; exact O.nil ⟨rfl,hf.to trivial,(gt (d:=61) hf rfl rfl),hS⟩
            · intro k_ s_ gb w hlo hhi _ hD a hf
              obtain rfl:k_=0:=Nat.le_antisymm hhi hlo; have hS:=hD; clear hD; replace hf:Fr a 75 (dz Ds) LZ2393:=hf; refine ov hf rfl (aA.aT aH rfl (hS.fM (i:=3) rfl) rfl) fun a hf=>?_; exact O.nil ⟨rfl,hf.to trivial,(gt (d:=62) hf rfl rfl),hS⟩
          · clear hf hf1 hS
            refine ⟨?_,trivial⟩
            · intro s_ gb w _ hD a hf
              have hS:=hD; clear hD; replace hf:Fr a 75 (dz Ds) ((56,(fG fW fH vP))::(57,(sts.getD s undef))::(61,(fO vv lv (n+1)))::(62,iV least)::LZ2393):=hf; refine oc hf rfl tH (aBO fW fH least vP (sts.getD s undef) (fO vv lv (n+1)) zs ((Det.dM zs fW fH l (Det.bN zs fW fH least l (lv.getD n 0))).getD s []) (lv.drop (n+1)) _ (hS.aL (j:=4) rfl) ((hS.eF (j:=2) rfl).get (by omega)) ((hS.aL (j:=6) rfl).fO hft (by omega)).1) ?_; clear hf a; rintro gb w11 hS1 a hf; replace hS:=hS.cl hS1; exact O.nil ⟨rfl,(gb),hf.to trivial,(gt (d:=63) hf rfl rfl),(fun j_ hj_ ha_=>match j_,hj_,ha_ with | 0,hj_,ha_=>rfl | 1,hj_,ha_=>rfl | 2,hj_,ha_=>rfl | 3,hj_,ha_=>rfl | 4,hj_,ha_=>rfl | 5,hj_,ha_=>rfl | 6,hj_,ha_=>rfl | 7,hj_,ha_=>absurd rfl hj_ | _+8,_,_=>rfl),hS⟩
          clear hf hf1 hS; intro s_ gb a w _ hf hD; have hS:=hD; clear hD; replace hf:Fr a 75 (dz Ds) ((56,(fG fW fH vP))::(57,(sts.getD s undef))::(58,vv)::(59,iV n)::(60,iV ((n+1:Nat):Int))::(61,(fO vv lv (n+1)))::(62,iV least)::(63,.func (.func 51) #[] #[.pointer (some ⟨gb.1,0,none⟩),.pointer (some ⟨gb.2.1,0,none⟩),.pointer (some ⟨gb.2.2.1,0,none⟩),.pointer (some ⟨gb.2.2.2,0,none⟩)])::LZ2393):=hf; have hokS:=((Det.sP (P:=zs) (lv:=(lv.getD n 0)) hok hls (by omega)).1 _ (Det.at_mem (ss:=(Det.dM zs fW fH l (Det.bN zs fW fH least l (lv.getD n 0)))) (q:=s) (by omega))).1; refine aF<|W.block<|?_; replace hS:=hS.fr 10
          refine W.qJ (G:=(γ)) (e:=3) (xss:=(Det.bA zs fW fH least (lv.drop (n+1)) ((Det.dM zs fW fH l (Det.bN zs fW fH least l (lv.getD n 0))).getD s []))) (fun x=>(14,x)::[(5,(pp b_yield1))]) (fun g=>match g with | g2=>[U g2]) [pt gb.1 (.cells #[(fO vv lv (n+1))] 22 (0,0)),pt gb.2.1 (.cells #[(sts.getD s undef)] 26 (0,0)),pt gb.2.2.1 (.cells #[iV fW,iV fH,vP] 61 (0,0)),pt gb.2.2.2 (.cells #[iV least] 3 (0,0)),mkA Ds,sl 26 1 vst sts.length sts,inn sts (Det.dM zs fW fH l (Det.bN zs fW fH least l (lv.getD n 0))),sl 26 1 vsd sd.length sd,inn sd (Det.bN zs fW fH least l (lv.getD n 0)),pt b_yield1 (.cells #[(.func (.yield l0) #[] #[])] 62 (0,0))] (o6 fW fH least vP (sts.getD s undef) (fO vv lv (n+1)) zs ((Det.dM zs fW fH l (Det.bN zs fW fH least l (lv.getD n 0))).getD s []) (lv.drop (n+1)) gb.1 gb.2.1 gb.2.2.1 gb.2.2.2) (fun j g=>match g with | g2=>(Fc ((((Det.dM zs fW fH l (Det.bN zs fW fH least l (lv.getD n 0))).take s).flatMap (Det.bA zs fW fH least (lv.drop (n+1)))).length+j) g2)) g1 hf rfl rfl sU hS ?_ (ih n (by omega) gb.1 gb.2.1 gb.2.2.1 gb.2.2.2 (sts.getD s undef) (fO vv lv (n+1)) ((Det.dM zs fW fH l (Det.bN zs fW fH least l (lv.getD n 0))).getD s []) hokS (aQ.fO (hS.aL (j:=6) rfl) hft (by omega)).2) ?_ ?_ ?_ ?_
          · skip
            exact hFc
          · clear hf hS; intro w1 X1 M1 hS
            intro p hp; simp only [o6,List.mem_cons,List.not_mem_nil,or_false] at hp
            rcases hp with rfl | rfl | rfl | rfl | rfl | rfl | rfl
            · exact Lt.at hS (i:=0) rfl
            · exact Lt.at hS (i:=1) rfl
            · exact Lt.at hS (i:=2) rfl
            · exact Lt.at hS (i:=3) rfl
            · exact Lt.at hS (i:=14) rfl
            · exact Lt.inn hS (i:=6) (j:=s) rfl (by omega)
            · exact Lt.drop (Lt.at hS (i:=16) rfl) hft (by omega)
          · intro l x w a hf
            refine R1 rfl<|ov (v:=x) hf rfl (aA.assign rfl) fun a hf=>?_; refine O.nil ⟨rfl,hf.q rfl,rfl⟩
          · clear hf hS; rintro lr o_ D j x v g2 w0 hx hFk hO hS a hf
            obtain ⟨Xb,hXb⟩:∃ q,q=fps [sl 3 1 v x.length (ints x),pt lr o_,pt D (.deferred (some [])),U g2]:=⟨_,rfl⟩; replace hS:St w0 w0 Xb [pt gb.1 (.cells #[(fO vv lv (n+1))] 22 (0,0)),pt gb.2.1 (.cells #[(sts.getD s undef)] 26 (0,0)),pt gb.2.2.1 (.cells #[iV fW,iV fH,vP] 61 (0,0)),pt gb.2.2.2 (.cells #[iV least] 3 (0,0)),mkA Ds,sl 26 1 vst sts.length sts,inn sts (Det.dM zs fW fH l (Det.bN zs fW fH least l (lv.getD n 0))),sl 26 1 vsd sd.length sd,inn sd (Det.bN zs fW fH least l (lv.getD n 0)),pt b_yield1 (.cells #[(.func (.yield l0) #[] #[])] 62 (0,0)),pt b1 (.cells #[vv] 22 (0,0)),pt b2 (.cells #[vL] 26 (0,0)),pt b3 (.cells #[iV fW,iV fH,vP] 61 (0,0)),pt b4 (.cells #[iV least] 3 (0,0)),rI vP zs,rI vL l,rI vv lv] [sl 3 1 v x.length (ints x),pt lr o_,pt D (.deferred (some [])),U g2]:=by rw [hXb]; exact hS
            have hxl:=(hS.iJ (j:=0) rfl).nle; unfold maxLen at hxl; refine W.block<|W.seq<|?_
            refine R4 rfl<|ov hf rfl (aA.aT qM rfl (hS.fM (i:=9) rfl) rfl)<|fun a hf=>mv hf rfl fun a hf=>?_; replace hS:=hS.fr 3; replace hS:=hS.fr 1; have hO2:=hO.back (by rw [← hXb]; exact hS.noB); have hR:=(hO2.sub (N:=[sl 3 1 v x.length (ints x),U g2]) (.cons_cons _ (.cons_cons _ (List.nil_sublist _)))).noB; have hy:=hround _ _ (by rw [← hd,Det.xU (k:=n) (by omega),Det.rA (by omega)]; exact Det.flat_get (by omega) hx) g2 v _ hFk hR; refine O.aAe (R:=fun w1=>∃ g3,Fc ((((Det.dM zs fW fH l (Det.bN zs fW fH least l (lv.getD n 0))).take s).flatMap (Det.bA zs fW fH least (lv.drop (n+1)))).length+j+1) g3∧St _ w1 (fps [sl 3 1 v x.length (ints x),U g2]) [] [U g3]) hf rfl rfl rfl rfl hy ?_; clear hf a; rintro w1 a ⟨g3,hF3,hS1⟩ hf; replace hS:St w0 w1 Xb [pt gb.1 (.cells #[(fO vv lv (n+1))] 22 (0,0)),pt gb.2.1 (.cells #[(sts.getD s undef)] 26 (0,0)),pt gb.2.2.1 (.cells #[iV fW,iV fH,vP] 61 (0,0)),pt gb.2.2.2 (.cells #[iV least] 3 (0,0)),mkA Ds,sl 26 1 vst sts.length sts,inn sts (Det.dM zs fW fH l (Det.bN zs fW fH least l (lv.getD n 0))),sl 26 1 vsd sd.length sd,inn sd (Det.bN zs fW fH least l (lv.getD n 0)),pt b_yield1 (.cells #[(.func (.yield l0) #[] #[])] 62 (0,0)),pt b1 (.cells #[vv] 22 (0,0)),pt b2 (.cells #[vL] 26 (0,0)),pt b3 (.cells #[iV fW,iV fH,vP] 61 (0,0)),pt b4 (.cells #[iV least] 3 (0,0)),rI vP zs,rI vL l,rI vv lv] [U g3,pt lr o_,pt D (.deferred (some []))]:=St.back (M:=[sl 3 1 v x.length (ints x),U g2]) hS hS1; refine ov (v:=.bool false) hf rfl (aA.not (b:=true) rfl) fun a hf=>?_; refine nk<|W.jI hf rfl<|W.skip<|aG<|?_; replace hS:=hS.fr 0; replace hS:=hS.fr 2; replace hS:=hS.fr 2; replace hS:=(hS.sub (N:=[pt lr o_,pt D (.deferred (some [])),U g3]) (.cons_cons _ (.cons_cons _ (.cons_cons _ .slnil)))).noB; rw [hXb] at hS; refine ⟨rfl,g3,?_,hS⟩
            · exact hF3
          clear hf hS; rintro D g2 a w hFk hS hf; replace hS:St w0 w (fps [U g0]) [pt b1 (.cells #[vv] 22 (0,0)),pt b2 (.cells #[vL] 26 (0,0)),pt b3 (.cells #[iV fW,iV fH,vP] 61 (0,0)),pt b4 (.cells #[iV least] 3 (0,0)),rI vP zs,rI vL l,rI vv lv] [pt D (.deferred (some [])),U g2,pt gb.1 (.cells #[(fO vv lv (n+1))] 22 (0,0)),pt gb.2.1 (.cells #[(sts.getD s undef)] 26 (0,0)),pt gb.2.2.1 (.cells #[iV fW,iV fH,vP] 61 (0,0)),pt gb.2.2.2 (.cells #[iV least] 3 (0,0)),mkA Ds,sl 26 1 vst sts.length sts,inn sts (Det.dM zs fW fH l (Det.bN zs fW fH least l (lv.getD n 0))),sl 26 1 vsd sd.length sd,inn sd (Det.bN zs fW fH least l (lv.getD n 0)),pt b_yield1 (.cells #[(.func (.yield l0) #[] #[])] 62 (0,0))]:=hS; replace hS:=hS.fr 6; replace hS:=hS.fr 1; replace hS:=hS.mY (M:=[U g2,pt gb.1 (.cells #[(fO vv lv (n+1))] 22 (0,0)),pt gb.2.1 (.cells #[(sts.getD s undef)] 26 (0,0)),pt gb.2.2.1 (.cells #[iV fW,iV fH,vP] 61 (0,0)),pt gb.2.2.2 (.cells #[iV least] 3 (0,0)),sl 26 1 vst sts.length sts,inn sts (Det.dM zs fW fH l (Det.bN zs fW fH least l (lv.getD n 0))),sl 26 1 vsd sd.length sd,inn sd (Det.bN zs fW fH least l (lv.getD n 0)),pt b_yield1 (.cells #[(.func (.yield l0) #[] #[])] 62 (0,0))]); replace hf:Fr a 75 (dz (D::Ds)) [(1,_),(2,_),(3,_),(4,_),(5,_),(6,_),(7,_),(8,_),(11,_),(13,_),(15,_),(16,_),(17,_),(23,_),(24,_),(25,_),(50,_),(51,_),(52,_),(63,_)]:=hf.q rfl; refine aG<|aG<|aF<|?_
          refine R2 rfl<|ov hf rfl (aA.ak rfl rfl (by omega))<|fun a hf=>mv hf rfl fun a hf=>?_; refine O.nil ?_; replace hS:=hS.fr 1; replace hS:=hS.fr 10; replace hS:=hS.fr 10; replace hS:=hS.fr 10; replace hS:=hS.fr 10; replace hS:=hS.fr 10; replace hS:=hS.fr 6; replace hS:=hS.sl [1,1,1,1,1,1,1]; refine aS ⟨(s+1,g2,(D::Ds)),⟨hf.to ⟨rfl,rfl,rfl,rfl,rfl,rfl,rfl,rfl,rfl,rfl,rfl,rfl,rfl,rfl,rfl,rfl,rfl,(by first | rfl | exact vI (by omega)),trivial⟩,?_,?_,?_⟩,?_⟩
          · exact hS.eqM rfl
          · omega
          · rw [Det.ru (by omega),List.length_append]; exact hFk
          · dsimp only; omega
        · refine W.exit ?_
          refine aC<|aC<|bD<|aF<|W.ret<|aW<|aK<|aK<|aW<|aK<|?_; refine kC hS hf ?_; clear hS hf a; intro w a hf hS; refine iY hf rfl  ?_; replace hS:=hS.fr 5; obtain rfl:s=sts.length:=by omega
          exact ⟨g1,rfl,by rw [← hd,Det.xU (k:=n) (by omega),Det.rA (by omega)]; rw [List.take_of_length_le (by omega)] at hFc; exact hFc,(hS.sub (.cons_cons _ (.cons _ (.cons _ (.cons _ (.cons _ (.cons _ .slnil))))))).noB⟩
  · refine W.exit ?_
    refine aC<|aC<|bD<|aF<|?_; have hfin:(Det.bA zs fW fH least lv l)=[l]:=by rw [← hd,List.drop_of_length_le (by omega)]; rfl
    replace hS:=hS.mk0; replace hf:Fr a 75 (dz []) [(2,_),(5,_)]:=hf.q rfl
    have hf1:Fr a 75 (dz []) []:=hf.to trivial; replace hf:Fr a 75 (dz []) [(2,_),(5,_)]:=hf.q rfl
    let LZ2577:List (Nat × Value):=[(2,(pp b2)),(5,(pp b_yield1))]
    refine W.dn (γ:=(Value) × (γ)) (L0:=LZ2577) (L1:=[]) (default,g0) [2,3] [] [0,1] (fun i_=>match i_ with | 2=>[1] | 3=>[0,2] | _=>[]) (fun _=>[]) (fun i_=>match i_ with | 2=>[3] | _=>[]) (fun _=>[]) (fun i_=>match i_ with | 3=>1 | _=>0) (fun i_=>match i_ with | 0=>1 | 2=>1 | 3=>2 | _=>0) (fun (g:(Value) × (γ)) j_=>match g,j_ with | ⟨vcl,gy⟩,0=>(.func (.yield l0) #[] #[]) | ⟨vcl,gy⟩,1=>vL | ⟨vcl,gy⟩,2=>vcl | ⟨vcl,gy⟩,3=>.bool true | _,_=>undef) (fun k_ (_:Nat→Bool) (g:(Value) × (γ)) w=>match k_,g with | 0,⟨vcl,gy⟩=>St w0 w (fps [U g0]) [pt b1 (.cells #[vv] 22 (0,0)),pt b2 (.cells #[vL] 26 (0,0)),pt b3 (.cells #[iV fW,iV fH,vP] 61 (0,0)),pt b4 (.cells #[iV least] 3 (0,0)),rI vP zs,rI vL l,rI vv lv] [mkA ([]),pt b_yield1 (.cells #[(.func (.yield l0) #[] #[])] 62 (0,0)),U g0] | 1,⟨vcl,gy⟩=>St w0 w (fps [U g0]) [pt b1 (.cells #[vv] 22 (0,0)),pt b2 (.cells #[vL] 26 (0,0)),pt b3 (.cells #[iV fW,iV fH,vP] 61 (0,0)),pt b4 (.cells #[iV least] 3 (0,0)),rI vP zs,rI vL l,rI vv lv] [sl 3 1 vcl l.length (ints l),mkA ([]),pt b_yield1 (.cells #[(.func (.yield l0) #[] #[])] 62 (0,0)),U g0] | _,⟨vcl,gy⟩=>St w0 w (fps [U g0]) [pt b1 (.cells #[vv] 22 (0,0)),pt b2 (.cells #[vL] 26 (0,0)),pt b3 (.cells #[iV fW,iV fH,vP] 61 (0,0)),pt b4 (.cells #[iV least] 3 (0,0)),rI vP zs,rI vL l,rI vv lv] [y5 (Fc 1 gy),U gy,mkA ([]),pt b_yield1 (.cells #[(.func (.yield l0) #[] #[])] 62 (0,0))]) aV (by kernel_rfl) (by kernel_rfl) (by kernel_rfl) hf hf1 hS.drew ?_ ?_ trivial ?_
    · clear hf hf1 hS
      refine ⟨?_,?_,trivial⟩
      · intro k_ s_ g w hlo hhi _ hD a hf
        obtain ⟨vcl,gy⟩:=g
        rcases k_ with _ | _ | k_
        · have hS:=hD; clear hD
          replace hf:Fr a 75 (dz []) LZ2577:=hf; refine ov hf rfl (aA.aT qM rfl (hS.p 1 rfl) rfl) fun a hf=>?_; exact O.nil ⟨rfl,hf.to trivial,(gt (d:=71) hf rfl rfl),hS⟩
        · have hS:=hD; clear hD
          replace hf:Fr a 75 (dz []) LZ2577:=hf; refine ov hf rfl (aA.aT qM rfl (hS.p 2 rfl) rfl) fun a hf=>?_; exact O.nil ⟨rfl,hf.to trivial,(gt (d:=71) hf rfl rfl),hS⟩
        · have hhi:k_+2≤1:=hhi; omega
      · intro k_ s_ g w hlo hhi _ hD a hf
        obtain ⟨vcl,gy⟩:=g; obtain rfl:k_=0:=Nat.le_antisymm hhi hlo; have hS:=hD; clear hD; replace hf:Fr a 75 (dz []) LZ2577:=hf; refine ov hf rfl (aA.aT bG rfl (hS.fM (i:=1) rfl) rfl) fun a hf=>?_; exact O.nil ⟨rfl,hf.to trivial,(gt (d:=72) hf rfl rfl),hS⟩
    · clear hf hf1 hS
      refine ⟨?_,?_,trivial⟩
      · intro s_ g w _ hD a hf
        obtain ⟨vcl,gy⟩:=g; have hS:=hD; clear hD; replace hf:Fr a 75 (dz []) ((72,vL)::LZ2577):=hf; refine oc hf rfl aCv (aCY vL l _ hok.ne (by omega) (hS.aL (j:=5) rfl)) ?_; clear hf a; rintro vcl w13 hS1 a hf; replace hS:=hS.cl hS1; exact O.nil ⟨rfl,(vcl,gy),hf.to trivial,(gt (d:=73) hf rfl rfl),(fun j_ hj_ ha_=>match j_,hj_,ha_ with | 0,hj_,ha_=>rfl | 1,hj_,ha_=>rfl | 2,hj_,ha_=>absurd rfl hj_ | 3,hj_,ha_=>absurd ha_ (by decide) | _+4,_,_=>rfl),hS⟩
      · intro s_ g w _ hD a hf
        obtain ⟨vcl,gy⟩:=g; have hS:=hD; clear hD; replace hf:Fr a 75 (dz []) ((71,(.func (.yield l0) #[] #[]))::(73,vcl)::LZ2577):=hf; replace hS:=hS.fr 3; replace hS:=hS.fr 1; have hR:=(hS.sub (N:=[sl 3 1 vcl l.length (ints l),U g0]) (.cons_cons _ (.cons_cons _ (List.nil_sublist _)))).noB; have hy:=hround 0 l (by rw [hfin]; rfl) g0 vcl _ hF hR; refine O.aAe (R:=fun w1=>∃ g3,Fc 1 g3∧St _ w1 (fps [sl 3 1 vcl l.length (ints l),U g0]) [] [U g3]) hf rfl rfl rfl rfl hy ?_; clear hf a; intro w1 a hE hf; obtain ⟨gy,hF3,hS1⟩:=hE
        replace hS:=((St.back (M:=[sl 3 1 vcl l.length (ints l),U g0]) hS hS1).pure hF3).eqM (N:=[y5 (Fc 1 gy),U gy,mkA ([]),pt b_yield1 (.cells #[(.func (.yield l0) #[] #[])] 62 (0,0))]) rfl; exact O.nil ⟨rfl,(vcl,gy),hf.to trivial,(gt (d:=74) hf rfl rfl),(fun j_ hj_ ha_=>match j_,hj_,ha_ with | 0,hj_,ha_=>rfl | 1,hj_,ha_=>rfl | 2,hj_,ha_=>rfl | 3,hj_,ha_=>absurd rfl hj_ | _+4,_,_=>rfl),hS⟩
    clear hf hf1 hS; intro s_ g a w _ hf hD; obtain ⟨vcl,gy⟩:=g; have hS:=hD; clear hD; replace hf:Fr a 75 (dz []) ((71,(.func (.yield l0) #[] #[]))::(72,vL)::(73,vcl)::(74,.bool true)::LZ2577):=hf; refine tO ?_; replace hS:=hS.fr 2; refine kC hS hf ?_; clear hS hf a; intro w a hf hS; refine iY hf rfl  ?_; have hFz:=hS.fact (j:=0) rfl; replace hS:=hS.fr 1; exact ⟨gy,rfl,by rw [hfin]; exact hFz,(hS.sub (.cons_cons _ (.cons _ (.cons _ .slnil)))).noB⟩
end Go.Proofs.YtipfobacinmoiaaGreat
