/- Part of a proof: laws and walks. -/
import Derived.Test.YtipfobacinmoiaaGreatTac
import Derived.Test.YtipfobacinmoiaaGreatTad
import Derived.Test.YtipfobacinmoiaaGreatTal
import Derived.Test.YtipfobacinmoiaaGreatTab
import Derived.Test.YtipfobacinmoiaaGreatTag
import Derived.Test.YtipfobacinmoiaaGreatTah
set_option linter.unusedVariables false
set_option linter.unusedSimpArgs false
set_option maxHeartbeats 1000000
set_option maxRecDepth 8000
namespace Go.Proofs.YtipfobacinmoiaaGreat
open Go Go.SL Go.Shelf Go.RowKit Go.Maps
theorem aA.toB {P:Program} {n:Nat} {ds:List Deferred} {L:List (Nat × Value)} {op:Op} {ty:TypeId} {w w2:World} {b c:Bool} (h:aA P n ds L op ty w (.bool b) w2) (e:b=c):aA P n ds L op ty w (.bool c) w2:=e▸h
theorem pz:aW Tryz.prog 15=true:=by kernel_rfl
theorem aGR:aW Tryz.prog 18=true:=by kernel_rfl
theorem aAw:aW Tryz.prog 20=true:=by kernel_rfl
set_option maxHeartbeats 1000000 in
set_option maxRecDepth 4000 in
theorem zu (fW fH:Nat) (vP vL:Value) (zs l:List Int) (w0:World) [Decidable (Det.conn fW fH l)] (hW:1≤fW∧fW≤100) (hH:1≤fH∧fH≤100) (hn:zs.length=fW*fH) (hP:aR (hp w0) 1 vP zs.length (ints zs)) (hL:aR (hp w0) 1 vL l.length (ints l)) (hpos:0<l.length) :
    Ret Tryz.prog 20 #[(fG fW fH vP),vL] w0 (G:=Unit) (fun _=>.bool (decide (Det.conn fW fH l))) (fun _ w=>St w0 w noX [] []):=by
  refine aP (lv:=[(fG fW fH vP),vL]) Tryz.func20 rfl rfl rfl (fun a hf=>?_); replace hf:Fr a 62 [] [(0,(fG fW fH vP)),(1,vL)]:=hf; have hS:St w0 w0 noX [rI vP zs,rI vL l] []:=((St.refl w0).bP hL).bP hP; have hN:fW*fH≤10000:=Nat.mul_le_mul hW.2 hH.2; have hlen:=hL.2.1; unfold maxLen at hlen; have hz:=fun (h:0<l.length) (h2:Det.okL (fW*fH) l)=>h2 0 h; refine W.seq ?_
  refine R2 rfl<|O.box (cs:=#[iV fW,iV fH,vP]) hf hS rfl rfl rfl rfl<|?_; intro b_f1 w a hbb_f1 hS hf; refine mv hf rfl ?_; clear hf a; intro a hf; refine nk<|W.seq<|W.seq<|?_
  refine R1 rfl<|mv hf rfl<|?_; clear hf a; intro a hf; refine nk<|W.block<|?_
  refine W.loop (G:=(Nat)) (fun g a w=>match g with | k=>Fr a 62 [] [(1,vL),(2,(pp b_f1)),(5,iV k)]∧St w0 w noX [rI vP zs,rI vL l] [pt b_f1 (.cells #[iV fW,iV fH,vP] 24 (0,0))]∧(k≤l.length)∧(∀ j,j<k→(0≤l.getD j 0∧l.getD j 0<((fW*fH:Nat):Int))∧(0<j→l.getD (j-1) 0<l.getD j 0))) (fun g=>match g with | k=>l.length-k) 0 ?_ ?_
  · refine ⟨hf.to ⟨rfl,rfl,(by first | rfl | exact vI (by omega)),trivial⟩,hS,?_,?_⟩
    · omega
    · exact fun j hj=>by omega
  clear hf hS a; rintro k a w ⟨hf,hS,h1,h2⟩; refine W.seq<|W.seq<|?_
  refine R4 rfl<|mv hf rfl<|?_; clear hf a; intro a hf; refine mv hf rfl ?_; clear hf a; intro a hf; refine ov hf rfl (aA.bL (e:=3) (by simpa using aB) rfl (hS.aL (j:=1) rfl)) ?_; clear hf a; intro a hf; refine ov (v:=.bool (decide ((k:Int)<((l.length:Int):Int)))) hf rfl (aA.lss rfl rfl) ?_; clear hf a; intro a hf; refine nk ?_; replace hf:Fr a 62 [] [(1,_),(2,_),(5,_),(9,_)]:=hf.q rfl; refine W.bF hf rfl (fun hk=>?_) (fun hk=>?_)
  · refine W.skip ?_
    refine aF<|W.seq<|W.block<|W.seq<|?_
    refine W.dP (fun w=>St w0 w noX [rI vP zs,rI vL l] [pt b_f1 (.cells #[iV fW,iV fH,vP] 24 (0,0))]) aS rfl (by kernel_rfl) rfl hS.drew ?_; clear hS; refine q0 hf rfl rfl fun a hf=>q0 hf rfl rfl fun a hf=>OQ.val (v:=ix vL k) hf rfl (fun w hS=>aA.ixV (j:=k) (m:=k) aB aC rfl rfl (hS.aL (j:=1) rfl) rfl (by omega) (Nat.mul_one _)) fun a hf=>OQ.val (v:=iV (l.getD k 0)) hf rfl (fun w hS=>aA.ld1 aI rfl (hS.aL (j:=1) rfl) (aH (by omega))) fun a hf=>OQ.val (v:=.bool (decide ((l.getD k 0)<(0:Int)))) hf rfl (fun w hS=>aA.lss rfl rfl) fun a hf=>q0 hf rfl rfl fun a hf=>?_
    refine OQ.je (K':=fun a=>Fr a 62 [] [(1,vL),(2,(pp b_f1)),(5,iV k),(26,.bool ((decide ((l.getD k 0)<(0:Int)))||(decide ((l.getD k 0)≥((zs.length:Int):Int)))))]) 9 ?_ ?_
    · rcases Bool.eq_false_or_eq_true (decide ((l.getD k 0)<(0:Int))) with hb3 | hb3
      · have hb3p:=of_decide_eq_true hb3
        refine OQ.aJ hf rfl rfl hb3 rfl fun a hf=>OQ.aJ hf rfl rfl hb3 rfl fun a hf=>OQ.aJ hf rfl rfl hb3 rfl fun a hf=>OQ.aJ hf rfl rfl hb3 rfl fun a hf=>OQ.aJ hf rfl rfl hb3 rfl fun a hf=>OQ.aJ hf rfl rfl hb3 rfl fun a hf=>OQ.aJ hf rfl rfl hb3 rfl fun a hf=>OQ.aJ hf rfl rfl hb3 rfl fun a hf=>?_; refine OQ.val (v:=.bool ((decide ((l.getD k 0)<(0:Int)))||(decide ((l.getD k 0)≥((zs.length:Int):Int))))) hf rfl (fun w hS=>aA.pick rfl rfl rfl (by rw [hb3]; rfl)) ?_; clear hf a; intro a hf; exact OQ.nil (hf.q rfl)
      · have hb3p:=of_decide_eq_false hb3
        refine gm hf rfl rfl hb3 rfl rfl fun a hf=>gm hf rfl rfl hb3 rfl rfl fun a hf=>OQ.gval (v:=ix vL k) hf rfl rfl hb3 rfl (fun w hS=>aA.ixV (j:=k) (m:=k) aB aC rfl rfl (hS.aL (j:=1) rfl) rfl (by omega) (Nat.mul_one _)) fun a hf=>OQ.gval (v:=iV (l.getD k 0)) hf rfl rfl hb3 rfl (fun w hS=>aA.ld1 aI rfl (hS.aL (j:=1) rfl) (aH (by omega))) fun a hf=>OQ.gval (v:=.pointer (some ⟨b_f1,2,none⟩)) hf rfl rfl hb3 rfl (fun w hS=>aA.field ax rfl rfl) fun a hf=>OQ.gval (v:=vP) hf rfl rfl hb3 rfl (fun w hS=>aA.aX bY rfl (hS.p 0 rfl) rfl) fun a hf=>OQ.gval (v:=iV (zs.length:Int)) hf rfl rfl hb3 rfl (fun w hS=>aA.bL (e:=2) (by simpa using aU) rfl (hS.aL (j:=0) rfl)) fun a hf=>OQ.gval (v:=.bool (decide ((l.getD k 0)≥((zs.length:Int):Int)))) hf rfl rfl hb3 rfl (fun w hS=>aA.geq rfl rfl) fun a hf=>?_; refine OQ.val (v:=.bool ((decide ((l.getD k 0)<(0:Int)))||(decide ((l.getD k 0)≥((zs.length:Int):Int))))) hf rfl (fun w hS=>aA.pick rfl rfl rfl (by rw [hb3]; rfl)) ?_; clear hf a; intro a hf; exact OQ.nil (hf.q rfl)
    clear hf a; intro a hf; refine q0 hf rfl rfl fun a hf=>?_
    refine OQ.je (K':=fun a=>Fr a 62 [] [(1,vL),(2,(pp b_f1)),(5,iV k),(42,.bool (((decide ((l.getD k 0)<(0:Int)))||(decide ((l.getD k 0)≥((zs.length:Int):Int))))||((decide ((k:Int)>(0:Int)))&&(decide ((l.getD k 0)≤(l.getD (k-1) 0:Int))))))]) 15 ?_ ?_
    · rcases Bool.eq_false_or_eq_true ((decide ((l.getD k 0)<(0:Int)))||(decide ((l.getD k 0)≥((zs.length:Int):Int)))) with hb4 | hb4
      · have hb4p:=hb4
        try simp only [bsm] at hb4p
        refine OQ.aJ hf rfl rfl hb4 rfl fun a hf=>OQ.aJ hf rfl rfl hb4 rfl fun a hf=>OQ.aJ hf rfl rfl hb4 rfl fun a hf=>OQ.bS hf rfl rfl rfl fun a hf=>OQ.bS hf rfl rfl rfl fun a hf=>OQ.bS hf rfl rfl rfl fun a hf=>OQ.bS hf rfl rfl rfl fun a hf=>OQ.bS hf rfl rfl rfl fun a hf=>OQ.bS hf rfl rfl rfl fun a hf=>OQ.bS hf rfl rfl rfl fun a hf=>?_; refine OQ.bS hf rfl rfl rfl fun a hf=>OQ.bS hf rfl rfl rfl fun a hf=>OQ.bS hf rfl rfl rfl fun a hf=>OQ.aJ hf rfl rfl hb4 rfl fun a hf=>?_; refine OQ.val (v:=.bool (((decide ((l.getD k 0)<(0:Int)))||(decide ((l.getD k 0)≥((zs.length:Int):Int))))||((decide ((k:Int)>(0:Int)))&&(decide ((l.getD k 0)≤(l.getD (k-1) 0:Int)))))) hf rfl (fun w hS=>aA.pick rfl rfl rfl (by rw [hb4]; rfl)) ?_; clear hf a; intro a hf; exact OQ.nil (hf.q rfl)
      · have hb4p:=hb4
        try simp only [bsm] at hb4p
        refine gm hf rfl rfl hb4 rfl rfl fun a hf=>OQ.gval (v:=.bool (decide ((k:Int)>(0:Int)))) hf rfl rfl hb4 rfl (fun w hS=>aA.gtr rfl rfl) fun a hf=>gm hf rfl rfl hb4 rfl rfl fun a hf=>?_
        refine OQ.je (K':=fun a=>Fr a 62 [] [(1,vL),(2,(pp b_f1)),(5,iV k),(27,.bool ((decide ((l.getD k 0)<(0:Int)))||(decide ((l.getD k 0)≥((zs.length:Int):Int))))),(41,.bool ((decide ((k:Int)>(0:Int)))&&(decide ((l.getD k 0)≤(l.getD (k-1) 0:Int)))))]) 11 ?_ ?_
        · rcases Bool.eq_false_or_eq_true (decide ((k:Int)>(0:Int))) with hb5 | hb5
          · have hb5p:=of_decide_eq_true hb5
            refine gm hf rfl rfl hb5 rfl rfl fun a hf=>gm hf rfl rfl hb5 rfl rfl fun a hf=>OQ.gval (v:=ix vL k) hf rfl rfl hb5 rfl (fun w hS=>aA.ixV (j:=k) (m:=k) aB aC rfl rfl (hS.aL (j:=1) rfl) rfl (by omega) (Nat.mul_one _)) fun a hf=>OQ.gval (v:=iV (l.getD k 0)) hf rfl rfl hb5 rfl (fun w hS=>aA.ld1 aI rfl (hS.aL (j:=1) rfl) (aH (by omega))) fun a hf=>gm hf rfl rfl hb5 rfl rfl fun a hf=>gm hf rfl rfl hb5 rfl rfl fun a hf=>OQ.gval (v:=iV ((k:Int)-1)) hf rfl rfl hb5 rfl (fun w hS=>aA.bg rfl rfl (by omega)) fun a hf=>?_; refine OQ.gval (v:=ix vL (k-1)) hf rfl rfl hb5 rfl (fun w hS=>aA.ixV (j:=(k-1)) (m:=(k-1)) aB aC rfl rfl (hS.aL (j:=1) rfl) (by congr 1; omega) (by omega) (Nat.mul_one _)) ?_; clear hf a; intro a hf; refine OQ.gval (v:=iV (l.getD (k-1) 0)) hf rfl rfl hb5 rfl (fun w hS=>aA.ld1 aI rfl (hS.aL (j:=1) rfl) (aH (by omega))) fun a hf=>OQ.gval (v:=.bool (decide ((l.getD k 0)≤(l.getD (k-1) 0:Int)))) hf rfl rfl hb5 rfl (fun w hS=>aA.leq rfl rfl) fun a hf=>?_; refine OQ.gval (v:=.bool ((decide ((k:Int)>(0:Int)))&&(decide ((l.getD k 0)≤(l.getD (k-1) 0:Int))))) hf rfl rfl hb4 rfl (fun w hS=>aA.pick rfl rfl rfl (by rw [hb5]; rfl)) ?_; clear hf a; intro a hf; exact OQ.nil (hf.q rfl)
          · have hb5p:=of_decide_eq_false hb5
            refine OQ.aJ hf rfl rfl hb5 rfl fun a hf=>OQ.aJ hf rfl rfl hb5 rfl fun a hf=>OQ.aJ hf rfl rfl hb5 rfl fun a hf=>OQ.aJ hf rfl rfl hb5 rfl fun a hf=>OQ.aJ hf rfl rfl hb5 rfl fun a hf=>OQ.aJ hf rfl rfl hb5 rfl fun a hf=>OQ.aJ hf rfl rfl hb5 rfl fun a hf=>OQ.aJ hf rfl rfl hb5 rfl fun a hf=>OQ.aJ hf rfl rfl hb5 rfl fun a hf=>OQ.aJ hf rfl rfl hb5 rfl fun a hf=>?_; refine OQ.gval (v:=.bool ((decide ((k:Int)>(0:Int)))&&(decide ((l.getD k 0)≤(l.getD (k-1) 0:Int))))) hf rfl rfl hb4 rfl (fun w hS=>aA.pick rfl rfl rfl (by rw [hb5]; rfl)) ?_; clear hf a; intro a hf; exact OQ.nil (hf.q rfl)
        clear hf a; intro a hf; refine OQ.val (v:=.bool (((decide ((l.getD k 0)<(0:Int)))||(decide ((l.getD k 0)≥((zs.length:Int):Int))))||((decide ((k:Int)>(0:Int)))&&(decide ((l.getD k 0)≤(l.getD (k-1) 0:Int)))))) hf rfl (fun w hS=>aA.pick rfl rfl rfl (by rw [hb4]; rfl)) ?_; clear hf a; intro a hf; exact OQ.nil (hf.q rfl)
    clear hf a; intro a hf; refine OQ.nil ?_; intro w hS; refine aF ?_; refine W.if_ hf rfl (fun hbad=>?_) (fun hbad=>?_)
    · have hbadb:=hbad
      try simp only [bsm] at hbad
      refine W.seq ?_
      refine R1 rfl<|mv hf rfl<|?_; clear hf a; intro a hf; refine nk<|W.ret<|aN<|aK<|aK<|aN<|aK<|bD hf rfl (aT.tmp rfl)<|?_; refine ⟨(),by rw [show decide (Det.conn fW fH l)=false from decide_eq_false (fun h=>by first | exact absurd h.2.1 (by omega) | have:=h.1 k (by omega); simp only [Bool.or_eq_true,Bool.and_eq_true,decide_eq_true_eq] at hbadb; rw [hn] at hbadb; omega)],hS.sub (List.nil_sublist _) |>.noB⟩
    · have hbadb:=hbad
      try simp only [bsm] at hbad
      refine W.skip<|aG<|aF<|?_
      refine R3 rfl<|mv hf rfl<|?_; clear hf a; intro a hf; refine ov hf rfl (aA.aj rfl rfl (by omega)) ?_; clear hf a; intro a hf; refine mv hf rfl ?_; clear hf a; intro a hf; refine O.nil ?_; refine aO ⟨(k+1),⟨hf.to ⟨rfl,rfl,(by first | rfl | exact vI (by omega)),trivial⟩,?_,?_,?_⟩,?_⟩
      · exact hS.eqM rfl
      · omega
      · simp only [Bool.or_eq_false_iff,Bool.and_eq_false_iff,decide_eq_false_iff_not] at hbadb
        rw [hn] at hbadb; exact Det.eU h2 (by omega)
      · dsimp only; omega
  · refine W.exit ?_
    refine aD<|aD<|bA<|aF<|?_; replace hf:Fr a 62 [] [(1,_),(2,_)]:=hf.q rfl; refine W.seq ?_
    obtain rfl:k=l.length:=by omega
    have hz0:=hz hpos h2; refine W.aIP (γ:=(Value) × (Value)) (L0:=[(1,vL),(2,(pp b_f1))]) (default,default) [9,13,14] [0,1,2,3,4,5,6,7,8,10,11,12,15,16,17,18,19] (fun i=>match i with | 0=>[] | 1=>[0] | 2=>[1] | 3=>[2] | 4=>[3] | 5=>[3] | 6=>[3,5] | 7=>[3,6] | 8=>[3] | 9=>[3,7,8] | 10=>[3] | 11=>[3,10] | 12=>[3,11] | 13=>[3,4,9,12] | 14=>[3,13] | 15=>[3] | 16=>[3,15] | 17=>[3,14,16] | 18=>[3,17] | 19=>[0,1,2,3,4,5,6,7,8,9,10,11,12,13,14,15,16,17,18] | _=>[]) (fun (g:(Value) × (Value)) j=>match g,j with | ⟨vm,vp⟩,0=>vL | ⟨vm,vp⟩,1=>iV (l.length:Int) | ⟨vm,vp⟩,2=>.bool true | ⟨vm,vp⟩,3=>.bool true | ⟨vm,vp⟩,4=>(fG fW fH vP) | ⟨vm,vp⟩,5=>.pointer (some ⟨b_f1,2,none⟩) | ⟨vm,vp⟩,6=>vP | ⟨vm,vp⟩,7=>iV (zs.length:Int) | ⟨vm,vp⟩,8=>vL | ⟨vm,vp⟩,9=>vm | ⟨vm,vp⟩,10=>vL | ⟨vm,vp⟩,11=>ix vL 0 | ⟨vm,vp⟩,12=>iV (l.getD 0 0) | ⟨vm,vp⟩,13=>vp | ⟨vm,vp⟩,14=>iV ((Det.part fW fH (Det.marks (fW*fH) l l.length) (l.getD 0 0).toNat).2.length:Int) | ⟨vm,vp⟩,15=>vL | ⟨vm,vp⟩,16=>iV (l.length:Int) | ⟨vm,vp⟩,17=>.bool (decide (((Det.part fW fH (Det.marks (fW*fH) l l.length) (l.getD 0 0).toNat).2.length:Int)=((l.length:Int):Int))) | ⟨vm,vp⟩,18=>.bool (decide (((Det.part fW fH (Det.marks (fW*fH) l l.length) (l.getD 0 0).toNat).2.length:Int)=((l.length:Int):Int))) | ⟨vm,vp⟩,19=>.bool (decide (((Det.part fW fH (Det.marks (fW*fH) l l.length) (l.getD 0 0).toNat).2.length:Int)=((l.length:Int):Int))) | _,_=>undef) (fun k (g:(Value) × (Value)) w=>match k,g with | 0,⟨vm,vp⟩=>St w0 w noX [rI vP zs,rI vL l] [pt b_f1 (.cells #[iV fW,iV fH,vP] 24 (0,0))] | 1,⟨vm,vp⟩=>St w0 w noX [rI vP zs,rI vL l] [sl 4 1 vm ((Det.marks (fW*fH) l l.length).length) (bools (Det.marks (fW*fH) l l.length)),pt b_f1 (.cells #[iV fW,iV fH,vP] 24 (0,0))] | 2,⟨vm,vp⟩=>St w0 w noX [rI vP zs,rI vL l] [sl 3 1 vp ((Det.part fW fH (Det.marks (fW*fH) l l.length) (l.getD 0 0).toNat).2.length) (ints (Det.part fW fH (Det.marks (fW*fH) l l.length) (l.getD 0 0).toNat).2),sl 4 1 vm (((Det.part fW fH (Det.marks (fW*fH) l l.length) (l.getD 0 0).toNat).1).length) (bools ((Det.part fW fH (Det.marks (fW*fH) l l.length) (l.getD 0 0).toNat).1)),pt b_f1 (.cells #[iV fW,iV fH,vP] 24 (0,0))] | _,⟨vm,vp⟩=>St w0 w noX [rI vP zs,rI vL l] [sl 3 1 vp ((Det.part fW fH (Det.marks (fW*fH) l l.length) (l.getD 0 0).toNat).2.length) (ints (Det.part fW fH (Det.marks (fW*fH) l l.length) (l.getD 0 0).toNat).2),sl 4 1 vm (((Det.part fW fH (Det.marks (fW*fH) l l.length) (l.getD 0 0).toNat).1).length) (bools ((Det.part fW fH (Det.marks (fW*fH) l l.length) (l.getD 0 0).toNat).1)),pt b_f1 (.cells #[iV fW,iV fH,vP] 24 (0,0))]) aS (by kernel_rfl) hf hS.drew ?_ ?_ ?_
    · clear hf hS
      refine ⟨?_,?_,?_,?_,?_,?_,?_,?_,?_,?_,?_,?_,?_,?_,?_,?_,?_,trivial⟩
      · intro k g w hD a hf
        obtain ⟨vm,vp⟩:=g
        rcases k with _ | _ | _ | k
        · have hS:=hD; clear hD
          replace hf:Fr a 62 [] [(1,_),(2,_)]:=hf.q rfl; refine mv hf rfl ?_; clear hf a; intro a hf; exact O.nil ⟨rfl,hf.to trivial,(gt (d:=43) hf rfl rfl),hS⟩
        · have hS:=hD; clear hD
          replace hf:Fr a 62 [] [(1,_),(2,_)]:=hf.q rfl; refine mv hf rfl ?_; clear hf a; intro a hf; exact O.nil ⟨rfl,hf.to trivial,(gt (d:=43) hf rfl rfl),hS⟩
        · have hS:=hD; clear hD
          replace hf:Fr a 62 [] [(1,_),(2,_)]:=hf.q rfl; refine mv hf rfl ?_; clear hf a; intro a hf; exact O.nil ⟨rfl,hf.to trivial,(gt (d:=43) hf rfl rfl),hS⟩
        · have hS:=hD; clear hD
          replace hf:Fr a 62 [] [(1,_),(2,_)]:=hf.q rfl; refine mv hf rfl ?_; clear hf a; intro a hf; exact O.nil ⟨rfl,hf.to trivial,(gt (d:=43) hf rfl rfl),hS⟩
      · intro k g w hD a hf
        obtain ⟨vm,vp⟩:=g
        rcases k with _ | _ | _ | k
        · have hS:=hD; clear hD
          replace hf:Fr a 62 [] [(43,_),(1,_),(2,_)]:=hf.q rfl; refine ov hf rfl (aA.bL (e:=3) (by simpa using aB) rfl (hS.aL (j:=1) rfl)) ?_; clear hf a; intro a hf; exact O.nil ⟨rfl,hf.to trivial,(gt (d:=44) hf rfl rfl),hS⟩
        · have hS:=hD; clear hD
          replace hf:Fr a 62 [] [(43,_),(1,_),(2,_)]:=hf.q rfl; refine ov hf rfl (aA.bL (e:=3) (by simpa using aB) rfl (hS.aL (j:=1) rfl)) ?_; clear hf a; intro a hf; exact O.nil ⟨rfl,hf.to trivial,(gt (d:=44) hf rfl rfl),hS⟩
        · have hS:=hD; clear hD
          replace hf:Fr a 62 [] [(43,_),(1,_),(2,_)]:=hf.q rfl; refine ov hf rfl (aA.bL (e:=3) (by simpa using aB) rfl (hS.aL (j:=1) rfl)) ?_; clear hf a; intro a hf; exact O.nil ⟨rfl,hf.to trivial,(gt (d:=44) hf rfl rfl),hS⟩
        · have hS:=hD; clear hD
          replace hf:Fr a 62 [] [(43,_),(1,_),(2,_)]:=hf.q rfl; refine ov hf rfl (aA.bL (e:=3) (by simpa using aB) rfl (hS.aL (j:=1) rfl)) ?_; clear hf a; intro a hf; exact O.nil ⟨rfl,hf.to trivial,(gt (d:=44) hf rfl rfl),hS⟩
      · intro k g w hD a hf
        obtain ⟨vm,vp⟩:=g
        rcases k with _ | _ | _ | k
        · have hS:=hD; clear hD
          replace hf:Fr a 62 [] [(44,_),(1,_),(2,_)]:=hf.q rfl; refine ov hf rfl (aA.toB (aA.gtr rfl rfl) (decide_eq_true (by omega))) ?_; clear hf a; intro a hf; exact O.nil ⟨rfl,hf.to trivial,(gt (d:=45) hf rfl rfl),hS⟩
        · have hS:=hD; clear hD
          replace hf:Fr a 62 [] [(44,_),(1,_),(2,_)]:=hf.q rfl; refine ov hf rfl (aA.toB (aA.gtr rfl rfl) (decide_eq_true (by omega))) ?_; clear hf a; intro a hf; exact O.nil ⟨rfl,hf.to trivial,(gt (d:=45) hf rfl rfl),hS⟩
        · have hS:=hD; clear hD
          replace hf:Fr a 62 [] [(44,_),(1,_),(2,_)]:=hf.q rfl; refine ov hf rfl (aA.toB (aA.gtr rfl rfl) (decide_eq_true (by omega))) ?_; clear hf a; intro a hf; exact O.nil ⟨rfl,hf.to trivial,(gt (d:=45) hf rfl rfl),hS⟩
        · have hS:=hD; clear hD
          replace hf:Fr a 62 [] [(44,_),(1,_),(2,_)]:=hf.q rfl; refine ov hf rfl (aA.toB (aA.gtr rfl rfl) (decide_eq_true (by omega))) ?_; clear hf a; intro a hf; exact O.nil ⟨rfl,hf.to trivial,(gt (d:=45) hf rfl rfl),hS⟩
      · intro k g w hD a hf
        obtain ⟨vm,vp⟩:=g
        rcases k with _ | _ | _ | k
        · have hS:=hD; clear hD
          replace hf:Fr a 62 [] [(45,_),(1,_),(2,_)]:=hf.q rfl; refine mv hf rfl ?_; clear hf a; intro a hf; exact O.nil ⟨rfl,hf.to trivial,(gt (d:=46) hf rfl rfl),hS⟩
        · have hS:=hD; clear hD
          replace hf:Fr a 62 [] [(45,_),(1,_),(2,_)]:=hf.q rfl; refine mv hf rfl ?_; clear hf a; intro a hf; exact O.nil ⟨rfl,hf.to trivial,(gt (d:=46) hf rfl rfl),hS⟩
        · have hS:=hD; clear hD
          replace hf:Fr a 62 [] [(45,_),(1,_),(2,_)]:=hf.q rfl; refine mv hf rfl ?_; clear hf a; intro a hf; exact O.nil ⟨rfl,hf.to trivial,(gt (d:=46) hf rfl rfl),hS⟩
        · have hS:=hD; clear hD
          replace hf:Fr a 62 [] [(45,_),(1,_),(2,_)]:=hf.q rfl; refine mv hf rfl ?_; clear hf a; intro a hf; exact O.nil ⟨rfl,hf.to trivial,(gt (d:=46) hf rfl rfl),hS⟩
      · intro k g w hD a hf
        obtain ⟨vm,vp⟩:=g
        rcases k with _ | _ | _ | k
        · have hS:=hD; clear hD
          replace hf:Fr a 62 [] [(46,_),(1,_),(2,_)]:=hf.q rfl; refine og (v:=(fG fW fH vP)) hf rfl rfl (aA.cO (cs':=#[iV fW,iV fH,vP]) bR bH rfl (hS.p 0 rfl) (bl rfl) rfl) ?_; clear hf a; intro a hf; exact O.nil ⟨rfl,hf.to trivial,(gt (d:=47) hf rfl rfl),hS⟩
        · have hS:=hD; clear hD
          replace hf:Fr a 62 [] [(46,_),(1,_),(2,_)]:=hf.q rfl; refine og (v:=(fG fW fH vP)) hf rfl rfl (aA.cO (cs':=#[iV fW,iV fH,vP]) bR bH rfl (hS.p 1 rfl) (bl rfl) rfl) ?_; clear hf a; intro a hf; exact O.nil ⟨rfl,hf.to trivial,(gt (d:=47) hf rfl rfl),hS⟩
        · have hS:=hD; clear hD
          replace hf:Fr a 62 [] [(46,_),(1,_),(2,_)]:=hf.q rfl; refine og (v:=(fG fW fH vP)) hf rfl rfl (aA.cO (cs':=#[iV fW,iV fH,vP]) bR bH rfl (hS.p 2 rfl) (bl rfl) rfl) ?_; clear hf a; intro a hf; exact O.nil ⟨rfl,hf.to trivial,(gt (d:=47) hf rfl rfl),hS⟩
        · have hS:=hD; clear hD
          replace hf:Fr a 62 [] [(46,_),(1,_),(2,_)]:=hf.q rfl; refine og (v:=(fG fW fH vP)) hf rfl rfl (aA.cO (cs':=#[iV fW,iV fH,vP]) bR bH rfl (hS.p 2 rfl) (bl rfl) rfl) ?_; clear hf a; intro a hf; exact O.nil ⟨rfl,hf.to trivial,(gt (d:=47) hf rfl rfl),hS⟩
      · intro k g w hD a hf
        obtain ⟨vm,vp⟩:=g
        rcases k with _ | _ | _ | k
        · have hS:=hD; clear hD
          replace hf:Fr a 62 [] [(46,_),(1,_),(2,_)]:=hf.q rfl; refine og (v:=.pointer (some ⟨b_f1,2,none⟩)) hf rfl rfl (aA.field ax rfl rfl) ?_; clear hf a; intro a hf; exact O.nil ⟨rfl,hf.to trivial,(gt (d:=48) hf rfl rfl),hS⟩
        · have hS:=hD; clear hD
          replace hf:Fr a 62 [] [(46,_),(1,_),(2,_)]:=hf.q rfl; refine og (v:=.pointer (some ⟨b_f1,2,none⟩)) hf rfl rfl (aA.field ax rfl rfl) ?_; clear hf a; intro a hf; exact O.nil ⟨rfl,hf.to trivial,(gt (d:=48) hf rfl rfl),hS⟩
        · have hS:=hD; clear hD
          replace hf:Fr a 62 [] [(46,_),(1,_),(2,_)]:=hf.q rfl; refine og (v:=.pointer (some ⟨b_f1,2,none⟩)) hf rfl rfl (aA.field ax rfl rfl) ?_; clear hf a; intro a hf; exact O.nil ⟨rfl,hf.to trivial,(gt (d:=48) hf rfl rfl),hS⟩
        · have hS:=hD; clear hD
          replace hf:Fr a 62 [] [(46,_),(1,_),(2,_)]:=hf.q rfl; refine og (v:=.pointer (some ⟨b_f1,2,none⟩)) hf rfl rfl (aA.field ax rfl rfl) ?_; clear hf a; intro a hf; exact O.nil ⟨rfl,hf.to trivial,(gt (d:=48) hf rfl rfl),hS⟩
      · intro k g w hD a hf
        obtain ⟨vm,vp⟩:=g
        rcases k with _ | _ | _ | k
        · have hS:=hD; clear hD
          replace hf:Fr a 62 [] [(46,_),(48,_),(1,_),(2,_)]:=hf.q rfl; refine og (v:=vP) hf rfl rfl (aA.aX bY rfl (hS.p 0 rfl) rfl) ?_; clear hf a; intro a hf; exact O.nil ⟨rfl,hf.to trivial,(gt (d:=49) hf rfl rfl),hS⟩
        · have hS:=hD; clear hD
          replace hf:Fr a 62 [] [(46,_),(48,_),(1,_),(2,_)]:=hf.q rfl; refine og (v:=vP) hf rfl rfl (aA.aX bY rfl (hS.p 1 rfl) rfl) ?_; clear hf a; intro a hf; exact O.nil ⟨rfl,hf.to trivial,(gt (d:=49) hf rfl rfl),hS⟩
        · have hS:=hD; clear hD
          replace hf:Fr a 62 [] [(46,_),(48,_),(1,_),(2,_)]:=hf.q rfl; refine og (v:=vP) hf rfl rfl (aA.aX bY rfl (hS.p 2 rfl) rfl) ?_; clear hf a; intro a hf; exact O.nil ⟨rfl,hf.to trivial,(gt (d:=49) hf rfl rfl),hS⟩
        · have hS:=hD; clear hD
          replace hf:Fr a 62 [] [(46,_),(48,_),(1,_),(2,_)]:=hf.q rfl; refine og (v:=vP) hf rfl rfl (aA.aX bY rfl (hS.p 2 rfl) rfl) ?_; clear hf a; intro a hf; exact O.nil ⟨rfl,hf.to trivial,(gt (d:=49) hf rfl rfl),hS⟩
      · intro k g w hD a hf
        obtain ⟨vm,vp⟩:=g
        rcases k with _ | _ | _ | k
        · have hS:=hD; clear hD
          replace hf:Fr a 62 [] [(46,_),(49,_),(1,_),(2,_)]:=hf.q rfl; refine og (v:=iV (zs.length:Int)) hf rfl rfl (aA.bL (e:=2) (by simpa using aU) rfl (hS.aL (j:=0) rfl)) ?_; clear hf a; intro a hf; exact O.nil ⟨rfl,hf.to trivial,(gt (d:=50) hf rfl rfl),hS⟩
        · have hS:=hD; clear hD
          replace hf:Fr a 62 [] [(46,_),(49,_),(1,_),(2,_)]:=hf.q rfl; refine og (v:=iV (zs.length:Int)) hf rfl rfl (aA.bL (e:=2) (by simpa using aU) rfl (hS.aL (j:=0) rfl)) ?_; clear hf a; intro a hf; exact O.nil ⟨rfl,hf.to trivial,(gt (d:=50) hf rfl rfl),hS⟩
        · have hS:=hD; clear hD
          replace hf:Fr a 62 [] [(46,_),(49,_),(1,_),(2,_)]:=hf.q rfl; refine og (v:=iV (zs.length:Int)) hf rfl rfl (aA.bL (e:=2) (by simpa using aU) rfl (hS.aL (j:=0) rfl)) ?_; clear hf a; intro a hf; exact O.nil ⟨rfl,hf.to trivial,(gt (d:=50) hf rfl rfl),hS⟩
        · have hS:=hD; clear hD
          replace hf:Fr a 62 [] [(46,_),(49,_),(1,_),(2,_)]:=hf.q rfl; refine og (v:=iV (zs.length:Int)) hf rfl rfl (aA.bL (e:=2) (by simpa using aU) rfl (hS.aL (j:=0) rfl)) ?_; clear hf a; intro a hf; exact O.nil ⟨rfl,hf.to trivial,(gt (d:=50) hf rfl rfl),hS⟩
      · intro k g w hD a hf
        obtain ⟨vm,vp⟩:=g
        rcases k with _ | _ | _ | k
        · have hS:=hD; clear hD
          replace hf:Fr a 62 [] [(46,_),(1,_),(2,_)]:=hf.q rfl; refine og (v:=vL) hf rfl rfl (aA.move rfl) ?_; clear hf a; intro a hf; exact O.nil ⟨rfl,hf.to trivial,(gt (d:=51) hf rfl rfl),hS⟩
        · have hS:=hD; clear hD
          replace hf:Fr a 62 [] [(46,_),(1,_),(2,_)]:=hf.q rfl; refine og (v:=vL) hf rfl rfl (aA.move rfl) ?_; clear hf a; intro a hf; exact O.nil ⟨rfl,hf.to trivial,(gt (d:=51) hf rfl rfl),hS⟩
        · have hS:=hD; clear hD
          replace hf:Fr a 62 [] [(46,_),(1,_),(2,_)]:=hf.q rfl; refine og (v:=vL) hf rfl rfl (aA.move rfl) ?_; clear hf a; intro a hf; exact O.nil ⟨rfl,hf.to trivial,(gt (d:=51) hf rfl rfl),hS⟩
        · have hS:=hD; clear hD
          replace hf:Fr a 62 [] [(46,_),(1,_),(2,_)]:=hf.q rfl; refine og (v:=vL) hf rfl rfl (aA.move rfl) ?_; clear hf a; intro a hf; exact O.nil ⟨rfl,hf.to trivial,(gt (d:=51) hf rfl rfl),hS⟩
      · intro k g w hD a hf
        obtain ⟨vm,vp⟩:=g
        rcases k with _ | _ | _ | k
        · have hS:=hD; clear hD
          replace hf:Fr a 62 [] [(46,_),(1,_),(2,_)]:=hf.q rfl; refine og (v:=vL) hf rfl rfl (aA.move rfl) ?_; clear hf a; intro a hf; exact O.nil ⟨rfl,hf.to trivial,(gt (d:=53) hf rfl rfl),hS⟩
        · have hS:=hD; clear hD
          replace hf:Fr a 62 [] [(46,_),(1,_),(2,_)]:=hf.q rfl; refine og (v:=vL) hf rfl rfl (aA.move rfl) ?_; clear hf a; intro a hf; exact O.nil ⟨rfl,hf.to trivial,(gt (d:=53) hf rfl rfl),hS⟩
        · have hS:=hD; clear hD
          replace hf:Fr a 62 [] [(46,_),(1,_),(2,_)]:=hf.q rfl; refine og (v:=vL) hf rfl rfl (aA.move rfl) ?_; clear hf a; intro a hf; exact O.nil ⟨rfl,hf.to trivial,(gt (d:=53) hf rfl rfl),hS⟩
        · have hS:=hD; clear hD
          replace hf:Fr a 62 [] [(46,_),(1,_),(2,_)]:=hf.q rfl; refine og (v:=vL) hf rfl rfl (aA.move rfl) ?_; clear hf a; intro a hf; exact O.nil ⟨rfl,hf.to trivial,(gt (d:=53) hf rfl rfl),hS⟩
      · intro k g w hD a hf
        obtain ⟨vm,vp⟩:=g
        rcases k with _ | _ | _ | k
        · have hS:=hD; clear hD
          replace hf:Fr a 62 [] [(46,_),(53,_),(1,_),(2,_)]:=hf.q rfl; refine og (v:=ix vL 0) hf rfl rfl (aA.ixV (j:=0) (m:=0) aB aC rfl rfl (hS.aL (j:=1) rfl) rfl (by omega) (Nat.mul_one _)) ?_; clear hf a; intro a hf; exact O.nil ⟨rfl,hf.to trivial,(gt (d:=54) hf rfl rfl),hS⟩
        · have hS:=hD; clear hD
          replace hf:Fr a 62 [] [(46,_),(53,_),(1,_),(2,_)]:=hf.q rfl; refine og (v:=ix vL 0) hf rfl rfl (aA.ixV (j:=0) (m:=0) aB aC rfl rfl (hS.aL (j:=1) rfl) rfl (by omega) (Nat.mul_one _)) ?_; clear hf a; intro a hf; exact O.nil ⟨rfl,hf.to trivial,(gt (d:=54) hf rfl rfl),hS⟩
        · have hS:=hD; clear hD
          replace hf:Fr a 62 [] [(46,_),(53,_),(1,_),(2,_)]:=hf.q rfl; refine og (v:=ix vL 0) hf rfl rfl (aA.ixV (j:=0) (m:=0) aB aC rfl rfl (hS.aL (j:=1) rfl) rfl (by omega) (Nat.mul_one _)) ?_; clear hf a; intro a hf; exact O.nil ⟨rfl,hf.to trivial,(gt (d:=54) hf rfl rfl),hS⟩
        · have hS:=hD; clear hD
          replace hf:Fr a 62 [] [(46,_),(53,_),(1,_),(2,_)]:=hf.q rfl; refine og (v:=ix vL 0) hf rfl rfl (aA.ixV (j:=0) (m:=0) aB aC rfl rfl (hS.aL (j:=1) rfl) rfl (by omega) (Nat.mul_one _)) ?_; clear hf a; intro a hf; exact O.nil ⟨rfl,hf.to trivial,(gt (d:=54) hf rfl rfl),hS⟩
      · intro k g w hD a hf
        obtain ⟨vm,vp⟩:=g
        rcases k with _ | _ | _ | k
        · have hS:=hD; clear hD
          replace hf:Fr a 62 [] [(46,_),(54,_),(1,_),(2,_)]:=hf.q rfl; refine og (v:=iV (l.getD 0 0)) hf rfl rfl (aA.ld1 aI rfl (hS.aL (j:=1) rfl) (aH (by omega))) ?_; clear hf a; intro a hf; exact O.nil ⟨rfl,hf.to trivial,(gt (d:=55) hf rfl rfl),hS⟩
        · have hS:=hD; clear hD
          replace hf:Fr a 62 [] [(46,_),(54,_),(1,_),(2,_)]:=hf.q rfl; refine og (v:=iV (l.getD 0 0)) hf rfl rfl (aA.ld1 aI rfl (hS.aL (j:=1) rfl) (aH (by omega))) ?_; clear hf a; intro a hf; exact O.nil ⟨rfl,hf.to trivial,(gt (d:=55) hf rfl rfl),hS⟩
        · have hS:=hD; clear hD
          replace hf:Fr a 62 [] [(46,_),(54,_),(1,_),(2,_)]:=hf.q rfl; refine og (v:=iV (l.getD 0 0)) hf rfl rfl (aA.ld1 aI rfl (hS.aL (j:=1) rfl) (aH (by omega))) ?_; clear hf a; intro a hf; exact O.nil ⟨rfl,hf.to trivial,(gt (d:=55) hf rfl rfl),hS⟩
        · have hS:=hD; clear hD
          replace hf:Fr a 62 [] [(46,_),(54,_),(1,_),(2,_)]:=hf.q rfl; refine og (v:=iV (l.getD 0 0)) hf rfl rfl (aA.ld1 aI rfl (hS.aL (j:=1) rfl) (aH (by omega))) ?_; clear hf a; intro a hf; exact O.nil ⟨rfl,hf.to trivial,(gt (d:=55) hf rfl rfl),hS⟩
      · intro k g w hD a hf
        obtain ⟨vm,vp⟩:=g
        rcases k with _ | _ | _ | k
        · have hS:=hD; clear hD
          replace hf:Fr a 62 [] [(46,_),(1,_),(2,_)]:=hf.q rfl; refine og (v:=vL) hf rfl rfl (aA.move rfl) ?_; clear hf a; intro a hf; exact O.nil ⟨rfl,hf.to trivial,(gt (d:=58) hf rfl rfl),hS⟩
        · have hS:=hD; clear hD
          replace hf:Fr a 62 [] [(46,_),(1,_),(2,_)]:=hf.q rfl; refine og (v:=vL) hf rfl rfl (aA.move rfl) ?_; clear hf a; intro a hf; exact O.nil ⟨rfl,hf.to trivial,(gt (d:=58) hf rfl rfl),hS⟩
        · have hS:=hD; clear hD
          replace hf:Fr a 62 [] [(46,_),(1,_),(2,_)]:=hf.q rfl; refine og (v:=vL) hf rfl rfl (aA.move rfl) ?_; clear hf a; intro a hf; exact O.nil ⟨rfl,hf.to trivial,(gt (d:=58) hf rfl rfl),hS⟩
        · have hS:=hD; clear hD
          replace hf:Fr a 62 [] [(46,_),(1,_),(2,_)]:=hf.q rfl; refine og (v:=vL) hf rfl rfl (aA.move rfl) ?_; clear hf a; intro a hf; exact O.nil ⟨rfl,hf.to trivial,(gt (d:=58) hf rfl rfl),hS⟩
      · intro k g w hD a hf
        obtain ⟨vm,vp⟩:=g
        rcases k with _ | _ | _ | k
        · have hS:=hD; clear hD
          replace hf:Fr a 62 [] [(46,_),(58,_),(1,_),(2,_)]:=hf.q rfl; refine og (v:=iV (l.length:Int)) hf rfl rfl (aA.bL (e:=3) (by simpa using aB) rfl (hS.aL (j:=1) rfl)) ?_; clear hf a; intro a hf; exact O.nil ⟨rfl,hf.to trivial,(gt (d:=59) hf rfl rfl),hS⟩
        · have hS:=hD; clear hD
          replace hf:Fr a 62 [] [(46,_),(58,_),(1,_),(2,_)]:=hf.q rfl; refine og (v:=iV (l.length:Int)) hf rfl rfl (aA.bL (e:=3) (by simpa using aB) rfl (hS.aL (j:=1) rfl)) ?_; clear hf a; intro a hf; exact O.nil ⟨rfl,hf.to trivial,(gt (d:=59) hf rfl rfl),hS⟩
        · have hS:=hD; clear hD
          replace hf:Fr a 62 [] [(46,_),(58,_),(1,_),(2,_)]:=hf.q rfl; refine og (v:=iV (l.length:Int)) hf rfl rfl (aA.bL (e:=3) (by simpa using aB) rfl (hS.aL (j:=1) rfl)) ?_; clear hf a; intro a hf; exact O.nil ⟨rfl,hf.to trivial,(gt (d:=59) hf rfl rfl),hS⟩
        · have hS:=hD; clear hD
          replace hf:Fr a 62 [] [(46,_),(58,_),(1,_),(2,_)]:=hf.q rfl; refine og (v:=iV (l.length:Int)) hf rfl rfl (aA.bL (e:=3) (by simpa using aB) rfl (hS.aL (j:=1) rfl)) ?_; clear hf a; intro a hf; exact O.nil ⟨rfl,hf.to trivial,(gt (d:=59) hf rfl rfl),hS⟩
      · intro k g w hD a hf
        obtain ⟨vm,vp⟩:=g
        rcases k with _ | _ | _ | k
        · have hS:=hD; clear hD
          replace hf:Fr a 62 [] [(46,_),(57,_),(59,_),(1,_),(2,_)]:=hf.q rfl; refine og (v:=.bool (decide (((Det.part fW fH (Det.marks (fW*fH) l l.length) (l.getD 0 0).toNat).2.length:Int)=((l.length:Int):Int)))) hf rfl rfl (aA.eql rfl rfl) ?_; clear hf a; intro a hf; exact O.nil ⟨rfl,hf.to trivial,(gt (d:=60) hf rfl rfl),hS⟩
        · have hS:=hD; clear hD
          replace hf:Fr a 62 [] [(46,_),(57,_),(59,_),(1,_),(2,_)]:=hf.q rfl; refine og (v:=.bool (decide (((Det.part fW fH (Det.marks (fW*fH) l l.length) (l.getD 0 0).toNat).2.length:Int)=((l.length:Int):Int)))) hf rfl rfl (aA.eql rfl rfl) ?_; clear hf a; intro a hf; exact O.nil ⟨rfl,hf.to trivial,(gt (d:=60) hf rfl rfl),hS⟩
        · have hS:=hD; clear hD
          replace hf:Fr a 62 [] [(46,_),(57,_),(59,_),(1,_),(2,_)]:=hf.q rfl; refine og (v:=.bool (decide (((Det.part fW fH (Det.marks (fW*fH) l l.length) (l.getD 0 0).toNat).2.length:Int)=((l.length:Int):Int)))) hf rfl rfl (aA.eql rfl rfl) ?_; clear hf a; intro a hf; exact O.nil ⟨rfl,hf.to trivial,(gt (d:=60) hf rfl rfl),hS⟩
        · have hS:=hD; clear hD
          replace hf:Fr a 62 [] [(46,_),(57,_),(59,_),(1,_),(2,_)]:=hf.q rfl; refine og (v:=.bool (decide (((Det.part fW fH (Det.marks (fW*fH) l l.length) (l.getD 0 0).toNat).2.length:Int)=((l.length:Int):Int)))) hf rfl rfl (aA.eql rfl rfl) ?_; clear hf a; intro a hf; exact O.nil ⟨rfl,hf.to trivial,(gt (d:=60) hf rfl rfl),hS⟩
      · intro k g w hD a hf
        obtain ⟨vm,vp⟩:=g
        rcases k with _ | _ | _ | k
        · have hS:=hD; clear hD
          replace hf:Fr a 62 [] [(46,_),(60,_),(1,_),(2,_)]:=hf.q rfl; refine ov (v:=.bool (decide (((Det.part fW fH (Det.marks (fW*fH) l l.length) (l.getD 0 0).toNat).2.length:Int)=((l.length:Int):Int)))) hf rfl (aA.pick rfl rfl rfl rfl) ?_; clear hf a; intro a hf; exact O.nil ⟨rfl,hf.to trivial,(gt (d:=61) hf rfl rfl),hS⟩
        · have hS:=hD; clear hD
          replace hf:Fr a 62 [] [(46,_),(60,_),(1,_),(2,_)]:=hf.q rfl; refine ov (v:=.bool (decide (((Det.part fW fH (Det.marks (fW*fH) l l.length) (l.getD 0 0).toNat).2.length:Int)=((l.length:Int):Int)))) hf rfl (aA.pick rfl rfl rfl rfl) ?_; clear hf a; intro a hf; exact O.nil ⟨rfl,hf.to trivial,(gt (d:=61) hf rfl rfl),hS⟩
        · have hS:=hD; clear hD
          replace hf:Fr a 62 [] [(46,_),(60,_),(1,_),(2,_)]:=hf.q rfl; refine ov (v:=.bool (decide (((Det.part fW fH (Det.marks (fW*fH) l l.length) (l.getD 0 0).toNat).2.length:Int)=((l.length:Int):Int)))) hf rfl (aA.pick rfl rfl rfl rfl) ?_; clear hf a; intro a hf; exact O.nil ⟨rfl,hf.to trivial,(gt (d:=61) hf rfl rfl),hS⟩
        · have hS:=hD; clear hD
          replace hf:Fr a 62 [] [(46,_),(60,_),(1,_),(2,_)]:=hf.q rfl; refine ov (v:=.bool (decide (((Det.part fW fH (Det.marks (fW*fH) l l.length) (l.getD 0 0).toNat).2.length:Int)=((l.length:Int):Int)))) hf rfl (aA.pick rfl rfl rfl rfl) ?_; clear hf a; intro a hf; exact O.nil ⟨rfl,hf.to trivial,(gt (d:=61) hf rfl rfl),hS⟩
      · intro k g w hD a hf
        obtain ⟨vm,vp⟩:=g
        rcases k with _ | _ | _ | k
        · have hS:=hD; clear hD
          replace hf:Fr a 62 [] [(43,_),(44,_),(45,_),(46,_),(47,_),(48,_),(49,_),(50,_),(51,_),(52,_),(53,_),(54,_),(55,_),(56,_),(57,_),(58,_),(59,_),(60,_),(61,_),(1,_),(2,_)]:=hf.q rfl; refine mv hf rfl ?_; clear hf a; intro a hf; exact O.nil ⟨rfl,hf.to trivial,(gt (d:=4) hf rfl rfl),hS⟩
        · have hS:=hD; clear hD
          replace hf:Fr a 62 [] [(43,_),(44,_),(45,_),(46,_),(47,_),(48,_),(49,_),(50,_),(51,_),(52,_),(53,_),(54,_),(55,_),(56,_),(57,_),(58,_),(59,_),(60,_),(61,_),(1,_),(2,_)]:=hf.q rfl; refine mv hf rfl ?_; clear hf a; intro a hf; exact O.nil ⟨rfl,hf.to trivial,(gt (d:=4) hf rfl rfl),hS⟩
        · have hS:=hD; clear hD
          replace hf:Fr a 62 [] [(43,_),(44,_),(45,_),(46,_),(47,_),(48,_),(49,_),(50,_),(51,_),(52,_),(53,_),(54,_),(55,_),(56,_),(57,_),(58,_),(59,_),(60,_),(61,_),(1,_),(2,_)]:=hf.q rfl; refine mv hf rfl ?_; clear hf a; intro a hf; exact O.nil ⟨rfl,hf.to trivial,(gt (d:=4) hf rfl rfl),hS⟩
        · have hS:=hD; clear hD
          replace hf:Fr a 62 [] [(43,_),(44,_),(45,_),(46,_),(47,_),(48,_),(49,_),(50,_),(51,_),(52,_),(53,_),(54,_),(55,_),(56,_),(57,_),(58,_),(59,_),(60,_),(61,_),(1,_),(2,_)]:=hf.q rfl; refine mv hf rfl ?_; clear hf a; intro a hf; exact O.nil ⟨rfl,hf.to trivial,(gt (d:=4) hf rfl rfl),hS⟩
    · clear hf hS
      refine ⟨?_,?_,?_,trivial⟩
      · intro g w hD a hf
        obtain ⟨vm,vp⟩:=g; have hS:=hD; clear hD; replace hf:Fr a 62 [] [(46,_),(50,_),(51,_),(1,_),(2,_)]:=hf.q rfl; rw [show ((zs.length:Nat):Int)=((fW*fH:Nat):Int) from by rw [hn]] at hf; refine O.iG hf rfl rfl rfl rfl rfl rfl (dJ.call (av:=#[iV ((fW*fH:Nat):Int),vL]) aBl rfl rfl rfl) (rJ (fW*fH) vL l _ (hS.aL (j:=1) rfl) (by omega) (fun i hi=>(h2 i (by omega)).1)) ?_; clear hf a; rintro vm w9 hS1 a hf; replace hS:=hS.cl hS1; exact O.nil ⟨rfl,(vm,vp),hf.to trivial,(gt (d:=52) hf rfl rfl),(fun j hj=>match j,hj with | 0,hj=>rfl | 1,hj=>rfl | 2,hj=>rfl | 3,hj=>rfl | 4,hj=>rfl | 5,hj=>rfl | 6,hj=>rfl | 7,hj=>rfl | 8,hj=>rfl | 9,hj=>absurd hj (by decide) | 10,hj=>rfl | 11,hj=>rfl | 12,hj=>rfl | 13,hj=>absurd hj (by decide) | 14,hj=>absurd hj (by decide) | 15,hj=>rfl | 16,hj=>rfl | 17,hj=>rfl | 18,hj=>rfl | 19,hj=>rfl | _+20,_=>rfl),hS⟩
      · intro g w hD a hf
        obtain ⟨vm,vp⟩:=g; have hS:=hD; clear hD; replace hf:Fr a 62 [] [(46,_),(47,_),(52,_),(55,_),(1,_),(2,_)]:=hf.q rfl; rw [show l.getD 0 0=(((l.getD 0 0).toNat:Nat):Int) from by omega] at hf; refine O.iG hf rfl rfl rfl rfl rfl rfl (dJ.call (av:=#[(fG fW fH vP),vm,iV ((l.getD 0 0).toNat:Int)]) aBf rfl rfl rfl) (o5 fW fH (l.getD 0 0).toNat vP vm zs (Det.marks (fW*fH) l l.length) _ hW hH hn (Det.fu _ _ _) (by omega) (hS.aL (j:=0) rfl) (hS.jB (j:=0) rfl) (fun b g1 g2=>hS.apart (i:=0) (j:=0) rfl rfl b ⟨g1,g2⟩)) ?_; clear hf a; rintro vp w10 hS1 a hf; replace hS:=(hS.bq hS1 (i:=0) rfl (fun _ h=>h)).eqM (N:=[sl 3 1 vp ((Det.part fW fH (Det.marks (fW*fH) l l.length) (l.getD 0 0).toNat).2.length) (ints (Det.part fW fH (Det.marks (fW*fH) l l.length) (l.getD 0 0).toNat).2),sl 4 1 vm (((Det.part fW fH (Det.marks (fW*fH) l l.length) (l.getD 0 0).toNat).1).length) (bools ((Det.part fW fH (Det.marks (fW*fH) l l.length) (l.getD 0 0).toNat).1)),pt b_f1 (.cells #[iV fW,iV fH,vP] 24 (0,0))]) rfl; exact O.nil ⟨rfl,(vm,vp),hf.to trivial,(gt (d:=56) hf rfl rfl),(fun j hj=>match j,hj with | 0,hj=>rfl | 1,hj=>rfl | 2,hj=>rfl | 3,hj=>rfl | 4,hj=>rfl | 5,hj=>rfl | 6,hj=>rfl | 7,hj=>rfl | 8,hj=>rfl | 9,hj=>rfl | 10,hj=>rfl | 11,hj=>rfl | 12,hj=>rfl | 13,hj=>absurd hj (by decide) | 14,hj=>absurd hj (by decide) | 15,hj=>rfl | 16,hj=>rfl | 17,hj=>rfl | 18,hj=>rfl | 19,hj=>rfl | _+20,_=>rfl),hS⟩
      · intro g w hD a hf
        obtain ⟨vm,vp⟩:=g; have hS:=hD; clear hD; replace hf:Fr a 62 [] [(46,_),(56,_),(1,_),(2,_)]:=hf.q rfl; refine og (v:=iV ((Det.part fW fH (Det.marks (fW*fH) l l.length) (l.getD 0 0).toNat).2.length:Int)) hf rfl rfl (aA.bL (e:=3) (by simpa using aB) rfl (hS.slr (j:=0) rfl)) ?_; clear hf a; intro a hf; exact O.nil ⟨rfl,(vm,vp),hf.to trivial,(gt (d:=57) hf rfl rfl),(fun j hj=>match j,hj with | 0,hj=>rfl | 1,hj=>rfl | 2,hj=>rfl | 3,hj=>rfl | 4,hj=>rfl | 5,hj=>rfl | 6,hj=>rfl | 7,hj=>rfl | 8,hj=>rfl | 9,hj=>rfl | 10,hj=>rfl | 11,hj=>rfl | 12,hj=>rfl | 13,hj=>rfl | 14,hj=>absurd hj (by decide) | 15,hj=>rfl | 16,hj=>rfl | 17,hj=>rfl | 18,hj=>rfl | 19,hj=>rfl | _+20,_=>rfl),hS⟩
    clear hf hS; intro g a w hf hD; obtain ⟨vm,vp⟩:=g; have hS:=hD; clear hD; replace hf:Fr a 62 [] [(43,_),(44,_),(45,_),(46,_),(47,_),(48,_),(49,_),(50,_),(51,_),(52,_),(53,_),(54,_),(55,_),(56,_),(57,_),(58,_),(59,_),(60,_),(61,_),(4,_),(1,_),(2,_)]:=hf.q rfl; refine aF<|W.ret<|bD hf rfl (aT.tmp rfl)<|?_; refine ⟨(),?_,hS.sub (List.nil_sublist _) |>.noB⟩
    apply congrArg Ending.returned; apply congrArg Value.bool; apply decide_eq_decide.2; constructor
    · intro h; exact ⟨h2,hpos,by omega⟩
    · intro h; have:=h.2.2; omega
set_option maxHeartbeats 1000000 in
set_option maxRecDepth 4000 in
theorem zZ (fW fH:Nat) (vP vL:Value) (zs l:List Int) (w0:World) [Decidable (Det.conn fW fH l)] (hW:1≤fW∧fW≤100) (hH:1≤fH∧fH≤100) (hn:zs.length=fW*fH) (hP:aR (hp w0) 1 vP zs.length (ints zs)) (hL:aR (hp w0) 1 vL l.length (ints l)) (hpos:l.length=0) :
    Ret Tryz.prog 20 #[(fG fW fH vP),vL] w0 (G:=Unit) (fun _=>.bool (decide (Det.conn fW fH l))) (fun _ w=>St w0 w noX [] []):=by
  refine aP (lv:=[(fG fW fH vP),vL]) Tryz.func20 rfl rfl rfl (fun a hf=>?_); replace hf:Fr a 62 [] [(0,(fG fW fH vP)),(1,vL)]:=hf; have hS:St w0 w0 noX [rI vP zs,rI vL l] []:=((St.refl w0).bP hL).bP hP; have hN:fW*fH≤10000:=Nat.mul_le_mul hW.2 hH.2; have hlen:=hL.2.1; unfold maxLen at hlen; have hz:=fun (h:0<l.length) (h2:Det.okL (fW*fH) l)=>h2 0 h; refine W.seq ?_
  refine R2 rfl<|O.box (cs:=#[iV fW,iV fH,vP]) hf hS rfl rfl rfl rfl<|?_; intro b_f1 w a hbb_f1 hS hf; refine mv hf rfl ?_; clear hf a; intro a hf; refine nk<|W.seq<|W.seq<|?_
  refine R1 rfl<|mv hf rfl<|?_; clear hf a; intro a hf; refine nk<|W.block<|?_
  refine W.loop (G:=(Nat)) (fun g a w=>match g with | k=>Fr a 62 [] [(1,vL),(2,(pp b_f1)),(5,iV k)]∧St w0 w noX [rI vP zs,rI vL l] [pt b_f1 (.cells #[iV fW,iV fH,vP] 24 (0,0))]∧(k≤l.length)∧(∀ j,j<k→(0≤l.getD j 0∧l.getD j 0<((fW*fH:Nat):Int))∧(0<j→l.getD (j-1) 0<l.getD j 0))) (fun g=>match g with | k=>l.length-k) 0 ?_ ?_
  · refine ⟨hf.to ⟨rfl,rfl,(by first | rfl | exact vI (by omega)),trivial⟩,hS,?_,?_⟩
    · omega
    · exact fun j hj=>by omega
  clear hf hS a; rintro k a w ⟨hf,hS,h1,h2⟩; refine W.seq<|W.seq<|?_
  refine R4 rfl<|mv hf rfl<|?_; clear hf a; intro a hf; refine mv hf rfl ?_; clear hf a; intro a hf; refine ov hf rfl (aA.bL (e:=3) (by simpa using aB) rfl (hS.aL (j:=1) rfl)) ?_; clear hf a; intro a hf; refine ov (v:=.bool (decide ((k:Int)<((l.length:Int):Int)))) hf rfl (aA.lss rfl rfl) ?_; clear hf a; intro a hf; refine nk ?_; replace hf:Fr a 62 [] [(1,_),(2,_),(5,_),(9,_)]:=hf.q rfl; refine W.bF hf rfl (fun hk=>?_) (fun hk=>?_)
  · refine W.skip ?_
    refine aF<|W.seq<|W.block<|W.seq<|?_
    refine W.dP (fun w=>St w0 w noX [rI vP zs,rI vL l] [pt b_f1 (.cells #[iV fW,iV fH,vP] 24 (0,0))]) aS rfl (by kernel_rfl) rfl hS.drew ?_; clear hS; refine q0 hf rfl rfl fun a hf=>q0 hf rfl rfl fun a hf=>OQ.val (v:=ix vL k) hf rfl (fun w hS=>aA.ixV (j:=k) (m:=k) aB aC rfl rfl (hS.aL (j:=1) rfl) rfl (by omega) (Nat.mul_one _)) fun a hf=>OQ.val (v:=iV (l.getD k 0)) hf rfl (fun w hS=>aA.ld1 aI rfl (hS.aL (j:=1) rfl) (aH (by omega))) fun a hf=>OQ.val (v:=.bool (decide ((l.getD k 0)<(0:Int)))) hf rfl (fun w hS=>aA.lss rfl rfl) fun a hf=>q0 hf rfl rfl fun a hf=>?_
    refine OQ.je (K':=fun a=>Fr a 62 [] [(1,vL),(2,(pp b_f1)),(5,iV k),(26,.bool ((decide ((l.getD k 0)<(0:Int)))||(decide ((l.getD k 0)≥((zs.length:Int):Int)))))]) 9 ?_ ?_
    · rcases Bool.eq_false_or_eq_true (decide ((l.getD k 0)<(0:Int))) with hb3 | hb3
      · have hb3p:=of_decide_eq_true hb3
        refine OQ.aJ hf rfl rfl hb3 rfl fun a hf=>OQ.aJ hf rfl rfl hb3 rfl fun a hf=>OQ.aJ hf rfl rfl hb3 rfl fun a hf=>OQ.aJ hf rfl rfl hb3 rfl fun a hf=>OQ.aJ hf rfl rfl hb3 rfl fun a hf=>OQ.aJ hf rfl rfl hb3 rfl fun a hf=>OQ.aJ hf rfl rfl hb3 rfl fun a hf=>OQ.aJ hf rfl rfl hb3 rfl fun a hf=>?_; refine OQ.val (v:=.bool ((decide ((l.getD k 0)<(0:Int)))||(decide ((l.getD k 0)≥((zs.length:Int):Int))))) hf rfl (fun w hS=>aA.pick rfl rfl rfl (by rw [hb3]; rfl)) ?_; clear hf a; intro a hf; exact OQ.nil (hf.q rfl)
      · have hb3p:=of_decide_eq_false hb3
        refine gm hf rfl rfl hb3 rfl rfl fun a hf=>gm hf rfl rfl hb3 rfl rfl fun a hf=>OQ.gval (v:=ix vL k) hf rfl rfl hb3 rfl (fun w hS=>aA.ixV (j:=k) (m:=k) aB aC rfl rfl (hS.aL (j:=1) rfl) rfl (by omega) (Nat.mul_one _)) fun a hf=>OQ.gval (v:=iV (l.getD k 0)) hf rfl rfl hb3 rfl (fun w hS=>aA.ld1 aI rfl (hS.aL (j:=1) rfl) (aH (by omega))) fun a hf=>OQ.gval (v:=.pointer (some ⟨b_f1,2,none⟩)) hf rfl rfl hb3 rfl (fun w hS=>aA.field ax rfl rfl) fun a hf=>OQ.gval (v:=vP) hf rfl rfl hb3 rfl (fun w hS=>aA.aX bY rfl (hS.p 0 rfl) rfl) fun a hf=>OQ.gval (v:=iV (zs.length:Int)) hf rfl rfl hb3 rfl (fun w hS=>aA.bL (e:=2) (by simpa using aU) rfl (hS.aL (j:=0) rfl)) fun a hf=>OQ.gval (v:=.bool (decide ((l.getD k 0)≥((zs.length:Int):Int)))) hf rfl rfl hb3 rfl (fun w hS=>aA.geq rfl rfl) fun a hf=>?_; refine OQ.val (v:=.bool ((decide ((l.getD k 0)<(0:Int)))||(decide ((l.getD k 0)≥((zs.length:Int):Int))))) hf rfl (fun w hS=>aA.pick rfl rfl rfl (by rw [hb3]; rfl)) ?_; clear hf a; intro a hf; exact OQ.nil (hf.q rfl)
    clear hf a; intro a hf; refine q0 hf rfl rfl fun a hf=>?_
    refine OQ.je (K':=fun a=>Fr a 62 [] [(1,vL),(2,(pp b_f1)),(5,iV k),(42,.bool (((decide ((l.getD k 0)<(0:Int)))||(decide ((l.getD k 0)≥((zs.length:Int):Int))))||((decide ((k:Int)>(0:Int)))&&(decide ((l.getD k 0)≤(l.getD (k-1) 0:Int))))))]) 15 ?_ ?_
    · rcases Bool.eq_false_or_eq_true ((decide ((l.getD k 0)<(0:Int)))||(decide ((l.getD k 0)≥((zs.length:Int):Int)))) with hb4 | hb4
      · have hb4p:=hb4
        try simp only [bsm] at hb4p
        refine OQ.aJ hf rfl rfl hb4 rfl fun a hf=>OQ.aJ hf rfl rfl hb4 rfl fun a hf=>OQ.aJ hf rfl rfl hb4 rfl fun a hf=>OQ.bS hf rfl rfl rfl fun a hf=>OQ.bS hf rfl rfl rfl fun a hf=>OQ.bS hf rfl rfl rfl fun a hf=>OQ.bS hf rfl rfl rfl fun a hf=>OQ.bS hf rfl rfl rfl fun a hf=>OQ.bS hf rfl rfl rfl fun a hf=>OQ.bS hf rfl rfl rfl fun a hf=>?_; refine OQ.bS hf rfl rfl rfl fun a hf=>OQ.bS hf rfl rfl rfl fun a hf=>OQ.bS hf rfl rfl rfl fun a hf=>OQ.aJ hf rfl rfl hb4 rfl fun a hf=>?_; refine OQ.val (v:=.bool (((decide ((l.getD k 0)<(0:Int)))||(decide ((l.getD k 0)≥((zs.length:Int):Int))))||((decide ((k:Int)>(0:Int)))&&(decide ((l.getD k 0)≤(l.getD (k-1) 0:Int)))))) hf rfl (fun w hS=>aA.pick rfl rfl rfl (by rw [hb4]; rfl)) ?_; clear hf a; intro a hf; exact OQ.nil (hf.q rfl)
      · have hb4p:=hb4
        try simp only [bsm] at hb4p
        refine gm hf rfl rfl hb4 rfl rfl fun a hf=>OQ.gval (v:=.bool (decide ((k:Int)>(0:Int)))) hf rfl rfl hb4 rfl (fun w hS=>aA.gtr rfl rfl) fun a hf=>gm hf rfl rfl hb4 rfl rfl fun a hf=>?_
        refine OQ.je (K':=fun a=>Fr a 62 [] [(1,vL),(2,(pp b_f1)),(5,iV k),(27,.bool ((decide ((l.getD k 0)<(0:Int)))||(decide ((l.getD k 0)≥((zs.length:Int):Int))))),(41,.bool ((decide ((k:Int)>(0:Int)))&&(decide ((l.getD k 0)≤(l.getD (k-1) 0:Int)))))]) 11 ?_ ?_
        · rcases Bool.eq_false_or_eq_true (decide ((k:Int)>(0:Int))) with hb5 | hb5
          · have hb5p:=of_decide_eq_true hb5
            refine gm hf rfl rfl hb5 rfl rfl fun a hf=>gm hf rfl rfl hb5 rfl rfl fun a hf=>OQ.gval (v:=ix vL k) hf rfl rfl hb5 rfl (fun w hS=>aA.ixV (j:=k) (m:=k) aB aC rfl rfl (hS.aL (j:=1) rfl) rfl (by omega) (Nat.mul_one _)) fun a hf=>OQ.gval (v:=iV (l.getD k 0)) hf rfl rfl hb5 rfl (fun w hS=>aA.ld1 aI rfl (hS.aL (j:=1) rfl) (aH (by omega))) fun a hf=>gm hf rfl rfl hb5 rfl rfl fun a hf=>gm hf rfl rfl hb5 rfl rfl fun a hf=>OQ.gval (v:=iV ((k:Int)-1)) hf rfl rfl hb5 rfl (fun w hS=>aA.bg rfl rfl (by omega)) fun a hf=>?_; refine OQ.gval (v:=ix vL (k-1)) hf rfl rfl hb5 rfl (fun w hS=>aA.ixV (j:=(k-1)) (m:=(k-1)) aB aC rfl rfl (hS.aL (j:=1) rfl) (by congr 1; omega) (by omega) (Nat.mul_one _)) ?_; clear hf a; intro a hf; refine OQ.gval (v:=iV (l.getD (k-1) 0)) hf rfl rfl hb5 rfl (fun w hS=>aA.ld1 aI rfl (hS.aL (j:=1) rfl) (aH (by omega))) fun a hf=>OQ.gval (v:=.bool (decide ((l.getD k 0)≤(l.getD (k-1) 0:Int)))) hf rfl rfl hb5 rfl (fun w hS=>aA.leq rfl rfl) fun a hf=>?_; refine OQ.gval (v:=.bool ((decide ((k:Int)>(0:Int)))&&(decide ((l.getD k 0)≤(l.getD (k-1) 0:Int))))) hf rfl rfl hb4 rfl (fun w hS=>aA.pick rfl rfl rfl (by rw [hb5]; rfl)) ?_; clear hf a; intro a hf; exact OQ.nil (hf.q rfl)
          · have hb5p:=of_decide_eq_false hb5
            refine OQ.aJ hf rfl rfl hb5 rfl fun a hf=>OQ.aJ hf rfl rfl hb5 rfl fun a hf=>OQ.aJ hf rfl rfl hb5 rfl fun a hf=>OQ.aJ hf rfl rfl hb5 rfl fun a hf=>OQ.aJ hf rfl rfl hb5 rfl fun a hf=>OQ.aJ hf rfl rfl hb5 rfl fun a hf=>OQ.aJ hf rfl rfl hb5 rfl fun a hf=>OQ.aJ hf rfl rfl hb5 rfl fun a hf=>OQ.aJ hf rfl rfl hb5 rfl fun a hf=>OQ.aJ hf rfl rfl hb5 rfl fun a hf=>?_; refine OQ.gval (v:=.bool ((decide ((k:Int)>(0:Int)))&&(decide ((l.getD k 0)≤(l.getD (k-1) 0:Int))))) hf rfl rfl hb4 rfl (fun w hS=>aA.pick rfl rfl rfl (by rw [hb5]; rfl)) ?_; clear hf a; intro a hf; exact OQ.nil (hf.q rfl)
        clear hf a; intro a hf; refine OQ.val (v:=.bool (((decide ((l.getD k 0)<(0:Int)))||(decide ((l.getD k 0)≥((zs.length:Int):Int))))||((decide ((k:Int)>(0:Int)))&&(decide ((l.getD k 0)≤(l.getD (k-1) 0:Int)))))) hf rfl (fun w hS=>aA.pick rfl rfl rfl (by rw [hb4]; rfl)) ?_; clear hf a; intro a hf; exact OQ.nil (hf.q rfl)
    clear hf a; intro a hf; refine OQ.nil ?_; intro w hS; refine aF ?_; refine W.if_ hf rfl (fun hbad=>?_) (fun hbad=>?_)
    · have hbadb:=hbad
      try simp only [bsm] at hbad
      refine W.seq ?_
      refine R1 rfl<|mv hf rfl<|?_; clear hf a; intro a hf; refine nk<|W.ret<|aN<|aK<|aK<|aN<|aK<|bD hf rfl (aT.tmp rfl)<|?_; refine ⟨(),by rw [show decide (Det.conn fW fH l)=false from decide_eq_false (fun h=>by first | exact absurd h.2.1 (by omega) | have:=h.1 k (by omega); simp only [Bool.or_eq_true,Bool.and_eq_true,decide_eq_true_eq] at hbadb; rw [hn] at hbadb; omega)],hS.sub (List.nil_sublist _) |>.noB⟩
    · have hbadb:=hbad
      try simp only [bsm] at hbad
      refine W.skip<|aG<|aF<|?_
      refine R3 rfl<|mv hf rfl<|?_; clear hf a; intro a hf; refine ov hf rfl (aA.aj rfl rfl (by omega)) ?_; clear hf a; intro a hf; refine mv hf rfl ?_; clear hf a; intro a hf; refine O.nil ?_; refine aO ⟨(k+1),⟨hf.to ⟨rfl,rfl,(by first | rfl | exact vI (by omega)),trivial⟩,?_,?_,?_⟩,?_⟩
      · exact hS.eqM rfl
      · omega
      · simp only [Bool.or_eq_false_iff,Bool.and_eq_false_iff,decide_eq_false_iff_not] at hbadb
        rw [hn] at hbadb; exact Det.eU h2 (by omega)
      · dsimp only; omega
  · refine W.exit ?_
    refine aD<|aD<|bA<|aF<|?_; replace hf:Fr a 62 [] [(1,_),(2,_)]:=hf.q rfl; refine W.seq ?_
    obtain rfl:k=l.length:=by omega
    refine W.dP (fun w=>St w0 w noX [rI vP zs,rI vL l] [pt b_f1 (.cells #[iV fW,iV fH,vP] 24 (0,0))]) aS rfl (by kernel_rfl) rfl hS.drew ?_; clear hS; refine q0 hf rfl rfl fun a hf=>OQ.val (v:=iV (l.length:Int)) hf rfl (fun w hS=>aA.bL (e:=3) (by simpa using aB) rfl (hS.aL (j:=1) rfl)) fun a hf=>OQ.val (v:=.bool false) hf rfl (fun w hS=>aA.toB (aA.gtr rfl rfl) (decide_eq_false (by omega))) fun a hf=>q0 hf rfl rfl fun a hf=>OQ.aJ hf rfl rfl rfl rfl fun a hf=>OQ.aJ hf rfl rfl rfl rfl fun a hf=>OQ.aJ hf rfl rfl rfl rfl fun a hf=>OQ.aJ hf rfl rfl rfl rfl fun a hf=>OQ.aJ hf rfl rfl rfl rfl fun a hf=>OQ.aJ hf rfl rfl rfl rfl fun a hf=>?_; refine OQ.aJ hf rfl rfl rfl rfl fun a hf=>OQ.aJ hf rfl rfl rfl rfl fun a hf=>OQ.aJ hf rfl rfl rfl rfl fun a hf=>OQ.aJ hf rfl rfl rfl rfl fun a hf=>OQ.aJ hf rfl rfl rfl rfl fun a hf=>OQ.aJ hf rfl rfl rfl rfl fun a hf=>OQ.aJ hf rfl rfl rfl rfl fun a hf=>OQ.aJ hf rfl rfl rfl rfl fun a hf=>OQ.val (v:=.bool false) hf rfl (fun w hS=>aA.pick rfl rfl rfl rfl) fun a hf=>OQ.val (v:=.bool false) hf rfl (fun w hS=>aA.assign rfl) fun a hf=>?_; refine OQ.nil ?_; intro w hS; refine aF<|W.ret<|bD hf rfl (aT.tmp rfl)<|?_; refine ⟨(),by rw [show decide (Det.conn fW fH l)=false from decide_eq_false (fun h=>by first | exact absurd h.2.1 (by omega) | have:=h.1 k (by omega); simp only [Bool.or_eq_true,Bool.and_eq_true,decide_eq_true_eq] at hbadb; rw [hn] at hbadb; omega)],hS.sub (List.nil_sublist _) |>.noB⟩
theorem oZ (fW fH:Nat) (vP vL:Value) (zs l:List Int) (w0:World) [Decidable (Det.conn fW fH l)] (hW:1≤fW∧fW≤100) (hH:1≤fH∧fH≤100) (hn:zs.length=fW*fH) (hP:aR (hp w0) 1 vP zs.length (ints zs)) (hL:aR (hp w0) 1 vL l.length (ints l)) :
    Ret Tryz.prog 20 #[(fG fW fH vP),vL] w0 (G:=Unit) (fun _=>.bool (decide (Det.conn fW fH l))) (fun _ w=>St w0 w noX [] []):=by
  rcases Nat.eq_zero_or_pos l.length with h | h
  · exact zZ fW fH vP vL zs l w0 hW hH hn hP hL h
  · exact zu fW fH vP vL zs l w0 hW hH hn hP hL h
theorem zD (fW fH:Nat) (vP vL:Value) (zs l:List Int) (w0:World) (hc:Det.conn fW fH l) (hW:1≤fW∧fW≤100) (hH:1≤fH∧fH≤100) (hn:zs.length=fW*fH) (hP:aR (hp w0) 1 vP zs.length (ints zs)) (hL:aR (hp w0) 1 vL l.length (ints l)) :
    Ret Tryz.prog 20 #[(fG fW fH vP),vL] w0 (G:=Unit) (fun _=>.bool true) (fun _ w=>St w0 w noX [] []):=by
  haveI:Decidable (Det.conn fW fH l):=.isTrue hc; have h:=oZ fW fH vP vL zs l w0 hW hH hn hP hL; rw [show decide (Det.conn fW fH l)=true from decide_eq_true hc] at h; exact h
set_option maxHeartbeats 1000000 in
set_option maxRecDepth 4000 in
theorem yj (fW fH:Nat) (least:Int) (vP va:Value) (zs:List Int) (vs:List Value) (xss:List (List Int)) (w0:World) (hW:1≤fW∧fW≤100) (hH:1≤fH∧fH≤100) (hn:zs.length=fW*fH) (hP:aR (hp w0) 1 vP zs.length (ints zs)) (ha:aR (hp w0) 1 va vs.length vs) (hia:bO (hp w0) vs xss) (hgood:∀ x ∈ xss,Det.conn fW fH x∧least≤(x.length:Int)) (hrng:∀ x ∈ xss,∀ t ∈ x,0≤t∧t<((fW*fH:Nat):Int)) (hap:xss.Pairwise (fun a b=>∀ t ∈ a,t ∉ b)) :
    Ret Tryz.prog 18 #[(fG fW fH vP),va,iV least] w0 (G:=Value) (fun v=>.tuple #[v,.bool true]) (fun v w=>St w0 w noX [] [sl 3 1 v (Det.own (fW*fH) xss xss.length).length (ints (Det.own (fW*fH) xss xss.length))]):=by
  refine aP (lv:=[(fG fW fH vP),va,iV least]) Tryz.func18 rfl rfl rfl (fun a hf=>?_); replace hf:Fr a 78 [] [(0,(fG fW fH vP)),(1,va),(2,iV least)]:=hf; have hS:St w0 w0 noX [rI vP zs,rdv 1 va vs.length vs,inn vs xss] []:=(((St.refl w0).vO hia).bP ha).bP hP; have hN:fW*fH≤10000:=Nat.mul_le_mul hW.2 hH.2; have hlen:=ha.2.1; unfold maxLen at hlen; have hxl:=hia.1; refine W.seq ?_
  refine R3 rfl<|O.box (cs:=#[iV fW,iV fH,vP]) hf hS rfl rfl rfl rfl<|?_; intro b_f1 w a hbb_f1 hS hf; refine mv hf rfl fun a hf=>mv hf rfl fun a hf=>?_; refine nk<|W.seq<|?_
  refine R5 rfl<|ov hf rfl (aA.field ax rfl rfl)<|fun a hf=>ov hf rfl (aA.aX bY rfl (hS.p 0 rfl) rfl) fun a hf=>ov hf rfl (aA.bL (e:=2) (by simpa using aU) rfl (hS.aL (j:=0) rfl)) fun a hf=>?_; refine O.make (N:=zs.length) hf hS rfl rfl aB aC fo cu rfl rfl (by unfold maxLen; omega) (by omega) ?_; intro b_m2 w a hbb_m2 hS hf; have hS:=hS.eqM (N:=[sl 3 1 (.slice (some ⟨b_m2,0,none⟩) zs.length zs.length) zs.length (ints (List.replicate zs.length (0:Int))),pt b_f1 (.cells #[iV fW,iV fH,vP] 24 (0,0))]) (by rw [aCF]); refine mv hf rfl fun a hf=>?_; refine O.nil ?_; obtain ⟨vm,hvm⟩:∃ vm,(.slice (some ⟨b_m2,0,none⟩) zs.length zs.length:Value)=vm:=⟨_,rfl⟩; rw [hvm] at hf hS; clear hvm; replace hS:=hS.eqM (N:=[sl 3 1 vm ((List.replicate zs.length (0:Int)).length) (ints (List.replicate zs.length (0:Int))),pt b_f1 (.cells #[iV fW,iV fH,vP] 24 (0,0))]) (by simp); refine aF<|W.seq<|W.seq<|?_
  refine R1 rfl<|mv hf rfl<|fun a hf=>?_; refine nk<|W.block<|?_
  refine W.loop (G:=(Nat) × (List Int)) (fun g a w=>match g with | (k,of)=>Fr a 78 [] [(1,va),(2,iV least),(3,(pp b_f1)),(6,.slice none 0 0),(7,.bool false),(8,vm),(9,iV k)]∧St w0 w noX [rI vP zs,rdv 1 va vs.length vs,inn vs xss] [sl 3 1 vm of.length (ints of),pt b_f1 (.cells #[iV fW,iV fH,vP] 24 (0,0))]∧(k≤zs.length)∧(of=(List.replicate k (-1)++List.replicate (zs.length-k) 0))∧(of.length=zs.length)) (fun g=>match g with | (k,of)=>zs.length-k) (0,(List.replicate zs.length (0:Int))) ?_ ?_
  · refine ⟨hf.to ⟨rfl,rfl,rfl,rfl,rfl,rfl,(by first | rfl | exact vI (by omega)),trivial⟩,hS,?_,?_,?_⟩
    · omega
    · simp
    · simp
  clear hf hS a; rintro ⟨k,of⟩ a w ⟨hf,hS,h1,h2,h3⟩; refine W.seq<|W.seq<|?_
  refine R4 rfl<|mv hf rfl<|fun a hf=>mv hf rfl fun a hf=>ov hf rfl (aA.bL (e:=3) (by simpa using aB) rfl (hS.slr (j:=0) rfl)) fun a hf=>ov (v:=.bool (decide ((k:Int)<((of.length:Int):Int)))) hf rfl (aA.lss rfl rfl) fun a hf=>?_; refine nk ?_; refine W.bF hf rfl (fun hk1=>?_) (fun hk1=>?_)
  · refine W.skip ?_
    refine aF<|W.seq<|W.block<|?_
    refine R4 rfl<|mv hf rfl<|fun a hf=>mv hf rfl fun a hf=>ov hf rfl (aA.ixV (j:=k) (m:=k) aB aC rfl rfl (hS.slr (j:=0) rfl) rfl (by omega) (Nat.mul_one _)) fun a hf=>?_; refine O.au (j:=0) (m:=k) (xs':=ints (of.set k (-1))) (M':=[sl 3 1 vm of.length (ints (of.set k (-1))),pt b_f1 (.cells #[iV fW,iV fH,vP] 24 (0,0))]) hf hS rfl rfl rfl aC rfl rfl rfl (by simp only [aV,List.length_set]; omega) ints_set rfl rfl ?_; intro w hS; refine O.nil<|aG<|aF<|?_
    refine R3 rfl<|mv hf rfl<|fun a hf=>ov hf rfl (aA.aj rfl rfl (by omega)) fun a hf=>mv hf rfl fun a hf=>?_; refine O.nil ?_; refine aO ⟨(k+1,(of.set k (-1))),⟨hf.to ⟨rfl,rfl,rfl,rfl,rfl,rfl,(by first | rfl | exact vI (by omega)),trivial⟩,?_,?_,?_,?_⟩,?_⟩
    · exact hS.eqM (by rw [List.length_set])
    · omega
    · rw [h2]; exact Det.aCK (by omega)
    · simp only [List.length_set]; exact h3
    · dsimp only; omega
  · refine W.exit ?_
    refine aD<|aD<|bA<|aF<|W.seq<|W.seq<|?_
    refine R1 rfl<|mv hf rfl<|fun a hf=>?_; refine nk<|W.block<|?_
    refine W.loop (G:=(Nat) × (List Int)) (fun g a w=>match g with | (s,of1)=>Fr a 78 [] [(1,va),(2,iV least),(3,(pp b_f1)),(8,vm),(10,iV s)]∧St w0 w noX [rI vP zs,rdv 1 va vs.length vs,inn vs xss] [sl 3 1 vm of1.length (ints of1),pt b_f1 (.cells #[iV fW,iV fH,vP] 24 (0,0))]∧(s≤vs.length)∧(of1=(Det.own (fW*fH) xss s))∧(of1.length=fW*fH)) (fun g=>match g with | (s,of1)=>vs.length-s) (0,of) ?_ ?_
    · refine ⟨hf.to ⟨rfl,rfl,rfl,rfl,(by first | rfl | exact vI (by omega)),trivial⟩,hS,?_,?_,?_⟩
      · omega
      · rw [h2,show k=fW*fH from by omega,show zs.length-fW*fH=0 from by omega]; simp [Det.own]
      · omega
    clear hf hS a; rintro ⟨s,of1⟩ a w ⟨hf,hS,g1,hof1,g3⟩; refine W.seq<|W.seq<|?_
    refine R4 rfl<|mv hf rfl<|fun a hf=>mv hf rfl fun a hf=>ov hf rfl (aA.bL (e:=26) (by simpa using ah) rfl (hS.aL (j:=1) rfl)) fun a hf=>ov (v:=.bool (decide ((s:Int)<((vs.length:Int):Int)))) hf rfl (aA.lss rfl rfl) fun a hf=>?_; refine nk ?_; replace hf:Fr a 78 [] [(1,_),(2,_),(3,_),(8,_),(10,_),(28,_)]:=hf.q rfl; refine W.bF hf rfl (fun hs1=>?_) (fun hs1=>?_)
    · refine W.skip ?_
      refine aF<|W.seq<|W.block<|W.seq<|W.seq<|?_
      refine W.dP (fun w=>St w0 w noX [rI vP zs,rdv 1 va vs.length vs,inn vs xss] [sl 3 1 vm of1.length (ints of1),pt b_f1 (.cells #[iV fW,iV fH,vP] 24 (0,0))]) aS rfl (by kernel_rfl) rfl hS.drew ?_; clear hS; refine OQ.val (v:=(fG fW fH vP)) hf rfl (fun w hS=>aA.cO (cs':=#[iV fW,iV fH,vP]) bR bH rfl (hS.p 1 rfl) (bl rfl) rfl) fun a hf=>q0 hf rfl rfl fun a hf=>q0 hf rfl rfl fun a hf=>OQ.val (v:=ix va s) hf rfl (fun w hS=>aA.ixV (j:=s) (m:=s) ah bB rfl rfl (hS.aL (j:=1) rfl) rfl (by omega) (Nat.mul_one _)) fun a hf=>OQ.val (v:=(vs.getD s undef)) hf rfl (fun w hS=>aA.ld1 bN rfl (hS.aL (j:=1) rfl) (fV (by omega))) fun a hf=>OQ.gX (v:=.bool true) hf rfl (fun w hS=>dJ.call (av:=#[(fG fW fH vP),(vs.getD s undef)]) aAw rfl rfl rfl) (fun w hS=>zD fW fH vP (vs.getD s undef) zs (xss.getD s []) _ (hgood _ (Det.at_mem (by omega))).1 hW hH hn (hS.aL (j:=0) rfl) ((hS.jO (j:=2) rfl).get (i:=s) (by omega))) fun a hf=>OQ.val (v:=.bool false) hf rfl (fun w hS=>aA.not (b:=true) rfl) fun a hf=>q0 hf rfl rfl fun a hf=>gm hf rfl rfl rfl rfl rfl fun a hf=>gm hf rfl rfl rfl rfl rfl fun a hf=>OQ.gval (v:=ix va s) hf rfl rfl rfl rfl (fun w hS=>aA.ixV (j:=s) (m:=s) ah bB rfl rfl (hS.aL (j:=1) rfl) rfl (by omega) (Nat.mul_one _)) fun a hf=>OQ.gval (v:=(vs.getD s undef)) hf rfl rfl rfl rfl (fun w hS=>aA.ld1 bN rfl (hS.aL (j:=1) rfl) (fV (by omega))) fun a hf=>OQ.gval (v:=iV ((xss.getD s []).length:Int)) hf rfl rfl rfl rfl (fun w hS=>aA.bL (e:=3) (by simpa using aB) rfl (bO.get (hS.jO (j:=2) rfl) (i:=s) (by omega))) fun a hf=>gm hf rfl rfl rfl rfl rfl fun a hf=>OQ.gval (v:=.bool (decide (((xss.getD s []).length:Int)<(least:Int)))) hf rfl rfl rfl rfl (fun w hS=>aA.lss rfl rfl) fun a hf=>OQ.val (v:=.bool (decide (((xss.getD s []).length:Int)<(least:Int)))) hf rfl (fun w hS=>aA.pick rfl rfl rfl rfl) fun a hf=>?_; refine OQ.nil ?_; intro w hS; refine aF ?_; refine W.bF hf rfl (fun hsm=>?_) (fun hsm=>?_)
      · exfalso; have:=(hgood _ (Det.at_mem (q:=s) (by omega))).2; omega
      · refine W.skip ?_
        refine aF<|W.seq<|?_
        refine R1 rfl<|mv hf rfl<|fun a hf=>?_; refine nk<|W.block<|?_
        refine W.loop (G:=(Nat) × (List Int)) (fun g a w=>match g with | (k,of2)=>Fr a 78 [] [(1,va),(2,iV least),(3,(pp b_f1)),(8,vm),(10,iV s),(11,iV k)]∧St w0 w noX [rI vP zs,rdv 1 va vs.length vs,inn vs xss] [sl 3 1 vm of2.length (ints of2),pt b_f1 (.cells #[iV fW,iV fH,vP] 24 (0,0))]∧(k≤(xss.getD s []).length)∧(of2=Det.iY (Det.own (fW*fH) xss s) (xss.getD s []) (s:Int) k)∧(of2.length=fW*fH)) (fun g=>match g with | (k,of2)=>(xss.getD s []).length-k) (0,of1) ?_ ?_
        · refine ⟨hf.to ⟨rfl,rfl,rfl,rfl,rfl,(by first | rfl | exact vI (by omega)),trivial⟩,hS,?_,?_,?_⟩
          · omega
          · rw [hof1]; rfl
          · exact g3
        clear hf hS a; rintro ⟨k,of2⟩ a w ⟨hf,hS,g5,hof2,g4⟩; refine W.seq<|W.seq<|?_
        refine R7 rfl ?_; have hl4:=(hS.jO (j:=2) rfl).get (i:=s) (by omega) |>.2.1; unfold maxLen at hl4; refine mv hf rfl fun a hf=>mv hf rfl fun a hf=>mv hf rfl fun a hf=>ov hf rfl (aA.ixV (j:=s) (m:=s) ah bB rfl rfl (hS.aL (j:=1) rfl) rfl (by omega) (Nat.mul_one _)) fun a hf=>ov hf rfl (aA.ld1 bN rfl (hS.aL (j:=1) rfl) (fV (by omega))) fun a hf=>ov hf rfl (aA.bL (e:=3) (by simpa using aB) rfl (bO.get (hS.jO (j:=2) rfl) (i:=s) (by omega))) fun a hf=>ov (v:=.bool (decide ((k:Int)<(((xss.getD s []).length:Int):Int)))) hf rfl (aA.lss rfl rfl) fun a hf=>?_; refine nk ?_; refine W.bF hf rfl (fun hk2=>?_) (fun hk2=>?_)
        · refine W.skip ?_
          refine aF<|W.seq<|W.block<|W.seq<|W.seq<|?_
          refine W.aY (l:=[0,1,2,3,4,5,6,7,8,9,10]) rfl ?_; have hel:=hrng _ (Det.at_mem (ss:=xss) (q:=s) (by omega)) _ (Det.bG (l:=(xss.getD s [])) (j:=k) (by omega)); refine mv hf rfl fun a hf=>mv hf rfl fun a hf=>mv hf rfl fun a hf=>ov hf rfl (aA.ixV (j:=s) (m:=s) ah bB rfl rfl (hS.aL (j:=1) rfl) rfl (by omega) (Nat.mul_one _)) fun a hf=>ov hf rfl (aA.ld1 bN rfl (hS.aL (j:=1) rfl) (fV (by omega))) fun a hf=>mv hf rfl fun a hf=>ov hf rfl (aA.ixV (j:=k) (m:=k) aB aC rfl rfl (bO.get (hS.jO (j:=2) rfl) (i:=s) (by omega)) rfl (by omega) (Nat.mul_one _)) fun a hf=>ov hf rfl (aA.ld1 aI rfl (bO.get (hS.jO (j:=2) rfl) (i:=s) (by omega)) (aH (by omega))) fun a hf=>ov hf rfl (aA.ixV (j:=(Int.toNat ((xss.getD s []).getD k 0))) (m:=(Int.toNat ((xss.getD s []).getD k 0))) aB aC rfl rfl (hS.slr (j:=0) rfl) (by rw [Int.toNat_of_nonneg (by omega)]) (by omega) (Nat.mul_one _)) fun a hf=>ov hf rfl (aA.ld1 aI rfl (hS.slr (j:=0) rfl) (aH (by omega))) fun a hf=>ov (v:=.bool (decide ((of2.getD (Int.toNat ((xss.getD s []).getD k 0)) 0)≥(0:Int)))) hf rfl (aA.geq rfl rfl) fun a hf=>?_; refine nk ?_; refine W.bF hf rfl (fun hfree=>?_) (fun hfree=>?_)
          · exfalso; have:=Det.aEl hrng hap (s:=s) (k:=k) (by omega) (by omega) (hgood _ (Det.at_mem (by omega))).1.1; rw [← hof2] at this; omega
          · refine W.skip ?_
            refine aF ?_
            refine W.aY (l:=[0,1,2,3,4,5,6,7,8,9,10]) rfl<|mv hf rfl<|fun a hf=>?_; refine mv hf rfl fun a hf=>mv hf rfl fun a hf=>ov hf rfl (aA.ixV (j:=s) (m:=s) ah bB rfl rfl (hS.aL (j:=1) rfl) rfl (by omega) (Nat.mul_one _)) fun a hf=>ov hf rfl (aA.ld1 bN rfl (hS.aL (j:=1) rfl) (fV (by omega))) fun a hf=>mv hf rfl fun a hf=>ov hf rfl (aA.ixV (j:=k) (m:=k) aB aC rfl rfl (bO.get (hS.jO (j:=2) rfl) (i:=s) (by omega)) rfl (by omega) (Nat.mul_one _)) fun a hf=>ov hf rfl (aA.ld1 aI rfl (bO.get (hS.jO (j:=2) rfl) (i:=s) (by omega)) (aH (by omega))) fun a hf=>mv hf rfl fun a hf=>ov hf rfl (aA.ixV (j:=(Int.toNat ((xss.getD s []).getD k 0))) (m:=(Int.toNat ((xss.getD s []).getD k 0))) aB aC rfl rfl (hS.slr (j:=0) rfl) (by rw [Int.toNat_of_nonneg (by omega)]) (by omega) (Nat.mul_one _)) fun a hf=>?_; refine O.au (j:=0) (m:=(Int.toNat ((xss.getD s []).getD k 0))) (xs':=ints (of2.set (Int.toNat ((xss.getD s []).getD k 0)) (s:Int))) (M':=[sl 3 1 vm of2.length (ints (of2.set (Int.toNat ((xss.getD s []).getD k 0)) (s:Int))),pt b_f1 (.cells #[iV fW,iV fH,vP] 24 (0,0))]) hf hS rfl rfl rfl aC rfl rfl rfl (by simp only [aV,List.length_set]; omega) ints_set rfl rfl ?_; intro w hS; refine O.nil<|aG<|aF<|?_
            refine R3 rfl<|mv hf rfl<|fun a hf=>ov hf rfl (aA.aj rfl rfl (by omega)) fun a hf=>mv hf rfl fun a hf=>?_; refine O.nil ?_; refine aO ⟨(k+1,(of2.set (Int.toNat ((xss.getD s []).getD k 0)) (s:Int))),⟨hf.to ⟨rfl,rfl,rfl,rfl,rfl,(by first | rfl | exact vI (by omega)),trivial⟩,?_,?_,?_,?_⟩,?_⟩
            · exact hS.eqM (by rw [List.length_set])
            · omega
            · rw [hof2]; rfl
            · simp only [List.length_set]; exact g4
            · dsimp only; omega
        · refine W.exit ?_
          refine aD<|aD<|bA<|aG<|aF<|?_
          refine R3 rfl<|mv hf rfl<|fun a hf=>ov hf rfl (aA.aj rfl rfl (by omega)) fun a hf=>mv hf rfl fun a hf=>?_; refine O.nil ?_; refine aO ⟨(s+1,of2),⟨hf.to ⟨rfl,rfl,rfl,rfl,(by first | rfl | exact vI (by omega)),trivial⟩,?_,?_,?_,?_⟩,?_⟩
          · exact hS.eqM rfl
          · omega
          · obtain rfl:k=(xss.getD s []).length:=by omega
            rw [hof2]; rfl
          · exact g4
          · dsimp only; omega
    · refine W.exit ?_
      refine aD<|aD<|bA<|aF<|W.seq<|?_
      refine R3 rfl<|mv hf rfl<|fun a hf=>mv hf rfl fun a hf=>mv hf rfl fun a hf=>?_; refine nk<|W.ret<|jE hf rfl (aT.tmp rfl) (aT.tmp rfl)<|?_; obtain rfl:s=vs.length:=by omega
      subst hof1
      rw [hxl] at hS; exact ⟨vm,rfl,(hS.sub (.cons_cons _ (.cons _ .slnil))).noB⟩
end Go.Proofs.YtipfobacinmoiaaGreat

set_option maxHeartbeats 1000000
set_option maxRecDepth 8000
namespace Go.Proofs.YtipfobacinmoiaaGreat
open Go Go.SL Go.Shelf Go.RowKit Go.Maps
theorem mM (fW fH:Int) (vP:Value) (zs:List Int) (w0:World) (hfo:Det.bC fW fH zs) (hP:aR (hp w0) 1 vP zs.length (ints zs)) :
    Ret Tryz.prog 22 #[(fG fW fH vP)] w0 (G:=Unit) (fun _=>iV 0) (fun _ w=>St w0 w noX [] []):=by
  haveI:Decidable (Det.bC fW fH zs):=.isTrue hfo; have h:=nT fW fH vP zs w0 hP; rw [if_pos hfo] at h; exact h
theorem aAF (fW fH:Int) (vP:Value) (zs:List Int) (w0:World) (hfo:Det.bC fW fH zs) (hP:aR (hp w0) 1 vP zs.length (ints zs)) :
    Ret Tryz.prog 25 #[(fG fW fH vP)] w0 (G:=Unit) (fun _=>iV 0) (fun _ w=>St w0 w noX [] []):=by
  haveI:Decidable (Det.bC fW fH zs):=.isTrue hfo; have h:=wQ fW fH vP zs w0 hP; rw [if_pos hfo] at h; exact h
end Go.Proofs.YtipfobacinmoiaaGreat

namespace Go.SL
open Go
def rZ (Bs:List (Nat × Obj)):Asr:=⟨fun b=>∃ p ∈ Bs,b=p.1,fun h=>∀ p ∈ Bs,h p.1=some p.2,fun h h' hk hh p hp=>by rw [hk p.1 ⟨p,hp,rfl⟩]; exact hh p hp⟩
section
variable {h:Hp} {sz n:Nat} {v:Value} {xs:List Value} {w w0:World} {X:Nat→Prop} {B M:List Asr} {b:Nat} {o:Obj} {Bs:List (Nat × Obj)}
theorem aR.obs (hr:aR h sz v n xs):∃ Bs:List (Nat × Obj),(∀ p ∈ Bs,h p.1=some p.2∧0<n∧v.ownBlock=some p.1)∧∀ h':Hp,(∀ p ∈ Bs,h' p.1=some p.2)→aR h' sz v n xs:=by
  obtain ⟨h1,h2,A,c,rfl,h3⟩:=hr
  rcases Nat.eq_zero_or_pos n with hn | hn
  · exact ⟨[],by simp,fun h' _=>⟨h1,h2,A,c,rfl,fun h0=>by omega⟩⟩
  · obtain ⟨a,cur,e,z,rfl,hs,hb,hc⟩:=h3 hn
    refine ⟨[(a.block,.cells cur e z)],fun p hp=>?_,fun h' hh=>⟨h1,h2,some a,c,rfl,fun _=>⟨a,cur,e,z,rfl,hs,hh _ List.mem_cons_self,hc⟩⟩⟩
    rw [List.mem_singleton.1 hp]
    exact ⟨hb,hn,rfl⟩
theorem St.aDP (hb:w.heap[b]? = some o) (hr:aR (hp w) sz v n xs):St w w noX [pt b o,rdv sz v n xs] []:=by
  refine St.borrow fun p hp=>?_
  rcases List.mem_cons.1 hp with rfl | hp
  · refine ⟨hb,fun k hk=>?_⟩
    have hk:k=b:=hk
    subst hk
    exact (Array.getElem?_eq_some_iff.1 hb).1
  · rw [List.mem_singleton.1 hp]
    exact ⟨hr,fun k hk=>hr.lt hk.1 hk.2⟩
theorem St.pU (hS:St w w noX B M) (h:∀ p ∈ Bs,w.heap[p.1]? = some p.2):St w w noX (rZ Bs::B) M :=
  ⟨hS.os,hS.tape,hS.output,hS.size,hS.old,hS.sep,fun p hp=>by
    rcases List.mem_cons.1 hp with rfl | hp
    · exact ⟨h,fun b ⟨q,hq,hb⟩=>⟨by subst hb; exact (Array.getElem?_eq_some_iff.1 (h q hq)).1,fun h=>h⟩⟩
    · exact hS.bor p hp⟩
theorem St.aGW {j:Nat} (hS:St w0 w X B M) (hi:B[j]? = some (rZ Bs)):∀ p ∈ Bs,w.heap[p.1]? = some p.2:=hS.bat hi
end
end Go.SL

namespace Go.SL
open Go
def aBJ (p:Prop):Asr:=⟨fun _=>False,fun _=>p,fun _ _ _ h=>h⟩
section
variable {w0 w w1:World} {X X1:Nat→Prop} {B M:List Asr} {p:Prop} {j e:Nat} {us:List Value} {outs:List (List Int)} {v:Value} {x:List Int} {l:List Int} {k:Nat}
theorem St.pure (hS:St w0 w X B M) (h:p):St w0 w X B (aBJ p::M):=hS.aBN h (fun _ h=>h)
theorem St.fact (hS:St w0 w X B M) (hi:M[j]? = some (aBJ p)):p:=hS.at_ hi
theorem aCA (hl:us.length=outs.length):dK e us outs++[sl e 1 v x.length (ints x)]=dK e (us++[v]) (outs++[x]):=by
  unfold dK
  rw [List.length_append,List.length_singleton,List.range_succ,List.map_append]
  congr 1
  · refine List.map_congr_left fun i hi=>?_
    have hi:=List.mem_range.1 hi
    simp [List.getD_eq_getElem?_getD,List.getElem?_append_left hi,List.getElem?_append_left (show i<outs.length by omega)]
  · simp [List.getD_eq_getElem?_getD,hl]
theorem St.aGY (hS:St w0 w X B (SL.sl e 1 v x.length (ints x)::cB (dK e us outs)::M)) (hl:us.length=outs.length):St w0 w X B (cB (dK e (us++[v]) (outs++[x]))::M):=by
  have h1:=St.ni (N:=[]) hS
  have h2:=h1.wN (i:=0) (l':=dK e (us++[v]) (outs++[x])) rfl (by rw [← aCA hl]; exact (List.perm_append_singleton _ _).symm)
  exact h2
theorem Lt.drop (h:Lt w1 X1 (rdv 1 v l.length (ints l))) (hf:vfit v) (hk:k≤l.length):Lt w1 X1 (rdv 1 (fK v l k) (l.drop k).length (ints (l.drop k))):=by
  have h1:aR (hp w1) 1 v l.length (ints l):=h.1
  refine ⟨(h1.fK hf hk).1,fun b hb=>?_⟩
  have hb0:0<(l.drop k).length:=hb.1
  have hb1:(fK v l k).ownBlock=some b:=hb.2
  refine h.2 b ⟨?_,?_⟩
  · rw [List.length_drop] at hb0; omega
  · rw [← hb1]
    unfold fK
    refine (aEE (enc:=fun x:Int=>[Value.int .i64 x]) (aAZ h1 hf) ?_ ⟨by omega,by omega,by omega⟩).symm
    rw [tq]; exact hb0
end
theorem aEO {h:Hp} {v:Value} {l:List Int} (hr:aR h 1 v l.length (ints l)) (hne:l≠[]):∃ ad c,v=.slice (some ad) l.length c:=by
  obtain ⟨_,_,A,c,rfl,h3⟩:=hr
  obtain ⟨a,_,_,_,rfl,_⟩:=h3 (List.length_pos_iff.2 hne)
  exact ⟨a,c,rfl⟩
theorem aGV {α:Type} {l:List α} {j:Nat} {x:α} (h:l[j]? = some x):l.take (j+1)=l.take j++[x]:=by
  obtain ⟨hj,rfl⟩:=List.getElem?_eq_some_iff.1 h
  exact List.take_succ_eq_append_getElem hj
section
variable {r:Option Nat} {P:Program} {Q:Exit→Act→World→Prop} {ops:Array Oper} {i:Nat} {rest:List Nat} {a:Act} {w w0 w':World} {n:Nat} {ds:List Deferred} {L:List (Nat × Value)}
  {d:Nat} {op:Op} {ty:TypeId} {pos:String} {af:Array Edge} {v x:Value} {f y:Operand} {l:Nat} {at_:Array TypeId}
theorem zS {m:Nat} {fn:FuncId} {tmps:Array Value} {assign body:Code} {R:Ending→World→Prop} (h:RoundIn (FW none) m P l fn tmps assign body w R):RoundIn (FW r) 0 P l fn tmps assign body w R :=
  ⟨trivial,fun c cs _=>let ⟨e,w',h1,s⟩:=h.2 c cs (aBg _ _); ⟨e,w',h1,jg.2 (jg.1 s)⟩⟩
theorem O.aEJ {R:World→Prop} (hf:Fr a n ds L) (ho:ops[i]? = some ⟨some d,.call ⟨.value f,#[y],at_⟩,ty,pos,af,none⟩) (hd:Nat.blt d n=true) (hx:ev L f=some (.func (.yield l) #[] #[])) (hy:ev L y=some x)
    (hY:YieldAt (FW none) 0 P l #[x] w (fun e w'=>e=.returned (.bool true)∧R w'))
    (k:∀ w' a',R w'→Fr a' n ds ((d,.bool true)::L)→O r P ops Q rest a' w'):O r P ops Q (i::rest) a w:=by
  obtain ⟨fn,tmps,assign,body,h1,h2⟩:=hY
  unfold O wpOpsIn
  simp only [ho]
  rw [if_pos (by simp [Region.wanted])]
  refine ⟨fun _ _=>trivial,?_⟩
  rw [dZ (o:=⟨some d,.call ⟨.value f,#[y],at_⟩,ty,pos,af,none⟩) rfl,jK hf hx hy h1]
  refine ⟨fun h=>by simp [FW] at h,(zS h2).mono ?_⟩
  rintro e w' ⟨rfl,hR⟩
  exact k w' _ hR (hf.put hd _)
end
end Go.SL
namespace Det
theorem flat_get {α:Type} {l:List (List Int)} {f:List Int→List α} {s j:Nat} {x:α} (hs:s<l.length) (h:(f (l.getD s []))[j]? = some x):(l.flatMap f)[((l.take s).flatMap f).length+j]? = some x:=by
  have e:l.flatMap f=(l.take s).flatMap f++(f (l.getD s [])++(l.drop (s+1)).flatMap f):=by
    conv=>lhs; rw [← List.take_append_drop s l,List.flatMap_append,List.drop_eq_getElem_cons hs,List.flatMap_cons]
    rw [List.getD_eq_getElem?_getD,List.getElem?_eq_getElem hs]; rfl
  rw [e,List.getElem?_append_right (by omega),Nat.add_sub_cancel_left]
  have hj:=(List.getElem?_eq_some_iff.1 h).1
  rw [List.getElem?_append_left hj]
  exact h
end Det
