/- Part of a proof: laws and walks. -/
import Derived.Test.YtgakdmmmljdpjaaDoorTao
set_option linter.unusedVariables false
set_option linter.unusedSimpArgs false
namespace Go.Proofs.YtgakdmmmljdpjaaDoor
open Go Go.SL
set_option maxHeartbeats 400000 in
set_option maxRecDepth 4000 in
theorem sameBools_spec (va:Value) (us:List Bool) (vb:Value) (vs:List Bool) (w0:World) (ha:rdOK (hp w0) 1 va us.length (bools us)) (hb:rdOK (hp w0) 1 vb vs.length (bools vs)) :
    Ret Tryd.prog 27 #[va,vb] w0 (G:=Unit) (fun _=>.bool (decide (us=vs))) (fun _ w=>St w0 w noX [] []):=by
  refine ret_of_W (lv:=[va,vb]) Tryd.func27 rfl rfl rfl (fun a hf=>?_)
  replace hf:Fr a 26 [] [(0,va),(1,vb)]:=hf
  have hS:St w0 w0 noX [rdv 1 va us.length (bools us),rdv 1 vb vs.length (bools vs)] []:=((St.refl w0).lend0 hb).lend0 ha
  have hlm1:=ha.2.1
  have hlm2:=hb.2.1
  unfold maxLen at hlm1 hlm2
  clear ha hb
  refine W.seq ?_
  refine W.regionL (l:=[0]) rfl ?_
  refine O.val hf rfl rfl rfl (RunV.assign rfl) ?_
  clear hf a; intro a hf
  refine O.nil ?_
  refine k_seq ?_
  refine W.seq ?_
  refine W.seq ?_
  refine W.regionL (l:=[0,1,2,3,4]) rfl ?_
  refine O.val hf rfl rfl rfl (RunV.move rfl) ?_
  clear hf a; intro a hf
  refine O.val hf rfl rfl rfl (RunV.lenV (e:=4) (by simpa using T_elem_51) rfl (hS.rdAt (j:=0) rfl)) ?_
  clear hf a; intro a hf
  refine O.val hf rfl rfl rfl (RunV.move rfl) ?_
  clear hf a; intro a hf
  refine O.val hf rfl rfl rfl (RunV.lenV (e:=4) (by simpa using T_elem_51) rfl (hS.rdAt (j:=1) rfl)) ?_
  clear hf a; intro a hf
  refine O.val (v:=.bool (decide ((us.length:Int)≠((vs.length:Int):Int)))) hf rfl rfl rfl (RunV.neq rfl rfl) ?_
  clear hf a; intro a hf
  refine O.nil ?_
  refine k_seq ?_
  replace hf:Fr a 26 [] [(0,va),(1,vb),(4,.bool false),(10,.bool (decide ((us.length:Int)≠((vs.length:Int):Int))))]:=hf.to ⟨rfl,rfl,rfl,rfl,trivial⟩
  refine W.ifdI hf rfl (fun hne=>?_) (fun hne=>?_)
  · refine W.seq ?_
    refine W.regionL (l:=[0]) rfl ?_
    refine O.val hf rfl rfl rfl (RunV.assign rfl) ?_
    clear hf a; intro a hf
    refine O.nil ?_
    refine k_seq ?_
    refine W.ret ?_
    refine k_then_ret ?_
    refine post1 hf rfl (ResOK.tmp rfl) ?_
    exact ⟨(),congrArg (fun b=>Ending.returned (Value.bool b)) (by first | exact (sb_1 hne).symm | exact (sb_2 (by omega) hdb).symm),hS.sub (List.nil_sublist _) |>.noB⟩
  · refine W.skip ?_
    refine k_seq ?_
    refine W.seq ?_
    refine W.seq ?_
    refine W.regionL (l:=[0]) rfl ?_
    refine O.val hf rfl rfl rfl (RunV.assign rfl) ?_
    clear hf a; intro a hf
    refine O.nil ?_
    refine k_seq ?_
    refine W.block ?_
    refine W.loop (G:=(Nat)) (fun g a w=>match g with | k=>Fr a 26 [] [(0,va),(1,vb),(5,.int .i64 (k:Int))]∧St w0 w noX [rdv 1 va us.length (bools us),rdv 1 vb vs.length (bools vs)] []∧(k≤us.length)∧(∀ j,j<k→us.getD j false=vs.getD j false)) (fun g=>match g with | k=>us.length-k) 0 ?_ ?_
    · refine ⟨hf.to ⟨rfl,rfl,(by first | rfl | exact congrArg some (congrArg (Value.int _) (by omega))),trivial⟩,hS,?_,?_⟩
      · omega
      · intro j hj; omega
    clear hf hS a
    rintro k a w ⟨hf,hS,hk,h2⟩
    refine W.seq ?_
    refine W.seq ?_
    refine W.regionL (l:=[0,1,2,3]) rfl ?_
    refine O.val hf rfl rfl rfl (RunV.move rfl) ?_
    clear hf a; intro a hf
    refine O.val hf rfl rfl rfl (RunV.move rfl) ?_
    clear hf a; intro a hf
    refine O.val hf rfl rfl rfl (RunV.lenV (e:=4) (by simpa using T_elem_51) rfl (hS.rdAt (j:=0) rfl)) ?_
    clear hf a; intro a hf
    refine O.val (v:=.bool (decide ((k:Int)<((us.length:Int):Int)))) hf rfl rfl rfl (RunV.lss rfl rfl) ?_
    clear hf a; intro a hf
    refine O.nil ?_
    refine k_seq ?_
    replace hf:Fr a 26 [] [(0,va),(1,vb),(5,.int .i64 (k:Int)),(14,.bool (decide ((k:Int)<((us.length:Int):Int))))]:=hf.to ⟨rfl,rfl,rfl,rfl,trivial⟩
    refine W.ifdI hf rfl (fun hlt=>?_) (fun hlt=>?_)
    · refine W.skip ?_
      refine k_seq ?_
      refine W.seq ?_
      refine W.block ?_
      refine W.seq ?_
      refine W.drawQ (fun w=>St w0 w noX [rdv 1 va us.length (bools us),rdv 1 vb vs.length (bools vs)] []) P_mixed rfl (by kernel_rfl) rfl hS.drew ?_
      clear hS
      refine OQ.val (v:=va) hf rfl (fun w hS=>RunV.move rfl) ?_; clear hf a; intro a hf
      refine OQ.val (v:=.int .i64 (k:Int)) hf rfl (fun w hS=>RunV.move rfl) ?_; clear hf a; intro a hf
      refine OQ.val (v:=ix va k) hf rfl (fun w hS=>RunV.ixV (j:=k) (m:=k) T_elem_51 T_size_4 rfl rfl (hS.rdAt (j:=0) rfl) rfl (by omega) (Nat.mul_one _)) ?_; clear hf a; intro a hf
      refine OQ.val (v:=.bool (us.getD k false)) hf rfl (fun w hS=>RunV.ld1 T_agg_4 rfl (hS.rdAt (j:=0) rfl) (bools_get (by omega))) ?_; clear hf a; intro a hf
      refine OQ.val (v:=vb) hf rfl (fun w hS=>RunV.move rfl) ?_; clear hf a; intro a hf
      refine OQ.val (v:=.int .i64 (k:Int)) hf rfl (fun w hS=>RunV.move rfl) ?_; clear hf a; intro a hf
      refine OQ.val (v:=ix vb k) hf rfl (fun w hS=>RunV.ixV (j:=k) (m:=k) T_elem_51 T_size_4 rfl rfl (hS.rdAt (j:=1) rfl) rfl (by omega) (Nat.mul_one _)) ?_; clear hf a; intro a hf
      refine OQ.val (v:=.bool (vs.getD k false)) hf rfl (fun w hS=>RunV.ld1 T_agg_4 rfl (hS.rdAt (j:=1) rfl) (bools_get (by omega))) ?_; clear hf a; intro a hf
      refine OQ.val (v:=.bool (!(us.getD k false == vs.getD k false))) hf rfl (fun w hS=>RunV.neBool (by kernel_rfl) rfl rfl) ?_; clear hf a; intro a hf
      refine OQ.nil ?_; intro w hS
      refine k_seq ?_
      replace hf:Fr a 26 [] [(0,va),(1,vb),(5,.int .i64 (k:Int)),(25,.bool (!(us.getD k false == vs.getD k false)))]:=hf.to ⟨rfl,rfl,rfl,rfl,trivial⟩
      refine W.if_ hf rfl (fun hd=>?_) (fun hd=>?_)
      · have hdb:=hd
        try simp only [Bool.and_eq_true,Bool.or_eq_true,Bool.and_eq_false_iff,Bool.or_eq_false_iff,decide_eq_true_eq,decide_eq_false_iff_not,Bool.not_eq_true',Bool.not_eq_false',Bool.not_eq_true,Bool.not_eq_false,ne_eq] at hd
        refine W.seq ?_
        refine W.regionL (l:=[0]) rfl ?_
        refine O.val hf rfl rfl rfl (RunV.assign rfl) ?_
        clear hf a; intro a hf
        refine O.nil ?_
        refine k_seq ?_
        refine W.ret ?_
        refine k_blk_ret ?_
        refine k_then_ret ?_
        refine k_then_ret ?_
        refine k_blk_ret ?_
        refine k_then_ret ?_
        refine post1 hf rfl (ResOK.tmp rfl) ?_
        exact ⟨(),congrArg (fun b=>Ending.returned (Value.bool b)) (by first | exact (sb_1 hne).symm | exact (sb_2 (by omega) hdb).symm),hS.sub (List.nil_sublist _) |>.noB⟩
      · have hdb:=hd
        try simp only [Bool.and_eq_true,Bool.or_eq_true,Bool.and_eq_false_iff,Bool.or_eq_false_iff,decide_eq_true_eq,decide_eq_false_iff_not,Bool.not_eq_true',Bool.not_eq_false',Bool.not_eq_true,Bool.not_eq_false,ne_eq] at hd
        refine W.skip ?_
        refine k_blk_normal ?_
        refine k_seq ?_
        refine W.regionL (l:=[0,1,2]) rfl ?_
        refine O.val hf rfl rfl rfl (RunV.move rfl) ?_
        clear hf a; intro a hf
        refine O.val hf rfl rfl rfl (RunV.addI rfl rfl (by omega)) ?_
        clear hf a; intro a hf
        refine O.val hf rfl rfl rfl (RunV.assign rfl) ?_
        clear hf a; intro a hf
        refine O.nil ?_
        refine k_then ⟨(k+1),⟨hf.to ⟨rfl,rfl,(by first | rfl | exact congrArg some (congrArg (Value.int _) (by omega))),trivial⟩,?_,?_,?_⟩,?_⟩
        · exact hS.eqM rfl
        · omega
        · intro j hj; by_cases hjk:j<k
          · exact h2 j hjk
          · have:j=k:=by omega
            subst this; simpa using hdb
        · dsimp only; omega
    · refine W.exit ?_
      refine k_then_exit ?_
      refine k_then_exit ?_
      refine k_blk ?_
      refine k_seq ?_
      replace hf:Fr a 26 [] []:=hf.to trivial
      refine W.seq ?_
      refine W.regionL (l:=[0]) rfl ?_
      refine O.val hf rfl rfl rfl (RunV.assign rfl) ?_
      clear hf a; intro a hf
      refine O.nil ?_
      refine k_seq ?_
      refine W.ret ?_
      refine post1 hf rfl (ResOK.tmp rfl) ?_
      exact ⟨(),congrArg (fun b=>Ending.returned (Value.bool b)) (sb_3 (by omega) (fun j hj=>h2 j (by omega))).symm,hS.sub (List.nil_sublist _) |>.noB⟩
theorem sameBools_true (va:Value) (us:List Bool) (vb:Value) (vs:List Bool) (w0:World) (ha:rdOK (hp w0) 1 va us.length (bools us)) (hb:rdOK (hp w0) 1 vb vs.length (bools vs)) (h:us=vs) :
    Ret Tryd.prog 27 #[va,vb] w0 (G:=Unit) (fun _=>.bool true) (fun _ w=>St w0 w noX [] []):=by
  have h3:=sameBools_spec va us vb vs w0 ha hb
  rw [decide_eq_true h] at h3
  exact h3
end Go.Proofs.YtgakdmmmljdpjaaDoor
