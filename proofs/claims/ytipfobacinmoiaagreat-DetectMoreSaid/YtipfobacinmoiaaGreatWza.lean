/- Part of a proof: walks printed by a program. -/
import Derived.Test.YtipfobacinmoiaaGreatWab
import Derived.Test.YtipfobacinmoiaaGreatSL19
import Derived.Test.YtipfobacinmoiaaGreatSL15
import Derived.Test.YtipfobacinmoiaaGreatDetLaw
import Derived.Test.YtipfobacinmoiaaGreatAlive
set_option linter.unusedVariables false
set_option linter.unusedSimpArgs false
namespace Go.Proofs.YtipfobacinmoiaaGreat
open Go Go.SL Go.Shelf Go.RowKit Go.Maps
theorem RunV.toB {P:Program} {n:Nat} {ds:List Deferred} {L:List (Nat × Value)} {op:Op} {ty:TypeId} {w w2:World} {b c:Bool} (h:RunV P n ds L op ty w (.bool b) w2) (e:b=c):RunV P n ds L op ty w (.bool c) w2:=e▸h
theorem C_ok_15:callOK Tryz.prog 15=true:=by kernel_rfl
theorem C_ok_16:callOK Tryz.prog 16=true:=by kernel_rfl
theorem C_ok_17:callOK Tryz.prog 17=true:=by kernel_rfl
theorem C_ok_18:callOK Tryz.prog 18=true:=by kernel_rfl
theorem C_ok_20:callOK Tryz.prog 20=true:=by kernel_rfl
theorem C_ok_8:callOK Tryz.prog 8=true:=by kernel_rfl
set_option maxHeartbeats 400000 in
set_option maxRecDepth 4000 in
theorem start11_spec (fW fH:Int) (vP vB:Value) (zs:List Int) (bs:List Bool) (w0:World) [Decidable (Det.fieldOK fW fH zs)] (hP:rdOK (hp w0) 1 vP zs.length (ints zs)) (hB:rdOK (hp w0) 1 vB bs.length (bools bs)) :
    Ret Tryz.prog 16 #[.agg #[.int .i64 fW,.int .i64 fH,vP],vB] w0 (G:=Unit) (fun _=>.int .i64 (if Det.fieldOK fW fH zs then (if bs.length=zs.length then 0 else 2) else 8)) (fun _ w=>St w0 w noX [] []):=by
  refine ret_of_W (lv:=[.agg #[.int .i64 fW,.int .i64 fH,vP],vB]) Tryz.func16 rfl rfl rfl (fun a hf=>?_)
  replace hf:Fr a 17 [] [(0,.agg #[.int .i64 fW,.int .i64 fH,vP]),(1,vB)]:=hf
  have hS:St w0 w0 noX [rdv 1 vP zs.length (ints zs),rdv 1 vB bs.length (bools bs)] []:=((St.refl w0).lend0 hB).lend0 hP
  refine W.seq ?_
  refine W.regionL (l:=[0,1]) rfl ?_
  refine O.box (cs:=#[.int .i64 fW,.int .i64 fH,vP]) hf hS rfl rfl rfl rfl ?_
  clear hf hS a; intro b_f1 w a hbb_f1 hS hf
  refine O.val hf rfl rfl rfl (RunV.assign rfl) ?_
  clear hf a; intro a hf
  refine O.nil ?_
  refine k_seq ?_
  replace hf:Fr a 17 [] [(1,vB),(2,.pointer (some ⟨b_f1,0,none⟩)),(4,.int .i64 0)]:=hf.to ⟨rfl,rfl,rfl,trivial⟩
  refine W.seq ?_
  refine W.seq ?_
  refine W.regionL (l:=[0,1,2]) rfl ?_
  refine O.val hf rfl rfl rfl (RunV.loadN (cs':=#[.int .i64 fW,.int .i64 fH,vP]) T_agg_24 T_size_24 rfl (hS.ptAt (i:=0) rfl) (Nat.le_of_ble_eq_true rfl) rfl) ?_
  clear hf a; intro a hf
  refine O.callR hf rfl rfl rfl (RunE.call (av:=#[.agg #[.int .i64 fW,.int .i64 fH,vP]]) C_ok_22 rfl rfl rfl) (check10_spec fW fH vP zs _ (hS.rdAt (j:=0) rfl)) ?_
  clear hf a
  rintro _ w2 hS1 a hf
  replace hf:Fr a _ _ ((7,.int .i64 (if Det.fieldOK fW fH zs then 0 else 8))::_):=hf
  replace hS:=(hS.call hS1).eqM (N:=[pt b_f1 (.cells #[.int .i64 fW,.int .i64 fH,vP] 24 (0,0))]) rfl
  clear hS1
  refine O.val hf rfl rfl rfl (RunV.assign rfl) ?_
  clear hf a; intro a hf
  refine O.nil ?_
  refine k_seq ?_
  replace hf:Fr a 17 [] [(1,vB),(2,.pointer (some ⟨b_f1,0,none⟩)),(4,.int .i64 0),(5,.int .i64 (if Det.fieldOK fW fH zs then 0 else 8))]:=hf.to ⟨rfl,rfl,rfl,rfl,trivial⟩
  refine W.seq ?_
  refine W.regionL (l:=[0,1]) rfl ?_
  refine O.val hf rfl rfl rfl (RunV.move rfl) ?_
  clear hf a; intro a hf
  refine O.val (v:=.bool (decide ((if Det.fieldOK fW fH zs then 0 else 8)≠(0:Int)))) hf rfl rfl rfl (RunV.neq rfl rfl) ?_
  clear hf a; intro a hf
  refine O.nil ?_
  refine k_seq ?_
  replace hf:Fr a 17 [] [(1,vB),(2,.pointer (some ⟨b_f1,0,none⟩)),(4,.int .i64 0),(5,.int .i64 (if Det.fieldOK fW fH zs then 0 else 8)),(9,.bool (decide ((if Det.fieldOK fW fH zs then 0 else 8)≠(0:Int))))]:=hf.to ⟨rfl,rfl,rfl,rfl,rfl,trivial⟩
  refine W.ifdI hf rfl (fun hce=>?_) (fun hce=>?_)
  · refine W.seq ?_
    refine W.regionL (l:=[0,1]) rfl ?_
    refine O.val hf rfl rfl rfl (RunV.move rfl) ?_
    clear hf a; intro a hf
    refine O.val hf rfl rfl rfl (RunV.assign rfl) ?_
    clear hf a; intro a hf
    refine O.nil ?_
    refine k_seq ?_
    replace hf:Fr a 17 [] [(1,vB),(2,.pointer (some ⟨b_f1,0,none⟩)),(4,.int .i64 (if Det.fieldOK fW fH zs then 0 else 8))]:=hf.to ⟨rfl,rfl,rfl,trivial⟩
    refine W.ret ?_
    refine k_then_ret ?_
    refine post1 hf rfl (ResOK.tmp rfl) ?_
    refine ⟨(),by rw [if_neg (fun h=>hce (if_pos h)),if_neg (fun h=>hce (if_pos h))],hS.sub (List.nil_sublist _) |>.noB⟩
  · have hfo:Det.fieldOK fW fH zs:=Classical.byContradiction fun h=>hce (by rw [if_neg h]; decide)
    refine W.skip ?_
    refine k_seq ?_
    replace hf:Fr a 17 [] [(1,vB),(2,.pointer (some ⟨b_f1,0,none⟩)),(4,.int .i64 0)]:=hf.to ⟨rfl,rfl,rfl,trivial⟩
    refine W.seq ?_
    refine W.seq ?_
    refine W.regionL (l:=[0,1,2,3,4,5]) rfl ?_
    refine O.val hf rfl rfl rfl (RunV.move rfl) ?_
    clear hf a; intro a hf
    refine O.val hf rfl rfl rfl (RunV.lenV (e:=4) (by simpa using T_elem_25) rfl (hS.rdAt (j:=1) rfl)) ?_
    clear hf a; intro a hf
    refine O.val hf rfl rfl rfl (RunV.field T_field_24_2 rfl rfl) ?_
    clear hf a; intro a hf
    refine O.val hf rfl rfl rfl (RunV.load1 T_agg_22 rfl (hS.ptAt (i:=0) rfl) rfl) ?_
    clear hf a; intro a hf
    refine O.val hf rfl rfl rfl (RunV.lenV (e:=2) (by simpa using T_elem_22) rfl (hS.rdAt (j:=0) rfl)) ?_
    clear hf a; intro a hf
    refine O.val (v:=.bool (decide ((bs.length:Int)≠((zs.length:Int):Int)))) hf rfl rfl rfl (RunV.neq rfl rfl) ?_
    clear hf a; intro a hf
    refine O.nil ?_
    refine k_seq ?_
    replace hf:Fr a 17 [] [(4,.int .i64 0),(16,.bool (decide ((bs.length:Int)≠((zs.length:Int):Int))))]:=hf.to ⟨rfl,rfl,trivial⟩
    refine W.ifdI hf rfl (fun hbl=>?_) (fun hbl=>?_)
    · refine W.seq ?_
      refine W.regionL (l:=[0]) rfl ?_
      refine O.val hf rfl rfl rfl (RunV.assign rfl) ?_
      clear hf a; intro a hf
      refine O.nil ?_
      refine k_seq ?_
      refine W.ret ?_
      refine k_then_ret ?_
      refine post1 hf rfl (ResOK.tmp rfl) ?_
      refine ⟨(),by rw [if_pos hfo,if_neg (by omega)],hS.sub (List.nil_sublist _) |>.noB⟩
    · refine W.skip ?_
      refine k_seq ?_
      refine W.seq ?_
      refine W.regionL (l:=[0]) rfl ?_
      refine O.val hf rfl rfl rfl (RunV.assign rfl) ?_
      clear hf a; intro a hf
      refine O.nil ?_
      refine k_seq ?_
      refine W.ret ?_
      refine post1 hf rfl (ResOK.tmp rfl) ?_
      refine ⟨(),by rw [if_pos hfo,if_pos (by omega)],hS.sub (List.nil_sublist _) |>.noB⟩
set_option maxHeartbeats 400000 in
set_option maxRecDepth 4000 in
theorem conn13_pos (fW fH:Nat) (vP vL:Value) (zs l:List Int) (w0:World) [Decidable (Det.conn fW fH l)] (hW:1≤fW∧fW≤100) (hH:1≤fH∧fH≤100) (hn:zs.length=fW*fH) (hP:rdOK (hp w0) 1 vP zs.length (ints zs)) (hL:rdOK (hp w0) 1 vL l.length (ints l)) (hpos:0<l.length) :
    Ret Tryz.prog 20 #[.agg #[.int .i64 (fW:Int),.int .i64 (fH:Int),vP],vL] w0 (G:=Unit) (fun _=>.bool (decide (Det.conn fW fH l))) (fun _ w=>St w0 w noX [] []):=by
  refine ret_of_W (lv:=[.agg #[.int .i64 (fW:Int),.int .i64 (fH:Int),vP],vL]) Tryz.func20 rfl rfl rfl (fun a hf=>?_)
  replace hf:Fr a 62 [] [(0,.agg #[.int .i64 (fW:Int),.int .i64 (fH:Int),vP]),(1,vL)]:=hf
  have hS:St w0 w0 noX [rdv 1 vP zs.length (ints zs),rdv 1 vL l.length (ints l)] []:=((St.refl w0).lend0 hL).lend0 hP
  have hN:fW*fH≤10000:=Nat.mul_le_mul hW.2 hH.2
  have hlen:=hL.2.1
  unfold maxLen at hlen
  have hz:=fun (h:0<l.length) (h2:Det.okL (fW*fH) l)=>h2 0 h
  refine W.seq ?_
  refine W.regionL (l:=[0,1]) rfl ?_
  refine O.box (cs:=#[.int .i64 (fW:Int),.int .i64 (fH:Int),vP]) hf hS rfl rfl rfl rfl ?_
  clear hf hS a; intro b_f1 w a hbb_f1 hS hf
  refine O.val hf rfl rfl rfl (RunV.assign rfl) ?_
  clear hf a; intro a hf
  refine O.nil ?_
  refine k_seq ?_
  replace hf:Fr a 62 [] [(1,vL),(2,.pointer (some ⟨b_f1,0,none⟩)),(4,.bool false)]:=hf.to ⟨rfl,rfl,rfl,trivial⟩
  refine W.seq ?_
  refine W.seq ?_
  refine W.regionL (l:=[0]) rfl ?_
  refine O.val hf rfl rfl rfl (RunV.assign rfl) ?_
  clear hf a; intro a hf
  refine O.nil ?_
  refine k_seq ?_
  refine W.block ?_
  refine W.loop (G:=(Nat)) (fun g a w=>match g with | k=>Fr a 62 [] [(1,vL),(2,.pointer (some ⟨b_f1,0,none⟩)),(5,.int .i64 (k:Int))]∧St w0 w noX [rdv 1 vP zs.length (ints zs),rdv 1 vL l.length (ints l)] [pt b_f1 (.cells #[.int .i64 (fW:Int),.int .i64 (fH:Int),vP] 24 (0,0))]∧(k≤l.length)∧(∀ j,j<k→(0≤l.getD j 0∧l.getD j 0<((fW*fH:Nat):Int))∧(0<j→l.getD (j-1) 0<l.getD j 0))) (fun g=>match g with | k=>l.length-k) 0 ?_ ?_
  · refine ⟨hf.to ⟨rfl,rfl,(by first | rfl | exact congrArg some (congrArg (Value.int _) (by omega))),trivial⟩,hS,?_,?_⟩
    · omega
    · exact fun j hj=>by omega
  clear hf hS a
  rintro k a w ⟨hf,hS,h1,h2⟩
  refine W.seq ?_
  refine W.seq ?_
  refine W.regionL (l:=[0,1,2,3]) rfl ?_
  refine O.val hf rfl rfl rfl (RunV.move rfl) ?_
  clear hf a; intro a hf
  refine O.val hf rfl rfl rfl (RunV.move rfl) ?_
  clear hf a; intro a hf
  refine O.val hf rfl rfl rfl (RunV.lenV (e:=3) (by simpa using T_elem_26) rfl (hS.rdAt (j:=1) rfl)) ?_
  clear hf a; intro a hf
  refine O.val (v:=.bool (decide ((k:Int)<((l.length:Int):Int)))) hf rfl rfl rfl (RunV.lss rfl rfl) ?_
  clear hf a; intro a hf
  refine O.nil ?_
  refine k_seq ?_
  replace hf:Fr a 62 [] [(1,vL),(2,.pointer (some ⟨b_f1,0,none⟩)),(5,.int .i64 (k:Int)),(9,.bool (decide ((k:Int)<((l.length:Int):Int))))]:=hf.to ⟨rfl,rfl,rfl,rfl,trivial⟩
  refine W.ifdI hf rfl (fun hk=>?_) (fun hk=>?_)
  · refine W.skip ?_
    refine k_seq ?_
    refine W.seq ?_
    refine W.block ?_
    refine W.seq ?_
    refine W.drawQ (fun w=>St w0 w noX [rdv 1 vP zs.length (ints zs),rdv 1 vL l.length (ints l)] [pt b_f1 (.cells #[.int .i64 (fW:Int),.int .i64 (fH:Int),vP] 24 (0,0))]) P_mixed rfl (by kernel_rfl) rfl hS.drew ?_
    clear hS
    refine OQ.val (v:=vL) hf rfl (fun w hS=>RunV.move rfl) ?_; clear hf a; intro a hf
    refine OQ.val (v:=.int .i64 (k:Int)) hf rfl (fun w hS=>RunV.move rfl) ?_; clear hf a; intro a hf
    refine OQ.val (v:=ix vL k) hf rfl (fun w hS=>RunV.ixV (j:=k) (m:=k) T_elem_26 T_size_3 rfl rfl (hS.rdAt (j:=1) rfl) rfl (by omega) (Nat.mul_one _)) ?_; clear hf a; intro a hf
    refine OQ.val (v:=.int .i64 (l.getD k 0)) hf rfl (fun w hS=>RunV.ld1 T_agg_3 rfl (hS.rdAt (j:=1) rfl) (ints_get (by omega))) ?_; clear hf a; intro a hf
    refine OQ.val (v:=.bool (decide ((l.getD k 0)<(0:Int)))) hf rfl (fun w hS=>RunV.lss rfl rfl) ?_; clear hf a; intro a hf
    refine OQ.val (v:=.bool (decide ((l.getD k 0)<(0:Int)))) hf rfl (fun w hS=>RunV.move rfl) ?_; clear hf a; intro a hf
    refine OQ.cutK (K':=fun a=>Fr a 62 [] [(1,vL),(2,.pointer (some ⟨b_f1,0,none⟩)),(5,.int .i64 (k:Int)),(12,vL),(13,.int .i64 (k:Int)),(14,ix vL k),(15,.int .i64 (l.getD k 0)),(16,.bool (decide ((l.getD k 0)<(0:Int)))),(17,.bool (decide ((l.getD k 0)<(0:Int)))),(26,.bool ((decide ((l.getD k 0)<(0:Int)))||(decide ((l.getD k 0)≥((zs.length:Int):Int)))))]) 9 ?_ ?_
    · rcases Bool.eq_false_or_eq_true (decide ((l.getD k 0)<(0:Int))) with hb3 | hb3
      · have hb3p:=of_decide_eq_true hb3
        refine OQ.skipB hf rfl rfl hb3 rfl ?_; clear hf a; intro a hf
        refine OQ.skipB hf rfl rfl hb3 rfl ?_; clear hf a; intro a hf
        refine OQ.skipB hf rfl rfl hb3 rfl ?_; clear hf a; intro a hf
        refine OQ.skipB hf rfl rfl hb3 rfl ?_; clear hf a; intro a hf
        refine OQ.skipB hf rfl rfl hb3 rfl ?_; clear hf a; intro a hf
        refine OQ.skipB hf rfl rfl hb3 rfl ?_; clear hf a; intro a hf
        refine OQ.skipB hf rfl rfl hb3 rfl ?_; clear hf a; intro a hf
        refine OQ.skipB hf rfl rfl hb3 rfl ?_; clear hf a; intro a hf
        refine OQ.val (v:=.bool ((decide ((l.getD k 0)<(0:Int)))||(decide ((l.getD k 0)≥((zs.length:Int):Int))))) hf rfl (fun w hS=>RunV.pick rfl rfl rfl (by rw [hb3]; rfl)) ?_; clear hf a; intro a hf
        exact OQ.nil (hf.to ⟨rfl,rfl,rfl,rfl,rfl,rfl,rfl,rfl,rfl,rfl,trivial⟩)
      · have hb3p:=of_decide_eq_false hb3
        refine OQ.gval (v:=vL) hf rfl rfl hb3 rfl (fun w hS=>RunV.move rfl) ?_; clear hf a; intro a hf
        refine OQ.gval (v:=.int .i64 (k:Int)) hf rfl rfl hb3 rfl (fun w hS=>RunV.move rfl) ?_; clear hf a; intro a hf
        refine OQ.gval (v:=ix vL k) hf rfl rfl hb3 rfl (fun w hS=>RunV.ixV (j:=k) (m:=k) T_elem_26 T_size_3 rfl rfl (hS.rdAt (j:=1) rfl) rfl (by omega) (Nat.mul_one _)) ?_; clear hf a; intro a hf
        refine OQ.gval (v:=.int .i64 (l.getD k 0)) hf rfl rfl hb3 rfl (fun w hS=>RunV.ld1 T_agg_3 rfl (hS.rdAt (j:=1) rfl) (ints_get (by omega))) ?_; clear hf a; intro a hf
        refine OQ.gval (v:=.pointer (some ⟨b_f1,2,none⟩)) hf rfl rfl hb3 rfl (fun w hS=>RunV.field T_field_24_2 rfl rfl) ?_; clear hf a; intro a hf
        refine OQ.gval (v:=vP) hf rfl rfl hb3 rfl (fun w hS=>RunV.load1 T_agg_22 rfl (hS.ptAt (i:=0) rfl) rfl) ?_; clear hf a; intro a hf
        refine OQ.gval (v:=.int .i64 (zs.length:Int)) hf rfl rfl hb3 rfl (fun w hS=>RunV.lenV (e:=2) (by simpa using T_elem_22) rfl (hS.rdAt (j:=0) rfl)) ?_; clear hf a; intro a hf
        refine OQ.gval (v:=.bool (decide ((l.getD k 0)≥((zs.length:Int):Int)))) hf rfl rfl hb3 rfl (fun w hS=>RunV.geq rfl rfl) ?_; clear hf a; intro a hf
        refine OQ.val (v:=.bool ((decide ((l.getD k 0)<(0:Int)))||(decide ((l.getD k 0)≥((zs.length:Int):Int))))) hf rfl (fun w hS=>RunV.pick rfl rfl rfl (by rw [hb3]; rfl)) ?_; clear hf a; intro a hf
        exact OQ.nil (hf.to ⟨rfl,rfl,rfl,rfl,rfl,rfl,rfl,rfl,rfl,rfl,trivial⟩)
    clear hf a; intro a hf
    refine OQ.val (v:=.bool ((decide ((l.getD k 0)<(0:Int)))||(decide ((l.getD k 0)≥((zs.length:Int):Int))))) hf rfl (fun w hS=>RunV.move rfl) ?_; clear hf a; intro a hf
    refine OQ.cutK (K':=fun a=>Fr a 62 [] [(1,vL),(2,.pointer (some ⟨b_f1,0,none⟩)),(5,.int .i64 (k:Int)),(12,vL),(13,.int .i64 (k:Int)),(14,ix vL k),(15,.int .i64 (l.getD k 0)),(16,.bool (decide ((l.getD k 0)<(0:Int)))),(17,.bool (decide ((l.getD k 0)<(0:Int)))),(26,.bool ((decide ((l.getD k 0)<(0:Int)))||(decide ((l.getD k 0)≥((zs.length:Int):Int))))),(27,.bool ((decide ((l.getD k 0)<(0:Int)))||(decide ((l.getD k 0)≥((zs.length:Int):Int))))),(42,.bool (((decide ((l.getD k 0)<(0:Int)))||(decide ((l.getD k 0)≥((zs.length:Int):Int))))||((decide ((k:Int)>(0:Int)))&&(decide ((l.getD k 0)≤(l.getD (k-1) 0:Int))))))]) 15 ?_ ?_
    · rcases Bool.eq_false_or_eq_true ((decide ((l.getD k 0)<(0:Int)))||(decide ((l.getD k 0)≥((zs.length:Int):Int)))) with hb4 | hb4
      · have hb4p:=hb4
        try simp only [Bool.and_eq_true,Bool.or_eq_true,Bool.and_eq_false_iff,Bool.or_eq_false_iff,decide_eq_true_eq,decide_eq_false_iff_not,Bool.not_eq_true',Bool.not_eq_false',Bool.not_eq_true,Bool.not_eq_false,ne_eq] at hb4p
        refine OQ.skipB hf rfl rfl hb4 rfl ?_; clear hf a; intro a hf
        refine OQ.skipB hf rfl rfl hb4 rfl ?_; clear hf a; intro a hf
        refine OQ.skipB hf rfl rfl hb4 rfl ?_; clear hf a; intro a hf
        refine OQ.skipU hf rfl rfl rfl ?_; clear hf a; intro a hf
        refine OQ.skipU hf rfl rfl rfl ?_; clear hf a; intro a hf
        refine OQ.skipU hf rfl rfl rfl ?_; clear hf a; intro a hf
        refine OQ.skipU hf rfl rfl rfl ?_; clear hf a; intro a hf
        refine OQ.skipU hf rfl rfl rfl ?_; clear hf a; intro a hf
        refine OQ.skipU hf rfl rfl rfl ?_; clear hf a; intro a hf
        refine OQ.skipU hf rfl rfl rfl ?_; clear hf a; intro a hf
        refine OQ.skipU hf rfl rfl rfl ?_; clear hf a; intro a hf
        refine OQ.skipU hf rfl rfl rfl ?_; clear hf a; intro a hf
        refine OQ.skipU hf rfl rfl rfl ?_; clear hf a; intro a hf
        refine OQ.skipB hf rfl rfl hb4 rfl ?_; clear hf a; intro a hf
        refine OQ.val (v:=.bool (((decide ((l.getD k 0)<(0:Int)))||(decide ((l.getD k 0)≥((zs.length:Int):Int))))||((decide ((k:Int)>(0:Int)))&&(decide ((l.getD k 0)≤(l.getD (k-1) 0:Int)))))) hf rfl (fun w hS=>RunV.pick rfl rfl rfl (by rw [hb4]; rfl)) ?_; clear hf a; intro a hf
        exact OQ.nil (hf.to ⟨rfl,rfl,rfl,rfl,rfl,rfl,rfl,rfl,rfl,rfl,rfl,rfl,trivial⟩)
      · have hb4p:=hb4
        try simp only [Bool.and_eq_true,Bool.or_eq_true,Bool.and_eq_false_iff,Bool.or_eq_false_iff,decide_eq_true_eq,decide_eq_false_iff_not,Bool.not_eq_true',Bool.not_eq_false',Bool.not_eq_true,Bool.not_eq_false,ne_eq] at hb4p
        refine OQ.gval (v:=.int .i64 (k:Int)) hf rfl rfl hb4 rfl (fun w hS=>RunV.move rfl) ?_; clear hf a; intro a hf
        refine OQ.gval (v:=.bool (decide ((k:Int)>(0:Int)))) hf rfl rfl hb4 rfl (fun w hS=>RunV.gtr rfl rfl) ?_; clear hf a; intro a hf
        refine OQ.gval (v:=.bool (decide ((k:Int)>(0:Int)))) hf rfl rfl hb4 rfl (fun w hS=>RunV.move rfl) ?_; clear hf a; intro a hf
        refine OQ.cutK (K':=fun a=>Fr a 62 [] [(1,vL),(2,.pointer (some ⟨b_f1,0,none⟩)),(5,.int .i64 (k:Int)),(12,vL),(13,.int .i64 (k:Int)),(14,ix vL k),(15,.int .i64 (l.getD k 0)),(16,.bool (decide ((l.getD k 0)<(0:Int)))),(17,.bool (decide ((l.getD k 0)<(0:Int)))),(26,.bool ((decide ((l.getD k 0)<(0:Int)))||(decide ((l.getD k 0)≥((zs.length:Int):Int))))),(27,.bool ((decide ((l.getD k 0)<(0:Int)))||(decide ((l.getD k 0)≥((zs.length:Int):Int))))),(28,.int .i64 (k:Int)),(29,.bool (decide ((k:Int)>(0:Int)))),(30,.bool (decide ((k:Int)>(0:Int)))),(41,.bool ((decide ((k:Int)>(0:Int)))&&(decide ((l.getD k 0)≤(l.getD (k-1) 0:Int)))))]) 11 ?_ ?_
        · rcases Bool.eq_false_or_eq_true (decide ((k:Int)>(0:Int))) with hb5 | hb5
          · have hb5p:=of_decide_eq_true hb5
            refine OQ.gval (v:=vL) hf rfl rfl hb5 rfl (fun w hS=>RunV.move rfl) ?_; clear hf a; intro a hf
            refine OQ.gval (v:=.int .i64 (k:Int)) hf rfl rfl hb5 rfl (fun w hS=>RunV.move rfl) ?_; clear hf a; intro a hf
            refine OQ.gval (v:=ix vL k) hf rfl rfl hb5 rfl (fun w hS=>RunV.ixV (j:=k) (m:=k) T_elem_26 T_size_3 rfl rfl (hS.rdAt (j:=1) rfl) rfl (by omega) (Nat.mul_one _)) ?_; clear hf a; intro a hf
            refine OQ.gval (v:=.int .i64 (l.getD k 0)) hf rfl rfl hb5 rfl (fun w hS=>RunV.ld1 T_agg_3 rfl (hS.rdAt (j:=1) rfl) (ints_get (by omega))) ?_; clear hf a; intro a hf
            refine OQ.gval (v:=vL) hf rfl rfl hb5 rfl (fun w hS=>RunV.move rfl) ?_; clear hf a; intro a hf
            refine OQ.gval (v:=.int .i64 (k:Int)) hf rfl rfl hb5 rfl (fun w hS=>RunV.move rfl) ?_; clear hf a; intro a hf
            refine OQ.gval (v:=.int .i64 ((k:Int)-1)) hf rfl rfl hb5 rfl (fun w hS=>RunV.subI rfl rfl (by omega)) ?_; clear hf a; intro a hf
            refine OQ.gval (v:=ix vL (k-1)) hf rfl rfl hb5 rfl (fun w hS=>RunV.ixV (j:=(k-1)) (m:=(k-1)) T_elem_26 T_size_3 rfl rfl (hS.rdAt (j:=1) rfl) (by congr 1; omega) (by omega) (Nat.mul_one _)) ?_; clear hf a; intro a hf
            refine OQ.gval (v:=.int .i64 (l.getD (k-1) 0)) hf rfl rfl hb5 rfl (fun w hS=>RunV.ld1 T_agg_3 rfl (hS.rdAt (j:=1) rfl) (ints_get (by omega))) ?_; clear hf a; intro a hf
            refine OQ.gval (v:=.bool (decide ((l.getD k 0)≤(l.getD (k-1) 0:Int)))) hf rfl rfl hb5 rfl (fun w hS=>RunV.leq rfl rfl) ?_; clear hf a; intro a hf
            refine OQ.gval (v:=.bool ((decide ((k:Int)>(0:Int)))&&(decide ((l.getD k 0)≤(l.getD (k-1) 0:Int))))) hf rfl rfl hb4 rfl (fun w hS=>RunV.pick rfl rfl rfl (by rw [hb5]; rfl)) ?_; clear hf a; intro a hf
            exact OQ.nil (hf.to ⟨rfl,rfl,rfl,rfl,rfl,rfl,rfl,rfl,rfl,rfl,rfl,rfl,rfl,rfl,rfl,trivial⟩)
          · have hb5p:=of_decide_eq_false hb5
            refine OQ.skipB hf rfl rfl hb5 rfl ?_; clear hf a; intro a hf
            refine OQ.skipB hf rfl rfl hb5 rfl ?_; clear hf a; intro a hf
            refine OQ.skipB hf rfl rfl hb5 rfl ?_; clear hf a; intro a hf
            refine OQ.skipB hf rfl rfl hb5 rfl ?_; clear hf a; intro a hf
            refine OQ.skipB hf rfl rfl hb5 rfl ?_; clear hf a; intro a hf
            refine OQ.skipB hf rfl rfl hb5 rfl ?_; clear hf a; intro a hf
            refine OQ.skipB hf rfl rfl hb5 rfl ?_; clear hf a; intro a hf
            refine OQ.skipB hf rfl rfl hb5 rfl ?_; clear hf a; intro a hf
            refine OQ.skipB hf rfl rfl hb5 rfl ?_; clear hf a; intro a hf
            refine OQ.skipB hf rfl rfl hb5 rfl ?_; clear hf a; intro a hf
            refine OQ.gval (v:=.bool ((decide ((k:Int)>(0:Int)))&&(decide ((l.getD k 0)≤(l.getD (k-1) 0:Int))))) hf rfl rfl hb4 rfl (fun w hS=>RunV.pick rfl rfl rfl (by rw [hb5]; rfl)) ?_; clear hf a; intro a hf
            exact OQ.nil (hf.to ⟨rfl,rfl,rfl,rfl,rfl,rfl,rfl,rfl,rfl,rfl,rfl,rfl,rfl,rfl,rfl,trivial⟩)
        clear hf a; intro a hf
        refine OQ.val (v:=.bool (((decide ((l.getD k 0)<(0:Int)))||(decide ((l.getD k 0)≥((zs.length:Int):Int))))||((decide ((k:Int)>(0:Int)))&&(decide ((l.getD k 0)≤(l.getD (k-1) 0:Int)))))) hf rfl (fun w hS=>RunV.pick rfl rfl rfl (by rw [hb4]; rfl)) ?_; clear hf a; intro a hf
        exact OQ.nil (hf.to ⟨rfl,rfl,rfl,rfl,rfl,rfl,rfl,rfl,rfl,rfl,rfl,rfl,trivial⟩)
    clear hf a; intro a hf
    refine OQ.nil ?_; intro w hS
    refine k_seq ?_
    replace hf:Fr a 62 [] [(1,vL),(2,.pointer (some ⟨b_f1,0,none⟩)),(5,.int .i64 (k:Int)),(42,.bool (((decide ((l.getD k 0)<(0:Int)))||(decide ((l.getD k 0)≥((zs.length:Int):Int))))||((decide ((k:Int)>(0:Int)))&&(decide ((l.getD k 0)≤(l.getD (k-1) 0:Int))))))]:=hf.to ⟨rfl,rfl,rfl,rfl,trivial⟩
    refine W.if_ hf rfl (fun hbad=>?_) (fun hbad=>?_)
    · have hbadb:=hbad
      try simp only [Bool.and_eq_true,Bool.or_eq_true,Bool.and_eq_false_iff,Bool.or_eq_false_iff,decide_eq_true_eq,decide_eq_false_iff_not,Bool.not_eq_true',Bool.not_eq_false',Bool.not_eq_true,Bool.not_eq_false,ne_eq] at hbad
      refine W.seq ?_
      refine W.regionL (l:=[0]) rfl ?_
      refine O.val hf rfl rfl rfl (RunV.assign rfl) ?_
      clear hf a; intro a hf
      refine O.nil ?_
      refine k_seq ?_
      refine W.ret ?_
      refine k_blk_ret ?_
      refine k_then_ret ?_
      refine k_then_ret ?_
      refine k_blk_ret ?_
      refine k_then_ret ?_
      refine post1 hf rfl (ResOK.tmp rfl) ?_
      refine ⟨(),by rw [show decide (Det.conn fW fH l)=false from decide_eq_false (fun h=>by first | exact absurd h.2.1 (by omega) | have:=h.1 k (by omega); simp only [Bool.or_eq_true,Bool.and_eq_true,decide_eq_true_eq] at hbadb; rw [hn] at hbadb; omega)],hS.sub (List.nil_sublist _) |>.noB⟩
    · have hbadb:=hbad
      try simp only [Bool.and_eq_true,Bool.or_eq_true,Bool.and_eq_false_iff,Bool.or_eq_false_iff,decide_eq_true_eq,decide_eq_false_iff_not,Bool.not_eq_true',Bool.not_eq_false',Bool.not_eq_true,Bool.not_eq_false,ne_eq] at hbad
      refine W.skip ?_
      refine k_blk_normal ?_
      refine k_seq ?_
      refine W.regionL (l:=[0,1,2]) rfl ?_
      refine O.val hf rfl rfl rfl (RunV.move rfl) ?_
      clear hf a; intro a hf
      refine O.val hf rfl rfl rfl (RunV.addI rfl rfl (by omega)) ?_
      clear hf a; intro a hf
      refine O.val hf rfl rfl rfl (RunV.assign rfl) ?_
      clear hf a; intro a hf
      refine O.nil ?_
      refine k_then ⟨(k+1),⟨hf.to ⟨rfl,rfl,(by first | rfl | exact congrArg some (congrArg (Value.int _) (by omega))),trivial⟩,?_,?_,?_⟩,?_⟩
      · exact hS.eqM rfl
      · omega
      · simp only [Bool.or_eq_false_iff,Bool.and_eq_false_iff,decide_eq_false_iff_not] at hbadb
        rw [hn] at hbadb
        exact Det.all_snoc h2 (by omega)
      · dsimp only; omega
  · refine W.exit ?_
    refine k_then_exit ?_
    refine k_then_exit ?_
    refine k_blk ?_
    refine k_seq ?_
    replace hf:Fr a 62 [] [(1,vL),(2,.pointer (some ⟨b_f1,0,none⟩))]:=hf.to ⟨rfl,rfl,trivial⟩
    refine W.seq ?_
    obtain rfl:k=l.length:=by omega
    have hz0:=hz hpos h2
    refine W.drawI (γ:=(Value) × (Value)) (L0:=[(1,vL),(2,.pointer (some ⟨b_f1,0,none⟩))]) (default,default) [9,13,14] [0,1,2,3,4,5,6,7,8,10,11,12,15,16,17,18,19] (fun i=>match i with | 0=>[] | 1=>[0] | 2=>[1] | 3=>[2] | 4=>[3] | 5=>[3] | 6=>[3,5] | 7=>[3,6] | 8=>[3] | 9=>[3,7,8] | 10=>[3] | 11=>[3,10] | 12=>[3,11] | 13=>[3,4,9,12] | 14=>[3,13] | 15=>[3] | 16=>[3,15] | 17=>[3,14,16] | 18=>[3,17] | 19=>[0,1,2,3,4,5,6,7,8,9,10,11,12,13,14,15,16,17,18] | _=>[]) (fun (g:(Value) × (Value)) j=>match g,j with | ⟨vm,vp⟩,0=>vL | ⟨vm,vp⟩,1=>.int .i64 (l.length:Int) | ⟨vm,vp⟩,2=>.bool true | ⟨vm,vp⟩,3=>.bool true | ⟨vm,vp⟩,4=>.agg #[.int .i64 (fW:Int),.int .i64 (fH:Int),vP] | ⟨vm,vp⟩,5=>.pointer (some ⟨b_f1,2,none⟩) | ⟨vm,vp⟩,6=>vP | ⟨vm,vp⟩,7=>.int .i64 (zs.length:Int) | ⟨vm,vp⟩,8=>vL | ⟨vm,vp⟩,9=>vm | ⟨vm,vp⟩,10=>vL | ⟨vm,vp⟩,11=>ix vL 0 | ⟨vm,vp⟩,12=>.int .i64 (l.getD 0 0) | ⟨vm,vp⟩,13=>vp | ⟨vm,vp⟩,14=>.int .i64 ((Det.part fW fH (Det.marks (fW*fH) l l.length) (l.getD 0 0).toNat).2.length:Int) | ⟨vm,vp⟩,15=>vL | ⟨vm,vp⟩,16=>.int .i64 (l.length:Int) | ⟨vm,vp⟩,17=>.bool (decide (((Det.part fW fH (Det.marks (fW*fH) l l.length) (l.getD 0 0).toNat).2.length:Int)=((l.length:Int):Int))) | ⟨vm,vp⟩,18=>.bool (decide (((Det.part fW fH (Det.marks (fW*fH) l l.length) (l.getD 0 0).toNat).2.length:Int)=((l.length:Int):Int))) | ⟨vm,vp⟩,19=>.bool (decide (((Det.part fW fH (Det.marks (fW*fH) l l.length) (l.getD 0 0).toNat).2.length:Int)=((l.length:Int):Int))) | _,_=>undef) (fun k (g:(Value) × (Value)) w=>match k,g with | 0,⟨vm,vp⟩=>St w0 w noX [rdv 1 vP zs.length (ints zs),rdv 1 vL l.length (ints l)] [pt b_f1 (.cells #[.int .i64 (fW:Int),.int .i64 (fH:Int),vP] 24 (0,0))] | 1,⟨vm,vp⟩=>St w0 w noX [rdv 1 vP zs.length (ints zs),rdv 1 vL l.length (ints l)] [sl 4 1 vm ((Det.marks (fW*fH) l l.length).length) (bools (Det.marks (fW*fH) l l.length)),pt b_f1 (.cells #[.int .i64 (fW:Int),.int .i64 (fH:Int),vP] 24 (0,0))] | 2,⟨vm,vp⟩=>St w0 w noX [rdv 1 vP zs.length (ints zs),rdv 1 vL l.length (ints l)] [sl 3 1 vp ((Det.part fW fH (Det.marks (fW*fH) l l.length) (l.getD 0 0).toNat).2.length) (ints (Det.part fW fH (Det.marks (fW*fH) l l.length) (l.getD 0 0).toNat).2),sl 4 1 vm (((Det.part fW fH (Det.marks (fW*fH) l l.length) (l.getD 0 0).toNat).1).length) (bools ((Det.part fW fH (Det.marks (fW*fH) l l.length) (l.getD 0 0).toNat).1)),pt b_f1 (.cells #[.int .i64 (fW:Int),.int .i64 (fH:Int),vP] 24 (0,0))] | _,⟨vm,vp⟩=>St w0 w noX [rdv 1 vP zs.length (ints zs),rdv 1 vL l.length (ints l)] [sl 3 1 vp ((Det.part fW fH (Det.marks (fW*fH) l l.length) (l.getD 0 0).toNat).2.length) (ints (Det.part fW fH (Det.marks (fW*fH) l l.length) (l.getD 0 0).toNat).2),sl 4 1 vm (((Det.part fW fH (Det.marks (fW*fH) l l.length) (l.getD 0 0).toNat).1).length) (bools ((Det.part fW fH (Det.marks (fW*fH) l l.length) (l.getD 0 0).toNat).1)),pt b_f1 (.cells #[.int .i64 (fW:Int),.int .i64 (fH:Int),vP] 24 (0,0))]) P_mixed (by kernel_rfl) hf hS.drew ?_ ?_ ?_
    · clear hf hS
      refine ⟨?_,?_,?_,?_,?_,?_,?_,?_,?_,?_,?_,?_,?_,?_,?_,?_,?_,trivial⟩
      · intro k g w hD a hf
        obtain ⟨vm,vp⟩:=g
        rcases k with _ | _ | _ | k
        · have hS:St w0 w noX [rdv 1 vP zs.length (ints zs),rdv 1 vL l.length (ints l)] [pt b_f1 (.cells #[.int .i64 (fW:Int),.int .i64 (fH:Int),vP] 24 (0,0))]:=hD; clear hD
          replace hf:Fr a 62 [] [(1,vL),(2,.pointer (some ⟨b_f1,0,none⟩))]:=hf
          refine O.val hf rfl rfl rfl (RunV.move rfl) ?_
          clear hf a; intro a hf
          exact O.nil ⟨rfl,hf.to trivial,(fun d hd=>by cases (show some 43=some d from hd); exact hf.get _ _ rfl),hS⟩
        · have hS:St w0 w noX [rdv 1 vP zs.length (ints zs),rdv 1 vL l.length (ints l)] [sl 4 1 vm ((Det.marks (fW*fH) l l.length).length) (bools (Det.marks (fW*fH) l l.length)),pt b_f1 (.cells #[.int .i64 (fW:Int),.int .i64 (fH:Int),vP] 24 (0,0))]:=hD; clear hD
          replace hf:Fr a 62 [] [(1,vL),(2,.pointer (some ⟨b_f1,0,none⟩))]:=hf
          refine O.val hf rfl rfl rfl (RunV.move rfl) ?_
          clear hf a; intro a hf
          exact O.nil ⟨rfl,hf.to trivial,(fun d hd=>by cases (show some 43=some d from hd); exact hf.get _ _ rfl),hS⟩
        · have hS:St w0 w noX [rdv 1 vP zs.length (ints zs),rdv 1 vL l.length (ints l)] [sl 3 1 vp ((Det.part fW fH (Det.marks (fW*fH) l l.length) (l.getD 0 0).toNat).2.length) (ints (Det.part fW fH (Det.marks (fW*fH) l l.length) (l.getD 0 0).toNat).2),sl 4 1 vm (((Det.part fW fH (Det.marks (fW*fH) l l.length) (l.getD 0 0).toNat).1).length) (bools ((Det.part fW fH (Det.marks (fW*fH) l l.length) (l.getD 0 0).toNat).1)),pt b_f1 (.cells #[.int .i64 (fW:Int),.int .i64 (fH:Int),vP] 24 (0,0))]:=hD; clear hD
          replace hf:Fr a 62 [] [(1,vL),(2,.pointer (some ⟨b_f1,0,none⟩))]:=hf
          refine O.val hf rfl rfl rfl (RunV.move rfl) ?_
          clear hf a; intro a hf
          exact O.nil ⟨rfl,hf.to trivial,(fun d hd=>by cases (show some 43=some d from hd); exact hf.get _ _ rfl),hS⟩
        · have hS:St w0 w noX [rdv 1 vP zs.length (ints zs),rdv 1 vL l.length (ints l)] [sl 3 1 vp ((Det.part fW fH (Det.marks (fW*fH) l l.length) (l.getD 0 0).toNat).2.length) (ints (Det.part fW fH (Det.marks (fW*fH) l l.length) (l.getD 0 0).toNat).2),sl 4 1 vm (((Det.part fW fH (Det.marks (fW*fH) l l.length) (l.getD 0 0).toNat).1).length) (bools ((Det.part fW fH (Det.marks (fW*fH) l l.length) (l.getD 0 0).toNat).1)),pt b_f1 (.cells #[.int .i64 (fW:Int),.int .i64 (fH:Int),vP] 24 (0,0))]:=hD; clear hD
          replace hf:Fr a 62 [] [(1,vL),(2,.pointer (some ⟨b_f1,0,none⟩))]:=hf
          refine O.val hf rfl rfl rfl (RunV.move rfl) ?_
          clear hf a; intro a hf
          exact O.nil ⟨rfl,hf.to trivial,(fun d hd=>by cases (show some 43=some d from hd); exact hf.get _ _ rfl),hS⟩
      · intro k g w hD a hf
        obtain ⟨vm,vp⟩:=g
        rcases k with _ | _ | _ | k
        · have hS:St w0 w noX [rdv 1 vP zs.length (ints zs),rdv 1 vL l.length (ints l)] [pt b_f1 (.cells #[.int .i64 (fW:Int),.int .i64 (fH:Int),vP] 24 (0,0))]:=hD; clear hD
          replace hf:Fr a 62 [] [(43,vL),(1,vL),(2,.pointer (some ⟨b_f1,0,none⟩))]:=hf
          refine O.val hf rfl rfl rfl (RunV.lenV (e:=3) (by simpa using T_elem_26) rfl (hS.rdAt (j:=1) rfl)) ?_
          clear hf a; intro a hf
          exact O.nil ⟨rfl,hf.to trivial,(fun d hd=>by cases (show some 44=some d from hd); exact hf.get _ _ rfl),hS⟩
        · have hS:St w0 w noX [rdv 1 vP zs.length (ints zs),rdv 1 vL l.length (ints l)] [sl 4 1 vm ((Det.marks (fW*fH) l l.length).length) (bools (Det.marks (fW*fH) l l.length)),pt b_f1 (.cells #[.int .i64 (fW:Int),.int .i64 (fH:Int),vP] 24 (0,0))]:=hD; clear hD
          replace hf:Fr a 62 [] [(43,vL),(1,vL),(2,.pointer (some ⟨b_f1,0,none⟩))]:=hf
          refine O.val hf rfl rfl rfl (RunV.lenV (e:=3) (by simpa using T_elem_26) rfl (hS.rdAt (j:=1) rfl)) ?_
          clear hf a; intro a hf
          exact O.nil ⟨rfl,hf.to trivial,(fun d hd=>by cases (show some 44=some d from hd); exact hf.get _ _ rfl),hS⟩
        · have hS:St w0 w noX [rdv 1 vP zs.length (ints zs),rdv 1 vL l.length (ints l)] [sl 3 1 vp ((Det.part fW fH (Det.marks (fW*fH) l l.length) (l.getD 0 0).toNat).2.length) (ints (Det.part fW fH (Det.marks (fW*fH) l l.length) (l.getD 0 0).toNat).2),sl 4 1 vm (((Det.part fW fH (Det.marks (fW*fH) l l.length) (l.getD 0 0).toNat).1).length) (bools ((Det.part fW fH (Det.marks (fW*fH) l l.length) (l.getD 0 0).toNat).1)),pt b_f1 (.cells #[.int .i64 (fW:Int),.int .i64 (fH:Int),vP] 24 (0,0))]:=hD; clear hD
          replace hf:Fr a 62 [] [(43,vL),(1,vL),(2,.pointer (some ⟨b_f1,0,none⟩))]:=hf
          refine O.val hf rfl rfl rfl (RunV.lenV (e:=3) (by simpa using T_elem_26) rfl (hS.rdAt (j:=1) rfl)) ?_
          clear hf a; intro a hf
          exact O.nil ⟨rfl,hf.to trivial,(fun d hd=>by cases (show some 44=some d from hd); exact hf.get _ _ rfl),hS⟩
        · have hS:St w0 w noX [rdv 1 vP zs.length (ints zs),rdv 1 vL l.length (ints l)] [sl 3 1 vp ((Det.part fW fH (Det.marks (fW*fH) l l.length) (l.getD 0 0).toNat).2.length) (ints (Det.part fW fH (Det.marks (fW*fH) l l.length) (l.getD 0 0).toNat).2),sl 4 1 vm (((Det.part fW fH (Det.marks (fW*fH) l l.length) (l.getD 0 0).toNat).1).length) (bools ((Det.part fW fH (Det.marks (fW*fH) l l.length) (l.getD 0 0).toNat).1)),pt b_f1 (.cells #[.int .i64 (fW:Int),.int .i64 (fH:Int),vP] 24 (0,0))]:=hD; clear hD
          replace hf:Fr a 62 [] [(43,vL),(1,vL),(2,.pointer (some ⟨b_f1,0,none⟩))]:=hf
          refine O.val hf rfl rfl rfl (RunV.lenV (e:=3) (by simpa using T_elem_26) rfl (hS.rdAt (j:=1) rfl)) ?_
          clear hf a; intro a hf
          exact O.nil ⟨rfl,hf.to trivial,(fun d hd=>by cases (show some 44=some d from hd); exact hf.get _ _ rfl),hS⟩
      · intro k g w hD a hf
        obtain ⟨vm,vp⟩:=g
        rcases k with _ | _ | _ | k
        · have hS:St w0 w noX [rdv 1 vP zs.length (ints zs),rdv 1 vL l.length (ints l)] [pt b_f1 (.cells #[.int .i64 (fW:Int),.int .i64 (fH:Int),vP] 24 (0,0))]:=hD; clear hD
          replace hf:Fr a 62 [] [(44,.int .i64 (l.length:Int)),(1,vL),(2,.pointer (some ⟨b_f1,0,none⟩))]:=hf
          refine O.val hf rfl rfl rfl (RunV.toB (RunV.gtr rfl rfl) (decide_eq_true (by omega))) ?_
          clear hf a; intro a hf
          exact O.nil ⟨rfl,hf.to trivial,(fun d hd=>by cases (show some 45=some d from hd); exact hf.get _ _ rfl),hS⟩
        · have hS:St w0 w noX [rdv 1 vP zs.length (ints zs),rdv 1 vL l.length (ints l)] [sl 4 1 vm ((Det.marks (fW*fH) l l.length).length) (bools (Det.marks (fW*fH) l l.length)),pt b_f1 (.cells #[.int .i64 (fW:Int),.int .i64 (fH:Int),vP] 24 (0,0))]:=hD; clear hD
          replace hf:Fr a 62 [] [(44,.int .i64 (l.length:Int)),(1,vL),(2,.pointer (some ⟨b_f1,0,none⟩))]:=hf
          refine O.val hf rfl rfl rfl (RunV.toB (RunV.gtr rfl rfl) (decide_eq_true (by omega))) ?_
          clear hf a; intro a hf
          exact O.nil ⟨rfl,hf.to trivial,(fun d hd=>by cases (show some 45=some d from hd); exact hf.get _ _ rfl),hS⟩
        · have hS:St w0 w noX [rdv 1 vP zs.length (ints zs),rdv 1 vL l.length (ints l)] [sl 3 1 vp ((Det.part fW fH (Det.marks (fW*fH) l l.length) (l.getD 0 0).toNat).2.length) (ints (Det.part fW fH (Det.marks (fW*fH) l l.length) (l.getD 0 0).toNat).2),sl 4 1 vm (((Det.part fW fH (Det.marks (fW*fH) l l.length) (l.getD 0 0).toNat).1).length) (bools ((Det.part fW fH (Det.marks (fW*fH) l l.length) (l.getD 0 0).toNat).1)),pt b_f1 (.cells #[.int .i64 (fW:Int),.int .i64 (fH:Int),vP] 24 (0,0))]:=hD; clear hD
          replace hf:Fr a 62 [] [(44,.int .i64 (l.length:Int)),(1,vL),(2,.pointer (some ⟨b_f1,0,none⟩))]:=hf
          refine O.val hf rfl rfl rfl (RunV.toB (RunV.gtr rfl rfl) (decide_eq_true (by omega))) ?_
          clear hf a; intro a hf
          exact O.nil ⟨rfl,hf.to trivial,(fun d hd=>by cases (show some 45=some d from hd); exact hf.get _ _ rfl),hS⟩
        · have hS:St w0 w noX [rdv 1 vP zs.length (ints zs),rdv 1 vL l.length (ints l)] [sl 3 1 vp ((Det.part fW fH (Det.marks (fW*fH) l l.length) (l.getD 0 0).toNat).2.length) (ints (Det.part fW fH (Det.marks (fW*fH) l l.length) (l.getD 0 0).toNat).2),sl 4 1 vm (((Det.part fW fH (Det.marks (fW*fH) l l.length) (l.getD 0 0).toNat).1).length) (bools ((Det.part fW fH (Det.marks (fW*fH) l l.length) (l.getD 0 0).toNat).1)),pt b_f1 (.cells #[.int .i64 (fW:Int),.int .i64 (fH:Int),vP] 24 (0,0))]:=hD; clear hD
          replace hf:Fr a 62 [] [(44,.int .i64 (l.length:Int)),(1,vL),(2,.pointer (some ⟨b_f1,0,none⟩))]:=hf
          refine O.val hf rfl rfl rfl (RunV.toB (RunV.gtr rfl rfl) (decide_eq_true (by omega))) ?_
          clear hf a; intro a hf
          exact O.nil ⟨rfl,hf.to trivial,(fun d hd=>by cases (show some 45=some d from hd); exact hf.get _ _ rfl),hS⟩
      · intro k g w hD a hf
        obtain ⟨vm,vp⟩:=g
        rcases k with _ | _ | _ | k
        · have hS:St w0 w noX [rdv 1 vP zs.length (ints zs),rdv 1 vL l.length (ints l)] [pt b_f1 (.cells #[.int .i64 (fW:Int),.int .i64 (fH:Int),vP] 24 (0,0))]:=hD; clear hD
          replace hf:Fr a 62 [] [(45,.bool true),(1,vL),(2,.pointer (some ⟨b_f1,0,none⟩))]:=hf
          refine O.val hf rfl rfl rfl (RunV.move rfl) ?_
          clear hf a; intro a hf
          exact O.nil ⟨rfl,hf.to trivial,(fun d hd=>by cases (show some 46=some d from hd); exact hf.get _ _ rfl),hS⟩
        · have hS:St w0 w noX [rdv 1 vP zs.length (ints zs),rdv 1 vL l.length (ints l)] [sl 4 1 vm ((Det.marks (fW*fH) l l.length).length) (bools (Det.marks (fW*fH) l l.length)),pt b_f1 (.cells #[.int .i64 (fW:Int),.int .i64 (fH:Int),vP] 24 (0,0))]:=hD; clear hD
          replace hf:Fr a 62 [] [(45,.bool true),(1,vL),(2,.pointer (some ⟨b_f1,0,none⟩))]:=hf
          refine O.val hf rfl rfl rfl (RunV.move rfl) ?_
          clear hf a; intro a hf
          exact O.nil ⟨rfl,hf.to trivial,(fun d hd=>by cases (show some 46=some d from hd); exact hf.get _ _ rfl),hS⟩
        · have hS:St w0 w noX [rdv 1 vP zs.length (ints zs),rdv 1 vL l.length (ints l)] [sl 3 1 vp ((Det.part fW fH (Det.marks (fW*fH) l l.length) (l.getD 0 0).toNat).2.length) (ints (Det.part fW fH (Det.marks (fW*fH) l l.length) (l.getD 0 0).toNat).2),sl 4 1 vm (((Det.part fW fH (Det.marks (fW*fH) l l.length) (l.getD 0 0).toNat).1).length) (bools ((Det.part fW fH (Det.marks (fW*fH) l l.length) (l.getD 0 0).toNat).1)),pt b_f1 (.cells #[.int .i64 (fW:Int),.int .i64 (fH:Int),vP] 24 (0,0))]:=hD; clear hD
          replace hf:Fr a 62 [] [(45,.bool true),(1,vL),(2,.pointer (some ⟨b_f1,0,none⟩))]:=hf
          refine O.val hf rfl rfl rfl (RunV.move rfl) ?_
          clear hf a; intro a hf
          exact O.nil ⟨rfl,hf.to trivial,(fun d hd=>by cases (show some 46=some d from hd); exact hf.get _ _ rfl),hS⟩
        · have hS:St w0 w noX [rdv 1 vP zs.length (ints zs),rdv 1 vL l.length (ints l)] [sl 3 1 vp ((Det.part fW fH (Det.marks (fW*fH) l l.length) (l.getD 0 0).toNat).2.length) (ints (Det.part fW fH (Det.marks (fW*fH) l l.length) (l.getD 0 0).toNat).2),sl 4 1 vm (((Det.part fW fH (Det.marks (fW*fH) l l.length) (l.getD 0 0).toNat).1).length) (bools ((Det.part fW fH (Det.marks (fW*fH) l l.length) (l.getD 0 0).toNat).1)),pt b_f1 (.cells #[.int .i64 (fW:Int),.int .i64 (fH:Int),vP] 24 (0,0))]:=hD; clear hD
          replace hf:Fr a 62 [] [(45,.bool true),(1,vL),(2,.pointer (some ⟨b_f1,0,none⟩))]:=hf
          refine O.val hf rfl rfl rfl (RunV.move rfl) ?_
          clear hf a; intro a hf
          exact O.nil ⟨rfl,hf.to trivial,(fun d hd=>by cases (show some 46=some d from hd); exact hf.get _ _ rfl),hS⟩
      · intro k g w hD a hf
        obtain ⟨vm,vp⟩:=g
        rcases k with _ | _ | _ | k
        · have hS:St w0 w noX [rdv 1 vP zs.length (ints zs),rdv 1 vL l.length (ints l)] [pt b_f1 (.cells #[.int .i64 (fW:Int),.int .i64 (fH:Int),vP] 24 (0,0))]:=hD; clear hD
          replace hf:Fr a 62 [] [(46,.bool true),(1,vL),(2,.pointer (some ⟨b_f1,0,none⟩))]:=hf
          refine O.gvalB (v:=.agg #[.int .i64 (fW:Int),.int .i64 (fH:Int),vP]) hf rfl rfl rfl rfl rfl rfl (RunV.loadN (cs':=#[.int .i64 (fW:Int),.int .i64 (fH:Int),vP]) T_agg_24 T_size_24 rfl (hS.ptAt (i:=0) rfl) (Nat.le_of_ble_eq_true rfl) rfl) ?_
          clear hf a; intro a hf
          exact O.nil ⟨rfl,hf.to trivial,(fun d hd=>by cases (show some 47=some d from hd); exact hf.get _ _ rfl),hS⟩
        · have hS:St w0 w noX [rdv 1 vP zs.length (ints zs),rdv 1 vL l.length (ints l)] [sl 4 1 vm ((Det.marks (fW*fH) l l.length).length) (bools (Det.marks (fW*fH) l l.length)),pt b_f1 (.cells #[.int .i64 (fW:Int),.int .i64 (fH:Int),vP] 24 (0,0))]:=hD; clear hD
          replace hf:Fr a 62 [] [(46,.bool true),(1,vL),(2,.pointer (some ⟨b_f1,0,none⟩))]:=hf
          refine O.gvalB (v:=.agg #[.int .i64 (fW:Int),.int .i64 (fH:Int),vP]) hf rfl rfl rfl rfl rfl rfl (RunV.loadN (cs':=#[.int .i64 (fW:Int),.int .i64 (fH:Int),vP]) T_agg_24 T_size_24 rfl (hS.ptAt (i:=1) rfl) (Nat.le_of_ble_eq_true rfl) rfl) ?_
          clear hf a; intro a hf
          exact O.nil ⟨rfl,hf.to trivial,(fun d hd=>by cases (show some 47=some d from hd); exact hf.get _ _ rfl),hS⟩
        · have hS:St w0 w noX [rdv 1 vP zs.length (ints zs),rdv 1 vL l.length (ints l)] [sl 3 1 vp ((Det.part fW fH (Det.marks (fW*fH) l l.length) (l.getD 0 0).toNat).2.length) (ints (Det.part fW fH (Det.marks (fW*fH) l l.length) (l.getD 0 0).toNat).2),sl 4 1 vm (((Det.part fW fH (Det.marks (fW*fH) l l.length) (l.getD 0 0).toNat).1).length) (bools ((Det.part fW fH (Det.marks (fW*fH) l l.length) (l.getD 0 0).toNat).1)),pt b_f1 (.cells #[.int .i64 (fW:Int),.int .i64 (fH:Int),vP] 24 (0,0))]:=hD; clear hD
          replace hf:Fr a 62 [] [(46,.bool true),(1,vL),(2,.pointer (some ⟨b_f1,0,none⟩))]:=hf
          refine O.gvalB (v:=.agg #[.int .i64 (fW:Int),.int .i64 (fH:Int),vP]) hf rfl rfl rfl rfl rfl rfl (RunV.loadN (cs':=#[.int .i64 (fW:Int),.int .i64 (fH:Int),vP]) T_agg_24 T_size_24 rfl (hS.ptAt (i:=2) rfl) (Nat.le_of_ble_eq_true rfl) rfl) ?_
          clear hf a; intro a hf
          exact O.nil ⟨rfl,hf.to trivial,(fun d hd=>by cases (show some 47=some d from hd); exact hf.get _ _ rfl),hS⟩
        · have hS:St w0 w noX [rdv 1 vP zs.length (ints zs),rdv 1 vL l.length (ints l)] [sl 3 1 vp ((Det.part fW fH (Det.marks (fW*fH) l l.length) (l.getD 0 0).toNat).2.length) (ints (Det.part fW fH (Det.marks (fW*fH) l l.length) (l.getD 0 0).toNat).2),sl 4 1 vm (((Det.part fW fH (Det.marks (fW*fH) l l.length) (l.getD 0 0).toNat).1).length) (bools ((Det.part fW fH (Det.marks (fW*fH) l l.length) (l.getD 0 0).toNat).1)),pt b_f1 (.cells #[.int .i64 (fW:Int),.int .i64 (fH:Int),vP] 24 (0,0))]:=hD; clear hD
          replace hf:Fr a 62 [] [(46,.bool true),(1,vL),(2,.pointer (some ⟨b_f1,0,none⟩))]:=hf
          refine O.gvalB (v:=.agg #[.int .i64 (fW:Int),.int .i64 (fH:Int),vP]) hf rfl rfl rfl rfl rfl rfl (RunV.loadN (cs':=#[.int .i64 (fW:Int),.int .i64 (fH:Int),vP]) T_agg_24 T_size_24 rfl (hS.ptAt (i:=2) rfl) (Nat.le_of_ble_eq_true rfl) rfl) ?_
          clear hf a; intro a hf
          exact O.nil ⟨rfl,hf.to trivial,(fun d hd=>by cases (show some 47=some d from hd); exact hf.get _ _ rfl),hS⟩
      · intro k g w hD a hf
        obtain ⟨vm,vp⟩:=g
        rcases k with _ | _ | _ | k
        · have hS:St w0 w noX [rdv 1 vP zs.length (ints zs),rdv 1 vL l.length (ints l)] [pt b_f1 (.cells #[.int .i64 (fW:Int),.int .i64 (fH:Int),vP] 24 (0,0))]:=hD; clear hD
          replace hf:Fr a 62 [] [(46,.bool true),(1,vL),(2,.pointer (some ⟨b_f1,0,none⟩))]:=hf
          refine O.gvalB (v:=.pointer (some ⟨b_f1,2,none⟩)) hf rfl rfl rfl rfl rfl rfl (RunV.field T_field_24_2 rfl rfl) ?_
          clear hf a; intro a hf
          exact O.nil ⟨rfl,hf.to trivial,(fun d hd=>by cases (show some 48=some d from hd); exact hf.get _ _ rfl),hS⟩
        · have hS:St w0 w noX [rdv 1 vP zs.length (ints zs),rdv 1 vL l.length (ints l)] [sl 4 1 vm ((Det.marks (fW*fH) l l.length).length) (bools (Det.marks (fW*fH) l l.length)),pt b_f1 (.cells #[.int .i64 (fW:Int),.int .i64 (fH:Int),vP] 24 (0,0))]:=hD; clear hD
          replace hf:Fr a 62 [] [(46,.bool true),(1,vL),(2,.pointer (some ⟨b_f1,0,none⟩))]:=hf
          refine O.gvalB (v:=.pointer (some ⟨b_f1,2,none⟩)) hf rfl rfl rfl rfl rfl rfl (RunV.field T_field_24_2 rfl rfl) ?_
          clear hf a; intro a hf
          exact O.nil ⟨rfl,hf.to trivial,(fun d hd=>by cases (show some 48=some d from hd); exact hf.get _ _ rfl),hS⟩
        · have hS:St w0 w noX [rdv 1 vP zs.length (ints zs),rdv 1 vL l.length (ints l)] [sl 3 1 vp ((Det.part fW fH (Det.marks (fW*fH) l l.length) (l.getD 0 0).toNat).2.length) (ints (Det.part fW fH (Det.marks (fW*fH) l l.length) (l.getD 0 0).toNat).2),sl 4 1 vm (((Det.part fW fH (Det.marks (fW*fH) l l.length) (l.getD 0 0).toNat).1).length) (bools ((Det.part fW fH (Det.marks (fW*fH) l l.length) (l.getD 0 0).toNat).1)),pt b_f1 (.cells #[.int .i64 (fW:Int),.int .i64 (fH:Int),vP] 24 (0,0))]:=hD; clear hD
          replace hf:Fr a 62 [] [(46,.bool true),(1,vL),(2,.pointer (some ⟨b_f1,0,none⟩))]:=hf
          refine O.gvalB (v:=.pointer (some ⟨b_f1,2,none⟩)) hf rfl rfl rfl rfl rfl rfl (RunV.field T_field_24_2 rfl rfl) ?_
          clear hf a; intro a hf
          exact O.nil ⟨rfl,hf.to trivial,(fun d hd=>by cases (show some 48=some d from hd); exact hf.get _ _ rfl),hS⟩
        · have hS:St w0 w noX [rdv 1 vP zs.length (ints zs),rdv 1 vL l.length (ints l)] [sl 3 1 vp ((Det.part fW fH (Det.marks (fW*fH) l l.length) (l.getD 0 0).toNat).2.length) (ints (Det.part fW fH (Det.marks (fW*fH) l l.length) (l.getD 0 0).toNat).2),sl 4 1 vm (((Det.part fW fH (Det.marks (fW*fH) l l.length) (l.getD 0 0).toNat).1).length) (bools ((Det.part fW fH (Det.marks (fW*fH) l l.length) (l.getD 0 0).toNat).1)),pt b_f1 (.cells #[.int .i64 (fW:Int),.int .i64 (fH:Int),vP] 24 (0,0))]:=hD; clear hD
          replace hf:Fr a 62 [] [(46,.bool true),(1,vL),(2,.pointer (some ⟨b_f1,0,none⟩))]:=hf
          refine O.gvalB (v:=.pointer (some ⟨b_f1,2,none⟩)) hf rfl rfl rfl rfl rfl rfl (RunV.field T_field_24_2 rfl rfl) ?_
          clear hf a; intro a hf
          exact O.nil ⟨rfl,hf.to trivial,(fun d hd=>by cases (show some 48=some d from hd); exact hf.get _ _ rfl),hS⟩
      · intro k g w hD a hf
        obtain ⟨vm,vp⟩:=g
        rcases k with _ | _ | _ | k
        · have hS:St w0 w noX [rdv 1 vP zs.length (ints zs),rdv 1 vL l.length (ints l)] [pt b_f1 (.cells #[.int .i64 (fW:Int),.int .i64 (fH:Int),vP] 24 (0,0))]:=hD; clear hD
          replace hf:Fr a 62 [] [(46,.bool true),(48,.pointer (some ⟨b_f1,2,none⟩)),(1,vL),(2,.pointer (some ⟨b_f1,0,none⟩))]:=hf
          refine O.gvalB (v:=vP) hf rfl rfl rfl rfl rfl rfl (RunV.load1 T_agg_22 rfl (hS.ptAt (i:=0) rfl) rfl) ?_
          clear hf a; intro a hf
          exact O.nil ⟨rfl,hf.to trivial,(fun d hd=>by cases (show some 49=some d from hd); exact hf.get _ _ rfl),hS⟩
        · have hS:St w0 w noX [rdv 1 vP zs.length (ints zs),rdv 1 vL l.length (ints l)] [sl 4 1 vm ((Det.marks (fW*fH) l l.length).length) (bools (Det.marks (fW*fH) l l.length)),pt b_f1 (.cells #[.int .i64 (fW:Int),.int .i64 (fH:Int),vP] 24 (0,0))]:=hD; clear hD
          replace hf:Fr a 62 [] [(46,.bool true),(48,.pointer (some ⟨b_f1,2,none⟩)),(1,vL),(2,.pointer (some ⟨b_f1,0,none⟩))]:=hf
          refine O.gvalB (v:=vP) hf rfl rfl rfl rfl rfl rfl (RunV.load1 T_agg_22 rfl (hS.ptAt (i:=1) rfl) rfl) ?_
          clear hf a; intro a hf
          exact O.nil ⟨rfl,hf.to trivial,(fun d hd=>by cases (show some 49=some d from hd); exact hf.get _ _ rfl),hS⟩
        · have hS:St w0 w noX [rdv 1 vP zs.length (ints zs),rdv 1 vL l.length (ints l)] [sl 3 1 vp ((Det.part fW fH (Det.marks (fW*fH) l l.length) (l.getD 0 0).toNat).2.length) (ints (Det.part fW fH (Det.marks (fW*fH) l l.length) (l.getD 0 0).toNat).2),sl 4 1 vm (((Det.part fW fH (Det.marks (fW*fH) l l.length) (l.getD 0 0).toNat).1).length) (bools ((Det.part fW fH (Det.marks (fW*fH) l l.length) (l.getD 0 0).toNat).1)),pt b_f1 (.cells #[.int .i64 (fW:Int),.int .i64 (fH:Int),vP] 24 (0,0))]:=hD; clear hD
          replace hf:Fr a 62 [] [(46,.bool true),(48,.pointer (some ⟨b_f1,2,none⟩)),(1,vL),(2,.pointer (some ⟨b_f1,0,none⟩))]:=hf
          refine O.gvalB (v:=vP) hf rfl rfl rfl rfl rfl rfl (RunV.load1 T_agg_22 rfl (hS.ptAt (i:=2) rfl) rfl) ?_
          clear hf a; intro a hf
          exact O.nil ⟨rfl,hf.to trivial,(fun d hd=>by cases (show some 49=some d from hd); exact hf.get _ _ rfl),hS⟩
        · have hS:St w0 w noX [rdv 1 vP zs.length (ints zs),rdv 1 vL l.length (ints l)] [sl 3 1 vp ((Det.part fW fH (Det.marks (fW*fH) l l.length) (l.getD 0 0).toNat).2.length) (ints (Det.part fW fH (Det.marks (fW*fH) l l.length) (l.getD 0 0).toNat).2),sl 4 1 vm (((Det.part fW fH (Det.marks (fW*fH) l l.length) (l.getD 0 0).toNat).1).length) (bools ((Det.part fW fH (Det.marks (fW*fH) l l.length) (l.getD 0 0).toNat).1)),pt b_f1 (.cells #[.int .i64 (fW:Int),.int .i64 (fH:Int),vP] 24 (0,0))]:=hD; clear hD
          replace hf:Fr a 62 [] [(46,.bool true),(48,.pointer (some ⟨b_f1,2,none⟩)),(1,vL),(2,.pointer (some ⟨b_f1,0,none⟩))]:=hf
          refine O.gvalB (v:=vP) hf rfl rfl rfl rfl rfl rfl (RunV.load1 T_agg_22 rfl (hS.ptAt (i:=2) rfl) rfl) ?_
          clear hf a; intro a hf
          exact O.nil ⟨rfl,hf.to trivial,(fun d hd=>by cases (show some 49=some d from hd); exact hf.get _ _ rfl),hS⟩
      · intro k g w hD a hf
        obtain ⟨vm,vp⟩:=g
        rcases k with _ | _ | _ | k
        · have hS:St w0 w noX [rdv 1 vP zs.length (ints zs),rdv 1 vL l.length (ints l)] [pt b_f1 (.cells #[.int .i64 (fW:Int),.int .i64 (fH:Int),vP] 24 (0,0))]:=hD; clear hD
          replace hf:Fr a 62 [] [(46,.bool true),(49,vP),(1,vL),(2,.pointer (some ⟨b_f1,0,none⟩))]:=hf
          refine O.gvalB (v:=.int .i64 (zs.length:Int)) hf rfl rfl rfl rfl rfl rfl (RunV.lenV (e:=2) (by simpa using T_elem_22) rfl (hS.rdAt (j:=0) rfl)) ?_
          clear hf a; intro a hf
          exact O.nil ⟨rfl,hf.to trivial,(fun d hd=>by cases (show some 50=some d from hd); exact hf.get _ _ rfl),hS⟩
        · have hS:St w0 w noX [rdv 1 vP zs.length (ints zs),rdv 1 vL l.length (ints l)] [sl 4 1 vm ((Det.marks (fW*fH) l l.length).length) (bools (Det.marks (fW*fH) l l.length)),pt b_f1 (.cells #[.int .i64 (fW:Int),.int .i64 (fH:Int),vP] 24 (0,0))]:=hD; clear hD
          replace hf:Fr a 62 [] [(46,.bool true),(49,vP),(1,vL),(2,.pointer (some ⟨b_f1,0,none⟩))]:=hf
          refine O.gvalB (v:=.int .i64 (zs.length:Int)) hf rfl rfl rfl rfl rfl rfl (RunV.lenV (e:=2) (by simpa using T_elem_22) rfl (hS.rdAt (j:=0) rfl)) ?_
          clear hf a; intro a hf
          exact O.nil ⟨rfl,hf.to trivial,(fun d hd=>by cases (show some 50=some d from hd); exact hf.get _ _ rfl),hS⟩
        · have hS:St w0 w noX [rdv 1 vP zs.length (ints zs),rdv 1 vL l.length (ints l)] [sl 3 1 vp ((Det.part fW fH (Det.marks (fW*fH) l l.length) (l.getD 0 0).toNat).2.length) (ints (Det.part fW fH (Det.marks (fW*fH) l l.length) (l.getD 0 0).toNat).2),sl 4 1 vm (((Det.part fW fH (Det.marks (fW*fH) l l.length) (l.getD 0 0).toNat).1).length) (bools ((Det.part fW fH (Det.marks (fW*fH) l l.length) (l.getD 0 0).toNat).1)),pt b_f1 (.cells #[.int .i64 (fW:Int),.int .i64 (fH:Int),vP] 24 (0,0))]:=hD; clear hD
          replace hf:Fr a 62 [] [(46,.bool true),(49,vP),(1,vL),(2,.pointer (some ⟨b_f1,0,none⟩))]:=hf
          refine O.gvalB (v:=.int .i64 (zs.length:Int)) hf rfl rfl rfl rfl rfl rfl (RunV.lenV (e:=2) (by simpa using T_elem_22) rfl (hS.rdAt (j:=0) rfl)) ?_
          clear hf a; intro a hf
          exact O.nil ⟨rfl,hf.to trivial,(fun d hd=>by cases (show some 50=some d from hd); exact hf.get _ _ rfl),hS⟩
        · have hS:St w0 w noX [rdv 1 vP zs.length (ints zs),rdv 1 vL l.length (ints l)] [sl 3 1 vp ((Det.part fW fH (Det.marks (fW*fH) l l.length) (l.getD 0 0).toNat).2.length) (ints (Det.part fW fH (Det.marks (fW*fH) l l.length) (l.getD 0 0).toNat).2),sl 4 1 vm (((Det.part fW fH (Det.marks (fW*fH) l l.length) (l.getD 0 0).toNat).1).length) (bools ((Det.part fW fH (Det.marks (fW*fH) l l.length) (l.getD 0 0).toNat).1)),pt b_f1 (.cells #[.int .i64 (fW:Int),.int .i64 (fH:Int),vP] 24 (0,0))]:=hD; clear hD
          replace hf:Fr a 62 [] [(46,.bool true),(49,vP),(1,vL),(2,.pointer (some ⟨b_f1,0,none⟩))]:=hf
          refine O.gvalB (v:=.int .i64 (zs.length:Int)) hf rfl rfl rfl rfl rfl rfl (RunV.lenV (e:=2) (by simpa using T_elem_22) rfl (hS.rdAt (j:=0) rfl)) ?_
          clear hf a; intro a hf
          exact O.nil ⟨rfl,hf.to trivial,(fun d hd=>by cases (show some 50=some d from hd); exact hf.get _ _ rfl),hS⟩
      · intro k g w hD a hf
        obtain ⟨vm,vp⟩:=g
        rcases k with _ | _ | _ | k
        · have hS:St w0 w noX [rdv 1 vP zs.length (ints zs),rdv 1 vL l.length (ints l)] [pt b_f1 (.cells #[.int .i64 (fW:Int),.int .i64 (fH:Int),vP] 24 (0,0))]:=hD; clear hD
          replace hf:Fr a 62 [] [(46,.bool true),(1,vL),(2,.pointer (some ⟨b_f1,0,none⟩))]:=hf
          refine O.gvalB (v:=vL) hf rfl rfl rfl rfl rfl rfl (RunV.move rfl) ?_
          clear hf a; intro a hf
          exact O.nil ⟨rfl,hf.to trivial,(fun d hd=>by cases (show some 51=some d from hd); exact hf.get _ _ rfl),hS⟩
        · have hS:St w0 w noX [rdv 1 vP zs.length (ints zs),rdv 1 vL l.length (ints l)] [sl 4 1 vm ((Det.marks (fW*fH) l l.length).length) (bools (Det.marks (fW*fH) l l.length)),pt b_f1 (.cells #[.int .i64 (fW:Int),.int .i64 (fH:Int),vP] 24 (0,0))]:=hD; clear hD
          replace hf:Fr a 62 [] [(46,.bool true),(1,vL),(2,.pointer (some ⟨b_f1,0,none⟩))]:=hf
          refine O.gvalB (v:=vL) hf rfl rfl rfl rfl rfl rfl (RunV.move rfl) ?_
          clear hf a; intro a hf
          exact O.nil ⟨rfl,hf.to trivial,(fun d hd=>by cases (show some 51=some d from hd); exact hf.get _ _ rfl),hS⟩
        · have hS:St w0 w noX [rdv 1 vP zs.length (ints zs),rdv 1 vL l.length (ints l)] [sl 3 1 vp ((Det.part fW fH (Det.marks (fW*fH) l l.length) (l.getD 0 0).toNat).2.length) (ints (Det.part fW fH (Det.marks (fW*fH) l l.length) (l.getD 0 0).toNat).2),sl 4 1 vm (((Det.part fW fH (Det.marks (fW*fH) l l.length) (l.getD 0 0).toNat).1).length) (bools ((Det.part fW fH (Det.marks (fW*fH) l l.length) (l.getD 0 0).toNat).1)),pt b_f1 (.cells #[.int .i64 (fW:Int),.int .i64 (fH:Int),vP] 24 (0,0))]:=hD; clear hD
          replace hf:Fr a 62 [] [(46,.bool true),(1,vL),(2,.pointer (some ⟨b_f1,0,none⟩))]:=hf
          refine O.gvalB (v:=vL) hf rfl rfl rfl rfl rfl rfl (RunV.move rfl) ?_
          clear hf a; intro a hf
          exact O.nil ⟨rfl,hf.to trivial,(fun d hd=>by cases (show some 51=some d from hd); exact hf.get _ _ rfl),hS⟩
        · have hS:St w0 w noX [rdv 1 vP zs.length (ints zs),rdv 1 vL l.length (ints l)] [sl 3 1 vp ((Det.part fW fH (Det.marks (fW*fH) l l.length) (l.getD 0 0).toNat).2.length) (ints (Det.part fW fH (Det.marks (fW*fH) l l.length) (l.getD 0 0).toNat).2),sl 4 1 vm (((Det.part fW fH (Det.marks (fW*fH) l l.length) (l.getD 0 0).toNat).1).length) (bools ((Det.part fW fH (Det.marks (fW*fH) l l.length) (l.getD 0 0).toNat).1)),pt b_f1 (.cells #[.int .i64 (fW:Int),.int .i64 (fH:Int),vP] 24 (0,0))]:=hD; clear hD
          replace hf:Fr a 62 [] [(46,.bool true),(1,vL),(2,.pointer (some ⟨b_f1,0,none⟩))]:=hf
          refine O.gvalB (v:=vL) hf rfl rfl rfl rfl rfl rfl (RunV.move rfl) ?_
          clear hf a; intro a hf
          exact O.nil ⟨rfl,hf.to trivial,(fun d hd=>by cases (show some 51=some d from hd); exact hf.get _ _ rfl),hS⟩
      · intro k g w hD a hf
        obtain ⟨vm,vp⟩:=g
        rcases k with _ | _ | _ | k
        · have hS:St w0 w noX [rdv 1 vP zs.length (ints zs),rdv 1 vL l.length (ints l)] [pt b_f1 (.cells #[.int .i64 (fW:Int),.int .i64 (fH:Int),vP] 24 (0,0))]:=hD; clear hD
          replace hf:Fr a 62 [] [(46,.bool true),(1,vL),(2,.pointer (some ⟨b_f1,0,none⟩))]:=hf
          refine O.gvalB (v:=vL) hf rfl rfl rfl rfl rfl rfl (RunV.move rfl) ?_
          clear hf a; intro a hf
          exact O.nil ⟨rfl,hf.to trivial,(fun d hd=>by cases (show some 53=some d from hd); exact hf.get _ _ rfl),hS⟩
        · have hS:St w0 w noX [rdv 1 vP zs.length (ints zs),rdv 1 vL l.length (ints l)] [sl 4 1 vm ((Det.marks (fW*fH) l l.length).length) (bools (Det.marks (fW*fH) l l.length)),pt b_f1 (.cells #[.int .i64 (fW:Int),.int .i64 (fH:Int),vP] 24 (0,0))]:=hD; clear hD
          replace hf:Fr a 62 [] [(46,.bool true),(1,vL),(2,.pointer (some ⟨b_f1,0,none⟩))]:=hf
          refine O.gvalB (v:=vL) hf rfl rfl rfl rfl rfl rfl (RunV.move rfl) ?_
          clear hf a; intro a hf
          exact O.nil ⟨rfl,hf.to trivial,(fun d hd=>by cases (show some 53=some d from hd); exact hf.get _ _ rfl),hS⟩
        · have hS:St w0 w noX [rdv 1 vP zs.length (ints zs),rdv 1 vL l.length (ints l)] [sl 3 1 vp ((Det.part fW fH (Det.marks (fW*fH) l l.length) (l.getD 0 0).toNat).2.length) (ints (Det.part fW fH (Det.marks (fW*fH) l l.length) (l.getD 0 0).toNat).2),sl 4 1 vm (((Det.part fW fH (Det.marks (fW*fH) l l.length) (l.getD 0 0).toNat).1).length) (bools ((Det.part fW fH (Det.marks (fW*fH) l l.length) (l.getD 0 0).toNat).1)),pt b_f1 (.cells #[.int .i64 (fW:Int),.int .i64 (fH:Int),vP] 24 (0,0))]:=hD; clear hD
          replace hf:Fr a 62 [] [(46,.bool true),(1,vL),(2,.pointer (some ⟨b_f1,0,none⟩))]:=hf
          refine O.gvalB (v:=vL) hf rfl rfl rfl rfl rfl rfl (RunV.move rfl) ?_
          clear hf a; intro a hf
          exact O.nil ⟨rfl,hf.to trivial,(fun d hd=>by cases (show some 53=some d from hd); exact hf.get _ _ rfl),hS⟩
        · have hS:St w0 w noX [rdv 1 vP zs.length (ints zs),rdv 1 vL l.length (ints l)] [sl 3 1 vp ((Det.part fW fH (Det.marks (fW*fH) l l.length) (l.getD 0 0).toNat).2.length) (ints (Det.part fW fH (Det.marks (fW*fH) l l.length) (l.getD 0 0).toNat).2),sl 4 1 vm (((Det.part fW fH (Det.marks (fW*fH) l l.length) (l.getD 0 0).toNat).1).length) (bools ((Det.part fW fH (Det.marks (fW*fH) l l.length) (l.getD 0 0).toNat).1)),pt b_f1 (.cells #[.int .i64 (fW:Int),.int .i64 (fH:Int),vP] 24 (0,0))]:=hD; clear hD
          replace hf:Fr a 62 [] [(46,.bool true),(1,vL),(2,.pointer (some ⟨b_f1,0,none⟩))]:=hf
          refine O.gvalB (v:=vL) hf rfl rfl rfl rfl rfl rfl (RunV.move rfl) ?_
          clear hf a; intro a hf
          exact O.nil ⟨rfl,hf.to trivial,(fun d hd=>by cases (show some 53=some d from hd); exact hf.get _ _ rfl),hS⟩
      · intro k g w hD a hf
        obtain ⟨vm,vp⟩:=g
        rcases k with _ | _ | _ | k
        · have hS:St w0 w noX [rdv 1 vP zs.length (ints zs),rdv 1 vL l.length (ints l)] [pt b_f1 (.cells #[.int .i64 (fW:Int),.int .i64 (fH:Int),vP] 24 (0,0))]:=hD; clear hD
          replace hf:Fr a 62 [] [(46,.bool true),(53,vL),(1,vL),(2,.pointer (some ⟨b_f1,0,none⟩))]:=hf
          refine O.gvalB (v:=ix vL 0) hf rfl rfl rfl rfl rfl rfl (RunV.ixV (j:=0) (m:=0) T_elem_26 T_size_3 rfl rfl (hS.rdAt (j:=1) rfl) rfl (by omega) (Nat.mul_one _)) ?_
          clear hf a; intro a hf
          exact O.nil ⟨rfl,hf.to trivial,(fun d hd=>by cases (show some 54=some d from hd); exact hf.get _ _ rfl),hS⟩
        · have hS:St w0 w noX [rdv 1 vP zs.length (ints zs),rdv 1 vL l.length (ints l)] [sl 4 1 vm ((Det.marks (fW*fH) l l.length).length) (bools (Det.marks (fW*fH) l l.length)),pt b_f1 (.cells #[.int .i64 (fW:Int),.int .i64 (fH:Int),vP] 24 (0,0))]:=hD; clear hD
          replace hf:Fr a 62 [] [(46,.bool true),(53,vL),(1,vL),(2,.pointer (some ⟨b_f1,0,none⟩))]:=hf
          refine O.gvalB (v:=ix vL 0) hf rfl rfl rfl rfl rfl rfl (RunV.ixV (j:=0) (m:=0) T_elem_26 T_size_3 rfl rfl (hS.rdAt (j:=1) rfl) rfl (by omega) (Nat.mul_one _)) ?_
          clear hf a; intro a hf
          exact O.nil ⟨rfl,hf.to trivial,(fun d hd=>by cases (show some 54=some d from hd); exact hf.get _ _ rfl),hS⟩
        · have hS:St w0 w noX [rdv 1 vP zs.length (ints zs),rdv 1 vL l.length (ints l)] [sl 3 1 vp ((Det.part fW fH (Det.marks (fW*fH) l l.length) (l.getD 0 0).toNat).2.length) (ints (Det.part fW fH (Det.marks (fW*fH) l l.length) (l.getD 0 0).toNat).2),sl 4 1 vm (((Det.part fW fH (Det.marks (fW*fH) l l.length) (l.getD 0 0).toNat).1).length) (bools ((Det.part fW fH (Det.marks (fW*fH) l l.length) (l.getD 0 0).toNat).1)),pt b_f1 (.cells #[.int .i64 (fW:Int),.int .i64 (fH:Int),vP] 24 (0,0))]:=hD; clear hD
          replace hf:Fr a 62 [] [(46,.bool true),(53,vL),(1,vL),(2,.pointer (some ⟨b_f1,0,none⟩))]:=hf
          refine O.gvalB (v:=ix vL 0) hf rfl rfl rfl rfl rfl rfl (RunV.ixV (j:=0) (m:=0) T_elem_26 T_size_3 rfl rfl (hS.rdAt (j:=1) rfl) rfl (by omega) (Nat.mul_one _)) ?_
          clear hf a; intro a hf
          exact O.nil ⟨rfl,hf.to trivial,(fun d hd=>by cases (show some 54=some d from hd); exact hf.get _ _ rfl),hS⟩
        · have hS:St w0 w noX [rdv 1 vP zs.length (ints zs),rdv 1 vL l.length (ints l)] [sl 3 1 vp ((Det.part fW fH (Det.marks (fW*fH) l l.length) (l.getD 0 0).toNat).2.length) (ints (Det.part fW fH (Det.marks (fW*fH) l l.length) (l.getD 0 0).toNat).2),sl 4 1 vm (((Det.part fW fH (Det.marks (fW*fH) l l.length) (l.getD 0 0).toNat).1).length) (bools ((Det.part fW fH (Det.marks (fW*fH) l l.length) (l.getD 0 0).toNat).1)),pt b_f1 (.cells #[.int .i64 (fW:Int),.int .i64 (fH:Int),vP] 24 (0,0))]:=hD; clear hD
          replace hf:Fr a 62 [] [(46,.bool true),(53,vL),(1,vL),(2,.pointer (some ⟨b_f1,0,none⟩))]:=hf
          refine O.gvalB (v:=ix vL 0) hf rfl rfl rfl rfl rfl rfl (RunV.ixV (j:=0) (m:=0) T_elem_26 T_size_3 rfl rfl (hS.rdAt (j:=1) rfl) rfl (by omega) (Nat.mul_one _)) ?_
          clear hf a; intro a hf
          exact O.nil ⟨rfl,hf.to trivial,(fun d hd=>by cases (show some 54=some d from hd); exact hf.get _ _ rfl),hS⟩
      · intro k g w hD a hf
        obtain ⟨vm,vp⟩:=g
        rcases k with _ | _ | _ | k
        · have hS:St w0 w noX [rdv 1 vP zs.length (ints zs),rdv 1 vL l.length (ints l)] [pt b_f1 (.cells #[.int .i64 (fW:Int),.int .i64 (fH:Int),vP] 24 (0,0))]:=hD; clear hD
          replace hf:Fr a 62 [] [(46,.bool true),(54,ix vL 0),(1,vL),(2,.pointer (some ⟨b_f1,0,none⟩))]:=hf
          refine O.gvalB (v:=.int .i64 (l.getD 0 0)) hf rfl rfl rfl rfl rfl rfl (RunV.ld1 T_agg_3 rfl (hS.rdAt (j:=1) rfl) (ints_get (by omega))) ?_
          clear hf a; intro a hf
          exact O.nil ⟨rfl,hf.to trivial,(fun d hd=>by cases (show some 55=some d from hd); exact hf.get _ _ rfl),hS⟩
        · have hS:St w0 w noX [rdv 1 vP zs.length (ints zs),rdv 1 vL l.length (ints l)] [sl 4 1 vm ((Det.marks (fW*fH) l l.length).length) (bools (Det.marks (fW*fH) l l.length)),pt b_f1 (.cells #[.int .i64 (fW:Int),.int .i64 (fH:Int),vP] 24 (0,0))]:=hD; clear hD
          replace hf:Fr a 62 [] [(46,.bool true),(54,ix vL 0),(1,vL),(2,.pointer (some ⟨b_f1,0,none⟩))]:=hf
          refine O.gvalB (v:=.int .i64 (l.getD 0 0)) hf rfl rfl rfl rfl rfl rfl (RunV.ld1 T_agg_3 rfl (hS.rdAt (j:=1) rfl) (ints_get (by omega))) ?_
          clear hf a; intro a hf
          exact O.nil ⟨rfl,hf.to trivial,(fun d hd=>by cases (show some 55=some d from hd); exact hf.get _ _ rfl),hS⟩
        · have hS:St w0 w noX [rdv 1 vP zs.length (ints zs),rdv 1 vL l.length (ints l)] [sl 3 1 vp ((Det.part fW fH (Det.marks (fW*fH) l l.length) (l.getD 0 0).toNat).2.length) (ints (Det.part fW fH (Det.marks (fW*fH) l l.length) (l.getD 0 0).toNat).2),sl 4 1 vm (((Det.part fW fH (Det.marks (fW*fH) l l.length) (l.getD 0 0).toNat).1).length) (bools ((Det.part fW fH (Det.marks (fW*fH) l l.length) (l.getD 0 0).toNat).1)),pt b_f1 (.cells #[.int .i64 (fW:Int),.int .i64 (fH:Int),vP] 24 (0,0))]:=hD; clear hD
          replace hf:Fr a 62 [] [(46,.bool true),(54,ix vL 0),(1,vL),(2,.pointer (some ⟨b_f1,0,none⟩))]:=hf
          refine O.gvalB (v:=.int .i64 (l.getD 0 0)) hf rfl rfl rfl rfl rfl rfl (RunV.ld1 T_agg_3 rfl (hS.rdAt (j:=1) rfl) (ints_get (by omega))) ?_
          clear hf a; intro a hf
          exact O.nil ⟨rfl,hf.to trivial,(fun d hd=>by cases (show some 55=some d from hd); exact hf.get _ _ rfl),hS⟩
        · have hS:St w0 w noX [rdv 1 vP zs.length (ints zs),rdv 1 vL l.length (ints l)] [sl 3 1 vp ((Det.part fW fH (Det.marks (fW*fH) l l.length) (l.getD 0 0).toNat).2.length) (ints (Det.part fW fH (Det.marks (fW*fH) l l.length) (l.getD 0 0).toNat).2),sl 4 1 vm (((Det.part fW fH (Det.marks (fW*fH) l l.length) (l.getD 0 0).toNat).1).length) (bools ((Det.part fW fH (Det.marks (fW*fH) l l.length) (l.getD 0 0).toNat).1)),pt b_f1 (.cells #[.int .i64 (fW:Int),.int .i64 (fH:Int),vP] 24 (0,0))]:=hD; clear hD
          replace hf:Fr a 62 [] [(46,.bool true),(54,ix vL 0),(1,vL),(2,.pointer (some ⟨b_f1,0,none⟩))]:=hf
          refine O.gvalB (v:=.int .i64 (l.getD 0 0)) hf rfl rfl rfl rfl rfl rfl (RunV.ld1 T_agg_3 rfl (hS.rdAt (j:=1) rfl) (ints_get (by omega))) ?_
          clear hf a; intro a hf
          exact O.nil ⟨rfl,hf.to trivial,(fun d hd=>by cases (show some 55=some d from hd); exact hf.get _ _ rfl),hS⟩
      · intro k g w hD a hf
        obtain ⟨vm,vp⟩:=g
        rcases k with _ | _ | _ | k
        · have hS:St w0 w noX [rdv 1 vP zs.length (ints zs),rdv 1 vL l.length (ints l)] [pt b_f1 (.cells #[.int .i64 (fW:Int),.int .i64 (fH:Int),vP] 24 (0,0))]:=hD; clear hD
          replace hf:Fr a 62 [] [(46,.bool true),(1,vL),(2,.pointer (some ⟨b_f1,0,none⟩))]:=hf
          refine O.gvalB (v:=vL) hf rfl rfl rfl rfl rfl rfl (RunV.move rfl) ?_
          clear hf a; intro a hf
          exact O.nil ⟨rfl,hf.to trivial,(fun d hd=>by cases (show some 58=some d from hd); exact hf.get _ _ rfl),hS⟩
        · have hS:St w0 w noX [rdv 1 vP zs.length (ints zs),rdv 1 vL l.length (ints l)] [sl 4 1 vm ((Det.marks (fW*fH) l l.length).length) (bools (Det.marks (fW*fH) l l.length)),pt b_f1 (.cells #[.int .i64 (fW:Int),.int .i64 (fH:Int),vP] 24 (0,0))]:=hD; clear hD
          replace hf:Fr a 62 [] [(46,.bool true),(1,vL),(2,.pointer (some ⟨b_f1,0,none⟩))]:=hf
          refine O.gvalB (v:=vL) hf rfl rfl rfl rfl rfl rfl (RunV.move rfl) ?_
          clear hf a; intro a hf
          exact O.nil ⟨rfl,hf.to trivial,(fun d hd=>by cases (show some 58=some d from hd); exact hf.get _ _ rfl),hS⟩
        · have hS:St w0 w noX [rdv 1 vP zs.length (ints zs),rdv 1 vL l.length (ints l)] [sl 3 1 vp ((Det.part fW fH (Det.marks (fW*fH) l l.length) (l.getD 0 0).toNat).2.length) (ints (Det.part fW fH (Det.marks (fW*fH) l l.length) (l.getD 0 0).toNat).2),sl 4 1 vm (((Det.part fW fH (Det.marks (fW*fH) l l.length) (l.getD 0 0).toNat).1).length) (bools ((Det.part fW fH (Det.marks (fW*fH) l l.length) (l.getD 0 0).toNat).1)),pt b_f1 (.cells #[.int .i64 (fW:Int),.int .i64 (fH:Int),vP] 24 (0,0))]:=hD; clear hD
          replace hf:Fr a 62 [] [(46,.bool true),(1,vL),(2,.pointer (some ⟨b_f1,0,none⟩))]:=hf
          refine O.gvalB (v:=vL) hf rfl rfl rfl rfl rfl rfl (RunV.move rfl) ?_
          clear hf a; intro a hf
          exact O.nil ⟨rfl,hf.to trivial,(fun d hd=>by cases (show some 58=some d from hd); exact hf.get _ _ rfl),hS⟩
        · have hS:St w0 w noX [rdv 1 vP zs.length (ints zs),rdv 1 vL l.length (ints l)] [sl 3 1 vp ((Det.part fW fH (Det.marks (fW*fH) l l.length) (l.getD 0 0).toNat).2.length) (ints (Det.part fW fH (Det.marks (fW*fH) l l.length) (l.getD 0 0).toNat).2),sl 4 1 vm (((Det.part fW fH (Det.marks (fW*fH) l l.length) (l.getD 0 0).toNat).1).length) (bools ((Det.part fW fH (Det.marks (fW*fH) l l.length) (l.getD 0 0).toNat).1)),pt b_f1 (.cells #[.int .i64 (fW:Int),.int .i64 (fH:Int),vP] 24 (0,0))]:=hD; clear hD
          replace hf:Fr a 62 [] [(46,.bool true),(1,vL),(2,.pointer (some ⟨b_f1,0,none⟩))]:=hf
          refine O.gvalB (v:=vL) hf rfl rfl rfl rfl rfl rfl (RunV.move rfl) ?_
          clear hf a; intro a hf
          exact O.nil ⟨rfl,hf.to trivial,(fun d hd=>by cases (show some 58=some d from hd); exact hf.get _ _ rfl),hS⟩
      · intro k g w hD a hf
        obtain ⟨vm,vp⟩:=g
        rcases k with _ | _ | _ | k
        · have hS:St w0 w noX [rdv 1 vP zs.length (ints zs),rdv 1 vL l.length (ints l)] [pt b_f1 (.cells #[.int .i64 (fW:Int),.int .i64 (fH:Int),vP] 24 (0,0))]:=hD; clear hD
          replace hf:Fr a 62 [] [(46,.bool true),(58,vL),(1,vL),(2,.pointer (some ⟨b_f1,0,none⟩))]:=hf
          refine O.gvalB (v:=.int .i64 (l.length:Int)) hf rfl rfl rfl rfl rfl rfl (RunV.lenV (e:=3) (by simpa using T_elem_26) rfl (hS.rdAt (j:=1) rfl)) ?_
          clear hf a; intro a hf
          exact O.nil ⟨rfl,hf.to trivial,(fun d hd=>by cases (show some 59=some d from hd); exact hf.get _ _ rfl),hS⟩
        · have hS:St w0 w noX [rdv 1 vP zs.length (ints zs),rdv 1 vL l.length (ints l)] [sl 4 1 vm ((Det.marks (fW*fH) l l.length).length) (bools (Det.marks (fW*fH) l l.length)),pt b_f1 (.cells #[.int .i64 (fW:Int),.int .i64 (fH:Int),vP] 24 (0,0))]:=hD; clear hD
          replace hf:Fr a 62 [] [(46,.bool true),(58,vL),(1,vL),(2,.pointer (some ⟨b_f1,0,none⟩))]:=hf
          refine O.gvalB (v:=.int .i64 (l.length:Int)) hf rfl rfl rfl rfl rfl rfl (RunV.lenV (e:=3) (by simpa using T_elem_26) rfl (hS.rdAt (j:=1) rfl)) ?_
          clear hf a; intro a hf
          exact O.nil ⟨rfl,hf.to trivial,(fun d hd=>by cases (show some 59=some d from hd); exact hf.get _ _ rfl),hS⟩
        · have hS:St w0 w noX [rdv 1 vP zs.length (ints zs),rdv 1 vL l.length (ints l)] [sl 3 1 vp ((Det.part fW fH (Det.marks (fW*fH) l l.length) (l.getD 0 0).toNat).2.length) (ints (Det.part fW fH (Det.marks (fW*fH) l l.length) (l.getD 0 0).toNat).2),sl 4 1 vm (((Det.part fW fH (Det.marks (fW*fH) l l.length) (l.getD 0 0).toNat).1).length) (bools ((Det.part fW fH (Det.marks (fW*fH) l l.length) (l.getD 0 0).toNat).1)),pt b_f1 (.cells #[.int .i64 (fW:Int),.int .i64 (fH:Int),vP] 24 (0,0))]:=hD; clear hD
          replace hf:Fr a 62 [] [(46,.bool true),(58,vL),(1,vL),(2,.pointer (some ⟨b_f1,0,none⟩))]:=hf
          refine O.gvalB (v:=.int .i64 (l.length:Int)) hf rfl rfl rfl rfl rfl rfl (RunV.lenV (e:=3) (by simpa using T_elem_26) rfl (hS.rdAt (j:=1) rfl)) ?_
          clear hf a; intro a hf
          exact O.nil ⟨rfl,hf.to trivial,(fun d hd=>by cases (show some 59=some d from hd); exact hf.get _ _ rfl),hS⟩
        · have hS:St w0 w noX [rdv 1 vP zs.length (ints zs),rdv 1 vL l.length (ints l)] [sl 3 1 vp ((Det.part fW fH (Det.marks (fW*fH) l l.length) (l.getD 0 0).toNat).2.length) (ints (Det.part fW fH (Det.marks (fW*fH) l l.length) (l.getD 0 0).toNat).2),sl 4 1 vm (((Det.part fW fH (Det.marks (fW*fH) l l.length) (l.getD 0 0).toNat).1).length) (bools ((Det.part fW fH (Det.marks (fW*fH) l l.length) (l.getD 0 0).toNat).1)),pt b_f1 (.cells #[.int .i64 (fW:Int),.int .i64 (fH:Int),vP] 24 (0,0))]:=hD; clear hD
          replace hf:Fr a 62 [] [(46,.bool true),(58,vL),(1,vL),(2,.pointer (some ⟨b_f1,0,none⟩))]:=hf
          refine O.gvalB (v:=.int .i64 (l.length:Int)) hf rfl rfl rfl rfl rfl rfl (RunV.lenV (e:=3) (by simpa using T_elem_26) rfl (hS.rdAt (j:=1) rfl)) ?_
          clear hf a; intro a hf
          exact O.nil ⟨rfl,hf.to trivial,(fun d hd=>by cases (show some 59=some d from hd); exact hf.get _ _ rfl),hS⟩
      · intro k g w hD a hf
        obtain ⟨vm,vp⟩:=g
        rcases k with _ | _ | _ | k
        · have hS:St w0 w noX [rdv 1 vP zs.length (ints zs),rdv 1 vL l.length (ints l)] [pt b_f1 (.cells #[.int .i64 (fW:Int),.int .i64 (fH:Int),vP] 24 (0,0))]:=hD; clear hD
          replace hf:Fr a 62 [] [(46,.bool true),(57,.int .i64 ((Det.part fW fH (Det.marks (fW*fH) l l.length) (l.getD 0 0).toNat).2.length:Int)),(59,.int .i64 (l.length:Int)),(1,vL),(2,.pointer (some ⟨b_f1,0,none⟩))]:=hf
          refine O.gvalB (v:=.bool (decide (((Det.part fW fH (Det.marks (fW*fH) l l.length) (l.getD 0 0).toNat).2.length:Int)=((l.length:Int):Int)))) hf rfl rfl rfl rfl rfl rfl (RunV.eql rfl rfl) ?_
          clear hf a; intro a hf
          exact O.nil ⟨rfl,hf.to trivial,(fun d hd=>by cases (show some 60=some d from hd); exact hf.get _ _ rfl),hS⟩
        · have hS:St w0 w noX [rdv 1 vP zs.length (ints zs),rdv 1 vL l.length (ints l)] [sl 4 1 vm ((Det.marks (fW*fH) l l.length).length) (bools (Det.marks (fW*fH) l l.length)),pt b_f1 (.cells #[.int .i64 (fW:Int),.int .i64 (fH:Int),vP] 24 (0,0))]:=hD; clear hD
          replace hf:Fr a 62 [] [(46,.bool true),(57,.int .i64 ((Det.part fW fH (Det.marks (fW*fH) l l.length) (l.getD 0 0).toNat).2.length:Int)),(59,.int .i64 (l.length:Int)),(1,vL),(2,.pointer (some ⟨b_f1,0,none⟩))]:=hf
          refine O.gvalB (v:=.bool (decide (((Det.part fW fH (Det.marks (fW*fH) l l.length) (l.getD 0 0).toNat).2.length:Int)=((l.length:Int):Int)))) hf rfl rfl rfl rfl rfl rfl (RunV.eql rfl rfl) ?_
          clear hf a; intro a hf
          exact O.nil ⟨rfl,hf.to trivial,(fun d hd=>by cases (show some 60=some d from hd); exact hf.get _ _ rfl),hS⟩
        · have hS:St w0 w noX [rdv 1 vP zs.length (ints zs),rdv 1 vL l.length (ints l)] [sl 3 1 vp ((Det.part fW fH (Det.marks (fW*fH) l l.length) (l.getD 0 0).toNat).2.length) (ints (Det.part fW fH (Det.marks (fW*fH) l l.length) (l.getD 0 0).toNat).2),sl 4 1 vm (((Det.part fW fH (Det.marks (fW*fH) l l.length) (l.getD 0 0).toNat).1).length) (bools ((Det.part fW fH (Det.marks (fW*fH) l l.length) (l.getD 0 0).toNat).1)),pt b_f1 (.cells #[.int .i64 (fW:Int),.int .i64 (fH:Int),vP] 24 (0,0))]:=hD; clear hD
          replace hf:Fr a 62 [] [(46,.bool true),(57,.int .i64 ((Det.part fW fH (Det.marks (fW*fH) l l.length) (l.getD 0 0).toNat).2.length:Int)),(59,.int .i64 (l.length:Int)),(1,vL),(2,.pointer (some ⟨b_f1,0,none⟩))]:=hf
          refine O.gvalB (v:=.bool (decide (((Det.part fW fH (Det.marks (fW*fH) l l.length) (l.getD 0 0).toNat).2.length:Int)=((l.length:Int):Int)))) hf rfl rfl rfl rfl rfl rfl (RunV.eql rfl rfl) ?_
          clear hf a; intro a hf
          exact O.nil ⟨rfl,hf.to trivial,(fun d hd=>by cases (show some 60=some d from hd); exact hf.get _ _ rfl),hS⟩
        · have hS:St w0 w noX [rdv 1 vP zs.length (ints zs),rdv 1 vL l.length (ints l)] [sl 3 1 vp ((Det.part fW fH (Det.marks (fW*fH) l l.length) (l.getD 0 0).toNat).2.length) (ints (Det.part fW fH (Det.marks (fW*fH) l l.length) (l.getD 0 0).toNat).2),sl 4 1 vm (((Det.part fW fH (Det.marks (fW*fH) l l.length) (l.getD 0 0).toNat).1).length) (bools ((Det.part fW fH (Det.marks (fW*fH) l l.length) (l.getD 0 0).toNat).1)),pt b_f1 (.cells #[.int .i64 (fW:Int),.int .i64 (fH:Int),vP] 24 (0,0))]:=hD; clear hD
          replace hf:Fr a 62 [] [(46,.bool true),(57,.int .i64 ((Det.part fW fH (Det.marks (fW*fH) l l.length) (l.getD 0 0).toNat).2.length:Int)),(59,.int .i64 (l.length:Int)),(1,vL),(2,.pointer (some ⟨b_f1,0,none⟩))]:=hf
          refine O.gvalB (v:=.bool (decide (((Det.part fW fH (Det.marks (fW*fH) l l.length) (l.getD 0 0).toNat).2.length:Int)=((l.length:Int):Int)))) hf rfl rfl rfl rfl rfl rfl (RunV.eql rfl rfl) ?_
          clear hf a; intro a hf
          exact O.nil ⟨rfl,hf.to trivial,(fun d hd=>by cases (show some 60=some d from hd); exact hf.get _ _ rfl),hS⟩
      · intro k g w hD a hf
        obtain ⟨vm,vp⟩:=g
        rcases k with _ | _ | _ | k
        · have hS:St w0 w noX [rdv 1 vP zs.length (ints zs),rdv 1 vL l.length (ints l)] [pt b_f1 (.cells #[.int .i64 (fW:Int),.int .i64 (fH:Int),vP] 24 (0,0))]:=hD; clear hD
          replace hf:Fr a 62 [] [(46,.bool true),(60,.bool (decide (((Det.part fW fH (Det.marks (fW*fH) l l.length) (l.getD 0 0).toNat).2.length:Int)=((l.length:Int):Int)))),(1,vL),(2,.pointer (some ⟨b_f1,0,none⟩))]:=hf
          refine O.val (v:=.bool (decide (((Det.part fW fH (Det.marks (fW*fH) l l.length) (l.getD 0 0).toNat).2.length:Int)=((l.length:Int):Int)))) hf rfl rfl rfl (RunV.pick rfl rfl rfl rfl) ?_
          clear hf a; intro a hf
          exact O.nil ⟨rfl,hf.to trivial,(fun d hd=>by cases (show some 61=some d from hd); exact hf.get _ _ rfl),hS⟩
        · have hS:St w0 w noX [rdv 1 vP zs.length (ints zs),rdv 1 vL l.length (ints l)] [sl 4 1 vm ((Det.marks (fW*fH) l l.length).length) (bools (Det.marks (fW*fH) l l.length)),pt b_f1 (.cells #[.int .i64 (fW:Int),.int .i64 (fH:Int),vP] 24 (0,0))]:=hD; clear hD
          replace hf:Fr a 62 [] [(46,.bool true),(60,.bool (decide (((Det.part fW fH (Det.marks (fW*fH) l l.length) (l.getD 0 0).toNat).2.length:Int)=((l.length:Int):Int)))),(1,vL),(2,.pointer (some ⟨b_f1,0,none⟩))]:=hf
          refine O.val (v:=.bool (decide (((Det.part fW fH (Det.marks (fW*fH) l l.length) (l.getD 0 0).toNat).2.length:Int)=((l.length:Int):Int)))) hf rfl rfl rfl (RunV.pick rfl rfl rfl rfl) ?_
          clear hf a; intro a hf
          exact O.nil ⟨rfl,hf.to trivial,(fun d hd=>by cases (show some 61=some d from hd); exact hf.get _ _ rfl),hS⟩
        · have hS:St w0 w noX [rdv 1 vP zs.length (ints zs),rdv 1 vL l.length (ints l)] [sl 3 1 vp ((Det.part fW fH (Det.marks (fW*fH) l l.length) (l.getD 0 0).toNat).2.length) (ints (Det.part fW fH (Det.marks (fW*fH) l l.length) (l.getD 0 0).toNat).2),sl 4 1 vm (((Det.part fW fH (Det.marks (fW*fH) l l.length) (l.getD 0 0).toNat).1).length) (bools ((Det.part fW fH (Det.marks (fW*fH) l l.length) (l.getD 0 0).toNat).1)),pt b_f1 (.cells #[.int .i64 (fW:Int),.int .i64 (fH:Int),vP] 24 (0,0))]:=hD; clear hD
          replace hf:Fr a 62 [] [(46,.bool true),(60,.bool (decide (((Det.part fW fH (Det.marks (fW*fH) l l.length) (l.getD 0 0).toNat).2.length:Int)=((l.length:Int):Int)))),(1,vL),(2,.pointer (some ⟨b_f1,0,none⟩))]:=hf
          refine O.val (v:=.bool (decide (((Det.part fW fH (Det.marks (fW*fH) l l.length) (l.getD 0 0).toNat).2.length:Int)=((l.length:Int):Int)))) hf rfl rfl rfl (RunV.pick rfl rfl rfl rfl) ?_
          clear hf a; intro a hf
          exact O.nil ⟨rfl,hf.to trivial,(fun d hd=>by cases (show some 61=some d from hd); exact hf.get _ _ rfl),hS⟩
        · have hS:St w0 w noX [rdv 1 vP zs.length (ints zs),rdv 1 vL l.length (ints l)] [sl 3 1 vp ((Det.part fW fH (Det.marks (fW*fH) l l.length) (l.getD 0 0).toNat).2.length) (ints (Det.part fW fH (Det.marks (fW*fH) l l.length) (l.getD 0 0).toNat).2),sl 4 1 vm (((Det.part fW fH (Det.marks (fW*fH) l l.length) (l.getD 0 0).toNat).1).length) (bools ((Det.part fW fH (Det.marks (fW*fH) l l.length) (l.getD 0 0).toNat).1)),pt b_f1 (.cells #[.int .i64 (fW:Int),.int .i64 (fH:Int),vP] 24 (0,0))]:=hD; clear hD
          replace hf:Fr a 62 [] [(46,.bool true),(60,.bool (decide (((Det.part fW fH (Det.marks (fW*fH) l l.length) (l.getD 0 0).toNat).2.length:Int)=((l.length:Int):Int)))),(1,vL),(2,.pointer (some ⟨b_f1,0,none⟩))]:=hf
          refine O.val (v:=.bool (decide (((Det.part fW fH (Det.marks (fW*fH) l l.length) (l.getD 0 0).toNat).2.length:Int)=((l.length:Int):Int)))) hf rfl rfl rfl (RunV.pick rfl rfl rfl rfl) ?_
          clear hf a; intro a hf
          exact O.nil ⟨rfl,hf.to trivial,(fun d hd=>by cases (show some 61=some d from hd); exact hf.get _ _ rfl),hS⟩
      · intro k g w hD a hf
        obtain ⟨vm,vp⟩:=g
        rcases k with _ | _ | _ | k
        · have hS:St w0 w noX [rdv 1 vP zs.length (ints zs),rdv 1 vL l.length (ints l)] [pt b_f1 (.cells #[.int .i64 (fW:Int),.int .i64 (fH:Int),vP] 24 (0,0))]:=hD; clear hD
          replace hf:Fr a 62 [] [(43,vL),(44,.int .i64 (l.length:Int)),(45,.bool true),(46,.bool true),(47,.agg #[.int .i64 (fW:Int),.int .i64 (fH:Int),vP]),(48,.pointer (some ⟨b_f1,2,none⟩)),(49,vP),(50,.int .i64 (zs.length:Int)),(51,vL),(52,vm),(53,vL),(54,ix vL 0),(55,.int .i64 (l.getD 0 0)),(56,vp),(57,.int .i64 ((Det.part fW fH (Det.marks (fW*fH) l l.length) (l.getD 0 0).toNat).2.length:Int)),(58,vL),(59,.int .i64 (l.length:Int)),(60,.bool (decide (((Det.part fW fH (Det.marks (fW*fH) l l.length) (l.getD 0 0).toNat).2.length:Int)=((l.length:Int):Int)))),(61,.bool (decide (((Det.part fW fH (Det.marks (fW*fH) l l.length) (l.getD 0 0).toNat).2.length:Int)=((l.length:Int):Int)))),(1,vL),(2,.pointer (some ⟨b_f1,0,none⟩))]:=hf
          refine O.val hf rfl rfl rfl (RunV.assign rfl) ?_
          clear hf a; intro a hf
          exact O.nil ⟨rfl,hf.to trivial,(fun d hd=>by cases (show some 4=some d from hd); exact hf.get _ _ rfl),hS⟩
        · have hS:St w0 w noX [rdv 1 vP zs.length (ints zs),rdv 1 vL l.length (ints l)] [sl 4 1 vm ((Det.marks (fW*fH) l l.length).length) (bools (Det.marks (fW*fH) l l.length)),pt b_f1 (.cells #[.int .i64 (fW:Int),.int .i64 (fH:Int),vP] 24 (0,0))]:=hD; clear hD
          replace hf:Fr a 62 [] [(43,vL),(44,.int .i64 (l.length:Int)),(45,.bool true),(46,.bool true),(47,.agg #[.int .i64 (fW:Int),.int .i64 (fH:Int),vP]),(48,.pointer (some ⟨b_f1,2,none⟩)),(49,vP),(50,.int .i64 (zs.length:Int)),(51,vL),(52,vm),(53,vL),(54,ix vL 0),(55,.int .i64 (l.getD 0 0)),(56,vp),(57,.int .i64 ((Det.part fW fH (Det.marks (fW*fH) l l.length) (l.getD 0 0).toNat).2.length:Int)),(58,vL),(59,.int .i64 (l.length:Int)),(60,.bool (decide (((Det.part fW fH (Det.marks (fW*fH) l l.length) (l.getD 0 0).toNat).2.length:Int)=((l.length:Int):Int)))),(61,.bool (decide (((Det.part fW fH (Det.marks (fW*fH) l l.length) (l.getD 0 0).toNat).2.length:Int)=((l.length:Int):Int)))),(1,vL),(2,.pointer (some ⟨b_f1,0,none⟩))]:=hf
          refine O.val hf rfl rfl rfl (RunV.assign rfl) ?_
          clear hf a; intro a hf
          exact O.nil ⟨rfl,hf.to trivial,(fun d hd=>by cases (show some 4=some d from hd); exact hf.get _ _ rfl),hS⟩
        · have hS:St w0 w noX [rdv 1 vP zs.length (ints zs),rdv 1 vL l.length (ints l)] [sl 3 1 vp ((Det.part fW fH (Det.marks (fW*fH) l l.length) (l.getD 0 0).toNat).2.length) (ints (Det.part fW fH (Det.marks (fW*fH) l l.length) (l.getD 0 0).toNat).2),sl 4 1 vm (((Det.part fW fH (Det.marks (fW*fH) l l.length) (l.getD 0 0).toNat).1).length) (bools ((Det.part fW fH (Det.marks (fW*fH) l l.length) (l.getD 0 0).toNat).1)),pt b_f1 (.cells #[.int .i64 (fW:Int),.int .i64 (fH:Int),vP] 24 (0,0))]:=hD; clear hD
          replace hf:Fr a 62 [] [(43,vL),(44,.int .i64 (l.length:Int)),(45,.bool true),(46,.bool true),(47,.agg #[.int .i64 (fW:Int),.int .i64 (fH:Int),vP]),(48,.pointer (some ⟨b_f1,2,none⟩)),(49,vP),(50,.int .i64 (zs.length:Int)),(51,vL),(52,vm),(53,vL),(54,ix vL 0),(55,.int .i64 (l.getD 0 0)),(56,vp),(57,.int .i64 ((Det.part fW fH (Det.marks (fW*fH) l l.length) (l.getD 0 0).toNat).2.length:Int)),(58,vL),(59,.int .i64 (l.length:Int)),(60,.bool (decide (((Det.part fW fH (Det.marks (fW*fH) l l.length) (l.getD 0 0).toNat).2.length:Int)=((l.length:Int):Int)))),(61,.bool (decide (((Det.part fW fH (Det.marks (fW*fH) l l.length) (l.getD 0 0).toNat).2.length:Int)=((l.length:Int):Int)))),(1,vL),(2,.pointer (some ⟨b_f1,0,none⟩))]:=hf
          refine O.val hf rfl rfl rfl (RunV.assign rfl) ?_
          clear hf a; intro a hf
          exact O.nil ⟨rfl,hf.to trivial,(fun d hd=>by cases (show some 4=some d from hd); exact hf.get _ _ rfl),hS⟩
        · have hS:St w0 w noX [rdv 1 vP zs.length (ints zs),rdv 1 vL l.length (ints l)] [sl 3 1 vp ((Det.part fW fH (Det.marks (fW*fH) l l.length) (l.getD 0 0).toNat).2.length) (ints (Det.part fW fH (Det.marks (fW*fH) l l.length) (l.getD 0 0).toNat).2),sl 4 1 vm (((Det.part fW fH (Det.marks (fW*fH) l l.length) (l.getD 0 0).toNat).1).length) (bools ((Det.part fW fH (Det.marks (fW*fH) l l.length) (l.getD 0 0).toNat).1)),pt b_f1 (.cells #[.int .i64 (fW:Int),.int .i64 (fH:Int),vP] 24 (0,0))]:=hD; clear hD
          replace hf:Fr a 62 [] [(43,vL),(44,.int .i64 (l.length:Int)),(45,.bool true),(46,.bool true),(47,.agg #[.int .i64 (fW:Int),.int .i64 (fH:Int),vP]),(48,.pointer (some ⟨b_f1,2,none⟩)),(49,vP),(50,.int .i64 (zs.length:Int)),(51,vL),(52,vm),(53,vL),(54,ix vL 0),(55,.int .i64 (l.getD 0 0)),(56,vp),(57,.int .i64 ((Det.part fW fH (Det.marks (fW*fH) l l.length) (l.getD 0 0).toNat).2.length:Int)),(58,vL),(59,.int .i64 (l.length:Int)),(60,.bool (decide (((Det.part fW fH (Det.marks (fW*fH) l l.length) (l.getD 0 0).toNat).2.length:Int)=((l.length:Int):Int)))),(61,.bool (decide (((Det.part fW fH (Det.marks (fW*fH) l l.length) (l.getD 0 0).toNat).2.length:Int)=((l.length:Int):Int)))),(1,vL),(2,.pointer (some ⟨b_f1,0,none⟩))]:=hf
          refine O.val hf rfl rfl rfl (RunV.assign rfl) ?_
          clear hf a; intro a hf
          exact O.nil ⟨rfl,hf.to trivial,(fun d hd=>by cases (show some 4=some d from hd); exact hf.get _ _ rfl),hS⟩
    · clear hf hS
      refine ⟨?_,?_,?_,trivial⟩
      · intro g w hD a hf
        obtain ⟨vm,vp⟩:=g
        have hS:St w0 w noX [rdv 1 vP zs.length (ints zs),rdv 1 vL l.length (ints l)] [pt b_f1 (.cells #[.int .i64 (fW:Int),.int .i64 (fH:Int),vP] 24 (0,0))]:=hD; clear hD
        replace hf:Fr a 62 [] [(46,.bool true),(50,.int .i64 (zs.length:Int)),(51,vL),(1,vL),(2,.pointer (some ⟨b_f1,0,none⟩))]:=hf
        rw [show ((zs.length:Nat):Int)=((fW*fH:Nat):Int) from by rw [hn]] at hf
        refine O.gcallR hf rfl rfl rfl rfl rfl rfl (RunE.call (av:=#[.int .i64 ((fW*fH:Nat):Int),vL]) C_ok_46 rfl rfl rfl) (marks_spec (fW*fH) vL l _ (hS.rdAt (j:=1) rfl) (by omega) (fun i hi=>(h2 i (by omega)).1)) ?_
        clear hf a
        rintro vm w9 hS1 a hf
        replace hf:Fr a _ _ ((52,vm)::_):=hf
        replace hS:=(hS.call hS1).eqM (N:=[sl 4 1 vm ((Det.marks (fW*fH) l l.length).length) (bools (Det.marks (fW*fH) l l.length)),pt b_f1 (.cells #[.int .i64 (fW:Int),.int .i64 (fH:Int),vP] 24 (0,0))]) rfl
        clear hS1
        exact O.nil ⟨rfl,(vm,vp),hf.to trivial,(fun d hd=>by cases (show some 52=some d from hd); exact hf.get _ _ rfl),(fun j hj=>match j,hj with | 0,hj=>rfl | 1,hj=>rfl | 2,hj=>rfl | 3,hj=>rfl | 4,hj=>rfl | 5,hj=>rfl | 6,hj=>rfl | 7,hj=>rfl | 8,hj=>rfl | 9,hj=>absurd hj (by decide) | 10,hj=>rfl | 11,hj=>rfl | 12,hj=>rfl | 13,hj=>absurd hj (by decide) | 14,hj=>absurd hj (by decide) | 15,hj=>rfl | 16,hj=>rfl | 17,hj=>rfl | 18,hj=>rfl | 19,hj=>rfl | _+20,_=>rfl),hS⟩
      · intro g w hD a hf
        obtain ⟨vm,vp⟩:=g
        have hS:St w0 w noX [rdv 1 vP zs.length (ints zs),rdv 1 vL l.length (ints l)] [sl 4 1 vm ((Det.marks (fW*fH) l l.length).length) (bools (Det.marks (fW*fH) l l.length)),pt b_f1 (.cells #[.int .i64 (fW:Int),.int .i64 (fH:Int),vP] 24 (0,0))]:=hD; clear hD
        replace hf:Fr a 62 [] [(46,.bool true),(47,.agg #[.int .i64 (fW:Int),.int .i64 (fH:Int),vP]),(52,vm),(55,.int .i64 (l.getD 0 0)),(1,vL),(2,.pointer (some ⟨b_f1,0,none⟩))]:=hf
        rw [show l.getD 0 0=(((l.getD 0 0).toNat:Nat):Int) from by omega] at hf
        refine O.gcallR hf rfl rfl rfl rfl rfl rfl (RunE.call (av:=#[.agg #[.int .i64 (fW:Int),.int .i64 (fH:Int),vP],vm,.int .i64 ((l.getD 0 0).toNat:Int)]) C_ok_45 rfl rfl rfl) (part13_spec fW fH (l.getD 0 0).toNat vP vm zs (Det.marks (fW*fH) l l.length) _ hW hH hn (Det.marks_len _ _ _) (by omega) (hS.rdAt (j:=0) rfl) (hS.slAt (j:=0) rfl) (fun b g1 g2=>hS.apart (i:=0) (j:=0) rfl rfl b ⟨g1,g2⟩)) ?_
        clear hf a
        rintro vp w10 hS1 a hf
        replace hf:Fr a _ _ ((56,vp)::_):=hf
        replace hS:=(hS.callX1 hS1 (i:=0) rfl (fun _ h=>h)).eqM (N:=[sl 3 1 vp ((Det.part fW fH (Det.marks (fW*fH) l l.length) (l.getD 0 0).toNat).2.length) (ints (Det.part fW fH (Det.marks (fW*fH) l l.length) (l.getD 0 0).toNat).2),sl 4 1 vm (((Det.part fW fH (Det.marks (fW*fH) l l.length) (l.getD 0 0).toNat).1).length) (bools ((Det.part fW fH (Det.marks (fW*fH) l l.length) (l.getD 0 0).toNat).1)),pt b_f1 (.cells #[.int .i64 (fW:Int),.int .i64 (fH:Int),vP] 24 (0,0))]) rfl
        clear hS1
        exact O.nil ⟨rfl,(vm,vp),hf.to trivial,(fun d hd=>by cases (show some 56=some d from hd); exact hf.get _ _ rfl),(fun j hj=>match j,hj with | 0,hj=>rfl | 1,hj=>rfl | 2,hj=>rfl | 3,hj=>rfl | 4,hj=>rfl | 5,hj=>rfl | 6,hj=>rfl | 7,hj=>rfl | 8,hj=>rfl | 9,hj=>rfl | 10,hj=>rfl | 11,hj=>rfl | 12,hj=>rfl | 13,hj=>absurd hj (by decide) | 14,hj=>absurd hj (by decide) | 15,hj=>rfl | 16,hj=>rfl | 17,hj=>rfl | 18,hj=>rfl | 19,hj=>rfl | _+20,_=>rfl),hS⟩
      · intro g w hD a hf
        obtain ⟨vm,vp⟩:=g
        have hS:St w0 w noX [rdv 1 vP zs.length (ints zs),rdv 1 vL l.length (ints l)] [sl 3 1 vp ((Det.part fW fH (Det.marks (fW*fH) l l.length) (l.getD 0 0).toNat).2.length) (ints (Det.part fW fH (Det.marks (fW*fH) l l.length) (l.getD 0 0).toNat).2),sl 4 1 vm (((Det.part fW fH (Det.marks (fW*fH) l l.length) (l.getD 0 0).toNat).1).length) (bools ((Det.part fW fH (Det.marks (fW*fH) l l.length) (l.getD 0 0).toNat).1)),pt b_f1 (.cells #[.int .i64 (fW:Int),.int .i64 (fH:Int),vP] 24 (0,0))]:=hD; clear hD
        replace hf:Fr a 62 [] [(46,.bool true),(56,vp),(1,vL),(2,.pointer (some ⟨b_f1,0,none⟩))]:=hf
        refine O.gvalB (v:=.int .i64 ((Det.part fW fH (Det.marks (fW*fH) l l.length) (l.getD 0 0).toNat).2.length:Int)) hf rfl rfl rfl rfl rfl rfl (RunV.lenV (e:=3) (by simpa using T_elem_26) rfl (hS.slr (j:=0) rfl)) ?_
        clear hf a; intro a hf
        exact O.nil ⟨rfl,(vm,vp),hf.to trivial,(fun d hd=>by cases (show some 57=some d from hd); exact hf.get _ _ rfl),(fun j hj=>match j,hj with | 0,hj=>rfl | 1,hj=>rfl | 2,hj=>rfl | 3,hj=>rfl | 4,hj=>rfl | 5,hj=>rfl | 6,hj=>rfl | 7,hj=>rfl | 8,hj=>rfl | 9,hj=>rfl | 10,hj=>rfl | 11,hj=>rfl | 12,hj=>rfl | 13,hj=>rfl | 14,hj=>absurd hj (by decide) | 15,hj=>rfl | 16,hj=>rfl | 17,hj=>rfl | 18,hj=>rfl | 19,hj=>rfl | _+20,_=>rfl),hS⟩
    clear hf hS; intro g a w hf hD
    obtain ⟨vm,vp⟩:=g
    have hS:St w0 w noX [rdv 1 vP zs.length (ints zs),rdv 1 vL l.length (ints l)] [sl 3 1 vp ((Det.part fW fH (Det.marks (fW*fH) l l.length) (l.getD 0 0).toNat).2.length) (ints (Det.part fW fH (Det.marks (fW*fH) l l.length) (l.getD 0 0).toNat).2),sl 4 1 vm (((Det.part fW fH (Det.marks (fW*fH) l l.length) (l.getD 0 0).toNat).1).length) (bools ((Det.part fW fH (Det.marks (fW*fH) l l.length) (l.getD 0 0).toNat).1)),pt b_f1 (.cells #[.int .i64 (fW:Int),.int .i64 (fH:Int),vP] 24 (0,0))]:=hD; clear hD
    replace hf:Fr a 62 [] [(43,vL),(44,.int .i64 (l.length:Int)),(45,.bool true),(46,.bool true),(47,.agg #[.int .i64 (fW:Int),.int .i64 (fH:Int),vP]),(48,.pointer (some ⟨b_f1,2,none⟩)),(49,vP),(50,.int .i64 (zs.length:Int)),(51,vL),(52,vm),(53,vL),(54,ix vL 0),(55,.int .i64 (l.getD 0 0)),(56,vp),(57,.int .i64 ((Det.part fW fH (Det.marks (fW*fH) l l.length) (l.getD 0 0).toNat).2.length:Int)),(58,vL),(59,.int .i64 (l.length:Int)),(60,.bool (decide (((Det.part fW fH (Det.marks (fW*fH) l l.length) (l.getD 0 0).toNat).2.length:Int)=((l.length:Int):Int)))),(61,.bool (decide (((Det.part fW fH (Det.marks (fW*fH) l l.length) (l.getD 0 0).toNat).2.length:Int)=((l.length:Int):Int)))),(4,.bool (decide (((Det.part fW fH (Det.marks (fW*fH) l l.length) (l.getD 0 0).toNat).2.length:Int)=((l.length:Int):Int)))),(1,vL),(2,.pointer (some ⟨b_f1,0,none⟩))]:=hf
    refine k_seq ?_
    replace hf:Fr a 62 [] [(4,.bool (decide (((Det.part fW fH (Det.marks (fW*fH) l l.length) (l.getD 0 0).toNat).2.length:Int)=((l.length:Int):Int))))]:=hf.to ⟨rfl,trivial⟩
    refine W.ret ?_
    refine post1 hf rfl (ResOK.tmp rfl) ?_
    refine ⟨(),?_,hS.sub (List.nil_sublist _) |>.noB⟩
    apply congrArg Ending.returned; apply congrArg Value.bool; apply decide_eq_decide.2; constructor
    · intro h; exact ⟨h2,hpos,by omega⟩
    · intro h; have:=h.2.2; omega
set_option maxHeartbeats 400000 in
set_option maxRecDepth 4000 in
theorem conn13_nil (fW fH:Nat) (vP vL:Value) (zs l:List Int) (w0:World) [Decidable (Det.conn fW fH l)] (hW:1≤fW∧fW≤100) (hH:1≤fH∧fH≤100) (hn:zs.length=fW*fH) (hP:rdOK (hp w0) 1 vP zs.length (ints zs)) (hL:rdOK (hp w0) 1 vL l.length (ints l)) (hpos:l.length=0) :
    Ret Tryz.prog 20 #[.agg #[.int .i64 (fW:Int),.int .i64 (fH:Int),vP],vL] w0 (G:=Unit) (fun _=>.bool (decide (Det.conn fW fH l))) (fun _ w=>St w0 w noX [] []):=by
  refine ret_of_W (lv:=[.agg #[.int .i64 (fW:Int),.int .i64 (fH:Int),vP],vL]) Tryz.func20 rfl rfl rfl (fun a hf=>?_)
  replace hf:Fr a 62 [] [(0,.agg #[.int .i64 (fW:Int),.int .i64 (fH:Int),vP]),(1,vL)]:=hf
  have hS:St w0 w0 noX [rdv 1 vP zs.length (ints zs),rdv 1 vL l.length (ints l)] []:=((St.refl w0).lend0 hL).lend0 hP
  have hN:fW*fH≤10000:=Nat.mul_le_mul hW.2 hH.2
  have hlen:=hL.2.1
  unfold maxLen at hlen
  have hz:=fun (h:0<l.length) (h2:Det.okL (fW*fH) l)=>h2 0 h
  refine W.seq ?_
  refine W.regionL (l:=[0,1]) rfl ?_
  refine O.box (cs:=#[.int .i64 (fW:Int),.int .i64 (fH:Int),vP]) hf hS rfl rfl rfl rfl ?_
  clear hf hS a; intro b_f1 w a hbb_f1 hS hf
  refine O.val hf rfl rfl rfl (RunV.assign rfl) ?_
  clear hf a; intro a hf
  refine O.nil ?_
  refine k_seq ?_
  replace hf:Fr a 62 [] [(1,vL),(2,.pointer (some ⟨b_f1,0,none⟩)),(4,.bool false)]:=hf.to ⟨rfl,rfl,rfl,trivial⟩
  refine W.seq ?_
  refine W.seq ?_
  refine W.regionL (l:=[0]) rfl ?_
  refine O.val hf rfl rfl rfl (RunV.assign rfl) ?_
  clear hf a; intro a hf
  refine O.nil ?_
  refine k_seq ?_
  refine W.block ?_
  refine W.loop (G:=(Nat)) (fun g a w=>match g with | k=>Fr a 62 [] [(1,vL),(2,.pointer (some ⟨b_f1,0,none⟩)),(5,.int .i64 (k:Int))]∧St w0 w noX [rdv 1 vP zs.length (ints zs),rdv 1 vL l.length (ints l)] [pt b_f1 (.cells #[.int .i64 (fW:Int),.int .i64 (fH:Int),vP] 24 (0,0))]∧(k≤l.length)∧(∀ j,j<k→(0≤l.getD j 0∧l.getD j 0<((fW*fH:Nat):Int))∧(0<j→l.getD (j-1) 0<l.getD j 0))) (fun g=>match g with | k=>l.length-k) 0 ?_ ?_
  · refine ⟨hf.to ⟨rfl,rfl,(by first | rfl | exact congrArg some (congrArg (Value.int _) (by omega))),trivial⟩,hS,?_,?_⟩
    · omega
    · exact fun j hj=>by omega
  clear hf hS a
  rintro k a w ⟨hf,hS,h1,h2⟩
  refine W.seq ?_
  refine W.seq ?_
  refine W.regionL (l:=[0,1,2,3]) rfl ?_
  refine O.val hf rfl rfl rfl (RunV.move rfl) ?_
  clear hf a; intro a hf
  refine O.val hf rfl rfl rfl (RunV.move rfl) ?_
  clear hf a; intro a hf
  refine O.val hf rfl rfl rfl (RunV.lenV (e:=3) (by simpa using T_elem_26) rfl (hS.rdAt (j:=1) rfl)) ?_
  clear hf a; intro a hf
  refine O.val (v:=.bool (decide ((k:Int)<((l.length:Int):Int)))) hf rfl rfl rfl (RunV.lss rfl rfl) ?_
  clear hf a; intro a hf
  refine O.nil ?_
  refine k_seq ?_
  replace hf:Fr a 62 [] [(1,vL),(2,.pointer (some ⟨b_f1,0,none⟩)),(5,.int .i64 (k:Int)),(9,.bool (decide ((k:Int)<((l.length:Int):Int))))]:=hf.to ⟨rfl,rfl,rfl,rfl,trivial⟩
  refine W.ifdI hf rfl (fun hk=>?_) (fun hk=>?_)
  · refine W.skip ?_
    refine k_seq ?_
    refine W.seq ?_
    refine W.block ?_
    refine W.seq ?_
    refine W.drawQ (fun w=>St w0 w noX [rdv 1 vP zs.length (ints zs),rdv 1 vL l.length (ints l)] [pt b_f1 (.cells #[.int .i64 (fW:Int),.int .i64 (fH:Int),vP] 24 (0,0))]) P_mixed rfl (by kernel_rfl) rfl hS.drew ?_
    clear hS
    refine OQ.val (v:=vL) hf rfl (fun w hS=>RunV.move rfl) ?_; clear hf a; intro a hf
    refine OQ.val (v:=.int .i64 (k:Int)) hf rfl (fun w hS=>RunV.move rfl) ?_; clear hf a; intro a hf
    refine OQ.val (v:=ix vL k) hf rfl (fun w hS=>RunV.ixV (j:=k) (m:=k) T_elem_26 T_size_3 rfl rfl (hS.rdAt (j:=1) rfl) rfl (by omega) (Nat.mul_one _)) ?_; clear hf a; intro a hf
    refine OQ.val (v:=.int .i64 (l.getD k 0)) hf rfl (fun w hS=>RunV.ld1 T_agg_3 rfl (hS.rdAt (j:=1) rfl) (ints_get (by omega))) ?_; clear hf a; intro a hf
    refine OQ.val (v:=.bool (decide ((l.getD k 0)<(0:Int)))) hf rfl (fun w hS=>RunV.lss rfl rfl) ?_; clear hf a; intro a hf
    refine OQ.val (v:=.bool (decide ((l.getD k 0)<(0:Int)))) hf rfl (fun w hS=>RunV.move rfl) ?_; clear hf a; intro a hf
    refine OQ.cutK (K':=fun a=>Fr a 62 [] [(1,vL),(2,.pointer (some ⟨b_f1,0,none⟩)),(5,.int .i64 (k:Int)),(12,vL),(13,.int .i64 (k:Int)),(14,ix vL k),(15,.int .i64 (l.getD k 0)),(16,.bool (decide ((l.getD k 0)<(0:Int)))),(17,.bool (decide ((l.getD k 0)<(0:Int)))),(26,.bool ((decide ((l.getD k 0)<(0:Int)))||(decide ((l.getD k 0)≥((zs.length:Int):Int)))))]) 9 ?_ ?_
    · rcases Bool.eq_false_or_eq_true (decide ((l.getD k 0)<(0:Int))) with hb3 | hb3
      · have hb3p:=of_decide_eq_true hb3
        refine OQ.skipB hf rfl rfl hb3 rfl ?_; clear hf a; intro a hf
        refine OQ.skipB hf rfl rfl hb3 rfl ?_; clear hf a; intro a hf
        refine OQ.skipB hf rfl rfl hb3 rfl ?_; clear hf a; intro a hf
        refine OQ.skipB hf rfl rfl hb3 rfl ?_; clear hf a; intro a hf
        refine OQ.skipB hf rfl rfl hb3 rfl ?_; clear hf a; intro a hf
        refine OQ.skipB hf rfl rfl hb3 rfl ?_; clear hf a; intro a hf
        refine OQ.skipB hf rfl rfl hb3 rfl ?_; clear hf a; intro a hf
        refine OQ.skipB hf rfl rfl hb3 rfl ?_; clear hf a; intro a hf
        refine OQ.val (v:=.bool ((decide ((l.getD k 0)<(0:Int)))||(decide ((l.getD k 0)≥((zs.length:Int):Int))))) hf rfl (fun w hS=>RunV.pick rfl rfl rfl (by rw [hb3]; rfl)) ?_; clear hf a; intro a hf
        exact OQ.nil (hf.to ⟨rfl,rfl,rfl,rfl,rfl,rfl,rfl,rfl,rfl,rfl,trivial⟩)
      · have hb3p:=of_decide_eq_false hb3
        refine OQ.gval (v:=vL) hf rfl rfl hb3 rfl (fun w hS=>RunV.move rfl) ?_; clear hf a; intro a hf
        refine OQ.gval (v:=.int .i64 (k:Int)) hf rfl rfl hb3 rfl (fun w hS=>RunV.move rfl) ?_; clear hf a; intro a hf
        refine OQ.gval (v:=ix vL k) hf rfl rfl hb3 rfl (fun w hS=>RunV.ixV (j:=k) (m:=k) T_elem_26 T_size_3 rfl rfl (hS.rdAt (j:=1) rfl) rfl (by omega) (Nat.mul_one _)) ?_; clear hf a; intro a hf
        refine OQ.gval (v:=.int .i64 (l.getD k 0)) hf rfl rfl hb3 rfl (fun w hS=>RunV.ld1 T_agg_3 rfl (hS.rdAt (j:=1) rfl) (ints_get (by omega))) ?_; clear hf a; intro a hf
        refine OQ.gval (v:=.pointer (some ⟨b_f1,2,none⟩)) hf rfl rfl hb3 rfl (fun w hS=>RunV.field T_field_24_2 rfl rfl) ?_; clear hf a; intro a hf
        refine OQ.gval (v:=vP) hf rfl rfl hb3 rfl (fun w hS=>RunV.load1 T_agg_22 rfl (hS.ptAt (i:=0) rfl) rfl) ?_; clear hf a; intro a hf
        refine OQ.gval (v:=.int .i64 (zs.length:Int)) hf rfl rfl hb3 rfl (fun w hS=>RunV.lenV (e:=2) (by simpa using T_elem_22) rfl (hS.rdAt (j:=0) rfl)) ?_; clear hf a; intro a hf
        refine OQ.gval (v:=.bool (decide ((l.getD k 0)≥((zs.length:Int):Int)))) hf rfl rfl hb3 rfl (fun w hS=>RunV.geq rfl rfl) ?_; clear hf a; intro a hf
        refine OQ.val (v:=.bool ((decide ((l.getD k 0)<(0:Int)))||(decide ((l.getD k 0)≥((zs.length:Int):Int))))) hf rfl (fun w hS=>RunV.pick rfl rfl rfl (by rw [hb3]; rfl)) ?_; clear hf a; intro a hf
        exact OQ.nil (hf.to ⟨rfl,rfl,rfl,rfl,rfl,rfl,rfl,rfl,rfl,rfl,trivial⟩)
    clear hf a; intro a hf
    refine OQ.val (v:=.bool ((decide ((l.getD k 0)<(0:Int)))||(decide ((l.getD k 0)≥((zs.length:Int):Int))))) hf rfl (fun w hS=>RunV.move rfl) ?_; clear hf a; intro a hf
    refine OQ.cutK (K':=fun a=>Fr a 62 [] [(1,vL),(2,.pointer (some ⟨b_f1,0,none⟩)),(5,.int .i64 (k:Int)),(12,vL),(13,.int .i64 (k:Int)),(14,ix vL k),(15,.int .i64 (l.getD k 0)),(16,.bool (decide ((l.getD k 0)<(0:Int)))),(17,.bool (decide ((l.getD k 0)<(0:Int)))),(26,.bool ((decide ((l.getD k 0)<(0:Int)))||(decide ((l.getD k 0)≥((zs.length:Int):Int))))),(27,.bool ((decide ((l.getD k 0)<(0:Int)))||(decide ((l.getD k 0)≥((zs.length:Int):Int))))),(42,.bool (((decide ((l.getD k 0)<(0:Int)))||(decide ((l.getD k 0)≥((zs.length:Int):Int))))||((decide ((k:Int)>(0:Int)))&&(decide ((l.getD k 0)≤(l.getD (k-1) 0:Int))))))]) 15 ?_ ?_
    · rcases Bool.eq_false_or_eq_true ((decide ((l.getD k 0)<(0:Int)))||(decide ((l.getD k 0)≥((zs.length:Int):Int)))) with hb4 | hb4
      · have hb4p:=hb4
        try simp only [Bool.and_eq_true,Bool.or_eq_true,Bool.and_eq_false_iff,Bool.or_eq_false_iff,decide_eq_true_eq,decide_eq_false_iff_not,Bool.not_eq_true',Bool.not_eq_false',Bool.not_eq_true,Bool.not_eq_false,ne_eq] at hb4p
        refine OQ.skipB hf rfl rfl hb4 rfl ?_; clear hf a; intro a hf
        refine OQ.skipB hf rfl rfl hb4 rfl ?_; clear hf a; intro a hf
        refine OQ.skipB hf rfl rfl hb4 rfl ?_; clear hf a; intro a hf
        refine OQ.skipU hf rfl rfl rfl ?_; clear hf a; intro a hf
        refine OQ.skipU hf rfl rfl rfl ?_; clear hf a; intro a hf
        refine OQ.skipU hf rfl rfl rfl ?_; clear hf a; intro a hf
        refine OQ.skipU hf rfl rfl rfl ?_; clear hf a; intro a hf
        refine OQ.skipU hf rfl rfl rfl ?_; clear hf a; intro a hf
        refine OQ.skipU hf rfl rfl rfl ?_; clear hf a; intro a hf
        refine OQ.skipU hf rfl rfl rfl ?_; clear hf a; intro a hf
        refine OQ.skipU hf rfl rfl rfl ?_; clear hf a; intro a hf
        refine OQ.skipU hf rfl rfl rfl ?_; clear hf a; intro a hf
        refine OQ.skipU hf rfl rfl rfl ?_; clear hf a; intro a hf
        refine OQ.skipB hf rfl rfl hb4 rfl ?_; clear hf a; intro a hf
        refine OQ.val (v:=.bool (((decide ((l.getD k 0)<(0:Int)))||(decide ((l.getD k 0)≥((zs.length:Int):Int))))||((decide ((k:Int)>(0:Int)))&&(decide ((l.getD k 0)≤(l.getD (k-1) 0:Int)))))) hf rfl (fun w hS=>RunV.pick rfl rfl rfl (by rw [hb4]; rfl)) ?_; clear hf a; intro a hf
        exact OQ.nil (hf.to ⟨rfl,rfl,rfl,rfl,rfl,rfl,rfl,rfl,rfl,rfl,rfl,rfl,trivial⟩)
      · have hb4p:=hb4
        try simp only [Bool.and_eq_true,Bool.or_eq_true,Bool.and_eq_false_iff,Bool.or_eq_false_iff,decide_eq_true_eq,decide_eq_false_iff_not,Bool.not_eq_true',Bool.not_eq_false',Bool.not_eq_true,Bool.not_eq_false,ne_eq] at hb4p
        refine OQ.gval (v:=.int .i64 (k:Int)) hf rfl rfl hb4 rfl (fun w hS=>RunV.move rfl) ?_; clear hf a; intro a hf
        refine OQ.gval (v:=.bool (decide ((k:Int)>(0:Int)))) hf rfl rfl hb4 rfl (fun w hS=>RunV.gtr rfl rfl) ?_; clear hf a; intro a hf
        refine OQ.gval (v:=.bool (decide ((k:Int)>(0:Int)))) hf rfl rfl hb4 rfl (fun w hS=>RunV.move rfl) ?_; clear hf a; intro a hf
        refine OQ.cutK (K':=fun a=>Fr a 62 [] [(1,vL),(2,.pointer (some ⟨b_f1,0,none⟩)),(5,.int .i64 (k:Int)),(12,vL),(13,.int .i64 (k:Int)),(14,ix vL k),(15,.int .i64 (l.getD k 0)),(16,.bool (decide ((l.getD k 0)<(0:Int)))),(17,.bool (decide ((l.getD k 0)<(0:Int)))),(26,.bool ((decide ((l.getD k 0)<(0:Int)))||(decide ((l.getD k 0)≥((zs.length:Int):Int))))),(27,.bool ((decide ((l.getD k 0)<(0:Int)))||(decide ((l.getD k 0)≥((zs.length:Int):Int))))),(28,.int .i64 (k:Int)),(29,.bool (decide ((k:Int)>(0:Int)))),(30,.bool (decide ((k:Int)>(0:Int)))),(41,.bool ((decide ((k:Int)>(0:Int)))&&(decide ((l.getD k 0)≤(l.getD (k-1) 0:Int)))))]) 11 ?_ ?_
        · rcases Bool.eq_false_or_eq_true (decide ((k:Int)>(0:Int))) with hb5 | hb5
          · have hb5p:=of_decide_eq_true hb5
            refine OQ.gval (v:=vL) hf rfl rfl hb5 rfl (fun w hS=>RunV.move rfl) ?_; clear hf a; intro a hf
            refine OQ.gval (v:=.int .i64 (k:Int)) hf rfl rfl hb5 rfl (fun w hS=>RunV.move rfl) ?_; clear hf a; intro a hf
            refine OQ.gval (v:=ix vL k) hf rfl rfl hb5 rfl (fun w hS=>RunV.ixV (j:=k) (m:=k) T_elem_26 T_size_3 rfl rfl (hS.rdAt (j:=1) rfl) rfl (by omega) (Nat.mul_one _)) ?_; clear hf a; intro a hf
            refine OQ.gval (v:=.int .i64 (l.getD k 0)) hf rfl rfl hb5 rfl (fun w hS=>RunV.ld1 T_agg_3 rfl (hS.rdAt (j:=1) rfl) (ints_get (by omega))) ?_; clear hf a; intro a hf
            refine OQ.gval (v:=vL) hf rfl rfl hb5 rfl (fun w hS=>RunV.move rfl) ?_; clear hf a; intro a hf
            refine OQ.gval (v:=.int .i64 (k:Int)) hf rfl rfl hb5 rfl (fun w hS=>RunV.move rfl) ?_; clear hf a; intro a hf
            refine OQ.gval (v:=.int .i64 ((k:Int)-1)) hf rfl rfl hb5 rfl (fun w hS=>RunV.subI rfl rfl (by omega)) ?_; clear hf a; intro a hf
            refine OQ.gval (v:=ix vL (k-1)) hf rfl rfl hb5 rfl (fun w hS=>RunV.ixV (j:=(k-1)) (m:=(k-1)) T_elem_26 T_size_3 rfl rfl (hS.rdAt (j:=1) rfl) (by congr 1; omega) (by omega) (Nat.mul_one _)) ?_; clear hf a; intro a hf
            refine OQ.gval (v:=.int .i64 (l.getD (k-1) 0)) hf rfl rfl hb5 rfl (fun w hS=>RunV.ld1 T_agg_3 rfl (hS.rdAt (j:=1) rfl) (ints_get (by omega))) ?_; clear hf a; intro a hf
            refine OQ.gval (v:=.bool (decide ((l.getD k 0)≤(l.getD (k-1) 0:Int)))) hf rfl rfl hb5 rfl (fun w hS=>RunV.leq rfl rfl) ?_; clear hf a; intro a hf
            refine OQ.gval (v:=.bool ((decide ((k:Int)>(0:Int)))&&(decide ((l.getD k 0)≤(l.getD (k-1) 0:Int))))) hf rfl rfl hb4 rfl (fun w hS=>RunV.pick rfl rfl rfl (by rw [hb5]; rfl)) ?_; clear hf a; intro a hf
            exact OQ.nil (hf.to ⟨rfl,rfl,rfl,rfl,rfl,rfl,rfl,rfl,rfl,rfl,rfl,rfl,rfl,rfl,rfl,trivial⟩)
          · have hb5p:=of_decide_eq_false hb5
            refine OQ.skipB hf rfl rfl hb5 rfl ?_; clear hf a; intro a hf
            refine OQ.skipB hf rfl rfl hb5 rfl ?_; clear hf a; intro a hf
            refine OQ.skipB hf rfl rfl hb5 rfl ?_; clear hf a; intro a hf
            refine OQ.skipB hf rfl rfl hb5 rfl ?_; clear hf a; intro a hf
            refine OQ.skipB hf rfl rfl hb5 rfl ?_; clear hf a; intro a hf
            refine OQ.skipB hf rfl rfl hb5 rfl ?_; clear hf a; intro a hf
            refine OQ.skipB hf rfl rfl hb5 rfl ?_; clear hf a; intro a hf
            refine OQ.skipB hf rfl rfl hb5 rfl ?_; clear hf a; intro a hf
            refine OQ.skipB hf rfl rfl hb5 rfl ?_; clear hf a; intro a hf
            refine OQ.skipB hf rfl rfl hb5 rfl ?_; clear hf a; intro a hf
            refine OQ.gval (v:=.bool ((decide ((k:Int)>(0:Int)))&&(decide ((l.getD k 0)≤(l.getD (k-1) 0:Int))))) hf rfl rfl hb4 rfl (fun w hS=>RunV.pick rfl rfl rfl (by rw [hb5]; rfl)) ?_; clear hf a; intro a hf
            exact OQ.nil (hf.to ⟨rfl,rfl,rfl,rfl,rfl,rfl,rfl,rfl,rfl,rfl,rfl,rfl,rfl,rfl,rfl,trivial⟩)
        clear hf a; intro a hf
        refine OQ.val (v:=.bool (((decide ((l.getD k 0)<(0:Int)))||(decide ((l.getD k 0)≥((zs.length:Int):Int))))||((decide ((k:Int)>(0:Int)))&&(decide ((l.getD k 0)≤(l.getD (k-1) 0:Int)))))) hf rfl (fun w hS=>RunV.pick rfl rfl rfl (by rw [hb4]; rfl)) ?_; clear hf a; intro a hf
        exact OQ.nil (hf.to ⟨rfl,rfl,rfl,rfl,rfl,rfl,rfl,rfl,rfl,rfl,rfl,rfl,trivial⟩)
    clear hf a; intro a hf
    refine OQ.nil ?_; intro w hS
    refine k_seq ?_
    replace hf:Fr a 62 [] [(1,vL),(2,.pointer (some ⟨b_f1,0,none⟩)),(5,.int .i64 (k:Int)),(42,.bool (((decide ((l.getD k 0)<(0:Int)))||(decide ((l.getD k 0)≥((zs.length:Int):Int))))||((decide ((k:Int)>(0:Int)))&&(decide ((l.getD k 0)≤(l.getD (k-1) 0:Int))))))]:=hf.to ⟨rfl,rfl,rfl,rfl,trivial⟩
    refine W.if_ hf rfl (fun hbad=>?_) (fun hbad=>?_)
    · have hbadb:=hbad
      try simp only [Bool.and_eq_true,Bool.or_eq_true,Bool.and_eq_false_iff,Bool.or_eq_false_iff,decide_eq_true_eq,decide_eq_false_iff_not,Bool.not_eq_true',Bool.not_eq_false',Bool.not_eq_true,Bool.not_eq_false,ne_eq] at hbad
      refine W.seq ?_
      refine W.regionL (l:=[0]) rfl ?_
      refine O.val hf rfl rfl rfl (RunV.assign rfl) ?_
      clear hf a; intro a hf
      refine O.nil ?_
      refine k_seq ?_
      refine W.ret ?_
      refine k_blk_ret ?_
      refine k_then_ret ?_
      refine k_then_ret ?_
      refine k_blk_ret ?_
      refine k_then_ret ?_
      refine post1 hf rfl (ResOK.tmp rfl) ?_
      refine ⟨(),by rw [show decide (Det.conn fW fH l)=false from decide_eq_false (fun h=>by first | exact absurd h.2.1 (by omega) | have:=h.1 k (by omega); simp only [Bool.or_eq_true,Bool.and_eq_true,decide_eq_true_eq] at hbadb; rw [hn] at hbadb; omega)],hS.sub (List.nil_sublist _) |>.noB⟩
    · have hbadb:=hbad
      try simp only [Bool.and_eq_true,Bool.or_eq_true,Bool.and_eq_false_iff,Bool.or_eq_false_iff,decide_eq_true_eq,decide_eq_false_iff_not,Bool.not_eq_true',Bool.not_eq_false',Bool.not_eq_true,Bool.not_eq_false,ne_eq] at hbad
      refine W.skip ?_
      refine k_blk_normal ?_
      refine k_seq ?_
      refine W.regionL (l:=[0,1,2]) rfl ?_
      refine O.val hf rfl rfl rfl (RunV.move rfl) ?_
      clear hf a; intro a hf
      refine O.val hf rfl rfl rfl (RunV.addI rfl rfl (by omega)) ?_
      clear hf a; intro a hf
      refine O.val hf rfl rfl rfl (RunV.assign rfl) ?_
      clear hf a; intro a hf
      refine O.nil ?_
      refine k_then ⟨(k+1),⟨hf.to ⟨rfl,rfl,(by first | rfl | exact congrArg some (congrArg (Value.int _) (by omega))),trivial⟩,?_,?_,?_⟩,?_⟩
      · exact hS.eqM rfl
      · omega
      · simp only [Bool.or_eq_false_iff,Bool.and_eq_false_iff,decide_eq_false_iff_not] at hbadb
        rw [hn] at hbadb
        exact Det.all_snoc h2 (by omega)
      · dsimp only; omega
  · refine W.exit ?_
    refine k_then_exit ?_
    refine k_then_exit ?_
    refine k_blk ?_
    refine k_seq ?_
    replace hf:Fr a 62 [] [(1,vL),(2,.pointer (some ⟨b_f1,0,none⟩))]:=hf.to ⟨rfl,rfl,trivial⟩
    refine W.seq ?_
    obtain rfl:k=l.length:=by omega
    refine W.drawQ (fun w=>St w0 w noX [rdv 1 vP zs.length (ints zs),rdv 1 vL l.length (ints l)] [pt b_f1 (.cells #[.int .i64 (fW:Int),.int .i64 (fH:Int),vP] 24 (0,0))]) P_mixed rfl (by kernel_rfl) rfl hS.drew ?_
    clear hS
    refine OQ.val (v:=vL) hf rfl (fun w hS=>RunV.move rfl) ?_; clear hf a; intro a hf
    refine OQ.val (v:=.int .i64 (l.length:Int)) hf rfl (fun w hS=>RunV.lenV (e:=3) (by simpa using T_elem_26) rfl (hS.rdAt (j:=1) rfl)) ?_; clear hf a; intro a hf
    refine OQ.val (v:=.bool false) hf rfl (fun w hS=>RunV.toB (RunV.gtr rfl rfl) (decide_eq_false (by omega))) ?_; clear hf a; intro a hf
    refine OQ.val (v:=.bool false) hf rfl (fun w hS=>RunV.move rfl) ?_; clear hf a; intro a hf
    refine OQ.skipB hf rfl rfl rfl rfl ?_; clear hf a; intro a hf
    refine OQ.skipB hf rfl rfl rfl rfl ?_; clear hf a; intro a hf
    refine OQ.skipB hf rfl rfl rfl rfl ?_; clear hf a; intro a hf
    refine OQ.skipB hf rfl rfl rfl rfl ?_; clear hf a; intro a hf
    refine OQ.skipB hf rfl rfl rfl rfl ?_; clear hf a; intro a hf
    refine OQ.skipB hf rfl rfl rfl rfl ?_; clear hf a; intro a hf
    refine OQ.skipB hf rfl rfl rfl rfl ?_; clear hf a; intro a hf
    refine OQ.skipB hf rfl rfl rfl rfl ?_; clear hf a; intro a hf
    refine OQ.skipB hf rfl rfl rfl rfl ?_; clear hf a; intro a hf
    refine OQ.skipB hf rfl rfl rfl rfl ?_; clear hf a; intro a hf
    refine OQ.skipB hf rfl rfl rfl rfl ?_; clear hf a; intro a hf
    refine OQ.skipB hf rfl rfl rfl rfl ?_; clear hf a; intro a hf
    refine OQ.skipB hf rfl rfl rfl rfl ?_; clear hf a; intro a hf
    refine OQ.skipB hf rfl rfl rfl rfl ?_; clear hf a; intro a hf
    refine OQ.val (v:=.bool false) hf rfl (fun w hS=>RunV.pick rfl rfl rfl rfl) ?_; clear hf a; intro a hf
    refine OQ.val (v:=.bool false) hf rfl (fun w hS=>RunV.assign rfl) ?_; clear hf a; intro a hf
    refine OQ.nil ?_; intro w hS
    refine k_seq ?_
    replace hf:Fr a 62 [] [(4,.bool false)]:=hf.to ⟨rfl,trivial⟩
    refine W.ret ?_
    refine post1 hf rfl (ResOK.tmp rfl) ?_
    refine ⟨(),by rw [show decide (Det.conn fW fH l)=false from decide_eq_false (fun h=>by first | exact absurd h.2.1 (by omega) | have:=h.1 k (by omega); simp only [Bool.or_eq_true,Bool.and_eq_true,decide_eq_true_eq] at hbadb; rw [hn] at hbadb; omega)],hS.sub (List.nil_sublist _) |>.noB⟩
theorem conn13_spec (fW fH:Nat) (vP vL:Value) (zs l:List Int) (w0:World) [Decidable (Det.conn fW fH l)] (hW:1≤fW∧fW≤100) (hH:1≤fH∧fH≤100) (hn:zs.length=fW*fH) (hP:rdOK (hp w0) 1 vP zs.length (ints zs)) (hL:rdOK (hp w0) 1 vL l.length (ints l)) :
    Ret Tryz.prog 20 #[.agg #[.int .i64 (fW:Int),.int .i64 (fH:Int),vP],vL] w0 (G:=Unit) (fun _=>.bool (decide (Det.conn fW fH l))) (fun _ w=>St w0 w noX [] []):=by
  rcases Nat.eq_zero_or_pos l.length with h | h
  · exact conn13_nil fW fH vP vL zs l w0 hW hH hn hP hL h
  · exact conn13_pos fW fH vP vL zs l w0 hW hH hn hP hL h
theorem conn13_true (fW fH:Nat) (vP vL:Value) (zs l:List Int) (w0:World) (hc:Det.conn fW fH l) (hW:1≤fW∧fW≤100) (hH:1≤fH∧fH≤100) (hn:zs.length=fW*fH) (hP:rdOK (hp w0) 1 vP zs.length (ints zs)) (hL:rdOK (hp w0) 1 vL l.length (ints l)) :
    Ret Tryz.prog 20 #[.agg #[.int .i64 (fW:Int),.int .i64 (fH:Int),vP],vL] w0 (G:=Unit) (fun _=>.bool true) (fun _ w=>St w0 w noX [] []):=by
  haveI:Decidable (Det.conn fW fH l):=.isTrue hc
  have h:=conn13_spec fW fH vP vL zs l w0 hW hH hn hP hL
  rw [show decide (Det.conn fW fH l)=true from decide_eq_true hc] at h
  exact h
set_option maxHeartbeats 400000 in
set_option maxRecDepth 4000 in
theorem owners_spec (fW fH:Nat) (least:Int) (vP va:Value) (zs:List Int) (vs:List Value) (xss:List (List Int)) (w0:World) (hW:1≤fW∧fW≤100) (hH:1≤fH∧fH≤100) (hn:zs.length=fW*fH) (hP:rdOK (hp w0) 1 vP zs.length (ints zs)) (ha:rdOK (hp w0) 1 va vs.length vs) (hia:innOK (hp w0) vs xss) (hgood:∀ x ∈ xss,Det.conn fW fH x∧least≤(x.length:Int)) (hrng:∀ x ∈ xss,∀ t ∈ x,0≤t∧t<((fW*fH:Nat):Int)) (hap:xss.Pairwise (fun a b=>∀ t ∈ a,t ∉ b)) :
    Ret Tryz.prog 18 #[.agg #[.int .i64 (fW:Int),.int .i64 (fH:Int),vP],va,.int .i64 least] w0 (G:=Value) (fun v=>.tuple #[v,.bool true]) (fun v w=>St w0 w noX [] [sl 3 1 v (Det.own (fW*fH) xss xss.length).length (ints (Det.own (fW*fH) xss xss.length))]):=by
  refine ret_of_W (lv:=[.agg #[.int .i64 (fW:Int),.int .i64 (fH:Int),vP],va,.int .i64 least]) Tryz.func18 rfl rfl rfl (fun a hf=>?_)
  replace hf:Fr a 78 [] [(0,.agg #[.int .i64 (fW:Int),.int .i64 (fH:Int),vP]),(1,va),(2,.int .i64 least)]:=hf
  have hS:St w0 w0 noX [rdv 1 vP zs.length (ints zs),rdv 1 va vs.length vs,inn vs xss] []:=(((St.refl w0).lendI0 hia).lend0 ha).lend0 hP
  have hN:fW*fH≤10000:=Nat.mul_le_mul hW.2 hH.2
  have hlen:=ha.2.1
  unfold maxLen at hlen
  have hxl:=hia.1
  refine W.seq ?_
  refine W.regionL (l:=[0,1,2]) rfl ?_
  refine O.box (cs:=#[.int .i64 (fW:Int),.int .i64 (fH:Int),vP]) hf hS rfl rfl rfl rfl ?_
  clear hf hS a; intro b_f1 w a hbb_f1 hS hf
  refine O.val hf rfl rfl rfl (RunV.assign rfl) ?_
  clear hf a; intro a hf
  refine O.val hf rfl rfl rfl (RunV.assign rfl) ?_
  clear hf a; intro a hf
  refine O.nil ?_
  refine k_seq ?_
  replace hf:Fr a 78 [] [(1,va),(2,.int .i64 least),(3,.pointer (some ⟨b_f1,0,none⟩)),(6,.slice none 0 0),(7,.bool false)]:=hf.to ⟨rfl,rfl,rfl,rfl,rfl,trivial⟩
  refine W.seq ?_
  refine W.regionL (l:=[0,1,2,3,4]) rfl ?_
  refine O.val hf rfl rfl rfl (RunV.field T_field_24_2 rfl rfl) ?_
  clear hf a; intro a hf
  refine O.val hf rfl rfl rfl (RunV.load1 T_agg_22 rfl (hS.ptAt (i:=0) rfl) rfl) ?_
  clear hf a; intro a hf
  refine O.val hf rfl rfl rfl (RunV.lenV (e:=2) (by simpa using T_elem_22) rfl (hS.rdAt (j:=0) rfl)) ?_
  clear hf a; intro a hf
  refine O.make (N:=zs.length) hf hS rfl rfl T_elem_26 T_size_3 T_bytes_3 T_zero_3 rfl rfl (by unfold maxLen; omega) (by omega) ?_
  clear hf hS a; intro b_m2 w a hbb_m2 hS hf
  have hS:=hS.eqM (N:=[sl 3 1 (.slice (some ⟨b_m2,0,none⟩) zs.length zs.length) zs.length (ints (List.replicate zs.length (0:Int))),pt b_f1 (.cells #[.int .i64 (fW:Int),.int .i64 (fH:Int),vP] 24 (0,0))]) (by rw [made_ints])
  refine O.val hf rfl rfl rfl (RunV.assign rfl) ?_
  clear hf a; intro a hf
  refine O.nil ?_
  obtain ⟨vm,hvm⟩:∃ vm,(.slice (some ⟨b_m2,0,none⟩) zs.length zs.length:Value)=vm:=⟨_,rfl⟩
  rw [hvm] at hf hS; clear hvm
  replace hS:=hS.eqM (N:=[sl 3 1 vm ((List.replicate zs.length (0:Int)).length) (ints (List.replicate zs.length (0:Int))),pt b_f1 (.cells #[.int .i64 (fW:Int),.int .i64 (fH:Int),vP] 24 (0,0))]) (by simp)
  refine k_seq ?_
  replace hf:Fr a 78 [] [(1,va),(2,.int .i64 least),(3,.pointer (some ⟨b_f1,0,none⟩)),(6,.slice none 0 0),(7,.bool false),(8,vm)]:=hf.to ⟨rfl,rfl,rfl,rfl,rfl,rfl,trivial⟩
  refine W.seq ?_
  refine W.seq ?_
  refine W.regionL (l:=[0]) rfl ?_
  refine O.val hf rfl rfl rfl (RunV.assign rfl) ?_
  clear hf a; intro a hf
  refine O.nil ?_
  refine k_seq ?_
  refine W.block ?_
  refine W.loop (G:=(Nat) × (List Int)) (fun g a w=>match g with | (k,of)=>Fr a 78 [] [(1,va),(2,.int .i64 least),(3,.pointer (some ⟨b_f1,0,none⟩)),(6,.slice none 0 0),(7,.bool false),(8,vm),(9,.int .i64 (k:Int))]∧St w0 w noX [rdv 1 vP zs.length (ints zs),rdv 1 va vs.length vs,inn vs xss] [sl 3 1 vm of.length (ints of),pt b_f1 (.cells #[.int .i64 (fW:Int),.int .i64 (fH:Int),vP] 24 (0,0))]∧(k≤zs.length)∧(of=(List.replicate k (-1)++List.replicate (zs.length-k) 0))∧(of.length=zs.length)) (fun g=>match g with | (k,of)=>zs.length-k) (0,(List.replicate zs.length (0:Int))) ?_ ?_
  · refine ⟨hf.to ⟨rfl,rfl,rfl,rfl,rfl,rfl,(by first | rfl | exact congrArg some (congrArg (Value.int _) (by omega))),trivial⟩,hS,?_,?_,?_⟩
    · omega
    · simp
    · simp
  clear hf hS a
  rintro ⟨k,of⟩ a w ⟨hf,hS,h1,h2,h3⟩
  refine W.seq ?_
  refine W.seq ?_
  refine W.regionL (l:=[0,1,2,3]) rfl ?_
  refine O.val hf rfl rfl rfl (RunV.move rfl) ?_
  clear hf a; intro a hf
  refine O.val hf rfl rfl rfl (RunV.move rfl) ?_
  clear hf a; intro a hf
  refine O.val hf rfl rfl rfl (RunV.lenV (e:=3) (by simpa using T_elem_26) rfl (hS.slr (j:=0) rfl)) ?_
  clear hf a; intro a hf
  refine O.val (v:=.bool (decide ((k:Int)<((of.length:Int):Int)))) hf rfl rfl rfl (RunV.lss rfl rfl) ?_
  clear hf a; intro a hf
  refine O.nil ?_
  refine k_seq ?_
  replace hf:Fr a 78 [] [(1,va),(2,.int .i64 least),(3,.pointer (some ⟨b_f1,0,none⟩)),(6,.slice none 0 0),(7,.bool false),(8,vm),(9,.int .i64 (k:Int)),(19,.bool (decide ((k:Int)<((of.length:Int):Int))))]:=hf.to ⟨rfl,rfl,rfl,rfl,rfl,rfl,rfl,rfl,trivial⟩
  refine W.ifdI hf rfl (fun hk1=>?_) (fun hk1=>?_)
  · refine W.skip ?_
    refine k_seq ?_
    refine W.seq ?_
    refine W.block ?_
    refine W.regionL (l:=[0,1,2,3]) rfl ?_
    refine O.val hf rfl rfl rfl (RunV.move rfl) ?_
    clear hf a; intro a hf
    refine O.val hf rfl rfl rfl (RunV.move rfl) ?_
    clear hf a; intro a hf
    refine O.val hf rfl rfl rfl (RunV.ixV (j:=k) (m:=k) T_elem_26 T_size_3 rfl rfl (hS.slr (j:=0) rfl) rfl (by omega) (Nat.mul_one _)) ?_
    clear hf a; intro a hf
    refine O.storeSl (j:=0) (m:=k) (xs':=ints (of.set k (-1))) (M':=[sl 3 1 vm of.length (ints (of.set k (-1))),pt b_f1 (.cells #[.int .i64 (fW:Int),.int .i64 (fH:Int),vP] 24 (0,0))]) hf hS rfl rfl rfl T_size_3 rfl rfl rfl (by simp only [ints_len]; omega) ints_set rfl rfl ?_
    clear hS; intro w hS
    refine O.nil ?_
    refine k_blk_normal ?_
    refine k_seq ?_
    replace hf:Fr a 78 [] [(1,va),(2,.int .i64 least),(3,.pointer (some ⟨b_f1,0,none⟩)),(6,.slice none 0 0),(7,.bool false),(8,vm),(9,.int .i64 (k:Int))]:=hf.to ⟨rfl,rfl,rfl,rfl,rfl,rfl,rfl,trivial⟩
    refine W.regionL (l:=[0,1,2]) rfl ?_
    refine O.val hf rfl rfl rfl (RunV.move rfl) ?_
    clear hf a; intro a hf
    refine O.val hf rfl rfl rfl (RunV.addI rfl rfl (by omega)) ?_
    clear hf a; intro a hf
    refine O.val hf rfl rfl rfl (RunV.assign rfl) ?_
    clear hf a; intro a hf
    refine O.nil ?_
    refine k_then ⟨(k+1,(of.set k (-1))),⟨hf.to ⟨rfl,rfl,rfl,rfl,rfl,rfl,(by first | rfl | exact congrArg some (congrArg (Value.int _) (by omega))),trivial⟩,?_,?_,?_,?_⟩,?_⟩
    · exact hS.eqM (by rw [List.length_set])
    · omega
    · rw [h2]; exact Det.fill_step (by omega)
    · simp only [List.length_set]; exact h3
    · dsimp only; omega
  · refine W.exit ?_
    refine k_then_exit ?_
    refine k_then_exit ?_
    refine k_blk ?_
    refine k_seq ?_
    replace hf:Fr a 78 [] [(1,va),(2,.int .i64 least),(3,.pointer (some ⟨b_f1,0,none⟩)),(6,.slice none 0 0),(7,.bool false),(8,vm)]:=hf.to ⟨rfl,rfl,rfl,rfl,rfl,rfl,trivial⟩
    refine W.seq ?_
    refine W.seq ?_
    refine W.regionL (l:=[0]) rfl ?_
    refine O.val hf rfl rfl rfl (RunV.assign rfl) ?_
    clear hf a; intro a hf
    refine O.nil ?_
    refine k_seq ?_
    refine W.block ?_
    refine W.loop (G:=(Nat) × (List Int)) (fun g a w=>match g with | (s,of1)=>Fr a 78 [] [(1,va),(2,.int .i64 least),(3,.pointer (some ⟨b_f1,0,none⟩)),(8,vm),(10,.int .i64 (s:Int))]∧St w0 w noX [rdv 1 vP zs.length (ints zs),rdv 1 va vs.length vs,inn vs xss] [sl 3 1 vm of1.length (ints of1),pt b_f1 (.cells #[.int .i64 (fW:Int),.int .i64 (fH:Int),vP] 24 (0,0))]∧(s≤vs.length)∧(of1=(Det.own (fW*fH) xss s))∧(of1.length=fW*fH)) (fun g=>match g with | (s,of1)=>vs.length-s) (0,of) ?_ ?_
    · refine ⟨hf.to ⟨rfl,rfl,rfl,rfl,(by first | rfl | exact congrArg some (congrArg (Value.int _) (by omega))),trivial⟩,hS,?_,?_,?_⟩
      · omega
      · rw [h2,show k=fW*fH from by omega,show zs.length-fW*fH=0 from by omega]; simp [Det.own]
      · omega
    clear hf hS a
    rintro ⟨s,of1⟩ a w ⟨hf,hS,g1,hof1,g3⟩
    refine W.seq ?_
    refine W.seq ?_
    refine W.regionL (l:=[0,1,2,3]) rfl ?_
    refine O.val hf rfl rfl rfl (RunV.move rfl) ?_
    clear hf a; intro a hf
    refine O.val hf rfl rfl rfl (RunV.move rfl) ?_
    clear hf a; intro a hf
    refine O.val hf rfl rfl rfl (RunV.lenV (e:=26) (by simpa using T_elem_28) rfl (hS.rdAt (j:=1) rfl)) ?_
    clear hf a; intro a hf
    refine O.val (v:=.bool (decide ((s:Int)<((vs.length:Int):Int)))) hf rfl rfl rfl (RunV.lss rfl rfl) ?_
    clear hf a; intro a hf
    refine O.nil ?_
    refine k_seq ?_
    replace hf:Fr a 78 [] [(1,va),(2,.int .i64 least),(3,.pointer (some ⟨b_f1,0,none⟩)),(8,vm),(10,.int .i64 (s:Int)),(28,.bool (decide ((s:Int)<((vs.length:Int):Int))))]:=hf.to ⟨rfl,rfl,rfl,rfl,rfl,rfl,trivial⟩
    refine W.ifdI hf rfl (fun hs1=>?_) (fun hs1=>?_)
    · refine W.skip ?_
      refine k_seq ?_
      refine W.seq ?_
      refine W.block ?_
      refine W.seq ?_
      refine W.seq ?_
      refine W.drawQ (fun w=>St w0 w noX [rdv 1 vP zs.length (ints zs),rdv 1 va vs.length vs,inn vs xss] [sl 3 1 vm of1.length (ints of1),pt b_f1 (.cells #[.int .i64 (fW:Int),.int .i64 (fH:Int),vP] 24 (0,0))]) P_mixed rfl (by kernel_rfl) rfl hS.drew ?_
      clear hS
      refine OQ.val (v:=.agg #[.int .i64 (fW:Int),.int .i64 (fH:Int),vP]) hf rfl (fun w hS=>RunV.loadN (cs':=#[.int .i64 (fW:Int),.int .i64 (fH:Int),vP]) T_agg_24 T_size_24 rfl (hS.ptAt (i:=1) rfl) (Nat.le_of_ble_eq_true rfl) rfl) ?_; clear hf a; intro a hf
      refine OQ.val (v:=va) hf rfl (fun w hS=>RunV.move rfl) ?_; clear hf a; intro a hf
      refine OQ.val (v:=.int .i64 (s:Int)) hf rfl (fun w hS=>RunV.move rfl) ?_; clear hf a; intro a hf
      refine OQ.val (v:=ix va s) hf rfl (fun w hS=>RunV.ixV (j:=s) (m:=s) T_elem_28 T_size_26 rfl rfl (hS.rdAt (j:=1) rfl) rfl (by omega) (Nat.mul_one _)) ?_; clear hf a; intro a hf
      refine OQ.val (v:=(vs.getD s undef)) hf rfl (fun w hS=>RunV.ld1 T_agg_26 rfl (hS.rdAt (j:=1) rfl) (vs_get (by omega))) ?_; clear hf a; intro a hf
      refine OQ.callRq (v:=.bool true) hf rfl (fun w hS=>RunE.call (av:=#[.agg #[.int .i64 (fW:Int),.int .i64 (fH:Int),vP],(vs.getD s undef)]) C_ok_20 rfl rfl rfl) (fun w hS=>conn13_true fW fH vP (vs.getD s undef) zs (xss.getD s []) _ (hgood _ (Det.at_mem (by omega))).1 hW hH hn (hS.rdAt (j:=0) rfl) ((hS.innB (j:=2) rfl).get (i:=s) (by omega))) ?_; clear hf a; intro a hf
      refine OQ.val (v:=.bool false) hf rfl (fun w hS=>RunV.not (b:=true) rfl) ?_; clear hf a; intro a hf
      refine OQ.val (v:=.bool false) hf rfl (fun w hS=>RunV.move rfl) ?_; clear hf a; intro a hf
      refine OQ.gval (v:=va) hf rfl rfl rfl rfl (fun w hS=>RunV.move rfl) ?_; clear hf a; intro a hf
      refine OQ.gval (v:=.int .i64 (s:Int)) hf rfl rfl rfl rfl (fun w hS=>RunV.move rfl) ?_; clear hf a; intro a hf
      refine OQ.gval (v:=ix va s) hf rfl rfl rfl rfl (fun w hS=>RunV.ixV (j:=s) (m:=s) T_elem_28 T_size_26 rfl rfl (hS.rdAt (j:=1) rfl) rfl (by omega) (Nat.mul_one _)) ?_; clear hf a; intro a hf
      refine OQ.gval (v:=(vs.getD s undef)) hf rfl rfl rfl rfl (fun w hS=>RunV.ld1 T_agg_26 rfl (hS.rdAt (j:=1) rfl) (vs_get (by omega))) ?_; clear hf a; intro a hf
      refine OQ.gval (v:=.int .i64 ((xss.getD s []).length:Int)) hf rfl rfl rfl rfl (fun w hS=>RunV.lenV (e:=3) (by simpa using T_elem_26) rfl (innOK.get (hS.innB (j:=2) rfl) (i:=s) (by omega))) ?_; clear hf a; intro a hf
      refine OQ.gval (v:=.int .i64 least) hf rfl rfl rfl rfl (fun w hS=>RunV.move rfl) ?_; clear hf a; intro a hf
      refine OQ.gval (v:=.bool (decide (((xss.getD s []).length:Int)<(least:Int)))) hf rfl rfl rfl rfl (fun w hS=>RunV.lss rfl rfl) ?_; clear hf a; intro a hf
      refine OQ.val (v:=.bool (decide (((xss.getD s []).length:Int)<(least:Int)))) hf rfl (fun w hS=>RunV.pick rfl rfl rfl rfl) ?_; clear hf a; intro a hf
      refine OQ.nil ?_; intro w hS
      refine k_seq ?_
      replace hf:Fr a 78 [] [(1,va),(2,.int .i64 least),(3,.pointer (some ⟨b_f1,0,none⟩)),(8,vm),(10,.int .i64 (s:Int)),(46,.bool (decide (((xss.getD s []).length:Int)<(least:Int))))]:=hf.to ⟨rfl,rfl,rfl,rfl,rfl,rfl,trivial⟩
      refine W.ifdI hf rfl (fun hsm=>?_) (fun hsm=>?_)
      · exfalso; have:=(hgood _ (Det.at_mem (q:=s) (by omega))).2; omega
      · refine W.skip ?_
        refine k_seq ?_
        refine W.seq ?_
        refine W.regionL (l:=[0]) rfl ?_
        refine O.val hf rfl rfl rfl (RunV.assign rfl) ?_
        clear hf a; intro a hf
        refine O.nil ?_
        refine k_seq ?_
        refine W.block ?_
        refine W.loop (G:=(Nat) × (List Int)) (fun g a w=>match g with | (k,of2)=>Fr a 78 [] [(1,va),(2,.int .i64 least),(3,.pointer (some ⟨b_f1,0,none⟩)),(8,vm),(10,.int .i64 (s:Int)),(11,.int .i64 (k:Int))]∧St w0 w noX [rdv 1 vP zs.length (ints zs),rdv 1 va vs.length vs,inn vs xss] [sl 3 1 vm of2.length (ints of2),pt b_f1 (.cells #[.int .i64 (fW:Int),.int .i64 (fH:Int),vP] 24 (0,0))]∧(k≤(xss.getD s []).length)∧(of2=Det.fillS (Det.own (fW*fH) xss s) (xss.getD s []) (s:Int) k)∧(of2.length=fW*fH)) (fun g=>match g with | (k,of2)=>(xss.getD s []).length-k) (0,of1) ?_ ?_
        · refine ⟨hf.to ⟨rfl,rfl,rfl,rfl,rfl,(by first | rfl | exact congrArg some (congrArg (Value.int _) (by omega))),trivial⟩,hS,?_,?_,?_⟩
          · omega
          · rw [hof1]; rfl
          · exact g3
        clear hf hS a
        rintro ⟨k,of2⟩ a w ⟨hf,hS,g5,hof2,g4⟩
        refine W.seq ?_
        refine W.seq ?_
        refine W.regionL (l:=[0,1,2,3,4,5,6]) rfl ?_
        have hl4:=(hS.innB (j:=2) rfl).get (i:=s) (by omega) |>.2.1; unfold maxLen at hl4
        refine O.val hf rfl rfl rfl (RunV.move rfl) ?_
        clear hf a; intro a hf
        refine O.val hf rfl rfl rfl (RunV.move rfl) ?_
        clear hf a; intro a hf
        refine O.val hf rfl rfl rfl (RunV.move rfl) ?_
        clear hf a; intro a hf
        refine O.val hf rfl rfl rfl (RunV.ixV (j:=s) (m:=s) T_elem_28 T_size_26 rfl rfl (hS.rdAt (j:=1) rfl) rfl (by omega) (Nat.mul_one _)) ?_
        clear hf a; intro a hf
        refine O.val hf rfl rfl rfl (RunV.ld1 T_agg_26 rfl (hS.rdAt (j:=1) rfl) (vs_get (by omega))) ?_
        clear hf a; intro a hf
        refine O.val hf rfl rfl rfl (RunV.lenV (e:=3) (by simpa using T_elem_26) rfl (innOK.get (hS.innB (j:=2) rfl) (i:=s) (by omega))) ?_
        clear hf a; intro a hf
        refine O.val (v:=.bool (decide ((k:Int)<(((xss.getD s []).length:Int):Int)))) hf rfl rfl rfl (RunV.lss rfl rfl) ?_
        clear hf a; intro a hf
        refine O.nil ?_
        refine k_seq ?_
        replace hf:Fr a 78 [] [(1,va),(2,.int .i64 least),(3,.pointer (some ⟨b_f1,0,none⟩)),(8,vm),(10,.int .i64 (s:Int)),(11,.int .i64 (k:Int)),(53,.bool (decide ((k:Int)<(((xss.getD s []).length:Int):Int))))]:=hf.to ⟨rfl,rfl,rfl,rfl,rfl,rfl,rfl,trivial⟩
        refine W.ifdI hf rfl (fun hk2=>?_) (fun hk2=>?_)
        · refine W.skip ?_
          refine k_seq ?_
          refine W.seq ?_
          refine W.block ?_
          refine W.seq ?_
          refine W.seq ?_
          refine W.regionL (l:=[0,1,2,3,4,5,6,7,8,9,10]) rfl ?_
          have hel:=hrng _ (Det.at_mem (ss:=xss) (q:=s) (by omega)) _ (Det.getD_mem (l:=(xss.getD s [])) (j:=k) (by omega))
          refine O.val hf rfl rfl rfl (RunV.move rfl) ?_
          clear hf a; intro a hf
          refine O.val hf rfl rfl rfl (RunV.move rfl) ?_
          clear hf a; intro a hf
          refine O.val hf rfl rfl rfl (RunV.move rfl) ?_
          clear hf a; intro a hf
          refine O.val hf rfl rfl rfl (RunV.ixV (j:=s) (m:=s) T_elem_28 T_size_26 rfl rfl (hS.rdAt (j:=1) rfl) rfl (by omega) (Nat.mul_one _)) ?_
          clear hf a; intro a hf
          refine O.val hf rfl rfl rfl (RunV.ld1 T_agg_26 rfl (hS.rdAt (j:=1) rfl) (vs_get (by omega))) ?_
          clear hf a; intro a hf
          refine O.val hf rfl rfl rfl (RunV.move rfl) ?_
          clear hf a; intro a hf
          refine O.val hf rfl rfl rfl (RunV.ixV (j:=k) (m:=k) T_elem_26 T_size_3 rfl rfl (innOK.get (hS.innB (j:=2) rfl) (i:=s) (by omega)) rfl (by omega) (Nat.mul_one _)) ?_
          clear hf a; intro a hf
          refine O.val hf rfl rfl rfl (RunV.ld1 T_agg_3 rfl (innOK.get (hS.innB (j:=2) rfl) (i:=s) (by omega)) (ints_get (by omega))) ?_
          clear hf a; intro a hf
          refine O.val hf rfl rfl rfl (RunV.ixV (j:=(Int.toNat ((xss.getD s []).getD k 0))) (m:=(Int.toNat ((xss.getD s []).getD k 0))) T_elem_26 T_size_3 rfl rfl (hS.slr (j:=0) rfl) (by rw [Int.toNat_of_nonneg (by omega)]) (by omega) (Nat.mul_one _)) ?_
          clear hf a; intro a hf
          refine O.val hf rfl rfl rfl (RunV.ld1 T_agg_3 rfl (hS.slr (j:=0) rfl) (ints_get (by omega))) ?_
          clear hf a; intro a hf
          refine O.val (v:=.bool (decide ((of2.getD (Int.toNat ((xss.getD s []).getD k 0)) 0)≥(0:Int)))) hf rfl rfl rfl (RunV.geq rfl rfl) ?_
          clear hf a; intro a hf
          refine O.nil ?_
          refine k_seq ?_
          replace hf:Fr a 78 [] [(1,va),(2,.int .i64 least),(3,.pointer (some ⟨b_f1,0,none⟩)),(8,vm),(10,.int .i64 (s:Int)),(11,.int .i64 (k:Int)),(66,.bool (decide ((of2.getD (Int.toNat ((xss.getD s []).getD k 0)) 0)≥(0:Int))))]:=hf.to ⟨rfl,rfl,rfl,rfl,rfl,rfl,rfl,trivial⟩
          refine W.ifdI hf rfl (fun hfree=>?_) (fun hfree=>?_)
          · exfalso; have:=Det.own_free hrng hap (s:=s) (k:=k) (by omega) (by omega) (hgood _ (Det.at_mem (by omega))).1.1; rw [← hof2] at this; omega
          · refine W.skip ?_
            refine k_seq ?_
            refine W.regionL (l:=[0,1,2,3,4,5,6,7,8,9,10]) rfl ?_
            refine O.val hf rfl rfl rfl (RunV.move rfl) ?_
            clear hf a; intro a hf
            refine O.val hf rfl rfl rfl (RunV.move rfl) ?_
            clear hf a; intro a hf
            refine O.val hf rfl rfl rfl (RunV.move rfl) ?_
            clear hf a; intro a hf
            refine O.val hf rfl rfl rfl (RunV.ixV (j:=s) (m:=s) T_elem_28 T_size_26 rfl rfl (hS.rdAt (j:=1) rfl) rfl (by omega) (Nat.mul_one _)) ?_
            clear hf a; intro a hf
            refine O.val hf rfl rfl rfl (RunV.ld1 T_agg_26 rfl (hS.rdAt (j:=1) rfl) (vs_get (by omega))) ?_
            clear hf a; intro a hf
            refine O.val hf rfl rfl rfl (RunV.move rfl) ?_
            clear hf a; intro a hf
            refine O.val hf rfl rfl rfl (RunV.ixV (j:=k) (m:=k) T_elem_26 T_size_3 rfl rfl (innOK.get (hS.innB (j:=2) rfl) (i:=s) (by omega)) rfl (by omega) (Nat.mul_one _)) ?_
            clear hf a; intro a hf
            refine O.val hf rfl rfl rfl (RunV.ld1 T_agg_3 rfl (innOK.get (hS.innB (j:=2) rfl) (i:=s) (by omega)) (ints_get (by omega))) ?_
            clear hf a; intro a hf
            refine O.val hf rfl rfl rfl (RunV.move rfl) ?_
            clear hf a; intro a hf
            refine O.val hf rfl rfl rfl (RunV.ixV (j:=(Int.toNat ((xss.getD s []).getD k 0))) (m:=(Int.toNat ((xss.getD s []).getD k 0))) T_elem_26 T_size_3 rfl rfl (hS.slr (j:=0) rfl) (by rw [Int.toNat_of_nonneg (by omega)]) (by omega) (Nat.mul_one _)) ?_
            clear hf a; intro a hf
            refine O.storeSl (j:=0) (m:=(Int.toNat ((xss.getD s []).getD k 0))) (xs':=ints (of2.set (Int.toNat ((xss.getD s []).getD k 0)) (s:Int))) (M':=[sl 3 1 vm of2.length (ints (of2.set (Int.toNat ((xss.getD s []).getD k 0)) (s:Int))),pt b_f1 (.cells #[.int .i64 (fW:Int),.int .i64 (fH:Int),vP] 24 (0,0))]) hf hS rfl rfl rfl T_size_3 rfl rfl rfl (by simp only [ints_len]; omega) ints_set rfl rfl ?_
            clear hS; intro w hS
            refine O.nil ?_
            refine k_blk_normal ?_
            refine k_seq ?_
            replace hf:Fr a 78 [] [(1,va),(2,.int .i64 least),(3,.pointer (some ⟨b_f1,0,none⟩)),(8,vm),(10,.int .i64 (s:Int)),(11,.int .i64 (k:Int))]:=hf.to ⟨rfl,rfl,rfl,rfl,rfl,rfl,trivial⟩
            refine W.regionL (l:=[0,1,2]) rfl ?_
            refine O.val hf rfl rfl rfl (RunV.move rfl) ?_
            clear hf a; intro a hf
            refine O.val hf rfl rfl rfl (RunV.addI rfl rfl (by omega)) ?_
            clear hf a; intro a hf
            refine O.val hf rfl rfl rfl (RunV.assign rfl) ?_
            clear hf a; intro a hf
            refine O.nil ?_
            refine k_then ⟨(k+1,(of2.set (Int.toNat ((xss.getD s []).getD k 0)) (s:Int))),⟨hf.to ⟨rfl,rfl,rfl,rfl,rfl,(by first | rfl | exact congrArg some (congrArg (Value.int _) (by omega))),trivial⟩,?_,?_,?_,?_⟩,?_⟩
            · exact hS.eqM (by rw [List.length_set])
            · omega
            · rw [hof2]; rfl
            · simp only [List.length_set]; exact g4
            · dsimp only; omega
        · refine W.exit ?_
          refine k_then_exit ?_
          refine k_then_exit ?_
          refine k_blk ?_
          refine k_blk_normal ?_
          refine k_seq ?_
          refine W.regionL (l:=[0,1,2]) rfl ?_
          refine O.val hf rfl rfl rfl (RunV.move rfl) ?_
          clear hf a; intro a hf
          refine O.val hf rfl rfl rfl (RunV.addI rfl rfl (by omega)) ?_
          clear hf a; intro a hf
          refine O.val hf rfl rfl rfl (RunV.assign rfl) ?_
          clear hf a; intro a hf
          refine O.nil ?_
          refine k_then ⟨(s+1,of2),⟨hf.to ⟨rfl,rfl,rfl,rfl,(by first | rfl | exact congrArg some (congrArg (Value.int _) (by omega))),trivial⟩,?_,?_,?_,?_⟩,?_⟩
          · exact hS.eqM rfl
          · omega
          · obtain rfl:k=(xss.getD s []).length:=by omega
            rw [hof2]; rfl
          · exact g4
          · dsimp only; omega
    · refine W.exit ?_
      refine k_then_exit ?_
      refine k_then_exit ?_
      refine k_blk ?_
      refine k_seq ?_
      replace hf:Fr a 78 [] [(8,vm)]:=hf.to ⟨rfl,trivial⟩
      refine W.seq ?_
      refine W.regionL (l:=[0,1,2]) rfl ?_
      refine O.val hf rfl rfl rfl (RunV.move rfl) ?_
      clear hf a; intro a hf
      refine O.val hf rfl rfl rfl (RunV.assign rfl) ?_
      clear hf a; intro a hf
      refine O.val hf rfl rfl rfl (RunV.assign rfl) ?_
      clear hf a; intro a hf
      refine O.nil ?_
      refine k_seq ?_
      replace hf:Fr a 78 [] [(6,vm),(7,.bool true)]:=hf.to ⟨rfl,rfl,trivial⟩
      refine W.ret ?_
      refine post2 hf rfl (ResOK.tmp rfl) (ResOK.tmp rfl) ?_
      obtain rfl:s=vs.length:=by omega
      subst hof1
      rw [hxl] at hS
      exact ⟨vm,rfl,(hS.sub (.cons_cons _ (.cons _ .slnil))).noB⟩
theorem parts6_ok (fW fH:Nat) (thr least:Int) (vP vB:Value) (zs:List Int) (bs:List Bool) (w0:World) (hfo:Det.fieldOK fW fH zs) (hn:zs.length=fW*fH) (hbl:bs.length=zs.length) (ht:-4294967296≤thr∧thr≤4294967296) (hle:1≤least) (hP:rdOK (hp w0) 1 vP zs.length (ints zs)) (hB:rdOK (hp w0) 1 vB bs.length (bools bs)) :
    Ret Tryz.prog 17 #[.agg #[.int .i64 (fW:Int),.int .i64 (fH:Int),vP],vB,.int .i64 thr,.int .i64 least] w0 (G:=Value × List Value) (fun g=>.tuple #[g.1,.int .i64 0]) (fun g w=>St w0 w noX [] [sl 26 1 g.1 g.2.length g.2,inn g.2 (Det.sets fW fH zs bs thr least)]):=by
  haveI:Decidable (Det.fieldOK fW fH zs):=.isTrue hfo
  have h:=parts6_spec fW fH thr least vP vB zs bs w0 hP hB
  have he:Det.partsE fW fH zs bs thr least=0:=by unfold Det.partsE; rw [if_pos hfo,if_pos ⟨hbl,ht.1,ht.2,hle⟩]
  rw [he,Det.sets_of he hn] at h
  exact h
set_option maxHeartbeats 400000 in
set_option maxRecDepth 4000 in
theorem whole_good (fW fH:Nat) (thr least:Int) (vP vB:Value) (zs:List Int) (bs:List Bool) (w0:World) (hfo:Det.fieldOK fW fH zs) (hn:zs.length=fW*fH) (hbl:bs.length=zs.length) (hsz:zs.length≤100) (hP:rdOK (hp w0) 1 vP zs.length (ints zs)) (hB:rdOK (hp w0) 1 vB bs.length (bools bs)) (ht:-4294967296≤thr∧thr≤4294967296) (hle:1≤least) :
    Ret Tryz.prog 4 #[.agg #[.int .i64 (fW:Int),.int .i64 (fH:Int),vP],vB,.int .i64 thr,.int .i64 least] w0 (G:=Unit) (fun _=>.bool true) (fun _ w=>St w0 w noX [] []):=by
  refine ret_of_W (lv:=[.agg #[.int .i64 (fW:Int),.int .i64 (fH:Int),vP],vB,.int .i64 thr,.int .i64 least]) Tryz.func4 rfl rfl rfl (fun a hf=>?_)
  replace hf:Fr a 202 [] [(0,.agg #[.int .i64 (fW:Int),.int .i64 (fH:Int),vP]),(1,vB),(2,.int .i64 thr),(3,.int .i64 least)]:=hf
  have hS:St w0 w0 noX [rdv 1 vP zs.length (ints zs),rdv 1 vB bs.length (bools bs)] []:=((St.refl w0).lend0 hB).lend0 hP
  have hW:1≤fW∧fW≤100:=by have h:=hfo; unfold Det.fieldOK at h; omega
  have hH:1≤fH∧fH≤100:=by have h:=hfo; unfold Det.fieldOK at h; omega
  have hBl:∀ t,(Det.bright zs bs t (fW*fH)).length=fW*fH:=fun t=>Det.bright_len _
  haveI:Decidable (Det.fieldOK fW fH zs):=.isTrue hfo
  have hst:(if Det.fieldOK (fW:Int) (fH:Int) zs then (if bs.length=zs.length then 0 else 2) else 8:Int)=0:=by rw [if_pos hfo,if_pos hbl]
  refine W.seq ?_
  refine W.regionL (l:=[0,1]) rfl ?_
  refine O.box (cs:=#[.int .i64 (fW:Int),.int .i64 (fH:Int),vP]) hf hS rfl rfl rfl rfl ?_
  clear hf hS a; intro b_f1 w a hbb_f1 hS hf
  refine O.val hf rfl rfl rfl (RunV.assign rfl) ?_
  clear hf a; intro a hf
  refine O.nil ?_
  refine k_seq ?_
  replace hf:Fr a 202 [] [(1,vB),(2,.int .i64 thr),(3,.int .i64 least),(4,.pointer (some ⟨b_f1,0,none⟩)),(8,.bool false)]:=hf.to ⟨rfl,rfl,rfl,rfl,rfl,trivial⟩
  refine W.seq ?_
  refine W.regionL (l:=[0,1]) rfl ?_
  refine O.callR hf rfl rfl rfl (RunE.call (av:=#[]) C_ok_15 rfl rfl rfl) (alive_spec _) ?_
  clear hf a
  rintro _ w2 hS1 a hf
  replace hf:Fr a _ _ ((23,.bool true)::_):=hf
  replace hS:=(hS.call hS1).eqM (N:=[pt b_f1 (.cells #[.int .i64 (fW:Int),.int .i64 (fH:Int),vP] 24 (0,0))]) rfl
  clear hS1
  refine O.val hf rfl rfl rfl (RunV.assign rfl) ?_
  clear hf a; intro a hf
  refine O.nil ?_
  refine k_seq ?_
  replace hf:Fr a 202 [] [(1,vB),(2,.int .i64 thr),(3,.int .i64 least),(4,.pointer (some ⟨b_f1,0,none⟩)),(8,.bool false),(9,.bool true)]:=hf.to ⟨rfl,rfl,rfl,rfl,rfl,rfl,trivial⟩
  refine W.seq ?_
  refine W.seq ?_
  refine W.regionL (l:=[0,1,2,3,4,5,6,7,8,9,10,11,12]) rfl ?_
  refine O.val hf rfl rfl rfl (RunV.loadN (cs':=#[.int .i64 (fW:Int),.int .i64 (fH:Int),vP]) T_agg_24 T_size_24 rfl (hS.ptAt (i:=0) rfl) (Nat.le_of_ble_eq_true rfl) rfl) ?_
  clear hf a; intro a hf
  refine O.val hf rfl rfl rfl (RunV.move rfl) ?_
  clear hf a; intro a hf
  refine O.callR hf rfl rfl rfl (RunE.call (av:=#[.agg #[.int .i64 (fW:Int),.int .i64 (fH:Int),vP],vB]) C_ok_8 rfl rfl rfl) (great_spec fW fH vP vB zs bs _ (hS.rdAt (j:=0) rfl) (hS.rdAt (j:=1) rfl)) ?_
  clear hf a
  rintro _ w3 hS1 a hf
  replace hf:Fr a _ _ ((26,.bool (decide ((zs.length:Int)>100)||decide ((bs.length:Int)>120)))::_):=hf
  replace hS:=(hS.call hS1).eqM (N:=[pt b_f1 (.cells #[.int .i64 (fW:Int),.int .i64 (fH:Int),vP] 24 (0,0))]) rfl
  clear hS1
  refine O.val hf rfl rfl rfl (RunV.move rfl) ?_
  clear hf a; intro a hf
  have hbg:(decide ((zs.length:Int)>100)||decide ((bs.length:Int)>120))=false:=(by simp; omega)
  simp only [hbg] at hf; clear hbg
  refine O.gvalB (v:=.agg #[.int .i64 (fW:Int),.int .i64 (fH:Int),vP]) hf rfl rfl rfl rfl rfl rfl (RunV.loadN (cs':=#[.int .i64 (fW:Int),.int .i64 (fH:Int),vP]) T_agg_24 T_size_24 rfl (hS.ptAt (i:=0) rfl) (Nat.le_of_ble_eq_true rfl) rfl) ?_
  clear hf a; intro a hf
  refine O.gvalB (v:=vB) hf rfl rfl rfl rfl rfl rfl (RunV.move rfl) ?_
  clear hf a; intro a hf
  refine O.gcallR hf rfl rfl rfl rfl rfl rfl (RunE.call (av:=#[.agg #[.int .i64 (fW:Int),.int .i64 (fH:Int),vP],vB]) C_ok_16 rfl rfl rfl) (start11_spec fW fH vP vB zs bs _ (hS.rdAt (j:=0) rfl) (hS.rdAt (j:=1) rfl)) ?_
  clear hf a
  rintro _ w4 hS1 a hf
  replace hf:Fr a _ _ ((30,.int .i64 (if Det.fieldOK (fW:Int) (fH:Int) zs then (if bs.length=zs.length then 0 else 2) else 8))::_):=hf
  replace hS:=(hS.call hS1).eqM (N:=[pt b_f1 (.cells #[.int .i64 (fW:Int),.int .i64 (fH:Int),vP] 24 (0,0))]) rfl
  clear hS1
  refine O.gvalB (v:=.bool (decide ((if Det.fieldOK (fW:Int) (fH:Int) zs then (if bs.length=zs.length then 0 else 2) else 8)≠(0:Int)))) hf rfl rfl rfl rfl rfl rfl (RunV.neq rfl rfl) ?_
  clear hf a; intro a hf
  refine O.val (v:=.bool (decide ((if Det.fieldOK (fW:Int) (fH:Int) zs then (if bs.length=zs.length then 0 else 2) else 8)≠(0:Int)))) hf rfl rfl rfl (RunV.pick rfl rfl rfl rfl) ?_
  clear hf a; intro a hf
  refine O.val hf rfl rfl rfl (RunV.move rfl) ?_
  clear hf a; intro a hf
  have hbg:(decide ((if Det.fieldOK (fW:Int) (fH:Int) zs then (if bs.length=zs.length then 0 else 2) else 8)≠(0:Int)))=false:=(by rw [hst]; rfl)
  simp only [hbg] at hf; clear hbg
  refine O.gvalB (v:=.bool true) hf rfl rfl rfl rfl rfl rfl (RunV.move rfl) ?_
  clear hf a; intro a hf
  refine O.gvalB (v:=.bool false) hf rfl rfl rfl rfl rfl rfl (RunV.not (b:=true) rfl) ?_
  clear hf a; intro a hf
  refine O.val (v:=.bool false) hf rfl rfl rfl (RunV.pick rfl rfl rfl rfl) ?_
  clear hf a; intro a hf
  refine O.nil ?_
  refine k_seq ?_
  replace hf:Fr a 202 [] [(1,vB),(2,.int .i64 thr),(3,.int .i64 least),(4,.pointer (some ⟨b_f1,0,none⟩)),(8,.bool false),(9,.bool true),(36,.bool false)]:=hf.to ⟨rfl,rfl,rfl,rfl,rfl,rfl,rfl,trivial⟩
  refine W.if_ff hf rfl ?_
  refine W.skip ?_
  refine k_seq ?_
  replace hf:Fr a 202 [] [(1,vB),(2,.int .i64 thr),(3,.int .i64 least),(4,.pointer (some ⟨b_f1,0,none⟩)),(8,.bool false),(9,.bool true)]:=hf.to ⟨rfl,rfl,rfl,rfl,rfl,rfl,trivial⟩
  refine W.seq ?_
  refine W.regionL (l:=[0,1,2,3,4,5,6,7,8,9]) rfl ?_
  refine O.val hf rfl rfl rfl (RunV.loadN (cs':=#[.int .i64 (fW:Int),.int .i64 (fH:Int),vP]) T_agg_24 T_size_24 rfl (hS.ptAt (i:=0) rfl) (Nat.le_of_ble_eq_true rfl) rfl) ?_
  clear hf a; intro a hf
  refine O.val hf rfl rfl rfl (RunV.move rfl) ?_
  clear hf a; intro a hf
  refine O.val hf rfl rfl rfl (RunV.move rfl) ?_
  clear hf a; intro a hf
  refine O.val hf rfl rfl rfl (RunV.move rfl) ?_
  clear hf a; intro a hf
  refine O.callR hf rfl rfl rfl (RunE.call (av:=#[.agg #[.int .i64 (fW:Int),.int .i64 (fH:Int),vP],vB,.int .i64 thr,.int .i64 least]) C_ok_17 rfl rfl rfl) (parts6_ok fW fH (thr) least vP vB zs bs _ hfo hn hbl ht hle (hS.rdAt (j:=0) rfl) (hS.rdAt (j:=1) rfl)) ?_
  clear hf a
  rintro ⟨va,vs⟩ w5 hS1 a hf
  replace hf:Fr a _ _ ((43,.tuple #[va,.int .i64 0])::_):=hf
  replace hS:=(hS.call hS1).eqM (N:=[sl 26 1 va vs.length vs,inn vs (Det.sets fW fH zs bs (thr) least),pt b_f1 (.cells #[.int .i64 (fW:Int),.int .i64 (fH:Int),vP] 24 (0,0))]) rfl
  clear hS1
  refine O.val hf rfl rfl rfl (RunV.move rfl) ?_
  clear hf a; intro a hf
  refine O.val hf rfl rfl rfl (RunV.extract rfl rfl) ?_
  clear hf a; intro a hf
  refine O.val hf rfl rfl rfl (RunV.extract rfl rfl) ?_
  clear hf a; intro a hf
  refine O.val hf rfl rfl rfl (RunV.assign rfl) ?_
  clear hf a; intro a hf
  refine O.val hf rfl rfl rfl (RunV.assign rfl) ?_
  clear hf a; intro a hf
  refine O.nil ?_
  refine k_seq ?_
  replace hf:Fr a 202 [] [(1,vB),(2,.int .i64 thr),(3,.int .i64 least),(4,.pointer (some ⟨b_f1,0,none⟩)),(8,.bool false),(9,.bool true),(10,va),(11,.int .i64 0)]:=hf.to ⟨rfl,rfl,rfl,rfl,rfl,rfl,rfl,rfl,trivial⟩
  refine W.seq ?_
  refine W.seq ?_
  refine W.regionL (l:=[0,1]) rfl ?_
  refine O.val hf rfl rfl rfl (RunV.move rfl) ?_
  clear hf a; intro a hf
  refine O.val hf rfl rfl rfl (RunV.toB (c:=false) (RunV.neq rfl rfl) (by decide)) ?_
  clear hf a; intro a hf
  refine O.nil ?_
  refine k_seq ?_
  replace hf:Fr a 202 [] [(1,vB),(2,.int .i64 thr),(3,.int .i64 least),(4,.pointer (some ⟨b_f1,0,none⟩)),(8,.bool false),(9,.bool true),(10,va),(11,.int .i64 0),(47,.bool false)]:=hf.to ⟨rfl,rfl,rfl,rfl,rfl,rfl,rfl,rfl,rfl,trivial⟩
  refine W.if_ff hf rfl ?_
  refine W.skip ?_
  refine k_seq ?_
  replace hf:Fr a 202 [] [(1,vB),(2,.int .i64 thr),(3,.int .i64 least),(4,.pointer (some ⟨b_f1,0,none⟩)),(8,.bool false),(9,.bool true),(10,va)]:=hf.to ⟨rfl,rfl,rfl,rfl,rfl,rfl,rfl,trivial⟩
  refine W.seq ?_
  refine W.regionL (l:=[0,1,2,3,4,5,6,7,8]) rfl ?_
  refine O.val hf rfl rfl rfl (RunV.loadN (cs':=#[.int .i64 (fW:Int),.int .i64 (fH:Int),vP]) T_agg_24 T_size_24 rfl (hS.ptAt (i:=2) rfl) (Nat.le_of_ble_eq_true rfl) rfl) ?_
  clear hf a; intro a hf
  refine O.val hf rfl rfl rfl (RunV.move rfl) ?_
  clear hf a; intro a hf
  refine O.val hf rfl rfl rfl (RunV.move rfl) ?_
  clear hf a; intro a hf
  refine O.callR hf rfl rfl rfl (RunE.call (av:=#[.agg #[.int .i64 (fW:Int),.int .i64 (fH:Int),vP],va,.int .i64 least]) C_ok_18 rfl rfl rfl) (owners_spec fW fH least vP va zs vs (Det.sets fW fH zs bs (thr) least) _ hW hH hn (hS.rdAt (j:=0) rfl) (hS.slr (j:=0) rfl) (hS.innAt (j:=1) rfl) (Det.sets_good (hBl _) rfl) (Det.sets_rng (hBl _) rfl) (Det.sets_apart (hBl _) rfl)) ?_
  clear hf a
  rintro vo w6 hS1 a hf
  replace hf:Fr a _ _ ((62,.tuple #[vo,.bool true])::_):=hf
  replace hS:=(hS.call hS1).eqM (N:=[sl 3 1 vo ((Det.own (fW*fH) (Det.sets fW fH zs bs (thr) least) (Det.sets fW fH zs bs (thr) least).length).length) (ints (Det.own (fW*fH) (Det.sets fW fH zs bs (thr) least) (Det.sets fW fH zs bs (thr) least).length)),sl 26 1 va vs.length vs,inn vs (Det.sets fW fH zs bs (thr) least),pt b_f1 (.cells #[.int .i64 (fW:Int),.int .i64 (fH:Int),vP] 24 (0,0))]) rfl
  clear hS1
  refine O.val hf rfl rfl rfl (RunV.move rfl) ?_
  clear hf a; intro a hf
  refine O.val hf rfl rfl rfl (RunV.extract rfl rfl) ?_
  clear hf a; intro a hf
  refine O.val hf rfl rfl rfl (RunV.extract rfl rfl) ?_
  clear hf a; intro a hf
  refine O.val hf rfl rfl rfl (RunV.assign rfl) ?_
  clear hf a; intro a hf
  refine O.val hf rfl rfl rfl (RunV.assign rfl) ?_
  clear hf a; intro a hf
  refine O.nil ?_
  obtain ⟨of,hof⟩:∃ z,z=(Det.own (fW*fH) (Det.sets fW fH zs bs (thr) least) (Det.sets fW fH zs bs (thr) least).length):=⟨_,rfl⟩
  rw [← hof] at hS
  have hlof:of.length=fW*fH:=by rw [hof]; exact Det.own_len _
  refine k_seq ?_
  replace hf:Fr a 202 [] [(1,vB),(2,.int .i64 thr),(3,.int .i64 least),(4,.pointer (some ⟨b_f1,0,none⟩)),(8,.bool false),(9,.bool true),(12,vo),(13,.bool true)]:=hf.to ⟨rfl,rfl,rfl,rfl,rfl,rfl,rfl,rfl,trivial⟩
  refine W.seq ?_
  refine W.seq ?_
  refine W.regionL (l:=[0,1]) rfl ?_
  refine O.val hf rfl rfl rfl (RunV.move rfl) ?_
  clear hf a; intro a hf
  refine O.val (v:=.bool false) hf rfl rfl rfl (RunV.not (b:=true) rfl) ?_
  clear hf a; intro a hf
  refine O.nil ?_
  refine k_seq ?_
  replace hf:Fr a 202 [] [(1,vB),(2,.int .i64 thr),(3,.int .i64 least),(4,.pointer (some ⟨b_f1,0,none⟩)),(8,.bool false),(9,.bool true),(12,vo),(66,.bool false)]:=hf.to ⟨rfl,rfl,rfl,rfl,rfl,rfl,rfl,rfl,trivial⟩
  refine W.if_ff hf rfl ?_
  refine W.skip ?_
  refine k_seq ?_
  replace hf:Fr a 202 [] [(1,vB),(2,.int .i64 thr),(3,.int .i64 least),(4,.pointer (some ⟨b_f1,0,none⟩)),(8,.bool false),(9,.bool true),(12,vo)]:=hf.to ⟨rfl,rfl,rfl,rfl,rfl,rfl,rfl,trivial⟩
  refine W.seq ?_
  refine W.seq ?_
  refine W.regionL (l:=[0]) rfl ?_
  refine O.val hf rfl rfl rfl (RunV.assign rfl) ?_
  clear hf a; intro a hf
  refine O.nil ?_
  refine k_seq ?_
  refine W.block ?_
  refine W.loop (G:=(Nat)) (fun g a w=>match g with | k=>Fr a 202 [] [(1,vB),(2,.int .i64 thr),(3,.int .i64 least),(4,.pointer (some ⟨b_f1,0,none⟩)),(9,.bool true),(12,vo),(14,.int .i64 (k:Int))]∧St w0 w noX [rdv 1 vP zs.length (ints zs),rdv 1 vB bs.length (bools bs)] [sl 3 1 vo of.length (ints of),sl 26 1 va vs.length vs,inn vs (Det.sets fW fH zs bs (thr) least),pt b_f1 (.cells #[.int .i64 (fW:Int),.int .i64 (fH:Int),vP] 24 (0,0))]∧(k≤zs.length)) (fun g=>match g with | k=>zs.length-k) 0 ?_ ?_
  · refine ⟨hf.to ⟨rfl,rfl,rfl,rfl,rfl,rfl,(by first | rfl | exact congrArg some (congrArg (Value.int _) (by omega))),trivial⟩,hS,?_⟩
    · omega
  clear hf hS a
  rintro k a w ⟨hf,hS,h1⟩
  refine W.seq ?_
  refine W.seq ?_
  refine W.regionL (l:=[0,1,2,3,4]) rfl ?_
  refine O.val hf rfl rfl rfl (RunV.move rfl) ?_
  clear hf a; intro a hf
  refine O.val hf rfl rfl rfl (RunV.field T_field_24_2 rfl rfl) ?_
  clear hf a; intro a hf
  refine O.val hf rfl rfl rfl (RunV.load1 T_agg_22 rfl (hS.ptAt (i:=3) rfl) rfl) ?_
  clear hf a; intro a hf
  refine O.val hf rfl rfl rfl (RunV.lenV (e:=2) (by simpa using T_elem_22) rfl (hS.rdAt (j:=0) rfl)) ?_
  clear hf a; intro a hf
  refine O.val (v:=.bool (decide ((k:Int)<((zs.length:Int):Int)))) hf rfl rfl rfl (RunV.lss rfl rfl) ?_
  clear hf a; intro a hf
  refine O.nil ?_
  refine k_seq ?_
  replace hf:Fr a 202 [] [(1,vB),(2,.int .i64 thr),(3,.int .i64 least),(4,.pointer (some ⟨b_f1,0,none⟩)),(9,.bool true),(12,vo),(14,.int .i64 (k:Int)),(71,.bool (decide ((k:Int)<((zs.length:Int):Int))))]:=hf.to ⟨rfl,rfl,rfl,rfl,rfl,rfl,rfl,rfl,trivial⟩
  refine W.ifdI hf rfl (fun hk1=>?_) (fun hk1=>?_)
  · refine W.skip ?_
    refine k_seq ?_
    refine W.seq ?_
    refine W.block ?_
    refine W.seq ?_
    refine W.regionL (l:=[0,1,2,3,4,5,6,7,8,9,10,11,12,13,14]) rfl ?_
    refine O.val hf rfl rfl rfl (RunV.move rfl) ?_
    clear hf a; intro a hf
    refine O.val hf rfl rfl rfl (RunV.move rfl) ?_
    clear hf a; intro a hf
    refine O.val hf rfl rfl rfl (RunV.ixV (j:=k) (m:=k) T_elem_25 T_size_4 rfl rfl (hS.rdAt (j:=1) rfl) rfl (by omega) (Nat.mul_one _)) ?_
    clear hf a; intro a hf
    refine O.val hf rfl rfl rfl (RunV.ld1 T_agg_4 rfl (hS.rdAt (j:=1) rfl) (bools_get (by omega))) ?_
    clear hf a; intro a hf
    refine O.val (v:=.bool (!(bs.getD k false))) hf rfl rfl rfl (RunV.not rfl) ?_
    clear hf a; intro a hf
    refine O.val hf rfl rfl rfl (RunV.move rfl) ?_
    clear hf a; intro a hf
    refine O.cutN (l₁:=[6,7,8,9,10,11,12,13]) (l₂:=_) (fun a w=>Fr a 202 [] [(1,vB),(2,.int .i64 thr),(3,.int .i64 least),(4,.pointer (some ⟨b_f1,0,none⟩)),(9,.bool true),(12,vo),(14,.int .i64 (k:Int)),(74,vB),(75,.int .i64 (k:Int)),(76,ix vB k),(77,.bool (bs.getD k false)),(78,.bool (!(bs.getD k false))),(79,.bool (!(bs.getD k false))),(87,.bool ((!(bs.getD k false))&&(decide ((zs.getD k 0)≥(thr:Int)))))]∧St w0 w noX [rdv 1 vP zs.length (ints zs),rdv 1 vB bs.length (bools bs)] [sl 3 1 vo of.length (ints of),sl 26 1 va vs.length vs,inn vs (Det.sets fW fH zs bs (thr) least),pt b_f1 (.cells #[.int .i64 (fW:Int),.int .i64 (fH:Int),vP] 24 (0,0))]) rfl ?_ ?_
    · rcases Bool.eq_false_or_eq_true (!(bs.getD k false)) with hb8 | hb8
      · have hb8p:=hb8
        try simp only [Bool.and_eq_true,Bool.or_eq_true,Bool.and_eq_false_iff,Bool.or_eq_false_iff,decide_eq_true_eq,decide_eq_false_iff_not,Bool.not_eq_true',Bool.not_eq_false',Bool.not_eq_true,Bool.not_eq_false,ne_eq] at hb8p
        refine O.gvalB (v:=.pointer (some ⟨b_f1,2,none⟩)) hf rfl rfl rfl hb8 rfl rfl (RunV.field T_field_24_2 rfl rfl) ?_
        clear hf a; intro a hf
        refine O.gvalB (v:=vP) hf rfl rfl rfl hb8 rfl rfl (RunV.load1 T_agg_22 rfl (hS.ptAt (i:=3) rfl) rfl) ?_
        clear hf a; intro a hf
        refine O.gvalB (v:=.int .i64 (k:Int)) hf rfl rfl rfl hb8 rfl rfl (RunV.move rfl) ?_
        clear hf a; intro a hf
        refine O.gvalB (v:=ix vP k) hf rfl rfl rfl hb8 rfl rfl (RunV.ixV (j:=k) (m:=k) T_elem_22 T_size_2 rfl rfl (hS.rdAt (j:=0) rfl) rfl (by omega) (Nat.mul_one _)) ?_
        clear hf a; intro a hf
        refine O.gvalB (v:=.int .i64 (zs.getD k 0)) hf rfl rfl rfl hb8 rfl rfl (RunV.ld1 T_agg_2 rfl (hS.rdAt (j:=0) rfl) (ints_get (by omega))) ?_
        clear hf a; intro a hf
        refine O.gvalB (v:=.int .i64 thr) hf rfl rfl rfl hb8 rfl rfl (RunV.move rfl) ?_
        clear hf a; intro a hf
        refine O.gvalB (v:=.bool (decide ((zs.getD k 0)≥(thr:Int)))) hf rfl rfl rfl hb8 rfl rfl (RunV.geq rfl rfl) ?_
        clear hf a; intro a hf
        refine O.val (v:=.bool ((!(bs.getD k false))&&(decide ((zs.getD k 0)≥(thr:Int))))) hf rfl rfl rfl (RunV.pick rfl rfl rfl (by rw [hb8]; rfl)) ?_; clear hf a; intro a hf
        exact O.nil ⟨rfl,hf.to ⟨rfl,rfl,rfl,rfl,rfl,rfl,rfl,rfl,rfl,rfl,rfl,rfl,rfl,rfl,trivial⟩,hS⟩
      · have hb8p:=hb8
        try simp only [Bool.and_eq_true,Bool.or_eq_true,Bool.and_eq_false_iff,Bool.or_eq_false_iff,decide_eq_true_eq,decide_eq_false_iff_not,Bool.not_eq_true',Bool.not_eq_false',Bool.not_eq_true,Bool.not_eq_false,ne_eq] at hb8p
        refine O.skipB hf rfl rfl rfl hb8 rfl ?_; clear hf a; intro a hf
        refine O.skipB hf rfl rfl rfl hb8 rfl ?_; clear hf a; intro a hf
        refine O.skipB hf rfl rfl rfl hb8 rfl ?_; clear hf a; intro a hf
        refine O.skipB hf rfl rfl rfl hb8 rfl ?_; clear hf a; intro a hf
        refine O.skipB hf rfl rfl rfl hb8 rfl ?_; clear hf a; intro a hf
        refine O.skipB hf rfl rfl rfl hb8 rfl ?_; clear hf a; intro a hf
        refine O.skipB hf rfl rfl rfl hb8 rfl ?_; clear hf a; intro a hf
        refine O.val (v:=.bool ((!(bs.getD k false))&&(decide ((zs.getD k 0)≥(thr:Int))))) hf rfl rfl rfl (RunV.pick rfl rfl rfl (by rw [hb8]; rfl)) ?_; clear hf a; intro a hf
        exact O.nil ⟨rfl,hf.to ⟨rfl,rfl,rfl,rfl,rfl,rfl,rfl,rfl,rfl,rfl,rfl,rfl,rfl,rfl,trivial⟩,hS⟩
    clear hf hS a; rintro a w ⟨hf,hS⟩
    refine O.val hf rfl rfl rfl (RunV.assign rfl) ?_
    clear hf a; intro a hf
    refine O.nil ?_
    refine k_seq ?_
    replace hf:Fr a 202 [] [(1,vB),(2,.int .i64 thr),(3,.int .i64 least),(4,.pointer (some ⟨b_f1,0,none⟩)),(9,.bool true),(12,vo),(14,.int .i64 (k:Int)),(15,.bool ((!(bs.getD k false))&&(decide ((zs.getD k 0)≥(thr:Int)))))]:=hf.to ⟨rfl,rfl,rfl,rfl,rfl,rfl,rfl,rfl,trivial⟩
    refine W.seq ?_
    refine W.seq ?_
    refine W.regionL (l:=[0,1,2,3,4,5,6,7,8]) rfl ?_
    refine O.val hf rfl rfl rfl (RunV.move rfl) ?_
    clear hf a; intro a hf
    refine O.val (v:=.bool (!((!(bs.getD k false))&&(decide ((zs.getD k 0)≥(thr:Int)))))) hf rfl rfl rfl (RunV.not rfl) ?_
    clear hf a; intro a hf
    refine O.val hf rfl rfl rfl (RunV.move rfl) ?_
    clear hf a; intro a hf
    refine O.cutN (l₁:=[3,4,5,6,7,8]) (l₂:=_) (fun a w=>Fr a 202 [] [(1,vB),(2,.int .i64 thr),(3,.int .i64 least),(4,.pointer (some ⟨b_f1,0,none⟩)),(9,.bool true),(12,vo),(14,.int .i64 (k:Int)),(15,.bool ((!(bs.getD k false))&&(decide ((zs.getD k 0)≥(thr:Int))))),(88,.bool ((!(bs.getD k false))&&(decide ((zs.getD k 0)≥(thr:Int))))),(89,.bool (!((!(bs.getD k false))&&(decide ((zs.getD k 0)≥(thr:Int)))))),(90,.bool (!((!(bs.getD k false))&&(decide ((zs.getD k 0)≥(thr:Int)))))),(96,.bool ((!((!(bs.getD k false))&&(decide ((zs.getD k 0)≥(thr:Int)))))&&(decide ((of.getD k 0)≥(0:Int)))))]∧St w0 w noX [rdv 1 vP zs.length (ints zs),rdv 1 vB bs.length (bools bs)] [sl 3 1 vo of.length (ints of),sl 26 1 va vs.length vs,inn vs (Det.sets fW fH zs bs (thr) least),pt b_f1 (.cells #[.int .i64 (fW:Int),.int .i64 (fH:Int),vP] 24 (0,0))]) rfl ?_ ?_
    · rcases Bool.eq_false_or_eq_true (!((!(bs.getD k false))&&(decide ((zs.getD k 0)≥(thr:Int))))) with hb9 | hb9
      · have hb9p:=hb9
        try simp only [Bool.and_eq_true,Bool.or_eq_true,Bool.and_eq_false_iff,Bool.or_eq_false_iff,decide_eq_true_eq,decide_eq_false_iff_not,Bool.not_eq_true',Bool.not_eq_false',Bool.not_eq_true,Bool.not_eq_false,ne_eq] at hb9p
        refine O.gvalB (v:=vo) hf rfl rfl rfl hb9 rfl rfl (RunV.move rfl) ?_
        clear hf a; intro a hf
        refine O.gvalB (v:=.int .i64 (k:Int)) hf rfl rfl rfl hb9 rfl rfl (RunV.move rfl) ?_
        clear hf a; intro a hf
        refine O.gvalB (v:=ix vo k) hf rfl rfl rfl hb9 rfl rfl (RunV.ixV (j:=k) (m:=k) T_elem_26 T_size_3 rfl rfl (hS.slr (j:=0) rfl) rfl (by omega) (Nat.mul_one _)) ?_
        clear hf a; intro a hf
        refine O.gvalB (v:=.int .i64 (of.getD k 0)) hf rfl rfl rfl hb9 rfl rfl (RunV.ld1 T_agg_3 rfl (hS.slr (j:=0) rfl) (ints_get (by omega))) ?_
        clear hf a; intro a hf
        refine O.gvalB (v:=.bool (decide ((of.getD k 0)≥(0:Int)))) hf rfl rfl rfl hb9 rfl rfl (RunV.geq rfl rfl) ?_
        clear hf a; intro a hf
        refine O.val (v:=.bool ((!((!(bs.getD k false))&&(decide ((zs.getD k 0)≥(thr:Int)))))&&(decide ((of.getD k 0)≥(0:Int))))) hf rfl rfl rfl (RunV.pick rfl rfl rfl (by rw [hb9]; rfl)) ?_; clear hf a; intro a hf
        exact O.nil ⟨rfl,hf.to ⟨rfl,rfl,rfl,rfl,rfl,rfl,rfl,rfl,rfl,rfl,rfl,rfl,trivial⟩,hS⟩
      · have hb9p:=hb9
        try simp only [Bool.and_eq_true,Bool.or_eq_true,Bool.and_eq_false_iff,Bool.or_eq_false_iff,decide_eq_true_eq,decide_eq_false_iff_not,Bool.not_eq_true',Bool.not_eq_false',Bool.not_eq_true,Bool.not_eq_false,ne_eq] at hb9p
        refine O.skipB hf rfl rfl rfl hb9 rfl ?_; clear hf a; intro a hf
        refine O.skipB hf rfl rfl rfl hb9 rfl ?_; clear hf a; intro a hf
        refine O.skipB hf rfl rfl rfl hb9 rfl ?_; clear hf a; intro a hf
        refine O.skipB hf rfl rfl rfl hb9 rfl ?_; clear hf a; intro a hf
        refine O.skipB hf rfl rfl rfl hb9 rfl ?_; clear hf a; intro a hf
        refine O.val (v:=.bool ((!((!(bs.getD k false))&&(decide ((zs.getD k 0)≥(thr:Int)))))&&(decide ((of.getD k 0)≥(0:Int))))) hf rfl rfl rfl (RunV.pick rfl rfl rfl (by rw [hb9]; rfl)) ?_; clear hf a; intro a hf
        exact O.nil ⟨rfl,hf.to ⟨rfl,rfl,rfl,rfl,rfl,rfl,rfl,rfl,rfl,rfl,rfl,rfl,trivial⟩,hS⟩
    clear hf hS a; rintro a w ⟨hf,hS⟩
    refine O.nil ?_
    refine k_seq ?_
    replace hf:Fr a 202 [] [(1,vB),(2,.int .i64 thr),(3,.int .i64 least),(4,.pointer (some ⟨b_f1,0,none⟩)),(9,.bool true),(12,vo),(14,.int .i64 (k:Int)),(15,.bool ((!(bs.getD k false))&&(decide ((zs.getD k 0)≥(thr:Int))))),(96,.bool ((!((!(bs.getD k false))&&(decide ((zs.getD k 0)≥(thr:Int)))))&&(decide ((of.getD k 0)≥(0:Int)))))]:=hf.to ⟨rfl,rfl,rfl,rfl,rfl,rfl,rfl,rfl,rfl,trivial⟩
    refine W.if_ hf rfl (fun hdk=>?_) (fun hdk=>?_)
    · have hdkb:=hdk
      try simp only [Bool.and_eq_true,Bool.or_eq_true,Bool.and_eq_false_iff,Bool.or_eq_false_iff,decide_eq_true_eq,decide_eq_false_iff_not,Bool.not_eq_true',Bool.not_eq_false',Bool.not_eq_true,Bool.not_eq_false,ne_eq] at hdk
      exfalso; simp only [Bool.and_eq_true,Bool.not_eq_true'] at hdkb; obtain ⟨g1,g2⟩:=hdkb; rw [Det.bright_b (n:=fW*fH) (by omega)] at g1; have h:=Det.own_dark (hBl thr) (ss:=Det.sets fW fH zs bs thr least) (least:=least) rfl (i:=k) (by omega) (by rw [g1]; simp); rw [← hof] at h; simp only [decide_eq_true_eq] at g2; omega
    · have hdkb:=hdk
      try simp only [Bool.and_eq_true,Bool.or_eq_true,Bool.and_eq_false_iff,Bool.or_eq_false_iff,decide_eq_true_eq,decide_eq_false_iff_not,Bool.not_eq_true',Bool.not_eq_false',Bool.not_eq_true,Bool.not_eq_false,ne_eq] at hdk
      refine W.skip ?_
      refine k_seq ?_
      refine W.seq ?_
      refine W.seq ?_
      refine W.regionL (l:=[0,1]) rfl ?_
      refine O.val hf rfl rfl rfl (RunV.move rfl) ?_
      clear hf a; intro a hf
      refine O.val (v:=.bool (!((!(bs.getD k false))&&(decide ((zs.getD k 0)≥(thr:Int)))))) hf rfl rfl rfl (RunV.not rfl) ?_
      clear hf a; intro a hf
      refine O.nil ?_
      refine k_seq ?_
      replace hf:Fr a 202 [] [(1,vB),(2,.int .i64 thr),(3,.int .i64 least),(4,.pointer (some ⟨b_f1,0,none⟩)),(9,.bool true),(12,vo),(14,.int .i64 (k:Int)),(15,.bool ((!(bs.getD k false))&&(decide ((zs.getD k 0)≥(thr:Int))))),(98,.bool (!((!(bs.getD k false))&&(decide ((zs.getD k 0)≥(thr:Int))))))]:=hf.to ⟨rfl,rfl,rfl,rfl,rfl,rfl,rfl,rfl,rfl,trivial⟩
      refine W.if_ hf rfl (fun hbr=>?_) (fun hbr=>?_)
      · have hbrb:=hbr
        try simp only [Bool.and_eq_true,Bool.or_eq_true,Bool.and_eq_false_iff,Bool.or_eq_false_iff,decide_eq_true_eq,decide_eq_false_iff_not,Bool.not_eq_true',Bool.not_eq_false',Bool.not_eq_true,Bool.not_eq_false,ne_eq] at hbr
        refine W.exit ?_
        refine k_then_exit ?_
        refine k_blk ?_
        refine k_seq ?_
        refine W.regionL (l:=[0,1,2]) rfl ?_
        refine O.val hf rfl rfl rfl (RunV.move rfl) ?_
        clear hf a; intro a hf
        refine O.val hf rfl rfl rfl (RunV.addI rfl rfl (by omega)) ?_
        clear hf a; intro a hf
        refine O.val hf rfl rfl rfl (RunV.assign rfl) ?_
        clear hf a; intro a hf
        refine O.nil ?_
        refine k_then ⟨(k+1),⟨hf.to ⟨rfl,rfl,rfl,rfl,rfl,rfl,(by first | rfl | exact congrArg some (congrArg (Value.int _) (by omega))),trivial⟩,?_,?_⟩,?_⟩
        · exact hS.eqM rfl
        · omega
        · dsimp only; omega
      · have hbrb:=hbr
        try simp only [Bool.and_eq_true,Bool.or_eq_true,Bool.and_eq_false_iff,Bool.or_eq_false_iff,decide_eq_true_eq,decide_eq_false_iff_not,Bool.not_eq_true',Bool.not_eq_false',Bool.not_eq_true,Bool.not_eq_false,ne_eq] at hbr
        refine W.skip ?_
        refine k_seq ?_
        refine W.seq ?_
        refine W.regionL (l:=[0,1,2,3]) rfl ?_
        refine O.val hf rfl rfl rfl (RunV.loadN (cs':=#[.int .i64 (fW:Int),.int .i64 (fH:Int),vP]) T_agg_24 T_size_24 rfl (hS.ptAt (i:=3) rfl) (Nat.le_of_ble_eq_true rfl) rfl) ?_
        clear hf a; intro a hf
        refine O.val hf rfl rfl rfl (RunV.move rfl) ?_
        clear hf a; intro a hf
        refine O.callR hf rfl rfl rfl (RunE.call (av:=#[.agg #[.int .i64 (fW:Int),.int .i64 (fH:Int),vP],.int .i64 (k:Int),.bool false]) C_ok_19 rfl rfl rfl) (near11_spec fW fH k vP _ hW hH (by omega)) ?_
        clear hf a
        rintro vn w12 hS1 a hf
        replace hf:Fr a _ _ ((101,vn)::_):=hf
        replace hS:=(hS.call hS1).eqM (N:=[sl 3 1 vn ((Det.nb fW fH k).length) (ints (Det.nb fW fH k)),sl 3 1 vo of.length (ints of),sl 26 1 va vs.length vs,inn vs (Det.sets fW fH zs bs (thr) least),pt b_f1 (.cells #[.int .i64 (fW:Int),.int .i64 (fH:Int),vP] 24 (0,0))]) rfl
        clear hS1
        refine O.val hf rfl rfl rfl (RunV.assign rfl) ?_
        clear hf a; intro a hf
        refine O.nil ?_
        have hnl:=(hS.slAt (j:=0) rfl).nle; unfold maxLen at hnl
        refine k_seq ?_
        replace hf:Fr a 202 [] [(1,vB),(2,.int .i64 thr),(3,.int .i64 least),(4,.pointer (some ⟨b_f1,0,none⟩)),(9,.bool true),(12,vo),(14,.int .i64 (k:Int)),(15,.bool ((!(bs.getD k false))&&(decide ((zs.getD k 0)≥(thr:Int))))),(16,vn)]:=hf.to ⟨rfl,rfl,rfl,rfl,rfl,rfl,rfl,rfl,rfl,trivial⟩
        refine W.seq ?_
        refine W.regionL (l:=[0]) rfl ?_
        refine O.val hf rfl rfl rfl (RunV.assign rfl) ?_
        clear hf a; intro a hf
        refine O.nil ?_
        refine k_seq ?_
        refine W.block ?_
        refine W.loop (G:=(Nat)) (fun g a w=>match g with | q=>Fr a 202 [] [(1,vB),(2,.int .i64 thr),(3,.int .i64 least),(4,.pointer (some ⟨b_f1,0,none⟩)),(9,.bool true),(12,vo),(14,.int .i64 (k:Int)),(15,.bool ((!(bs.getD k false))&&(decide ((zs.getD k 0)≥(thr:Int))))),(16,vn),(17,.int .i64 (q:Int))]∧St w0 w noX [rdv 1 vP zs.length (ints zs),rdv 1 vB bs.length (bools bs)] [sl 3 1 vn ((Det.nb fW fH k).length) (ints (Det.nb fW fH k)),sl 3 1 vo of.length (ints of),sl 26 1 va vs.length vs,inn vs (Det.sets fW fH zs bs (thr) least),pt b_f1 (.cells #[.int .i64 (fW:Int),.int .i64 (fH:Int),vP] 24 (0,0))]∧(q≤(Det.nb fW fH k).length)) (fun g=>match g with | q=>(Det.nb fW fH k).length-q) 0 ?_ ?_
        · refine ⟨hf.to ⟨rfl,rfl,rfl,rfl,rfl,rfl,rfl,rfl,rfl,(by first | rfl | exact congrArg some (congrArg (Value.int _) (by omega))),trivial⟩,hS,?_⟩
          · omega
        clear hf hS a
        rintro q a w ⟨hf,hS,g1⟩
        refine W.seq ?_
        refine W.seq ?_
        refine W.regionL (l:=[0,1,2,3]) rfl ?_
        refine O.val hf rfl rfl rfl (RunV.move rfl) ?_
        clear hf a; intro a hf
        refine O.val hf rfl rfl rfl (RunV.move rfl) ?_
        clear hf a; intro a hf
        refine O.val hf rfl rfl rfl (RunV.lenV (e:=3) (by simpa using T_elem_26) rfl (hS.slr (j:=0) rfl)) ?_
        clear hf a; intro a hf
        refine O.val (v:=.bool (decide ((q:Int)<(((Det.nb fW fH k).length:Int):Int)))) hf rfl rfl rfl (RunV.lss rfl rfl) ?_
        clear hf a; intro a hf
        refine O.nil ?_
        refine k_seq ?_
        replace hf:Fr a 202 [] [(1,vB),(2,.int .i64 thr),(3,.int .i64 least),(4,.pointer (some ⟨b_f1,0,none⟩)),(9,.bool true),(12,vo),(14,.int .i64 (k:Int)),(15,.bool ((!(bs.getD k false))&&(decide ((zs.getD k 0)≥(thr:Int))))),(16,vn),(17,.int .i64 (q:Int)),(105,.bool (decide ((q:Int)<(((Det.nb fW fH k).length:Int):Int))))]:=hf.to ⟨rfl,rfl,rfl,rfl,rfl,rfl,rfl,rfl,rfl,rfl,rfl,trivial⟩
        refine W.ifdI hf rfl (fun hq1=>?_) (fun hq1=>?_)
        · refine W.skip ?_
          refine k_seq ?_
          refine W.seq ?_
          refine W.block ?_
          refine W.seq ?_
          have hnr:=Det.nb_mem (Det.getD_mem (l:=(Det.nb fW fH k)) (j:=q) (by omega))
          refine W.drawQ (fun w=>St w0 w noX [rdv 1 vP zs.length (ints zs),rdv 1 vB bs.length (bools bs)] [sl 3 1 vn ((Det.nb fW fH k).length) (ints (Det.nb fW fH k)),sl 3 1 vo of.length (ints of),sl 26 1 va vs.length vs,inn vs (Det.sets fW fH zs bs (thr) least),pt b_f1 (.cells #[.int .i64 (fW:Int),.int .i64 (fH:Int),vP] 24 (0,0))]) P_mixed rfl (by kernel_rfl) rfl hS.drew ?_
          clear hS
          refine OQ.val (v:=vB) hf rfl (fun w hS=>RunV.move rfl) ?_; clear hf a; intro a hf
          refine OQ.val (v:=vn) hf rfl (fun w hS=>RunV.move rfl) ?_; clear hf a; intro a hf
          refine OQ.val (v:=.int .i64 (q:Int)) hf rfl (fun w hS=>RunV.move rfl) ?_; clear hf a; intro a hf
          refine OQ.val (v:=ix vn q) hf rfl (fun w hS=>RunV.ixV (j:=q) (m:=q) T_elem_26 T_size_3 rfl rfl (hS.slr (j:=0) rfl) rfl (by omega) (Nat.mul_one _)) ?_; clear hf a; intro a hf
          refine OQ.val (v:=.int .i64 ((Det.nb fW fH k).getD q 0)) hf rfl (fun w hS=>RunV.ld1 T_agg_3 rfl (hS.slr (j:=0) rfl) (ints_get (by omega))) ?_; clear hf a; intro a hf
          refine OQ.val (v:=ix vB (Int.toNat ((Det.nb fW fH k).getD q 0))) hf rfl (fun w hS=>RunV.ixV (j:=(Int.toNat ((Det.nb fW fH k).getD q 0))) (m:=(Int.toNat ((Det.nb fW fH k).getD q 0))) T_elem_25 T_size_4 rfl rfl (hS.rdAt (j:=1) rfl) (by rw [Int.toNat_of_nonneg (by omega)]) (by omega) (Nat.mul_one _)) ?_; clear hf a; intro a hf
          refine OQ.val (v:=.bool (bs.getD (Int.toNat ((Det.nb fW fH k).getD q 0)) false)) hf rfl (fun w hS=>RunV.ld1 T_agg_4 rfl (hS.rdAt (j:=1) rfl) (bools_get (by omega))) ?_; clear hf a; intro a hf
          refine OQ.val (v:=.bool (!(bs.getD (Int.toNat ((Det.nb fW fH k).getD q 0)) false))) hf rfl (fun w hS=>RunV.not rfl) ?_; clear hf a; intro a hf
          refine OQ.val (v:=.bool (!(bs.getD (Int.toNat ((Det.nb fW fH k).getD q 0)) false))) hf rfl (fun w hS=>RunV.move rfl) ?_; clear hf a; intro a hf
          refine OQ.cutK (K':=fun a=>Fr a 202 [] [(1,vB),(2,.int .i64 thr),(3,.int .i64 least),(4,.pointer (some ⟨b_f1,0,none⟩)),(9,.bool true),(12,vo),(14,.int .i64 (k:Int)),(15,.bool ((!(bs.getD k false))&&(decide ((zs.getD k 0)≥(thr:Int))))),(16,vn),(17,.int .i64 (q:Int)),(108,vB),(109,vn),(110,.int .i64 (q:Int)),(111,ix vn q),(112,.int .i64 ((Det.nb fW fH k).getD q 0)),(113,ix vB (Int.toNat ((Det.nb fW fH k).getD q 0))),(114,.bool (bs.getD (Int.toNat ((Det.nb fW fH k).getD q 0)) false)),(115,.bool (!(bs.getD (Int.toNat ((Det.nb fW fH k).getD q 0)) false))),(116,.bool (!(bs.getD (Int.toNat ((Det.nb fW fH k).getD q 0)) false))),(127,.bool ((!(bs.getD (Int.toNat ((Det.nb fW fH k).getD q 0)) false))&&(decide ((zs.getD (Int.toNat ((Det.nb fW fH k).getD q 0)) 0)≥(thr:Int)))))]) 11 ?_ ?_
          · rcases Bool.eq_false_or_eq_true (!(bs.getD (Int.toNat ((Det.nb fW fH k).getD q 0)) false)) with hb14 | hb14
            · have hb14p:=hb14
              try simp only [Bool.and_eq_true,Bool.or_eq_true,Bool.and_eq_false_iff,Bool.or_eq_false_iff,decide_eq_true_eq,decide_eq_false_iff_not,Bool.not_eq_true',Bool.not_eq_false',Bool.not_eq_true,Bool.not_eq_false,ne_eq] at hb14p
              refine OQ.gval (v:=.pointer (some ⟨b_f1,2,none⟩)) hf rfl rfl hb14 rfl (fun w hS=>RunV.field T_field_24_2 rfl rfl) ?_; clear hf a; intro a hf
              refine OQ.gval (v:=vP) hf rfl rfl hb14 rfl (fun w hS=>RunV.load1 T_agg_22 rfl (hS.ptAt (i:=4) rfl) rfl) ?_; clear hf a; intro a hf
              refine OQ.gval (v:=vn) hf rfl rfl hb14 rfl (fun w hS=>RunV.move rfl) ?_; clear hf a; intro a hf
              refine OQ.gval (v:=.int .i64 (q:Int)) hf rfl rfl hb14 rfl (fun w hS=>RunV.move rfl) ?_; clear hf a; intro a hf
              refine OQ.gval (v:=ix vn q) hf rfl rfl hb14 rfl (fun w hS=>RunV.ixV (j:=q) (m:=q) T_elem_26 T_size_3 rfl rfl (hS.slr (j:=0) rfl) rfl (by omega) (Nat.mul_one _)) ?_; clear hf a; intro a hf
              refine OQ.gval (v:=.int .i64 ((Det.nb fW fH k).getD q 0)) hf rfl rfl hb14 rfl (fun w hS=>RunV.ld1 T_agg_3 rfl (hS.slr (j:=0) rfl) (ints_get (by omega))) ?_; clear hf a; intro a hf
              refine OQ.gval (v:=ix vP (Int.toNat ((Det.nb fW fH k).getD q 0))) hf rfl rfl hb14 rfl (fun w hS=>RunV.ixV (j:=(Int.toNat ((Det.nb fW fH k).getD q 0))) (m:=(Int.toNat ((Det.nb fW fH k).getD q 0))) T_elem_22 T_size_2 rfl rfl (hS.rdAt (j:=0) rfl) (by rw [Int.toNat_of_nonneg (by omega)]) (by omega) (Nat.mul_one _)) ?_; clear hf a; intro a hf
              refine OQ.gval (v:=.int .i64 (zs.getD (Int.toNat ((Det.nb fW fH k).getD q 0)) 0)) hf rfl rfl hb14 rfl (fun w hS=>RunV.ld1 T_agg_2 rfl (hS.rdAt (j:=0) rfl) (ints_get (by omega))) ?_; clear hf a; intro a hf
              refine OQ.gval (v:=.int .i64 thr) hf rfl rfl hb14 rfl (fun w hS=>RunV.move rfl) ?_; clear hf a; intro a hf
              refine OQ.gval (v:=.bool (decide ((zs.getD (Int.toNat ((Det.nb fW fH k).getD q 0)) 0)≥(thr:Int)))) hf rfl rfl hb14 rfl (fun w hS=>RunV.geq rfl rfl) ?_; clear hf a; intro a hf
              refine OQ.val (v:=.bool ((!(bs.getD (Int.toNat ((Det.nb fW fH k).getD q 0)) false))&&(decide ((zs.getD (Int.toNat ((Det.nb fW fH k).getD q 0)) 0)≥(thr:Int))))) hf rfl (fun w hS=>RunV.pick rfl rfl rfl (by rw [hb14]; rfl)) ?_; clear hf a; intro a hf
              exact OQ.nil (hf.to ⟨rfl,rfl,rfl,rfl,rfl,rfl,rfl,rfl,rfl,rfl,rfl,rfl,rfl,rfl,rfl,rfl,rfl,rfl,rfl,rfl,trivial⟩)
            · have hb14p:=hb14
              try simp only [Bool.and_eq_true,Bool.or_eq_true,Bool.and_eq_false_iff,Bool.or_eq_false_iff,decide_eq_true_eq,decide_eq_false_iff_not,Bool.not_eq_true',Bool.not_eq_false',Bool.not_eq_true,Bool.not_eq_false,ne_eq] at hb14p
              refine OQ.skipB hf rfl rfl hb14 rfl ?_; clear hf a; intro a hf
              refine OQ.skipB hf rfl rfl hb14 rfl ?_; clear hf a; intro a hf
              refine OQ.skipB hf rfl rfl hb14 rfl ?_; clear hf a; intro a hf
              refine OQ.skipB hf rfl rfl hb14 rfl ?_; clear hf a; intro a hf
              refine OQ.skipB hf rfl rfl hb14 rfl ?_; clear hf a; intro a hf
              refine OQ.skipB hf rfl rfl hb14 rfl ?_; clear hf a; intro a hf
              refine OQ.skipB hf rfl rfl hb14 rfl ?_; clear hf a; intro a hf
              refine OQ.skipB hf rfl rfl hb14 rfl ?_; clear hf a; intro a hf
              refine OQ.skipB hf rfl rfl hb14 rfl ?_; clear hf a; intro a hf
              refine OQ.skipB hf rfl rfl hb14 rfl ?_; clear hf a; intro a hf
              refine OQ.val (v:=.bool ((!(bs.getD (Int.toNat ((Det.nb fW fH k).getD q 0)) false))&&(decide ((zs.getD (Int.toNat ((Det.nb fW fH k).getD q 0)) 0)≥(thr:Int))))) hf rfl (fun w hS=>RunV.pick rfl rfl rfl (by rw [hb14]; rfl)) ?_; clear hf a; intro a hf
              exact OQ.nil (hf.to ⟨rfl,rfl,rfl,rfl,rfl,rfl,rfl,rfl,rfl,rfl,rfl,rfl,rfl,rfl,rfl,rfl,rfl,rfl,rfl,rfl,trivial⟩)
          clear hf a; intro a hf
          refine OQ.val (v:=.bool ((!(bs.getD (Int.toNat ((Det.nb fW fH k).getD q 0)) false))&&(decide ((zs.getD (Int.toNat ((Det.nb fW fH k).getD q 0)) 0)≥(thr:Int))))) hf rfl (fun w hS=>RunV.move rfl) ?_; clear hf a; intro a hf
          refine OQ.cutK (K':=fun a=>Fr a 202 [] [(1,vB),(2,.int .i64 thr),(3,.int .i64 least),(4,.pointer (some ⟨b_f1,0,none⟩)),(9,.bool true),(12,vo),(14,.int .i64 (k:Int)),(15,.bool ((!(bs.getD k false))&&(decide ((zs.getD k 0)≥(thr:Int))))),(16,vn),(17,.int .i64 (q:Int)),(108,vB),(109,vn),(110,.int .i64 (q:Int)),(111,ix vn q),(112,.int .i64 ((Det.nb fW fH k).getD q 0)),(113,ix vB (Int.toNat ((Det.nb fW fH k).getD q 0))),(114,.bool (bs.getD (Int.toNat ((Det.nb fW fH k).getD q 0)) false)),(115,.bool (!(bs.getD (Int.toNat ((Det.nb fW fH k).getD q 0)) false))),(116,.bool (!(bs.getD (Int.toNat ((Det.nb fW fH k).getD q 0)) false))),(127,.bool ((!(bs.getD (Int.toNat ((Det.nb fW fH k).getD q 0)) false))&&(decide ((zs.getD (Int.toNat ((Det.nb fW fH k).getD q 0)) 0)≥(thr:Int))))),(128,.bool ((!(bs.getD (Int.toNat ((Det.nb fW fH k).getD q 0)) false))&&(decide ((zs.getD (Int.toNat ((Det.nb fW fH k).getD q 0)) 0)≥(thr:Int))))),(141,.bool (((!(bs.getD (Int.toNat ((Det.nb fW fH k).getD q 0)) false))&&(decide ((zs.getD (Int.toNat ((Det.nb fW fH k).getD q 0)) 0)≥(thr:Int))))&&(decide ((of.getD (Int.toNat ((Det.nb fW fH k).getD q 0)) 0)≠(of.getD k 0:Int)))))]) 13 ?_ ?_
          · rcases Bool.eq_false_or_eq_true ((!(bs.getD (Int.toNat ((Det.nb fW fH k).getD q 0)) false))&&(decide ((zs.getD (Int.toNat ((Det.nb fW fH k).getD q 0)) 0)≥(thr:Int)))) with hb15 | hb15
            · have hb15p:=hb15
              try simp only [Bool.and_eq_true,Bool.or_eq_true,Bool.and_eq_false_iff,Bool.or_eq_false_iff,decide_eq_true_eq,decide_eq_false_iff_not,Bool.not_eq_true',Bool.not_eq_false',Bool.not_eq_true,Bool.not_eq_false,ne_eq] at hb15p
              refine OQ.gval (v:=vo) hf rfl rfl hb15 rfl (fun w hS=>RunV.move rfl) ?_; clear hf a; intro a hf
              refine OQ.gval (v:=vn) hf rfl rfl hb15 rfl (fun w hS=>RunV.move rfl) ?_; clear hf a; intro a hf
              refine OQ.gval (v:=.int .i64 (q:Int)) hf rfl rfl hb15 rfl (fun w hS=>RunV.move rfl) ?_; clear hf a; intro a hf
              refine OQ.gval (v:=ix vn q) hf rfl rfl hb15 rfl (fun w hS=>RunV.ixV (j:=q) (m:=q) T_elem_26 T_size_3 rfl rfl (hS.slr (j:=0) rfl) rfl (by omega) (Nat.mul_one _)) ?_; clear hf a; intro a hf
              refine OQ.gval (v:=.int .i64 ((Det.nb fW fH k).getD q 0)) hf rfl rfl hb15 rfl (fun w hS=>RunV.ld1 T_agg_3 rfl (hS.slr (j:=0) rfl) (ints_get (by omega))) ?_; clear hf a; intro a hf
              refine OQ.gval (v:=ix vo (Int.toNat ((Det.nb fW fH k).getD q 0))) hf rfl rfl hb15 rfl (fun w hS=>RunV.ixV (j:=(Int.toNat ((Det.nb fW fH k).getD q 0))) (m:=(Int.toNat ((Det.nb fW fH k).getD q 0))) T_elem_26 T_size_3 rfl rfl (hS.slr (j:=1) rfl) (by rw [Int.toNat_of_nonneg (by omega)]) (by omega) (Nat.mul_one _)) ?_; clear hf a; intro a hf
              refine OQ.gval (v:=.int .i64 (of.getD (Int.toNat ((Det.nb fW fH k).getD q 0)) 0)) hf rfl rfl hb15 rfl (fun w hS=>RunV.ld1 T_agg_3 rfl (hS.slr (j:=1) rfl) (ints_get (by omega))) ?_; clear hf a; intro a hf
              refine OQ.gval (v:=vo) hf rfl rfl hb15 rfl (fun w hS=>RunV.move rfl) ?_; clear hf a; intro a hf
              refine OQ.gval (v:=.int .i64 (k:Int)) hf rfl rfl hb15 rfl (fun w hS=>RunV.move rfl) ?_; clear hf a; intro a hf
              refine OQ.gval (v:=ix vo k) hf rfl rfl hb15 rfl (fun w hS=>RunV.ixV (j:=k) (m:=k) T_elem_26 T_size_3 rfl rfl (hS.slr (j:=1) rfl) rfl (by omega) (Nat.mul_one _)) ?_; clear hf a; intro a hf
              refine OQ.gval (v:=.int .i64 (of.getD k 0)) hf rfl rfl hb15 rfl (fun w hS=>RunV.ld1 T_agg_3 rfl (hS.slr (j:=1) rfl) (ints_get (by omega))) ?_; clear hf a; intro a hf
              refine OQ.gval (v:=.bool (decide ((of.getD (Int.toNat ((Det.nb fW fH k).getD q 0)) 0)≠(of.getD k 0:Int)))) hf rfl rfl hb15 rfl (fun w hS=>RunV.neq rfl rfl) ?_; clear hf a; intro a hf
              refine OQ.val (v:=.bool (((!(bs.getD (Int.toNat ((Det.nb fW fH k).getD q 0)) false))&&(decide ((zs.getD (Int.toNat ((Det.nb fW fH k).getD q 0)) 0)≥(thr:Int))))&&(decide ((of.getD (Int.toNat ((Det.nb fW fH k).getD q 0)) 0)≠(of.getD k 0:Int))))) hf rfl (fun w hS=>RunV.pick rfl rfl rfl (by rw [hb15]; rfl)) ?_; clear hf a; intro a hf
              exact OQ.nil (hf.to ⟨rfl,rfl,rfl,rfl,rfl,rfl,rfl,rfl,rfl,rfl,rfl,rfl,rfl,rfl,rfl,rfl,rfl,rfl,rfl,rfl,rfl,rfl,trivial⟩)
            · have hb15p:=hb15
              try simp only [Bool.and_eq_true,Bool.or_eq_true,Bool.and_eq_false_iff,Bool.or_eq_false_iff,decide_eq_true_eq,decide_eq_false_iff_not,Bool.not_eq_true',Bool.not_eq_false',Bool.not_eq_true,Bool.not_eq_false,ne_eq] at hb15p
              refine OQ.skipB hf rfl rfl hb15 rfl ?_; clear hf a; intro a hf
              refine OQ.skipB hf rfl rfl hb15 rfl ?_; clear hf a; intro a hf
              refine OQ.skipB hf rfl rfl hb15 rfl ?_; clear hf a; intro a hf
              refine OQ.skipB hf rfl rfl hb15 rfl ?_; clear hf a; intro a hf
              refine OQ.skipB hf rfl rfl hb15 rfl ?_; clear hf a; intro a hf
              refine OQ.skipB hf rfl rfl hb15 rfl ?_; clear hf a; intro a hf
              refine OQ.skipB hf rfl rfl hb15 rfl ?_; clear hf a; intro a hf
              refine OQ.skipB hf rfl rfl hb15 rfl ?_; clear hf a; intro a hf
              refine OQ.skipB hf rfl rfl hb15 rfl ?_; clear hf a; intro a hf
              refine OQ.skipB hf rfl rfl hb15 rfl ?_; clear hf a; intro a hf
              refine OQ.skipB hf rfl rfl hb15 rfl ?_; clear hf a; intro a hf
              refine OQ.skipB hf rfl rfl hb15 rfl ?_; clear hf a; intro a hf
              refine OQ.val (v:=.bool (((!(bs.getD (Int.toNat ((Det.nb fW fH k).getD q 0)) false))&&(decide ((zs.getD (Int.toNat ((Det.nb fW fH k).getD q 0)) 0)≥(thr:Int))))&&(decide ((of.getD (Int.toNat ((Det.nb fW fH k).getD q 0)) 0)≠(of.getD k 0:Int))))) hf rfl (fun w hS=>RunV.pick rfl rfl rfl (by rw [hb15]; rfl)) ?_; clear hf a; intro a hf
              exact OQ.nil (hf.to ⟨rfl,rfl,rfl,rfl,rfl,rfl,rfl,rfl,rfl,rfl,rfl,rfl,rfl,rfl,rfl,rfl,rfl,rfl,rfl,rfl,rfl,rfl,trivial⟩)
          clear hf a; intro a hf
          refine OQ.nil ?_; intro w hS
          refine k_seq ?_
          replace hf:Fr a 202 [] [(1,vB),(2,.int .i64 thr),(3,.int .i64 least),(4,.pointer (some ⟨b_f1,0,none⟩)),(9,.bool true),(12,vo),(14,.int .i64 (k:Int)),(15,.bool ((!(bs.getD k false))&&(decide ((zs.getD k 0)≥(thr:Int))))),(16,vn),(17,.int .i64 (q:Int)),(141,.bool (((!(bs.getD (Int.toNat ((Det.nb fW fH k).getD q 0)) false))&&(decide ((zs.getD (Int.toNat ((Det.nb fW fH k).getD q 0)) 0)≥(thr:Int))))&&(decide ((of.getD (Int.toNat ((Det.nb fW fH k).getD q 0)) 0)≠(of.getD k 0:Int)))))]:=hf.to ⟨rfl,rfl,rfl,rfl,rfl,rfl,rfl,rfl,rfl,rfl,rfl,trivial⟩
          refine W.if_ hf rfl (fun hne=>?_) (fun hne=>?_)
          · have hneb:=hne
            try simp only [Bool.and_eq_true,Bool.or_eq_true,Bool.and_eq_false_iff,Bool.or_eq_false_iff,decide_eq_true_eq,decide_eq_false_iff_not,Bool.not_eq_true',Bool.not_eq_false',Bool.not_eq_true,Bool.not_eq_false,ne_eq] at hne
            exfalso; simp only [Bool.and_eq_true] at hneb; obtain ⟨g1,g2⟩:=hneb; rw [← Bool.and_eq_true,Det.bright_b (n:=fW*fH) (by omega)] at g1; simp only [Bool.not_eq_false'] at hbrb; rw [Det.bright_b (n:=fW*fH) (by omega)] at hbrb; have h:=Det.own_near (hBl thr) (ss:=Det.sets fW fH zs bs thr least) (least:=least) rfl (i:=k) (j:=(Int.toNat ((Det.nb fW fH k).getD q 0))) hbrb g1 (by rw [Int.toNat_of_nonneg (by omega)]; exact Det.getD_mem (by omega)); rw [← hof] at h; simp only [decide_eq_true_eq] at g2; omega
          · have hneb:=hne
            try simp only [Bool.and_eq_true,Bool.or_eq_true,Bool.and_eq_false_iff,Bool.or_eq_false_iff,decide_eq_true_eq,decide_eq_false_iff_not,Bool.not_eq_true',Bool.not_eq_false',Bool.not_eq_true,Bool.not_eq_false,ne_eq] at hne
            refine W.skip ?_
            refine k_blk_normal ?_
            refine k_seq ?_
            refine W.regionL (l:=[0,1,2]) rfl ?_
            refine O.val hf rfl rfl rfl (RunV.move rfl) ?_
            clear hf a; intro a hf
            refine O.val hf rfl rfl rfl (RunV.addI rfl rfl (by omega)) ?_
            clear hf a; intro a hf
            refine O.val hf rfl rfl rfl (RunV.assign rfl) ?_
            clear hf a; intro a hf
            refine O.nil ?_
            refine k_then ⟨(q+1),⟨hf.to ⟨rfl,rfl,rfl,rfl,rfl,rfl,rfl,rfl,rfl,(by first | rfl | exact congrArg some (congrArg (Value.int _) (by omega))),trivial⟩,?_,?_⟩,?_⟩
            · exact hS.eqM rfl
            · omega
            · dsimp only; omega
        · refine W.exit ?_
          refine k_then_exit ?_
          refine k_then_exit ?_
          refine k_blk ?_
          refine k_blk_normal ?_
          refine k_seq ?_
          refine W.regionL (l:=[0,1,2]) rfl ?_
          refine O.val hf rfl rfl rfl (RunV.move rfl) ?_
          clear hf a; intro a hf
          refine O.val hf rfl rfl rfl (RunV.addI rfl rfl (by omega)) ?_
          clear hf a; intro a hf
          refine O.val hf rfl rfl rfl (RunV.assign rfl) ?_
          clear hf a; intro a hf
          refine O.nil ?_
          replace hS:=hS.sub (N:=[sl 3 1 vo of.length (ints of),sl 26 1 va vs.length vs,inn vs (Det.sets fW fH zs bs (thr) least),pt b_f1 (.cells #[.int .i64 (fW:Int),.int .i64 (fH:Int),vP] 24 (0,0))]) (.cons _ (.cons_cons _ (.cons_cons _ (.cons_cons _ (.cons_cons _ .slnil)))))
          refine k_then ⟨(k+1),⟨hf.to ⟨rfl,rfl,rfl,rfl,rfl,rfl,(by first | rfl | exact congrArg some (congrArg (Value.int _) (by omega))),trivial⟩,?_,?_⟩,?_⟩
          · exact hS.eqM rfl
          · omega
          · dsimp only; omega
  · refine W.exit ?_
    refine k_then_exit ?_
    refine k_then_exit ?_
    refine k_blk ?_
    refine k_seq ?_
    replace hf:Fr a 202 [] [(1,vB),(2,.int .i64 thr),(3,.int .i64 least),(4,.pointer (some ⟨b_f1,0,none⟩)),(9,.bool true),(12,vo)]:=hf.to ⟨rfl,rfl,rfl,rfl,rfl,rfl,trivial⟩
    refine W.seq ?_
    refine W.regionL (l:=[0,1,2,3,4,5,6,7,8]) rfl ?_
    refine O.val hf rfl rfl rfl (RunV.loadN (cs':=#[.int .i64 (fW:Int),.int .i64 (fH:Int),vP]) T_agg_24 T_size_24 rfl (hS.ptAt (i:=3) rfl) (Nat.le_of_ble_eq_true rfl) rfl) ?_
    clear hf a; intro a hf
    refine O.val hf rfl rfl rfl (RunV.move rfl) ?_
    clear hf a; intro a hf
    refine O.val hf rfl rfl rfl (RunV.move rfl) ?_
    clear hf a; intro a hf
    refine O.callR hf rfl rfl rfl (RunE.call (av:=#[.agg #[.int .i64 (fW:Int),.int .i64 (fH:Int),vP],vB,.int .i64 thr,.int .i64 1]) C_ok_17 rfl rfl rfl) (parts6_ok fW fH (thr) 1 vP vB zs bs _ hfo hn hbl ht (by omega) (hS.rdAt (j:=0) rfl) (hS.rdAt (j:=1) rfl)) ?_
    clear hf a
    rintro ⟨vc,us⟩ w17 hS1 a hf
    replace hf:Fr a _ _ ((146,.tuple #[vc,.int .i64 0])::_):=hf
    replace hS:=(hS.call hS1).eqM (N:=[sl 26 1 vc us.length us,inn us (Det.sets fW fH zs bs (thr) 1),sl 3 1 vo of.length (ints of),sl 26 1 va vs.length vs,inn vs (Det.sets fW fH zs bs (thr) least),pt b_f1 (.cells #[.int .i64 (fW:Int),.int .i64 (fH:Int),vP] 24 (0,0))]) rfl
    clear hS1
    refine O.val hf rfl rfl rfl (RunV.move rfl) ?_
    clear hf a; intro a hf
    refine O.val hf rfl rfl rfl (RunV.extract rfl rfl) ?_
    clear hf a; intro a hf
    refine O.val hf rfl rfl rfl (RunV.extract rfl rfl) ?_
    clear hf a; intro a hf
    refine O.val hf rfl rfl rfl (RunV.assign rfl) ?_
    clear hf a; intro a hf
    refine O.val hf rfl rfl rfl (RunV.assign rfl) ?_
    clear hf a; intro a hf
    refine O.nil ?_
    have hul:=(hS.innAt (j:=1) rfl).1
    have hum:=(hS.slAt (j:=0) rfl).nle; unfold maxLen at hum
    refine k_seq ?_
    replace hf:Fr a 202 [] [(3,.int .i64 least),(4,.pointer (some ⟨b_f1,0,none⟩)),(9,.bool true),(12,vo),(18,vc),(19,.int .i64 0)]:=hf.to ⟨rfl,rfl,rfl,rfl,rfl,rfl,trivial⟩
    refine W.seq ?_
    refine W.seq ?_
    refine W.regionL (l:=[0,1]) rfl ?_
    refine O.val hf rfl rfl rfl (RunV.move rfl) ?_
    clear hf a; intro a hf
    refine O.val hf rfl rfl rfl (RunV.toB (c:=false) (RunV.neq rfl rfl) (by decide)) ?_
    clear hf a; intro a hf
    refine O.nil ?_
    refine k_seq ?_
    replace hf:Fr a 202 [] [(3,.int .i64 least),(4,.pointer (some ⟨b_f1,0,none⟩)),(9,.bool true),(12,vo),(18,vc),(150,.bool false)]:=hf.to ⟨rfl,rfl,rfl,rfl,rfl,rfl,trivial⟩
    refine W.if_ff hf rfl ?_
    refine W.skip ?_
    refine k_seq ?_
    replace hf:Fr a 202 [] [(3,.int .i64 least),(4,.pointer (some ⟨b_f1,0,none⟩)),(9,.bool true),(12,vo),(18,vc)]:=hf.to ⟨rfl,rfl,rfl,rfl,rfl,trivial⟩
    refine W.seq ?_
    refine W.seq ?_
    refine W.regionL (l:=[0]) rfl ?_
    refine O.val hf rfl rfl rfl (RunV.assign rfl) ?_
    clear hf a; intro a hf
    refine O.nil ?_
    refine k_seq ?_
    refine W.block ?_
    refine W.loop (G:=(Nat)) (fun g a w=>match g with | s=>Fr a 202 [] [(3,.int .i64 least),(4,.pointer (some ⟨b_f1,0,none⟩)),(9,.bool true),(12,vo),(18,vc),(20,.int .i64 (s:Int))]∧St w0 w noX [rdv 1 vP zs.length (ints zs),rdv 1 vB bs.length (bools bs)] [sl 26 1 vc us.length us,inn us (Det.sets fW fH zs bs (thr) 1),sl 3 1 vo of.length (ints of),sl 26 1 va vs.length vs,inn vs (Det.sets fW fH zs bs (thr) least),pt b_f1 (.cells #[.int .i64 (fW:Int),.int .i64 (fH:Int),vP] 24 (0,0))]∧(s≤us.length)) (fun g=>match g with | s=>us.length-s) 0 ?_ ?_
    · refine ⟨hf.to ⟨rfl,rfl,rfl,rfl,rfl,(by first | rfl | exact congrArg some (congrArg (Value.int _) (by omega))),trivial⟩,hS,?_⟩
      · omega
    clear hf hS a
    rintro s a w ⟨hf,hS,h3⟩
    refine W.seq ?_
    refine W.seq ?_
    refine W.regionL (l:=[0,1,2,3]) rfl ?_
    refine O.val hf rfl rfl rfl (RunV.move rfl) ?_
    clear hf a; intro a hf
    refine O.val hf rfl rfl rfl (RunV.move rfl) ?_
    clear hf a; intro a hf
    refine O.val hf rfl rfl rfl (RunV.lenV (e:=26) (by simpa using T_elem_28) rfl (hS.slr (j:=0) rfl)) ?_
    clear hf a; intro a hf
    refine O.val (v:=.bool (decide ((s:Int)<((us.length:Int):Int)))) hf rfl rfl rfl (RunV.lss rfl rfl) ?_
    clear hf a; intro a hf
    refine O.nil ?_
    refine k_seq ?_
    replace hf:Fr a 202 [] [(3,.int .i64 least),(4,.pointer (some ⟨b_f1,0,none⟩)),(9,.bool true),(12,vo),(18,vc),(20,.int .i64 (s:Int)),(154,.bool (decide ((s:Int)<((us.length:Int):Int))))]:=hf.to ⟨rfl,rfl,rfl,rfl,rfl,rfl,rfl,trivial⟩
    refine W.ifdI hf rfl (fun hs1=>?_) (fun hs1=>?_)
    · refine W.skip ?_
      refine k_seq ?_
      refine W.seq ?_
      refine W.block ?_
      refine W.seq ?_
      have hsg:=Det.sets_good (hBl thr) (least:=1) rfl _ (Det.at_mem (ss:=(Det.sets fW fH zs bs (thr) 1)) (q:=s) (by omega))
      have hsr:=Det.sets_rng (hBl thr) (least:=1) rfl _ (Det.at_mem (ss:=(Det.sets fW fH zs bs (thr) 1)) (q:=s) (by omega)) _ (Det.getD_mem (j:=0) (by have:=hsg.2; omega))
      have hsm:=Det.own_small (hBl thr) (ss:=Det.sets fW fH zs bs thr least) (least:=least) (one:=1) rfl rfl (Det.at_mem (ss:=(Det.sets fW fH zs bs (thr) 1)) (q:=s) (by omega))
      rw [← hof] at hsm
      refine W.drawQ (fun w=>St w0 w noX [rdv 1 vP zs.length (ints zs),rdv 1 vB bs.length (bools bs)] [sl 26 1 vc us.length us,inn us (Det.sets fW fH zs bs (thr) 1),sl 3 1 vo of.length (ints of),sl 26 1 va vs.length vs,inn vs (Det.sets fW fH zs bs (thr) least),pt b_f1 (.cells #[.int .i64 (fW:Int),.int .i64 (fH:Int),vP] 24 (0,0))]) P_mixed rfl (by kernel_rfl) rfl hS.drew ?_
      clear hS
      refine OQ.val (v:=vc) hf rfl (fun w hS=>RunV.move rfl) ?_; clear hf a; intro a hf
      refine OQ.val (v:=.int .i64 (s:Int)) hf rfl (fun w hS=>RunV.move rfl) ?_; clear hf a; intro a hf
      refine OQ.val (v:=ix vc s) hf rfl (fun w hS=>RunV.ixV (j:=s) (m:=s) T_elem_28 T_size_26 rfl rfl (hS.slr (j:=0) rfl) rfl (by omega) (Nat.mul_one _)) ?_; clear hf a; intro a hf
      refine OQ.val (v:=(us.getD s undef)) hf rfl (fun w hS=>RunV.ld1 T_agg_26 rfl (hS.slr (j:=0) rfl) (vs_get (by omega))) ?_; clear hf a; intro a hf
      refine OQ.val (v:=.int .i64 (((Det.sets fW fH zs bs (thr) 1).getD s []).length:Int)) hf rfl (fun w hS=>RunV.lenV (e:=3) (by simpa using T_elem_26) rfl (innOK.get (hS.innAt (j:=1) rfl) (i:=s) (by omega))) ?_; clear hf a; intro a hf
      refine OQ.val (v:=.bool (decide ((((Det.sets fW fH zs bs (thr) 1).getD s []).length:Int)<(1:Int)))) hf rfl (fun w hS=>RunV.lss rfl rfl) ?_; clear hf a; intro a hf
      refine OQ.val (v:=.bool (decide ((((Det.sets fW fH zs bs (thr) 1).getD s []).length:Int)<(1:Int)))) hf rfl (fun w hS=>RunV.move rfl) ?_; clear hf a; intro a hf
      have hbg:(decide ((((Det.sets fW fH zs bs (thr) 1).getD s []).length:Int)<(1:Int)))=false:=decide_eq_false (by have:=(Det.sets_good (hBl thr) (least:=1) rfl _ (Det.at_mem (ss:=(Det.sets fW fH zs bs (thr) 1)) (q:=s) (by omega))).2; omega)
      simp only [hbg] at hf; clear hbg
      refine OQ.gval (v:=.agg #[.int .i64 (fW:Int),.int .i64 (fH:Int),vP]) hf rfl rfl rfl rfl (fun w hS=>RunV.loadN (cs':=#[.int .i64 (fW:Int),.int .i64 (fH:Int),vP]) T_agg_24 T_size_24 rfl (hS.ptAt (i:=5) rfl) (Nat.le_of_ble_eq_true rfl) rfl) ?_; clear hf a; intro a hf
      refine OQ.gval (v:=vc) hf rfl rfl rfl rfl (fun w hS=>RunV.move rfl) ?_; clear hf a; intro a hf
      refine OQ.gval (v:=.int .i64 (s:Int)) hf rfl rfl rfl rfl (fun w hS=>RunV.move rfl) ?_; clear hf a; intro a hf
      refine OQ.gval (v:=ix vc s) hf rfl rfl rfl rfl (fun w hS=>RunV.ixV (j:=s) (m:=s) T_elem_28 T_size_26 rfl rfl (hS.slr (j:=0) rfl) rfl (by omega) (Nat.mul_one _)) ?_; clear hf a; intro a hf
      refine OQ.gval (v:=(us.getD s undef)) hf rfl rfl rfl rfl (fun w hS=>RunV.ld1 T_agg_26 rfl (hS.slr (j:=0) rfl) (vs_get (by omega))) ?_; clear hf a; intro a hf
      refine OQ.gcallRq (v:=.bool true) hf rfl rfl rfl rfl (fun w hS=>RunE.call (av:=#[.agg #[.int .i64 (fW:Int),.int .i64 (fH:Int),vP],(us.getD s undef)]) C_ok_20 rfl rfl rfl) (fun w hS=>conn13_true fW fH vP (us.getD s undef) zs ((Det.sets fW fH zs bs (thr) 1).getD s []) _ hsg.1 hW hH hn (hS.rdAt (j:=0) rfl) ((hS.innAt (j:=1) rfl).get (i:=s) (by omega))) ?_; clear hf a; intro a hf
      refine OQ.gval (v:=.bool false) hf rfl rfl rfl rfl (fun w hS=>RunV.not (b:=true) rfl) ?_; clear hf a; intro a hf
      refine OQ.val (v:=.bool false) hf rfl (fun w hS=>RunV.pick rfl rfl rfl rfl) ?_; clear hf a; intro a hf
      refine OQ.val (v:=.bool false) hf rfl (fun w hS=>RunV.move rfl) ?_; clear hf a; intro a hf
      refine OQ.gval (v:=vc) hf rfl rfl rfl rfl (fun w hS=>RunV.move rfl) ?_; clear hf a; intro a hf
      refine OQ.gval (v:=.int .i64 (s:Int)) hf rfl rfl rfl rfl (fun w hS=>RunV.move rfl) ?_; clear hf a; intro a hf
      refine OQ.gval (v:=ix vc s) hf rfl rfl rfl rfl (fun w hS=>RunV.ixV (j:=s) (m:=s) T_elem_28 T_size_26 rfl rfl (hS.slr (j:=0) rfl) rfl (by omega) (Nat.mul_one _)) ?_; clear hf a; intro a hf
      refine OQ.gval (v:=(us.getD s undef)) hf rfl rfl rfl rfl (fun w hS=>RunV.ld1 T_agg_26 rfl (hS.slr (j:=0) rfl) (vs_get (by omega))) ?_; clear hf a; intro a hf
      refine OQ.gval (v:=.int .i64 (((Det.sets fW fH zs bs (thr) 1).getD s []).length:Int)) hf rfl rfl rfl rfl (fun w hS=>RunV.lenV (e:=3) (by simpa using T_elem_26) rfl (innOK.get (hS.innAt (j:=1) rfl) (i:=s) (by omega))) ?_; clear hf a; intro a hf
      refine OQ.gval (v:=.int .i64 least) hf rfl rfl rfl rfl (fun w hS=>RunV.move rfl) ?_; clear hf a; intro a hf
      refine OQ.gval (v:=.bool (decide ((((Det.sets fW fH zs bs (thr) 1).getD s []).length:Int)<(least:Int)))) hf rfl rfl rfl rfl (fun w hS=>RunV.lss rfl rfl) ?_; clear hf a; intro a hf
      refine OQ.gval (v:=vo) hf rfl rfl rfl rfl (fun w hS=>RunV.move rfl) ?_; clear hf a; intro a hf
      refine OQ.gval (v:=vc) hf rfl rfl rfl rfl (fun w hS=>RunV.move rfl) ?_; clear hf a; intro a hf
      refine OQ.gval (v:=.int .i64 (s:Int)) hf rfl rfl rfl rfl (fun w hS=>RunV.move rfl) ?_; clear hf a; intro a hf
      refine OQ.gval (v:=ix vc s) hf rfl rfl rfl rfl (fun w hS=>RunV.ixV (j:=s) (m:=s) T_elem_28 T_size_26 rfl rfl (hS.slr (j:=0) rfl) rfl (by omega) (Nat.mul_one _)) ?_; clear hf a; intro a hf
      refine OQ.gval (v:=(us.getD s undef)) hf rfl rfl rfl rfl (fun w hS=>RunV.ld1 T_agg_26 rfl (hS.slr (j:=0) rfl) (vs_get (by omega))) ?_; clear hf a; intro a hf
      refine OQ.gval (v:=ix (us.getD s undef) 0) hf rfl rfl rfl rfl (fun w hS=>RunV.ixV (j:=0) (m:=0) T_elem_26 T_size_3 rfl rfl (innOK.get (hS.innAt (j:=1) rfl) (i:=s) (by omega)) rfl (by have:=hsg.2; omega) (Nat.mul_one _)) ?_; clear hf a; intro a hf
      refine OQ.gval (v:=.int .i64 (((Det.sets fW fH zs bs (thr) 1).getD s []).getD 0 0)) hf rfl rfl rfl rfl (fun w hS=>RunV.ld1 T_agg_3 rfl (innOK.get (hS.innAt (j:=1) rfl) (i:=s) (by omega)) (ints_get (by omega))) ?_; clear hf a; intro a hf
      refine OQ.gval (v:=ix vo (Int.toNat (((Det.sets fW fH zs bs (thr) 1).getD s []).getD 0 0))) hf rfl rfl rfl rfl (fun w hS=>RunV.ixV (j:=(Int.toNat (((Det.sets fW fH zs bs (thr) 1).getD s []).getD 0 0))) (m:=(Int.toNat (((Det.sets fW fH zs bs (thr) 1).getD s []).getD 0 0))) T_elem_26 T_size_3 rfl rfl (hS.slr (j:=2) rfl) (by rw [Int.toNat_of_nonneg (by omega)]) (by omega) (Nat.mul_one _)) ?_; clear hf a; intro a hf
      refine OQ.gval (v:=.int .i64 (of.getD (Int.toNat (((Det.sets fW fH zs bs (thr) 1).getD s []).getD 0 0)) 0)) hf rfl rfl rfl rfl (fun w hS=>RunV.ld1 T_agg_3 rfl (hS.slr (j:=2) rfl) (ints_get (by omega))) ?_; clear hf a; intro a hf
      refine OQ.gval (v:=.bool (decide ((of.getD (Int.toNat (((Det.sets fW fH zs bs (thr) 1).getD s []).getD 0 0)) 0)<(0:Int)))) hf rfl rfl rfl rfl (fun w hS=>RunV.lss rfl rfl) ?_; clear hf a; intro a hf
      refine OQ.gval (v:=.bool false) hf rfl rfl rfl rfl (fun w hS=>RunV.toB (RunV.neBool (b1:=decide ((((Det.sets fW fH zs bs (thr) 1).getD s []).length:Int)<least)) (b2:=decide (of.getD (Int.toNat (((Det.sets fW fH zs bs (thr) 1).getD s []).getD 0 0)) 0<0)) Tryz.underlying4 rfl rfl) (Det.xor_iff hsm)) ?_; clear hf a; intro a hf
      refine OQ.val (v:=.bool false) hf rfl (fun w hS=>RunV.pick rfl rfl rfl rfl) ?_; clear hf a; intro a hf
      refine OQ.nil ?_; intro w hS
      refine k_seq ?_
      replace hf:Fr a 202 [] [(3,.int .i64 least),(4,.pointer (some ⟨b_f1,0,none⟩)),(9,.bool true),(12,vo),(18,vc),(20,.int .i64 (s:Int)),(191,.bool false)]:=hf.to ⟨rfl,rfl,rfl,rfl,rfl,rfl,rfl,trivial⟩
      refine W.if_ff hf rfl ?_
      refine W.skip ?_
      refine k_blk_normal ?_
      refine k_seq ?_
      refine W.regionL (l:=[0,1,2]) rfl ?_
      refine O.val hf rfl rfl rfl (RunV.move rfl) ?_
      clear hf a; intro a hf
      refine O.val hf rfl rfl rfl (RunV.addI rfl rfl (by omega)) ?_
      clear hf a; intro a hf
      refine O.val hf rfl rfl rfl (RunV.assign rfl) ?_
      clear hf a; intro a hf
      refine O.nil ?_
      refine k_then ⟨(s+1),⟨hf.to ⟨rfl,rfl,rfl,rfl,rfl,(by first | rfl | exact congrArg some (congrArg (Value.int _) (by omega))),trivial⟩,?_,?_⟩,?_⟩
      · exact hS.eqM rfl
      · omega
      · dsimp only; omega
    · refine W.exit ?_
      refine k_then_exit ?_
      refine k_then_exit ?_
      refine k_blk ?_
      refine k_seq ?_
      replace hf:Fr a 202 [] [(4,.pointer (some ⟨b_f1,0,none⟩)),(9,.bool true),(18,vc)]:=hf.to ⟨rfl,rfl,rfl,trivial⟩
      refine W.seq ?_
      refine W.regionL (l:=[0,1,2,3,4,5,6,7]) rfl ?_
      refine O.val hf rfl rfl rfl (RunV.loadN (cs':=#[.int .i64 (fW:Int),.int .i64 (fH:Int),vP]) T_agg_24 T_size_24 rfl (hS.ptAt (i:=5) rfl) (Nat.le_of_ble_eq_true rfl) rfl) ?_
      clear hf a; intro a hf
      refine O.val hf rfl rfl rfl (RunV.move rfl) ?_
      clear hf a; intro a hf
      refine O.callR hf rfl rfl rfl (RunE.call (av:=#[.agg #[.int .i64 (fW:Int),.int .i64 (fH:Int),vP],vc,.int .i64 1]) C_ok_18 rfl rfl rfl) (owners_spec fW fH 1 vP vc zs us (Det.sets fW fH zs bs (thr) 1) _ hW hH hn (hS.rdAt (j:=0) rfl) (hS.slr (j:=0) rfl) (hS.innAt (j:=1) rfl) (Det.sets_good (hBl _) rfl) (Det.sets_rng (hBl _) rfl) (Det.sets_apart (hBl _) rfl)) ?_
      clear hf a
      rintro vq w19 hS1 a hf
      replace hf:Fr a _ _ ((195,.tuple #[vq,.bool true])::_):=hf
      replace hS:=(hS.call hS1).eqM (N:=[sl 3 1 vq ((Det.own (fW*fH) (Det.sets fW fH zs bs (thr) 1) (Det.sets fW fH zs bs (thr) 1).length).length) (ints (Det.own (fW*fH) (Det.sets fW fH zs bs (thr) 1) (Det.sets fW fH zs bs (thr) 1).length)),sl 26 1 vc us.length us,inn us (Det.sets fW fH zs bs (thr) 1),sl 3 1 vo of.length (ints of),sl 26 1 va vs.length vs,inn vs (Det.sets fW fH zs bs (thr) least),pt b_f1 (.cells #[.int .i64 (fW:Int),.int .i64 (fH:Int),vP] 24 (0,0))]) rfl
      clear hS1
      refine O.val hf rfl rfl rfl (RunV.move rfl) ?_
      clear hf a; intro a hf
      refine O.val hf rfl rfl rfl (RunV.extract rfl rfl) ?_
      clear hf a; intro a hf
      refine O.val hf rfl rfl rfl (RunV.extract rfl rfl) ?_
      clear hf a; intro a hf
      refine O.val hf rfl rfl rfl (RunV.assign rfl) ?_
      clear hf a; intro a hf
      refine O.val hf rfl rfl rfl (RunV.assign rfl) ?_
      clear hf a; intro a hf
      refine O.nil ?_
      refine k_seq ?_
      replace hf:Fr a 202 [] [(9,.bool true),(22,.bool true)]:=hf.to ⟨rfl,rfl,trivial⟩
      refine W.seq ?_
      refine W.regionL (l:=[0,1,2,3,4]) rfl ?_
      refine O.val hf rfl rfl rfl (RunV.move rfl) ?_
      clear hf a; intro a hf
      refine O.val hf rfl rfl rfl (RunV.move rfl) ?_
      clear hf a; intro a hf
      refine O.gvalB (v:=.bool true) hf rfl rfl rfl rfl rfl rfl (RunV.move rfl) ?_
      clear hf a; intro a hf
      refine O.val (v:=.bool true) hf rfl rfl rfl (RunV.pick rfl rfl rfl rfl) ?_
      clear hf a; intro a hf
      refine O.val hf rfl rfl rfl (RunV.assign rfl) ?_
      clear hf a; intro a hf
      refine O.nil ?_
      refine k_seq ?_
      replace hf:Fr a 202 [] [(8,.bool true)]:=hf.to ⟨rfl,trivial⟩
      refine W.ret ?_
      refine post1 hf rfl (ResOK.tmp rfl) ?_
      exact ⟨(),rfl,hS.sub (List.nil_sublist _) |>.noB⟩
set_option maxHeartbeats 400000 in
set_option maxRecDepth 4000 in
theorem more_early (fW fH thr more least:Int) (vP vB:Value) (zs:List Int) (bs:List Bool) (w0:World) [Decidable (Det.fieldOK fW fH zs)] (hP:rdOK (hp w0) 1 vP zs.length (ints zs)) (hB:rdOK (hp w0) 1 vB bs.length (bools bs)) (hbad:¬ (Det.fieldOK fW fH zs∧bs.length=zs.length∧zs.length≤100∧0≤more∧more≤8589934592∧-8589934592≤thr∧thr≤8589934592)) :
    Ret Tryz.prog 6 #[.agg #[.int .i64 fW,.int .i64 fH,vP],vB,.int .i64 thr,.int .i64 more,.int .i64 least] w0 (G:=Unit) (fun _=>.bool true) (fun _ w=>St w0 w noX [] []):=by
  refine ret_of_W (lv:=[.agg #[.int .i64 fW,.int .i64 fH,vP],vB,.int .i64 thr,.int .i64 more,.int .i64 least]) Tryz.func6 rfl rfl rfl (fun a hf=>?_)
  replace hf:Fr a 147 [] [(0,.agg #[.int .i64 fW,.int .i64 fH,vP]),(1,vB),(2,.int .i64 thr),(3,.int .i64 more),(4,.int .i64 least)]:=hf
  have hS:St w0 w0 noX [rdv 1 vP zs.length (ints zs),rdv 1 vB bs.length (bools bs)] []:=((St.refl w0).lend0 hB).lend0 hP
  refine W.seq ?_
  refine W.regionL (l:=[0,1]) rfl ?_
  refine O.box (cs:=#[.int .i64 fW,.int .i64 fH,vP]) hf hS rfl rfl rfl rfl ?_
  clear hf hS a; intro b_f1 w a hbb_f1 hS hf
  refine O.val hf rfl rfl rfl (RunV.assign rfl) ?_
  clear hf a; intro a hf
  refine O.nil ?_
  refine k_seq ?_
  replace hf:Fr a 147 [] [(1,vB),(2,.int .i64 thr),(3,.int .i64 more),(4,.int .i64 least),(5,.pointer (some ⟨b_f1,0,none⟩)),(10,.bool false)]:=hf.to ⟨rfl,rfl,rfl,rfl,rfl,rfl,trivial⟩
  refine W.seq ?_
  refine W.regionL (l:=[0,1]) rfl ?_
  refine O.callR hf rfl rfl rfl (RunE.call (av:=#[]) C_ok_15 rfl rfl rfl) (alive_spec _) ?_
  clear hf a
  rintro _ w2 hS1 a hf
  replace hf:Fr a _ _ ((22,.bool true)::_):=hf
  replace hS:=(hS.call hS1).eqM (N:=[pt b_f1 (.cells #[.int .i64 fW,.int .i64 fH,vP] 24 (0,0))]) rfl
  clear hS1
  refine O.val hf rfl rfl rfl (RunV.assign rfl) ?_
  clear hf a; intro a hf
  refine O.nil ?_
  refine k_seq ?_
  replace hf:Fr a 147 [] [(1,vB),(2,.int .i64 thr),(3,.int .i64 more),(4,.int .i64 least),(5,.pointer (some ⟨b_f1,0,none⟩)),(10,.bool false),(11,.bool true)]:=hf.to ⟨rfl,rfl,rfl,rfl,rfl,rfl,rfl,trivial⟩
  refine W.seq ?_
  refine W.seq ?_
  refine W.regionL (l:=[0,1,2,3,4,5,6,7,8,9,10,11,12,13,14,15,16,17,18,19,20,21,22,23,24,25,26,27,28]) rfl ?_
  refine O.val hf rfl rfl rfl (RunV.loadN (cs':=#[.int .i64 fW,.int .i64 fH,vP]) T_agg_24 T_size_24 rfl (hS.ptAt (i:=0) rfl) (Nat.le_of_ble_eq_true rfl) rfl) ?_
  clear hf a; intro a hf
  refine O.val hf rfl rfl rfl (RunV.move rfl) ?_
  clear hf a; intro a hf
  refine O.callR hf rfl rfl rfl (RunE.call (av:=#[.agg #[.int .i64 fW,.int .i64 fH,vP],vB]) C_ok_8 rfl rfl rfl) (great_spec fW fH vP vB zs bs _ (hS.rdAt (j:=0) rfl) (hS.rdAt (j:=1) rfl)) ?_
  clear hf a
  rintro _ w3 hS1 a hf
  replace hf:Fr a _ _ ((25,.bool (decide ((zs.length:Int)>100)||decide ((bs.length:Int)>120)))::_):=hf
  replace hS:=(hS.call hS1).eqM (N:=[pt b_f1 (.cells #[.int .i64 fW,.int .i64 fH,vP] 24 (0,0))]) rfl
  clear hS1
  refine O.val hf rfl rfl rfl (RunV.move rfl) ?_
  clear hf a; intro a hf
  refine O.cutN (l₁:=[4,5,6,7,8]) (l₂:=_) (fun a w=>Fr a 147 [] [(1,vB),(2,.int .i64 thr),(3,.int .i64 more),(4,.int .i64 least),(5,.pointer (some ⟨b_f1,0,none⟩)),(10,.bool false),(11,.bool true),(23,.agg #[.int .i64 fW,.int .i64 fH,vP]),(24,vB),(25,.bool (decide ((zs.length:Int)>100)||decide ((bs.length:Int)>120))),(26,.bool (decide ((zs.length:Int)>100)||decide ((bs.length:Int)>120))),(31,.bool ((decide ((zs.length:Int)>100)||decide ((bs.length:Int)>120))||(decide ((if Det.fieldOK fW fH zs then (if bs.length=zs.length then 0 else 2) else 8)≠(0:Int)))))]∧St w0 w noX [rdv 1 vP zs.length (ints zs),rdv 1 vB bs.length (bools bs)] [pt b_f1 (.cells #[.int .i64 fW,.int .i64 fH,vP] 24 (0,0))]) rfl ?_ ?_
  · rcases Bool.eq_false_or_eq_true (decide ((zs.length:Int)>100)||decide ((bs.length:Int)>120)) with hb4 | hb4
    · have hb4p:=hb4
      try simp only [Bool.and_eq_true,Bool.or_eq_true,Bool.and_eq_false_iff,Bool.or_eq_false_iff,decide_eq_true_eq,decide_eq_false_iff_not,Bool.not_eq_true',Bool.not_eq_false',Bool.not_eq_true,Bool.not_eq_false,ne_eq] at hb4p
      refine O.skipB hf rfl rfl rfl hb4 rfl ?_; clear hf a; intro a hf
      refine O.skipB hf rfl rfl rfl hb4 rfl ?_; clear hf a; intro a hf
      refine O.skipB hf rfl rfl rfl hb4 rfl ?_; clear hf a; intro a hf
      refine O.skipB hf rfl rfl rfl hb4 rfl ?_; clear hf a; intro a hf
      refine O.val (v:=.bool ((decide ((zs.length:Int)>100)||decide ((bs.length:Int)>120))||(decide ((if Det.fieldOK fW fH zs then (if bs.length=zs.length then 0 else 2) else 8)≠(0:Int))))) hf rfl rfl rfl (RunV.pick rfl rfl rfl (by rw [hb4]; rfl)) ?_; clear hf a; intro a hf
      exact O.nil ⟨rfl,hf.to ⟨rfl,rfl,rfl,rfl,rfl,rfl,rfl,rfl,rfl,rfl,rfl,rfl,trivial⟩,hS⟩
    · have hb4p:=hb4
      try simp only [Bool.and_eq_true,Bool.or_eq_true,Bool.and_eq_false_iff,Bool.or_eq_false_iff,decide_eq_true_eq,decide_eq_false_iff_not,Bool.not_eq_true',Bool.not_eq_false',Bool.not_eq_true,Bool.not_eq_false,ne_eq] at hb4p
      refine O.gvalB (v:=.agg #[.int .i64 fW,.int .i64 fH,vP]) hf rfl rfl rfl hb4 rfl rfl (RunV.loadN (cs':=#[.int .i64 fW,.int .i64 fH,vP]) T_agg_24 T_size_24 rfl (hS.ptAt (i:=0) rfl) (Nat.le_of_ble_eq_true rfl) rfl) ?_
      clear hf a; intro a hf
      refine O.gvalB (v:=vB) hf rfl rfl rfl hb4 rfl rfl (RunV.move rfl) ?_
      clear hf a; intro a hf
      refine O.gcallR hf rfl rfl rfl hb4 rfl rfl (RunE.call (av:=#[.agg #[.int .i64 fW,.int .i64 fH,vP],vB]) C_ok_16 rfl rfl rfl) (start11_spec fW fH vP vB zs bs _ (hS.rdAt (j:=0) rfl) (hS.rdAt (j:=1) rfl)) ?_
      clear hf a
      rintro _ w5 hS1 a hf
      replace hf:Fr a _ _ ((29,.int .i64 (if Det.fieldOK fW fH zs then (if bs.length=zs.length then 0 else 2) else 8))::_):=hf
      replace hS:=(hS.call hS1).eqM (N:=[pt b_f1 (.cells #[.int .i64 fW,.int .i64 fH,vP] 24 (0,0))]) rfl
      clear hS1
      refine O.gvalB (v:=.bool (decide ((if Det.fieldOK fW fH zs then (if bs.length=zs.length then 0 else 2) else 8)≠(0:Int)))) hf rfl rfl rfl hb4 rfl rfl (RunV.neq rfl rfl) ?_
      clear hf a; intro a hf
      refine O.val (v:=.bool ((decide ((zs.length:Int)>100)||decide ((bs.length:Int)>120))||(decide ((if Det.fieldOK fW fH zs then (if bs.length=zs.length then 0 else 2) else 8)≠(0:Int))))) hf rfl rfl rfl (RunV.pick rfl rfl rfl (by rw [hb4]; rfl)) ?_; clear hf a; intro a hf
      exact O.nil ⟨rfl,hf.to ⟨rfl,rfl,rfl,rfl,rfl,rfl,rfl,rfl,rfl,rfl,rfl,rfl,trivial⟩,hS⟩
  clear hf hS a; rintro a w ⟨hf,hS⟩
  refine O.val hf rfl rfl rfl (RunV.move rfl) ?_
  clear hf a; intro a hf
  refine O.cutN (l₁:=[10,11,12]) (l₂:=_) (fun a w=>Fr a 147 [] [(1,vB),(2,.int .i64 thr),(3,.int .i64 more),(4,.int .i64 least),(5,.pointer (some ⟨b_f1,0,none⟩)),(10,.bool false),(11,.bool true),(23,.agg #[.int .i64 fW,.int .i64 fH,vP]),(24,vB),(25,.bool (decide ((zs.length:Int)>100)||decide ((bs.length:Int)>120))),(26,.bool (decide ((zs.length:Int)>100)||decide ((bs.length:Int)>120))),(31,.bool ((decide ((zs.length:Int)>100)||decide ((bs.length:Int)>120))||(decide ((if Det.fieldOK fW fH zs then (if bs.length=zs.length then 0 else 2) else 8)≠(0:Int))))),(32,.bool ((decide ((zs.length:Int)>100)||decide ((bs.length:Int)>120))||(decide ((if Det.fieldOK fW fH zs then (if bs.length=zs.length then 0 else 2) else 8)≠(0:Int))))),(35,.bool (((decide ((zs.length:Int)>100)||decide ((bs.length:Int)>120))||(decide ((if Det.fieldOK fW fH zs then (if bs.length=zs.length then 0 else 2) else 8)≠(0:Int))))||(decide (more<(0:Int)))))]∧St w0 w noX [rdv 1 vP zs.length (ints zs),rdv 1 vB bs.length (bools bs)] [pt b_f1 (.cells #[.int .i64 fW,.int .i64 fH,vP] 24 (0,0))]) rfl ?_ ?_
  · rcases Bool.eq_false_or_eq_true ((decide ((zs.length:Int)>100)||decide ((bs.length:Int)>120))||(decide ((if Det.fieldOK fW fH zs then (if bs.length=zs.length then 0 else 2) else 8)≠(0:Int)))) with hb6 | hb6
    · have hb6p:=hb6
      try simp only [Bool.and_eq_true,Bool.or_eq_true,Bool.and_eq_false_iff,Bool.or_eq_false_iff,decide_eq_true_eq,decide_eq_false_iff_not,Bool.not_eq_true',Bool.not_eq_false',Bool.not_eq_true,Bool.not_eq_false,ne_eq] at hb6p
      refine O.skipB hf rfl rfl rfl hb6 rfl ?_; clear hf a; intro a hf
      refine O.skipB hf rfl rfl rfl hb6 rfl ?_; clear hf a; intro a hf
      refine O.val (v:=.bool (((decide ((zs.length:Int)>100)||decide ((bs.length:Int)>120))||(decide ((if Det.fieldOK fW fH zs then (if bs.length=zs.length then 0 else 2) else 8)≠(0:Int))))||(decide (more<(0:Int))))) hf rfl rfl rfl (RunV.pick rfl rfl rfl (by rw [hb6]; rfl)) ?_; clear hf a; intro a hf
      exact O.nil ⟨rfl,hf.to ⟨rfl,rfl,rfl,rfl,rfl,rfl,rfl,rfl,rfl,rfl,rfl,rfl,rfl,rfl,trivial⟩,hS⟩
    · have hb6p:=hb6
      try simp only [Bool.and_eq_true,Bool.or_eq_true,Bool.and_eq_false_iff,Bool.or_eq_false_iff,decide_eq_true_eq,decide_eq_false_iff_not,Bool.not_eq_true',Bool.not_eq_false',Bool.not_eq_true,Bool.not_eq_false,ne_eq] at hb6p
      refine O.gvalB (v:=.int .i64 more) hf rfl rfl rfl hb6 rfl rfl (RunV.move rfl) ?_
      clear hf a; intro a hf
      refine O.gvalB (v:=.bool (decide (more<(0:Int)))) hf rfl rfl rfl hb6 rfl rfl (RunV.lss rfl rfl) ?_
      clear hf a; intro a hf
      refine O.val (v:=.bool (((decide ((zs.length:Int)>100)||decide ((bs.length:Int)>120))||(decide ((if Det.fieldOK fW fH zs then (if bs.length=zs.length then 0 else 2) else 8)≠(0:Int))))||(decide (more<(0:Int))))) hf rfl rfl rfl (RunV.pick rfl rfl rfl (by rw [hb6]; rfl)) ?_; clear hf a; intro a hf
      exact O.nil ⟨rfl,hf.to ⟨rfl,rfl,rfl,rfl,rfl,rfl,rfl,rfl,rfl,rfl,rfl,rfl,rfl,rfl,trivial⟩,hS⟩
  clear hf hS a; rintro a w ⟨hf,hS⟩
  refine O.val hf rfl rfl rfl (RunV.move rfl) ?_
  clear hf a; intro a hf
  refine O.cutN (l₁:=[14,15,16]) (l₂:=_) (fun a w=>Fr a 147 [] [(1,vB),(2,.int .i64 thr),(3,.int .i64 more),(4,.int .i64 least),(5,.pointer (some ⟨b_f1,0,none⟩)),(10,.bool false),(11,.bool true),(23,.agg #[.int .i64 fW,.int .i64 fH,vP]),(24,vB),(25,.bool (decide ((zs.length:Int)>100)||decide ((bs.length:Int)>120))),(26,.bool (decide ((zs.length:Int)>100)||decide ((bs.length:Int)>120))),(31,.bool ((decide ((zs.length:Int)>100)||decide ((bs.length:Int)>120))||(decide ((if Det.fieldOK fW fH zs then (if bs.length=zs.length then 0 else 2) else 8)≠(0:Int))))),(32,.bool ((decide ((zs.length:Int)>100)||decide ((bs.length:Int)>120))||(decide ((if Det.fieldOK fW fH zs then (if bs.length=zs.length then 0 else 2) else 8)≠(0:Int))))),(35,.bool (((decide ((zs.length:Int)>100)||decide ((bs.length:Int)>120))||(decide ((if Det.fieldOK fW fH zs then (if bs.length=zs.length then 0 else 2) else 8)≠(0:Int))))||(decide (more<(0:Int))))),(36,.bool (((decide ((zs.length:Int)>100)||decide ((bs.length:Int)>120))||(decide ((if Det.fieldOK fW fH zs then (if bs.length=zs.length then 0 else 2) else 8)≠(0:Int))))||(decide (more<(0:Int))))),(39,.bool ((((decide ((zs.length:Int)>100)||decide ((bs.length:Int)>120))||(decide ((if Det.fieldOK fW fH zs then (if bs.length=zs.length then 0 else 2) else 8)≠(0:Int))))||(decide (more<(0:Int))))||(decide (more>(8589934592:Int)))))]∧St w0 w noX [rdv 1 vP zs.length (ints zs),rdv 1 vB bs.length (bools bs)] [pt b_f1 (.cells #[.int .i64 fW,.int .i64 fH,vP] 24 (0,0))]) rfl ?_ ?_
  · rcases Bool.eq_false_or_eq_true (((decide ((zs.length:Int)>100)||decide ((bs.length:Int)>120))||(decide ((if Det.fieldOK fW fH zs then (if bs.length=zs.length then 0 else 2) else 8)≠(0:Int))))||(decide (more<(0:Int)))) with hb7 | hb7
    · have hb7p:=hb7
      try simp only [Bool.and_eq_true,Bool.or_eq_true,Bool.and_eq_false_iff,Bool.or_eq_false_iff,decide_eq_true_eq,decide_eq_false_iff_not,Bool.not_eq_true',Bool.not_eq_false',Bool.not_eq_true,Bool.not_eq_false,ne_eq] at hb7p
      refine O.skipB hf rfl rfl rfl hb7 rfl ?_; clear hf a; intro a hf
      refine O.skipB hf rfl rfl rfl hb7 rfl ?_; clear hf a; intro a hf
      refine O.val (v:=.bool ((((decide ((zs.length:Int)>100)||decide ((bs.length:Int)>120))||(decide ((if Det.fieldOK fW fH zs then (if bs.length=zs.length then 0 else 2) else 8)≠(0:Int))))||(decide (more<(0:Int))))||(decide (more>(8589934592:Int))))) hf rfl rfl rfl (RunV.pick rfl rfl rfl (by rw [hb7]; rfl)) ?_; clear hf a; intro a hf
      exact O.nil ⟨rfl,hf.to ⟨rfl,rfl,rfl,rfl,rfl,rfl,rfl,rfl,rfl,rfl,rfl,rfl,rfl,rfl,rfl,rfl,trivial⟩,hS⟩
    · have hb7p:=hb7
      try simp only [Bool.and_eq_true,Bool.or_eq_true,Bool.and_eq_false_iff,Bool.or_eq_false_iff,decide_eq_true_eq,decide_eq_false_iff_not,Bool.not_eq_true',Bool.not_eq_false',Bool.not_eq_true,Bool.not_eq_false,ne_eq] at hb7p
      refine O.gvalB (v:=.int .i64 more) hf rfl rfl rfl hb7 rfl rfl (RunV.move rfl) ?_
      clear hf a; intro a hf
      refine O.gvalB (v:=.bool (decide (more>(8589934592:Int)))) hf rfl rfl rfl hb7 rfl rfl (RunV.gtr rfl rfl) ?_
      clear hf a; intro a hf
      refine O.val (v:=.bool ((((decide ((zs.length:Int)>100)||decide ((bs.length:Int)>120))||(decide ((if Det.fieldOK fW fH zs then (if bs.length=zs.length then 0 else 2) else 8)≠(0:Int))))||(decide (more<(0:Int))))||(decide (more>(8589934592:Int))))) hf rfl rfl rfl (RunV.pick rfl rfl rfl (by rw [hb7]; rfl)) ?_; clear hf a; intro a hf
      exact O.nil ⟨rfl,hf.to ⟨rfl,rfl,rfl,rfl,rfl,rfl,rfl,rfl,rfl,rfl,rfl,rfl,rfl,rfl,rfl,rfl,trivial⟩,hS⟩
  clear hf hS a; rintro a w ⟨hf,hS⟩
  refine O.val hf rfl rfl rfl (RunV.move rfl) ?_
  clear hf a; intro a hf
  refine O.cutN (l₁:=[18,19,20]) (l₂:=_) (fun a w=>Fr a 147 [] [(1,vB),(2,.int .i64 thr),(3,.int .i64 more),(4,.int .i64 least),(5,.pointer (some ⟨b_f1,0,none⟩)),(10,.bool false),(11,.bool true),(23,.agg #[.int .i64 fW,.int .i64 fH,vP]),(24,vB),(25,.bool (decide ((zs.length:Int)>100)||decide ((bs.length:Int)>120))),(26,.bool (decide ((zs.length:Int)>100)||decide ((bs.length:Int)>120))),(31,.bool ((decide ((zs.length:Int)>100)||decide ((bs.length:Int)>120))||(decide ((if Det.fieldOK fW fH zs then (if bs.length=zs.length then 0 else 2) else 8)≠(0:Int))))),(32,.bool ((decide ((zs.length:Int)>100)||decide ((bs.length:Int)>120))||(decide ((if Det.fieldOK fW fH zs then (if bs.length=zs.length then 0 else 2) else 8)≠(0:Int))))),(35,.bool (((decide ((zs.length:Int)>100)||decide ((bs.length:Int)>120))||(decide ((if Det.fieldOK fW fH zs then (if bs.length=zs.length then 0 else 2) else 8)≠(0:Int))))||(decide (more<(0:Int))))),(36,.bool (((decide ((zs.length:Int)>100)||decide ((bs.length:Int)>120))||(decide ((if Det.fieldOK fW fH zs then (if bs.length=zs.length then 0 else 2) else 8)≠(0:Int))))||(decide (more<(0:Int))))),(39,.bool ((((decide ((zs.length:Int)>100)||decide ((bs.length:Int)>120))||(decide ((if Det.fieldOK fW fH zs then (if bs.length=zs.length then 0 else 2) else 8)≠(0:Int))))||(decide (more<(0:Int))))||(decide (more>(8589934592:Int))))),(40,.bool ((((decide ((zs.length:Int)>100)||decide ((bs.length:Int)>120))||(decide ((if Det.fieldOK fW fH zs then (if bs.length=zs.length then 0 else 2) else 8)≠(0:Int))))||(decide (more<(0:Int))))||(decide (more>(8589934592:Int))))),(43,.bool (((((decide ((zs.length:Int)>100)||decide ((bs.length:Int)>120))||(decide ((if Det.fieldOK fW fH zs then (if bs.length=zs.length then 0 else 2) else 8)≠(0:Int))))||(decide (more<(0:Int))))||(decide (more>(8589934592:Int))))||(decide (thr<(-8589934592:Int)))))]∧St w0 w noX [rdv 1 vP zs.length (ints zs),rdv 1 vB bs.length (bools bs)] [pt b_f1 (.cells #[.int .i64 fW,.int .i64 fH,vP] 24 (0,0))]) rfl ?_ ?_
  · rcases Bool.eq_false_or_eq_true ((((decide ((zs.length:Int)>100)||decide ((bs.length:Int)>120))||(decide ((if Det.fieldOK fW fH zs then (if bs.length=zs.length then 0 else 2) else 8)≠(0:Int))))||(decide (more<(0:Int))))||(decide (more>(8589934592:Int)))) with hb8 | hb8
    · have hb8p:=hb8
      try simp only [Bool.and_eq_true,Bool.or_eq_true,Bool.and_eq_false_iff,Bool.or_eq_false_iff,decide_eq_true_eq,decide_eq_false_iff_not,Bool.not_eq_true',Bool.not_eq_false',Bool.not_eq_true,Bool.not_eq_false,ne_eq] at hb8p
      refine O.skipB hf rfl rfl rfl hb8 rfl ?_; clear hf a; intro a hf
      refine O.skipB hf rfl rfl rfl hb8 rfl ?_; clear hf a; intro a hf
      refine O.val (v:=.bool (((((decide ((zs.length:Int)>100)||decide ((bs.length:Int)>120))||(decide ((if Det.fieldOK fW fH zs then (if bs.length=zs.length then 0 else 2) else 8)≠(0:Int))))||(decide (more<(0:Int))))||(decide (more>(8589934592:Int))))||(decide (thr<(-8589934592:Int))))) hf rfl rfl rfl (RunV.pick rfl rfl rfl (by rw [hb8]; rfl)) ?_; clear hf a; intro a hf
      exact O.nil ⟨rfl,hf.to ⟨rfl,rfl,rfl,rfl,rfl,rfl,rfl,rfl,rfl,rfl,rfl,rfl,rfl,rfl,rfl,rfl,rfl,rfl,trivial⟩,hS⟩
    · have hb8p:=hb8
      try simp only [Bool.and_eq_true,Bool.or_eq_true,Bool.and_eq_false_iff,Bool.or_eq_false_iff,decide_eq_true_eq,decide_eq_false_iff_not,Bool.not_eq_true',Bool.not_eq_false',Bool.not_eq_true,Bool.not_eq_false,ne_eq] at hb8p
      refine O.gvalB (v:=.int .i64 thr) hf rfl rfl rfl hb8 rfl rfl (RunV.move rfl) ?_
      clear hf a; intro a hf
      refine O.gvalB (v:=.bool (decide (thr<(-8589934592:Int)))) hf rfl rfl rfl hb8 rfl rfl (RunV.lss rfl rfl) ?_
      clear hf a; intro a hf
      refine O.val (v:=.bool (((((decide ((zs.length:Int)>100)||decide ((bs.length:Int)>120))||(decide ((if Det.fieldOK fW fH zs then (if bs.length=zs.length then 0 else 2) else 8)≠(0:Int))))||(decide (more<(0:Int))))||(decide (more>(8589934592:Int))))||(decide (thr<(-8589934592:Int))))) hf rfl rfl rfl (RunV.pick rfl rfl rfl (by rw [hb8]; rfl)) ?_; clear hf a; intro a hf
      exact O.nil ⟨rfl,hf.to ⟨rfl,rfl,rfl,rfl,rfl,rfl,rfl,rfl,rfl,rfl,rfl,rfl,rfl,rfl,rfl,rfl,rfl,rfl,trivial⟩,hS⟩
  clear hf hS a; rintro a w ⟨hf,hS⟩
  refine O.val hf rfl rfl rfl (RunV.move rfl) ?_
  clear hf a; intro a hf
  refine O.cutN (l₁:=[22,23,24]) (l₂:=_) (fun a w=>Fr a 147 [] [(1,vB),(2,.int .i64 thr),(3,.int .i64 more),(4,.int .i64 least),(5,.pointer (some ⟨b_f1,0,none⟩)),(10,.bool false),(11,.bool true),(23,.agg #[.int .i64 fW,.int .i64 fH,vP]),(24,vB),(25,.bool (decide ((zs.length:Int)>100)||decide ((bs.length:Int)>120))),(26,.bool (decide ((zs.length:Int)>100)||decide ((bs.length:Int)>120))),(31,.bool ((decide ((zs.length:Int)>100)||decide ((bs.length:Int)>120))||(decide ((if Det.fieldOK fW fH zs then (if bs.length=zs.length then 0 else 2) else 8)≠(0:Int))))),(32,.bool ((decide ((zs.length:Int)>100)||decide ((bs.length:Int)>120))||(decide ((if Det.fieldOK fW fH zs then (if bs.length=zs.length then 0 else 2) else 8)≠(0:Int))))),(35,.bool (((decide ((zs.length:Int)>100)||decide ((bs.length:Int)>120))||(decide ((if Det.fieldOK fW fH zs then (if bs.length=zs.length then 0 else 2) else 8)≠(0:Int))))||(decide (more<(0:Int))))),(36,.bool (((decide ((zs.length:Int)>100)||decide ((bs.length:Int)>120))||(decide ((if Det.fieldOK fW fH zs then (if bs.length=zs.length then 0 else 2) else 8)≠(0:Int))))||(decide (more<(0:Int))))),(39,.bool ((((decide ((zs.length:Int)>100)||decide ((bs.length:Int)>120))||(decide ((if Det.fieldOK fW fH zs then (if bs.length=zs.length then 0 else 2) else 8)≠(0:Int))))||(decide (more<(0:Int))))||(decide (more>(8589934592:Int))))),(40,.bool ((((decide ((zs.length:Int)>100)||decide ((bs.length:Int)>120))||(decide ((if Det.fieldOK fW fH zs then (if bs.length=zs.length then 0 else 2) else 8)≠(0:Int))))||(decide (more<(0:Int))))||(decide (more>(8589934592:Int))))),(43,.bool (((((decide ((zs.length:Int)>100)||decide ((bs.length:Int)>120))||(decide ((if Det.fieldOK fW fH zs then (if bs.length=zs.length then 0 else 2) else 8)≠(0:Int))))||(decide (more<(0:Int))))||(decide (more>(8589934592:Int))))||(decide (thr<(-8589934592:Int))))),(44,.bool (((((decide ((zs.length:Int)>100)||decide ((bs.length:Int)>120))||(decide ((if Det.fieldOK fW fH zs then (if bs.length=zs.length then 0 else 2) else 8)≠(0:Int))))||(decide (more<(0:Int))))||(decide (more>(8589934592:Int))))||(decide (thr<(-8589934592:Int))))),(47,.bool ((((((decide ((zs.length:Int)>100)||decide ((bs.length:Int)>120))||(decide ((if Det.fieldOK fW fH zs then (if bs.length=zs.length then 0 else 2) else 8)≠(0:Int))))||(decide (more<(0:Int))))||(decide (more>(8589934592:Int))))||(decide (thr<(-8589934592:Int))))||(decide (thr>(8589934592:Int)))))]∧St w0 w noX [rdv 1 vP zs.length (ints zs),rdv 1 vB bs.length (bools bs)] [pt b_f1 (.cells #[.int .i64 fW,.int .i64 fH,vP] 24 (0,0))]) rfl ?_ ?_
  · rcases Bool.eq_false_or_eq_true (((((decide ((zs.length:Int)>100)||decide ((bs.length:Int)>120))||(decide ((if Det.fieldOK fW fH zs then (if bs.length=zs.length then 0 else 2) else 8)≠(0:Int))))||(decide (more<(0:Int))))||(decide (more>(8589934592:Int))))||(decide (thr<(-8589934592:Int)))) with hb9 | hb9
    · have hb9p:=hb9
      try simp only [Bool.and_eq_true,Bool.or_eq_true,Bool.and_eq_false_iff,Bool.or_eq_false_iff,decide_eq_true_eq,decide_eq_false_iff_not,Bool.not_eq_true',Bool.not_eq_false',Bool.not_eq_true,Bool.not_eq_false,ne_eq] at hb9p
      refine O.skipB hf rfl rfl rfl hb9 rfl ?_; clear hf a; intro a hf
      refine O.skipB hf rfl rfl rfl hb9 rfl ?_; clear hf a; intro a hf
      refine O.val (v:=.bool ((((((decide ((zs.length:Int)>100)||decide ((bs.length:Int)>120))||(decide ((if Det.fieldOK fW fH zs then (if bs.length=zs.length then 0 else 2) else 8)≠(0:Int))))||(decide (more<(0:Int))))||(decide (more>(8589934592:Int))))||(decide (thr<(-8589934592:Int))))||(decide (thr>(8589934592:Int))))) hf rfl rfl rfl (RunV.pick rfl rfl rfl (by rw [hb9]; rfl)) ?_; clear hf a; intro a hf
      exact O.nil ⟨rfl,hf.to ⟨rfl,rfl,rfl,rfl,rfl,rfl,rfl,rfl,rfl,rfl,rfl,rfl,rfl,rfl,rfl,rfl,rfl,rfl,rfl,rfl,trivial⟩,hS⟩
    · have hb9p:=hb9
      try simp only [Bool.and_eq_true,Bool.or_eq_true,Bool.and_eq_false_iff,Bool.or_eq_false_iff,decide_eq_true_eq,decide_eq_false_iff_not,Bool.not_eq_true',Bool.not_eq_false',Bool.not_eq_true,Bool.not_eq_false,ne_eq] at hb9p
      refine O.gvalB (v:=.int .i64 thr) hf rfl rfl rfl hb9 rfl rfl (RunV.move rfl) ?_
      clear hf a; intro a hf
      refine O.gvalB (v:=.bool (decide (thr>(8589934592:Int)))) hf rfl rfl rfl hb9 rfl rfl (RunV.gtr rfl rfl) ?_
      clear hf a; intro a hf
      refine O.val (v:=.bool ((((((decide ((zs.length:Int)>100)||decide ((bs.length:Int)>120))||(decide ((if Det.fieldOK fW fH zs then (if bs.length=zs.length then 0 else 2) else 8)≠(0:Int))))||(decide (more<(0:Int))))||(decide (more>(8589934592:Int))))||(decide (thr<(-8589934592:Int))))||(decide (thr>(8589934592:Int))))) hf rfl rfl rfl (RunV.pick rfl rfl rfl (by rw [hb9]; rfl)) ?_; clear hf a; intro a hf
      exact O.nil ⟨rfl,hf.to ⟨rfl,rfl,rfl,rfl,rfl,rfl,rfl,rfl,rfl,rfl,rfl,rfl,rfl,rfl,rfl,rfl,rfl,rfl,rfl,rfl,trivial⟩,hS⟩
  clear hf hS a; rintro a w ⟨hf,hS⟩
  refine O.val hf rfl rfl rfl (RunV.move rfl) ?_
  clear hf a; intro a hf
  refine O.cutN (l₁:=[26,27,28]) (l₂:=_) (fun a w=>Fr a 147 [] [(1,vB),(2,.int .i64 thr),(3,.int .i64 more),(4,.int .i64 least),(5,.pointer (some ⟨b_f1,0,none⟩)),(10,.bool false),(11,.bool true),(23,.agg #[.int .i64 fW,.int .i64 fH,vP]),(24,vB),(25,.bool (decide ((zs.length:Int)>100)||decide ((bs.length:Int)>120))),(26,.bool (decide ((zs.length:Int)>100)||decide ((bs.length:Int)>120))),(31,.bool ((decide ((zs.length:Int)>100)||decide ((bs.length:Int)>120))||(decide ((if Det.fieldOK fW fH zs then (if bs.length=zs.length then 0 else 2) else 8)≠(0:Int))))),(32,.bool ((decide ((zs.length:Int)>100)||decide ((bs.length:Int)>120))||(decide ((if Det.fieldOK fW fH zs then (if bs.length=zs.length then 0 else 2) else 8)≠(0:Int))))),(35,.bool (((decide ((zs.length:Int)>100)||decide ((bs.length:Int)>120))||(decide ((if Det.fieldOK fW fH zs then (if bs.length=zs.length then 0 else 2) else 8)≠(0:Int))))||(decide (more<(0:Int))))),(36,.bool (((decide ((zs.length:Int)>100)||decide ((bs.length:Int)>120))||(decide ((if Det.fieldOK fW fH zs then (if bs.length=zs.length then 0 else 2) else 8)≠(0:Int))))||(decide (more<(0:Int))))),(39,.bool ((((decide ((zs.length:Int)>100)||decide ((bs.length:Int)>120))||(decide ((if Det.fieldOK fW fH zs then (if bs.length=zs.length then 0 else 2) else 8)≠(0:Int))))||(decide (more<(0:Int))))||(decide (more>(8589934592:Int))))),(40,.bool ((((decide ((zs.length:Int)>100)||decide ((bs.length:Int)>120))||(decide ((if Det.fieldOK fW fH zs then (if bs.length=zs.length then 0 else 2) else 8)≠(0:Int))))||(decide (more<(0:Int))))||(decide (more>(8589934592:Int))))),(43,.bool (((((decide ((zs.length:Int)>100)||decide ((bs.length:Int)>120))||(decide ((if Det.fieldOK fW fH zs then (if bs.length=zs.length then 0 else 2) else 8)≠(0:Int))))||(decide (more<(0:Int))))||(decide (more>(8589934592:Int))))||(decide (thr<(-8589934592:Int))))),(44,.bool (((((decide ((zs.length:Int)>100)||decide ((bs.length:Int)>120))||(decide ((if Det.fieldOK fW fH zs then (if bs.length=zs.length then 0 else 2) else 8)≠(0:Int))))||(decide (more<(0:Int))))||(decide (more>(8589934592:Int))))||(decide (thr<(-8589934592:Int))))),(47,.bool ((((((decide ((zs.length:Int)>100)||decide ((bs.length:Int)>120))||(decide ((if Det.fieldOK fW fH zs then (if bs.length=zs.length then 0 else 2) else 8)≠(0:Int))))||(decide (more<(0:Int))))||(decide (more>(8589934592:Int))))||(decide (thr<(-8589934592:Int))))||(decide (thr>(8589934592:Int))))),(48,.bool ((((((decide ((zs.length:Int)>100)||decide ((bs.length:Int)>120))||(decide ((if Det.fieldOK fW fH zs then (if bs.length=zs.length then 0 else 2) else 8)≠(0:Int))))||(decide (more<(0:Int))))||(decide (more>(8589934592:Int))))||(decide (thr<(-8589934592:Int))))||(decide (thr>(8589934592:Int))))),(51,.bool (((((((decide ((zs.length:Int)>100)||decide ((bs.length:Int)>120))||(decide ((if Det.fieldOK fW fH zs then (if bs.length=zs.length then 0 else 2) else 8)≠(0:Int))))||(decide (more<(0:Int))))||(decide (more>(8589934592:Int))))||(decide (thr<(-8589934592:Int))))||(decide (thr>(8589934592:Int))))||false))]∧St w0 w noX [rdv 1 vP zs.length (ints zs),rdv 1 vB bs.length (bools bs)] [pt b_f1 (.cells #[.int .i64 fW,.int .i64 fH,vP] 24 (0,0))]) rfl ?_ ?_
  · rcases Bool.eq_false_or_eq_true ((((((decide ((zs.length:Int)>100)||decide ((bs.length:Int)>120))||(decide ((if Det.fieldOK fW fH zs then (if bs.length=zs.length then 0 else 2) else 8)≠(0:Int))))||(decide (more<(0:Int))))||(decide (more>(8589934592:Int))))||(decide (thr<(-8589934592:Int))))||(decide (thr>(8589934592:Int)))) with hb10 | hb10
    · have hb10p:=hb10
      try simp only [Bool.and_eq_true,Bool.or_eq_true,Bool.and_eq_false_iff,Bool.or_eq_false_iff,decide_eq_true_eq,decide_eq_false_iff_not,Bool.not_eq_true',Bool.not_eq_false',Bool.not_eq_true,Bool.not_eq_false,ne_eq] at hb10p
      refine O.skipB hf rfl rfl rfl hb10 rfl ?_; clear hf a; intro a hf
      refine O.skipB hf rfl rfl rfl hb10 rfl ?_; clear hf a; intro a hf
      refine O.val (v:=.bool (((((((decide ((zs.length:Int)>100)||decide ((bs.length:Int)>120))||(decide ((if Det.fieldOK fW fH zs then (if bs.length=zs.length then 0 else 2) else 8)≠(0:Int))))||(decide (more<(0:Int))))||(decide (more>(8589934592:Int))))||(decide (thr<(-8589934592:Int))))||(decide (thr>(8589934592:Int))))||false)) hf rfl rfl rfl (RunV.pick rfl rfl rfl (by rw [hb10]; rfl)) ?_; clear hf a; intro a hf
      exact O.nil ⟨rfl,hf.to ⟨rfl,rfl,rfl,rfl,rfl,rfl,rfl,rfl,rfl,rfl,rfl,rfl,rfl,rfl,rfl,rfl,rfl,rfl,rfl,rfl,rfl,rfl,trivial⟩,hS⟩
    · have hb10p:=hb10
      try simp only [Bool.and_eq_true,Bool.or_eq_true,Bool.and_eq_false_iff,Bool.or_eq_false_iff,decide_eq_true_eq,decide_eq_false_iff_not,Bool.not_eq_true',Bool.not_eq_false',Bool.not_eq_true,Bool.not_eq_false,ne_eq] at hb10p
      refine O.gvalB (v:=.bool true) hf rfl rfl rfl hb10 rfl rfl (RunV.move rfl) ?_
      clear hf a; intro a hf
      refine O.gvalB (v:=.bool false) hf rfl rfl rfl hb10 rfl rfl (RunV.not (b:=true) rfl) ?_
      clear hf a; intro a hf
      refine O.val (v:=.bool (((((((decide ((zs.length:Int)>100)||decide ((bs.length:Int)>120))||(decide ((if Det.fieldOK fW fH zs then (if bs.length=zs.length then 0 else 2) else 8)≠(0:Int))))||(decide (more<(0:Int))))||(decide (more>(8589934592:Int))))||(decide (thr<(-8589934592:Int))))||(decide (thr>(8589934592:Int))))||false)) hf rfl rfl rfl (RunV.pick rfl rfl rfl (by rw [hb10]; rfl)) ?_; clear hf a; intro a hf
      exact O.nil ⟨rfl,hf.to ⟨rfl,rfl,rfl,rfl,rfl,rfl,rfl,rfl,rfl,rfl,rfl,rfl,rfl,rfl,rfl,rfl,rfl,rfl,rfl,rfl,rfl,rfl,trivial⟩,hS⟩
  clear hf hS a; rintro a w ⟨hf,hS⟩
  refine O.nil ?_
  refine k_seq ?_
  replace hf:Fr a 147 [] [(1,vB),(2,.int .i64 thr),(3,.int .i64 more),(4,.int .i64 least),(5,.pointer (some ⟨b_f1,0,none⟩)),(10,.bool false),(11,.bool true),(51,.bool (((((((decide ((zs.length:Int)>100)||decide ((bs.length:Int)>120))||(decide ((if Det.fieldOK fW fH zs then (if bs.length=zs.length then 0 else 2) else 8)≠(0:Int))))||(decide (more<(0:Int))))||(decide (more>(8589934592:Int))))||(decide (thr<(-8589934592:Int))))||(decide (thr>(8589934592:Int))))||false))]:=hf.to ⟨rfl,rfl,rfl,rfl,rfl,rfl,rfl,rfl,trivial⟩
  have hbc:(((((((decide ((zs.length:Int)>100)||decide ((bs.length:Int)>120))||(decide ((if Det.fieldOK fW fH zs then (if bs.length=zs.length then 0 else 2) else 8)≠(0:Int))))||(decide (more<(0:Int))))||(decide (more>(8589934592:Int))))||(decide (thr<(-8589934592:Int))))||(decide (thr>(8589934592:Int))))||false)=true:=(by rw [Bool.or_false]; exact Det.more_early hbad)
  simp only [hbc] at hf; clear hbc
  refine W.if_tt hf rfl ?_
  refine W.seq ?_
  refine W.regionL (l:=[0,1]) rfl ?_
  refine O.val hf rfl rfl rfl (RunV.move rfl) ?_
  clear hf a; intro a hf
  refine O.val hf rfl rfl rfl (RunV.assign rfl) ?_
  clear hf a; intro a hf
  refine O.nil ?_
  refine k_seq ?_
  replace hf:Fr a 147 [] [(1,vB),(2,.int .i64 thr),(3,.int .i64 more),(4,.int .i64 least),(5,.pointer (some ⟨b_f1,0,none⟩)),(10,.bool true),(11,.bool true)]:=hf.to ⟨rfl,rfl,rfl,rfl,rfl,rfl,rfl,trivial⟩
  refine W.ret ?_
  refine k_then_ret ?_
  refine post1 hf rfl (ResOK.tmp rfl) ?_
  exact ⟨(),rfl,hS.sub (List.nil_sublist _) |>.noB⟩
set_option maxHeartbeats 400000 in
set_option maxRecDepth 4000 in
theorem more_arg (fW fH:Nat) (thr more least:Int) (vP vB:Value) (zs:List Int) (bs:List Bool) (w0:World) (hfo:Det.fieldOK fW fH zs) (hn:zs.length=fW*fH) (hbl:bs.length=zs.length) (hsz:zs.length≤100) (hm0:0≤more∧more≤8589934592) (ht0:-8589934592≤thr∧thr≤8589934592) (hP:rdOK (hp w0) 1 vP zs.length (ints zs)) (hB:rdOK (hp w0) 1 vB bs.length (bools bs)) (harg:(decide (Det.partsE fW fH zs bs (thr) least≠(0:Int))||decide (Det.partsE fW fH zs bs (thr+more) least≠(0:Int)))=true) :
    Ret Tryz.prog 6 #[.agg #[.int .i64 (fW:Int),.int .i64 (fH:Int),vP],vB,.int .i64 thr,.int .i64 more,.int .i64 least] w0 (G:=Unit) (fun _=>.bool true) (fun _ w=>St w0 w noX [] []):=by
  refine ret_of_W (lv:=[.agg #[.int .i64 (fW:Int),.int .i64 (fH:Int),vP],vB,.int .i64 thr,.int .i64 more,.int .i64 least]) Tryz.func6 rfl rfl rfl (fun a hf=>?_)
  replace hf:Fr a 147 [] [(0,.agg #[.int .i64 (fW:Int),.int .i64 (fH:Int),vP]),(1,vB),(2,.int .i64 thr),(3,.int .i64 more),(4,.int .i64 least)]:=hf
  have hS:St w0 w0 noX [rdv 1 vP zs.length (ints zs),rdv 1 vB bs.length (bools bs)] []:=((St.refl w0).lend0 hB).lend0 hP
  have hW:1≤fW∧fW≤100:=by have h:=hfo; unfold Det.fieldOK at h; omega
  have hH:1≤fH∧fH≤100:=by have h:=hfo; unfold Det.fieldOK at h; omega
  have hBl:∀ t,(Det.bright zs bs t (fW*fH)).length=fW*fH:=fun t=>Det.bright_len _
  haveI:Decidable (Det.fieldOK fW fH zs):=.isTrue hfo
  have hst:(if Det.fieldOK (fW:Int) (fH:Int) zs then (if bs.length=zs.length then 0 else 2) else 8:Int)=0:=by rw [if_pos hfo,if_pos hbl]
  refine W.seq ?_
  refine W.regionL (l:=[0,1]) rfl ?_
  refine O.box (cs:=#[.int .i64 (fW:Int),.int .i64 (fH:Int),vP]) hf hS rfl rfl rfl rfl ?_
  clear hf hS a; intro b_f1 w a hbb_f1 hS hf
  refine O.val hf rfl rfl rfl (RunV.assign rfl) ?_
  clear hf a; intro a hf
  refine O.nil ?_
  refine k_seq ?_
  replace hf:Fr a 147 [] [(1,vB),(2,.int .i64 thr),(3,.int .i64 more),(4,.int .i64 least),(5,.pointer (some ⟨b_f1,0,none⟩)),(10,.bool false)]:=hf.to ⟨rfl,rfl,rfl,rfl,rfl,rfl,trivial⟩
  refine W.seq ?_
  refine W.regionL (l:=[0,1]) rfl ?_
  refine O.callR hf rfl rfl rfl (RunE.call (av:=#[]) C_ok_15 rfl rfl rfl) (alive_spec _) ?_
  clear hf a
  rintro _ w2 hS1 a hf
  replace hf:Fr a _ _ ((22,.bool true)::_):=hf
  replace hS:=(hS.call hS1).eqM (N:=[pt b_f1 (.cells #[.int .i64 (fW:Int),.int .i64 (fH:Int),vP] 24 (0,0))]) rfl
  clear hS1
  refine O.val hf rfl rfl rfl (RunV.assign rfl) ?_
  clear hf a; intro a hf
  refine O.nil ?_
  refine k_seq ?_
  replace hf:Fr a 147 [] [(1,vB),(2,.int .i64 thr),(3,.int .i64 more),(4,.int .i64 least),(5,.pointer (some ⟨b_f1,0,none⟩)),(10,.bool false),(11,.bool true)]:=hf.to ⟨rfl,rfl,rfl,rfl,rfl,rfl,rfl,trivial⟩
  refine W.seq ?_
  refine W.seq ?_
  refine W.regionL (l:=[0,1,2,3,4,5,6,7,8,9,10,11,12,13,14,15,16,17,18,19,20,21,22,23,24,25,26,27,28]) rfl ?_
  refine O.val hf rfl rfl rfl (RunV.loadN (cs':=#[.int .i64 (fW:Int),.int .i64 (fH:Int),vP]) T_agg_24 T_size_24 rfl (hS.ptAt (i:=0) rfl) (Nat.le_of_ble_eq_true rfl) rfl) ?_
  clear hf a; intro a hf
  refine O.val hf rfl rfl rfl (RunV.move rfl) ?_
  clear hf a; intro a hf
  refine O.callR hf rfl rfl rfl (RunE.call (av:=#[.agg #[.int .i64 (fW:Int),.int .i64 (fH:Int),vP],vB]) C_ok_8 rfl rfl rfl) (great_spec fW fH vP vB zs bs _ (hS.rdAt (j:=0) rfl) (hS.rdAt (j:=1) rfl)) ?_
  clear hf a
  rintro _ w3 hS1 a hf
  replace hf:Fr a _ _ ((25,.bool (decide ((zs.length:Int)>100)||decide ((bs.length:Int)>120)))::_):=hf
  replace hS:=(hS.call hS1).eqM (N:=[pt b_f1 (.cells #[.int .i64 (fW:Int),.int .i64 (fH:Int),vP] 24 (0,0))]) rfl
  clear hS1
  refine O.val hf rfl rfl rfl (RunV.move rfl) ?_
  clear hf a; intro a hf
  have hbg:(decide ((zs.length:Int)>100)||decide ((bs.length:Int)>120))=false:=(by simp; omega)
  simp only [hbg] at hf; clear hbg
  refine O.gvalB (v:=.agg #[.int .i64 (fW:Int),.int .i64 (fH:Int),vP]) hf rfl rfl rfl rfl rfl rfl (RunV.loadN (cs':=#[.int .i64 (fW:Int),.int .i64 (fH:Int),vP]) T_agg_24 T_size_24 rfl (hS.ptAt (i:=0) rfl) (Nat.le_of_ble_eq_true rfl) rfl) ?_
  clear hf a; intro a hf
  refine O.gvalB (v:=vB) hf rfl rfl rfl rfl rfl rfl (RunV.move rfl) ?_
  clear hf a; intro a hf
  refine O.gcallR hf rfl rfl rfl rfl rfl rfl (RunE.call (av:=#[.agg #[.int .i64 (fW:Int),.int .i64 (fH:Int),vP],vB]) C_ok_16 rfl rfl rfl) (start11_spec fW fH vP vB zs bs _ (hS.rdAt (j:=0) rfl) (hS.rdAt (j:=1) rfl)) ?_
  clear hf a
  rintro _ w4 hS1 a hf
  replace hf:Fr a _ _ ((29,.int .i64 (if Det.fieldOK (fW:Int) (fH:Int) zs then (if bs.length=zs.length then 0 else 2) else 8))::_):=hf
  replace hS:=(hS.call hS1).eqM (N:=[pt b_f1 (.cells #[.int .i64 (fW:Int),.int .i64 (fH:Int),vP] 24 (0,0))]) rfl
  clear hS1
  refine O.gvalB (v:=.bool (decide ((if Det.fieldOK (fW:Int) (fH:Int) zs then (if bs.length=zs.length then 0 else 2) else 8)≠(0:Int)))) hf rfl rfl rfl rfl rfl rfl (RunV.neq rfl rfl) ?_
  clear hf a; intro a hf
  refine O.val (v:=.bool (decide ((if Det.fieldOK (fW:Int) (fH:Int) zs then (if bs.length=zs.length then 0 else 2) else 8)≠(0:Int)))) hf rfl rfl rfl (RunV.pick rfl rfl rfl rfl) ?_
  clear hf a; intro a hf
  refine O.val hf rfl rfl rfl (RunV.move rfl) ?_
  clear hf a; intro a hf
  have hbg:(decide ((if Det.fieldOK (fW:Int) (fH:Int) zs then (if bs.length=zs.length then 0 else 2) else 8)≠(0:Int)))=false:=(by rw [hst]; rfl)
  simp only [hbg] at hf; clear hbg
  refine O.gvalB (v:=.int .i64 more) hf rfl rfl rfl rfl rfl rfl (RunV.move rfl) ?_
  clear hf a; intro a hf
  refine O.gvalB (v:=.bool (decide (more<(0:Int)))) hf rfl rfl rfl rfl rfl rfl (RunV.lss rfl rfl) ?_
  clear hf a; intro a hf
  refine O.val (v:=.bool (decide (more<(0:Int)))) hf rfl rfl rfl (RunV.pick rfl rfl rfl rfl) ?_
  clear hf a; intro a hf
  refine O.val hf rfl rfl rfl (RunV.move rfl) ?_
  clear hf a; intro a hf
  have hbg:(decide (more<(0:Int)))=false:=decide_eq_false (by omega)
  simp only [hbg] at hf; clear hbg
  refine O.gvalB (v:=.int .i64 more) hf rfl rfl rfl rfl rfl rfl (RunV.move rfl) ?_
  clear hf a; intro a hf
  refine O.gvalB (v:=.bool (decide (more>(8589934592:Int)))) hf rfl rfl rfl rfl rfl rfl (RunV.gtr rfl rfl) ?_
  clear hf a; intro a hf
  refine O.val (v:=.bool (decide (more>(8589934592:Int)))) hf rfl rfl rfl (RunV.pick rfl rfl rfl rfl) ?_
  clear hf a; intro a hf
  refine O.val hf rfl rfl rfl (RunV.move rfl) ?_
  clear hf a; intro a hf
  have hbg:(decide (more>(8589934592:Int)))=false:=decide_eq_false (by omega)
  simp only [hbg] at hf; clear hbg
  refine O.gvalB (v:=.int .i64 thr) hf rfl rfl rfl rfl rfl rfl (RunV.move rfl) ?_
  clear hf a; intro a hf
  refine O.gvalB (v:=.bool (decide (thr<(-8589934592:Int)))) hf rfl rfl rfl rfl rfl rfl (RunV.lss rfl rfl) ?_
  clear hf a; intro a hf
  refine O.val (v:=.bool (decide (thr<(-8589934592:Int)))) hf rfl rfl rfl (RunV.pick rfl rfl rfl rfl) ?_
  clear hf a; intro a hf
  refine O.val hf rfl rfl rfl (RunV.move rfl) ?_
  clear hf a; intro a hf
  have hbg:(decide (thr<(-8589934592:Int)))=false:=decide_eq_false (by omega)
  simp only [hbg] at hf; clear hbg
  refine O.gvalB (v:=.int .i64 thr) hf rfl rfl rfl rfl rfl rfl (RunV.move rfl) ?_
  clear hf a; intro a hf
  refine O.gvalB (v:=.bool (decide (thr>(8589934592:Int)))) hf rfl rfl rfl rfl rfl rfl (RunV.gtr rfl rfl) ?_
  clear hf a; intro a hf
  refine O.val (v:=.bool (decide (thr>(8589934592:Int)))) hf rfl rfl rfl (RunV.pick rfl rfl rfl rfl) ?_
  clear hf a; intro a hf
  refine O.val hf rfl rfl rfl (RunV.move rfl) ?_
  clear hf a; intro a hf
  have hbg:(decide (thr>(8589934592:Int)))=false:=decide_eq_false (by omega)
  simp only [hbg] at hf; clear hbg
  refine O.gvalB (v:=.bool true) hf rfl rfl rfl rfl rfl rfl (RunV.move rfl) ?_
  clear hf a; intro a hf
  refine O.gvalB (v:=.bool false) hf rfl rfl rfl rfl rfl rfl (RunV.not (b:=true) rfl) ?_
  clear hf a; intro a hf
  refine O.val (v:=.bool false) hf rfl rfl rfl (RunV.pick rfl rfl rfl rfl) ?_
  clear hf a; intro a hf
  refine O.nil ?_
  refine k_seq ?_
  replace hf:Fr a 147 [] [(1,vB),(2,.int .i64 thr),(3,.int .i64 more),(4,.int .i64 least),(5,.pointer (some ⟨b_f1,0,none⟩)),(10,.bool false),(11,.bool true),(51,.bool false)]:=hf.to ⟨rfl,rfl,rfl,rfl,rfl,rfl,rfl,rfl,trivial⟩
  refine W.if_ff hf rfl ?_
  refine W.skip ?_
  refine k_seq ?_
  replace hf:Fr a 147 [] [(1,vB),(2,.int .i64 thr),(3,.int .i64 more),(4,.int .i64 least),(5,.pointer (some ⟨b_f1,0,none⟩)),(10,.bool false),(11,.bool true)]:=hf.to ⟨rfl,rfl,rfl,rfl,rfl,rfl,rfl,trivial⟩
  refine W.seq ?_
  refine W.regionL (l:=[0,1,2,3,4,5,6,7,8,9]) rfl ?_
  refine O.val hf rfl rfl rfl (RunV.loadN (cs':=#[.int .i64 (fW:Int),.int .i64 (fH:Int),vP]) T_agg_24 T_size_24 rfl (hS.ptAt (i:=0) rfl) (Nat.le_of_ble_eq_true rfl) rfl) ?_
  clear hf a; intro a hf
  refine O.val hf rfl rfl rfl (RunV.move rfl) ?_
  clear hf a; intro a hf
  refine O.val hf rfl rfl rfl (RunV.move rfl) ?_
  clear hf a; intro a hf
  refine O.val hf rfl rfl rfl (RunV.move rfl) ?_
  clear hf a; intro a hf
  refine O.callR hf rfl rfl rfl (RunE.call (av:=#[.agg #[.int .i64 (fW:Int),.int .i64 (fH:Int),vP],vB,.int .i64 thr,.int .i64 least]) C_ok_17 rfl rfl rfl) (parts6_spec fW fH (thr) least vP vB zs bs _ (hS.rdAt (j:=0) rfl) (hS.rdAt (j:=1) rfl)) ?_
  clear hf a
  rintro ⟨va,vs⟩ w5 hS1 a hf
  replace hf:Fr a _ _ ((58,.tuple #[va,.int .i64 (Det.partsE fW fH zs bs (thr) least)])::_):=hf
  replace hS:=(hS.call hS1).eqM (N:=[sl 26 1 va vs.length vs,inn vs (Det.partsR fW fH zs bs (thr) least),pt b_f1 (.cells #[.int .i64 (fW:Int),.int .i64 (fH:Int),vP] 24 (0,0))]) rfl
  clear hS1
  refine O.val hf rfl rfl rfl (RunV.move rfl) ?_
  clear hf a; intro a hf
  refine O.val hf rfl rfl rfl (RunV.extract rfl rfl) ?_
  clear hf a; intro a hf
  refine O.val hf rfl rfl rfl (RunV.extract rfl rfl) ?_
  clear hf a; intro a hf
  refine O.val hf rfl rfl rfl (RunV.assign rfl) ?_
  clear hf a; intro a hf
  refine O.val hf rfl rfl rfl (RunV.assign rfl) ?_
  clear hf a; intro a hf
  refine O.nil ?_
  refine k_seq ?_
  replace hf:Fr a 147 [] [(1,vB),(2,.int .i64 thr),(3,.int .i64 more),(4,.int .i64 least),(5,.pointer (some ⟨b_f1,0,none⟩)),(10,.bool false),(11,.bool true),(12,va),(13,.int .i64 (Det.partsE fW fH zs bs (thr) least))]:=hf.to ⟨rfl,rfl,rfl,rfl,rfl,rfl,rfl,rfl,rfl,trivial⟩
  refine W.seq ?_
  refine W.regionL (l:=[0,1,2,3,4,5,6,7,8,9,10,11]) rfl ?_
  refine O.val hf rfl rfl rfl (RunV.loadN (cs':=#[.int .i64 (fW:Int),.int .i64 (fH:Int),vP]) T_agg_24 T_size_24 rfl (hS.ptAt (i:=2) rfl) (Nat.le_of_ble_eq_true rfl) rfl) ?_
  clear hf a; intro a hf
  refine O.val hf rfl rfl rfl (RunV.move rfl) ?_
  clear hf a; intro a hf
  refine O.val hf rfl rfl rfl (RunV.move rfl) ?_
  clear hf a; intro a hf
  refine O.val hf rfl rfl rfl (RunV.move rfl) ?_
  clear hf a; intro a hf
  refine O.val hf rfl rfl rfl (RunV.addI rfl rfl (by omega)) ?_
  clear hf a; intro a hf
  refine O.val hf rfl rfl rfl (RunV.move rfl) ?_
  clear hf a; intro a hf
  refine O.callR hf rfl rfl rfl (RunE.call (av:=#[.agg #[.int .i64 (fW:Int),.int .i64 (fH:Int),vP],vB,.int .i64 (thr+more),.int .i64 least]) C_ok_17 rfl rfl rfl) (parts6_spec fW fH (thr+more) least vP vB zs bs _ (hS.rdAt (j:=0) rfl) (hS.rdAt (j:=1) rfl)) ?_
  clear hf a
  rintro ⟨vc,us⟩ w6 hS1 a hf
  replace hf:Fr a _ _ ((68,.tuple #[vc,.int .i64 (Det.partsE fW fH zs bs (thr+more) least)])::_):=hf
  replace hS:=(hS.call hS1).eqM (N:=[sl 26 1 vc us.length us,inn us (Det.partsR fW fH zs bs (thr+more) least),sl 26 1 va vs.length vs,inn vs (Det.partsR fW fH zs bs (thr) least),pt b_f1 (.cells #[.int .i64 (fW:Int),.int .i64 (fH:Int),vP] 24 (0,0))]) rfl
  clear hS1
  refine O.val hf rfl rfl rfl (RunV.move rfl) ?_
  clear hf a; intro a hf
  refine O.val hf rfl rfl rfl (RunV.extract rfl rfl) ?_
  clear hf a; intro a hf
  refine O.val hf rfl rfl rfl (RunV.extract rfl rfl) ?_
  clear hf a; intro a hf
  refine O.val hf rfl rfl rfl (RunV.assign rfl) ?_
  clear hf a; intro a hf
  refine O.val hf rfl rfl rfl (RunV.assign rfl) ?_
  clear hf a; intro a hf
  refine O.nil ?_
  refine k_seq ?_
  replace hf:Fr a 147 [] [(4,.int .i64 least),(5,.pointer (some ⟨b_f1,0,none⟩)),(10,.bool false),(11,.bool true),(12,va),(13,.int .i64 (Det.partsE fW fH zs bs (thr) least)),(14,vc),(15,.int .i64 (Det.partsE fW fH zs bs (thr+more) least))]:=hf.to ⟨rfl,rfl,rfl,rfl,rfl,rfl,rfl,rfl,trivial⟩
  refine W.seq ?_
  refine W.seq ?_
  refine W.regionL (l:=[0,1,2,3,4,5]) rfl ?_
  refine O.val hf rfl rfl rfl (RunV.move rfl) ?_
  clear hf a; intro a hf
  refine O.val (v:=.bool (decide ((Det.partsE fW fH zs bs (thr) least)≠(0:Int)))) hf rfl rfl rfl (RunV.neq rfl rfl) ?_
  clear hf a; intro a hf
  refine O.val hf rfl rfl rfl (RunV.move rfl) ?_
  clear hf a; intro a hf
  refine O.cutN (l₁:=[3,4,5]) (l₂:=_) (fun a w=>Fr a 147 [] [(4,.int .i64 least),(5,.pointer (some ⟨b_f1,0,none⟩)),(10,.bool false),(11,.bool true),(12,va),(13,.int .i64 (Det.partsE fW fH zs bs (thr) least)),(14,vc),(15,.int .i64 (Det.partsE fW fH zs bs (thr+more) least)),(71,.int .i64 (Det.partsE fW fH zs bs (thr) least)),(72,.bool (decide ((Det.partsE fW fH zs bs (thr) least)≠(0:Int)))),(73,.bool (decide ((Det.partsE fW fH zs bs (thr) least)≠(0:Int)))),(76,.bool ((decide ((Det.partsE fW fH zs bs (thr) least)≠(0:Int)))||(decide ((Det.partsE fW fH zs bs (thr+more) least)≠(0:Int)))))]∧St w0 w noX [rdv 1 vP zs.length (ints zs),rdv 1 vB bs.length (bools bs)] [sl 26 1 vc us.length us,inn us (Det.partsR fW fH zs bs (thr+more) least),sl 26 1 va vs.length vs,inn vs (Det.partsR fW fH zs bs (thr) least),pt b_f1 (.cells #[.int .i64 (fW:Int),.int .i64 (fH:Int),vP] 24 (0,0))]) rfl ?_ ?_
  · rcases Bool.eq_false_or_eq_true (decide ((Det.partsE fW fH zs bs (thr) least)≠(0:Int))) with hb7 | hb7
    · have hb7p:=of_decide_eq_true hb7
      refine O.skipB hf rfl rfl rfl hb7 rfl ?_; clear hf a; intro a hf
      refine O.skipB hf rfl rfl rfl hb7 rfl ?_; clear hf a; intro a hf
      refine O.val (v:=.bool ((decide ((Det.partsE fW fH zs bs (thr) least)≠(0:Int)))||(decide ((Det.partsE fW fH zs bs (thr+more) least)≠(0:Int))))) hf rfl rfl rfl (RunV.pick rfl rfl rfl (by rw [hb7]; rfl)) ?_; clear hf a; intro a hf
      exact O.nil ⟨rfl,hf.to ⟨rfl,rfl,rfl,rfl,rfl,rfl,rfl,rfl,rfl,rfl,rfl,rfl,trivial⟩,hS⟩
    · have hb7p:=of_decide_eq_false hb7
      refine O.gvalB (v:=.int .i64 (Det.partsE fW fH zs bs (thr+more) least)) hf rfl rfl rfl hb7 rfl rfl (RunV.move rfl) ?_
      clear hf a; intro a hf
      refine O.gvalB (v:=.bool (decide ((Det.partsE fW fH zs bs (thr+more) least)≠(0:Int)))) hf rfl rfl rfl hb7 rfl rfl (RunV.neq rfl rfl) ?_
      clear hf a; intro a hf
      refine O.val (v:=.bool ((decide ((Det.partsE fW fH zs bs (thr) least)≠(0:Int)))||(decide ((Det.partsE fW fH zs bs (thr+more) least)≠(0:Int))))) hf rfl rfl rfl (RunV.pick rfl rfl rfl (by rw [hb7]; rfl)) ?_; clear hf a; intro a hf
      exact O.nil ⟨rfl,hf.to ⟨rfl,rfl,rfl,rfl,rfl,rfl,rfl,rfl,rfl,rfl,rfl,rfl,trivial⟩,hS⟩
  clear hf hS a; rintro a w ⟨hf,hS⟩
  refine O.nil ?_
  refine k_seq ?_
  replace hf:Fr a 147 [] [(4,.int .i64 least),(5,.pointer (some ⟨b_f1,0,none⟩)),(10,.bool false),(11,.bool true),(12,va),(14,vc),(76,.bool ((decide ((Det.partsE fW fH zs bs (thr) least)≠(0:Int)))||(decide ((Det.partsE fW fH zs bs (thr+more) least)≠(0:Int)))))]:=hf.to ⟨rfl,rfl,rfl,rfl,rfl,rfl,rfl,trivial⟩
  have hbc:((decide ((Det.partsE fW fH zs bs (thr) least)≠(0:Int)))||(decide ((Det.partsE fW fH zs bs (thr+more) least)≠(0:Int))))=true:=harg
  simp only [hbc] at hf; clear hbc
  refine W.if_tt hf rfl ?_
  refine W.seq ?_
  refine W.regionL (l:=[0,1]) rfl ?_
  refine O.val hf rfl rfl rfl (RunV.move rfl) ?_
  clear hf a; intro a hf
  refine O.val hf rfl rfl rfl (RunV.assign rfl) ?_
  clear hf a; intro a hf
  refine O.nil ?_
  refine k_seq ?_
  replace hf:Fr a 147 [] [(4,.int .i64 least),(5,.pointer (some ⟨b_f1,0,none⟩)),(10,.bool true),(11,.bool true),(12,va),(14,vc)]:=hf.to ⟨rfl,rfl,rfl,rfl,rfl,rfl,trivial⟩
  refine W.ret ?_
  refine k_then_ret ?_
  refine post1 hf rfl (ResOK.tmp rfl) ?_
  exact ⟨(),rfl,hS.sub (List.nil_sublist _) |>.noB⟩
end Go.Proofs.YtipfobacinmoiaaGreat
