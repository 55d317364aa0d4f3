/- Part of a proof: laws and walks. -/
import Derived.Test.YtgakdmmmljdpjaaDoorTao
set_option linter.unusedVariables false
set_option linter.unusedSimpArgs false
namespace Go.Proofs.YtgakdmmmljdpjaaDoor
open Go Go.SL
theorem C_ok_10:callOK Tryd.prog 10=true:=by kernel_rfl
theorem C_ok_11:callOK Tryd.prog 11=true:=by kernel_rfl
theorem C_ok_14:callOK Tryd.prog 14=true:=by kernel_rfl
theorem C_ok_21:callOK Tryd.prog 21=true:=by kernel_rfl
set_option maxHeartbeats 400000 in
set_option maxRecDepth 4000 in
theorem undo_out (vl:Value) (l:List Ch) (w0:World) (hG:Lent w0 ordA) (hl:rdOK (hp w0) 12 vl l.length (encs eC l)) (hfit:vfit vl) (p:Int) (hout:(greatM l.length||decide ((l.length:Int)>25)||decide (p<0)||decide (p≥(l.length:Int)))=true) :
    Ret Tryd.prog 6 #[vl,.int .i64 p] w0 (G:=Unit) (fun _=>.bool true) (fun _ w=>St w0 w noX [] []):=by
  refine ret_of_W (lv:=[vl,.int .i64 p]) Tryd.func6 rfl rfl rfl (fun a hf=>?_)
  replace hf:Fr a 192 [] [(0,vl),(1,.int .i64 p)]:=hf
  have hS:St w0 w0 noX [ordA,rdv 12 vl l.length (encs eC l)] []:=((St.refl w0).lend0 hl).lendA hG
  have hlm:=hl.2.1
  unfold maxLen at hlm
  refine W.seq ?_
  refine W.regionL (l:=[0]) rfl ?_
  refine O.val hf rfl rfl rfl (RunV.assign rfl) ?_
  clear hf a; intro a hf
  refine O.nil ?_
  refine k_seq ?_
  refine W.seq ?_
  refine W.regionL (l:=[0,1]) rfl ?_
  refine O.callR hf rfl rfl rfl (RunE.call (av:=#[]) C_ok_14 rfl rfl rfl) (alive_spec _ (hS.bptO (i:=0) rfl)) ?_
  clear hf a
  rintro _ w1 hS1 a hf
  replace hf:Fr a _ _ ((22,.bool true)::_):=hf
  replace hS:=(hS.call hS1).eqM (N:=[]) rfl
  clear hS1
  refine O.val hf rfl rfl rfl (RunV.assign rfl) ?_
  clear hf a; intro a hf
  refine O.nil ?_
  refine k_seq ?_
  replace hf:Fr a 192 [] [(0,vl),(1,.int .i64 p),(4,.bool false),(5,.bool true)]:=hf.to ⟨rfl,rfl,rfl,rfl,trivial⟩
  refine W.seq ?_
  refine W.seq ?_
  refine W.regionL (l:=[0,1,2,3,4,5,6,7,8,9,10,11,12,13,14,15,16,17,18,19,20]) rfl ?_
  refine O.val hf rfl rfl rfl (RunV.move rfl) ?_
  clear hf a; intro a hf
  refine O.callR hf rfl rfl rfl (RunE.call (av:=#[vl]) C_ok_10 rfl rfl rfl) (great_spec vl l _ (hS.rdAt (j:=1) rfl)) ?_
  clear hf a
  rintro _ w2 hS1 a hf
  replace hf:Fr a _ _ ((24,.bool (greatM l.length))::_):=hf
  replace hS:=(hS.call hS1).eqM (N:=[]) rfl
  clear hS1
  refine O.val hf rfl rfl rfl (RunV.move rfl) ?_
  clear hf a; intro a hf
  refine O.cutN (l₁:=[3,4,5,6]) (l₂:=_) (fun a w=>Fr a 192 [] [(0,vl),(1,.int .i64 p),(4,.bool false),(5,.bool true),(23,vl),(24,.bool (greatM l.length)),(25,.bool (greatM l.length)),(29,.bool ((greatM l.length)||(decide ((l.length:Int)>(25:Int)))))]∧St w0 w noX [ordA,rdv 12 vl l.length (encs eC l)] []) rfl ?_ ?_
  · rcases Bool.eq_false_or_eq_true (greatM l.length) with hb3 | hb3
    · have hb3p:=hb3
      try simp only [Bool.and_eq_true,Bool.or_eq_true,Bool.and_eq_false_iff,Bool.or_eq_false_iff,decide_eq_true_eq,decide_eq_false_iff_not,Bool.not_eq_true',Bool.not_eq_false',Bool.not_eq_true,Bool.not_eq_false,ne_eq] at hb3p
      refine O.skipB hf rfl rfl rfl hb3 rfl ?_; clear hf a; intro a hf
      refine O.skipB hf rfl rfl rfl hb3 rfl ?_; clear hf a; intro a hf
      refine O.skipB hf rfl rfl rfl hb3 rfl ?_; clear hf a; intro a hf
      refine O.val (v:=.bool ((greatM l.length)||(decide ((l.length:Int)>(25:Int))))) hf rfl rfl rfl (RunV.pick rfl rfl rfl (by rw [hb3]; rfl)) ?_; clear hf a; intro a hf
      exact O.nil ⟨rfl,hf.to ⟨rfl,rfl,rfl,rfl,rfl,rfl,rfl,rfl,trivial⟩,hS⟩
    · have hb3p:=hb3
      try simp only [Bool.and_eq_true,Bool.or_eq_true,Bool.and_eq_false_iff,Bool.or_eq_false_iff,decide_eq_true_eq,decide_eq_false_iff_not,Bool.not_eq_true',Bool.not_eq_false',Bool.not_eq_true,Bool.not_eq_false,ne_eq] at hb3p
      refine O.gvalB (v:=vl) hf rfl rfl rfl hb3 rfl rfl (RunV.move rfl) ?_
      clear hf a; intro a hf
      refine O.gvalB (v:=.int .i64 (l.length:Int)) hf rfl rfl rfl hb3 rfl rfl (RunV.lenV (e:=26) (by simpa using T_elem_22) rfl (hS.rdAt (j:=1) rfl)) ?_
      clear hf a; intro a hf
      refine O.gvalB (v:=.bool (decide ((l.length:Int)>(25:Int)))) hf rfl rfl rfl hb3 rfl rfl (RunV.gtr rfl rfl) ?_
      clear hf a; intro a hf
      refine O.val (v:=.bool ((greatM l.length)||(decide ((l.length:Int)>(25:Int))))) hf rfl rfl rfl (RunV.pick rfl rfl rfl (by rw [hb3]; rfl)) ?_; clear hf a; intro a hf
      exact O.nil ⟨rfl,hf.to ⟨rfl,rfl,rfl,rfl,rfl,rfl,rfl,rfl,trivial⟩,hS⟩
  clear hf hS a; rintro a w ⟨hf,hS⟩
  refine O.val hf rfl rfl rfl (RunV.move rfl) ?_
  clear hf a; intro a hf
  refine O.cutN (l₁:=[8,9,10]) (l₂:=_) (fun a w=>Fr a 192 [] [(0,vl),(1,.int .i64 p),(4,.bool false),(5,.bool true),(23,vl),(24,.bool (greatM l.length)),(25,.bool (greatM l.length)),(29,.bool ((greatM l.length)||(decide ((l.length:Int)>(25:Int))))),(30,.bool ((greatM l.length)||(decide ((l.length:Int)>(25:Int))))),(33,.bool (((greatM l.length)||(decide ((l.length:Int)>(25:Int))))||(decide (p<(0:Int)))))]∧St w0 w noX [ordA,rdv 12 vl l.length (encs eC l)] []) rfl ?_ ?_
  · rcases Bool.eq_false_or_eq_true ((greatM l.length)||(decide ((l.length:Int)>(25:Int)))) with hb4 | hb4
    · have hb4p:=hb4
      try simp only [Bool.and_eq_true,Bool.or_eq_true,Bool.and_eq_false_iff,Bool.or_eq_false_iff,decide_eq_true_eq,decide_eq_false_iff_not,Bool.not_eq_true',Bool.not_eq_false',Bool.not_eq_true,Bool.not_eq_false,ne_eq] at hb4p
      refine O.skipB hf rfl rfl rfl hb4 rfl ?_; clear hf a; intro a hf
      refine O.skipB hf rfl rfl rfl hb4 rfl ?_; clear hf a; intro a hf
      refine O.val (v:=.bool (((greatM l.length)||(decide ((l.length:Int)>(25:Int))))||(decide (p<(0:Int))))) hf rfl rfl rfl (RunV.pick rfl rfl rfl (by rw [hb4]; rfl)) ?_; clear hf a; intro a hf
      exact O.nil ⟨rfl,hf.to ⟨rfl,rfl,rfl,rfl,rfl,rfl,rfl,rfl,rfl,rfl,trivial⟩,hS⟩
    · have hb4p:=hb4
      try simp only [Bool.and_eq_true,Bool.or_eq_true,Bool.and_eq_false_iff,Bool.or_eq_false_iff,decide_eq_true_eq,decide_eq_false_iff_not,Bool.not_eq_true',Bool.not_eq_false',Bool.not_eq_true,Bool.not_eq_false,ne_eq] at hb4p
      refine O.gvalB (v:=.int .i64 p) hf rfl rfl rfl hb4 rfl rfl (RunV.move rfl) ?_
      clear hf a; intro a hf
      refine O.gvalB (v:=.bool (decide (p<(0:Int)))) hf rfl rfl rfl hb4 rfl rfl (RunV.lss rfl rfl) ?_
      clear hf a; intro a hf
      refine O.val (v:=.bool (((greatM l.length)||(decide ((l.length:Int)>(25:Int))))||(decide (p<(0:Int))))) hf rfl rfl rfl (RunV.pick rfl rfl rfl (by rw [hb4]; rfl)) ?_; clear hf a; intro a hf
      exact O.nil ⟨rfl,hf.to ⟨rfl,rfl,rfl,rfl,rfl,rfl,rfl,rfl,rfl,rfl,trivial⟩,hS⟩
  clear hf hS a; rintro a w ⟨hf,hS⟩
  refine O.val hf rfl rfl rfl (RunV.move rfl) ?_
  clear hf a; intro a hf
  refine O.cutN (l₁:=[12,13,14,15,16]) (l₂:=_) (fun a w=>Fr a 192 [] [(0,vl),(1,.int .i64 p),(4,.bool false),(5,.bool true),(23,vl),(24,.bool (greatM l.length)),(25,.bool (greatM l.length)),(29,.bool ((greatM l.length)||(decide ((l.length:Int)>(25:Int))))),(30,.bool ((greatM l.length)||(decide ((l.length:Int)>(25:Int))))),(33,.bool (((greatM l.length)||(decide ((l.length:Int)>(25:Int))))||(decide (p<(0:Int))))),(34,.bool (((greatM l.length)||(decide ((l.length:Int)>(25:Int))))||(decide (p<(0:Int))))),(39,.bool ((((greatM l.length)||(decide ((l.length:Int)>(25:Int))))||(decide (p<(0:Int))))||(decide (p≥((l.length:Int):Int)))))]∧St w0 w noX [ordA,rdv 12 vl l.length (encs eC l)] []) rfl ?_ ?_
  · rcases Bool.eq_false_or_eq_true (((greatM l.length)||(decide ((l.length:Int)>(25:Int))))||(decide (p<(0:Int)))) with hb5 | hb5
    · have hb5p:=hb5
      try simp only [Bool.and_eq_true,Bool.or_eq_true,Bool.and_eq_false_iff,Bool.or_eq_false_iff,decide_eq_true_eq,decide_eq_false_iff_not,Bool.not_eq_true',Bool.not_eq_false',Bool.not_eq_true,Bool.not_eq_false,ne_eq] at hb5p
      refine O.skipB hf rfl rfl rfl hb5 rfl ?_; clear hf a; intro a hf
      refine O.skipB hf rfl rfl rfl hb5 rfl ?_; clear hf a; intro a hf
      refine O.skipB hf rfl rfl rfl hb5 rfl ?_; clear hf a; intro a hf
      refine O.skipB hf rfl rfl rfl hb5 rfl ?_; clear hf a; intro a hf
      refine O.val (v:=.bool ((((greatM l.length)||(decide ((l.length:Int)>(25:Int))))||(decide (p<(0:Int))))||(decide (p≥((l.length:Int):Int))))) hf rfl rfl rfl (RunV.pick rfl rfl rfl (by rw [hb5]; rfl)) ?_; clear hf a; intro a hf
      exact O.nil ⟨rfl,hf.to ⟨rfl,rfl,rfl,rfl,rfl,rfl,rfl,rfl,rfl,rfl,rfl,rfl,trivial⟩,hS⟩
    · have hb5p:=hb5
      try simp only [Bool.and_eq_true,Bool.or_eq_true,Bool.and_eq_false_iff,Bool.or_eq_false_iff,decide_eq_true_eq,decide_eq_false_iff_not,Bool.not_eq_true',Bool.not_eq_false',Bool.not_eq_true,Bool.not_eq_false,ne_eq] at hb5p
      refine O.gvalB (v:=.int .i64 p) hf rfl rfl rfl hb5 rfl rfl (RunV.move rfl) ?_
      clear hf a; intro a hf
      refine O.gvalB (v:=vl) hf rfl rfl rfl hb5 rfl rfl (RunV.move rfl) ?_
      clear hf a; intro a hf
      refine O.gvalB (v:=.int .i64 (l.length:Int)) hf rfl rfl rfl hb5 rfl rfl (RunV.lenV (e:=26) (by simpa using T_elem_22) rfl (hS.rdAt (j:=1) rfl)) ?_
      clear hf a; intro a hf
      refine O.gvalB (v:=.bool (decide (p≥((l.length:Int):Int)))) hf rfl rfl rfl hb5 rfl rfl (RunV.geq rfl rfl) ?_
      clear hf a; intro a hf
      refine O.val (v:=.bool ((((greatM l.length)||(decide ((l.length:Int)>(25:Int))))||(decide (p<(0:Int))))||(decide (p≥((l.length:Int):Int))))) hf rfl rfl rfl (RunV.pick rfl rfl rfl (by rw [hb5]; rfl)) ?_; clear hf a; intro a hf
      exact O.nil ⟨rfl,hf.to ⟨rfl,rfl,rfl,rfl,rfl,rfl,rfl,rfl,rfl,rfl,rfl,rfl,trivial⟩,hS⟩
  clear hf hS a; rintro a w ⟨hf,hS⟩
  refine O.val hf rfl rfl rfl (RunV.move rfl) ?_
  clear hf a; intro a hf
  refine O.cutN (l₁:=[18,19,20]) (l₂:=_) (fun a w=>Fr a 192 [] [(0,vl),(1,.int .i64 p),(4,.bool false),(5,.bool true),(23,vl),(24,.bool (greatM l.length)),(25,.bool (greatM l.length)),(29,.bool ((greatM l.length)||(decide ((l.length:Int)>(25:Int))))),(30,.bool ((greatM l.length)||(decide ((l.length:Int)>(25:Int))))),(33,.bool (((greatM l.length)||(decide ((l.length:Int)>(25:Int))))||(decide (p<(0:Int))))),(34,.bool (((greatM l.length)||(decide ((l.length:Int)>(25:Int))))||(decide (p<(0:Int))))),(39,.bool ((((greatM l.length)||(decide ((l.length:Int)>(25:Int))))||(decide (p<(0:Int))))||(decide (p≥((l.length:Int):Int))))),(40,.bool ((((greatM l.length)||(decide ((l.length:Int)>(25:Int))))||(decide (p<(0:Int))))||(decide (p≥((l.length:Int):Int))))),(43,.bool (((((greatM l.length)||(decide ((l.length:Int)>(25:Int))))||(decide (p<(0:Int))))||(decide (p≥((l.length:Int):Int))))||false))]∧St w0 w noX [ordA,rdv 12 vl l.length (encs eC l)] []) rfl ?_ ?_
  · rcases Bool.eq_false_or_eq_true ((((greatM l.length)||(decide ((l.length:Int)>(25:Int))))||(decide (p<(0:Int))))||(decide (p≥((l.length:Int):Int)))) with hb6 | hb6
    · have hb6p:=hb6
      try simp only [Bool.and_eq_true,Bool.or_eq_true,Bool.and_eq_false_iff,Bool.or_eq_false_iff,decide_eq_true_eq,decide_eq_false_iff_not,Bool.not_eq_true',Bool.not_eq_false',Bool.not_eq_true,Bool.not_eq_false,ne_eq] at hb6p
      refine O.skipB hf rfl rfl rfl hb6 rfl ?_; clear hf a; intro a hf
      refine O.skipB hf rfl rfl rfl hb6 rfl ?_; clear hf a; intro a hf
      refine O.val (v:=.bool (((((greatM l.length)||(decide ((l.length:Int)>(25:Int))))||(decide (p<(0:Int))))||(decide (p≥((l.length:Int):Int))))||false)) hf rfl rfl rfl (RunV.pick rfl rfl rfl (by rw [hb6]; rfl)) ?_; clear hf a; intro a hf
      exact O.nil ⟨rfl,hf.to ⟨rfl,rfl,rfl,rfl,rfl,rfl,rfl,rfl,rfl,rfl,rfl,rfl,rfl,rfl,trivial⟩,hS⟩
    · have hb6p:=hb6
      try simp only [Bool.and_eq_true,Bool.or_eq_true,Bool.and_eq_false_iff,Bool.or_eq_false_iff,decide_eq_true_eq,decide_eq_false_iff_not,Bool.not_eq_true',Bool.not_eq_false',Bool.not_eq_true,Bool.not_eq_false,ne_eq] at hb6p
      refine O.gvalB (v:=.bool true) hf rfl rfl rfl hb6 rfl rfl (RunV.move rfl) ?_
      clear hf a; intro a hf
      refine O.gvalB (v:=.bool false) hf rfl rfl rfl hb6 rfl rfl (RunV.not (b:=true) rfl) ?_
      clear hf a; intro a hf
      refine O.val (v:=.bool (((((greatM l.length)||(decide ((l.length:Int)>(25:Int))))||(decide (p<(0:Int))))||(decide (p≥((l.length:Int):Int))))||false)) hf rfl rfl rfl (RunV.pick rfl rfl rfl (by rw [hb6]; rfl)) ?_; clear hf a; intro a hf
      exact O.nil ⟨rfl,hf.to ⟨rfl,rfl,rfl,rfl,rfl,rfl,rfl,rfl,rfl,rfl,rfl,rfl,rfl,rfl,trivial⟩,hS⟩
  clear hf hS a; rintro a w ⟨hf,hS⟩
  refine O.nil ?_
  refine k_seq ?_
  replace hf:Fr a 192 [] [(0,vl),(1,.int .i64 p),(4,.bool false),(5,.bool true),(43,.bool (((((greatM l.length)||(decide ((l.length:Int)>(25:Int))))||(decide (p<(0:Int))))||(decide (p≥((l.length:Int):Int))))||false))]:=hf.to ⟨rfl,rfl,rfl,rfl,rfl,trivial⟩
  have hbc:(((((greatM l.length)||(decide ((l.length:Int)>(25:Int))))||(decide (p<(0:Int))))||(decide (p≥((l.length:Int):Int))))||false)=true:=(by rw [Bool.or_false]; exact hout)
  simp only [hbc] at hf; clear hbc
  refine W.if_tt hf rfl ?_
  refine W.seq ?_
  refine W.regionL (l:=[0,1]) rfl ?_
  refine O.val hf rfl rfl rfl (RunV.move rfl) ?_
  clear hf a; intro a hf
  refine O.val hf rfl rfl rfl (RunV.assign rfl) ?_
  clear hf a; intro a hf
  refine O.nil ?_
  refine k_seq ?_
  replace hf:Fr a 192 [] [(0,vl),(1,.int .i64 p),(4,.bool true),(5,.bool true)]:=hf.to ⟨rfl,rfl,rfl,rfl,trivial⟩
  refine W.ret ?_
  refine k_then_ret ?_
  refine post1 hf rfl (ResOK.tmp rfl) ?_
  exact ⟨(),rfl,hS.sub (List.nil_sublist _) |>.noB⟩
set_option maxHeartbeats 4000000 in
set_option maxRecDepth 4000 in
theorem undo_in (vl:Value) (l:List Ch) (w0:World) (hG:Lent w0 ordA) (hl:rdOK (hp w0) 12 vl l.length (encs eC l)) (hfit:vfit vl) (n:Nat) (hn:n<l.length) (hl25:l.length≤25) :
    Ret Tryd.prog 6 #[vl,.int .i64 (n:Int)] w0 (G:=Unit) (fun _=>.bool true) (fun _ w=>St w0 w noX [] []):=by
  refine ret_of_W (lv:=[vl,.int .i64 (n:Int)]) Tryd.func6 rfl rfl rfl (fun a hf=>?_)
  replace hf:Fr a 192 [] [(0,vl),(1,.int .i64 (n:Int))]:=hf
  have hS:St w0 w0 noX [ordA,rdv 12 vl l.length (encs eC l)] []:=((St.refl w0).lend0 hl).lendA hG
  have hlm:=hl.2.1
  unfold maxLen at hlm
  refine W.seq ?_
  refine W.regionL (l:=[0]) rfl ?_
  refine O.val hf rfl rfl rfl (RunV.assign rfl) ?_
  clear hf a; intro a hf
  refine O.nil ?_
  refine k_seq ?_
  refine W.seq ?_
  refine W.regionL (l:=[0,1]) rfl ?_
  refine O.callR hf rfl rfl rfl (RunE.call (av:=#[]) C_ok_14 rfl rfl rfl) (alive_spec _ (hS.bptO (i:=0) rfl)) ?_
  clear hf a
  rintro _ w1 hS1 a hf
  replace hf:Fr a _ _ ((22,.bool true)::_):=hf
  replace hS:=(hS.call hS1).eqM (N:=[]) rfl
  clear hS1
  refine O.val hf rfl rfl rfl (RunV.assign rfl) ?_
  clear hf a; intro a hf
  refine O.nil ?_
  refine k_seq ?_
  replace hf:Fr a 192 [] [(0,vl),(1,.int .i64 (n:Int)),(4,.bool false),(5,.bool true)]:=hf.to ⟨rfl,rfl,rfl,rfl,trivial⟩
  refine W.seq ?_
  refine W.seq ?_
  refine W.regionL (l:=[0,1,2,3,4,5,6,7,8,9,10,11,12,13,14,15,16,17,18,19,20]) rfl ?_
  refine O.val hf rfl rfl rfl (RunV.move rfl) ?_
  clear hf a; intro a hf
  refine O.callR hf rfl rfl rfl (RunE.call (av:=#[vl]) C_ok_10 rfl rfl rfl) (great_false vl l _ (hS.rdAt (j:=1) rfl) hl25) ?_
  clear hf a
  rintro _ w2 hS1 a hf
  replace hf:Fr a _ _ ((24,.bool false)::_):=hf
  replace hS:=(hS.call hS1).eqM (N:=[]) rfl
  clear hS1
  refine O.val hf rfl rfl rfl (RunV.move rfl) ?_
  clear hf a; intro a hf
  refine O.gvalB (v:=vl) hf rfl rfl rfl rfl rfl rfl (RunV.move rfl) ?_
  clear hf a; intro a hf
  refine O.gvalB (v:=.int .i64 (l.length:Int)) hf rfl rfl rfl rfl rfl rfl (RunV.lenV (e:=26) (by simpa using T_elem_22) rfl (hS.rdAt (j:=1) rfl)) ?_
  clear hf a; intro a hf
  refine O.gvalB (v:=.bool (decide ((l.length:Int)>(25:Int)))) hf rfl rfl rfl rfl rfl rfl (RunV.gtr rfl rfl) ?_
  clear hf a; intro a hf
  refine O.val (v:=.bool (decide ((l.length:Int)>(25:Int)))) hf rfl rfl rfl (RunV.pick rfl rfl rfl rfl) ?_
  clear hf a; intro a hf
  refine O.val hf rfl rfl rfl (RunV.move rfl) ?_
  clear hf a; intro a hf
  have hbg:(decide ((l.length:Int)>(25:Int)))=false:=decide_eq_false (by omega)
  simp only [hbg] at hf; clear hbg
  refine O.gvalB (v:=.int .i64 (n:Int)) hf rfl rfl rfl rfl rfl rfl (RunV.move rfl) ?_
  clear hf a; intro a hf
  refine O.gvalB (v:=.bool (decide ((n:Int)<(0:Int)))) hf rfl rfl rfl rfl rfl rfl (RunV.lss rfl rfl) ?_
  clear hf a; intro a hf
  refine O.val (v:=.bool (decide ((n:Int)<(0:Int)))) hf rfl rfl rfl (RunV.pick rfl rfl rfl rfl) ?_
  clear hf a; intro a hf
  refine O.val hf rfl rfl rfl (RunV.move rfl) ?_
  clear hf a; intro a hf
  have hbg:(decide ((n:Int)<(0:Int)))=false:=decide_eq_false (by omega)
  simp only [hbg] at hf; clear hbg
  refine O.gvalB (v:=.int .i64 (n:Int)) hf rfl rfl rfl rfl rfl rfl (RunV.move rfl) ?_
  clear hf a; intro a hf
  refine O.gvalB (v:=vl) hf rfl rfl rfl rfl rfl rfl (RunV.move rfl) ?_
  clear hf a; intro a hf
  refine O.gvalB (v:=.int .i64 (l.length:Int)) hf rfl rfl rfl rfl rfl rfl (RunV.lenV (e:=26) (by simpa using T_elem_22) rfl (hS.rdAt (j:=1) rfl)) ?_
  clear hf a; intro a hf
  refine O.gvalB (v:=.bool (decide ((n:Int)≥((l.length:Int):Int)))) hf rfl rfl rfl rfl rfl rfl (RunV.geq rfl rfl) ?_
  clear hf a; intro a hf
  refine O.val (v:=.bool (decide ((n:Int)≥((l.length:Int):Int)))) hf rfl rfl rfl (RunV.pick rfl rfl rfl rfl) ?_
  clear hf a; intro a hf
  refine O.val hf rfl rfl rfl (RunV.move rfl) ?_
  clear hf a; intro a hf
  have hbg:(decide ((n:Int)≥((l.length:Int):Int)))=false:=decide_eq_false (by omega)
  simp only [hbg] at hf; clear hbg
  refine O.gvalB (v:=.bool true) hf rfl rfl rfl rfl rfl rfl (RunV.move rfl) ?_
  clear hf a; intro a hf
  refine O.gvalB (v:=.bool false) hf rfl rfl rfl rfl rfl rfl (RunV.not (b:=true) rfl) ?_
  clear hf a; intro a hf
  refine O.val (v:=.bool false) hf rfl rfl rfl (RunV.pick rfl rfl rfl rfl) ?_
  clear hf a; intro a hf
  refine O.nil ?_
  refine k_seq ?_
  replace hf:Fr a 192 [] [(0,vl),(1,.int .i64 (n:Int)),(4,.bool false),(5,.bool true),(43,.bool false)]:=hf.to ⟨rfl,rfl,rfl,rfl,rfl,trivial⟩
  refine W.if_ff hf rfl ?_
  refine W.skip ?_
  refine k_seq ?_
  replace hf:Fr a 192 [] [(0,vl),(1,.int .i64 (n:Int)),(4,.bool false),(5,.bool true)]:=hf.to ⟨rfl,rfl,rfl,rfl,trivial⟩
  refine W.seq ?_
  rcases hm:histM l with e | ⟨S,us⟩
  · have he0:=histM_ne hm
    refine W.regionL (l:=[0,1,2,3,4,5,6]) rfl ?_
    refine O.val hf rfl rfl rfl (RunV.move rfl) ?_
    clear hf a; intro a hf
    refine O.callR hf rfl rfl rfl (RunE.call (av:=#[vl]) C_ok_16 rfl rfl rfl) (run_err vl l _ (hS.bptO (i:=0) rfl) (hS.rdAt (j:=1) rfl) hfit e hm) ?_
    clear hf a
    rintro _ w3 hS1 a hf
    replace hf:Fr a _ _ ((47,.tuple #[.slice none 0 0,.int .i64 e])::_):=hf
    replace hS:=(hS.call hS1).eqM (N:=[]) rfl
    clear hS1
    refine O.val hf rfl rfl rfl (RunV.move rfl) ?_
    clear hf a; intro a hf
    refine O.val hf rfl rfl rfl (RunV.extract rfl rfl) ?_
    clear hf a; intro a hf
    refine O.val hf rfl rfl rfl (RunV.extract rfl rfl) ?_
    clear hf a; intro a hf
    refine O.val hf rfl rfl rfl (RunV.assign rfl) ?_
    clear hf a; intro a hf
    refine O.val hf rfl rfl rfl (RunV.assign rfl) ?_
    clear hf a; intro a hf
    refine O.nil ?_
    refine k_seq ?_
    replace hf:Fr a 192 [] [(0,vl),(1,.int .i64 (n:Int)),(4,.bool false),(5,.bool true),(7,.int .i64 e)]:=hf.to ⟨rfl,rfl,rfl,rfl,rfl,trivial⟩
    refine W.seq ?_
    refine W.regionL (l:=[0,1,2,3,4,5,6]) rfl ?_
    refine O.val hf rfl rfl rfl (RunV.move rfl) ?_
    clear hf a; intro a hf
    refine O.callR hf rfl rfl rfl (RunE.call (av:=#[vl]) C_ok_21 rfl rfl rfl) (undone_err vl l _ (hS.bptO (i:=0) rfl) (hS.rdAt (j:=1) rfl) hfit e hm) ?_
    clear hf a
    rintro _ w4 hS1 a hf
    replace hf:Fr a _ _ ((52,.tuple #[.slice none 0 0,.int .i64 e])::_):=hf
    replace hS:=(hS.call hS1).eqM (N:=[]) rfl
    clear hS1
    refine O.val hf rfl rfl rfl (RunV.move rfl) ?_
    clear hf a; intro a hf
    refine O.val hf rfl rfl rfl (RunV.extract rfl rfl) ?_
    clear hf a; intro a hf
    refine O.val hf rfl rfl rfl (RunV.extract rfl rfl) ?_
    clear hf a; intro a hf
    refine O.val hf rfl rfl rfl (RunV.assign rfl) ?_
    clear hf a; intro a hf
    refine O.val hf rfl rfl rfl (RunV.assign rfl) ?_
    clear hf a; intro a hf
    refine O.nil ?_
    refine k_seq ?_
    replace hf:Fr a 192 [] [(0,vl),(1,.int .i64 (n:Int)),(4,.bool false),(5,.bool true),(7,.int .i64 e),(8,.slice none 0 0),(9,.int .i64 e)]:=hf.to ⟨rfl,rfl,rfl,rfl,rfl,rfl,rfl,trivial⟩
    refine W.seq ?_
    refine W.seq ?_
    refine W.regionL (l:=[0,1,2,3,4,5,6,7,8,9,10,11,12]) rfl ?_
    refine O.val hf rfl rfl rfl (RunV.move rfl) ?_
    clear hf a; intro a hf
    refine O.val (v:=.bool (decide (e≠(0:Int)))) hf rfl rfl rfl (RunV.neq rfl rfl) ?_
    clear hf a; intro a hf
    refine O.val hf rfl rfl rfl (RunV.move rfl) ?_
    clear hf a; intro a hf
    have hbg:(decide (e≠(0:Int)))=true:=decide_eq_true he0
    simp only [hbg] at hf; clear hbg
    refine O.skipB hf rfl rfl rfl rfl rfl ?_; clear hf a; intro a hf
    refine O.skipB hf rfl rfl rfl rfl rfl ?_; clear hf a; intro a hf
    refine O.val (v:=.bool true) hf rfl rfl rfl (RunV.pick rfl rfl rfl rfl) ?_
    clear hf a; intro a hf
    refine O.val hf rfl rfl rfl (RunV.move rfl) ?_
    clear hf a; intro a hf
    refine O.skipB hf rfl rfl rfl rfl rfl ?_; clear hf a; intro a hf
    refine O.skipB hf rfl rfl rfl rfl rfl ?_; clear hf a; intro a hf
    refine O.skipB hf rfl rfl rfl rfl rfl ?_; clear hf a; intro a hf
    refine O.skipB hf rfl rfl rfl rfl rfl ?_; clear hf a; intro a hf
    refine O.skipB hf rfl rfl rfl rfl rfl ?_; clear hf a; intro a hf
    refine O.val (v:=.bool true) hf rfl rfl rfl (RunV.pick rfl rfl rfl rfl) ?_
    clear hf a; intro a hf
    refine O.nil ?_
    refine k_seq ?_
    replace hf:Fr a 192 [] [(0,vl),(1,.int .i64 (n:Int)),(4,.bool false),(5,.bool true),(7,.int .i64 e),(8,.slice none 0 0),(9,.int .i64 e),(67,.bool true)]:=hf.to ⟨rfl,rfl,rfl,rfl,rfl,rfl,rfl,rfl,trivial⟩
    refine W.if_tt hf rfl ?_
    refine W.seq ?_
    refine W.regionL (l:=[0,1,2,3,4,5,6,7,8,9,10]) rfl ?_
    refine O.val hf rfl rfl rfl (RunV.move rfl) ?_
    clear hf a; intro a hf
    refine O.val hf rfl rfl rfl (RunV.move rfl) ?_
    clear hf a; intro a hf
    refine O.gvalB (v:=.int .i64 e) hf rfl rfl rfl rfl rfl rfl (RunV.move rfl) ?_
    clear hf a; intro a hf
    refine O.gvalB (v:=.bool (decide (e≠(0:Int)))) hf rfl rfl rfl rfl rfl rfl (RunV.neq rfl rfl) ?_
    clear hf a; intro a hf
    refine O.val (v:=.bool (decide (e≠(0:Int)))) hf rfl rfl rfl (RunV.pick rfl rfl rfl rfl) ?_
    clear hf a; intro a hf
    refine O.val hf rfl rfl rfl (RunV.move rfl) ?_
    clear hf a; intro a hf
    have hbg:(decide (e≠(0:Int)))=true:=decide_eq_true he0
    simp only [hbg] at hf; clear hbg
    refine O.gvalB (v:=.int .i64 e) hf rfl rfl rfl rfl rfl rfl (RunV.move rfl) ?_
    clear hf a; intro a hf
    refine O.gvalB (v:=.int .i64 e) hf rfl rfl rfl rfl rfl rfl (RunV.move rfl) ?_
    clear hf a; intro a hf
    refine O.gvalB (v:=.bool (decide (e=(e:Int)))) hf rfl rfl rfl rfl rfl rfl (RunV.eql rfl rfl) ?_
    clear hf a; intro a hf
    refine O.val (v:=.bool (decide (e=(e:Int)))) hf rfl rfl rfl (RunV.pick rfl rfl rfl rfl) ?_
    clear hf a; intro a hf
    refine O.val hf rfl rfl rfl (RunV.assign rfl) ?_
    clear hf a; intro a hf
    refine O.nil ?_
    refine k_seq ?_
    replace hf:Fr a 192 [] [(0,vl),(1,.int .i64 (n:Int)),(4,.bool (decide (e=(e:Int)))),(5,.bool true),(8,.slice none 0 0)]:=hf.to ⟨rfl,rfl,rfl,rfl,rfl,trivial⟩
    refine W.ret ?_
    refine k_then_ret ?_
    refine post1 hf rfl (ResOK.tmp rfl) ?_
    exact ⟨(),congrArg (fun b=>Ending.returned (Value.bool b)) (decide_eq_true rfl),hS.sub (List.nil_sublist _) |>.noB⟩
  · have hul:=hist_len hm
    refine W.regionL (l:=[0,1,2,3,4,5,6]) rfl ?_
    refine O.val hf rfl rfl rfl (RunV.move rfl) ?_
    clear hf a; intro a hf
    refine O.callR hf rfl rfl rfl (RunE.call (av:=#[vl]) C_ok_16 rfl rfl rfl) (run_ok vl l _ (hS.bptO (i:=0) rfl) (hS.rdAt (j:=1) rfl) hfit _ _ hm) ?_
    clear hf a
    rintro ⟨va1,xs1⟩ w5 ⟨hS1,hxs1⟩ a hf
    replace hf:Fr a _ _ ((47,.tuple #[va1,.int .i64 0])::_):=hf
    replace hS:=(hS.call hS1).eqM (N:=[sl 46 6 va1 xs1.length (encs eO xs1),bigA (xs1.map obA)]) rfl
    clear hS1
    refine O.val hf rfl rfl rfl (RunV.move rfl) ?_
    clear hf a; intro a hf
    refine O.val hf rfl rfl rfl (RunV.extract rfl rfl) ?_
    clear hf a; intro a hf
    refine O.val hf rfl rfl rfl (RunV.extract rfl rfl) ?_
    clear hf a; intro a hf
    refine O.val hf rfl rfl rfl (RunV.assign rfl) ?_
    clear hf a; intro a hf
    refine O.val hf rfl rfl rfl (RunV.assign rfl) ?_
    clear hf a; intro a hf
    refine O.nil ?_
    refine k_seq ?_
    replace hf:Fr a 192 [] [(0,vl),(1,.int .i64 (n:Int)),(4,.bool false),(5,.bool true),(7,.int .i64 0)]:=hf.to ⟨rfl,rfl,rfl,rfl,rfl,trivial⟩
    refine W.seq ?_
    refine W.regionL (l:=[0,1,2,3,4,5,6]) rfl ?_
    refine O.val hf rfl rfl rfl (RunV.move rfl) ?_
    clear hf a; intro a hf
    refine O.callR hf rfl rfl rfl (RunE.call (av:=#[vl]) C_ok_21 rfl rfl rfl) (undone_ok vl l _ (hS.bptO (i:=0) rfl) (hS.rdAt (j:=1) rfl) hfit S us hm) ?_
    clear hf a
    rintro uv w6 hS1 a hf
    replace hf:Fr a _ _ ((52,.tuple #[uv,.int .i64 0])::_):=hf
    replace hS:=(hS.call hS1).eqM (N:=[sl 4 1 uv us.length (bools us),sl 46 6 va1 xs1.length (encs eO xs1),bigA (xs1.map obA)]) rfl
    clear hS1
    refine O.val hf rfl rfl rfl (RunV.move rfl) ?_
    clear hf a; intro a hf
    refine O.val hf rfl rfl rfl (RunV.extract rfl rfl) ?_
    clear hf a; intro a hf
    refine O.val hf rfl rfl rfl (RunV.extract rfl rfl) ?_
    clear hf a; intro a hf
    refine O.val hf rfl rfl rfl (RunV.assign rfl) ?_
    clear hf a; intro a hf
    refine O.val hf rfl rfl rfl (RunV.assign rfl) ?_
    clear hf a; intro a hf
    refine O.nil ?_
    refine k_seq ?_
    replace hf:Fr a 192 [] [(0,vl),(1,.int .i64 (n:Int)),(4,.bool false),(5,.bool true),(7,.int .i64 0),(8,uv),(9,.int .i64 0)]:=hf.to ⟨rfl,rfl,rfl,rfl,rfl,rfl,rfl,trivial⟩
    refine W.seq ?_
    refine W.seq ?_
    refine W.regionL (l:=[0,1,2,3,4,5,6,7,8,9,10,11,12]) rfl ?_
    refine O.val hf rfl rfl rfl (RunV.move rfl) ?_
    clear hf a; intro a hf
    refine O.val hf rfl rfl rfl (RunV.toB (c:=false) (RunV.neq rfl rfl) (by decide)) ?_
    clear hf a; intro a hf
    refine O.val hf rfl rfl rfl (RunV.move rfl) ?_
    clear hf a; intro a hf
    refine O.gvalB (v:=.int .i64 0) hf rfl rfl rfl rfl rfl rfl (RunV.move rfl) ?_
    clear hf a; intro a hf
    refine O.gvalB (v:=.bool false) hf rfl rfl rfl rfl rfl rfl (RunV.toB (c:=false) (RunV.neq rfl rfl) (by decide)) ?_
    clear hf a; intro a hf
    refine O.val (v:=.bool false) hf rfl rfl rfl (RunV.pick rfl rfl rfl rfl) ?_
    clear hf a; intro a hf
    refine O.val hf rfl rfl rfl (RunV.move rfl) ?_
    clear hf a; intro a hf
    refine O.gvalB (v:=uv) hf rfl rfl rfl rfl rfl rfl (RunV.move rfl) ?_
    clear hf a; intro a hf
    refine O.gvalB (v:=.int .i64 (us.length:Int)) hf rfl rfl rfl rfl rfl rfl (RunV.lenV (e:=4) (by simpa using T_elem_51) rfl (hS.slr (j:=0) rfl)) ?_
    clear hf a; intro a hf
    refine O.gvalB (v:=vl) hf rfl rfl rfl rfl rfl rfl (RunV.move rfl) ?_
    clear hf a; intro a hf
    refine O.gvalB (v:=.int .i64 (l.length:Int)) hf rfl rfl rfl rfl rfl rfl (RunV.lenV (e:=26) (by simpa using T_elem_22) rfl (hS.rdAt (j:=1) rfl)) ?_
    clear hf a; intro a hf
    refine O.gvalB (v:=.bool (decide ((us.length:Int)≠((l.length:Int):Int)))) hf rfl rfl rfl rfl rfl rfl (RunV.neq rfl rfl) ?_
    clear hf a; intro a hf
    refine O.val (v:=.bool (decide ((us.length:Int)≠((l.length:Int):Int)))) hf rfl rfl rfl (RunV.pick rfl rfl rfl rfl) ?_
    clear hf a; intro a hf
    refine O.nil ?_
    refine k_seq ?_
    replace hf:Fr a 192 [] [(0,vl),(1,.int .i64 (n:Int)),(4,.bool false),(5,.bool true),(7,.int .i64 0),(8,uv),(9,.int .i64 0),(67,.bool (decide ((us.length:Int)≠((l.length:Int):Int))))]:=hf.to ⟨rfl,rfl,rfl,rfl,rfl,rfl,rfl,rfl,trivial⟩
    have hbc:(decide ((us.length:Int)≠((l.length:Int):Int)))=false:=decide_eq_false (fun h=>h (by rw [hul]))
    simp only [hbc] at hf; clear hbc
    refine W.if_ff hf rfl ?_
    refine W.skip ?_
    refine k_seq ?_
    replace hf:Fr a 192 [] [(0,vl),(1,.int .i64 (n:Int)),(4,.bool false),(5,.bool true),(8,uv)]:=hf.to ⟨rfl,rfl,rfl,rfl,rfl,trivial⟩
    refine W.seq ?_
    refine W.seq ?_
    refine W.regionL (l:=[0,1,2,3,4,5,6,7,8,9,10,11]) rfl ?_
    refine O.val hf rfl rfl rfl (RunV.move rfl) ?_
    clear hf a; intro a hf
    refine O.val hf rfl rfl rfl (RunV.move rfl) ?_
    clear hf a; intro a hf
    refine O.val hf rfl rfl rfl (RunV.ixV (j:=n) (m:=n*12) T_elem_22 T_size_26 rfl rfl (hS.rdAt (j:=1) rfl) rfl (by omega) rfl) ?_
    clear hf a; intro a hf
    refine O.val hf rfl rfl rfl (RunV.ixF T_field_26_0 rfl (hS.rdAt (j:=1) rfl) (by omega) rfl) ?_
    clear hf a; intro a hf
    refine O.val hf rfl rfl rfl (RunV.ldG2 (j:=n) (o:=0) (sz:=12) (enc:=eC) (l:=l) T_agg_5 eC_len rfl (hS.rdAt (j:=1) rfl) (by omega) rfl rfl) ?_
    clear hf a; intro a hf
    refine O.val (v:=.bool (decide (((l.getD n default).kind)=(4:Int)))) hf rfl rfl rfl (RunV.eql rfl rfl) ?_
    clear hf a; intro a hf
    refine O.val hf rfl rfl rfl (RunV.move rfl) ?_
    clear hf a; intro a hf
    refine O.cutN (l₁:=[7,8,9,10,11]) (l₂:=_) (fun a w=>Fr a 192 [] [(0,vl),(1,.int .i64 (n:Int)),(4,.bool false),(5,.bool true),(8,uv),(78,vl),(79,.int .i64 (n:Int)),(80,ix vl (n*12)),(81,ix vl (n*12)),(82,.int .u8 ((l.getD n default).kind)),(83,.bool (decide (((l.getD n default).kind)=(4:Int)))),(84,.bool (decide (((l.getD n default).kind)=(4:Int)))),(89,.bool ((decide (((l.getD n default).kind)=(4:Int)))||(us.getD n false)))]∧St w0 w noX [ordA,rdv 12 vl l.length (encs eC l)] [sl 4 1 uv us.length (bools us),sl 46 6 va1 xs1.length (encs eO xs1),bigA (xs1.map obA)]) rfl ?_ ?_
    · rcases Bool.eq_false_or_eq_true (decide (((l.getD n default).kind)=(4:Int))) with hb7 | hb7
      · have hb7p:=of_decide_eq_true hb7
        refine O.skipB hf rfl rfl rfl hb7 rfl ?_; clear hf a; intro a hf
        refine O.skipB hf rfl rfl rfl hb7 rfl ?_; clear hf a; intro a hf
        refine O.skipB hf rfl rfl rfl hb7 rfl ?_; clear hf a; intro a hf
        refine O.skipB hf rfl rfl rfl hb7 rfl ?_; clear hf a; intro a hf
        refine O.val (v:=.bool ((decide (((l.getD n default).kind)=(4:Int)))||(us.getD n false))) hf rfl rfl rfl (RunV.pick rfl rfl rfl (by rw [hb7]; rfl)) ?_; clear hf a; intro a hf
        exact O.nil ⟨rfl,hf.to ⟨rfl,rfl,rfl,rfl,rfl,rfl,rfl,rfl,rfl,rfl,rfl,rfl,rfl,trivial⟩,hS⟩
      · have hb7p:=of_decide_eq_false hb7
        refine O.gvalB (v:=uv) hf rfl rfl rfl hb7 rfl rfl (RunV.move rfl) ?_
        clear hf a; intro a hf
        refine O.gvalB (v:=.int .i64 (n:Int)) hf rfl rfl rfl hb7 rfl rfl (RunV.move rfl) ?_
        clear hf a; intro a hf
        refine O.gvalB (v:=ix uv n) hf rfl rfl rfl hb7 rfl rfl (RunV.ixV (j:=n) (m:=n) T_elem_51 T_size_4 rfl rfl (hS.slr (j:=0) rfl) rfl (by omega) (Nat.mul_one _)) ?_
        clear hf a; intro a hf
        refine O.gvalB (v:=.bool (us.getD n false)) hf rfl rfl rfl hb7 rfl rfl (RunV.ld1 T_agg_4 rfl (hS.slr (j:=0) rfl) (bools_get (by omega))) ?_
        clear hf a; intro a hf
        refine O.val (v:=.bool ((decide (((l.getD n default).kind)=(4:Int)))||(us.getD n false))) hf rfl rfl rfl (RunV.pick rfl rfl rfl (by rw [hb7]; rfl)) ?_; clear hf a; intro a hf
        exact O.nil ⟨rfl,hf.to ⟨rfl,rfl,rfl,rfl,rfl,rfl,rfl,rfl,rfl,rfl,rfl,rfl,rfl,trivial⟩,hS⟩
    clear hf hS a; rintro a w ⟨hf,hS⟩
    refine O.nil ?_
    refine k_seq ?_
    replace hf:Fr a 192 [] [(0,vl),(1,.int .i64 (n:Int)),(4,.bool false),(5,.bool true),(8,uv),(89,.bool ((decide (((l.getD n default).kind)=(4:Int)))||(us.getD n false)))]:=hf.to ⟨rfl,rfl,rfl,rfl,rfl,rfl,trivial⟩
    refine W.if_ hf rfl (fun hbad=>?_) (fun hbad=>?_)
    · have hbadb:=hbad
      try simp only [Bool.and_eq_true,Bool.or_eq_true,Bool.and_eq_false_iff,Bool.or_eq_false_iff,decide_eq_true_eq,decide_eq_false_iff_not,Bool.not_eq_true',Bool.not_eq_false',Bool.not_eq_true,Bool.not_eq_false,ne_eq] at hbad
      refine W.seq ?_
      refine W.regionL (l:=[0,1,2,3,4,5,6,7,8]) rfl ?_
      refine O.val hf rfl rfl rfl (RunV.move rfl) ?_
      clear hf a; intro a hf
      refine O.val hf rfl rfl rfl (RunV.move rfl) ?_
      clear hf a; intro a hf
      refine O.val hf rfl rfl rfl (RunV.buildS (cs':=#[.int .u8 4,.int .i64 0,.int .i64 0,.int .u8 0,.int .u8 0,.int .i64 0,.int .i64 0,.int .i64 0,.int .u8 0,.int .u8 0,.int .i64 0,.int .i64 (n:Int)]) T_places_26 T_zero_26 rfl rfl) ?_
      clear hf a; intro a hf
      refine O.callR hf rfl rfl rfl (RunE.call (av:=#[vl,cV (undoC n)]) C_ok_11 rfl rfl rfl) (apply_err2 vl l (undoC n) _ (hS.bptO (i:=0) rfl) (hS.rdAt (j:=1) rfl) hfit (by omega) S us hm okC_undo 36 (undo_bad hm (by omega) hn hbad)) ?_
      clear hf a
      rintro _ w9 hS1 a hf
      replace hf:Fr a _ _ ((94,.tuple #[.slice none 0 0,.int .i64 36])::_):=hf
      replace hS:=(hS.call hS1).eqM (N:=[sl 4 1 uv us.length (bools us),sl 46 6 va1 xs1.length (encs eO xs1),bigA (xs1.map obA)]) rfl
      clear hS1
      refine O.val hf rfl rfl rfl (RunV.move rfl) ?_
      clear hf a; intro a hf
      refine O.val hf rfl rfl rfl (RunV.extract rfl rfl) ?_
      clear hf a; intro a hf
      refine O.val hf rfl rfl rfl (RunV.extract rfl rfl) ?_
      clear hf a; intro a hf
      refine O.val hf rfl rfl rfl (RunV.assign rfl) ?_
      clear hf a; intro a hf
      refine O.val hf rfl rfl rfl (RunV.assign rfl) ?_
      clear hf a; intro a hf
      refine O.nil ?_
      refine k_seq ?_
      replace hf:Fr a 192 [] [(0,vl),(1,.int .i64 (n:Int)),(4,.bool false),(5,.bool true),(8,uv),(11,.int .i64 36)]:=hf.to ⟨rfl,rfl,rfl,rfl,rfl,rfl,trivial⟩
      refine W.seq ?_
      refine W.regionL (l:=[0,1,2,3,4,5]) rfl ?_
      refine O.val hf rfl rfl rfl (RunV.move rfl) ?_
      clear hf a; intro a hf
      refine O.val hf rfl rfl rfl (RunV.move rfl) ?_
      clear hf a; intro a hf
      refine O.gvalB (v:=.int .i64 36) hf rfl rfl rfl rfl rfl rfl (RunV.move rfl) ?_
      clear hf a; intro a hf
      refine O.gvalB (v:=.bool true) hf rfl rfl rfl rfl rfl rfl (RunV.toB (c:=true) (RunV.eql rfl rfl) (by decide)) ?_
      clear hf a; intro a hf
      refine O.val (v:=.bool true) hf rfl rfl rfl (RunV.pick rfl rfl rfl rfl) ?_
      clear hf a; intro a hf
      refine O.val hf rfl rfl rfl (RunV.assign rfl) ?_
      clear hf a; intro a hf
      refine O.nil ?_
      refine k_seq ?_
      replace hf:Fr a 192 [] [(0,vl),(1,.int .i64 (n:Int)),(4,.bool true),(5,.bool true),(8,uv)]:=hf.to ⟨rfl,rfl,rfl,rfl,rfl,trivial⟩
      refine W.ret ?_
      refine k_then_ret ?_
      refine post1 hf rfl (ResOK.tmp rfl) ?_
      exact ⟨(),rfl,hS.sub (List.nil_sublist _) |>.noB⟩
    · have hbadb:=hbad
      try simp only [Bool.and_eq_true,Bool.or_eq_true,Bool.and_eq_false_iff,Bool.or_eq_false_iff,decide_eq_true_eq,decide_eq_false_iff_not,Bool.not_eq_true',Bool.not_eq_false',Bool.not_eq_true,Bool.not_eq_false,ne_eq] at hbad
      refine W.skip ?_
      refine k_seq ?_
      refine W.seq ?_
      have hm2:=undo_do hm (by omega) hn hbad.1 hbad.2
      have hrest:=rest_hist (n:=n) hm
      rcases hp:playM l (us.set n true) with e2 | S2
      · rw [hp] at hm2 hrest; simp only [mapOk] at hm2 hrest
        refine W.regionL (l:=[0,1,2,3,4,5,6,7,8]) rfl ?_
        refine O.val hf rfl rfl rfl (RunV.move rfl) ?_
        clear hf a; intro a hf
        refine O.val hf rfl rfl rfl (RunV.move rfl) ?_
        clear hf a; intro a hf
        refine O.val hf rfl rfl rfl (RunV.buildS (cs':=#[.int .u8 4,.int .i64 0,.int .i64 0,.int .u8 0,.int .u8 0,.int .i64 0,.int .i64 0,.int .i64 0,.int .u8 0,.int .u8 0,.int .i64 0,.int .i64 (n:Int)]) T_places_26 T_zero_26 rfl rfl) ?_
        clear hf a; intro a hf
        refine O.callR hf rfl rfl rfl (RunE.call (av:=#[vl,cV (undoC n)]) C_ok_11 rfl rfl rfl) (apply_err2 vl l (undoC n) _ (hS.bptO (i:=0) rfl) (hS.rdAt (j:=1) rfl) hfit (by omega) S us hm okC_undo 36 hm2) ?_
        clear hf a
        rintro _ w10 hS1 a hf
        replace hf:Fr a _ _ ((106,.tuple #[.slice none 0 0,.int .i64 36])::_):=hf
        replace hS:=(hS.call hS1).eqM (N:=[sl 4 1 uv us.length (bools us),sl 46 6 va1 xs1.length (encs eO xs1),bigA (xs1.map obA)]) rfl
        clear hS1
        refine O.val hf rfl rfl rfl (RunV.move rfl) ?_
        clear hf a; intro a hf
        refine O.val hf rfl rfl rfl (RunV.extract rfl rfl) ?_
        clear hf a; intro a hf
        refine O.val hf rfl rfl rfl (RunV.extract rfl rfl) ?_
        clear hf a; intro a hf
        refine O.val hf rfl rfl rfl (RunV.assign rfl) ?_
        clear hf a; intro a hf
        refine O.val hf rfl rfl rfl (RunV.assign rfl) ?_
        clear hf a; intro a hf
        refine O.nil ?_
        refine k_seq ?_
        replace hf:Fr a 192 [] [(0,vl),(1,.int .i64 (n:Int)),(4,.bool false),(5,.bool true),(8,uv),(12,.slice none 0 0),(13,.int .i64 36)]:=hf.to ⟨rfl,rfl,rfl,rfl,rfl,rfl,rfl,trivial⟩
        refine W.seq ?_
        refine W.regionL (l:=[0]) rfl ?_
        refine O.val hf rfl rfl rfl (RunV.assign rfl) ?_
        clear hf a; intro a hf
        refine O.nil ?_
        refine k_seq ?_
        refine W.seq ?_
        refine W.seq ?_
        refine W.regionL (l:=[0]) rfl ?_
        refine O.val hf rfl rfl rfl (RunV.assign rfl) ?_
        clear hf a; intro a hf
        refine O.nil ?_
        refine k_seq ?_
        refine W.block ?_
        replace hS:=hS.nilSl 26 12
        replace hS:St w0 _ noX [ordA,rdv 12 vl l.length (encs eC l)] [sl 26 12 (.slice none 0 0) (([]:List Ch).length) (encs eC ([]:List Ch)),sl 4 1 uv us.length (bools us),sl 46 6 va1 xs1.length (encs eO xs1),bigA (xs1.map obA)]:=hS
        refine W.loop (G:=(Nat) × (List Ch) × (Value)) (fun g a w=>match g with | (k,cs,vr)=>Fr a 192 [] [(0,vl),(1,.int .i64 (n:Int)),(4,.bool false),(5,.bool true),(8,uv),(12,.slice none 0 0),(13,.int .i64 36),(14,vr),(15,.int .i64 (k:Int))]∧St w0 w noX [ordA,rdv 12 vl l.length (encs eC l)] [sl 26 12 vr cs.length (encs eC cs),sl 4 1 uv us.length (bools us),sl 46 6 va1 xs1.length (encs eO xs1),bigA (xs1.map obA)]∧(k≤l.length)∧(cs=liveK l (us.set n true) k)) (fun g=>match g with | (k,cs,vr)=>l.length-k) (0,[],.slice none 0 0) ?_ ?_
        · refine ⟨hf.to ⟨rfl,rfl,rfl,rfl,rfl,rfl,rfl,(by first | rfl | exact congrArg some (congrArg (Value.int _) (by omega))),(by first | rfl | exact congrArg some (congrArg (Value.int _) (by omega))),trivial⟩,hS,?_,?_⟩
          · omega
          · rfl
        clear hf hS a
        rintro ⟨k,cs,vr⟩ a w ⟨hf,hS,hk,hcs⟩
        refine W.seq ?_
        refine W.seq ?_
        refine W.regionL (l:=[0,1,2,3]) rfl ?_
        refine O.val hf rfl rfl rfl (RunV.move rfl) ?_
        clear hf a; intro a hf
        refine O.val hf rfl rfl rfl (RunV.move rfl) ?_
        clear hf a; intro a hf
        refine O.val hf rfl rfl rfl (RunV.lenV (e:=26) (by simpa using T_elem_22) rfl (hS.rdAt (j:=1) rfl)) ?_
        clear hf a; intro a hf
        refine O.val (v:=.bool (decide ((k:Int)<((l.length:Int):Int)))) hf rfl rfl rfl (RunV.lss rfl rfl) ?_
        clear hf a; intro a hf
        refine O.nil ?_
        refine k_seq ?_
        replace hf:Fr a 192 [] [(0,vl),(1,.int .i64 (n:Int)),(4,.bool false),(5,.bool true),(8,uv),(12,.slice none 0 0),(13,.int .i64 36),(14,vr),(15,.int .i64 (k:Int)),(112,.bool (decide ((k:Int)<((l.length:Int):Int))))]:=hf.to ⟨rfl,rfl,rfl,rfl,rfl,rfl,rfl,rfl,rfl,rfl,trivial⟩
        refine W.ifdI hf rfl (fun hlt=>?_) (fun hlt=>?_)
        · refine W.skip ?_
          refine k_seq ?_
          refine W.seq ?_
          refine W.block ?_
          refine W.seq ?_
          refine W.regionL (l:=[0,1,2,3,4,5,6,7,8,9,10,11,12,13,14,15,16,17]) rfl ?_
          refine O.val hf rfl rfl rfl (RunV.move rfl) ?_
          clear hf a; intro a hf
          refine O.val hf rfl rfl rfl (RunV.move rfl) ?_
          clear hf a; intro a hf
          refine O.val (v:=.bool (decide ((k:Int)≠((n:Int):Int)))) hf rfl rfl rfl (RunV.neq rfl rfl) ?_
          clear hf a; intro a hf
          refine O.val hf rfl rfl rfl (RunV.move rfl) ?_
          clear hf a; intro a hf
          refine O.cutN (l₁:=[4,5,6,7,8,9,10]) (l₂:=_) (fun a w=>Fr a 192 [] [(0,vl),(1,.int .i64 (n:Int)),(4,.bool false),(5,.bool true),(8,uv),(12,.slice none 0 0),(13,.int .i64 36),(14,vr),(15,.int .i64 (k:Int)),(115,.int .i64 (k:Int)),(116,.int .i64 (n:Int)),(117,.bool (decide ((k:Int)≠((n:Int):Int)))),(118,.bool (decide ((k:Int)≠((n:Int):Int)))),(125,.bool ((decide ((k:Int)≠((n:Int):Int)))&&(decide (((l.getD k default).kind)≠(4:Int)))))]∧St w0 w noX [ordA,rdv 12 vl l.length (encs eC l)] [sl 26 12 vr cs.length (encs eC cs),sl 4 1 uv us.length (bools us),sl 46 6 va1 xs1.length (encs eO xs1),bigA (xs1.map obA)]) rfl ?_ ?_
          · rcases Bool.eq_false_or_eq_true (decide ((k:Int)≠((n:Int):Int))) with hb12 | hb12
            · have hb12p:=of_decide_eq_true hb12
              refine O.gvalB (v:=vl) hf rfl rfl rfl hb12 rfl rfl (RunV.move rfl) ?_
              clear hf a; intro a hf
              refine O.gvalB (v:=.int .i64 (k:Int)) hf rfl rfl rfl hb12 rfl rfl (RunV.move rfl) ?_
              clear hf a; intro a hf
              refine O.gvalB (v:=ix vl (k*12)) hf rfl rfl rfl hb12 rfl rfl (RunV.ixV (j:=k) (m:=k*12) T_elem_22 T_size_26 rfl rfl (hS.rdAt (j:=1) rfl) rfl (by omega) rfl) ?_
              clear hf a; intro a hf
              refine O.gvalB (v:=ix vl (k*12)) hf rfl rfl rfl hb12 rfl rfl (RunV.ixF T_field_26_0 rfl (hS.rdAt (j:=1) rfl) (by omega) rfl) ?_
              clear hf a; intro a hf
              refine O.gvalB (v:=.int .u8 ((l.getD k default).kind)) hf rfl rfl rfl hb12 rfl rfl (RunV.ldG2 (j:=k) (o:=0) (sz:=12) (enc:=eC) (l:=l) T_agg_5 eC_len rfl (hS.rdAt (j:=1) rfl) (by omega) rfl rfl) ?_
              clear hf a; intro a hf
              refine O.gvalB (v:=.bool (decide (((l.getD k default).kind)≠(4:Int)))) hf rfl rfl rfl hb12 rfl rfl (RunV.neq rfl rfl) ?_
              clear hf a; intro a hf
              refine O.val (v:=.bool ((decide ((k:Int)≠((n:Int):Int)))&&(decide (((l.getD k default).kind)≠(4:Int))))) hf rfl rfl rfl (RunV.pick rfl rfl rfl (by rw [hb12]; rfl)) ?_; clear hf a; intro a hf
              exact O.nil ⟨rfl,hf.to ⟨rfl,rfl,rfl,rfl,rfl,rfl,rfl,rfl,rfl,rfl,rfl,rfl,rfl,rfl,trivial⟩,hS⟩
            · have hb12p:=of_decide_eq_false hb12
              refine O.skipB hf rfl rfl rfl hb12 rfl ?_; clear hf a; intro a hf
              refine O.skipB hf rfl rfl rfl hb12 rfl ?_; clear hf a; intro a hf
              refine O.skipB hf rfl rfl rfl hb12 rfl ?_; clear hf a; intro a hf
              refine O.skipB hf rfl rfl rfl hb12 rfl ?_; clear hf a; intro a hf
              refine O.skipB hf rfl rfl rfl hb12 rfl ?_; clear hf a; intro a hf
              refine O.skipB hf rfl rfl rfl hb12 rfl ?_; clear hf a; intro a hf
              refine O.val (v:=.bool ((decide ((k:Int)≠((n:Int):Int)))&&(decide (((l.getD k default).kind)≠(4:Int))))) hf rfl rfl rfl (RunV.pick rfl rfl rfl (by rw [hb12]; rfl)) ?_; clear hf a; intro a hf
              exact O.nil ⟨rfl,hf.to ⟨rfl,rfl,rfl,rfl,rfl,rfl,rfl,rfl,rfl,rfl,rfl,rfl,rfl,rfl,trivial⟩,hS⟩
          clear hf hS a; rintro a w ⟨hf,hS⟩
          refine O.val hf rfl rfl rfl (RunV.move rfl) ?_
          clear hf a; intro a hf
          refine O.cutN (l₁:=[12,13,14,15,16,17]) (l₂:=_) (fun a w=>Fr a 192 [] [(0,vl),(1,.int .i64 (n:Int)),(4,.bool false),(5,.bool true),(8,uv),(12,.slice none 0 0),(13,.int .i64 36),(14,vr),(15,.int .i64 (k:Int)),(115,.int .i64 (k:Int)),(116,.int .i64 (n:Int)),(117,.bool (decide ((k:Int)≠((n:Int):Int)))),(118,.bool (decide ((k:Int)≠((n:Int):Int)))),(125,.bool ((decide ((k:Int)≠((n:Int):Int)))&&(decide (((l.getD k default).kind)≠(4:Int))))),(126,.bool ((decide ((k:Int)≠((n:Int):Int)))&&(decide (((l.getD k default).kind)≠(4:Int))))),(132,.bool (((decide ((k:Int)≠((n:Int):Int)))&&(decide (((l.getD k default).kind)≠(4:Int))))&&(!(us.getD k false))))]∧St w0 w noX [ordA,rdv 12 vl l.length (encs eC l)] [sl 26 12 vr cs.length (encs eC cs),sl 4 1 uv us.length (bools us),sl 46 6 va1 xs1.length (encs eO xs1),bigA (xs1.map obA)]) rfl ?_ ?_
          · rcases Bool.eq_false_or_eq_true ((decide ((k:Int)≠((n:Int):Int)))&&(decide (((l.getD k default).kind)≠(4:Int)))) with hb13 | hb13
            · have hb13p:=hb13
              try simp only [Bool.and_eq_true,Bool.or_eq_true,Bool.and_eq_false_iff,Bool.or_eq_false_iff,decide_eq_true_eq,decide_eq_false_iff_not,Bool.not_eq_true',Bool.not_eq_false',Bool.not_eq_true,Bool.not_eq_false,ne_eq] at hb13p
              refine O.gvalB (v:=uv) hf rfl rfl rfl hb13 rfl rfl (RunV.move rfl) ?_
              clear hf a; intro a hf
              refine O.gvalB (v:=.int .i64 (k:Int)) hf rfl rfl rfl hb13 rfl rfl (RunV.move rfl) ?_
              clear hf a; intro a hf
              refine O.gvalB (v:=ix uv k) hf rfl rfl rfl hb13 rfl rfl (RunV.ixV (j:=k) (m:=k) T_elem_51 T_size_4 rfl rfl (hS.slr (j:=1) rfl) rfl (by omega) (Nat.mul_one _)) ?_
              clear hf a; intro a hf
              refine O.gvalB (v:=.bool (us.getD k false)) hf rfl rfl rfl hb13 rfl rfl (RunV.ld1 T_agg_4 rfl (hS.slr (j:=1) rfl) (bools_get (by omega))) ?_
              clear hf a; intro a hf
              refine O.gvalB (v:=.bool (!(us.getD k false))) hf rfl rfl rfl hb13 rfl rfl (RunV.not rfl) ?_
              clear hf a; intro a hf
              refine O.val (v:=.bool (((decide ((k:Int)≠((n:Int):Int)))&&(decide (((l.getD k default).kind)≠(4:Int))))&&(!(us.getD k false)))) hf rfl rfl rfl (RunV.pick rfl rfl rfl (by rw [hb13]; rfl)) ?_; clear hf a; intro a hf
              exact O.nil ⟨rfl,hf.to ⟨rfl,rfl,rfl,rfl,rfl,rfl,rfl,rfl,rfl,rfl,rfl,rfl,rfl,rfl,rfl,rfl,trivial⟩,hS⟩
            · have hb13p:=hb13
              try simp only [Bool.and_eq_true,Bool.or_eq_true,Bool.and_eq_false_iff,Bool.or_eq_false_iff,decide_eq_true_eq,decide_eq_false_iff_not,Bool.not_eq_true',Bool.not_eq_false',Bool.not_eq_true,Bool.not_eq_false,ne_eq] at hb13p
              refine O.skipB hf rfl rfl rfl hb13 rfl ?_; clear hf a; intro a hf
              refine O.skipB hf rfl rfl rfl hb13 rfl ?_; clear hf a; intro a hf
              refine O.skipB hf rfl rfl rfl hb13 rfl ?_; clear hf a; intro a hf
              refine O.skipB hf rfl rfl rfl hb13 rfl ?_; clear hf a; intro a hf
              refine O.skipB hf rfl rfl rfl hb13 rfl ?_; clear hf a; intro a hf
              refine O.val (v:=.bool (((decide ((k:Int)≠((n:Int):Int)))&&(decide (((l.getD k default).kind)≠(4:Int))))&&(!(us.getD k false)))) hf rfl rfl rfl (RunV.pick rfl rfl rfl (by rw [hb13]; rfl)) ?_; clear hf a; intro a hf
              exact O.nil ⟨rfl,hf.to ⟨rfl,rfl,rfl,rfl,rfl,rfl,rfl,rfl,rfl,rfl,rfl,rfl,rfl,rfl,rfl,rfl,trivial⟩,hS⟩
          clear hf hS a; rintro a w ⟨hf,hS⟩
          refine O.nil ?_
          refine k_seq ?_
          replace hf:Fr a 192 [] [(0,vl),(1,.int .i64 (n:Int)),(4,.bool false),(5,.bool true),(8,uv),(12,.slice none 0 0),(13,.int .i64 36),(14,vr),(15,.int .i64 (k:Int)),(132,.bool (((decide ((k:Int)≠((n:Int):Int)))&&(decide (((l.getD k default).kind)≠(4:Int))))&&(!(us.getD k false))))]:=hf.to ⟨rfl,rfl,rfl,rfl,rfl,rfl,rfl,rfl,rfl,rfl,trivial⟩
          refine W.if_ hf rfl (fun hdo=>?_) (fun hdo=>?_)
          · have hdob:=hdo
            try simp only [Bool.and_eq_true,Bool.or_eq_true,Bool.and_eq_false_iff,Bool.or_eq_false_iff,decide_eq_true_eq,decide_eq_false_iff_not,Bool.not_eq_true',Bool.not_eq_false',Bool.not_eq_true,Bool.not_eq_false,ne_eq] at hdo
            refine W.regionL (l:=[0,1,2,3,4,5,6,7]) rfl ?_
            have hcsl:=liveK_len l (us.set n true) k
            rw [← hcs] at hcsl
            refine O.val hf rfl rfl rfl (RunV.move rfl) ?_
            clear hf a; intro a hf
            refine O.val hf rfl rfl rfl (RunV.move rfl) ?_
            clear hf a; intro a hf
            refine O.val hf rfl rfl rfl (RunV.move rfl) ?_
            clear hf a; intro a hf
            refine O.val hf rfl rfl rfl (RunV.ixV (j:=k) (m:=k*12) T_elem_22 T_size_26 rfl rfl (hS.rdAt (j:=1) rfl) rfl (by omega) rfl) ?_
            clear hf a; intro a hf
            refine O.val hf rfl rfl rfl (RunV.ldG (j:=k) (enc:=eC) (l:=l) (us:=[.int .u8 ((l.getD k default).kind),.int .i64 ((l.getD k default).a.num),.int .i64 ((l.getD k default).a.yr),.int .u8 ((l.getD k default).a.half),.int .u8 ((l.getD k default).a.sec),.int .i64 ((l.getD k default).a.cyc),.int .i64 ((l.getD k default).b.num),.int .i64 ((l.getD k default).b.yr),.int .u8 ((l.getD k default).b.half),.int .u8 ((l.getD k default).b.sec),.int .i64 ((l.getD k default).b.cyc),.int .i64 ((l.getD k default).n)]) T_agg_26 T_size_26 rfl eC_len rfl (hS.rdAt (j:=1) rfl) (by omega) rfl) ?_
            clear hf a; intro a hf
            refine O.buildSlice (cs':=#[.int .u8 ((l.getD k default).kind),.int .i64 ((l.getD k default).a.num),.int .i64 ((l.getD k default).a.yr),.int .u8 ((l.getD k default).a.half),.int .u8 ((l.getD k default).a.sec),.int .i64 ((l.getD k default).a.cyc),.int .i64 ((l.getD k default).b.num),.int .i64 ((l.getD k default).b.yr),.int .u8 ((l.getD k default).b.half),.int .u8 ((l.getD k default).b.sec),.int .i64 ((l.getD k default).b.cyc),.int .i64 ((l.getD k default).n)]) (zs:=#[.int .u8 0,.int .i64 0,.int .i64 0,.int .u8 0,.int .u8 0,.int .i64 0,.int .i64 0,.int .i64 0,.int .u8 0,.int .u8 0,.int .i64 0,.int .i64 0]) hf hS rfl rfl T_elem_22 T_size_26 T_zero_26 rfl rfl (by kernel_rfl) rfl (by kernel_rfl) ?_
            clear hf hS a; intro b_s15 w a hbb_s15 hS hf
            refine O.append1 (j:=1) (jj:=0) hf hS rfl rfl T_elem_22 T_size_26 T_bytes_26 T_zero_26 rfl rfl rfl rfl rfl rfl rfl rfl (by unfold maxLen; omega) (by omega) ?_
            clear hf hS a; intro v16 w a hS hf
            replace hS:=hS.eqM (N:=[pt b_s15 (.cells #[.int .u8 ((l.getD k default).kind),.int .i64 ((l.getD k default).a.num),.int .i64 ((l.getD k default).a.yr),.int .u8 ((l.getD k default).a.half),.int .u8 ((l.getD k default).a.sec),.int .i64 ((l.getD k default).a.cyc),.int .i64 ((l.getD k default).b.num),.int .i64 ((l.getD k default).b.yr),.int .u8 ((l.getD k default).b.half),.int .u8 ((l.getD k default).b.sec),.int .i64 ((l.getD k default).b.cyc),.int .i64 ((l.getD k default).n)] 26 (0,0)),sl 26 12 v16 (cs.length+1) (encs eC cs++[.int .u8 ((l.getD k default).kind),.int .i64 ((l.getD k default).a.num),.int .i64 ((l.getD k default).a.yr),.int .u8 ((l.getD k default).a.half),.int .u8 ((l.getD k default).a.sec),.int .i64 ((l.getD k default).a.cyc),.int .i64 ((l.getD k default).b.num),.int .i64 ((l.getD k default).b.yr),.int .u8 ((l.getD k default).b.half),.int .u8 ((l.getD k default).b.sec),.int .i64 ((l.getD k default).b.cyc),.int .i64 ((l.getD k default).n)]),sl 4 1 uv us.length (bools us),sl 46 6 va1 xs1.length (encs eO xs1),bigA (xs1.map obA)]) rfl
            replace hS:=hS.reE (i:=1) (M':=[pt b_s15 (.cells #[.int .u8 ((l.getD k default).kind),.int .i64 ((l.getD k default).a.num),.int .i64 ((l.getD k default).a.yr),.int .u8 ((l.getD k default).a.half),.int .u8 ((l.getD k default).a.sec),.int .i64 ((l.getD k default).a.cyc),.int .i64 ((l.getD k default).b.num),.int .i64 ((l.getD k default).b.yr),.int .u8 ((l.getD k default).b.half),.int .u8 ((l.getD k default).b.sec),.int .i64 ((l.getD k default).b.cyc),.int .i64 ((l.getD k default).n)] 26 (0,0)),sl 26 12 v16 ((cs++[(l.getD k default)]).length) (encs eC (cs++[(l.getD k default)])),sl 4 1 uv us.length (bools us),sl 46 6 va1 xs1.length (encs eO xs1),bigA (xs1.map obA)]) rfl (sl_snoc (enc:=eC) (l:=cs) (x:=(l.getD k default))) rfl
            refine O.val hf rfl rfl rfl (RunV.assign rfl) ?_
            clear hf a; intro a hf
            refine O.nil ?_
            refine k_blk_normal ?_
            refine k_seq ?_
            replace hf:Fr a 192 [] [(0,vl),(1,.int .i64 (n:Int)),(4,.bool false),(5,.bool true),(8,uv),(12,.slice none 0 0),(13,.int .i64 36),(14,v16),(15,.int .i64 (k:Int))]:=hf.to ⟨rfl,rfl,rfl,rfl,rfl,rfl,rfl,rfl,rfl,trivial⟩
            refine W.regionL (l:=[0,1,2]) rfl ?_
            refine O.val hf rfl rfl rfl (RunV.move rfl) ?_
            clear hf a; intro a hf
            refine O.val hf rfl rfl rfl (RunV.addI rfl rfl (by omega)) ?_
            clear hf a; intro a hf
            refine O.val hf rfl rfl rfl (RunV.assign rfl) ?_
            clear hf a; intro a hf
            refine O.nil ?_
            replace hS:=hS.sub (N:=[sl 26 12 v16 ((cs++[(l.getD k default)]).length) (encs eC (cs++[(l.getD k default)])),sl 4 1 uv us.length (bools us),sl 46 6 va1 xs1.length (encs eO xs1),bigA (xs1.map obA)]) (.cons _ (.cons_cons _ (.cons_cons _ (.cons_cons _ (.cons_cons _ .slnil)))))
            refine k_then ⟨(k+1,(cs++[(l.getD k default)]),v16),⟨hf.to ⟨rfl,rfl,rfl,rfl,rfl,rfl,rfl,(by first | rfl | exact congrArg some (congrArg (Value.int _) (by omega))),(by first | rfl | exact congrArg some (congrArg (Value.int _) (by omega))),trivial⟩,?_,?_,?_⟩,?_⟩
            · exact hS.eqM rfl
            · omega
            · rw [live_yes (by omega) hdob,hcs]
            · dsimp only; omega
          · have hdob:=hdo
            try simp only [Bool.and_eq_true,Bool.or_eq_true,Bool.and_eq_false_iff,Bool.or_eq_false_iff,decide_eq_true_eq,decide_eq_false_iff_not,Bool.not_eq_true',Bool.not_eq_false',Bool.not_eq_true,Bool.not_eq_false,ne_eq] at hdo
            refine W.skip ?_
            refine k_blk_normal ?_
            refine k_seq ?_
            refine W.regionL (l:=[0,1,2]) rfl ?_
            refine O.val hf rfl rfl rfl (RunV.move rfl) ?_
            clear hf a; intro a hf
            refine O.val hf rfl rfl rfl (RunV.addI rfl rfl (by omega)) ?_
            clear hf a; intro a hf
            refine O.val hf rfl rfl rfl (RunV.assign rfl) ?_
            clear hf a; intro a hf
            refine O.nil ?_
            refine k_then ⟨(k+1,cs,vr),⟨hf.to ⟨rfl,rfl,rfl,rfl,rfl,rfl,rfl,(by first | rfl | exact congrArg some (congrArg (Value.int _) (by omega))),(by first | rfl | exact congrArg some (congrArg (Value.int _) (by omega))),trivial⟩,?_,?_,?_⟩,?_⟩
            · exact hS.eqM rfl
            · omega
            · rw [live_no (by omega) hdob,hcs]
            · dsimp only; omega
        · refine W.exit ?_
          refine k_then_exit ?_
          refine k_then_exit ?_
          refine k_blk ?_
          refine k_seq ?_
          replace hf:Fr a 192 [] [(0,vl),(1,.int .i64 (n:Int)),(4,.bool false),(5,.bool true),(12,.slice none 0 0),(13,.int .i64 36),(14,vr)]:=hf.to ⟨rfl,rfl,rfl,rfl,rfl,rfl,rfl,trivial⟩
          refine W.seq ?_
          refine W.regionL (l:=[0,1,2,3,4,5,6]) rfl ?_
          refine O.val hf rfl rfl rfl (RunV.move rfl) ?_
          clear hf a; intro a hf
          refine O.callR hf rfl rfl rfl (RunE.call (av:=#[vr]) C_ok_16 rfl rfl rfl) (run_err vr cs _ (hS.bptO (i:=0) rfl) (hS.slr (j:=0) rfl) (slOK.fit (hS.slAt (j:=0) rfl)) e2 (by rw [hcs,show k=l.length by omega]; exact hrest)) ?_
          clear hf a
          rintro _ w17 hS1 a hf
          replace hf:Fr a _ _ ((142,.tuple #[.slice none 0 0,.int .i64 e2])::_):=hf
          replace hS:=(hS.call hS1).eqM (N:=[sl 26 12 vr cs.length (encs eC cs),sl 4 1 uv us.length (bools us),sl 46 6 va1 xs1.length (encs eO xs1),bigA (xs1.map obA)]) rfl
          clear hS1
          refine O.val hf rfl rfl rfl (RunV.move rfl) ?_
          clear hf a; intro a hf
          refine O.val hf rfl rfl rfl (RunV.extract rfl rfl) ?_
          clear hf a; intro a hf
          refine O.val hf rfl rfl rfl (RunV.extract rfl rfl) ?_
          clear hf a; intro a hf
          refine O.val hf rfl rfl rfl (RunV.assign rfl) ?_
          clear hf a; intro a hf
          refine O.val hf rfl rfl rfl (RunV.assign rfl) ?_
          clear hf a; intro a hf
          refine O.nil ?_
          refine k_seq ?_
          replace hf:Fr a 192 [] [(0,vl),(1,.int .i64 (n:Int)),(4,.bool false),(5,.bool true),(12,.slice none 0 0),(13,.int .i64 36),(16,.slice none 0 0),(17,.int .i64 e2)]:=hf.to ⟨rfl,rfl,rfl,rfl,rfl,rfl,rfl,rfl,trivial⟩
          refine W.seq ?_
          refine W.seq ?_
          refine W.regionL (l:=[0,1]) rfl ?_
          refine O.val hf rfl rfl rfl (RunV.move rfl) ?_
          clear hf a; intro a hf
          refine O.val (v:=.bool (decide (e2≠(0:Int)))) hf rfl rfl rfl (RunV.neq rfl rfl) ?_
          clear hf a; intro a hf
          refine O.nil ?_
          refine k_seq ?_
          replace hf:Fr a 192 [] [(0,vl),(1,.int .i64 (n:Int)),(4,.bool false),(5,.bool true),(12,.slice none 0 0),(13,.int .i64 36),(16,.slice none 0 0),(146,.bool (decide (e2≠(0:Int))))]:=hf.to ⟨rfl,rfl,rfl,rfl,rfl,rfl,rfl,rfl,trivial⟩
          have hbc:(decide (e2≠(0:Int)))=true:=decide_eq_true (histM_ne hrest)
          simp only [hbc] at hf; clear hbc
          refine W.if_tt hf rfl ?_
          refine W.seq ?_
          refine W.regionL (l:=[0,1,2,3,4,5]) rfl ?_
          refine O.val hf rfl rfl rfl (RunV.move rfl) ?_
          clear hf a; intro a hf
          refine O.val hf rfl rfl rfl (RunV.move rfl) ?_
          clear hf a; intro a hf
          refine O.gvalB (v:=.int .i64 36) hf rfl rfl rfl rfl rfl rfl (RunV.move rfl) ?_
          clear hf a; intro a hf
          refine O.gvalB (v:=.bool true) hf rfl rfl rfl rfl rfl rfl (RunV.toB (c:=true) (RunV.eql rfl rfl) (by decide)) ?_
          clear hf a; intro a hf
          refine O.val (v:=.bool true) hf rfl rfl rfl (RunV.pick rfl rfl rfl rfl) ?_
          clear hf a; intro a hf
          refine O.val hf rfl rfl rfl (RunV.assign rfl) ?_
          clear hf a; intro a hf
          refine O.nil ?_
          refine k_seq ?_
          replace hf:Fr a 192 [] [(0,vl),(1,.int .i64 (n:Int)),(4,.bool true),(5,.bool true),(12,.slice none 0 0),(13,.int .i64 36),(16,.slice none 0 0)]:=hf.to ⟨rfl,rfl,rfl,rfl,rfl,rfl,rfl,trivial⟩
          refine W.ret ?_
          refine k_then_ret ?_
          refine post1 hf rfl (ResOK.tmp rfl) ?_
          exact ⟨(),rfl,hS.sub (List.nil_sublist _) |>.noB⟩
      · rw [hp] at hm2 hrest; simp only [mapOk] at hm2 hrest
        refine W.regionL (l:=[0,1,2,3,4,5,6,7,8]) rfl ?_
        refine O.val hf rfl rfl rfl (RunV.move rfl) ?_
        clear hf a; intro a hf
        refine O.val hf rfl rfl rfl (RunV.move rfl) ?_
        clear hf a; intro a hf
        refine O.val hf rfl rfl rfl (RunV.buildS (cs':=#[.int .u8 4,.int .i64 0,.int .i64 0,.int .u8 0,.int .u8 0,.int .i64 0,.int .i64 0,.int .i64 0,.int .u8 0,.int .u8 0,.int .i64 0,.int .i64 (n:Int)]) T_places_26 T_zero_26 rfl rfl) ?_
        clear hf a; intro a hf
        refine O.callR hf rfl rfl rfl (RunE.call (av:=#[vl,cV (undoC n)]) C_ok_11 rfl rfl rfl) (apply_ok vl l (undoC n) _ (hS.bptO (i:=0) rfl) (hS.rdAt (j:=1) rfl) hfit (by omega) S us hm okC_undo S2 (us.set n true++[false]) hm2) ?_
        clear hf a
        rintro am w18 hS1 a hf
        replace hf:Fr a _ _ ((106,.tuple #[am,.int .i64 0])::_):=hf
        replace hS:=(hS.call hS1).eqM (N:=[sl 26 12 am ((l++[undoC n]).length) (encs eC (l++[undoC n])),sl 4 1 uv us.length (bools us),sl 46 6 va1 xs1.length (encs eO xs1),bigA (xs1.map obA)]) rfl
        clear hS1
        refine O.val hf rfl rfl rfl (RunV.move rfl) ?_
        clear hf a; intro a hf
        refine O.val hf rfl rfl rfl (RunV.extract rfl rfl) ?_
        clear hf a; intro a hf
        refine O.val hf rfl rfl rfl (RunV.extract rfl rfl) ?_
        clear hf a; intro a hf
        refine O.val hf rfl rfl rfl (RunV.assign rfl) ?_
        clear hf a; intro a hf
        refine O.val hf rfl rfl rfl (RunV.assign rfl) ?_
        clear hf a; intro a hf
        refine O.nil ?_
        refine k_seq ?_
        replace hf:Fr a 192 [] [(0,vl),(1,.int .i64 (n:Int)),(4,.bool false),(5,.bool true),(8,uv),(12,am),(13,.int .i64 0)]:=hf.to ⟨rfl,rfl,rfl,rfl,rfl,rfl,rfl,trivial⟩
        refine W.seq ?_
        refine W.regionL (l:=[0]) rfl ?_
        refine O.val hf rfl rfl rfl (RunV.assign rfl) ?_
        clear hf a; intro a hf
        refine O.nil ?_
        refine k_seq ?_
        refine W.seq ?_
        refine W.seq ?_
        refine W.regionL (l:=[0]) rfl ?_
        refine O.val hf rfl rfl rfl (RunV.assign rfl) ?_
        clear hf a; intro a hf
        refine O.nil ?_
        refine k_seq ?_
        refine W.block ?_
        replace hS:=hS.nilSl 26 12
        replace hS:St w0 _ noX [ordA,rdv 12 vl l.length (encs eC l)] [sl 26 12 (.slice none 0 0) (([]:List Ch).length) (encs eC ([]:List Ch)),sl 26 12 am ((l++[undoC n]).length) (encs eC (l++[undoC n])),sl 4 1 uv us.length (bools us),sl 46 6 va1 xs1.length (encs eO xs1),bigA (xs1.map obA)]:=hS
        refine W.loop (G:=(Nat) × (List Ch) × (Value)) (fun g a w=>match g with | (k,cs,vr)=>Fr a 192 [] [(0,vl),(1,.int .i64 (n:Int)),(4,.bool false),(5,.bool true),(8,uv),(12,am),(13,.int .i64 0),(14,vr),(15,.int .i64 (k:Int))]∧St w0 w noX [ordA,rdv 12 vl l.length (encs eC l)] [sl 26 12 vr cs.length (encs eC cs),sl 26 12 am ((l++[undoC n]).length) (encs eC (l++[undoC n])),sl 4 1 uv us.length (bools us),sl 46 6 va1 xs1.length (encs eO xs1),bigA (xs1.map obA)]∧(k≤l.length)∧(cs=liveK l (us.set n true) k)) (fun g=>match g with | (k,cs,vr)=>l.length-k) (0,[],.slice none 0 0) ?_ ?_
        · refine ⟨hf.to ⟨rfl,rfl,rfl,rfl,rfl,rfl,rfl,(by first | rfl | exact congrArg some (congrArg (Value.int _) (by omega))),(by first | rfl | exact congrArg some (congrArg (Value.int _) (by omega))),trivial⟩,hS,?_,?_⟩
          · omega
          · rfl
        clear hf hS a
        rintro ⟨k,cs,vr⟩ a w ⟨hf,hS,hk,hcs⟩
        refine W.seq ?_
        refine W.seq ?_
        refine W.regionL (l:=[0,1,2,3]) rfl ?_
        refine O.val hf rfl rfl rfl (RunV.move rfl) ?_
        clear hf a; intro a hf
        refine O.val hf rfl rfl rfl (RunV.move rfl) ?_
        clear hf a; intro a hf
        refine O.val hf rfl rfl rfl (RunV.lenV (e:=26) (by simpa using T_elem_22) rfl (hS.rdAt (j:=1) rfl)) ?_
        clear hf a; intro a hf
        refine O.val (v:=.bool (decide ((k:Int)<((l.length:Int):Int)))) hf rfl rfl rfl (RunV.lss rfl rfl) ?_
        clear hf a; intro a hf
        refine O.nil ?_
        refine k_seq ?_
        replace hf:Fr a 192 [] [(0,vl),(1,.int .i64 (n:Int)),(4,.bool false),(5,.bool true),(8,uv),(12,am),(13,.int .i64 0),(14,vr),(15,.int .i64 (k:Int)),(112,.bool (decide ((k:Int)<((l.length:Int):Int))))]:=hf.to ⟨rfl,rfl,rfl,rfl,rfl,rfl,rfl,rfl,rfl,rfl,trivial⟩
        refine W.ifdI hf rfl (fun hlt=>?_) (fun hlt=>?_)
        · refine W.skip ?_
          refine k_seq ?_
          refine W.seq ?_
          refine W.block ?_
          refine W.seq ?_
          refine W.regionL (l:=[0,1,2,3,4,5,6,7,8,9,10,11,12,13,14,15,16,17]) rfl ?_
          refine O.val hf rfl rfl rfl (RunV.move rfl) ?_
          clear hf a; intro a hf
          refine O.val hf rfl rfl rfl (RunV.move rfl) ?_
          clear hf a; intro a hf
          refine O.val (v:=.bool (decide ((k:Int)≠((n:Int):Int)))) hf rfl rfl rfl (RunV.neq rfl rfl) ?_
          clear hf a; intro a hf
          refine O.val hf rfl rfl rfl (RunV.move rfl) ?_
          clear hf a; intro a hf
          refine O.cutN (l₁:=[4,5,6,7,8,9,10]) (l₂:=_) (fun a w=>Fr a 192 [] [(0,vl),(1,.int .i64 (n:Int)),(4,.bool false),(5,.bool true),(8,uv),(12,am),(13,.int .i64 0),(14,vr),(15,.int .i64 (k:Int)),(115,.int .i64 (k:Int)),(116,.int .i64 (n:Int)),(117,.bool (decide ((k:Int)≠((n:Int):Int)))),(118,.bool (decide ((k:Int)≠((n:Int):Int)))),(125,.bool ((decide ((k:Int)≠((n:Int):Int)))&&(decide (((l.getD k default).kind)≠(4:Int)))))]∧St w0 w noX [ordA,rdv 12 vl l.length (encs eC l)] [sl 26 12 vr cs.length (encs eC cs),sl 26 12 am ((l++[undoC n]).length) (encs eC (l++[undoC n])),sl 4 1 uv us.length (bools us),sl 46 6 va1 xs1.length (encs eO xs1),bigA (xs1.map obA)]) rfl ?_ ?_
          · rcases Bool.eq_false_or_eq_true (decide ((k:Int)≠((n:Int):Int))) with hb20 | hb20
            · have hb20p:=of_decide_eq_true hb20
              refine O.gvalB (v:=vl) hf rfl rfl rfl hb20 rfl rfl (RunV.move rfl) ?_
              clear hf a; intro a hf
              refine O.gvalB (v:=.int .i64 (k:Int)) hf rfl rfl rfl hb20 rfl rfl (RunV.move rfl) ?_
              clear hf a; intro a hf
              refine O.gvalB (v:=ix vl (k*12)) hf rfl rfl rfl hb20 rfl rfl (RunV.ixV (j:=k) (m:=k*12) T_elem_22 T_size_26 rfl rfl (hS.rdAt (j:=1) rfl) rfl (by omega) rfl) ?_
              clear hf a; intro a hf
              refine O.gvalB (v:=ix vl (k*12)) hf rfl rfl rfl hb20 rfl rfl (RunV.ixF T_field_26_0 rfl (hS.rdAt (j:=1) rfl) (by omega) rfl) ?_
              clear hf a; intro a hf
              refine O.gvalB (v:=.int .u8 ((l.getD k default).kind)) hf rfl rfl rfl hb20 rfl rfl (RunV.ldG2 (j:=k) (o:=0) (sz:=12) (enc:=eC) (l:=l) T_agg_5 eC_len rfl (hS.rdAt (j:=1) rfl) (by omega) rfl rfl) ?_
              clear hf a; intro a hf
              refine O.gvalB (v:=.bool (decide (((l.getD k default).kind)≠(4:Int)))) hf rfl rfl rfl hb20 rfl rfl (RunV.neq rfl rfl) ?_
              clear hf a; intro a hf
              refine O.val (v:=.bool ((decide ((k:Int)≠((n:Int):Int)))&&(decide (((l.getD k default).kind)≠(4:Int))))) hf rfl rfl rfl (RunV.pick rfl rfl rfl (by rw [hb20]; rfl)) ?_; clear hf a; intro a hf
              exact O.nil ⟨rfl,hf.to ⟨rfl,rfl,rfl,rfl,rfl,rfl,rfl,rfl,rfl,rfl,rfl,rfl,rfl,rfl,trivial⟩,hS⟩
            · have hb20p:=of_decide_eq_false hb20
              refine O.skipB hf rfl rfl rfl hb20 rfl ?_; clear hf a; intro a hf
              refine O.skipB hf rfl rfl rfl hb20 rfl ?_; clear hf a; intro a hf
              refine O.skipB hf rfl rfl rfl hb20 rfl ?_; clear hf a; intro a hf
              refine O.skipB hf rfl rfl rfl hb20 rfl ?_; clear hf a; intro a hf
              refine O.skipB hf rfl rfl rfl hb20 rfl ?_; clear hf a; intro a hf
              refine O.skipB hf rfl rfl rfl hb20 rfl ?_; clear hf a; intro a hf
              refine O.val (v:=.bool ((decide ((k:Int)≠((n:Int):Int)))&&(decide (((l.getD k default).kind)≠(4:Int))))) hf rfl rfl rfl (RunV.pick rfl rfl rfl (by rw [hb20]; rfl)) ?_; clear hf a; intro a hf
              exact O.nil ⟨rfl,hf.to ⟨rfl,rfl,rfl,rfl,rfl,rfl,rfl,rfl,rfl,rfl,rfl,rfl,rfl,rfl,trivial⟩,hS⟩
          clear hf hS a; rintro a w ⟨hf,hS⟩
          refine O.val hf rfl rfl rfl (RunV.move rfl) ?_
          clear hf a; intro a hf
          refine O.cutN (l₁:=[12,13,14,15,16,17]) (l₂:=_) (fun a w=>Fr a 192 [] [(0,vl),(1,.int .i64 (n:Int)),(4,.bool false),(5,.bool true),(8,uv),(12,am),(13,.int .i64 0),(14,vr),(15,.int .i64 (k:Int)),(115,.int .i64 (k:Int)),(116,.int .i64 (n:Int)),(117,.bool (decide ((k:Int)≠((n:Int):Int)))),(118,.bool (decide ((k:Int)≠((n:Int):Int)))),(125,.bool ((decide ((k:Int)≠((n:Int):Int)))&&(decide (((l.getD k default).kind)≠(4:Int))))),(126,.bool ((decide ((k:Int)≠((n:Int):Int)))&&(decide (((l.getD k default).kind)≠(4:Int))))),(132,.bool (((decide ((k:Int)≠((n:Int):Int)))&&(decide (((l.getD k default).kind)≠(4:Int))))&&(!(us.getD k false))))]∧St w0 w noX [ordA,rdv 12 vl l.length (encs eC l)] [sl 26 12 vr cs.length (encs eC cs),sl 26 12 am ((l++[undoC n]).length) (encs eC (l++[undoC n])),sl 4 1 uv us.length (bools us),sl 46 6 va1 xs1.length (encs eO xs1),bigA (xs1.map obA)]) rfl ?_ ?_
          · rcases Bool.eq_false_or_eq_true ((decide ((k:Int)≠((n:Int):Int)))&&(decide (((l.getD k default).kind)≠(4:Int)))) with hb21 | hb21
            · have hb21p:=hb21
              try simp only [Bool.and_eq_true,Bool.or_eq_true,Bool.and_eq_false_iff,Bool.or_eq_false_iff,decide_eq_true_eq,decide_eq_false_iff_not,Bool.not_eq_true',Bool.not_eq_false',Bool.not_eq_true,Bool.not_eq_false,ne_eq] at hb21p
              refine O.gvalB (v:=uv) hf rfl rfl rfl hb21 rfl rfl (RunV.move rfl) ?_
              clear hf a; intro a hf
              refine O.gvalB (v:=.int .i64 (k:Int)) hf rfl rfl rfl hb21 rfl rfl (RunV.move rfl) ?_
              clear hf a; intro a hf
              refine O.gvalB (v:=ix uv k) hf rfl rfl rfl hb21 rfl rfl (RunV.ixV (j:=k) (m:=k) T_elem_51 T_size_4 rfl rfl (hS.slr (j:=2) rfl) rfl (by omega) (Nat.mul_one _)) ?_
              clear hf a; intro a hf
              refine O.gvalB (v:=.bool (us.getD k false)) hf rfl rfl rfl hb21 rfl rfl (RunV.ld1 T_agg_4 rfl (hS.slr (j:=2) rfl) (bools_get (by omega))) ?_
              clear hf a; intro a hf
              refine O.gvalB (v:=.bool (!(us.getD k false))) hf rfl rfl rfl hb21 rfl rfl (RunV.not rfl) ?_
              clear hf a; intro a hf
              refine O.val (v:=.bool (((decide ((k:Int)≠((n:Int):Int)))&&(decide (((l.getD k default).kind)≠(4:Int))))&&(!(us.getD k false)))) hf rfl rfl rfl (RunV.pick rfl rfl rfl (by rw [hb21]; rfl)) ?_; clear hf a; intro a hf
              exact O.nil ⟨rfl,hf.to ⟨rfl,rfl,rfl,rfl,rfl,rfl,rfl,rfl,rfl,rfl,rfl,rfl,rfl,rfl,rfl,rfl,trivial⟩,hS⟩
            · have hb21p:=hb21
              try simp only [Bool.and_eq_true,Bool.or_eq_true,Bool.and_eq_false_iff,Bool.or_eq_false_iff,decide_eq_true_eq,decide_eq_false_iff_not,Bool.not_eq_true',Bool.not_eq_false',Bool.not_eq_true,Bool.not_eq_false,ne_eq] at hb21p
              refine O.skipB hf rfl rfl rfl hb21 rfl ?_; clear hf a; intro a hf
              refine O.skipB hf rfl rfl rfl hb21 rfl ?_; clear hf a; intro a hf
              refine O.skipB hf rfl rfl rfl hb21 rfl ?_; clear hf a; intro a hf
              refine O.skipB hf rfl rfl rfl hb21 rfl ?_; clear hf a; intro a hf
              refine O.skipB hf rfl rfl rfl hb21 rfl ?_; clear hf a; intro a hf
              refine O.val (v:=.bool (((decide ((k:Int)≠((n:Int):Int)))&&(decide (((l.getD k default).kind)≠(4:Int))))&&(!(us.getD k false)))) hf rfl rfl rfl (RunV.pick rfl rfl rfl (by rw [hb21]; rfl)) ?_; clear hf a; intro a hf
              exact O.nil ⟨rfl,hf.to ⟨rfl,rfl,rfl,rfl,rfl,rfl,rfl,rfl,rfl,rfl,rfl,rfl,rfl,rfl,rfl,rfl,trivial⟩,hS⟩
          clear hf hS a; rintro a w ⟨hf,hS⟩
          refine O.nil ?_
          refine k_seq ?_
          replace hf:Fr a 192 [] [(0,vl),(1,.int .i64 (n:Int)),(4,.bool false),(5,.bool true),(8,uv),(12,am),(13,.int .i64 0),(14,vr),(15,.int .i64 (k:Int)),(132,.bool (((decide ((k:Int)≠((n:Int):Int)))&&(decide (((l.getD k default).kind)≠(4:Int))))&&(!(us.getD k false))))]:=hf.to ⟨rfl,rfl,rfl,rfl,rfl,rfl,rfl,rfl,rfl,rfl,trivial⟩
          refine W.if_ hf rfl (fun hdo=>?_) (fun hdo=>?_)
          · have hdob:=hdo
            try simp only [Bool.and_eq_true,Bool.or_eq_true,Bool.and_eq_false_iff,Bool.or_eq_false_iff,decide_eq_true_eq,decide_eq_false_iff_not,Bool.not_eq_true',Bool.not_eq_false',Bool.not_eq_true,Bool.not_eq_false,ne_eq] at hdo
            refine W.regionL (l:=[0,1,2,3,4,5,6,7]) rfl ?_
            have hcsl:=liveK_len l (us.set n true) k
            rw [← hcs] at hcsl
            refine O.val hf rfl rfl rfl (RunV.move rfl) ?_
            clear hf a; intro a hf
            refine O.val hf rfl rfl rfl (RunV.move rfl) ?_
            clear hf a; intro a hf
            refine O.val hf rfl rfl rfl (RunV.move rfl) ?_
            clear hf a; intro a hf
            refine O.val hf rfl rfl rfl (RunV.ixV (j:=k) (m:=k*12) T_elem_22 T_size_26 rfl rfl (hS.rdAt (j:=1) rfl) rfl (by omega) rfl) ?_
            clear hf a; intro a hf
            refine O.val hf rfl rfl rfl (RunV.ldG (j:=k) (enc:=eC) (l:=l) (us:=[.int .u8 ((l.getD k default).kind),.int .i64 ((l.getD k default).a.num),.int .i64 ((l.getD k default).a.yr),.int .u8 ((l.getD k default).a.half),.int .u8 ((l.getD k default).a.sec),.int .i64 ((l.getD k default).a.cyc),.int .i64 ((l.getD k default).b.num),.int .i64 ((l.getD k default).b.yr),.int .u8 ((l.getD k default).b.half),.int .u8 ((l.getD k default).b.sec),.int .i64 ((l.getD k default).b.cyc),.int .i64 ((l.getD k default).n)]) T_agg_26 T_size_26 rfl eC_len rfl (hS.rdAt (j:=1) rfl) (by omega) rfl) ?_
            clear hf a; intro a hf
            refine O.buildSlice (cs':=#[.int .u8 ((l.getD k default).kind),.int .i64 ((l.getD k default).a.num),.int .i64 ((l.getD k default).a.yr),.int .u8 ((l.getD k default).a.half),.int .u8 ((l.getD k default).a.sec),.int .i64 ((l.getD k default).a.cyc),.int .i64 ((l.getD k default).b.num),.int .i64 ((l.getD k default).b.yr),.int .u8 ((l.getD k default).b.half),.int .u8 ((l.getD k default).b.sec),.int .i64 ((l.getD k default).b.cyc),.int .i64 ((l.getD k default).n)]) (zs:=#[.int .u8 0,.int .i64 0,.int .i64 0,.int .u8 0,.int .u8 0,.int .i64 0,.int .i64 0,.int .i64 0,.int .u8 0,.int .u8 0,.int .i64 0,.int .i64 0]) hf hS rfl rfl T_elem_22 T_size_26 T_zero_26 rfl rfl (by kernel_rfl) rfl (by kernel_rfl) ?_
            clear hf hS a; intro b_s23 w a hbb_s23 hS hf
            refine O.append1 (j:=1) (jj:=0) hf hS rfl rfl T_elem_22 T_size_26 T_bytes_26 T_zero_26 rfl rfl rfl rfl rfl rfl rfl rfl (by unfold maxLen; omega) (by omega) ?_
            clear hf hS a; intro v24 w a hS hf
            replace hS:=hS.eqM (N:=[pt b_s23 (.cells #[.int .u8 ((l.getD k default).kind),.int .i64 ((l.getD k default).a.num),.int .i64 ((l.getD k default).a.yr),.int .u8 ((l.getD k default).a.half),.int .u8 ((l.getD k default).a.sec),.int .i64 ((l.getD k default).a.cyc),.int .i64 ((l.getD k default).b.num),.int .i64 ((l.getD k default).b.yr),.int .u8 ((l.getD k default).b.half),.int .u8 ((l.getD k default).b.sec),.int .i64 ((l.getD k default).b.cyc),.int .i64 ((l.getD k default).n)] 26 (0,0)),sl 26 12 v24 (cs.length+1) (encs eC cs++[.int .u8 ((l.getD k default).kind),.int .i64 ((l.getD k default).a.num),.int .i64 ((l.getD k default).a.yr),.int .u8 ((l.getD k default).a.half),.int .u8 ((l.getD k default).a.sec),.int .i64 ((l.getD k default).a.cyc),.int .i64 ((l.getD k default).b.num),.int .i64 ((l.getD k default).b.yr),.int .u8 ((l.getD k default).b.half),.int .u8 ((l.getD k default).b.sec),.int .i64 ((l.getD k default).b.cyc),.int .i64 ((l.getD k default).n)]),sl 26 12 am ((l++[undoC n]).length) (encs eC (l++[undoC n])),sl 4 1 uv us.length (bools us),sl 46 6 va1 xs1.length (encs eO xs1),bigA (xs1.map obA)]) rfl
            replace hS:=hS.reE (i:=1) (M':=[pt b_s23 (.cells #[.int .u8 ((l.getD k default).kind),.int .i64 ((l.getD k default).a.num),.int .i64 ((l.getD k default).a.yr),.int .u8 ((l.getD k default).a.half),.int .u8 ((l.getD k default).a.sec),.int .i64 ((l.getD k default).a.cyc),.int .i64 ((l.getD k default).b.num),.int .i64 ((l.getD k default).b.yr),.int .u8 ((l.getD k default).b.half),.int .u8 ((l.getD k default).b.sec),.int .i64 ((l.getD k default).b.cyc),.int .i64 ((l.getD k default).n)] 26 (0,0)),sl 26 12 v24 ((cs++[(l.getD k default)]).length) (encs eC (cs++[(l.getD k default)])),sl 26 12 am ((l++[undoC n]).length) (encs eC (l++[undoC n])),sl 4 1 uv us.length (bools us),sl 46 6 va1 xs1.length (encs eO xs1),bigA (xs1.map obA)]) rfl (sl_snoc (enc:=eC) (l:=cs) (x:=(l.getD k default))) rfl
            refine O.val hf rfl rfl rfl (RunV.assign rfl) ?_
            clear hf a; intro a hf
            refine O.nil ?_
            refine k_blk_normal ?_
            refine k_seq ?_
            replace hf:Fr a 192 [] [(0,vl),(1,.int .i64 (n:Int)),(4,.bool false),(5,.bool true),(8,uv),(12,am),(13,.int .i64 0),(14,v24),(15,.int .i64 (k:Int))]:=hf.to ⟨rfl,rfl,rfl,rfl,rfl,rfl,rfl,rfl,rfl,trivial⟩
            refine W.regionL (l:=[0,1,2]) rfl ?_
            refine O.val hf rfl rfl rfl (RunV.move rfl) ?_
            clear hf a; intro a hf
            refine O.val hf rfl rfl rfl (RunV.addI rfl rfl (by omega)) ?_
            clear hf a; intro a hf
            refine O.val hf rfl rfl rfl (RunV.assign rfl) ?_
            clear hf a; intro a hf
            refine O.nil ?_
            replace hS:=hS.sub (N:=[sl 26 12 v24 ((cs++[(l.getD k default)]).length) (encs eC (cs++[(l.getD k default)])),sl 26 12 am ((l++[undoC n]).length) (encs eC (l++[undoC n])),sl 4 1 uv us.length (bools us),sl 46 6 va1 xs1.length (encs eO xs1),bigA (xs1.map obA)]) (.cons _ (.cons_cons _ (.cons_cons _ (.cons_cons _ (.cons_cons _ (.cons_cons _ .slnil))))))
            refine k_then ⟨(k+1,(cs++[(l.getD k default)]),v24),⟨hf.to ⟨rfl,rfl,rfl,rfl,rfl,rfl,rfl,(by first | rfl | exact congrArg some (congrArg (Value.int _) (by omega))),(by first | rfl | exact congrArg some (congrArg (Value.int _) (by omega))),trivial⟩,?_,?_,?_⟩,?_⟩
            · exact hS.eqM rfl
            · omega
            · rw [live_yes (by omega) hdob,hcs]
            · dsimp only; omega
          · have hdob:=hdo
            try simp only [Bool.and_eq_true,Bool.or_eq_true,Bool.and_eq_false_iff,Bool.or_eq_false_iff,decide_eq_true_eq,decide_eq_false_iff_not,Bool.not_eq_true',Bool.not_eq_false',Bool.not_eq_true,Bool.not_eq_false,ne_eq] at hdo
            refine W.skip ?_
            refine k_blk_normal ?_
            refine k_seq ?_
            refine W.regionL (l:=[0,1,2]) rfl ?_
            refine O.val hf rfl rfl rfl (RunV.move rfl) ?_
            clear hf a; intro a hf
            refine O.val hf rfl rfl rfl (RunV.addI rfl rfl (by omega)) ?_
            clear hf a; intro a hf
            refine O.val hf rfl rfl rfl (RunV.assign rfl) ?_
            clear hf a; intro a hf
            refine O.nil ?_
            refine k_then ⟨(k+1,cs,vr),⟨hf.to ⟨rfl,rfl,rfl,rfl,rfl,rfl,rfl,(by first | rfl | exact congrArg some (congrArg (Value.int _) (by omega))),(by first | rfl | exact congrArg some (congrArg (Value.int _) (by omega))),trivial⟩,?_,?_,?_⟩,?_⟩
            · exact hS.eqM rfl
            · omega
            · rw [live_no (by omega) hdob,hcs]
            · dsimp only; omega
        · refine W.exit ?_
          refine k_then_exit ?_
          refine k_then_exit ?_
          refine k_blk ?_
          refine k_seq ?_
          replace hf:Fr a 192 [] [(0,vl),(1,.int .i64 (n:Int)),(4,.bool false),(5,.bool true),(12,am),(13,.int .i64 0),(14,vr)]:=hf.to ⟨rfl,rfl,rfl,rfl,rfl,rfl,rfl,trivial⟩
          refine W.seq ?_
          refine W.regionL (l:=[0,1,2,3,4,5,6]) rfl ?_
          refine O.val hf rfl rfl rfl (RunV.move rfl) ?_
          clear hf a; intro a hf
          refine O.callR hf rfl rfl rfl (RunE.call (av:=#[vr]) C_ok_16 rfl rfl rfl) (run_ok vr cs _ (hS.bptO (i:=0) rfl) (hS.slr (j:=0) rfl) (slOK.fit (hS.slAt (j:=0) rfl)) _ _ (by rw [hcs,show k=l.length by omega]; exact hrest)) ?_
          clear hf a
          rintro ⟨va2,xs2⟩ w25 ⟨hS1,hxs2⟩ a hf
          replace hf:Fr a _ _ ((142,.tuple #[va2,.int .i64 0])::_):=hf
          replace hS:=(hS.call hS1).eqM (N:=[sl 46 6 va2 xs2.length (encs eO xs2),bigA (xs2.map obA),sl 26 12 vr cs.length (encs eC cs),sl 26 12 am ((l++[undoC n]).length) (encs eC (l++[undoC n])),sl 4 1 uv us.length (bools us),sl 46 6 va1 xs1.length (encs eO xs1),bigA (xs1.map obA)]) rfl
          clear hS1
          refine O.val hf rfl rfl rfl (RunV.move rfl) ?_
          clear hf a; intro a hf
          refine O.val hf rfl rfl rfl (RunV.extract rfl rfl) ?_
          clear hf a; intro a hf
          refine O.val hf rfl rfl rfl (RunV.extract rfl rfl) ?_
          clear hf a; intro a hf
          refine O.val hf rfl rfl rfl (RunV.assign rfl) ?_
          clear hf a; intro a hf
          refine O.val hf rfl rfl rfl (RunV.assign rfl) ?_
          clear hf a; intro a hf
          refine O.nil ?_
          refine k_seq ?_
          replace hf:Fr a 192 [] [(0,vl),(1,.int .i64 (n:Int)),(4,.bool false),(5,.bool true),(12,am),(13,.int .i64 0),(16,va2),(17,.int .i64 0)]:=hf.to ⟨rfl,rfl,rfl,rfl,rfl,rfl,rfl,rfl,trivial⟩
          refine W.seq ?_
          refine W.seq ?_
          refine W.regionL (l:=[0,1]) rfl ?_
          refine O.val hf rfl rfl rfl (RunV.move rfl) ?_
          clear hf a; intro a hf
          refine O.val hf rfl rfl rfl (RunV.toB (c:=false) (RunV.neq rfl rfl) (by decide)) ?_
          clear hf a; intro a hf
          refine O.nil ?_
          refine k_seq ?_
          replace hf:Fr a 192 [] [(0,vl),(1,.int .i64 (n:Int)),(4,.bool false),(5,.bool true),(12,am),(13,.int .i64 0),(16,va2),(146,.bool false)]:=hf.to ⟨rfl,rfl,rfl,rfl,rfl,rfl,rfl,rfl,trivial⟩
          refine W.if_ff hf rfl ?_
          refine W.skip ?_
          refine k_seq ?_
          replace hf:Fr a 192 [] [(0,vl),(1,.int .i64 (n:Int)),(4,.bool false),(5,.bool true),(12,am),(13,.int .i64 0),(16,va2)]:=hf.to ⟨rfl,rfl,rfl,rfl,rfl,rfl,rfl,trivial⟩
          refine W.seq ?_
          refine W.regionL (l:=[0,1,2,3,4,5,6]) rfl ?_
          refine O.val hf rfl rfl rfl (RunV.move rfl) ?_
          clear hf a; intro a hf
          refine O.callR hf rfl rfl rfl (RunE.call (av:=#[am]) C_ok_16 rfl rfl rfl) (run_ok am (l++[undoC n]) _ (hS.bptO (i:=0) rfl) (hS.slr (j:=3) rfl) (slOK.fit (hS.slAt (j:=3) rfl)) _ _ hm2) ?_
          clear hf a
          rintro ⟨va3,xs3⟩ w26 ⟨hS1,hxs3⟩ a hf
          replace hf:Fr a _ _ ((154,.tuple #[va3,.int .i64 0])::_):=hf
          replace hS:=(hS.call hS1).eqM (N:=[sl 46 6 va3 xs3.length (encs eO xs3),bigA (xs3.map obA),sl 46 6 va2 xs2.length (encs eO xs2),bigA (xs2.map obA),sl 26 12 vr cs.length (encs eC cs),sl 26 12 am ((l++[undoC n]).length) (encs eC (l++[undoC n])),sl 4 1 uv us.length (bools us),sl 46 6 va1 xs1.length (encs eO xs1),bigA (xs1.map obA)]) rfl
          clear hS1
          refine O.val hf rfl rfl rfl (RunV.move rfl) ?_
          clear hf a; intro a hf
          refine O.val hf rfl rfl rfl (RunV.extract rfl rfl) ?_
          clear hf a; intro a hf
          refine O.val hf rfl rfl rfl (RunV.extract rfl rfl) ?_
          clear hf a; intro a hf
          refine O.val hf rfl rfl rfl (RunV.assign rfl) ?_
          clear hf a; intro a hf
          refine O.val hf rfl rfl rfl (RunV.assign rfl) ?_
          clear hf a; intro a hf
          refine O.nil ?_
          refine k_seq ?_
          replace hf:Fr a 192 [] [(0,vl),(1,.int .i64 (n:Int)),(4,.bool false),(5,.bool true),(13,.int .i64 0),(16,va2),(18,va3),(19,.int .i64 0)]:=hf.to ⟨rfl,rfl,rfl,rfl,rfl,rfl,rfl,rfl,trivial⟩
          refine W.seq ?_
          refine W.seq ?_
          refine W.regionL (l:=[0,1,2,3,4,5,6,7,8,9,10,11]) rfl ?_
          refine O.val hf rfl rfl rfl (RunV.move rfl) ?_
          clear hf a; intro a hf
          refine O.val hf rfl rfl rfl (RunV.toB (c:=false) (RunV.neq rfl rfl) (by decide)) ?_
          clear hf a; intro a hf
          refine O.val hf rfl rfl rfl (RunV.move rfl) ?_
          clear hf a; intro a hf
          refine O.gvalB (v:=.int .i64 0) hf rfl rfl rfl rfl rfl rfl (RunV.move rfl) ?_
          clear hf a; intro a hf
          refine O.gvalB (v:=.bool false) hf rfl rfl rfl rfl rfl rfl (RunV.toB (c:=false) (RunV.neq rfl rfl) (by decide)) ?_
          clear hf a; intro a hf
          refine O.val (v:=.bool false) hf rfl rfl rfl (RunV.pick rfl rfl rfl rfl) ?_
          clear hf a; intro a hf
          refine O.val hf rfl rfl rfl (RunV.move rfl) ?_
          clear hf a; intro a hf
          refine O.gvalB (v:=va3) hf rfl rfl rfl rfl rfl rfl (RunV.move rfl) ?_
          clear hf a; intro a hf
          refine O.gvalB (v:=va2) hf rfl rfl rfl rfl rfl rfl (RunV.move rfl) ?_
          clear hf a; intro a hf
          refine O.gcallR hf rfl rfl rfl rfl rfl rfl (RunE.call (av:=#[va3,va2]) C_ok_17 rfl rfl rfl) (same_true va3 xs3 va2 xs2 _ (hS.slr (j:=0) rfl) (hS.slr (j:=2) rfl) (hS.obOwn (i:=1) rfl) (hS.obOwn (i:=3) rfl) (hxs3.trans hxs2.symm)) ?_
          clear hf a
          rintro _ w27 hS1 a hf
          replace hf:Fr a _ _ ((166,.bool true)::_):=hf
          replace hS:=(hS.call hS1).eqM (N:=[sl 46 6 va3 xs3.length (encs eO xs3),bigA (xs3.map obA),sl 46 6 va2 xs2.length (encs eO xs2),bigA (xs2.map obA),sl 26 12 vr cs.length (encs eC cs),sl 26 12 am ((l++[undoC n]).length) (encs eC (l++[undoC n])),sl 4 1 uv us.length (bools us),sl 46 6 va1 xs1.length (encs eO xs1),bigA (xs1.map obA)]) rfl
          clear hS1
          refine O.gvalB (v:=.bool false) hf rfl rfl rfl rfl rfl rfl (RunV.not (b:=true) rfl) ?_
          clear hf a; intro a hf
          refine O.val (v:=.bool false) hf rfl rfl rfl (RunV.pick rfl rfl rfl rfl) ?_
          clear hf a; intro a hf
          refine O.nil ?_
          refine k_seq ?_
          replace hf:Fr a 192 [] [(0,vl),(1,.int .i64 (n:Int)),(4,.bool false),(5,.bool true),(18,va3),(168,.bool false)]:=hf.to ⟨rfl,rfl,rfl,rfl,rfl,rfl,trivial⟩
          refine W.if_ff hf rfl ?_
          refine W.skip ?_
          refine k_seq ?_
          replace hf:Fr a 192 [] [(0,vl),(1,.int .i64 (n:Int)),(4,.bool false),(5,.bool true),(18,va3)]:=hf.to ⟨rfl,rfl,rfl,rfl,rfl,trivial⟩
          refine W.seq ?_
          refine W.seq ?_
          refine W.regionL (l:=[0,1,2,3,4]) rfl ?_
          refine O.val hf rfl rfl rfl (RunV.move rfl) ?_
          clear hf a; intro a hf
          refine O.val hf rfl rfl rfl (RunV.move rfl) ?_
          clear hf a; intro a hf
          refine O.val hf rfl rfl rfl (RunV.lenV (e:=26) (by simpa using T_elem_22) rfl (hS.rdAt (j:=1) rfl)) ?_
          clear hf a; intro a hf
          refine O.val hf rfl rfl rfl (RunV.subI rfl rfl (by omega)) ?_
          clear hf a; intro a hf
          refine O.val (v:=.bool (decide ((n:Int)=((l.length:Int)-1:Int)))) hf rfl rfl rfl (RunV.eql rfl rfl) ?_
          clear hf a; intro a hf
          refine O.nil ?_
          refine k_seq ?_
          replace hf:Fr a 192 [] [(0,vl),(1,.int .i64 (n:Int)),(4,.bool false),(5,.bool true),(18,va3),(173,.bool (decide ((n:Int)=((l.length:Int)-1:Int))))]:=hf.to ⟨rfl,rfl,rfl,rfl,rfl,rfl,trivial⟩
          refine W.ifdI hf rfl (fun hlast=>?_) (fun hlast=>?_)
          · refine W.seq ?_
            refine W.regionL (l:=[0,1,2,3,4,5,6,7,8]) rfl ?_
            have hn1:n=l.length-1:=by omega
            obtain ⟨vbf,hbf⟩:=undo_last hm (by intro h; subst h; simp at hn) (by rw [← hn1]; exact hbad.1) (by rw [← hn1]; exact hp)
            rw [← hn1] at hbf
            refine O.val hf rfl rfl rfl (RunV.move rfl) ?_
            clear hf a; intro a hf
            refine O.val hf rfl rfl rfl (RunV.move rfl) ?_
            clear hf a; intro a hf
            refine O.val (v:=(vsub 12 vl 0 (n:Int))) hf rfl rfl rfl (RunV.sliceH T_elem_22 T_size_26 rfl rfl (enc:=eC) (l:=l) ⟨hS.rdAt (j:=1) rfl,hfit⟩ ⟨by omega,by omega,by omega⟩) ?_
            clear hf a; intro a hf
            refine O.callR hf rfl rfl rfl (RunE.call (av:=#[(vsub 12 vl 0 (n:Int))]) C_ok_16 rfl rfl rfl) (run_ok (vsub 12 vl 0 (n:Int)) (l.take n) _ (hS.bptO (i:=0) rfl) (take_rd (hS.rdAt (j:=1) rfl) hfit (by omega)) (take_fit (hS.rdAt (j:=1) rfl) hfit (by omega)) _ _ hbf) ?_
            clear hf a
            rintro ⟨va4,xs4⟩ w29 ⟨hS1,hxs4⟩ a hf
            replace hf:Fr a _ _ ((178,.tuple #[va4,.int .i64 0])::_):=hf
            replace hS:=(hS.call hS1).eqM (N:=[sl 46 6 va4 xs4.length (encs eO xs4),bigA (xs4.map obA),sl 46 6 va3 xs3.length (encs eO xs3),bigA (xs3.map obA),sl 46 6 va2 xs2.length (encs eO xs2),bigA (xs2.map obA),sl 26 12 vr cs.length (encs eC cs),sl 26 12 am ((l++[undoC n]).length) (encs eC (l++[undoC n])),sl 4 1 uv us.length (bools us),sl 46 6 va1 xs1.length (encs eO xs1),bigA (xs1.map obA)]) rfl
            clear hS1
            refine O.val hf rfl rfl rfl (RunV.move rfl) ?_
            clear hf a; intro a hf
            refine O.val hf rfl rfl rfl (RunV.extract rfl rfl) ?_
            clear hf a; intro a hf
            refine O.val hf rfl rfl rfl (RunV.extract rfl rfl) ?_
            clear hf a; intro a hf
            refine O.val hf rfl rfl rfl (RunV.assign rfl) ?_
            clear hf a; intro a hf
            refine O.val hf rfl rfl rfl (RunV.assign rfl) ?_
            clear hf a; intro a hf
            refine O.nil ?_
            refine k_seq ?_
            replace hf:Fr a 192 [] [(4,.bool false),(5,.bool true),(18,va3),(20,va4),(21,.int .i64 0)]:=hf.to ⟨rfl,rfl,rfl,rfl,rfl,trivial⟩
            refine W.seq ?_
            refine W.regionL (l:=[0,1,2,3,4,5,6,7,8,9,10]) rfl ?_
            refine O.val hf rfl rfl rfl (RunV.move rfl) ?_
            clear hf a; intro a hf
            refine O.val hf rfl rfl rfl (RunV.move rfl) ?_
            clear hf a; intro a hf
            refine O.gvalB (v:=.int .i64 0) hf rfl rfl rfl rfl rfl rfl (RunV.move rfl) ?_
            clear hf a; intro a hf
            refine O.gvalB (v:=.bool true) hf rfl rfl rfl rfl rfl rfl (RunV.toB (c:=true) (RunV.eql rfl rfl) (by decide)) ?_
            clear hf a; intro a hf
            refine O.val (v:=.bool true) hf rfl rfl rfl (RunV.pick rfl rfl rfl rfl) ?_
            clear hf a; intro a hf
            refine O.val hf rfl rfl rfl (RunV.move rfl) ?_
            clear hf a; intro a hf
            refine O.gvalB (v:=va3) hf rfl rfl rfl rfl rfl rfl (RunV.move rfl) ?_
            clear hf a; intro a hf
            refine O.gvalB (v:=va4) hf rfl rfl rfl rfl rfl rfl (RunV.move rfl) ?_
            clear hf a; intro a hf
            refine O.gcallR hf rfl rfl rfl rfl rfl rfl (RunE.call (av:=#[va3,va4]) C_ok_17 rfl rfl rfl) (same_true va3 xs3 va4 xs4 _ (hS.slr (j:=2) rfl) (hS.slr (j:=0) rfl) (hS.obOwn (i:=3) rfl) (hS.obOwn (i:=1) rfl) (hxs3.trans hxs4.symm)) ?_
            clear hf a
            rintro _ w30 hS1 a hf
            replace hf:Fr a _ _ ((189,.bool true)::_):=hf
            replace hS:=(hS.call hS1).eqM (N:=[sl 46 6 va4 xs4.length (encs eO xs4),bigA (xs4.map obA),sl 46 6 va3 xs3.length (encs eO xs3),bigA (xs3.map obA),sl 46 6 va2 xs2.length (encs eO xs2),bigA (xs2.map obA),sl 26 12 vr cs.length (encs eC cs),sl 26 12 am ((l++[undoC n]).length) (encs eC (l++[undoC n])),sl 4 1 uv us.length (bools us),sl 46 6 va1 xs1.length (encs eO xs1),bigA (xs1.map obA)]) rfl
            clear hS1
            refine O.val (v:=.bool true) hf rfl rfl rfl (RunV.pick rfl rfl rfl rfl) ?_
            clear hf a; intro a hf
            refine O.val hf rfl rfl rfl (RunV.assign rfl) ?_
            clear hf a; intro a hf
            refine O.nil ?_
            refine k_seq ?_
            replace hf:Fr a 192 [] [(4,.bool true),(5,.bool true)]:=hf.to ⟨rfl,rfl,trivial⟩
            refine W.ret ?_
            refine k_then_ret ?_
            refine post1 hf rfl (ResOK.tmp rfl) ?_
            exact ⟨(),rfl,hS.sub (List.nil_sublist _) |>.noB⟩
          · refine W.skip ?_
            refine k_seq ?_
            replace hf:Fr a 192 [] [(4,.bool false),(5,.bool true)]:=hf.to ⟨rfl,rfl,trivial⟩
            refine W.seq ?_
            refine W.regionL (l:=[0,1]) rfl ?_
            refine O.val hf rfl rfl rfl (RunV.move rfl) ?_
            clear hf a; intro a hf
            refine O.val hf rfl rfl rfl (RunV.assign rfl) ?_
            clear hf a; intro a hf
            refine O.nil ?_
            refine k_seq ?_
            replace hf:Fr a 192 [] [(4,.bool true)]:=hf.to ⟨rfl,trivial⟩
            refine W.ret ?_
            refine post1 hf rfl (ResOK.tmp rfl) ?_
            exact ⟨(),rfl,hS.sub (List.nil_sublist _) |>.noB⟩
theorem undo_spec (vl:Value) (l:List Ch) (w0:World) (hG:Lent w0 ordA) (hl:rdOK (hp w0) 12 vl l.length (encs eC l)) (hfit:vfit vl) (p:Int) :
    Ret Tryd.prog 6 #[vl,.int .i64 p] w0 (G:=Unit) (fun _=>.bool true) (fun _ w=>St w0 w noX [] []):=by
  cases h:(greatM l.length||decide ((l.length:Int)>25)||decide (p<0)||decide (p≥(l.length:Int))) with
  | true=>exact undo_out vl l w0 hG hl hfit p h
  | false =>
    simp only [Bool.or_eq_false_iff,decide_eq_false_iff_not] at h
    obtain ⟨⟨⟨_,h1⟩,h2⟩,h3⟩:=h
    obtain ⟨n,rfl⟩:∃ n:Nat,p=(n:Int):=⟨p.toNat,by omega⟩
    exact undo_in vl l w0 hG hl hfit n (by omega) (by omega)
end Go.Proofs.YtgakdmmmljdpjaaDoor
