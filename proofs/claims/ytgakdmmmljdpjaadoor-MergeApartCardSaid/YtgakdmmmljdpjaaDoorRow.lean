/- MergeApart: for every input. No conditions. -/
import Derived.Test.YtgakdmmmljdpjaaDoorTan
import Derived.Test.YtgakdmmmljdpjaaDoorTab
import Derived.ProofKit
import Derived.Lib.SmallJoins
import Derived.Deep.Grids
import Derived.Test.YtgakdmmmljdpjaaDoorTae
import Derived.Lib.LaidU8
import Derived.Test.YtgakdmmmljdpjaaDoorTac
import Derived.Test.YtgakdmmmljdpjaaDoorRows
import Derived.LaidMore
import Derived.Lay
import Derived.Test.YtgakdmmmljdpjaaDoorTie
import Derived.Test.YtgakdmmmljdpjaaDoorCards
import Derived.SevenTiedAt
set_option linter.unusedVariables false
set_option linter.unusedSimpArgs false
namespace Go.Proofs.YtgakdmmmljdpjaaDoor
open Go Go.SL
theorem C_ok_18:callOK Tryd.prog 18=true:=by kernel_rfl
theorem C_ok_19:callOK Tryd.prog 19=true:=by kernel_rfl
set_option maxHeartbeats 400000 in
set_option maxRecDepth 4000 in
theorem apart_out (vl:Value) (l:List Ch) (w0:World) (hG:Lent w0 ordA) (hl:rdOK (hp w0) 12 vl l.length (encs eC l)) (hfit:vfit vl) (hout:(greatM l.length||decide ((l.length:Int)>25))=true) :
    Ret Tryd.prog 5 #[vl] w0 (G:=Unit) (fun _=>.bool true) (fun _ w=>St w0 w noX [] []):=by
  refine ret_of_W (lv:=[vl]) Tryd.func5 rfl rfl rfl (fun a hf=>?_)
  replace hf:Fr a 161 [] [(0,vl)]:=hf
  have hS:St w0 w0 noX [ordA,rdv 12 vl l.length (encs eC l)] []:=((St.refl w0).lend0 hl).lendA hG
  have hlm:=hl.2.1
  unfold maxLen at hlm
  refine W.seq ?_
  refine W.regionL (l:=[0]) rfl ?_
  refine O.val hf rfl rfl rfl (RunV.assign rfl) ?_
  clear hf a; intro a hf
  refine O.nil ?_
  refine k_seq ?_
  refine W.seq ?_
  refine W.regionL (l:=[0,1]) rfl ?_
  refine O.callR hf rfl rfl rfl (RunE.call (av:=#[]) C_ok_14 rfl rfl rfl) (alive_spec _ (hS.bptO (i:=0) rfl)) ?_
  clear hf a
  rintro _ w1 hS1 a hf
  replace hf:Fr a _ _ ((14,.bool true)::_):=hf
  replace hS:=(hS.call hS1).eqM (N:=[]) rfl
  clear hS1
  refine O.val hf rfl rfl rfl (RunV.assign rfl) ?_
  clear hf a; intro a hf
  refine O.nil ?_
  refine k_seq ?_
  replace hf:Fr a 161 [] [(0,vl),(2,.bool false),(3,.bool true)]:=hf.to ⟨rfl,rfl,rfl,trivial⟩
  refine W.seq ?_
  refine W.seq ?_
  refine W.regionL (l:=[0,1,2,3,4,5,6,7,8,9,10]) rfl ?_
  refine O.val hf rfl rfl rfl (RunV.move rfl) ?_
  clear hf a; intro a hf
  refine O.callR hf rfl rfl rfl (RunE.call (av:=#[vl]) C_ok_10 rfl rfl rfl) (great_spec vl l _ (hS.rdAt (j:=1) rfl)) ?_
  clear hf a
  rintro _ w2 hS1 a hf
  replace hf:Fr a _ _ ((16,.bool (greatM l.length))::_):=hf
  replace hS:=(hS.call hS1).eqM (N:=[]) rfl
  clear hS1
  refine O.val hf rfl rfl rfl (RunV.move rfl) ?_
  clear hf a; intro a hf
  refine O.cutN (l₁:=[3,4,5,6]) (l₂:=_) (fun a w=>Fr a 161 [] [(0,vl),(2,.bool false),(3,.bool true),(15,vl),(16,.bool (greatM l.length)),(17,.bool (greatM l.length)),(21,.bool ((greatM l.length)||(decide ((l.length:Int)>(25:Int)))))]∧St w0 w noX [ordA,rdv 12 vl l.length (encs eC l)] []) rfl ?_ ?_
  · rcases Bool.eq_false_or_eq_true (greatM l.length) with hb3 | hb3
    · have hb3p:=hb3
      try simp only [Bool.and_eq_true,Bool.or_eq_true,Bool.and_eq_false_iff,Bool.or_eq_false_iff,decide_eq_true_eq,decide_eq_false_iff_not,Bool.not_eq_true',Bool.not_eq_false',Bool.not_eq_true,Bool.not_eq_false,ne_eq] at hb3p
      refine O.skipB hf rfl rfl rfl hb3 rfl ?_; clear hf a; intro a hf
      refine O.skipB hf rfl rfl rfl hb3 rfl ?_; clear hf a; intro a hf
      refine O.skipB hf rfl rfl rfl hb3 rfl ?_; clear hf a; intro a hf
      refine O.val (v:=.bool ((greatM l.length)||(decide ((l.length:Int)>(25:Int))))) hf rfl rfl rfl (RunV.pick rfl rfl rfl (by rw [hb3]; rfl)) ?_; clear hf a; intro a hf
      exact O.nil ⟨rfl,hf.to ⟨rfl,rfl,rfl,rfl,rfl,rfl,rfl,trivial⟩,hS⟩
    · have hb3p:=hb3
      try simp only [Bool.and_eq_true,Bool.or_eq_true,Bool.and_eq_false_iff,Bool.or_eq_false_iff,decide_eq_true_eq,decide_eq_false_iff_not,Bool.not_eq_true',Bool.not_eq_false',Bool.not_eq_true,Bool.not_eq_false,ne_eq] at hb3p
      refine O.gvalB (v:=vl) hf rfl rfl rfl hb3 rfl rfl (RunV.move rfl) ?_
      clear hf a; intro a hf
      refine O.gvalB (v:=.int .i64 (l.length:Int)) hf rfl rfl rfl hb3 rfl rfl (RunV.lenV (e:=26) (by simpa using T_elem_22) rfl (hS.rdAt (j:=1) rfl)) ?_
      clear hf a; intro a hf
      refine O.gvalB (v:=.bool (decide ((l.length:Int)>(25:Int)))) hf rfl rfl rfl hb3 rfl rfl (RunV.gtr rfl rfl) ?_
      clear hf a; intro a hf
      refine O.val (v:=.bool ((greatM l.length)||(decide ((l.length:Int)>(25:Int))))) hf rfl rfl rfl (RunV.pick rfl rfl rfl (by rw [hb3]; rfl)) ?_; clear hf a; intro a hf
      exact O.nil ⟨rfl,hf.to ⟨rfl,rfl,rfl,rfl,rfl,rfl,rfl,trivial⟩,hS⟩
  clear hf hS a; rintro a w ⟨hf,hS⟩
  refine O.val hf rfl rfl rfl (RunV.move rfl) ?_
  clear hf a; intro a hf
  refine O.cutN (l₁:=[8,9,10]) (l₂:=_) (fun a w=>Fr a 161 [] [(0,vl),(2,.bool false),(3,.bool true),(15,vl),(16,.bool (greatM l.length)),(17,.bool (greatM l.length)),(21,.bool ((greatM l.length)||(decide ((l.length:Int)>(25:Int))))),(22,.bool ((greatM l.length)||(decide ((l.length:Int)>(25:Int))))),(25,.bool (((greatM l.length)||(decide ((l.length:Int)>(25:Int))))||false))]∧St w0 w noX [ordA,rdv 12 vl l.length (encs eC l)] []) rfl ?_ ?_
  · rcases Bool.eq_false_or_eq_true ((greatM l.length)||(decide ((l.length:Int)>(25:Int)))) with hb4 | hb4
    · have hb4p:=hb4
      try simp only [Bool.and_eq_true,Bool.or_eq_true,Bool.and_eq_false_iff,Bool.or_eq_false_iff,decide_eq_true_eq,decide_eq_false_iff_not,Bool.not_eq_true',Bool.not_eq_false',Bool.not_eq_true,Bool.not_eq_false,ne_eq] at hb4p
      refine O.skipB hf rfl rfl rfl hb4 rfl ?_; clear hf a; intro a hf
      refine O.skipB hf rfl rfl rfl hb4 rfl ?_; clear hf a; intro a hf
      refine O.val (v:=.bool (((greatM l.length)||(decide ((l.length:Int)>(25:Int))))||false)) hf rfl rfl rfl (RunV.pick rfl rfl rfl (by rw [hb4]; rfl)) ?_; clear hf a; intro a hf
      exact O.nil ⟨rfl,hf.to ⟨rfl,rfl,rfl,rfl,rfl,rfl,rfl,rfl,rfl,trivial⟩,hS⟩
    · have hb4p:=hb4
      try simp only [Bool.and_eq_true,Bool.or_eq_true,Bool.and_eq_false_iff,Bool.or_eq_false_iff,decide_eq_true_eq,decide_eq_false_iff_not,Bool.not_eq_true',Bool.not_eq_false',Bool.not_eq_true,Bool.not_eq_false,ne_eq] at hb4p
      refine O.gvalB (v:=.bool true) hf rfl rfl rfl hb4 rfl rfl (RunV.move rfl) ?_
      clear hf a; intro a hf
      refine O.gvalB (v:=.bool false) hf rfl rfl rfl hb4 rfl rfl (RunV.not (b:=true) rfl) ?_
      clear hf a; intro a hf
      refine O.val (v:=.bool (((greatM l.length)||(decide ((l.length:Int)>(25:Int))))||false)) hf rfl rfl rfl (RunV.pick rfl rfl rfl (by rw [hb4]; rfl)) ?_; clear hf a; intro a hf
      exact O.nil ⟨rfl,hf.to ⟨rfl,rfl,rfl,rfl,rfl,rfl,rfl,rfl,rfl,trivial⟩,hS⟩
  clear hf hS a; rintro a w ⟨hf,hS⟩
  refine O.nil ?_
  refine k_seq ?_
  replace hf:Fr a 161 [] [(0,vl),(2,.bool false),(3,.bool true),(25,.bool (((greatM l.length)||(decide ((l.length:Int)>(25:Int))))||false))]:=hf.to ⟨rfl,rfl,rfl,rfl,trivial⟩
  have hbc:(((greatM l.length)||(decide ((l.length:Int)>(25:Int))))||false)=true:=(by rw [Bool.or_false]; exact hout)
  simp only [hbc] at hf; clear hbc
  refine W.if_tt hf rfl ?_
  refine W.seq ?_
  refine W.regionL (l:=[0,1]) rfl ?_
  refine O.val hf rfl rfl rfl (RunV.move rfl) ?_
  clear hf a; intro a hf
  refine O.val hf rfl rfl rfl (RunV.assign rfl) ?_
  clear hf a; intro a hf
  refine O.nil ?_
  refine k_seq ?_
  replace hf:Fr a 161 [] [(0,vl),(2,.bool true),(3,.bool true)]:=hf.to ⟨rfl,rfl,rfl,trivial⟩
  refine W.ret ?_
  refine k_then_ret ?_
  refine post1 hf rfl (ResOK.tmp rfl) ?_
  exact ⟨(),rfl,hS.sub (List.nil_sublist _) |>.noB⟩
set_option maxHeartbeats 4000000 in
set_option maxRecDepth 4000 in
theorem apart_in (vl:Value) (l:List Ch) (w0:World) (hG:Lent w0 ordA) (hl:rdOK (hp w0) 12 vl l.length (encs eC l)) (hfit:vfit vl) (hr:∀ c ∈ l,rC c) (hl25:l.length≤25) :
    Ret Tryd.prog 5 #[vl] w0 (G:=Unit) (fun _=>.bool true) (fun _ w=>St w0 w noX [] []):=by
  refine ret_of_W (lv:=[vl]) Tryd.func5 rfl rfl rfl (fun a hf=>?_)
  replace hf:Fr a 161 [] [(0,vl)]:=hf
  have hS:St w0 w0 noX [ordA,rdv 12 vl l.length (encs eC l)] []:=((St.refl w0).lend0 hl).lendA hG
  have hlm:=hl.2.1
  unfold maxLen at hlm
  refine W.seq ?_
  refine W.regionL (l:=[0]) rfl ?_
  refine O.val hf rfl rfl rfl (RunV.assign rfl) ?_
  clear hf a; intro a hf
  refine O.nil ?_
  refine k_seq ?_
  refine W.seq ?_
  refine W.regionL (l:=[0,1]) rfl ?_
  refine O.callR hf rfl rfl rfl (RunE.call (av:=#[]) C_ok_14 rfl rfl rfl) (alive_spec _ (hS.bptO (i:=0) rfl)) ?_
  clear hf a
  rintro _ w1 hS1 a hf
  replace hf:Fr a _ _ ((14,.bool true)::_):=hf
  replace hS:=(hS.call hS1).eqM (N:=[]) rfl
  clear hS1
  refine O.val hf rfl rfl rfl (RunV.assign rfl) ?_
  clear hf a; intro a hf
  refine O.nil ?_
  refine k_seq ?_
  replace hf:Fr a 161 [] [(0,vl),(2,.bool false),(3,.bool true)]:=hf.to ⟨rfl,rfl,rfl,trivial⟩
  refine W.seq ?_
  refine W.seq ?_
  refine W.regionL (l:=[0,1,2,3,4,5,6,7,8,9,10]) rfl ?_
  refine O.val hf rfl rfl rfl (RunV.move rfl) ?_
  clear hf a; intro a hf
  refine O.callR hf rfl rfl rfl (RunE.call (av:=#[vl]) C_ok_10 rfl rfl rfl) (great_false vl l _ (hS.rdAt (j:=1) rfl) hl25) ?_
  clear hf a
  rintro _ w2 hS1 a hf
  replace hf:Fr a _ _ ((16,.bool false)::_):=hf
  replace hS:=(hS.call hS1).eqM (N:=[]) rfl
  clear hS1
  refine O.val hf rfl rfl rfl (RunV.move rfl) ?_
  clear hf a; intro a hf
  refine O.gvalB (v:=vl) hf rfl rfl rfl rfl rfl rfl (RunV.move rfl) ?_
  clear hf a; intro a hf
  refine O.gvalB (v:=.int .i64 (l.length:Int)) hf rfl rfl rfl rfl rfl rfl (RunV.lenV (e:=26) (by simpa using T_elem_22) rfl (hS.rdAt (j:=1) rfl)) ?_
  clear hf a; intro a hf
  refine O.gvalB (v:=.bool (decide ((l.length:Int)>(25:Int)))) hf rfl rfl rfl rfl rfl rfl (RunV.gtr rfl rfl) ?_
  clear hf a; intro a hf
  refine O.val (v:=.bool (decide ((l.length:Int)>(25:Int)))) hf rfl rfl rfl (RunV.pick rfl rfl rfl rfl) ?_
  clear hf a; intro a hf
  refine O.val hf rfl rfl rfl (RunV.move rfl) ?_
  clear hf a; intro a hf
  refine O.cutN (l₁:=[8,9,10]) (l₂:=_) (fun a w=>Fr a 161 [] [(0,vl),(2,.bool false),(3,.bool true),(15,vl),(16,.bool false),(17,.bool false),(18,vl),(19,.int .i64 (l.length:Int)),(20,.bool (decide ((l.length:Int)>(25:Int)))),(21,.bool (decide ((l.length:Int)>(25:Int)))),(22,.bool (decide ((l.length:Int)>(25:Int)))),(25,.bool ((decide ((l.length:Int)>(25:Int)))||false))]∧St w0 w noX [ordA,rdv 12 vl l.length (encs eC l)] []) rfl ?_ ?_
  · rcases Bool.eq_false_or_eq_true (decide ((l.length:Int)>(25:Int))) with hb3 | hb3
    · have hb3p:=of_decide_eq_true hb3
      refine O.skipB hf rfl rfl rfl hb3 rfl ?_; clear hf a; intro a hf
      refine O.skipB hf rfl rfl rfl hb3 rfl ?_; clear hf a; intro a hf
      refine O.val (v:=.bool ((decide ((l.length:Int)>(25:Int)))||false)) hf rfl rfl rfl (RunV.pick rfl rfl rfl (by rw [hb3]; rfl)) ?_; clear hf a; intro a hf
      exact O.nil ⟨rfl,hf.to ⟨rfl,rfl,rfl,rfl,rfl,rfl,rfl,rfl,rfl,rfl,rfl,rfl,trivial⟩,hS⟩
    · have hb3p:=of_decide_eq_false hb3
      refine O.gvalB (v:=.bool true) hf rfl rfl rfl hb3 rfl rfl (RunV.move rfl) ?_
      clear hf a; intro a hf
      refine O.gvalB (v:=.bool false) hf rfl rfl rfl hb3 rfl rfl (RunV.not (b:=true) rfl) ?_
      clear hf a; intro a hf
      refine O.val (v:=.bool ((decide ((l.length:Int)>(25:Int)))||false)) hf rfl rfl rfl (RunV.pick rfl rfl rfl (by rw [hb3]; rfl)) ?_; clear hf a; intro a hf
      exact O.nil ⟨rfl,hf.to ⟨rfl,rfl,rfl,rfl,rfl,rfl,rfl,rfl,rfl,rfl,rfl,rfl,trivial⟩,hS⟩
  clear hf hS a; rintro a w ⟨hf,hS⟩
  refine O.nil ?_
  refine k_seq ?_
  replace hf:Fr a 161 [] [(0,vl),(2,.bool false),(3,.bool true),(25,.bool ((decide ((l.length:Int)>(25:Int)))||false))]:=hf.to ⟨rfl,rfl,rfl,rfl,trivial⟩
  have hbc:((decide ((l.length:Int)>(25:Int)))||false)=false:=(by rw [decide_eq_false (show ¬ (l.length:Int)>25 by omega)]; rfl)
  simp only [hbc] at hf; clear hbc
  refine W.if_ff hf rfl ?_
  refine W.skip ?_
  refine k_seq ?_
  replace hf:Fr a 161 [] [(0,vl),(2,.bool false),(3,.bool true)]:=hf.to ⟨rfl,rfl,rfl,trivial⟩
  refine W.seq ?_
  rcases hm:histM l with e | ⟨S,us⟩
  · have he0:=histM_ne hm
    refine W.regionL (l:=[0,1,2,3,4,5,6]) rfl ?_
    refine O.val hf rfl rfl rfl (RunV.move rfl) ?_
    clear hf a; intro a hf
    refine O.callR hf rfl rfl rfl (RunE.call (av:=#[vl]) C_ok_16 rfl rfl rfl) (run_err vl l _ (hS.bptO (i:=0) rfl) (hS.rdAt (j:=1) rfl) hfit e hm) ?_
    clear hf a
    rintro _ w4 hS1 a hf
    replace hf:Fr a _ _ ((29,.tuple #[.slice none 0 0,.int .i64 e])::_):=hf
    replace hS:=(hS.call hS1).eqM (N:=[]) rfl
    clear hS1
    refine O.val hf rfl rfl rfl (RunV.move rfl) ?_
    clear hf a; intro a hf
    refine O.val hf rfl rfl rfl (RunV.extract rfl rfl) ?_
    clear hf a; intro a hf
    refine O.val hf rfl rfl rfl (RunV.extract rfl rfl) ?_
    clear hf a; intro a hf
    refine O.val hf rfl rfl rfl (RunV.assign rfl) ?_
    clear hf a; intro a hf
    refine O.val hf rfl rfl rfl (RunV.assign rfl) ?_
    clear hf a; intro a hf
    refine O.nil ?_
    refine k_seq ?_
    replace hf:Fr a 161 [] [(0,vl),(2,.bool false),(3,.bool true),(4,.slice none 0 0),(5,.int .i64 e)]:=hf.to ⟨rfl,rfl,rfl,rfl,rfl,trivial⟩
    refine W.seq ?_
    refine W.seq ?_
    refine W.regionL (l:=[0,1]) rfl ?_
    refine O.val hf rfl rfl rfl (RunV.move rfl) ?_
    clear hf a; intro a hf
    refine O.val (v:=.bool (decide (e≠(0:Int)))) hf rfl rfl rfl (RunV.neq rfl rfl) ?_
    clear hf a; intro a hf
    refine O.nil ?_
    refine k_seq ?_
    replace hf:Fr a 161 [] [(0,vl),(2,.bool false),(3,.bool true),(4,.slice none 0 0),(33,.bool (decide (e≠(0:Int))))]:=hf.to ⟨rfl,rfl,rfl,rfl,rfl,trivial⟩
    have hbc:(decide (e≠(0:Int)))=true:=decide_eq_true he0
    simp only [hbc] at hf; clear hbc
    refine W.if_tt hf rfl ?_
    refine W.seq ?_
    refine W.regionL (l:=[0,1,2,3,4,5,6]) rfl ?_
    refine O.val hf rfl rfl rfl (RunV.move rfl) ?_
    clear hf a; intro a hf
    refine O.val hf rfl rfl rfl (RunV.move rfl) ?_
    clear hf a; intro a hf
    refine O.gvalB (v:=.slice none 0 0) hf rfl rfl rfl rfl rfl rfl (RunV.move rfl) ?_
    clear hf a; intro a hf
    refine O.gvalB (v:=.int .i64 0) hf rfl rfl rfl rfl rfl rfl (RunV.len (e:=46) (by simpa using T_elem_39) rfl) ?_
    clear hf a; intro a hf
    refine O.gvalB (v:=.bool true) hf rfl rfl rfl rfl rfl rfl (RunV.toB (c:=true) (RunV.eql rfl rfl) (by decide)) ?_
    clear hf a; intro a hf
    refine O.val (v:=.bool true) hf rfl rfl rfl (RunV.pick rfl rfl rfl rfl) ?_
    clear hf a; intro a hf
    refine O.val hf rfl rfl rfl (RunV.assign rfl) ?_
    clear hf a; intro a hf
    refine O.nil ?_
    refine k_seq ?_
    replace hf:Fr a 161 [] [(0,vl),(2,.bool true),(3,.bool true),(4,.slice none 0 0)]:=hf.to ⟨rfl,rfl,rfl,rfl,trivial⟩
    refine W.ret ?_
    refine k_then_ret ?_
    refine post1 hf rfl (ResOK.tmp rfl) ?_
    exact ⟨(),rfl,hS.sub (List.nil_sublist _) |>.noB⟩
  ·
    refine W.regionL (l:=[0,1,2,3,4,5,6]) rfl ?_
    refine O.val hf rfl rfl rfl (RunV.move rfl) ?_
    clear hf a; intro a hf
    refine O.callR hf rfl rfl rfl (RunE.call (av:=#[vl]) C_ok_16 rfl rfl rfl) (run_ok vl l _ (hS.bptO (i:=0) rfl) (hS.rdAt (j:=1) rfl) hfit _ _ hm) ?_
    clear hf a
    rintro ⟨va1,xs1⟩ w5 ⟨hS1,hxs1⟩ a hf
    replace hf:Fr a _ _ ((29,.tuple #[va1,.int .i64 0])::_):=hf
    replace hS:=(hS.call hS1).eqM (N:=[sl 46 6 va1 xs1.length (encs eO xs1),bigA (xs1.map obA)]) rfl
    clear hS1
    refine O.val hf rfl rfl rfl (RunV.move rfl) ?_
    clear hf a; intro a hf
    refine O.val hf rfl rfl rfl (RunV.extract rfl rfl) ?_
    clear hf a; intro a hf
    refine O.val hf rfl rfl rfl (RunV.extract rfl rfl) ?_
    clear hf a; intro a hf
    refine O.val hf rfl rfl rfl (RunV.assign rfl) ?_
    clear hf a; intro a hf
    refine O.val hf rfl rfl rfl (RunV.assign rfl) ?_
    clear hf a; intro a hf
    refine O.nil ?_
    replace hxs1:xs1.map prO=objsM S:=hxs1
    have hlen1:=obs_len hxs1
    have hsl1:=S_len hm
    refine k_seq ?_
    replace hf:Fr a 161 [] [(0,vl),(2,.bool false),(3,.bool true),(4,va1),(5,.int .i64 0)]:=hf.to ⟨rfl,rfl,rfl,rfl,rfl,trivial⟩
    refine W.seq ?_
    refine W.seq ?_
    refine W.regionL (l:=[0,1]) rfl ?_
    refine O.val hf rfl rfl rfl (RunV.move rfl) ?_
    clear hf a; intro a hf
    refine O.val hf rfl rfl rfl (RunV.toB (c:=false) (RunV.neq rfl rfl) (by decide)) ?_
    clear hf a; intro a hf
    refine O.nil ?_
    refine k_seq ?_
    replace hf:Fr a 161 [] [(0,vl),(2,.bool false),(3,.bool true),(4,va1),(33,.bool false)]:=hf.to ⟨rfl,rfl,rfl,rfl,rfl,trivial⟩
    refine W.if_ff hf rfl ?_
    refine W.skip ?_
    refine k_seq ?_
    replace hf:Fr a 161 [] [(0,vl),(2,.bool false),(3,.bool true),(4,va1)]:=hf.to ⟨rfl,rfl,rfl,rfl,trivial⟩
    refine W.seq ?_
    refine W.seq ?_
    refine W.regionL (l:=[0]) rfl ?_
    refine O.val hf rfl rfl rfl (RunV.assign rfl) ?_
    clear hf a; intro a hf
    refine O.nil ?_
    refine k_seq ?_
    refine W.block ?_
    refine W.loop (G:=(Nat)) (fun g a w=>match g with | i=>Fr a 161 [] [(0,vl),(3,.bool true),(4,va1),(6,.int .i64 (i:Int))]∧St w0 w noX [ordA,rdv 12 vl l.length (encs eC l)] [sl 46 6 va1 xs1.length (encs eO xs1),bigA (xs1.map obA)]∧(i≤xs1.length)) (fun g=>match g with | i=>xs1.length-i) 0 ?_ ?_
    · refine ⟨hf.to ⟨rfl,rfl,rfl,(by first | rfl | exact congrArg some (congrArg (Value.int _) (by omega))),trivial⟩,hS,?_⟩
      · omega
    clear hf hS a
    rintro i a w ⟨hf,hS,hi⟩
    refine W.seq ?_
    refine W.seq ?_
    refine W.regionL (l:=[0,1,2,3]) rfl ?_
    refine O.val hf rfl rfl rfl (RunV.move rfl) ?_
    clear hf a; intro a hf
    refine O.val hf rfl rfl rfl (RunV.move rfl) ?_
    clear hf a; intro a hf
    refine O.val hf rfl rfl rfl (RunV.lenV (e:=46) (by simpa using T_elem_39) rfl (hS.slr (j:=0) rfl)) ?_
    clear hf a; intro a hf
    refine O.val (v:=.bool (decide ((i:Int)<((xs1.length:Int):Int)))) hf rfl rfl rfl (RunV.lss rfl rfl) ?_
    clear hf a; intro a hf
    refine O.nil ?_
    refine k_seq ?_
    replace hf:Fr a 161 [] [(0,vl),(3,.bool true),(4,va1),(6,.int .i64 (i:Int)),(43,.bool (decide ((i:Int)<((xs1.length:Int):Int))))]:=hf.to ⟨rfl,rfl,rfl,rfl,rfl,trivial⟩
    refine W.ifdI hf rfl (fun hc6=>?_) (fun hc6=>?_)
    · refine W.skip ?_
      refine k_seq ?_
      refine W.seq ?_
      refine W.block ?_
      refine W.seq ?_
      refine W.seq ?_
      obtain ⟨p,hpS,hxp,hxl⟩:=ap_obj hxs1 (i:=i) (by omega)
      have hpos:=ap_pos hm hpS
      have hpl:(xs1.getD i default).l.length≤500:=by rw [hxl]; exact who_len (ap_who hm hpS hpos)
      rw [← hxl] at hpos
      have hpr:(xs1.getD i default).l.getD (0) default=(xs1.getD i default).p:=by rw [hxl,hxp]
      have hlt2:0<i→befM (xs1.getD (i-1) default).p (xs1.getD i default).p<0:=fun h=>ap_lt2 hr hm hxs1 h (by omega)
      refine W.drawQ (fun w=>St w0 w noX [ordA,rdv 12 vl l.length (encs eC l)] [sl 46 6 va1 xs1.length (encs eO xs1),bigA (xs1.map obA)]) P_mixed rfl (by kernel_rfl) rfl hS.drew ?_
      clear hS
      refine OQ.val (v:=va1) hf rfl (fun w hS=>RunV.move rfl) ?_; clear hf a; intro a hf
      refine OQ.val (v:=.int .i64 (i:Int)) hf rfl (fun w hS=>RunV.move rfl) ?_; clear hf a; intro a hf
      refine OQ.val (v:=ix va1 (i*6)) hf rfl (fun w hS=>RunV.ixV (j:=i) (m:=i*6) T_elem_39 T_size_46 rfl rfl (hS.slr (j:=0) rfl) rfl (by omega) rfl) ?_; clear hf a; intro a hf
      refine OQ.val (v:=ix va1 (i*6+5)) hf rfl (fun w hS=>RunV.ixF T_field_46_1 rfl (hS.slr (j:=0) rfl) (by omega) rfl) ?_; clear hf a; intro a hf
      refine OQ.val (v:=(xs1.getD i default).v) hf rfl (fun w hS=>RunV.ldG2 (j:=i) (o:=5) (sz:=6) (enc:=eO) (l:=xs1) T_agg_35 eO_len rfl (hS.slr (j:=0) rfl) (by omega) rfl rfl) ?_; clear hf a; intro a hf
      refine OQ.val (v:=.int .i64 ((xs1.getD i default).l.length:Int)) hf rfl (fun w hS=>RunV.lenV (e:=24) (by simpa using T_elem_35) rfl ((hS.obOwn (i:=1) rfl).at (k:=i) (by omega))) ?_; clear hf a; intro a hf
      refine OQ.val (v:=.bool (decide (((xs1.getD i default).l.length:Int)=(0:Int)))) hf rfl (fun w hS=>RunV.eql rfl rfl) ?_; clear hf a; intro a hf
      refine OQ.val (v:=.bool (decide (((xs1.getD i default).l.length:Int)=(0:Int)))) hf rfl (fun w hS=>RunV.move rfl) ?_; clear hf a; intro a hf
      have hbg:(decide (((xs1.getD i default).l.length:Int)=(0:Int)))=false:=decide_eq_false (by omega)
      simp only [hbg] at hf; clear hbg
      refine OQ.gval (v:=va1) hf rfl rfl rfl rfl (fun w hS=>RunV.move rfl) ?_; clear hf a; intro a hf
      refine OQ.gval (v:=.int .i64 (i:Int)) hf rfl rfl rfl rfl (fun w hS=>RunV.move rfl) ?_; clear hf a; intro a hf
      refine OQ.gval (v:=ix va1 (i*6)) hf rfl rfl rfl rfl (fun w hS=>RunV.ixV (j:=i) (m:=i*6) T_elem_39 T_size_46 rfl rfl (hS.slr (j:=0) rfl) rfl (by omega) rfl) ?_; clear hf a; intro a hf
      refine OQ.gval (v:=ix va1 (i*6+5)) hf rfl rfl rfl rfl (fun w hS=>RunV.ixF T_field_46_1 rfl (hS.slr (j:=0) rfl) (by omega) rfl) ?_; clear hf a; intro a hf
      refine OQ.gval (v:=(xs1.getD i default).v) hf rfl rfl rfl rfl (fun w hS=>RunV.ldG2 (j:=i) (o:=5) (sz:=6) (enc:=eO) (l:=xs1) T_agg_35 eO_len rfl (hS.slr (j:=0) rfl) (by omega) rfl rfl) ?_; clear hf a; intro a hf
      refine OQ.gval (v:=ix ((xs1.getD i default).v) ((0)*5)) hf rfl rfl rfl rfl (fun w hS=>RunV.ixV (j:=(0)) (m:=(0)*5) T_elem_35 T_size_24 rfl rfl ((hS.obOwn (i:=1) rfl).at (k:=i) (by omega)) rfl (by omega) rfl) ?_; clear hf a; intro a hf
      refine OQ.gval (v:=.agg #[.int .i64 (((xs1.getD i default).l.getD (0) default).num),.int .i64 (((xs1.getD i default).l.getD (0) default).yr),.int .u8 (((xs1.getD i default).l.getD (0) default).half),.int .u8 (((xs1.getD i default).l.getD (0) default).sec),.int .i64 (((xs1.getD i default).l.getD (0) default).cyc)]) hf rfl rfl rfl rfl (fun w hS=>RunV.ldG (j:=(0)) (enc:=eD) (l:=(xs1.getD i default).l) (us:=[.int .i64 (((xs1.getD i default).l.getD (0) default).num),.int .i64 (((xs1.getD i default).l.getD (0) default).yr),.int .u8 (((xs1.getD i default).l.getD (0) default).half),.int .u8 (((xs1.getD i default).l.getD (0) default).sec),.int .i64 (((xs1.getD i default).l.getD (0) default).cyc)]) T_agg_24 T_size_24 rfl eD_len rfl ((hS.obOwn (i:=1) rfl).at (k:=i) (by omega)) (by omega) rfl) ?_; clear hf a; intro a hf
      refine OQ.gval (v:=va1) hf rfl rfl rfl rfl (fun w hS=>RunV.move rfl) ?_; clear hf a; intro a hf
      refine OQ.gval (v:=.int .i64 (i:Int)) hf rfl rfl rfl rfl (fun w hS=>RunV.move rfl) ?_; clear hf a; intro a hf
      refine OQ.gval (v:=ix va1 (i*6)) hf rfl rfl rfl rfl (fun w hS=>RunV.ixV (j:=i) (m:=i*6) T_elem_39 T_size_46 rfl rfl (hS.slr (j:=0) rfl) rfl (by omega) rfl) ?_; clear hf a; intro a hf
      refine OQ.gval (v:=ix va1 (i*6)) hf rfl rfl rfl rfl (fun w hS=>RunV.ixF T_field_46_0 rfl (hS.slr (j:=0) rfl) (by omega) rfl) ?_; clear hf a; intro a hf
      refine OQ.gval (v:=.agg #[.int .i64 ((xs1.getD i default).p.num),.int .i64 ((xs1.getD i default).p.yr),.int .u8 ((xs1.getD i default).p.half),.int .u8 ((xs1.getD i default).p.sec),.int .i64 ((xs1.getD i default).p.cyc)]) hf rfl rfl rfl rfl (fun w hS=>RunV.ldGN (j:=i) (o:=0) (sz:=6) (enc:=eO) (l:=xs1) (us:=[.int .i64 ((xs1.getD i default).p.num),.int .i64 ((xs1.getD i default).p.yr),.int .u8 ((xs1.getD i default).p.half),.int .u8 ((xs1.getD i default).p.sec),.int .i64 ((xs1.getD i default).p.cyc)]) T_agg_24 T_size_24 rfl eO_len rfl (hS.slr (j:=0) rfl) (by omega) rfl rfl rfl) ?_; clear hf a; intro a hf
      refine OQ.gval (v:=.bool (!decide (((xs1.getD i default).l.getD (0) default)=((xs1.getD i default).p)))) hf rfl rfl rfl rfl (fun w hS=>neD rfl ((xs1.getD i default).l.getD (0) default) ((xs1.getD i default).p) eqGuard24 rfl rfl) ?_; clear hf a; intro a hf
      refine OQ.val (v:=.bool (!decide (((xs1.getD i default).l.getD (0) default)=((xs1.getD i default).p)))) hf rfl (fun w hS=>RunV.pick rfl rfl rfl rfl) ?_; clear hf a; intro a hf
      refine OQ.val (v:=.bool (!decide (((xs1.getD i default).l.getD (0) default)=((xs1.getD i default).p)))) hf rfl (fun w hS=>RunV.move rfl) ?_; clear hf a; intro a hf
      have hbg:(!decide (((xs1.getD i default).l.getD (0) default)=((xs1.getD i default).p)))=false:=(by rw [decide_eq_true hpr]; rfl)
      simp only [hbg] at hf; clear hbg
      refine OQ.gval (v:=.int .i64 (i:Int)) hf rfl rfl rfl rfl (fun w hS=>RunV.move rfl) ?_; clear hf a; intro a hf
      refine OQ.gval (v:=.bool (decide ((i:Int)>(0:Int)))) hf rfl rfl rfl rfl (fun w hS=>RunV.gtr rfl rfl) ?_; clear hf a; intro a hf
      refine OQ.gval (v:=.bool (decide ((i:Int)>(0:Int)))) hf rfl rfl rfl rfl (fun w hS=>RunV.move rfl) ?_; clear hf a; intro a hf
      refine OQ.cutK (K':=fun a=>Fr a 161 [] [(0,vl),(3,.bool true),(4,va1),(6,.int .i64 (i:Int)),(46,va1),(47,.int .i64 (i:Int)),(48,ix va1 (i*6)),(49,ix va1 (i*6+5)),(50,(xs1.getD i default).v),(51,.int .i64 ((xs1.getD i default).l.length:Int)),(52,.bool false),(53,.bool false),(54,va1),(55,.int .i64 (i:Int)),(56,ix va1 (i*6)),(57,ix va1 (i*6+5)),(58,(xs1.getD i default).v),(59,ix ((xs1.getD i default).v) ((0)*5)),(60,.agg #[.int .i64 (((xs1.getD i default).l.getD (0) default).num),.int .i64 (((xs1.getD i default).l.getD (0) default).yr),.int .u8 (((xs1.getD i default).l.getD (0) default).half),.int .u8 (((xs1.getD i default).l.getD (0) default).sec),.int .i64 (((xs1.getD i default).l.getD (0) default).cyc)]),(61,va1),(62,.int .i64 (i:Int)),(63,ix va1 (i*6)),(64,ix va1 (i*6)),(65,.agg #[.int .i64 ((xs1.getD i default).p.num),.int .i64 ((xs1.getD i default).p.yr),.int .u8 ((xs1.getD i default).p.half),.int .u8 ((xs1.getD i default).p.sec),.int .i64 ((xs1.getD i default).p.cyc)]),(66,.bool false),(67,.bool false),(68,.bool false),(69,.int .i64 (i:Int)),(70,.bool (decide ((i:Int)>(0:Int)))),(71,.bool (decide ((i:Int)>(0:Int)))),(85,.bool ((decide ((i:Int)>(0:Int)))&&(decide ((befM (xs1.getD (i-1) default).p (xs1.getD i default).p)≥(0:Int)))))]) 14 ?_ ?_
      · rcases Bool.eq_false_or_eq_true (decide ((i:Int)>(0:Int))) with hb7 | hb7
        · have hb7p:=of_decide_eq_true hb7
          refine OQ.gval (v:=va1) hf rfl rfl hb7 rfl (fun w hS=>RunV.move rfl) ?_; clear hf a; intro a hf
          refine OQ.gval (v:=.int .i64 (i:Int)) hf rfl rfl hb7 rfl (fun w hS=>RunV.move rfl) ?_; clear hf a; intro a hf
          refine OQ.gval (v:=.int .i64 ((i:Int)-1)) hf rfl rfl hb7 rfl (fun w hS=>RunV.subI rfl rfl (by omega)) ?_; clear hf a; intro a hf
          refine OQ.gval (v:=ix va1 ((i-1)*6)) hf rfl rfl hb7 rfl (fun w hS=>RunV.ixV (j:=(i-1)) (m:=(i-1)*6) T_elem_39 T_size_46 rfl rfl (hS.slr (j:=0) rfl) (by omega) (by omega) rfl) ?_; clear hf a; intro a hf
          refine OQ.gval (v:=ix va1 ((i-1)*6)) hf rfl rfl hb7 rfl (fun w hS=>RunV.ixF T_field_46_0 rfl (hS.slr (j:=0) rfl) (by omega) rfl) ?_; clear hf a; intro a hf
          refine OQ.gval (v:=.agg #[.int .i64 ((xs1.getD (i-1) default).p.num),.int .i64 ((xs1.getD (i-1) default).p.yr),.int .u8 ((xs1.getD (i-1) default).p.half),.int .u8 ((xs1.getD (i-1) default).p.sec),.int .i64 ((xs1.getD (i-1) default).p.cyc)]) hf rfl rfl hb7 rfl (fun w hS=>RunV.ldGN (j:=(i-1)) (o:=0) (sz:=6) (enc:=eO) (l:=xs1) (us:=[.int .i64 ((xs1.getD (i-1) default).p.num),.int .i64 ((xs1.getD (i-1) default).p.yr),.int .u8 ((xs1.getD (i-1) default).p.half),.int .u8 ((xs1.getD (i-1) default).p.sec),.int .i64 ((xs1.getD (i-1) default).p.cyc)]) T_agg_24 T_size_24 rfl eO_len rfl (hS.slr (j:=0) rfl) (by omega) rfl rfl rfl) ?_; clear hf a; intro a hf
          refine OQ.gval (v:=va1) hf rfl rfl hb7 rfl (fun w hS=>RunV.move rfl) ?_; clear hf a; intro a hf
          refine OQ.gval (v:=.int .i64 (i:Int)) hf rfl rfl hb7 rfl (fun w hS=>RunV.move rfl) ?_; clear hf a; intro a hf
          refine OQ.gval (v:=ix va1 (i*6)) hf rfl rfl hb7 rfl (fun w hS=>RunV.ixV (j:=i) (m:=i*6) T_elem_39 T_size_46 rfl rfl (hS.slr (j:=0) rfl) rfl (by omega) rfl) ?_; clear hf a; intro a hf
          refine OQ.gval (v:=ix va1 (i*6)) hf rfl rfl hb7 rfl (fun w hS=>RunV.ixF T_field_46_0 rfl (hS.slr (j:=0) rfl) (by omega) rfl) ?_; clear hf a; intro a hf
          refine OQ.gval (v:=.agg #[.int .i64 ((xs1.getD i default).p.num),.int .i64 ((xs1.getD i default).p.yr),.int .u8 ((xs1.getD i default).p.half),.int .u8 ((xs1.getD i default).p.sec),.int .i64 ((xs1.getD i default).p.cyc)]) hf rfl rfl hb7 rfl (fun w hS=>RunV.ldGN (j:=i) (o:=0) (sz:=6) (enc:=eO) (l:=xs1) (us:=[.int .i64 ((xs1.getD i default).p.num),.int .i64 ((xs1.getD i default).p.yr),.int .u8 ((xs1.getD i default).p.half),.int .u8 ((xs1.getD i default).p.sec),.int .i64 ((xs1.getD i default).p.cyc)]) T_agg_24 T_size_24 rfl eO_len rfl (hS.slr (j:=0) rfl) (by omega) rfl rfl rfl) ?_; clear hf a; intro a hf
          refine OQ.gcallRq (v:=.int .i64 (befM (xs1.getD (i-1) default).p (xs1.getD i default).p)) hf rfl rfl hb7 rfl (fun w hS=>RunE.call (av:=#[.agg #[.int .i64 ((xs1.getD (i-1) default).p.num),.int .i64 ((xs1.getD (i-1) default).p.yr),.int .u8 ((xs1.getD (i-1) default).p.half),.int .u8 ((xs1.getD (i-1) default).p.sec),.int .i64 ((xs1.getD (i-1) default).p.cyc)],.agg #[.int .i64 ((xs1.getD i default).p.num),.int .i64 ((xs1.getD i default).p.yr),.int .u8 ((xs1.getD i default).p.half),.int .u8 ((xs1.getD i default).p.sec),.int .i64 ((xs1.getD i default).p.cyc)]]) C_ok_18 rfl rfl rfl) (fun w hS=>bef_spec (xs1.getD (i-1) default).p (xs1.getD i default).p _) ?_; clear hf a; intro a hf
          refine OQ.gval (v:=.bool (decide ((befM (xs1.getD (i-1) default).p (xs1.getD i default).p)≥(0:Int)))) hf rfl rfl hb7 rfl (fun w hS=>RunV.geq rfl rfl) ?_; clear hf a; intro a hf
          refine OQ.gval (v:=.bool ((decide ((i:Int)>(0:Int)))&&(decide ((befM (xs1.getD (i-1) default).p (xs1.getD i default).p)≥(0:Int))))) hf rfl rfl rfl rfl (fun w hS=>RunV.pick rfl rfl rfl (by rw [hb7]; rfl)) ?_; clear hf a; intro a hf
          exact OQ.nil (hf.to ⟨rfl,rfl,rfl,rfl,rfl,rfl,rfl,rfl,rfl,rfl,rfl,rfl,rfl,rfl,rfl,rfl,rfl,rfl,rfl,rfl,rfl,rfl,rfl,rfl,rfl,rfl,rfl,rfl,rfl,rfl,rfl,trivial⟩)
        · have hb7p:=of_decide_eq_false hb7
          refine OQ.skipB hf rfl rfl hb7 rfl ?_; clear hf a; intro a hf
          refine OQ.skipB hf rfl rfl hb7 rfl ?_; clear hf a; intro a hf
          refine OQ.skipB hf rfl rfl hb7 rfl ?_; clear hf a; intro a hf
          refine OQ.skipB hf rfl rfl hb7 rfl ?_; clear hf a; intro a hf
          refine OQ.skipB hf rfl rfl hb7 rfl ?_; clear hf a; intro a hf
          refine OQ.skipB hf rfl rfl hb7 rfl ?_; clear hf a; intro a hf
          refine OQ.skipB hf rfl rfl hb7 rfl ?_; clear hf a; intro a hf
          refine OQ.skipB hf rfl rfl hb7 rfl ?_; clear hf a; intro a hf
          refine OQ.skipB hf rfl rfl hb7 rfl ?_; clear hf a; intro a hf
          refine OQ.skipB hf rfl rfl hb7 rfl ?_; clear hf a; intro a hf
          refine OQ.skipB hf rfl rfl hb7 rfl ?_; clear hf a; intro a hf
          refine OQ.skipB hf rfl rfl hb7 rfl ?_; clear hf a; intro a hf
          refine OQ.skipB hf rfl rfl hb7 rfl ?_; clear hf a; intro a hf
          refine OQ.gval (v:=.bool ((decide ((i:Int)>(0:Int)))&&(decide ((befM (xs1.getD (i-1) default).p (xs1.getD i default).p)≥(0:Int))))) hf rfl rfl rfl rfl (fun w hS=>RunV.pick rfl rfl rfl (by rw [hb7]; rfl)) ?_; clear hf a; intro a hf
          exact OQ.nil (hf.to ⟨rfl,rfl,rfl,rfl,rfl,rfl,rfl,rfl,rfl,rfl,rfl,rfl,rfl,rfl,rfl,rfl,rfl,rfl,rfl,rfl,rfl,rfl,rfl,rfl,rfl,rfl,rfl,rfl,rfl,rfl,rfl,trivial⟩)
      clear hf a; intro a hf
      refine OQ.val (v:=.bool ((decide ((i:Int)>(0:Int)))&&(decide ((befM (xs1.getD (i-1) default).p (xs1.getD i default).p)≥(0:Int))))) hf rfl (fun w hS=>RunV.pick rfl rfl rfl rfl) ?_; clear hf a; intro a hf
      refine OQ.nil ?_; intro w hS
      refine k_seq ?_
      replace hf:Fr a 161 [] [(0,vl),(3,.bool true),(4,va1),(6,.int .i64 (i:Int)),(86,.bool ((decide ((i:Int)>(0:Int)))&&(decide ((befM (xs1.getD (i-1) default).p (xs1.getD i default).p)≥(0:Int)))))]:=hf.to ⟨rfl,rfl,rfl,rfl,rfl,trivial⟩
      have hbc:((decide ((i:Int)>(0:Int)))&&(decide ((befM (xs1.getD (i-1) default).p (xs1.getD i default).p)≥(0:Int))))=false:=(dec_and fun h=>by have:=hlt2 (by omega); omega)
      simp only [hbc] at hf; clear hbc
      refine W.if_ff hf rfl ?_
      refine W.skip ?_
      refine k_seq ?_
      refine W.seq ?_
      refine W.regionL (l:=[0]) rfl ?_
      refine O.val hf rfl rfl rfl (RunV.assign rfl) ?_
      clear hf a; intro a hf
      refine O.nil ?_
      refine k_seq ?_
      refine W.block ?_
      refine W.loop (G:=(Nat)) (fun g a w=>match g with | k=>Fr a 161 [] [(0,vl),(3,.bool true),(4,va1),(6,.int .i64 (i:Int)),(7,.int .i64 (k:Int)),(86,.bool false)]∧St w0 w noX [ordA,rdv 12 vl l.length (encs eC l)] [sl 46 6 va1 xs1.length (encs eO xs1),bigA (xs1.map obA)]∧(k≤(xs1.getD i default).l.length)) (fun g=>match g with | k=>(xs1.getD i default).l.length-k) 0 ?_ ?_
      · refine ⟨hf.to ⟨rfl,rfl,rfl,rfl,(by first | rfl | exact congrArg some (congrArg (Value.int _) (by omega))),rfl,trivial⟩,hS,?_⟩
        · omega
      clear hf hS a
      rintro k a w ⟨hf,hS,hk⟩
      refine W.seq ?_
      refine W.seq ?_
      refine W.regionL (l:=[0,1,2,3,4,5,6,7]) rfl ?_
      refine O.val hf rfl rfl rfl (RunV.move rfl) ?_
      clear hf a; intro a hf
      refine O.val hf rfl rfl rfl (RunV.move rfl) ?_
      clear hf a; intro a hf
      refine O.val hf rfl rfl rfl (RunV.move rfl) ?_
      clear hf a; intro a hf
      refine O.val hf rfl rfl rfl (RunV.ixV (j:=i) (m:=i*6) T_elem_39 T_size_46 rfl rfl (hS.slr (j:=0) rfl) rfl (by omega) rfl) ?_
      clear hf a; intro a hf
      refine O.val hf rfl rfl rfl (RunV.ixF T_field_46_1 rfl (hS.slr (j:=0) rfl) (by omega) rfl) ?_
      clear hf a; intro a hf
      refine O.val hf rfl rfl rfl (RunV.ldG2 (j:=i) (o:=5) (sz:=6) (enc:=eO) (l:=xs1) T_agg_35 eO_len rfl (hS.slr (j:=0) rfl) (by omega) rfl rfl) ?_
      clear hf a; intro a hf
      refine O.val hf rfl rfl rfl (RunV.lenV (e:=24) (by simpa using T_elem_35) rfl ((hS.obOwn (i:=1) rfl).at (k:=i) (by omega))) ?_
      clear hf a; intro a hf
      refine O.val (v:=.bool (decide ((k:Int)<(((xs1.getD i default).l.length:Int):Int)))) hf rfl rfl rfl (RunV.lss rfl rfl) ?_
      clear hf a; intro a hf
      refine O.nil ?_
      refine k_seq ?_
      replace hf:Fr a 161 [] [(0,vl),(3,.bool true),(4,va1),(6,.int .i64 (i:Int)),(7,.int .i64 (k:Int)),(86,.bool false),(94,.bool (decide ((k:Int)<(((xs1.getD i default).l.length:Int):Int))))]:=hf.to ⟨rfl,rfl,rfl,rfl,rfl,rfl,rfl,trivial⟩
      refine W.ifdI hf rfl (fun hc8=>?_) (fun hc8=>?_)
      · refine W.skip ?_
        refine k_seq ?_
        refine W.seq ?_
        refine W.block ?_
        refine W.seq ?_
        refine W.regionL (l:=[0,1,2,3,4,5,6,7,8,9]) rfl ?_
        refine O.val hf rfl rfl rfl (RunV.move rfl) ?_
        clear hf a; intro a hf
        refine O.val hf rfl rfl rfl (RunV.move rfl) ?_
        clear hf a; intro a hf
        refine O.val hf rfl rfl rfl (RunV.ixV (j:=i) (m:=i*6) T_elem_39 T_size_46 rfl rfl (hS.slr (j:=0) rfl) rfl (by omega) rfl) ?_
        clear hf a; intro a hf
        refine O.val hf rfl rfl rfl (RunV.ixF T_field_46_1 rfl (hS.slr (j:=0) rfl) (by omega) rfl) ?_
        clear hf a; intro a hf
        refine O.val hf rfl rfl rfl (RunV.ldG2 (j:=i) (o:=5) (sz:=6) (enc:=eO) (l:=xs1) T_agg_35 eO_len rfl (hS.slr (j:=0) rfl) (by omega) rfl rfl) ?_
        clear hf a; intro a hf
        refine O.val hf rfl rfl rfl (RunV.move rfl) ?_
        clear hf a; intro a hf
        refine O.val hf rfl rfl rfl (RunV.ixV (j:=k) (m:=k*5) T_elem_35 T_size_24 rfl rfl ((hS.obOwn (i:=1) rfl).at (k:=i) (by omega)) rfl (by omega) rfl) ?_
        clear hf a; intro a hf
        refine O.val hf rfl rfl rfl (RunV.ldG (j:=k) (enc:=eD) (l:=(xs1.getD i default).l) (us:=[.int .i64 (((xs1.getD i default).l.getD k default).num),.int .i64 (((xs1.getD i default).l.getD k default).yr),.int .u8 (((xs1.getD i default).l.getD k default).half),.int .u8 (((xs1.getD i default).l.getD k default).sec),.int .i64 (((xs1.getD i default).l.getD k default).cyc)]) T_agg_24 T_size_24 rfl eD_len rfl ((hS.obOwn (i:=1) rfl).at (k:=i) (by omega)) (by omega) rfl) ?_
        clear hf a; intro a hf
        refine O.alloc (cs:=#[.int .i64 0,.int .i64 0,.int .u8 0,.int .u8 0,.int .i64 0]) hf hS rfl rfl T_zero_24 rfl ?_
        clear hf hS a; intro b_d9 w a hbb_d9 hS hf
        refine O.store (j:=0) (cs':=#[.int .i64 (((xs1.getD i default).l.getD k default).num),.int .i64 (((xs1.getD i default).l.getD k default).yr),.int .u8 (((xs1.getD i default).l.getD k default).half),.int .u8 (((xs1.getD i default).l.getD k default).sec),.int .i64 (((xs1.getD i default).l.getD k default).cyc)]) (M':=[pt b_d9 (.cells #[.int .i64 (((xs1.getD i default).l.getD k default).num),.int .i64 (((xs1.getD i default).l.getD k default).yr),.int .u8 (((xs1.getD i default).l.getD k default).half),.int .u8 (((xs1.getD i default).l.getD k default).sec),.int .i64 (((xs1.getD i default).l.getD k default).cyc)] 24 (0,0)),sl 46 6 va1 xs1.length (encs eO xs1),bigA (xs1.map obA)]) hf hS rfl rfl rfl T_size_24 rfl rfl rfl (Nat.le_of_ble_eq_true rfl) rfl rfl ?_
        clear hS; intro w hS
        refine O.nil ?_
        refine k_seq ?_
        replace hf:Fr a 161 [] [(0,vl),(3,.bool true),(4,va1),(6,.int .i64 (i:Int)),(7,.int .i64 (k:Int)),(8,.pointer (some ⟨b_d9,0,none⟩)),(86,.bool false)]:=hf.to ⟨rfl,rfl,rfl,rfl,rfl,rfl,rfl,trivial⟩
        refine W.seq ?_
        refine W.regionL (l:=[0,1,2,3,4,5,6,7,8]) rfl ?_
        have hwho:whoM l ((xs1.getD i default).l.getD k default)=.ok p:=by rw [hxl]; exact ap_who hm hpS (by rw [← hxl]; omega)
        have hlt1:0<k→befM ((xs1.getD i default).l.getD (k-1) default) ((xs1.getD i default).l.getD k default)<0∧((xs1.getD i default).l.getD k default).num≤0:=fun h=>by rw [hxl]; exact ap_lt hr hm hpS h (by rw [← hxl]; omega)
        refine O.val hf rfl rfl rfl (RunV.move rfl) ?_
        clear hf a; intro a hf
        refine O.val hf rfl rfl rfl (RunV.loadN (cs':=#[.int .i64 (((xs1.getD i default).l.getD k default).num),.int .i64 (((xs1.getD i default).l.getD k default).yr),.int .u8 (((xs1.getD i default).l.getD k default).half),.int .u8 (((xs1.getD i default).l.getD k default).sec),.int .i64 (((xs1.getD i default).l.getD k default).cyc)]) T_agg_24 T_size_24 rfl (hS.ptAt (i:=0) rfl) (Nat.le_of_ble_eq_true rfl) rfl) ?_
        clear hf a; intro a hf
        refine O.callR hf rfl rfl rfl (RunE.call (av:=#[vl,dV ((xs1.getD i default).l.getD k default)]) C_ok_19 rfl rfl rfl) (whoO vl l ((xs1.getD i default).l.getD k default) _ (hS.bptO (i:=0) rfl) (hS.rdAt (j:=1) rfl) hfit p hwho) ?_
        clear hf a
        rintro ov w10 hS1 a hf
        replace hf:Fr a _ _ ((108,.tuple #[.agg #[.int .i64 (((sortDs p.1).getD 0 default).num),.int .i64 (((sortDs p.1).getD 0 default).yr),.int .u8 (((sortDs p.1).getD 0 default).half),.int .u8 (((sortDs p.1).getD 0 default).sec),.int .i64 (((sortDs p.1).getD 0 default).cyc),ov],.int .i64 0])::_):=hf
        replace hS:=(hS.call hS1).eqM (N:=[sl 24 5 ov ((sortDs p.1).length) (encs eD (sortDs p.1)),pt b_d9 (.cells #[.int .i64 (((xs1.getD i default).l.getD k default).num),.int .i64 (((xs1.getD i default).l.getD k default).yr),.int .u8 (((xs1.getD i default).l.getD k default).half),.int .u8 (((xs1.getD i default).l.getD k default).sec),.int .i64 (((xs1.getD i default).l.getD k default).cyc)] 24 (0,0)),sl 46 6 va1 xs1.length (encs eO xs1),bigA (xs1.map obA)]) rfl
        clear hS1
        refine O.val hf rfl rfl rfl (RunV.move rfl) ?_
        clear hf a; intro a hf
        refine O.val hf rfl rfl rfl (RunV.extract rfl rfl) ?_
        clear hf a; intro a hf
        refine O.val hf rfl rfl rfl (RunV.extract rfl rfl) ?_
        clear hf a; intro a hf
        refine O.alloc (cs:=#[.int .i64 0,.int .i64 0,.int .u8 0,.int .u8 0,.int .i64 0,.slice none 0 0]) hf hS rfl rfl T_zero_46 rfl ?_
        clear hf hS a; intro b_o11 w a hbb_o11 hS hf
        have hcl12:=rdOK.cells (hS.slr (j:=1) rfl)
        refine O.store (j:=0) (cs':=#[.int .i64 (((sortDs p.1).getD 0 default).num),.int .i64 (((sortDs p.1).getD 0 default).yr),.int .u8 (((sortDs p.1).getD 0 default).half),.int .u8 (((sortDs p.1).getD 0 default).sec),.int .i64 (((sortDs p.1).getD 0 default).cyc),ov]) (M':=[pt b_o11 (.cells #[.int .i64 (((sortDs p.1).getD 0 default).num),.int .i64 (((sortDs p.1).getD 0 default).yr),.int .u8 (((sortDs p.1).getD 0 default).half),.int .u8 (((sortDs p.1).getD 0 default).sec),.int .i64 (((sortDs p.1).getD 0 default).cyc),ov] 46 (0,0)),sl 24 5 ov ((sortDs p.1).length) (encs eD (sortDs p.1)),pt b_d9 (.cells #[.int .i64 (((xs1.getD i default).l.getD k default).num),.int .i64 (((xs1.getD i default).l.getD k default).yr),.int .u8 (((xs1.getD i default).l.getD k default).half),.int .u8 (((xs1.getD i default).l.getD k default).sec),.int .i64 (((xs1.getD i default).l.getD k default).cyc)] 24 (0,0)),sl 46 6 va1 xs1.length (encs eO xs1),bigA (xs1.map obA)]) hf hS rfl rfl rfl T_size_46 rfl (oneCells_cc rfl (oneCells_cc rfl (oneCells_cc rfl (oneCells_cc rfl (oneCells_cc rfl (oneCells_cc hcl12.2 rfl)))))) rfl (Nat.le_of_ble_eq_true rfl) rfl rfl ?_
        clear hS; intro w hS
        refine O.val hf rfl rfl rfl (RunV.assign rfl) ?_
        clear hf a; intro a hf
        refine O.nil ?_
        refine k_seq ?_
        replace hf:Fr a 161 [] [(0,vl),(3,.bool true),(4,va1),(6,.int .i64 (i:Int)),(7,.int .i64 (k:Int)),(8,.pointer (some ⟨b_d9,0,none⟩)),(9,.pointer (some ⟨b_o11,0,none⟩)),(10,.int .i64 0),(86,.bool false)]:=hf.to ⟨rfl,rfl,rfl,rfl,rfl,rfl,rfl,rfl,rfl,trivial⟩
        refine W.seq ?_
        refine W.drawQ (fun w=>St w0 w noX [ordA,rdv 12 vl l.length (encs eC l)] [pt b_o11 (.cells #[.int .i64 (((sortDs p.1).getD 0 default).num),.int .i64 (((sortDs p.1).getD 0 default).yr),.int .u8 (((sortDs p.1).getD 0 default).half),.int .u8 (((sortDs p.1).getD 0 default).sec),.int .i64 (((sortDs p.1).getD 0 default).cyc),ov] 46 (0,0)),sl 24 5 ov ((sortDs p.1).length) (encs eD (sortDs p.1)),pt b_d9 (.cells #[.int .i64 (((xs1.getD i default).l.getD k default).num),.int .i64 (((xs1.getD i default).l.getD k default).yr),.int .u8 (((xs1.getD i default).l.getD k default).half),.int .u8 (((xs1.getD i default).l.getD k default).sec),.int .i64 (((xs1.getD i default).l.getD k default).cyc)] 24 (0,0)),sl 46 6 va1 xs1.length (encs eO xs1),bigA (xs1.map obA)]) P_mixed rfl (by kernel_rfl) rfl hS.drew ?_
        clear hS
        refine OQ.val (v:=.int .i64 (k:Int)) hf rfl (fun w hS=>RunV.move rfl) ?_; clear hf a; intro a hf
        refine OQ.val (v:=.bool (decide ((k:Int)>(0:Int)))) hf rfl (fun w hS=>RunV.gtr rfl rfl) ?_; clear hf a; intro a hf
        refine OQ.val (v:=.bool (decide ((k:Int)>(0:Int)))) hf rfl (fun w hS=>RunV.move rfl) ?_; clear hf a; intro a hf
        refine OQ.cutK (K':=fun a=>Fr a 161 [] [(0,vl),(3,.bool true),(4,va1),(6,.int .i64 (i:Int)),(7,.int .i64 (k:Int)),(8,.pointer (some ⟨b_d9,0,none⟩)),(9,.pointer (some ⟨b_o11,0,none⟩)),(10,.int .i64 0),(86,.bool false),(111,.int .i64 (k:Int)),(112,.bool (decide ((k:Int)>(0:Int)))),(113,.bool (decide ((k:Int)>(0:Int)))),(131,.bool ((decide ((k:Int)>(0:Int)))&&(decide ((((xs1.getD i default).l.getD k default).num)>(0:Int)))))]) 18 ?_ ?_
        · rcases Bool.eq_false_or_eq_true (decide ((k:Int)>(0:Int))) with hb13 | hb13
          · have hb13p:=of_decide_eq_true hb13
            refine OQ.gval (v:=va1) hf rfl rfl hb13 rfl (fun w hS=>RunV.move rfl) ?_; clear hf a; intro a hf
            refine OQ.gval (v:=.int .i64 (i:Int)) hf rfl rfl hb13 rfl (fun w hS=>RunV.move rfl) ?_; clear hf a; intro a hf
            refine OQ.gval (v:=ix va1 (i*6)) hf rfl rfl hb13 rfl (fun w hS=>RunV.ixV (j:=i) (m:=i*6) T_elem_39 T_size_46 rfl rfl (hS.slr (j:=3) rfl) rfl (by omega) rfl) ?_; clear hf a; intro a hf
            refine OQ.gval (v:=ix va1 (i*6+5)) hf rfl rfl hb13 rfl (fun w hS=>RunV.ixF T_field_46_1 rfl (hS.slr (j:=3) rfl) (by omega) rfl) ?_; clear hf a; intro a hf
            refine OQ.gval (v:=(xs1.getD i default).v) hf rfl rfl hb13 rfl (fun w hS=>RunV.ldG2 (j:=i) (o:=5) (sz:=6) (enc:=eO) (l:=xs1) T_agg_35 eO_len rfl (hS.slr (j:=3) rfl) (by omega) rfl rfl) ?_; clear hf a; intro a hf
            refine OQ.gval (v:=.int .i64 (k:Int)) hf rfl rfl hb13 rfl (fun w hS=>RunV.move rfl) ?_; clear hf a; intro a hf
            refine OQ.gval (v:=.int .i64 ((k:Int)-1)) hf rfl rfl hb13 rfl (fun w hS=>RunV.subI rfl rfl (by omega)) ?_; clear hf a; intro a hf
            refine OQ.gval (v:=ix ((xs1.getD i default).v) ((k-1)*5)) hf rfl rfl hb13 rfl (fun w hS=>RunV.ixV (j:=(k-1)) (m:=(k-1)*5) T_elem_35 T_size_24 rfl rfl ((hS.obOwn (i:=4) rfl).at (k:=i) (by omega)) (by omega) (by omega) rfl) ?_; clear hf a; intro a hf
            refine OQ.gval (v:=.agg #[.int .i64 (((xs1.getD i default).l.getD (k-1) default).num),.int .i64 (((xs1.getD i default).l.getD (k-1) default).yr),.int .u8 (((xs1.getD i default).l.getD (k-1) default).half),.int .u8 (((xs1.getD i default).l.getD (k-1) default).sec),.int .i64 (((xs1.getD i default).l.getD (k-1) default).cyc)]) hf rfl rfl hb13 rfl (fun w hS=>RunV.ldG (j:=(k-1)) (enc:=eD) (l:=(xs1.getD i default).l) (us:=[.int .i64 (((xs1.getD i default).l.getD (k-1) default).num),.int .i64 (((xs1.getD i default).l.getD (k-1) default).yr),.int .u8 (((xs1.getD i default).l.getD (k-1) default).half),.int .u8 (((xs1.getD i default).l.getD (k-1) default).sec),.int .i64 (((xs1.getD i default).l.getD (k-1) default).cyc)]) T_agg_24 T_size_24 rfl eD_len rfl ((hS.obOwn (i:=4) rfl).at (k:=i) (by omega)) (by omega) rfl) ?_; clear hf a; intro a hf
            refine OQ.gval (v:=.agg #[.int .i64 (((xs1.getD i default).l.getD k default).num),.int .i64 (((xs1.getD i default).l.getD k default).yr),.int .u8 (((xs1.getD i default).l.getD k default).half),.int .u8 (((xs1.getD i default).l.getD k default).sec),.int .i64 (((xs1.getD i default).l.getD k default).cyc)]) hf rfl rfl hb13 rfl (fun w hS=>RunV.loadN (cs':=#[.int .i64 (((xs1.getD i default).l.getD k default).num),.int .i64 (((xs1.getD i default).l.getD k default).yr),.int .u8 (((xs1.getD i default).l.getD k default).half),.int .u8 (((xs1.getD i default).l.getD k default).sec),.int .i64 (((xs1.getD i default).l.getD k default).cyc)]) T_agg_24 T_size_24 rfl (hS.ptAt (i:=2) rfl) (Nat.le_of_ble_eq_true rfl) rfl) ?_; clear hf a; intro a hf
            refine OQ.gcallRq (v:=.int .i64 (befM ((xs1.getD i default).l.getD (k-1) default) ((xs1.getD i default).l.getD k default))) hf rfl rfl hb13 rfl (fun w hS=>RunE.call (av:=#[.agg #[.int .i64 (((xs1.getD i default).l.getD (k-1) default).num),.int .i64 (((xs1.getD i default).l.getD (k-1) default).yr),.int .u8 (((xs1.getD i default).l.getD (k-1) default).half),.int .u8 (((xs1.getD i default).l.getD (k-1) default).sec),.int .i64 (((xs1.getD i default).l.getD (k-1) default).cyc)],.agg #[.int .i64 (((xs1.getD i default).l.getD k default).num),.int .i64 (((xs1.getD i default).l.getD k default).yr),.int .u8 (((xs1.getD i default).l.getD k default).half),.int .u8 (((xs1.getD i default).l.getD k default).sec),.int .i64 (((xs1.getD i default).l.getD k default).cyc)]]) C_ok_18 rfl rfl rfl) (fun w hS=>bef_spec ((xs1.getD i default).l.getD (k-1) default) ((xs1.getD i default).l.getD k default) _) ?_; clear hf a; intro a hf
            refine OQ.gval (v:=.bool (decide ((befM ((xs1.getD i default).l.getD (k-1) default) ((xs1.getD i default).l.getD k default))≥(0:Int)))) hf rfl rfl hb13 rfl (fun w hS=>RunV.geq rfl rfl) ?_; clear hf a; intro a hf
            refine OQ.gval (v:=.bool (decide ((befM ((xs1.getD i default).l.getD (k-1) default) ((xs1.getD i default).l.getD k default))≥(0:Int)))) hf rfl rfl hb13 rfl (fun w hS=>RunV.move rfl) ?_; clear hf a; intro a hf
            have hbg:(decide ((befM ((xs1.getD i default).l.getD (k-1) default) ((xs1.getD i default).l.getD k default))≥(0:Int)))=false:=decide_eq_false (by have:=(hlt1 (by omega)).1; omega)
            simp only [hbg] at hf; clear hbg
            refine OQ.gval (v:=.pointer (some ⟨b_d9,0,none⟩)) hf rfl rfl rfl rfl (fun w hS=>RunV.field T_field_24_0 rfl rfl) ?_; clear hf a; intro a hf
            refine OQ.gval (v:=.int .i64 (((xs1.getD i default).l.getD k default).num)) hf rfl rfl rfl rfl (fun w hS=>RunV.load1 T_agg_3 rfl (hS.ptAt (i:=2) rfl) rfl) ?_; clear hf a; intro a hf
            refine OQ.gval (v:=.bool (decide ((((xs1.getD i default).l.getD k default).num)>(0:Int)))) hf rfl rfl rfl rfl (fun w hS=>RunV.gtr rfl rfl) ?_; clear hf a; intro a hf
            refine OQ.gval (v:=.bool (decide ((((xs1.getD i default).l.getD k default).num)>(0:Int)))) hf rfl rfl hb13 rfl (fun w hS=>RunV.pick rfl rfl rfl rfl) ?_; clear hf a; intro a hf
            refine OQ.val (v:=.bool ((decide ((k:Int)>(0:Int)))&&(decide ((((xs1.getD i default).l.getD k default).num)>(0:Int))))) hf rfl (fun w hS=>RunV.pick rfl rfl rfl (by rw [hb13]; rfl)) ?_; clear hf a; intro a hf
            exact OQ.nil (hf.to ⟨rfl,rfl,rfl,rfl,rfl,rfl,rfl,rfl,rfl,rfl,rfl,rfl,rfl,trivial⟩)
          · have hb13p:=of_decide_eq_false hb13
            refine OQ.skipB hf rfl rfl hb13 rfl ?_; clear hf a; intro a hf
            refine OQ.skipB hf rfl rfl hb13 rfl ?_; clear hf a; intro a hf
            refine OQ.skipB hf rfl rfl hb13 rfl ?_; clear hf a; intro a hf
            refine OQ.skipB hf rfl rfl hb13 rfl ?_; clear hf a; intro a hf
            refine OQ.skipB hf rfl rfl hb13 rfl ?_; clear hf a; intro a hf
            refine OQ.skipB hf rfl rfl hb13 rfl ?_; clear hf a; intro a hf
            refine OQ.skipB hf rfl rfl hb13 rfl ?_; clear hf a; intro a hf
            refine OQ.skipB hf rfl rfl hb13 rfl ?_; clear hf a; intro a hf
            refine OQ.skipB hf rfl rfl hb13 rfl ?_; clear hf a; intro a hf
            refine OQ.skipB hf rfl rfl hb13 rfl ?_; clear hf a; intro a hf
            refine OQ.skipB hf rfl rfl hb13 rfl ?_; clear hf a; intro a hf
            refine OQ.skipB hf rfl rfl hb13 rfl ?_; clear hf a; intro a hf
            refine OQ.skipB hf rfl rfl hb13 rfl ?_; clear hf a; intro a hf
            refine OQ.skipU hf rfl rfl rfl ?_; clear hf a; intro a hf
            refine OQ.skipU hf rfl rfl rfl ?_; clear hf a; intro a hf
            refine OQ.skipU hf rfl rfl rfl ?_; clear hf a; intro a hf
            refine OQ.skipB hf rfl rfl hb13 rfl ?_; clear hf a; intro a hf
            refine OQ.val (v:=.bool ((decide ((k:Int)>(0:Int)))&&(decide ((((xs1.getD i default).l.getD k default).num)>(0:Int))))) hf rfl (fun w hS=>RunV.pick rfl rfl rfl (by rw [hb13]; rfl)) ?_; clear hf a; intro a hf
            exact OQ.nil (hf.to ⟨rfl,rfl,rfl,rfl,rfl,rfl,rfl,rfl,rfl,rfl,rfl,rfl,rfl,trivial⟩)
        clear hf a; intro a hf
        refine OQ.val (v:=.bool ((decide ((k:Int)>(0:Int)))&&(decide ((((xs1.getD i default).l.getD k default).num)>(0:Int))))) hf rfl (fun w hS=>RunV.move rfl) ?_; clear hf a; intro a hf
        have hbg:((decide ((k:Int)>(0:Int)))&&(decide ((((xs1.getD i default).l.getD k default).num)>(0:Int))))=false:=(dec_and fun h=>by have:=(hlt1 (by omega)).2; omega)
        simp only [hbg] at hf; clear hbg
        refine OQ.gval (v:=.int .i64 0) hf rfl rfl rfl rfl (fun w hS=>RunV.move rfl) ?_; clear hf a; intro a hf
        refine OQ.gval (v:=.bool false) hf rfl rfl rfl rfl (fun w hS=>RunV.toB (c:=false) (RunV.neq rfl rfl) (by decide)) ?_; clear hf a; intro a hf
        refine OQ.val (v:=.bool false) hf rfl (fun w hS=>RunV.pick rfl rfl rfl rfl) ?_; clear hf a; intro a hf
        refine OQ.val (v:=.bool false) hf rfl (fun w hS=>RunV.move rfl) ?_; clear hf a; intro a hf
        refine OQ.gval (v:=.agg #[.int .i64 (((sortDs p.1).getD 0 default).num),.int .i64 (((sortDs p.1).getD 0 default).yr),.int .u8 (((sortDs p.1).getD 0 default).half),.int .u8 (((sortDs p.1).getD 0 default).sec),.int .i64 (((sortDs p.1).getD 0 default).cyc),ov]) hf rfl rfl rfl rfl (fun w hS=>RunV.loadN (cs':=#[.int .i64 (((sortDs p.1).getD 0 default).num),.int .i64 (((sortDs p.1).getD 0 default).yr),.int .u8 (((sortDs p.1).getD 0 default).half),.int .u8 (((sortDs p.1).getD 0 default).sec),.int .i64 (((sortDs p.1).getD 0 default).cyc),ov]) T_agg_46 T_size_46 rfl (hS.ptAt (i:=0) rfl) (Nat.le_of_ble_eq_true rfl) rfl) ?_; clear hf a; intro a hf
        refine OQ.gval (v:=va1) hf rfl rfl rfl rfl (fun w hS=>RunV.move rfl) ?_; clear hf a; intro a hf
        refine OQ.gval (v:=.int .i64 (i:Int)) hf rfl rfl rfl rfl (fun w hS=>RunV.move rfl) ?_; clear hf a; intro a hf
        refine OQ.gval (v:=ix va1 (i*6)) hf rfl rfl rfl rfl (fun w hS=>RunV.ixV (j:=i) (m:=i*6) T_elem_39 T_size_46 rfl rfl (hS.slr (j:=3) rfl) rfl (by omega) rfl) ?_; clear hf a; intro a hf
        refine OQ.gval (v:=.agg #[.int .i64 ((xs1.getD i default).p.num),.int .i64 ((xs1.getD i default).p.yr),.int .u8 ((xs1.getD i default).p.half),.int .u8 ((xs1.getD i default).p.sec),.int .i64 ((xs1.getD i default).p.cyc),(xs1.getD i default).v]) hf rfl rfl rfl rfl (fun w hS=>RunV.ldG (j:=i) (enc:=eO) (l:=xs1) (us:=[.int .i64 ((xs1.getD i default).p.num),.int .i64 ((xs1.getD i default).p.yr),.int .u8 ((xs1.getD i default).p.half),.int .u8 ((xs1.getD i default).p.sec),.int .i64 ((xs1.getD i default).p.cyc),(xs1.getD i default).v]) T_agg_46 T_size_46 rfl eO_len rfl (hS.slr (j:=3) rfl) (by omega) rfl) ?_; clear hf a; intro a hf
        refine OQ.gcallRq (v:=.bool true) hf rfl rfl rfl rfl (fun w hS=>RunE.call (av:=#[.agg #[.int .i64 (((sortDs p.1).getD 0 default).num),.int .i64 (((sortDs p.1).getD 0 default).yr),.int .u8 (((sortDs p.1).getD 0 default).half),.int .u8 (((sortDs p.1).getD 0 default).sec),.int .i64 (((sortDs p.1).getD 0 default).cyc),ov],.agg #[.int .i64 ((xs1.getD i default).p.num),.int .i64 ((xs1.getD i default).p.yr),.int .u8 ((xs1.getD i default).p.half),.int .u8 ((xs1.getD i default).p.sec),.int .i64 ((xs1.getD i default).p.cyc),(xs1.getD i default).v]]) C_ok_20 rfl rfl rfl) (fun w hS=>sameObject_true ((sortDs p.1).getD 0 default) (xs1.getD i default).p ov (xs1.getD i default).v (sortDs p.1) (xs1.getD i default).l _ (hS.slr (j:=1) rfl) ((hS.obOwn (i:=4) rfl).at (by omega)) ⟨hxp.symm,hxl.symm⟩) ?_; clear hf a; intro a hf
        refine OQ.gval (v:=.bool false) hf rfl rfl rfl rfl (fun w hS=>RunV.not (b:=true) rfl) ?_; clear hf a; intro a hf
        refine OQ.val (v:=.bool false) hf rfl (fun w hS=>RunV.pick rfl rfl rfl rfl) ?_; clear hf a; intro a hf
        refine OQ.nil ?_; intro w hS
        refine k_seq ?_
        replace hf:Fr a 161 [] [(0,vl),(3,.bool true),(4,va1),(6,.int .i64 (i:Int)),(7,.int .i64 (k:Int)),(8,.pointer (some ⟨b_d9,0,none⟩)),(9,.pointer (some ⟨b_o11,0,none⟩)),(10,.int .i64 0),(86,.bool false),(144,.bool false)]:=hf.to ⟨rfl,rfl,rfl,rfl,rfl,rfl,rfl,rfl,rfl,rfl,trivial⟩
        refine W.if_ff hf rfl ?_
        refine W.skip ?_
        refine k_blk_normal ?_
        refine k_seq ?_
        refine W.regionL (l:=[0,1,2]) rfl ?_
        refine O.val hf rfl rfl rfl (RunV.move rfl) ?_
        clear hf a; intro a hf
        refine O.val hf rfl rfl rfl (RunV.addI rfl rfl (by omega)) ?_
        clear hf a; intro a hf
        refine O.val hf rfl rfl rfl (RunV.assign rfl) ?_
        clear hf a; intro a hf
        refine O.nil ?_
        replace hS:=hS.sub (N:=[sl 46 6 va1 xs1.length (encs eO xs1),bigA (xs1.map obA)]) (.cons _ (.cons _ (.cons _ (.cons_cons _ (.cons_cons _ .slnil)))))
        refine k_then ⟨(k+1),⟨hf.to ⟨rfl,rfl,rfl,rfl,(by first | rfl | exact congrArg some (congrArg (Value.int _) (by omega))),rfl,trivial⟩,?_,?_⟩,?_⟩
        · exact hS.eqM rfl
        · omega
        · dsimp only; omega
      · refine W.exit ?_
        refine k_then_exit ?_
        refine k_then_exit ?_
        refine k_blk ?_
        refine k_blk_normal ?_
        refine k_seq ?_
        refine W.regionL (l:=[0,1,2]) rfl ?_
        refine O.val hf rfl rfl rfl (RunV.move rfl) ?_
        clear hf a; intro a hf
        refine O.val hf rfl rfl rfl (RunV.addI rfl rfl (by omega)) ?_
        clear hf a; intro a hf
        refine O.val hf rfl rfl rfl (RunV.assign rfl) ?_
        clear hf a; intro a hf
        refine O.nil ?_
        refine k_then ⟨(i+1),⟨hf.to ⟨rfl,rfl,rfl,(by first | rfl | exact congrArg some (congrArg (Value.int _) (by omega))),trivial⟩,?_,?_⟩,?_⟩
        · exact hS.eqM rfl
        · omega
        · dsimp only; omega
    · refine W.exit ?_
      refine k_then_exit ?_
      refine k_then_exit ?_
      refine k_blk ?_
      refine k_seq ?_
      replace hf:Fr a 161 [] [(0,vl),(3,.bool true)]:=hf.to ⟨rfl,rfl,trivial⟩
      refine W.seq ?_
      refine W.seq ?_
      refine W.regionL (l:=[0]) rfl ?_
      refine O.val hf rfl rfl rfl (RunV.assign rfl) ?_
      clear hf a; intro a hf
      refine O.nil ?_
      refine k_seq ?_
      refine W.block ?_
      refine W.loop (G:=(Nat)) (fun g a w=>match g with | j=>Fr a 161 [] [(0,vl),(3,.bool true),(11,.int .i64 (j:Int))]∧St w0 w noX [ordA,rdv 12 vl l.length (encs eC l)] [sl 46 6 va1 xs1.length (encs eO xs1),bigA (xs1.map obA)]∧(j≤l.length)) (fun g=>match g with | j=>l.length-j) 0 ?_ ?_
      · refine ⟨hf.to ⟨rfl,rfl,(by first | rfl | exact congrArg some (congrArg (Value.int _) (by omega))),trivial⟩,hS,?_⟩
        · omega
      clear hf hS a
      rintro j a w ⟨hf,hS,hj⟩
      refine W.seq ?_
      refine W.seq ?_
      refine W.regionL (l:=[0,1,2,3]) rfl ?_
      refine O.val hf rfl rfl rfl (RunV.move rfl) ?_
      clear hf a; intro a hf
      refine O.val hf rfl rfl rfl (RunV.move rfl) ?_
      clear hf a; intro a hf
      refine O.val hf rfl rfl rfl (RunV.lenV (e:=26) (by simpa using T_elem_22) rfl (hS.rdAt (j:=1) rfl)) ?_
      clear hf a; intro a hf
      refine O.val (v:=.bool (decide ((j:Int)<((l.length:Int):Int)))) hf rfl rfl rfl (RunV.lss rfl rfl) ?_
      clear hf a; intro a hf
      refine O.nil ?_
      refine k_seq ?_
      replace hf:Fr a 161 [] [(0,vl),(3,.bool true),(11,.int .i64 (j:Int)),(148,.bool (decide ((j:Int)<((l.length:Int):Int))))]:=hf.to ⟨rfl,rfl,rfl,rfl,trivial⟩
      refine W.ifdI hf rfl (fun hc14=>?_) (fun hc14=>?_)
      · refine W.skip ?_
        refine k_seq ?_
        refine W.seq ?_
        refine W.block ?_
        refine W.seq ?_
        refine W.regionL (l:=[0,1,2,3,4,5,6,7,8]) rfl ?_
        obtain ⟨T,vs,hmj⟩:=ap_take hm (k:=j) (by omega)
        refine O.val hf rfl rfl rfl (RunV.move rfl) ?_
        clear hf a; intro a hf
        refine O.val hf rfl rfl rfl (RunV.move rfl) ?_
        clear hf a; intro a hf
        refine O.val (v:=(vsub 12 vl 0 (j:Int))) hf rfl rfl rfl (RunV.sliceH T_elem_22 T_size_26 rfl rfl (enc:=eC) (l:=l) ⟨hS.rdAt (j:=1) rfl,hfit⟩ ⟨by omega,by omega,by omega⟩) ?_
        clear hf a; intro a hf
        refine O.callR hf rfl rfl rfl (RunE.call (av:=#[(vsub 12 vl 0 (j:Int))]) C_ok_16 rfl rfl rfl) (run_ok (vsub 12 vl 0 (j:Int)) (l.take j) _ (hS.bptO (i:=0) rfl) (take_rd (hS.rdAt (j:=1) rfl) hfit (by omega)) (take_fit (hS.rdAt (j:=1) rfl) hfit (by omega)) _ _ hmj) ?_
        clear hf a
        rintro ⟨va2,xs2⟩ w15 ⟨hS1,hxs2⟩ a hf
        replace hf:Fr a _ _ ((155,.tuple #[va2,.int .i64 0])::_):=hf
        replace hS:=(hS.call hS1).eqM (N:=[sl 46 6 va2 xs2.length (encs eO xs2),bigA (xs2.map obA),sl 46 6 va1 xs1.length (encs eO xs1),bigA (xs1.map obA)]) rfl
        clear hS1
        refine O.val hf rfl rfl rfl (RunV.move rfl) ?_
        clear hf a; intro a hf
        refine O.val hf rfl rfl rfl (RunV.extract rfl rfl) ?_
        clear hf a; intro a hf
        refine O.val hf rfl rfl rfl (RunV.extract rfl rfl) ?_
        clear hf a; intro a hf
        refine O.val hf rfl rfl rfl (RunV.assign rfl) ?_
        clear hf a; intro a hf
        refine O.val hf rfl rfl rfl (RunV.assign rfl) ?_
        clear hf a; intro a hf
        refine O.nil ?_
        refine k_seq ?_
        replace hf:Fr a 161 [] [(0,vl),(3,.bool true),(11,.int .i64 (j:Int)),(13,.int .i64 0)]:=hf.to ⟨rfl,rfl,rfl,rfl,trivial⟩
        refine W.seq ?_
        refine W.regionL (l:=[0,1]) rfl ?_
        refine O.val hf rfl rfl rfl (RunV.move rfl) ?_
        clear hf a; intro a hf
        refine O.val hf rfl rfl rfl (RunV.toB (c:=false) (RunV.neq rfl rfl) (by decide)) ?_
        clear hf a; intro a hf
        refine O.nil ?_
        refine k_seq ?_
        replace hf:Fr a 161 [] [(0,vl),(3,.bool true),(11,.int .i64 (j:Int)),(13,.int .i64 0),(159,.bool false)]:=hf.to ⟨rfl,rfl,rfl,rfl,rfl,trivial⟩
        refine W.if_ff hf rfl ?_
        refine W.skip ?_
        refine k_blk_normal ?_
        refine k_seq ?_
        refine W.regionL (l:=[0,1,2]) rfl ?_
        refine O.val hf rfl rfl rfl (RunV.move rfl) ?_
        clear hf a; intro a hf
        refine O.val hf rfl rfl rfl (RunV.addI rfl rfl (by omega)) ?_
        clear hf a; intro a hf
        refine O.val hf rfl rfl rfl (RunV.assign rfl) ?_
        clear hf a; intro a hf
        refine O.nil ?_
        replace hS:=hS.sub (N:=[sl 46 6 va1 xs1.length (encs eO xs1),bigA (xs1.map obA)]) (.cons _ (.cons _ (.cons_cons _ (.cons_cons _ .slnil))))
        refine k_then ⟨(j+1),⟨hf.to ⟨rfl,rfl,(by first | rfl | exact congrArg some (congrArg (Value.int _) (by omega))),trivial⟩,?_,?_⟩,?_⟩
        · exact hS.eqM rfl
        · omega
        · dsimp only; omega
      · refine W.exit ?_
        refine k_then_exit ?_
        refine k_then_exit ?_
        refine k_blk ?_
        refine k_seq ?_
        replace hf:Fr a 161 [] [(3,.bool true)]:=hf.to ⟨rfl,trivial⟩
        refine W.seq ?_
        refine W.regionL (l:=[0,1]) rfl ?_
        refine O.val hf rfl rfl rfl (RunV.move rfl) ?_
        clear hf a; intro a hf
        refine O.val hf rfl rfl rfl (RunV.assign rfl) ?_
        clear hf a; intro a hf
        refine O.nil ?_
        refine k_seq ?_
        replace hf:Fr a 161 [] [(2,.bool true)]:=hf.to ⟨rfl,trivial⟩
        refine W.ret ?_
        refine post1 hf rfl (ResOK.tmp rfl) ?_
        exact ⟨(),rfl,hS.sub (List.nil_sublist _) |>.noB⟩
theorem apart_spec (vl:Value) (l:List Ch) (w0:World) (hG:Lent w0 ordA) (hl:rdOK (hp w0) 12 vl l.length (encs eC l)) (hfit:vfit vl) (hr:∀ c ∈ l,rC c) :
    Ret Tryd.prog 5 #[vl] w0 (G:=Unit) (fun _=>.bool true) (fun _ w=>St w0 w noX [] []):=by
  cases h:(greatM l.length||decide ((l.length:Int)>25)) with
  | true=>exact apart_out vl l w0 hG hl hfit h
  | false =>
    simp only [Bool.or_eq_false_iff,decide_eq_false_iff_not] at h
    exact apart_in vl l w0 hG hl hfit hr (by omega)
end Go.Proofs.YtgakdmmmljdpjaaDoor

namespace Go.SL
open Go Go.ChangeShapes Go.WideShapes Go.ChangeAt Go.RowKit
inductive LK where
  | int (k:IntKind)
  | bool
  | str
def LK.ok:LK→Value→Prop
  | .int k,v=>∃ n,v=.int k n∧(Lit.int k n).wf=true
  | .bool,v=>∃ b,v=.bool b
  | .str,v=>∃ s:ByteArray,v=.string s∧s.size≤maxLen
def AllK:List LK→List Value→Prop
  | [],cs=>cs=[]
  | k::ks,cs=>∃ v t,cs=v::t∧k.ok v∧AllK ks t
theorem AllK.app:∀ {ks ks':List LK} {a b:List Value},AllK ks a→AllK ks' b→AllK (ks++ks') (a++b)
  | [],_,a,b,h1,h2=>by
    have h1:a=[]:=h1
    subst h1; exact h2
  | k::ks,_,a,b,⟨v,t,h1,h2,h3⟩,h4=>by
    subst h1
    exact ⟨v,t++b,rfl,h2,AllK.app h3 h4⟩
def leafFs (P:Program) (f:TypeId→Option (List LK)):List Field→Nat→Option (List LK × Nat)
  | [],o=>some ([],o)
  | g::t,o=>if Nat.beq g.offset o=true then
      match f g.type with
      | some ks=>if Nat.beq ks.length (P.cellsOf g.type)=true then
          match leafFs P f t (o+ks.length) with
          | some (r,o')=>some (ks++r,o')
          | none=>none
        else none
      | none=>none
    else none
def leafK (P:Program):Nat→TypeId→Option (List LK)
  | 0,_=>none
  | d+1,t=>match P.underlying t with
    | some (.int k)=>some [.int k]
    | some .bool=>some [.bool]
    | some .string=>some [.str]
    | some (.struct fs)=>match leafFs P (leafK P d) fs.toList 0 with
      | some (ks,o)=>if Nat.beq o (P.cellsOf t)=true then some ks else none
      | none=>none
    | some (.array n e)=>match leafK P d e with
      | some ks=>if (Nat.beq ks.length (P.cellsOf e)&&Nat.beq (n*ks.length) (P.cellsOf t))=true then some (List.replicate n ks).flatten else none
      | none=>none
    | _=>none
section
variable {H:Type} {enc:TypeId × Value→H} {P:Program} {w:World} {base:Nat} {spare:Nat→Bool} {held:Bool}
theorem leafFs_ok {f:TypeId→Option (List LK)} {cs:List Value} (hf:∀ t ks,f t=some ks→∀ cs,(∃ (n:Nat) (x:DataW H × List MemPlace),DataW.trod enc P w base spare held n t cs=some x)→AllK ks cs) :
    ∀ (fs:List Field) (o:Nat) (ks:List LK) (o':Nat),leafFs P f fs o=some (ks,o')→(∀ g ∈ fs,∃ (n:Nat) (x:DataW H × List MemPlace),DataW.trod enc P w base spare held n g.type ((cs.drop g.offset).take (P.cellsOf g.type))=some x)→o'=cs.length→AllK ks (cs.drop o)
  | [],o,ks,o',h,_,ho=>by
    simp only [leafFs,Option.some.injEq,Prod.mk.injEq] at h
    obtain ⟨rfl,rfl⟩:=h
    subst ho
    show cs.drop cs.length=[]
    simp
  | g::t,o,ks,o',h,hg,ho=>by
    simp only [leafFs] at h
    split at h
    · rename_i hgo
      have hgo:=Nat.eq_of_beq_eq_true hgo
      split at h
      · rename_i k1 hk1
        split at h
        · rename_i hlen
          have hlen:=Nat.eq_of_beq_eq_true hlen
          split at h
          · rename_i r o2 hr
            simp only [Option.some.injEq,Prod.mk.injEq] at h
            obtain ⟨rfl,rfl⟩:=h
            have h2:=leafFs_ok hf t _ _ _ hr (fun g' hg'=>hg g' (by simp [hg'])) ho
            have h1:=hf _ _ hk1 _ (hg g (by simp))
            rw [hgo,← hlen] at h1
            have e:cs.drop o=(cs.drop o).take k1.length++cs.drop (o+k1.length):=by
              rw [← List.drop_drop,List.take_append_drop]
            rw [e]
            exact h1.app h2
          · cases h
        · cases h
      · cases h
    · cases h
theorem arr_ok {ks:List LK} {cs:List Value} {m:Nat} (hm:ks.length=m) (n:Nat) (hc:cs.length=n*m) (h:∀ i,i<n→AllK ks ((cs.drop (i*m)).take m)):∀ j,j≤n→AllK (List.replicate (n-j) ks).flatten (cs.drop (j*m)):=by
  intro j hj
  obtain ⟨q,hq⟩:∃ q,q=n-j:=⟨_,rfl⟩
  induction q generalizing j with
  | zero =>
    have:j=n:=by omega
    subst this
    rw [Nat.sub_self]
    show cs.drop (j*m)=[]
    rw [← hc]; simp
  | succ q ih =>
    have h1:=ih (j+1) (by omega) (by omega)
    have e:n-j=(n-(j+1))+1:=by omega
    rw [e,List.replicate_succ,List.flatten_cons]
    have e2:cs.drop (j*m)=(cs.drop (j*m)).take m++cs.drop ((j+1)*m):=by
      rw [Nat.add_mul,Nat.one_mul,← List.drop_drop,List.take_append_drop]
    rw [e2]
    exact (h j (by omega)).app h1
theorem leafK_ok:∀ (d:Nat) (t:TypeId) (ks:List LK),leafK P d t=some ks→∀ cs,(∃ (n:Nat) (x:DataW H × List MemPlace),DataW.trod enc P w base spare held n t cs=some x)→AllK ks cs
  | 0,t,ks,h,_,_=>by simp [leafK] at h
  | d+1,t,ks,h,cs,⟨n,x,hx⟩=>by
    have ih:=leafK_ok d
    simp only [leafK] at h
    split at h
    · rename_i k hk
      simp only [Option.some.injEq] at h
      subst h
      obtain ⟨z,rfl,_,hw⟩:=DataW.trod_int hk hx
      exact ⟨_,[],rfl,⟨z,rfl,hw⟩,rfl⟩
    · rename_i hk
      simp only [Option.some.injEq] at h
      subst h
      obtain ⟨z,rfl,_⟩:=DataW.trod_bool hk hx
      exact ⟨_,[],rfl,⟨z,rfl⟩,rfl⟩
    · rename_i hk
      simp only [Option.some.injEq] at h
      subst h
      obtain ⟨z,rfl,_,hw⟩:=DataW.trod_string hk hx
      exact ⟨_,[],rfl,⟨z,rfl,hw⟩,rfl⟩
    · rename_i fs hk
      split at h
      · rename_i ks' o ho
        split at h
        · rename_i hoc
          have hoc:=Nat.eq_of_beq_eq_true hoc
          simp only [Option.some.injEq] at h
          subst h
          obtain ⟨xs,m,rfl,rfl,hl,hxl,hall⟩:=DataW.trod_struct hk hx
          have:=leafFs_ok (H:=H) (cs:=cs) (fun t ks h=>ih t ks h) fs.toList 0 ks' o ho (fun g hg=>?_) (hoc.trans hl.symm)
          · simpa using this
          · obtain ⟨i,hi⟩:=List.getElem?_of_mem hg
            have hi':fs[i]? = some g:=by simpa using hi
            have hlt:i<xs.length:=by rw [hxl]; exact (Array.getElem?_eq_some_iff.1 hi').1
            exact ⟨m,xs[i],by rw [hall i g hi',List.getElem?_eq_getElem hlt]⟩
        · cases h
      · cases h
    · rename_i q e hk
      split at h
      · rename_i ks' hks
        split at h
        · rename_i hc
          simp only [Bool.and_eq_true] at hc
          have hc1:=Nat.eq_of_beq_eq_true hc.1
          have hc2:=Nat.eq_of_beq_eq_true hc.2
          simp only [Option.some.injEq] at h
          subst h
          obtain ⟨xs,m,rfl,rfl,hl,hxl,hall⟩:=DataW.trod_array hk hx
          have:=arr_ok (m:=P.cellsOf e) hc1 q (by rw [hl,← hc2,hc1]) (fun i hi=>ih e ks' hks _ ⟨m,xs[i]'(by omega),by rw [hall i hi,List.getElem?_eq_getElem (by omega)]⟩) 0 (Nat.zero_le _)
          simpa using this
        · cases h
      · cases h
    · cases h
end
theorem Below.trodAll {H:Type} {enc:TypeId × Value→H} {P:Program} (hl:laidOutB P=true) {W W':World} (hb:RowKit.Below W.heap.size W W'):∀ (ts:List TypeId) (vs:List Value) (ds:List (DataW H)) (p:List MemPlace),
    (ts.all fun t=>P.readableRec t&&Nat.blt t P.types.size)=true→DataW.TrodAll enc P W 0 (fun _=>true) true ts vs ds p→(∀ x ∈ p,x.block<W.heap.size)→DataW.TrodAll enc P W' 0 (fun b=>decide (b<W.heap.size)) true ts vs ds p
  | [],[],[],p,_,h,_=>h
  | [],[],_::_,p,_,h,_=>by simp [DataW.TrodAll] at h
  | [],_::_,_,p,_,h,_=>by simp [DataW.TrodAll] at h
  | _::_,[],_,p,_,h,_=>by simp [DataW.TrodAll] at h
  | _::_,_::_,[],p,_,h,_=>by simp [DataW.TrodAll] at h
  | t::ts,v::vs,d::ds,p,ha,h,hlt=>by
    simp only [List.all_cons,Bool.and_eq_true] at ha
    obtain ⟨p1,p2,h1,h2,rfl⟩:=h
    exact ⟨p1,p2,RowKit.Below.trod hl ha.1.1 (by simpa using ha.1.2) h1 hb (fun x hx=>hlt x (List.mem_append_left _ hx)),Below.trodAll hl hb ts vs ds p2 ha.2 h2 (fun x hx=>hlt x (List.mem_append_right _ hx)),rfl⟩
theorem trodAll_uncons {H:Type} {enc:TypeId × Value→H} {P:Program} {w:World} {base:Nat} {spare:Nat→Bool} {held:Bool} {t:TypeId} {ts:List TypeId} {args:List Value} {ds:List (DataW H)} {p:List MemPlace}
    (h:DataW.TrodAll enc P w base spare held (t::ts) args ds p):∃ v vs d ds' p1 p2,args=v::vs∧ds=d::ds'∧DataW.Trod enc P w base spare held t v d p1∧DataW.TrodAll enc P w base spare held ts vs ds' p2∧p=p1++p2:=by
  cases args with
  | nil=>simp [DataW.TrodAll] at h
  | cons v vs =>
    cases ds with
    | nil=>simp [DataW.TrodAll] at h
    | cons d ds' =>
      obtain ⟨p1,p2,h1,h2,rfl⟩:=h
      exact ⟨v,vs,d,ds',p1,p2,rfl,rfl,h1,h2,rfl⟩
theorem trodAll_unnil {H:Type} {enc:TypeId × Value→H} {P:Program} {w:World} {base:Nat} {spare:Nat→Bool} {held:Bool} {args:List Value} {ds:List (DataW H)} {p:List MemPlace}
    (h:DataW.TrodAll enc P w base spare held [] args ds p):args=[]∧ds=[]:=by
  cases args with
  | nil =>
    cases ds with
    | nil=>exact ⟨rfl,rfl⟩
    | cons=>simp [DataW.TrodAll] at h
  | cons=>simp [DataW.TrodAll] at h
end Go.SL

namespace Go.SL
open Go Go.Lib
theorem LaidVars_places {P:Program} {w:World}:∀ {l:List (String × DataW Unit)} {ps:List MemPlace},DataW.LaidVars P w l ps→∀ n d,(n,d) ∈ l →
    ∃ g t cs fuel p,P.globalNamed n=some g∧(P.globals[g]?).map (·.type)=some t∧w.var? P n=some cs∧DataW.trod (fun _=>()) P w 0 (fun _=>true) false fuel t cs.toList=some (d,p)∧∀ x ∈ MemPlace.row ⟨g,0,none⟩ cs.size,x ∈ ps
  | [],_,_,_,_,hm=>by cases hm
  | (n',d')::r,ps,h,n,d,hm=>by
    obtain ⟨g,t,cs,fuel,p,q,h1,h2,h3,h4,h5,h6⟩:=h
    rcases List.mem_cons.1 hm with e | e
    · cases e
      exact ⟨g,t,cs,fuel,p,h1,h2,h3,h4,fun x hx=>by rw [h6]; simp [hx]⟩
    · obtain ⟨g',t',cs',fuel',p',k1,k2,k3,k4,k5⟩:=LaidVars_places h5 n d e
      exact ⟨g',t',cs',fuel',p',k1,k2,k3,k4,fun x hx=>by rw [h6]; simp [k5 x hx]⟩
theorem laid_tab1 {P:Program} {W:World} {laid:List (String × DataW Unit)} {name:String} {g n:Nat} {t e:TypeId} {k:IntKind} {zs:List Int} (h:laidMet P laid W) (hm:(name,tabData k zs) ∈ laid)
    (hg:P.globalNamed name=some g) (hty:(P.globals[g]?).map (·.type)=some t) (ht:P.underlying t=some (.array n e)) (he:P.underlying e=some (.int k)) (hce:P.cellsOf e=1) (hct:P.cellsOf t=n)
    (h0:0<zs.length):∃ ty,W.heap[g]? = some (.cells (zs.map fun z=>Value.int k z).toArray ty (0,0)):=by
  obtain ⟨ps,hv,_,hcell⟩:=h
  obtain ⟨g',t',cs,fuel,p,h1,h2,h3,h4,h5⟩:=LaidVars_places hv _ _ hm
  obtain rfl:=Option.some.inj (hg.symm.trans h1)
  obtain rfl:=Option.some.inj (hty.symm.trans h2)
  have hcs:=cells_of_tab ht he hce hct h4
  have hsz:0<cs.size:=by
    have:=congrArg List.length hcs
    simp only [Array.length_toList,List.length_map] at this
    omega
  obtain ⟨⟨c,ty,hc⟩,_⟩:=hcell g 0 (h5 _ (by
    unfold MemPlace.row
    exact List.mem_map.2 ⟨0,List.mem_range.2 hsz,by simp⟩))
  refine ⟨ty,?_⟩
  unfold World.var? at h3
  rw [hg] at h3
  simp only [Option.bind_some,hc,Option.some.injEq] at h3
  rw [hc,h3,← hcs]
theorem ord_lent {w:World} (h:∃ ty,w.heap[0]? = some (.cells (ordsL.map fun z=>Value.int .i32 z).toArray ty (0,0))):Lent w ordA:=by
  obtain ⟨ty,h⟩:=h
  refine ⟨⟨ty,h⟩,fun k hk=>?_⟩
  have hk:k=0:=hk
  subst hk
  exact (Array.getElem?_eq_some_iff.1 h).1
end Go.SL

namespace Go.SL
open Go Go.ChangeShapes Go.WideShapes Go.ChangeAt Go.RowKit
theorem list_choose {α β:Type} {p:α→β→Prop}:∀ (l:List α),(∀ x ∈ l,∃ y,p x y)→∃ m:List β,m.length=l.length∧∀ (i:Nat) (x:α),l[i]? = some x→∃ y,m[i]? = some y∧p x y
  | [],_=>⟨[],rfl,fun i x h=>by simp at h⟩
  | a::t,h=>by
    obtain ⟨y,hy⟩:=h a (by simp)
    obtain ⟨m,h1,h2⟩:=list_choose t (fun x hx=>h x (by simp [hx]))
    refine ⟨y::m,by simp [h1],fun i x hx=>?_⟩
    cases i with
    | zero=>simp only [List.getElem?_cons_zero,Option.some.injEq] at hx; subst hx; exact ⟨y,rfl,hy⟩
    | succ i=>simpa using h2 i x (by simpa using hx)
section
variable {H:Type} {henc:TypeId × Value→H} {P:Program} {w:World} {spare:Nat→Bool} {held:Bool} {T:Type} {E:T→List Value} {ok:T→Prop} {sz:Nat}
theorem openSlE {t e:TypeId} {d:Nat} {ks:List LK} {v:Value} {dd:DataW H} {ps:List MemPlace} {r:Reach} {b0:Nat} (ht:P.underlying t=some (.slice e)) (hk:leafK P d e=some ks) (hc:P.cellsOf e=sz) (h0:0<sz) (hE:∀ cs,AllK ks cs→∃ x,cs=E x∧ok x) (hlen:∀ x,(E x).length=sz)
    (hval:Value.okWide P w r b0 t v) (h:DataW.Trod henc P w 0 spare held t v dd ps):∃ l:List T,rdEOK (hp w) sz E v l∧∀ x ∈ l,ok x:=by
  obtain ⟨fuel,hf⟩:=h
  obtain ⟨a0,len0,cap0,rfl⟩:=okWide_slice ht hval
  have hcs:(Value.slice a0 len0 cap0).cells.toList=[.slice a0 len0 cap0]:=rfl
  rw [hcs] at hf
  rcases DataW.trod_slice ht hf with ⟨h1,_⟩ | ⟨a,len,cap,elems,rest,n,rfl,h1,_,_,hl,hm,hel,hx,_⟩
  · have h1:(Value.slice a0 len0 cap0)=.slice none 0 0:=by simpa using h1
    rw [h1]
    exact ⟨[],rdEOK_nil,by simp⟩
  · have h1:(Value.slice a0 len0 cap0)=.slice (some a) len cap:=by simpa using h1
    rw [h1]
    rw [hc] at hx
    obtain ⟨l,hl1,hl2⟩:=list_choose (p:=fun i (x:T)=>ok x∧w.cells? 0 (a.add (i*sz)) sz=some (E x)) (List.range len) (fun i hi=>by
      have hi:=List.mem_range.1 hi
      have h2:=hx i hi
      obtain ⟨x,hx'⟩:∃ x,elems[i]? = some x:=⟨_,List.getElem?_eq_getElem (by omega)⟩
      rw [hx'] at h2
      obtain ⟨cs,h3,h4⟩:=Option.bind_eq_some_iff.1 h2
      obtain ⟨y,rfl,hy⟩:=hE cs (leafK_ok d e ks hk cs ⟨_,_,h4⟩)
      exact ⟨y,hy,h3⟩)
    rw [List.length_range] at hl1
    have hcell:∀ (i:Nat) (x:T),l[i]? = some x→ok x∧∀ (k:Nat) (u:Value),(E x)[k]? = some u→w.cell? (a.add (i*sz+k))=some u:=fun i x hxi=>by
      have hi:i<len:=by rw [← hl1]; exact (List.getElem?_eq_some_iff.1 hxi).1
      obtain ⟨y,hy,h5,h6⟩:=hl2 i i (by rw [List.getElem?_range hi])
      rw [hxi] at hy
      simp only [Option.some.injEq] at hy
      subst hy
      refine ⟨h5,fun k u hu=>?_⟩
      have h7:=World.cells?_some h6
      have hk':k<sz:=by rw [← hlen x]; exact (List.getElem?_eq_some_iff.1 hu).1
      have h8:=h7.2.2 k hk'
      rw [hu] at h8
      have ea:(a.add (i*sz)).add k=a.add (i*sz+k):=by
        generalize i*sz=q
        by_cases g1:q=0 <;> by_cases g2:k=0 <;> simp [Addr.add,g1,g2,Nat.add_assoc]
      rw [ea] at h8
      exact h8
    refine ⟨l,⟨⟨by rw [encs_len hlen],by omega,some a,cap,by rw [hl1],fun hn=>?_⟩,by show len≤cap; omega⟩,fun x hxm=>?_⟩
    · have hn':0<l.length:=hn
      obtain ⟨x0,hx0⟩:∃ x,l[0]? = some x:=⟨_,List.getElem?_eq_getElem hn'⟩
      obtain ⟨u0,hu0⟩:∃ u,(E x0)[0]? = some u:=⟨_,List.getElem?_eq_getElem (by rw [hlen]; exact h0)⟩
      have hc0:=(hcell 0 x0 hx0).2 0 u0 hu0
      unfold World.cell? at hc0
      cases hb:w.heap[a.block]? with
      | none=>simp [Addr.add,hb] at hc0
      | some o =>
        cases o with
        | cells cur e' z =>
          have hs:a.spot=none:=by
            cases hs:a.spot with
            | none=>rfl
            | some s=>simp [Addr.add,hb,hs] at hc0
          refine ⟨a,cur,e',z,rfl,hs,hb,fun j u hj=>?_⟩
          have hjl:j<l.length*sz:=by rw [← encs_len hlen]; exact (List.getElem?_eq_some_iff.1 hj).1
          have hjd:j=(j/sz)*sz+j % sz:=by rw [Nat.mul_comm]; exact (Nat.div_add_mod j sz).symm
          have hjr:=Nat.mod_lt j h0
          have hjq:j/sz<l.length:=Nat.div_lt_of_lt_mul (by rw [Nat.mul_comm]; exact hjl)
          obtain ⟨x,hxj⟩:∃ x,l[j/sz]? = some x:=⟨_,List.getElem?_eq_getElem hjq⟩
          rw [hjd,encs_get hlen hxj hjr] at hj
          have h9:=(hcell _ x hxj).2 _ u hj
          rw [← hjd] at h9
          have ea:a.add j=⟨a.block,a.off+j,none⟩:=by
            obtain ⟨b,o,sp⟩:=a
            simp only at hs
            subst hs
            simp [Addr.add]
          rw [ea] at h9
          unfold World.cell? at h9
          simpa [hb] using h9
        | _=>simp [Addr.add,hb] at hc0
    · obtain ⟨i,hi⟩:=List.getElem?_of_mem hxm
      exact (hcell i x hi).1
end
end Go.SL

namespace Go.Proofs.YtgakdmmmljdpjaaDoor
open Go Go.SL Go.ChangeShapes Go.WideShapes Go.ChangeAt Go.RowKit
theorem Tryd.own:ownKnob Tryd.prog.godebug=none:=by kernel_rfl
theorem Tryd.laidOut:laidOutB Tryd.prog=true:=by kernel_rfl
theorem leaf26:leafK Tryd.prog 6 26=some [.int .u8,.int .i64,.int .i64,.int .u8,.int .u8,.int .i64,.int .i64,.int .i64,.int .u8,.int .u8,.int .i64,.int .i64]:=by kernel_rfl
theorem size26:Tryd.prog.cellsOf 26=12:=by kernel_rfl
theorem slice22:Tryd.prog.underlying 22=some (.slice 26):=by kernel_rfl
theorem change_open (cs:List Value) (h:AllK [.int .u8,.int .i64,.int .i64,.int .u8,.int .u8,.int .i64,.int .i64,.int .i64,.int .u8,.int .u8,.int .i64,.int .i64] cs):∃ x:Ch,cs=eC x∧rC x:=by
  obtain ⟨_,_,rfl,⟨x0,rfl,w0⟩,_,_,rfl,⟨x1,rfl,w1⟩,_,_,rfl,⟨x2,rfl,w2⟩,_,_,rfl,⟨x3,rfl,w3⟩,_,_,rfl,⟨x4,rfl,w4⟩,_,_,rfl,⟨x5,rfl,w5⟩,_,_,rfl,⟨x6,rfl,w6⟩,_,_,rfl,⟨x7,rfl,w7⟩,_,_,rfl,⟨x8,rfl,w8⟩,_,_,rfl,⟨x9,rfl,w9⟩,_,_,rfl,⟨x10,rfl,w10⟩,_,_,rfl,⟨x11,rfl,w11⟩,rfl⟩:=h
  exact ⟨⟨x0,⟨x1,x2,x3,x4,x5⟩,⟨x6,x7,x8,x9,x10⟩,x11⟩,rfl,⟨⟨wfB w3,wfB w4⟩,wfB w8,wfB w9⟩⟩
theorem door_met (os:Os) (args:Array Value):laidMetH Tryd.prog Rows.mergeApartRow.laid ((World.laidAll Tryd.prog os Rows.mergeApartRow.laid).forCall (fun _ _=>0) ⟨#[],args,[]⟩).memory:=by
  rw [MakeChecks.laidMetH_plain _ _ _ (by kernel_rfl)]
  exact laidMet_laidAll _ (by kernel_rfl) (by kernel_rfl)
set_option maxRecDepth 100000 in
theorem mergeApart_lifted (os:Os) (started:os.Started) (H:Type) (enc:TypeId × Value→H) :
    ReturnsInHanded {} Tryd.checked os 5 .any (fun w args=>(Rows.mergeApartSpec.pre enc Tryd.prog Tryd.f5 [] false w args∧laidMetH Tryd.prog Rows.mergeApartRow.laid w)∧sizedMet enc Tryd.prog Tryd.f5 (OpenSpec.ofChange Rows.mergeApartSpec) false w args) (Rows.mergeApartSpec.post enc Tryd.prog Tryd.f5 false true false false):=by
  refine returnsInHanded_of_change_and (C:=Tryd.checked) (X:=fun w _=>laidMetH Tryd.prog Rows.mergeApartRow.laid w) (fun _ _ _ hh h=>h.of_heap hh) Tryd.own started (by kernel_rfl) Tryd.func5
    (ChangeSpec.witness_shaped (enc:=enc) (C:=Tryd.checked) (os:=os) (X:=fun w _=>laidMetH Tryd.prog Rows.mergeApartRow.laid w) false (World.laidAll Tryd.prog os Rows.mergeApartRow.laid) #[.slice none 0 0] 8 rfl (World.shaped_of_ZipB (by kernel_rfl) (by kernel_rfl)) (by kernel_rfl) (by kernel_rfl) (by kernel_rfl) (door_met os _)) ?_
  intro W base args ds gs before hval0 hW _ _ hL _
  have hval:∀ (j:Nat) t v,Tryd.f5.params[j]? = some t→args[j]? = some v→Value.okWide Tryd.prog W .any base t v:=hval0
  have hW':=hW
  obtain ⟨p,q,hA0,hV,rfl,hfz,hnd⟩:=hW
  have hA:DataW.TrodAll enc Tryd.prog W 0 (fun _=>true) true [22] args.toList ds p:=hA0
  obtain ⟨rfl,rfl⟩:=trodVars_none hV
  have hA':=hA
  obtain ⟨v1,a1_,d1,ds1,p1,q1,e1,rfl,t1,hB1,rfl⟩:=trodAll_uncons hA
  obtain ⟨rfl,rfl⟩:=trodAll_unnil hB1
  obtain rfl:args=#[v1]:=by
    apply Array.ext'
    simpa using e1
  obtain ⟨l,hl,hlr⟩:=openSlE (E:=eC) (ok:=rC) slice22 leaf26 size26 (by decide) change_open eC_len (hval 0 22 v1 rfl rfl) t1
  have hlm:laidMet Tryd.prog Rows.mergeApartRow.laid W:=by
    have h:=hL
    rw [MakeChecks.laidMetH_plain _ _ _ (by kernel_rfl)] at h; exact h
  have hord:=ord_lent (laid_tab1 (k:=.i32) (zs:=ordsL) (name:="planisphere/desig.orders") (g:=0) (n:=25) hlm (by simp [Rows.mergeApartRow,Rows.laid_planisphere_desig_orders,ordsL,Go.Lib.tabData]) (by kernel_rfl) (t:=123) (by kernel_rfl) (e:=21) (by kernel_rfl) (by kernel_rfl) (by kernel_rfl) (by kernel_rfl) (by decide))
  refine Calls.mono (apart_spec v1 l W hord hl.1 hl.2 hlr) fun e W' ⟨_,he,hS⟩=>?_
  subst he
  have hb:RowKit.Below W.heap.size W W':=⟨hS.os,hS.tape,hS.output,hS.size,fun k hk=>hS.old k hk (fun h=>h)⟩
  refine ⟨_,rfl,_,_,_,[],(p1++q1),[],hW',trodAll_mk1 (shut_bool Tryd.underlying4 true),?_,?_,hb.frame _,fun h=>by cases h⟩
  · have hl:=hW'.lt
    simp only [List.append_nil] at hl
    exact Below.trodAll Tryd.laidOut hb _ _ _ _ (by kernel_rfl) hA' (fun x hx=>hl x (by simpa using hx))
  · rfl
theorem mergeApart_holds:Rows.MergeApartSaid :=
  OpenClaim.holds_of_wide 5 Tryd.f5 rfl rfl rfl rfl rfl rfl rfl ⟨rfl,rfl,rfl,rfl,rfl⟩ rfl rfl rfl rfl rfl (by kernel_rfl) Tryd.func5 (by kernel_rfl)
    (of_decide_eq_true (by kernel_rfl)) (by unfold Func.isWrapper; first | (rw [if_pos (by decide +kernel)]; kernel_rfl) | (rw [if_neg (by decide +kernel)]; exact ⟨rfl,rfl⟩))
    (fun os started H enc _=>mergeApart_lifted os started H enc)
end Go.Proofs.YtgakdmmmljdpjaaDoor

namespace Go.Proofs.YtgakdmmmljdpjaaDoor
open Go
theorem mergeApartCard_holds:Rows.MergeApartCardSaid :=
  Claim7.holds_tied_plain_at .later [] [.widerDeep] true (true,"b28cc4a234fc7c383bd42b9b5f7d4e425b70887cab9b5ce3da3221e733787fae") true
    mergeApart_holds (fun _ h=>by cases h) (by kernel_rfl) (fun _ h=>by cases h) mergeApart_row_tie rfl ⟨rfl,rfl⟩ (by kernel_rfl) rfl
    (fun f fn hf hfn=>by
      obtain rfl:f=5:=Option.some.inj ((show Tryd.prog.funcNamed "planisphere/planispherelaw41.MergeApart"=some 5 by kernel_rfl).symm.trans hf) |>.symm
      obtain rfl:fn=Tryd.f5:=(Option.some.inj (Tryd.func5.symm.trans hfn)).symm
      exact ⟨by kernel_rfl,fun j t ht=>by
        rw [show Tryd.f5.params=#[22] by kernel_rfl] at ht
        rcases j with _ | j
        · simp at ht; subst ht; kernel_rfl
        · simp at ht⟩)
    (by kernel_rfl)
end Go.Proofs.YtgakdmmmljdpjaaDoor
