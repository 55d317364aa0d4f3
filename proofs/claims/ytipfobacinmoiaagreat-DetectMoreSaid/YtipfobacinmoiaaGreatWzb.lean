/- Part of a proof: walks printed by a program. -/
import Derived.Test.YtipfobacinmoiaaGreatWza
set_option linter.unusedVariables false
set_option linter.unusedSimpArgs false
namespace Go.Proofs.YtipfobacinmoiaaGreat
open Go Go.SL Go.Shelf Go.RowKit Go.Maps
set_option maxHeartbeats 400000 in
set_option maxRecDepth 4000 in
theorem more_good (fW fH:Nat) (thr more least:Int) (vP vB:Value) (zs:List Int) (bs:List Bool) (w0:World) (hfo:Det.fieldOK fW fH zs) (hn:zs.length=fW*fH) (hbl:bs.length=zs.length) (hsz:zs.length≤100) (hm0:0≤more∧more≤8589934592) (ht0:-8589934592≤thr∧thr≤8589934592) (hP:rdOK (hp w0) 1 vP zs.length (ints zs)) (hB:rdOK (hp w0) 1 vB bs.length (bools bs)) (ht:-4294967296≤thr∧thr≤4294967296) (htm:-4294967296≤thr+more∧thr+more≤4294967296) (hle:1≤least) :
    Ret Tryz.prog 6 #[.agg #[.int .i64 (fW:Int),.int .i64 (fH:Int),vP],vB,.int .i64 thr,.int .i64 more,.int .i64 least] w0 (G:=Unit) (fun _=>.bool true) (fun _ w=>St w0 w noX [] []):=by
  refine ret_of_W (lv:=[.agg #[.int .i64 (fW:Int),.int .i64 (fH:Int),vP],vB,.int .i64 thr,.int .i64 more,.int .i64 least]) Tryz.func6 rfl rfl rfl (fun a hf=>?_)
  replace hf:Fr a 147 [] [(0,.agg #[.int .i64 (fW:Int),.int .i64 (fH:Int),vP]),(1,vB),(2,.int .i64 thr),(3,.int .i64 more),(4,.int .i64 least)]:=hf
  have hS:St w0 w0 noX [rdv 1 vP zs.length (ints zs),rdv 1 vB bs.length (bools bs)] []:=((St.refl w0).lend0 hB).lend0 hP
  have hW:1≤fW∧fW≤100:=by have h:=hfo; unfold Det.fieldOK at h; omega
  have hH:1≤fH∧fH≤100:=by have h:=hfo; unfold Det.fieldOK at h; omega
  have hBl:∀ t,(Det.bright zs bs t (fW*fH)).length=fW*fH:=fun t=>Det.bright_len _
  haveI:Decidable (Det.fieldOK fW fH zs):=.isTrue hfo
  have hst:(if Det.fieldOK (fW:Int) (fH:Int) zs then (if bs.length=zs.length then 0 else 2) else 8:Int)=0:=by rw [if_pos hfo,if_pos hbl]
  refine W.seq ?_
  refine W.regionL (l:=[0,1]) rfl ?_
  refine O.box (cs:=#[.int .i64 (fW:Int),.int .i64 (fH:Int),vP]) hf hS rfl rfl rfl rfl ?_
  clear hf hS a; intro b_f1 w a hbb_f1 hS hf
  refine O.val hf rfl rfl rfl (RunV.assign rfl) ?_
  clear hf a; intro a hf
  refine O.nil ?_
  refine k_seq ?_
  replace hf:Fr a 147 [] [(1,vB),(2,.int .i64 thr),(3,.int .i64 more),(4,.int .i64 least),(5,.pointer (some ⟨b_f1,0,none⟩)),(10,.bool false)]:=hf.to ⟨rfl,rfl,rfl,rfl,rfl,rfl,trivial⟩
  refine W.seq ?_
  refine W.regionL (l:=[0,1]) rfl ?_
  refine O.callR hf rfl rfl rfl (RunE.call (av:=#[]) C_ok_15 rfl rfl rfl) (alive_spec _) ?_
  clear hf a
  rintro _ w2 hS1 a hf
  replace hf:Fr a _ _ ((22,.bool true)::_):=hf
  replace hS:=(hS.call hS1).eqM (N:=[pt b_f1 (.cells #[.int .i64 (fW:Int),.int .i64 (fH:Int),vP] 24 (0,0))]) rfl
  clear hS1
  refine O.val hf rfl rfl rfl (RunV.assign rfl) ?_
  clear hf a; intro a hf
  refine O.nil ?_
  refine k_seq ?_
  replace hf:Fr a 147 [] [(1,vB),(2,.int .i64 thr),(3,.int .i64 more),(4,.int .i64 least),(5,.pointer (some ⟨b_f1,0,none⟩)),(10,.bool false),(11,.bool true)]:=hf.to ⟨rfl,rfl,rfl,rfl,rfl,rfl,rfl,trivial⟩
  refine W.seq ?_
  refine W.seq ?_
  refine W.regionL (l:=[0,1,2,3,4,5,6,7,8,9,10,11,12,13,14,15,16,17,18,19,20,21,22,23,24,25,26,27,28]) rfl ?_
  refine O.val hf rfl rfl rfl (RunV.loadN (cs':=#[.int .i64 (fW:Int),.int .i64 (fH:Int),vP]) T_agg_24 T_size_24 rfl (hS.ptAt (i:=0) rfl) (Nat.le_of_ble_eq_true rfl) rfl) ?_
  clear hf a; intro a hf
  refine O.val hf rfl rfl rfl (RunV.move rfl) ?_
  clear hf a; intro a hf
  refine O.callR hf rfl rfl rfl (RunE.call (av:=#[.agg #[.int .i64 (fW:Int),.int .i64 (fH:Int),vP],vB]) C_ok_8 rfl rfl rfl) (great_spec fW fH vP vB zs bs _ (hS.rdAt (j:=0) rfl) (hS.rdAt (j:=1) rfl)) ?_
  clear hf a
  rintro _ w3 hS1 a hf
  replace hf:Fr a _ _ ((25,.bool (decide ((zs.length:Int)>100)||decide ((bs.length:Int)>120)))::_):=hf
  replace hS:=(hS.call hS1).eqM (N:=[pt b_f1 (.cells #[.int .i64 (fW:Int),.int .i64 (fH:Int),vP] 24 (0,0))]) rfl
  clear hS1
  refine O.val hf rfl rfl rfl (RunV.move rfl) ?_
  clear hf a; intro a hf
  have hbg:(decide ((zs.length:Int)>100)||decide ((bs.length:Int)>120))=false:=(by simp; omega)
  simp only [hbg] at hf; clear hbg
  refine O.gvalB (v:=.agg #[.int .i64 (fW:Int),.int .i64 (fH:Int),vP]) hf rfl rfl rfl rfl rfl rfl (RunV.loadN (cs':=#[.int .i64 (fW:Int),.int .i64 (fH:Int),vP]) T_agg_24 T_size_24 rfl (hS.ptAt (i:=0) rfl) (Nat.le_of_ble_eq_true rfl) rfl) ?_
  clear hf a; intro a hf
  refine O.gvalB (v:=vB) hf rfl rfl rfl rfl rfl rfl (RunV.move rfl) ?_
  clear hf a; intro a hf
  refine O.gcallR hf rfl rfl rfl rfl rfl rfl (RunE.call (av:=#[.agg #[.int .i64 (fW:Int),.int .i64 (fH:Int),vP],vB]) C_ok_16 rfl rfl rfl) (start11_spec fW fH vP vB zs bs _ (hS.rdAt (j:=0) rfl) (hS.rdAt (j:=1) rfl)) ?_
  clear hf a
  rintro _ w4 hS1 a hf
  replace hf:Fr a _ _ ((29,.int .i64 (if Det.fieldOK (fW:Int) (fH:Int) zs then (if bs.length=zs.length then 0 else 2) else 8))::_):=hf
  replace hS:=(hS.call hS1).eqM (N:=[pt b_f1 (.cells #[.int .i64 (fW:Int),.int .i64 (fH:Int),vP] 24 (0,0))]) rfl
  clear hS1
  refine O.gvalB (v:=.bool (decide ((if Det.fieldOK (fW:Int) (fH:Int) zs then (if bs.length=zs.length then 0 else 2) else 8)≠(0:Int)))) hf rfl rfl rfl rfl rfl rfl (RunV.neq rfl rfl) ?_
  clear hf a; intro a hf
  refine O.val (v:=.bool (decide ((if Det.fieldOK (fW:Int) (fH:Int) zs then (if bs.length=zs.length then 0 else 2) else 8)≠(0:Int)))) hf rfl rfl rfl (RunV.pick rfl rfl rfl rfl) ?_
  clear hf a; intro a hf
  refine O.val hf rfl rfl rfl (RunV.move rfl) ?_
  clear hf a; intro a hf
  have hbg:(decide ((if Det.fieldOK (fW:Int) (fH:Int) zs then (if bs.length=zs.length then 0 else 2) else 8)≠(0:Int)))=false:=(by rw [hst]; rfl)
  simp only [hbg] at hf; clear hbg
  refine O.gvalB (v:=.int .i64 more) hf rfl rfl rfl rfl rfl rfl (RunV.move rfl) ?_
  clear hf a; intro a hf
  refine O.gvalB (v:=.bool (decide (more<(0:Int)))) hf rfl rfl rfl rfl rfl rfl (RunV.lss rfl rfl) ?_
  clear hf a; intro a hf
  refine O.val (v:=.bool (decide (more<(0:Int)))) hf rfl rfl rfl (RunV.pick rfl rfl rfl rfl) ?_
  clear hf a; intro a hf
  refine O.val hf rfl rfl rfl (RunV.move rfl) ?_
  clear hf a; intro a hf
  have hbg:(decide (more<(0:Int)))=false:=decide_eq_false (by omega)
  simp only [hbg] at hf; clear hbg
  refine O.gvalB (v:=.int .i64 more) hf rfl rfl rfl rfl rfl rfl (RunV.move rfl) ?_
  clear hf a; intro a hf
  refine O.gvalB (v:=.bool (decide (more>(8589934592:Int)))) hf rfl rfl rfl rfl rfl rfl (RunV.gtr rfl rfl) ?_
  clear hf a; intro a hf
  refine O.val (v:=.bool (decide (more>(8589934592:Int)))) hf rfl rfl rfl (RunV.pick rfl rfl rfl rfl) ?_
  clear hf a; intro a hf
  refine O.val hf rfl rfl rfl (RunV.move rfl) ?_
  clear hf a; intro a hf
  have hbg:(decide (more>(8589934592:Int)))=false:=decide_eq_false (by omega)
  simp only [hbg] at hf; clear hbg
  refine O.gvalB (v:=.int .i64 thr) hf rfl rfl rfl rfl rfl rfl (RunV.move rfl) ?_
  clear hf a; intro a hf
  refine O.gvalB (v:=.bool (decide (thr<(-8589934592:Int)))) hf rfl rfl rfl rfl rfl rfl (RunV.lss rfl rfl) ?_
  clear hf a; intro a hf
  refine O.val (v:=.bool (decide (thr<(-8589934592:Int)))) hf rfl rfl rfl (RunV.pick rfl rfl rfl rfl) ?_
  clear hf a; intro a hf
  refine O.val hf rfl rfl rfl (RunV.move rfl) ?_
  clear hf a; intro a hf
  have hbg:(decide (thr<(-8589934592:Int)))=false:=decide_eq_false (by omega)
  simp only [hbg] at hf; clear hbg
  refine O.gvalB (v:=.int .i64 thr) hf rfl rfl rfl rfl rfl rfl (RunV.move rfl) ?_
  clear hf a; intro a hf
  refine O.gvalB (v:=.bool (decide (thr>(8589934592:Int)))) hf rfl rfl rfl rfl rfl rfl (RunV.gtr rfl rfl) ?_
  clear hf a; intro a hf
  refine O.val (v:=.bool (decide (thr>(8589934592:Int)))) hf rfl rfl rfl (RunV.pick rfl rfl rfl rfl) ?_
  clear hf a; intro a hf
  refine O.val hf rfl rfl rfl (RunV.move rfl) ?_
  clear hf a; intro a hf
  have hbg:(decide (thr>(8589934592:Int)))=false:=decide_eq_false (by omega)
  simp only [hbg] at hf; clear hbg
  refine O.gvalB (v:=.bool true) hf rfl rfl rfl rfl rfl rfl (RunV.move rfl) ?_
  clear hf a; intro a hf
  refine O.gvalB (v:=.bool false) hf rfl rfl rfl rfl rfl rfl (RunV.not (b:=true) rfl) ?_
  clear hf a; intro a hf
  refine O.val (v:=.bool false) hf rfl rfl rfl (RunV.pick rfl rfl rfl rfl) ?_
  clear hf a; intro a hf
  refine O.nil ?_
  refine k_seq ?_
  replace hf:Fr a 147 [] [(1,vB),(2,.int .i64 thr),(3,.int .i64 more),(4,.int .i64 least),(5,.pointer (some ⟨b_f1,0,none⟩)),(10,.bool false),(11,.bool true),(51,.bool false)]:=hf.to ⟨rfl,rfl,rfl,rfl,rfl,rfl,rfl,rfl,trivial⟩
  refine W.if_ff hf rfl ?_
  refine W.skip ?_
  refine k_seq ?_
  replace hf:Fr a 147 [] [(1,vB),(2,.int .i64 thr),(3,.int .i64 more),(4,.int .i64 least),(5,.pointer (some ⟨b_f1,0,none⟩)),(10,.bool false),(11,.bool true)]:=hf.to ⟨rfl,rfl,rfl,rfl,rfl,rfl,rfl,trivial⟩
  refine W.seq ?_
  refine W.regionL (l:=[0,1,2,3,4,5,6,7,8,9]) rfl ?_
  refine O.val hf rfl rfl rfl (RunV.loadN (cs':=#[.int .i64 (fW:Int),.int .i64 (fH:Int),vP]) T_agg_24 T_size_24 rfl (hS.ptAt (i:=0) rfl) (Nat.le_of_ble_eq_true rfl) rfl) ?_
  clear hf a; intro a hf
  refine O.val hf rfl rfl rfl (RunV.move rfl) ?_
  clear hf a; intro a hf
  refine O.val hf rfl rfl rfl (RunV.move rfl) ?_
  clear hf a; intro a hf
  refine O.val hf rfl rfl rfl (RunV.move rfl) ?_
  clear hf a; intro a hf
  refine O.callR hf rfl rfl rfl (RunE.call (av:=#[.agg #[.int .i64 (fW:Int),.int .i64 (fH:Int),vP],vB,.int .i64 thr,.int .i64 least]) C_ok_17 rfl rfl rfl) (parts6_ok fW fH (thr) least vP vB zs bs _ hfo hn hbl ht hle (hS.rdAt (j:=0) rfl) (hS.rdAt (j:=1) rfl)) ?_
  clear hf a
  rintro ⟨va,vs⟩ w5 hS1 a hf
  replace hf:Fr a _ _ ((58,.tuple #[va,.int .i64 0])::_):=hf
  replace hS:=(hS.call hS1).eqM (N:=[sl 26 1 va vs.length vs,inn vs (Det.sets fW fH zs bs (thr) least),pt b_f1 (.cells #[.int .i64 (fW:Int),.int .i64 (fH:Int),vP] 24 (0,0))]) rfl
  clear hS1
  refine O.val hf rfl rfl rfl (RunV.move rfl) ?_
  clear hf a; intro a hf
  refine O.val hf rfl rfl rfl (RunV.extract rfl rfl) ?_
  clear hf a; intro a hf
  refine O.val hf rfl rfl rfl (RunV.extract rfl rfl) ?_
  clear hf a; intro a hf
  refine O.val hf rfl rfl rfl (RunV.assign rfl) ?_
  clear hf a; intro a hf
  refine O.val hf rfl rfl rfl (RunV.assign rfl) ?_
  clear hf a; intro a hf
  refine O.nil ?_
  refine k_seq ?_
  replace hf:Fr a 147 [] [(1,vB),(2,.int .i64 thr),(3,.int .i64 more),(4,.int .i64 least),(5,.pointer (some ⟨b_f1,0,none⟩)),(10,.bool false),(11,.bool true),(12,va),(13,.int .i64 0)]:=hf.to ⟨rfl,rfl,rfl,rfl,rfl,rfl,rfl,rfl,rfl,trivial⟩
  refine W.seq ?_
  refine W.regionL (l:=[0,1,2,3,4,5,6,7,8,9,10,11]) rfl ?_
  refine O.val hf rfl rfl rfl (RunV.loadN (cs':=#[.int .i64 (fW:Int),.int .i64 (fH:Int),vP]) T_agg_24 T_size_24 rfl (hS.ptAt (i:=2) rfl) (Nat.le_of_ble_eq_true rfl) rfl) ?_
  clear hf a; intro a hf
  refine O.val hf rfl rfl rfl (RunV.move rfl) ?_
  clear hf a; intro a hf
  refine O.val hf rfl rfl rfl (RunV.move rfl) ?_
  clear hf a; intro a hf
  refine O.val hf rfl rfl rfl (RunV.move rfl) ?_
  clear hf a; intro a hf
  refine O.val hf rfl rfl rfl (RunV.addI rfl rfl (by omega)) ?_
  clear hf a; intro a hf
  refine O.val hf rfl rfl rfl (RunV.move rfl) ?_
  clear hf a; intro a hf
  refine O.callR hf rfl rfl rfl (RunE.call (av:=#[.agg #[.int .i64 (fW:Int),.int .i64 (fH:Int),vP],vB,.int .i64 (thr+more),.int .i64 least]) C_ok_17 rfl rfl rfl) (parts6_ok fW fH (thr+more) least vP vB zs bs _ hfo hn hbl htm hle (hS.rdAt (j:=0) rfl) (hS.rdAt (j:=1) rfl)) ?_
  clear hf a
  rintro ⟨vc,us⟩ w6 hS1 a hf
  replace hf:Fr a _ _ ((68,.tuple #[vc,.int .i64 0])::_):=hf
  replace hS:=(hS.call hS1).eqM (N:=[sl 26 1 vc us.length us,inn us (Det.sets fW fH zs bs (thr+more) least),sl 26 1 va vs.length vs,inn vs (Det.sets fW fH zs bs (thr) least),pt b_f1 (.cells #[.int .i64 (fW:Int),.int .i64 (fH:Int),vP] 24 (0,0))]) rfl
  clear hS1
  refine O.val hf rfl rfl rfl (RunV.move rfl) ?_
  clear hf a; intro a hf
  refine O.val hf rfl rfl rfl (RunV.extract rfl rfl) ?_
  clear hf a; intro a hf
  refine O.val hf rfl rfl rfl (RunV.extract rfl rfl) ?_
  clear hf a; intro a hf
  refine O.val hf rfl rfl rfl (RunV.assign rfl) ?_
  clear hf a; intro a hf
  refine O.val hf rfl rfl rfl (RunV.assign rfl) ?_
  clear hf a; intro a hf
  refine O.nil ?_
  refine k_seq ?_
  replace hf:Fr a 147 [] [(4,.int .i64 least),(5,.pointer (some ⟨b_f1,0,none⟩)),(10,.bool false),(11,.bool true),(12,va),(13,.int .i64 0),(14,vc),(15,.int .i64 0)]:=hf.to ⟨rfl,rfl,rfl,rfl,rfl,rfl,rfl,rfl,trivial⟩
  refine W.seq ?_
  refine W.seq ?_
  refine W.regionL (l:=[0,1,2,3,4,5]) rfl ?_
  refine O.val hf rfl rfl rfl (RunV.move rfl) ?_
  clear hf a; intro a hf
  refine O.val hf rfl rfl rfl (RunV.toB (c:=false) (RunV.neq rfl rfl) (by decide)) ?_
  clear hf a; intro a hf
  refine O.val hf rfl rfl rfl (RunV.move rfl) ?_
  clear hf a; intro a hf
  refine O.gvalB (v:=.int .i64 0) hf rfl rfl rfl rfl rfl rfl (RunV.move rfl) ?_
  clear hf a; intro a hf
  refine O.gvalB (v:=.bool false) hf rfl rfl rfl rfl rfl rfl (RunV.toB (c:=false) (RunV.neq rfl rfl) (by decide)) ?_
  clear hf a; intro a hf
  refine O.val (v:=.bool false) hf rfl rfl rfl (RunV.pick rfl rfl rfl rfl) ?_
  clear hf a; intro a hf
  refine O.nil ?_
  refine k_seq ?_
  replace hf:Fr a 147 [] [(4,.int .i64 least),(5,.pointer (some ⟨b_f1,0,none⟩)),(10,.bool false),(11,.bool true),(12,va),(14,vc),(76,.bool false)]:=hf.to ⟨rfl,rfl,rfl,rfl,rfl,rfl,rfl,trivial⟩
  refine W.if_ff hf rfl ?_
  refine W.skip ?_
  refine k_seq ?_
  replace hf:Fr a 147 [] [(4,.int .i64 least),(5,.pointer (some ⟨b_f1,0,none⟩)),(10,.bool false),(11,.bool true),(12,va),(14,vc)]:=hf.to ⟨rfl,rfl,rfl,rfl,rfl,rfl,trivial⟩
  refine W.seq ?_
  refine W.regionL (l:=[0,1,2,3,4,5,6,7,8]) rfl ?_
  refine O.val hf rfl rfl rfl (RunV.loadN (cs':=#[.int .i64 (fW:Int),.int .i64 (fH:Int),vP]) T_agg_24 T_size_24 rfl (hS.ptAt (i:=4) rfl) (Nat.le_of_ble_eq_true rfl) rfl) ?_
  clear hf a; intro a hf
  refine O.val hf rfl rfl rfl (RunV.move rfl) ?_
  clear hf a; intro a hf
  refine O.val hf rfl rfl rfl (RunV.move rfl) ?_
  clear hf a; intro a hf
  refine O.callR hf rfl rfl rfl (RunE.call (av:=#[.agg #[.int .i64 (fW:Int),.int .i64 (fH:Int),vP],va,.int .i64 least]) C_ok_18 rfl rfl rfl) (owners_spec fW fH least vP va zs vs (Det.sets fW fH zs bs (thr) least) _ hW hH hn (hS.rdAt (j:=0) rfl) (hS.slr (j:=2) rfl) (hS.innAt (j:=3) rfl) (Det.sets_good (hBl _) rfl) (Det.sets_rng (hBl _) rfl) (Det.sets_apart (hBl _) rfl)) ?_
  clear hf a
  rintro vo w7 hS1 a hf
  replace hf:Fr a _ _ ((82,.tuple #[vo,.bool true])::_):=hf
  replace hS:=(hS.call hS1).eqM (N:=[sl 3 1 vo ((Det.own (fW*fH) (Det.sets fW fH zs bs (thr) least) (Det.sets fW fH zs bs (thr) least).length).length) (ints (Det.own (fW*fH) (Det.sets fW fH zs bs (thr) least) (Det.sets fW fH zs bs (thr) least).length)),sl 26 1 vc us.length us,inn us (Det.sets fW fH zs bs (thr+more) least),sl 26 1 va vs.length vs,inn vs (Det.sets fW fH zs bs (thr) least),pt b_f1 (.cells #[.int .i64 (fW:Int),.int .i64 (fH:Int),vP] 24 (0,0))]) rfl
  clear hS1
  refine O.val hf rfl rfl rfl (RunV.move rfl) ?_
  clear hf a; intro a hf
  refine O.val hf rfl rfl rfl (RunV.extract rfl rfl) ?_
  clear hf a; intro a hf
  refine O.val hf rfl rfl rfl (RunV.extract rfl rfl) ?_
  clear hf a; intro a hf
  refine O.val hf rfl rfl rfl (RunV.assign rfl) ?_
  clear hf a; intro a hf
  refine O.val hf rfl rfl rfl (RunV.assign rfl) ?_
  clear hf a; intro a hf
  refine O.nil ?_
  obtain ⟨of,hof⟩:∃ z,z=(Det.own (fW*fH) (Det.sets fW fH zs bs (thr) least) (Det.sets fW fH zs bs (thr) least).length):=⟨_,rfl⟩
  rw [← hof] at hS
  have hlof:of.length=fW*fH:=by rw [hof]; exact Det.own_len _
  refine k_seq ?_
  replace hf:Fr a 147 [] [(4,.int .i64 least),(5,.pointer (some ⟨b_f1,0,none⟩)),(10,.bool false),(11,.bool true),(14,vc),(16,vo),(17,.bool true)]:=hf.to ⟨rfl,rfl,rfl,rfl,rfl,rfl,rfl,trivial⟩
  refine W.seq ?_
  refine W.regionL (l:=[0,1,2,3,4,5,6,7,8]) rfl ?_
  refine O.val hf rfl rfl rfl (RunV.loadN (cs':=#[.int .i64 (fW:Int),.int .i64 (fH:Int),vP]) T_agg_24 T_size_24 rfl (hS.ptAt (i:=5) rfl) (Nat.le_of_ble_eq_true rfl) rfl) ?_
  clear hf a; intro a hf
  refine O.val hf rfl rfl rfl (RunV.move rfl) ?_
  clear hf a; intro a hf
  refine O.val hf rfl rfl rfl (RunV.move rfl) ?_
  clear hf a; intro a hf
  refine O.callR hf rfl rfl rfl (RunE.call (av:=#[.agg #[.int .i64 (fW:Int),.int .i64 (fH:Int),vP],vc,.int .i64 least]) C_ok_18 rfl rfl rfl) (owners_spec fW fH least vP vc zs us (Det.sets fW fH zs bs (thr+more) least) _ hW hH hn (hS.rdAt (j:=0) rfl) (hS.slr (j:=1) rfl) (hS.innAt (j:=2) rfl) (Det.sets_good (hBl _) rfl) (Det.sets_rng (hBl _) rfl) (Det.sets_apart (hBl _) rfl)) ?_
  clear hf a
  rintro vq w8 hS1 a hf
  replace hf:Fr a _ _ ((89,.tuple #[vq,.bool true])::_):=hf
  replace hS:=(hS.call hS1).eqM (N:=[sl 3 1 vq ((Det.own (fW*fH) (Det.sets fW fH zs bs (thr+more) least) (Det.sets fW fH zs bs (thr+more) least).length).length) (ints (Det.own (fW*fH) (Det.sets fW fH zs bs (thr+more) least) (Det.sets fW fH zs bs (thr+more) least).length)),sl 3 1 vo of.length (ints of),sl 26 1 vc us.length us,inn us (Det.sets fW fH zs bs (thr+more) least),sl 26 1 va vs.length vs,inn vs (Det.sets fW fH zs bs (thr) least),pt b_f1 (.cells #[.int .i64 (fW:Int),.int .i64 (fH:Int),vP] 24 (0,0))]) rfl
  clear hS1
  refine O.val hf rfl rfl rfl (RunV.move rfl) ?_
  clear hf a; intro a hf
  refine O.val hf rfl rfl rfl (RunV.extract rfl rfl) ?_
  clear hf a; intro a hf
  refine O.val hf rfl rfl rfl (RunV.extract rfl rfl) ?_
  clear hf a; intro a hf
  refine O.val hf rfl rfl rfl (RunV.assign rfl) ?_
  clear hf a; intro a hf
  refine O.val hf rfl rfl rfl (RunV.assign rfl) ?_
  clear hf a; intro a hf
  refine O.nil ?_
  have hul:=(hS.innAt (j:=3) rfl).1
  have hum:=(hS.slAt (j:=2) rfl).nle; unfold maxLen at hum
  refine k_seq ?_
  replace hf:Fr a 147 [] [(10,.bool false),(11,.bool true),(14,vc),(16,vo),(17,.bool true),(19,.bool true)]:=hf.to ⟨rfl,rfl,rfl,rfl,rfl,rfl,trivial⟩
  refine W.seq ?_
  refine W.seq ?_
  refine W.regionL (l:=[0,1,2,3,4,5]) rfl ?_
  refine O.val hf rfl rfl rfl (RunV.move rfl) ?_
  clear hf a; intro a hf
  refine O.val (v:=.bool false) hf rfl rfl rfl (RunV.not (b:=true) rfl) ?_
  clear hf a; intro a hf
  refine O.val hf rfl rfl rfl (RunV.move rfl) ?_
  clear hf a; intro a hf
  refine O.gvalB (v:=.bool true) hf rfl rfl rfl rfl rfl rfl (RunV.move rfl) ?_
  clear hf a; intro a hf
  refine O.gvalB (v:=.bool false) hf rfl rfl rfl rfl rfl rfl (RunV.not (b:=true) rfl) ?_
  clear hf a; intro a hf
  refine O.val (v:=.bool false) hf rfl rfl rfl (RunV.pick rfl rfl rfl rfl) ?_
  clear hf a; intro a hf
  refine O.nil ?_
  refine k_seq ?_
  replace hf:Fr a 147 [] [(10,.bool false),(11,.bool true),(14,vc),(16,vo),(97,.bool false)]:=hf.to ⟨rfl,rfl,rfl,rfl,rfl,trivial⟩
  refine W.if_ff hf rfl ?_
  refine W.skip ?_
  refine k_seq ?_
  replace hf:Fr a 147 [] [(10,.bool false),(11,.bool true),(14,vc),(16,vo)]:=hf.to ⟨rfl,rfl,rfl,rfl,trivial⟩
  refine W.seq ?_
  refine W.seq ?_
  refine W.regionL (l:=[0]) rfl ?_
  refine O.val hf rfl rfl rfl (RunV.assign rfl) ?_
  clear hf a; intro a hf
  refine O.nil ?_
  refine k_seq ?_
  refine W.block ?_
  refine W.loop (G:=(Nat)) (fun g a w=>match g with | s=>Fr a 147 [] [(11,.bool true),(14,vc),(16,vo),(20,.int .i64 (s:Int))]∧St w0 w noX [rdv 1 vP zs.length (ints zs),rdv 1 vB bs.length (bools bs)] [sl 3 1 vq ((Det.own (fW*fH) (Det.sets fW fH zs bs (thr+more) least) (Det.sets fW fH zs bs (thr+more) least).length).length) (ints (Det.own (fW*fH) (Det.sets fW fH zs bs (thr+more) least) (Det.sets fW fH zs bs (thr+more) least).length)),sl 3 1 vo of.length (ints of),sl 26 1 vc us.length us,inn us (Det.sets fW fH zs bs (thr+more) least),sl 26 1 va vs.length vs,inn vs (Det.sets fW fH zs bs (thr) least),pt b_f1 (.cells #[.int .i64 (fW:Int),.int .i64 (fH:Int),vP] 24 (0,0))]∧(s≤us.length)) (fun g=>match g with | s=>us.length-s) 0 ?_ ?_
  · refine ⟨hf.to ⟨rfl,rfl,rfl,(by first | rfl | exact congrArg some (congrArg (Value.int _) (by omega))),trivial⟩,hS,?_⟩
    · omega
  clear hf hS a
  rintro s a w ⟨hf,hS,h3⟩
  refine W.seq ?_
  refine W.seq ?_
  refine W.regionL (l:=[0,1,2,3]) rfl ?_
  refine O.val hf rfl rfl rfl (RunV.move rfl) ?_
  clear hf a; intro a hf
  refine O.val hf rfl rfl rfl (RunV.move rfl) ?_
  clear hf a; intro a hf
  refine O.val hf rfl rfl rfl (RunV.lenV (e:=26) (by simpa using T_elem_28) rfl (hS.slr (j:=2) rfl)) ?_
  clear hf a; intro a hf
  refine O.val (v:=.bool (decide ((s:Int)<((us.length:Int):Int)))) hf rfl rfl rfl (RunV.lss rfl rfl) ?_
  clear hf a; intro a hf
  refine O.nil ?_
  refine k_seq ?_
  replace hf:Fr a 147 [] [(11,.bool true),(14,vc),(16,vo),(20,.int .i64 (s:Int)),(101,.bool (decide ((s:Int)<((us.length:Int):Int))))]:=hf.to ⟨rfl,rfl,rfl,rfl,rfl,trivial⟩
  refine W.ifdI hf rfl (fun hs1=>?_) (fun hs1=>?_)
  · refine W.skip ?_
    refine k_seq ?_
    refine W.seq ?_
    refine W.block ?_
    refine W.seq ?_
    refine W.regionL (l:=[0]) rfl ?_
    refine O.val hf rfl rfl rfl (RunV.assign rfl) ?_
    clear hf a; intro a hf
    refine O.nil ?_
    refine k_seq ?_
    refine W.block ?_
    refine W.loop (G:=(Nat)) (fun g a w=>match g with | k=>Fr a 147 [] [(11,.bool true),(14,vc),(16,vo),(20,.int .i64 (s:Int)),(21,.int .i64 (k:Int))]∧St w0 w noX [rdv 1 vP zs.length (ints zs),rdv 1 vB bs.length (bools bs)] [sl 3 1 vq ((Det.own (fW*fH) (Det.sets fW fH zs bs (thr+more) least) (Det.sets fW fH zs bs (thr+more) least).length).length) (ints (Det.own (fW*fH) (Det.sets fW fH zs bs (thr+more) least) (Det.sets fW fH zs bs (thr+more) least).length)),sl 3 1 vo of.length (ints of),sl 26 1 vc us.length us,inn us (Det.sets fW fH zs bs (thr+more) least),sl 26 1 va vs.length vs,inn vs (Det.sets fW fH zs bs (thr) least),pt b_f1 (.cells #[.int .i64 (fW:Int),.int .i64 (fH:Int),vP] 24 (0,0))]∧(k≤((Det.sets fW fH zs bs (thr+more) least).getD s []).length)) (fun g=>match g with | k=>((Det.sets fW fH zs bs (thr+more) least).getD s []).length-k) 0 ?_ ?_
    · refine ⟨hf.to ⟨rfl,rfl,rfl,rfl,(by first | rfl | exact congrArg some (congrArg (Value.int _) (by omega))),trivial⟩,hS,?_⟩
      · omega
    clear hf hS a
    rintro k a w ⟨hf,hS,g1⟩
    refine W.seq ?_
    refine W.seq ?_
    refine W.regionL (l:=[0,1,2,3,4,5,6]) rfl ?_
    have hl4:=(hS.innAt (j:=3) rfl).get (i:=s) (by omega) |>.2.1; unfold maxLen at hl4
    refine O.val hf rfl rfl rfl (RunV.move rfl) ?_
    clear hf a; intro a hf
    refine O.val hf rfl rfl rfl (RunV.move rfl) ?_
    clear hf a; intro a hf
    refine O.val hf rfl rfl rfl (RunV.move rfl) ?_
    clear hf a; intro a hf
    refine O.val hf rfl rfl rfl (RunV.ixV (j:=s) (m:=s) T_elem_28 T_size_26 rfl rfl (hS.slr (j:=2) rfl) rfl (by omega) (Nat.mul_one _)) ?_
    clear hf a; intro a hf
    refine O.val hf rfl rfl rfl (RunV.ld1 T_agg_26 rfl (hS.slr (j:=2) rfl) (vs_get (by omega))) ?_
    clear hf a; intro a hf
    refine O.val hf rfl rfl rfl (RunV.lenV (e:=3) (by simpa using T_elem_26) rfl (innOK.get (hS.innAt (j:=3) rfl) (i:=s) (by omega))) ?_
    clear hf a; intro a hf
    refine O.val (v:=.bool (decide ((k:Int)<((((Det.sets fW fH zs bs (thr+more) least).getD s []).length:Int):Int)))) hf rfl rfl rfl (RunV.lss rfl rfl) ?_
    clear hf a; intro a hf
    refine O.nil ?_
    refine k_seq ?_
    replace hf:Fr a 147 [] [(11,.bool true),(14,vc),(16,vo),(20,.int .i64 (s:Int)),(21,.int .i64 (k:Int)),(110,.bool (decide ((k:Int)<((((Det.sets fW fH zs bs (thr+more) least).getD s []).length:Int):Int))))]:=hf.to ⟨rfl,rfl,rfl,rfl,rfl,rfl,trivial⟩
    refine W.ifdI hf rfl (fun hk1=>?_) (fun hk1=>?_)
    · refine W.skip ?_
      refine k_seq ?_
      refine W.seq ?_
      refine W.block ?_
      refine W.seq ?_
      have hsr:=Det.sets_rng (hBl (thr+more)) (least:=least) rfl _ (Det.at_mem (ss:=(Det.sets fW fH zs bs (thr+more) least)) (q:=s) (by omega))
      have hs0:=hsr _ (Det.getD_mem (l:=(Det.sets fW fH zs bs (thr+more) least).getD s []) (j:=0) (by omega))
      have hsk:=hsr _ (Det.getD_mem (l:=(Det.sets fW fH zs bs (thr+more) least).getD s []) (j:=k) (by omega))
      have hmo:=Det.own_more (hBl thr) (hBl (thr+more)) (Det.bright_sub (by omega)) (ss:=Det.sets fW fH zs bs thr least) (ts:=(Det.sets fW fH zs bs (thr+more) least)) (least:=least) rfl rfl (Det.at_mem (ss:=(Det.sets fW fH zs bs (thr+more) least)) (q:=s) (by omega)) (k:=k) (by omega)
      rw [← hof] at hmo
      refine W.drawQ (fun w=>St w0 w noX [rdv 1 vP zs.length (ints zs),rdv 1 vB bs.length (bools bs)] [sl 3 1 vq ((Det.own (fW*fH) (Det.sets fW fH zs bs (thr+more) least) (Det.sets fW fH zs bs (thr+more) least).length).length) (ints (Det.own (fW*fH) (Det.sets fW fH zs bs (thr+more) least) (Det.sets fW fH zs bs (thr+more) least).length)),sl 3 1 vo of.length (ints of),sl 26 1 vc us.length us,inn us (Det.sets fW fH zs bs (thr+more) least),sl 26 1 va vs.length vs,inn vs (Det.sets fW fH zs bs (thr) least),pt b_f1 (.cells #[.int .i64 (fW:Int),.int .i64 (fH:Int),vP] 24 (0,0))]) P_mixed rfl (by kernel_rfl) rfl hS.drew ?_
      clear hS
      refine OQ.val (v:=vo) hf rfl (fun w hS=>RunV.move rfl) ?_; clear hf a; intro a hf
      refine OQ.val (v:=vc) hf rfl (fun w hS=>RunV.move rfl) ?_; clear hf a; intro a hf
      refine OQ.val (v:=.int .i64 (s:Int)) hf rfl (fun w hS=>RunV.move rfl) ?_; clear hf a; intro a hf
      refine OQ.val (v:=ix vc s) hf rfl (fun w hS=>RunV.ixV (j:=s) (m:=s) T_elem_28 T_size_26 rfl rfl (hS.slr (j:=2) rfl) rfl (by omega) (Nat.mul_one _)) ?_; clear hf a; intro a hf
      refine OQ.val (v:=(us.getD s undef)) hf rfl (fun w hS=>RunV.ld1 T_agg_26 rfl (hS.slr (j:=2) rfl) (vs_get (by omega))) ?_; clear hf a; intro a hf
      refine OQ.val (v:=.int .i64 (k:Int)) hf rfl (fun w hS=>RunV.move rfl) ?_; clear hf a; intro a hf
      refine OQ.val (v:=ix (us.getD s undef) k) hf rfl (fun w hS=>RunV.ixV (j:=k) (m:=k) T_elem_26 T_size_3 rfl rfl (innOK.get (hS.innAt (j:=3) rfl) (i:=s) (by omega)) rfl (by omega) (Nat.mul_one _)) ?_; clear hf a; intro a hf
      refine OQ.val (v:=.int .i64 (((Det.sets fW fH zs bs (thr+more) least).getD s []).getD k 0)) hf rfl (fun w hS=>RunV.ld1 T_agg_3 rfl (innOK.get (hS.innAt (j:=3) rfl) (i:=s) (by omega)) (ints_get (by omega))) ?_; clear hf a; intro a hf
      refine OQ.val (v:=ix vo (Int.toNat (((Det.sets fW fH zs bs (thr+more) least).getD s []).getD k 0))) hf rfl (fun w hS=>RunV.ixV (j:=(Int.toNat (((Det.sets fW fH zs bs (thr+more) least).getD s []).getD k 0))) (m:=(Int.toNat (((Det.sets fW fH zs bs (thr+more) least).getD s []).getD k 0))) T_elem_26 T_size_3 rfl rfl (hS.slr (j:=1) rfl) (by rw [Int.toNat_of_nonneg (by omega)]) (by omega) (Nat.mul_one _)) ?_; clear hf a; intro a hf
      refine OQ.val (v:=.int .i64 (of.getD (Int.toNat (((Det.sets fW fH zs bs (thr+more) least).getD s []).getD k 0)) 0)) hf rfl (fun w hS=>RunV.ld1 T_agg_3 rfl (hS.slr (j:=1) rfl) (ints_get (by omega))) ?_; clear hf a; intro a hf
      refine OQ.val (v:=.bool (decide ((of.getD (Int.toNat (((Det.sets fW fH zs bs (thr+more) least).getD s []).getD k 0)) 0)<(0:Int)))) hf rfl (fun w hS=>RunV.lss rfl rfl) ?_; clear hf a; intro a hf
      refine OQ.val (v:=.bool (decide ((of.getD (Int.toNat (((Det.sets fW fH zs bs (thr+more) least).getD s []).getD k 0)) 0)<(0:Int)))) hf rfl (fun w hS=>RunV.move rfl) ?_; clear hf a; intro a hf
      refine OQ.cutK (K':=fun a=>Fr a 147 [] [(11,.bool true),(14,vc),(16,vo),(20,.int .i64 (s:Int)),(21,.int .i64 (k:Int)),(113,vo),(114,vc),(115,.int .i64 (s:Int)),(116,ix vc s),(117,(us.getD s undef)),(118,.int .i64 (k:Int)),(119,ix (us.getD s undef) k),(120,.int .i64 (((Det.sets fW fH zs bs (thr+more) least).getD s []).getD k 0)),(121,ix vo (Int.toNat (((Det.sets fW fH zs bs (thr+more) least).getD s []).getD k 0))),(122,.int .i64 (of.getD (Int.toNat (((Det.sets fW fH zs bs (thr+more) least).getD s []).getD k 0)) 0)),(123,.bool (decide ((of.getD (Int.toNat (((Det.sets fW fH zs bs (thr+more) least).getD s []).getD k 0)) 0)<(0:Int)))),(124,.bool (decide ((of.getD (Int.toNat (((Det.sets fW fH zs bs (thr+more) least).getD s []).getD k 0)) 0)<(0:Int)))),(145,.bool ((decide ((of.getD (Int.toNat (((Det.sets fW fH zs bs (thr+more) least).getD s []).getD k 0)) 0)<(0:Int)))||(decide ((of.getD (Int.toNat (((Det.sets fW fH zs bs (thr+more) least).getD s []).getD k 0)) 0)≠(of.getD (Int.toNat (((Det.sets fW fH zs bs (thr+more) least).getD s []).getD 0 0)) 0:Int)))))]) 21 ?_ ?_
      · rcases Bool.eq_false_or_eq_true (decide ((of.getD (Int.toNat (((Det.sets fW fH zs bs (thr+more) least).getD s []).getD k 0)) 0)<(0:Int))) with hb11 | hb11
        · have hb11p:=of_decide_eq_true hb11
          refine OQ.skipB hf rfl rfl hb11 rfl ?_; clear hf a; intro a hf
          refine OQ.skipB hf rfl rfl hb11 rfl ?_; clear hf a; intro a hf
          refine OQ.skipB hf rfl rfl hb11 rfl ?_; clear hf a; intro a hf
          refine OQ.skipB hf rfl rfl hb11 rfl ?_; clear hf a; intro a hf
          refine OQ.skipB hf rfl rfl hb11 rfl ?_; clear hf a; intro a hf
          refine OQ.skipB hf rfl rfl hb11 rfl ?_; clear hf a; intro a hf
          refine OQ.skipB hf rfl rfl hb11 rfl ?_; clear hf a; intro a hf
          refine OQ.skipB hf rfl rfl hb11 rfl ?_; clear hf a; intro a hf
          refine OQ.skipB hf rfl rfl hb11 rfl ?_; clear hf a; intro a hf
          refine OQ.skipB hf rfl rfl hb11 rfl ?_; clear hf a; intro a hf
          refine OQ.skipB hf rfl rfl hb11 rfl ?_; clear hf a; intro a hf
          refine OQ.skipB hf rfl rfl hb11 rfl ?_; clear hf a; intro a hf
          refine OQ.skipB hf rfl rfl hb11 rfl ?_; clear hf a; intro a hf
          refine OQ.skipB hf rfl rfl hb11 rfl ?_; clear hf a; intro a hf
          refine OQ.skipB hf rfl rfl hb11 rfl ?_; clear hf a; intro a hf
          refine OQ.skipB hf rfl rfl hb11 rfl ?_; clear hf a; intro a hf
          refine OQ.skipB hf rfl rfl hb11 rfl ?_; clear hf a; intro a hf
          refine OQ.skipB hf rfl rfl hb11 rfl ?_; clear hf a; intro a hf
          refine OQ.skipB hf rfl rfl hb11 rfl ?_; clear hf a; intro a hf
          refine OQ.skipB hf rfl rfl hb11 rfl ?_; clear hf a; intro a hf
          refine OQ.val (v:=.bool ((decide ((of.getD (Int.toNat (((Det.sets fW fH zs bs (thr+more) least).getD s []).getD k 0)) 0)<(0:Int)))||(decide ((of.getD (Int.toNat (((Det.sets fW fH zs bs (thr+more) least).getD s []).getD k 0)) 0)≠(of.getD (Int.toNat (((Det.sets fW fH zs bs (thr+more) least).getD s []).getD 0 0)) 0:Int))))) hf rfl (fun w hS=>RunV.pick rfl rfl rfl (by rw [hb11]; rfl)) ?_; clear hf a; intro a hf
          exact OQ.nil (hf.to ⟨rfl,rfl,rfl,rfl,rfl,rfl,rfl,rfl,rfl,rfl,rfl,rfl,rfl,rfl,rfl,rfl,rfl,rfl,trivial⟩)
        · have hb11p:=of_decide_eq_false hb11
          refine OQ.gval (v:=vo) hf rfl rfl hb11 rfl (fun w hS=>RunV.move rfl) ?_; clear hf a; intro a hf
          refine OQ.gval (v:=vc) hf rfl rfl hb11 rfl (fun w hS=>RunV.move rfl) ?_; clear hf a; intro a hf
          refine OQ.gval (v:=.int .i64 (s:Int)) hf rfl rfl hb11 rfl (fun w hS=>RunV.move rfl) ?_; clear hf a; intro a hf
          refine OQ.gval (v:=ix vc s) hf rfl rfl hb11 rfl (fun w hS=>RunV.ixV (j:=s) (m:=s) T_elem_28 T_size_26 rfl rfl (hS.slr (j:=2) rfl) rfl (by omega) (Nat.mul_one _)) ?_; clear hf a; intro a hf
          refine OQ.gval (v:=(us.getD s undef)) hf rfl rfl hb11 rfl (fun w hS=>RunV.ld1 T_agg_26 rfl (hS.slr (j:=2) rfl) (vs_get (by omega))) ?_; clear hf a; intro a hf
          refine OQ.gval (v:=.int .i64 (k:Int)) hf rfl rfl hb11 rfl (fun w hS=>RunV.move rfl) ?_; clear hf a; intro a hf
          refine OQ.gval (v:=ix (us.getD s undef) k) hf rfl rfl hb11 rfl (fun w hS=>RunV.ixV (j:=k) (m:=k) T_elem_26 T_size_3 rfl rfl (innOK.get (hS.innAt (j:=3) rfl) (i:=s) (by omega)) rfl (by omega) (Nat.mul_one _)) ?_; clear hf a; intro a hf
          refine OQ.gval (v:=.int .i64 (((Det.sets fW fH zs bs (thr+more) least).getD s []).getD k 0)) hf rfl rfl hb11 rfl (fun w hS=>RunV.ld1 T_agg_3 rfl (innOK.get (hS.innAt (j:=3) rfl) (i:=s) (by omega)) (ints_get (by omega))) ?_; clear hf a; intro a hf
          refine OQ.gval (v:=ix vo (Int.toNat (((Det.sets fW fH zs bs (thr+more) least).getD s []).getD k 0))) hf rfl rfl hb11 rfl (fun w hS=>RunV.ixV (j:=(Int.toNat (((Det.sets fW fH zs bs (thr+more) least).getD s []).getD k 0))) (m:=(Int.toNat (((Det.sets fW fH zs bs (thr+more) least).getD s []).getD k 0))) T_elem_26 T_size_3 rfl rfl (hS.slr (j:=1) rfl) (by rw [Int.toNat_of_nonneg (by omega)]) (by omega) (Nat.mul_one _)) ?_; clear hf a; intro a hf
          refine OQ.gval (v:=.int .i64 (of.getD (Int.toNat (((Det.sets fW fH zs bs (thr+more) least).getD s []).getD k 0)) 0)) hf rfl rfl hb11 rfl (fun w hS=>RunV.ld1 T_agg_3 rfl (hS.slr (j:=1) rfl) (ints_get (by omega))) ?_; clear hf a; intro a hf
          refine OQ.gval (v:=vo) hf rfl rfl hb11 rfl (fun w hS=>RunV.move rfl) ?_; clear hf a; intro a hf
          refine OQ.gval (v:=vc) hf rfl rfl hb11 rfl (fun w hS=>RunV.move rfl) ?_; clear hf a; intro a hf
          refine OQ.gval (v:=.int .i64 (s:Int)) hf rfl rfl hb11 rfl (fun w hS=>RunV.move rfl) ?_; clear hf a; intro a hf
          refine OQ.gval (v:=ix vc s) hf rfl rfl hb11 rfl (fun w hS=>RunV.ixV (j:=s) (m:=s) T_elem_28 T_size_26 rfl rfl (hS.slr (j:=2) rfl) rfl (by omega) (Nat.mul_one _)) ?_; clear hf a; intro a hf
          refine OQ.gval (v:=(us.getD s undef)) hf rfl rfl hb11 rfl (fun w hS=>RunV.ld1 T_agg_26 rfl (hS.slr (j:=2) rfl) (vs_get (by omega))) ?_; clear hf a; intro a hf
          refine OQ.gval (v:=ix (us.getD s undef) 0) hf rfl rfl hb11 rfl (fun w hS=>RunV.ixV (j:=0) (m:=0) T_elem_26 T_size_3 rfl rfl (innOK.get (hS.innAt (j:=3) rfl) (i:=s) (by omega)) rfl (by omega) (Nat.mul_one _)) ?_; clear hf a; intro a hf
          refine OQ.gval (v:=.int .i64 (((Det.sets fW fH zs bs (thr+more) least).getD s []).getD 0 0)) hf rfl rfl hb11 rfl (fun w hS=>RunV.ld1 T_agg_3 rfl (innOK.get (hS.innAt (j:=3) rfl) (i:=s) (by omega)) (ints_get (by omega))) ?_; clear hf a; intro a hf
          refine OQ.gval (v:=ix vo (Int.toNat (((Det.sets fW fH zs bs (thr+more) least).getD s []).getD 0 0))) hf rfl rfl hb11 rfl (fun w hS=>RunV.ixV (j:=(Int.toNat (((Det.sets fW fH zs bs (thr+more) least).getD s []).getD 0 0))) (m:=(Int.toNat (((Det.sets fW fH zs bs (thr+more) least).getD s []).getD 0 0))) T_elem_26 T_size_3 rfl rfl (hS.slr (j:=1) rfl) (by rw [Int.toNat_of_nonneg (by omega)]) (by omega) (Nat.mul_one _)) ?_; clear hf a; intro a hf
          refine OQ.gval (v:=.int .i64 (of.getD (Int.toNat (((Det.sets fW fH zs bs (thr+more) least).getD s []).getD 0 0)) 0)) hf rfl rfl hb11 rfl (fun w hS=>RunV.ld1 T_agg_3 rfl (hS.slr (j:=1) rfl) (ints_get (by omega))) ?_; clear hf a; intro a hf
          refine OQ.gval (v:=.bool (decide ((of.getD (Int.toNat (((Det.sets fW fH zs bs (thr+more) least).getD s []).getD k 0)) 0)≠(of.getD (Int.toNat (((Det.sets fW fH zs bs (thr+more) least).getD s []).getD 0 0)) 0:Int)))) hf rfl rfl hb11 rfl (fun w hS=>RunV.neq rfl rfl) ?_; clear hf a; intro a hf
          refine OQ.val (v:=.bool ((decide ((of.getD (Int.toNat (((Det.sets fW fH zs bs (thr+more) least).getD s []).getD k 0)) 0)<(0:Int)))||(decide ((of.getD (Int.toNat (((Det.sets fW fH zs bs (thr+more) least).getD s []).getD k 0)) 0)≠(of.getD (Int.toNat (((Det.sets fW fH zs bs (thr+more) least).getD s []).getD 0 0)) 0:Int))))) hf rfl (fun w hS=>RunV.pick rfl rfl rfl (by rw [hb11]; rfl)) ?_; clear hf a; intro a hf
          exact OQ.nil (hf.to ⟨rfl,rfl,rfl,rfl,rfl,rfl,rfl,rfl,rfl,rfl,rfl,rfl,rfl,rfl,rfl,rfl,rfl,rfl,trivial⟩)
      clear hf a; intro a hf
      refine OQ.nil ?_; intro w hS
      refine k_seq ?_
      replace hf:Fr a 147 [] [(11,.bool true),(14,vc),(16,vo),(20,.int .i64 (s:Int)),(21,.int .i64 (k:Int)),(145,.bool ((decide ((of.getD (Int.toNat (((Det.sets fW fH zs bs (thr+more) least).getD s []).getD k 0)) 0)<(0:Int)))||(decide ((of.getD (Int.toNat (((Det.sets fW fH zs bs (thr+more) least).getD s []).getD k 0)) 0)≠(of.getD (Int.toNat (((Det.sets fW fH zs bs (thr+more) least).getD s []).getD 0 0)) 0:Int)))))]:=hf.to ⟨rfl,rfl,rfl,rfl,rfl,rfl,trivial⟩
      refine W.if_ hf rfl (fun hbd=>?_) (fun hbd=>?_)
      · have hbdb:=hbd
        try simp only [Bool.and_eq_true,Bool.or_eq_true,Bool.and_eq_false_iff,Bool.or_eq_false_iff,decide_eq_true_eq,decide_eq_false_iff_not,Bool.not_eq_true',Bool.not_eq_false',Bool.not_eq_true,Bool.not_eq_false,ne_eq] at hbd
        exfalso; simp only [Bool.or_eq_true,decide_eq_true_eq] at hbdb; omega
      · have hbdb:=hbd
        try simp only [Bool.and_eq_true,Bool.or_eq_true,Bool.and_eq_false_iff,Bool.or_eq_false_iff,decide_eq_true_eq,decide_eq_false_iff_not,Bool.not_eq_true',Bool.not_eq_false',Bool.not_eq_true,Bool.not_eq_false,ne_eq] at hbd
        refine W.skip ?_
        refine k_blk_normal ?_
        refine k_seq ?_
        refine W.regionL (l:=[0,1,2]) rfl ?_
        refine O.val hf rfl rfl rfl (RunV.move rfl) ?_
        clear hf a; intro a hf
        refine O.val hf rfl rfl rfl (RunV.addI rfl rfl (by omega)) ?_
        clear hf a; intro a hf
        refine O.val hf rfl rfl rfl (RunV.assign rfl) ?_
        clear hf a; intro a hf
        refine O.nil ?_
        refine k_then ⟨(k+1),⟨hf.to ⟨rfl,rfl,rfl,rfl,(by first | rfl | exact congrArg some (congrArg (Value.int _) (by omega))),trivial⟩,?_,?_⟩,?_⟩
        · exact hS.eqM rfl
        · omega
        · dsimp only; omega
    · refine W.exit ?_
      refine k_then_exit ?_
      refine k_then_exit ?_
      refine k_blk ?_
      refine k_blk_normal ?_
      refine k_seq ?_
      refine W.regionL (l:=[0,1,2]) rfl ?_
      refine O.val hf rfl rfl rfl (RunV.move rfl) ?_
      clear hf a; intro a hf
      refine O.val hf rfl rfl rfl (RunV.addI rfl rfl (by omega)) ?_
      clear hf a; intro a hf
      refine O.val hf rfl rfl rfl (RunV.assign rfl) ?_
      clear hf a; intro a hf
      refine O.nil ?_
      refine k_then ⟨(s+1),⟨hf.to ⟨rfl,rfl,rfl,(by first | rfl | exact congrArg some (congrArg (Value.int _) (by omega))),trivial⟩,?_,?_⟩,?_⟩
      · exact hS.eqM rfl
      · omega
      · dsimp only; omega
  · refine W.exit ?_
    refine k_then_exit ?_
    refine k_then_exit ?_
    refine k_blk ?_
    refine k_seq ?_
    replace hf:Fr a 147 [] [(11,.bool true)]:=hf.to ⟨rfl,trivial⟩
    refine W.seq ?_
    refine W.regionL (l:=[0,1]) rfl ?_
    refine O.val hf rfl rfl rfl (RunV.move rfl) ?_
    clear hf a; intro a hf
    refine O.val hf rfl rfl rfl (RunV.assign rfl) ?_
    clear hf a; intro a hf
    refine O.nil ?_
    refine k_seq ?_
    replace hf:Fr a 147 [] [(10,.bool true)]:=hf.to ⟨rfl,trivial⟩
    refine W.ret ?_
    refine post1 hf rfl (ResOK.tmp rfl) ?_
    exact ⟨(),rfl,hS.sub (List.nil_sublist _) |>.noB⟩
theorem more_law (fW fH thr more least:Int) (vP vB:Value) (zs:List Int) (bs:List Bool) (w0:World) (hP:rdOK (hp w0) 1 vP zs.length (ints zs)) (hB:rdOK (hp w0) 1 vB bs.length (bools bs)) :
    Ret Tryz.prog 6 #[.agg #[.int .i64 fW,.int .i64 fH,vP],vB,.int .i64 thr,.int .i64 more,.int .i64 least] w0 (G:=Unit) (fun _=>.bool true) (fun _ w=>St w0 w noX [] []):=by
  haveI:Decidable (Det.fieldOK fW fH zs):=Classical.propDecidable _
  by_cases h:Det.fieldOK fW fH zs∧bs.length=zs.length∧zs.length≤100∧0≤more∧more≤8589934592∧-8589934592≤thr∧thr≤8589934592
  · obtain ⟨hfo,hbl,hsz,h1,h2,h3,h4⟩:=h
    obtain ⟨W,H,rfl,rfl,hn⟩:=Det.field_nat hfo
    cases hc:(decide (Det.partsE W H zs bs thr least≠(0:Int))||decide (Det.partsE W H zs bs (thr+more) least≠(0:Int))) with
    | true=>exact more_arg W H thr more least vP vB zs bs w0 hfo hn hbl hsz ⟨h1,h2⟩ ⟨h3,h4⟩ hP hB hc
    | false =>
      simp only [Bool.or_eq_false_iff,decide_eq_false_iff_not,ne_eq,Decidable.not_not] at hc
      obtain ⟨a1,a2,a3⟩:=Det.partsE_ok hc.1
      obtain ⟨b1,b2,b3⟩:=Det.partsE_ok hc.2
      exact more_good W H thr more least vP vB zs bs w0 hfo hn hbl hsz ⟨h1,h2⟩ ⟨h3,h4⟩ hP hB ⟨a1,a2⟩ ⟨b1,b2⟩ a3
  · exact more_early fW fH thr more least vP vB zs bs w0 hP hB h
end Go.Proofs.YtipfobacinmoiaaGreat
