/- DetectSplits: for every input. No conditions. -/
import Derived.Test.YtipfobacinmoiaaGreatTaq
import Derived.Test.YtipfobacinmoiaaGreatTac
import Derived.Test.YtipfobacinmoiaaGreatTar
import Derived.Test.YtipfobacinmoiaaGreatTab
import Derived.ProofKit
import Derived.Lib.SmallJoins
import Derived.Deep.Grids
import Derived.Test.YtipfobacinmoiaaGreatRows
set_option linter.unusedVariables false
set_option linter.unusedSimpArgs false
namespace Det
theorem findR_len {fW fH thr least:Int} {zs:List Int} {bs:List Bool} {lv:List Int}:(findR fW fH thr least zs bs lv).length≤500:=by
  unfold findR
  split
  · rename_i h
    unfold findE at h
    rw [blobs_len]
    split at h
    · split at h
      · cases h
      · split at h
        · split at h
          · split at h
            · cases h
            · omega
          · cases h
        · contradiction
    · cases h
  · exact Nat.zero_le _
theorem field_dims {W H:Nat} {zs:List Int} (h:fieldOK (W:Int) (H:Int) zs):(1≤W∧W≤100)∧(1≤H∧H≤100):=by
  obtain ⟨h1,h2,h3,h4,_⟩:=h
  omega
end Det

set_option maxHeartbeats 1000000
set_option maxRecDepth 8000
namespace Go.Proofs.YtipfobacinmoiaaGreat
open Go Go.SL Go.Shelf Go.RowKit Go.Maps
theorem C_ok_10:callOK Tryz.prog 10=true:=by kernel_rfl
theorem C_ok_11:callOK Tryz.prog 11=true:=by kernel_rfl
theorem C_ok_12:callOK Tryz.prog 12=true:=by kernel_rfl
theorem C_ok_14:callOK Tryz.prog 14=true:=by kernel_rfl
theorem C_ok_9:callOK Tryz.prog 9=true:=by kernel_rfl
theorem split9_all (fW fH least:Int) (vP vL vv:Value) (zs l lv:List Int) (w0:World) (hP:rdOK (hp w0) 1 vP zs.length (ints zs)) (hL:rdOK (hp w0) 1 vL l.length (ints l)) (hv:rdOK (hp w0) 1 vv lv.length (ints lv)) (hft:vfit vv) :
    Ret Tryz.prog 9 #[(fG fW fH vP),vL,vv,iV least] w0 (G:=Value × List Value) (fun g=>.tuple #[g.1,iV (Det.splitE fW fH least zs l lv)]) (fun g w=>St w0 w noX [] [sl 26 1 g.1 g.2.length g.2,inn g.2 (Det.splitR fW fH least zs l lv)]):=by
  by_cases hfo:Det.fieldOK fW fH zs
  · obtain ⟨W,H,rfl,rfl,hn⟩:=Det.field_nat hfo
    haveI:Decidable (Det.conn W H l):=Classical.propDecidable _; haveI:Decidable (Det.rising lv):=Classical.propDecidable _; have hd:=Det.field_dims hfo; exact split9_ok W H least vP vL vv zs l lv w0 hfo hd.1 hd.2 hn hP hL hv hft
  · exact split9_bad fW fH least vP vL vv zs l lv w0 hfo hP hL hv hft
theorem split10_all (fW fH least:Int) (vP vL vv:Value) (zs l lv:List Int) (w0:World) (hP:rdOK (hp w0) 1 vP zs.length (ints zs)) (hL:rdOK (hp w0) 1 vL l.length (ints l)) (hv:rdOK (hp w0) 1 vv lv.length (ints lv)) (hft:vfit vv) :
    Ret Tryz.prog 10 #[(fG fW fH vP),vL,vv,iV least] w0 (G:=Value × List Value) (fun g=>.tuple #[g.1,iV (Det.splitE fW fH least zs l lv)]) (fun g w=>St w0 w noX [] [sl 26 1 g.1 g.2.length g.2,inn g.2 (Det.splitR fW fH least zs l lv)]):=by
  by_cases hfo:Det.fieldOK fW fH zs
  · obtain ⟨W,H,rfl,rfl,hn⟩:=Det.field_nat hfo
    haveI:Decidable (Det.conn W H l):=Classical.propDecidable _; haveI:Decidable (Det.rising lv):=Classical.propDecidable _; have hd:=Det.field_dims hfo; exact split10_ok W H least vP vL vv zs l lv w0 hfo hd.1 hd.2 hn hP hL hv hft
  · exact split10_bad fW fH least vP vL vv zs l lv w0 hfo hP hL hv hft
theorem find11_all (fW fH thr least:Int) (vP vB vv:Value) (zs:List Int) (bs:List Bool) (lv:List Int) (w0:World) (hP:rdOK (hp w0) 1 vP zs.length (ints zs)) (hB:rdOK (hp w0) 1 vB bs.length (bools bs)) (hv:rdOK (hp w0) 1 vv lv.length (ints lv)) (hft:vfit vv) :
    Ret Tryz.prog 11 #[(fG fW fH vP),vB,iV thr,iV least,vv] w0 (G:=Value × List BV) (fun g=>.tuple #[g.1,iV (Det.findE fW fH thr least zs bs lv)]) (fun g w=>St w0 w noX [] [sl 57 3 g.1 g.2.length (encs eB g.2),inn (g.2.map (·.1)) (g.2.map (·.2.px))]∧g.2.map (·.2)=(Det.findR fW fH thr least zs bs lv)):=by
  by_cases hfo:Det.fieldOK fW fH zs
  · obtain ⟨W,H,rfl,rfl,hn⟩:=Det.field_nat hfo
    haveI:Decidable (Det.rising lv):=Classical.propDecidable _; have hd:=Det.field_dims hfo; exact find11_ok W H thr least vP vB vv zs bs lv w0 hfo hd.1 hd.2 hn hP hB hv hft
  · exact find11_bad fW fH thr least vP vB vv zs bs lv w0 hfo hP hB hv hft
theorem find12_all (fW fH thr least:Int) (vP vB vv:Value) (zs:List Int) (bs:List Bool) (lv:List Int) (w0:World) (hP:rdOK (hp w0) 1 vP zs.length (ints zs)) (hB:rdOK (hp w0) 1 vB bs.length (bools bs)) (hv:rdOK (hp w0) 1 vv lv.length (ints lv)) (hft:vfit vv) :
    Ret Tryz.prog 12 #[(fG fW fH vP),vB,iV thr,iV least,vv] w0 (G:=Value × List BV) (fun g=>.tuple #[g.1,iV (Det.findE fW fH thr least zs bs lv)]) (fun g w=>St w0 w noX [] [sl 57 3 g.1 g.2.length (encs eB g.2),inn (g.2.map (·.1)) (g.2.map (·.2.px))]∧g.2.map (·.2)=(Det.findR fW fH thr least zs bs lv)):=by
  by_cases hfo:Det.fieldOK fW fH zs
  · obtain ⟨W,H,rfl,rfl,hn⟩:=Det.field_nat hfo
    haveI:Decidable (Det.rising lv):=Classical.propDecidable _; have hd:=Det.field_dims hfo; exact find12_ok W H thr least vP vB vv zs bs lv w0 hfo hd.1 hd.2 hn hP hB hv hft
  · exact find12_bad fW fH thr least vP vB vv zs bs lv w0 hfo hP hB hv hft
set_option maxHeartbeats 1000000 in
set_option maxRecDepth 4000 in
theorem splits_law (fW fH thr least:Int) (vP vB vL vv:Value) (zs:List Int) (bs:List Bool) (l lv:List Int) (w0:World) (hP:rdOK (hp w0) 1 vP zs.length (ints zs)) (hB:rdOK (hp w0) 1 vB bs.length (bools bs)) (hL:rdOK (hp w0) 1 vL l.length (ints l)) (hv:rdOK (hp w0) 1 vv lv.length (ints lv)) (hft:vfit vv) :
    Ret Tryz.prog 3 #[(fG fW fH vP),vB,vL,vv,iV thr,iV least] w0 (G:=Unit) (fun _=>.bool true) (fun _ w=>St w0 w noX [] []):=by
  refine ret_of_W (lv:=[(fG fW fH vP),vB,vL,vv,iV thr,iV least]) Tryz.func3 rfl rfl rfl (fun a hf=>?_); replace hf:Fr a 86 [] [(0,(fG fW fH vP)),(1,vB),(2,vL),(3,vv),(4,iV thr),(5,iV least)]:=hf; have hS:St w0 w0 noX [rI vP zs,rdv 1 vB bs.length (bools bs),rI vL l,rI vv lv] []:=((((St.refl w0).lend0 hv).lend0 hL).lend0 hB).lend0 hP; have hlen:=hL.2.1; unfold maxLen at hlen; have hlev:=hv.2.1; unfold maxLen at hlev; refine W.seq ?_
  refine R2 rfl<|O.box (cs:=#[iV fW,iV fH,vP]) hf hS rfl rfl rfl rfl<|?_; intro b_f1 w a hbb_f1 hS hf; refine mv hf rfl fun a hf=>?_; refine nk<|W.seq<|W.seq<|?_
  refine W.regionL (l:=[0,1,2,3,4,5,6,7,8,9,10,11,12]) rfl<|ov hf rfl (RunV.loadN (cs':=#[iV fW,iV fH,vP]) T_agg_24 T_size_24 rfl (hS.p 0 rfl) (bl rfl) rfl)<|fun a hf=>?_; refine mv hf rfl fun a hf=>?_; refine oc hf rfl C_ok_8 (great_spec fW fH vP vB zs bs _ (hS.rdAt (j:=0) rfl) (hS.rdAt (j:=1) rfl)) ?_; clear hf a; rintro _ w2 hS1 a hf; replace hS:=hS.cl hS1; refine mv hf rfl fun a hf=>?_
  refine O.cutN (l₁:=[4,5,6,7]) (l₂:=_) (fun a w=>Fr a 86 [] [(1,vB),(2,vL),(3,vv),(4,iV thr),(5,iV least),(6,(pp b_f1)),(12,.bool false),(28,.bool ((decide ((zs.length:Int)>100)||decide ((bs.length:Int)>120))||(decide ((l.length:Int)>(100:Int)))))]∧St w0 w noX [rI vP zs,rdv 1 vB bs.length (bools bs),rI vL l,rI vv lv] [pt b_f1 (.cells #[iV fW,iV fH,vP] 24 (0,0))]) rfl ?_ ?_
  · rcases Bool.eq_false_or_eq_true (decide ((zs.length:Int)>100)||decide ((bs.length:Int)>120)) with hb3 | hb3
    · have hb3p:=hb3
      try simp only [bsm] at hb3p
      refine sk hf rfl hb3 fun a hf=>sk hf rfl hb3 fun a hf=>sk hf rfl hb3 fun a hf=>?_; refine ov (v:=.bool ((decide ((zs.length:Int)>100)||decide ((bs.length:Int)>120))||(decide ((l.length:Int)>(100:Int))))) hf rfl (RunV.pick rfl rfl rfl (by rw [hb3]; rfl)) fun a hf=>?_; exact O.nil ⟨rfl,hf.q rfl,hS⟩
    · have hb3p:=hb3
      try simp only [bsm] at hb3p
      refine og (v:=vL) hf rfl hb3 (RunV.move rfl) fun a hf=>og (v:=iV (l.length:Int)) hf rfl hb3 (RunV.lenV (e:=3) (by simpa using T_elem_26) rfl (hS.rdAt (j:=2) rfl)) fun a hf=>og (v:=.bool (decide ((l.length:Int)>(100:Int)))) hf rfl hb3 (RunV.gtr rfl rfl) fun a hf=>?_; refine ov (v:=.bool ((decide ((zs.length:Int)>100)||decide ((bs.length:Int)>120))||(decide ((l.length:Int)>(100:Int))))) hf rfl (RunV.pick rfl rfl rfl (by rw [hb3]; rfl)) fun a hf=>?_; exact O.nil ⟨rfl,hf.q rfl,hS⟩
  clear hf hS a; rintro a w ⟨hf,hS⟩; refine mv hf rfl fun a hf=>?_
  refine O.cutN (l₁:=[9,10,11,12]) (l₂:=_) (fun a w=>Fr a 86 [] [(1,vB),(2,vL),(3,vv),(4,iV thr),(5,iV least),(6,(pp b_f1)),(12,.bool false),(33,.bool (((decide ((zs.length:Int)>100)||decide ((bs.length:Int)>120))||(decide ((l.length:Int)>(100:Int))))||(decide ((lv.length:Int)>(30:Int)))))]∧St w0 w noX [rI vP zs,rdv 1 vB bs.length (bools bs),rI vL l,rI vv lv] [pt b_f1 (.cells #[iV fW,iV fH,vP] 24 (0,0))]) rfl ?_ ?_
  · rcases Bool.eq_false_or_eq_true ((decide ((zs.length:Int)>100)||decide ((bs.length:Int)>120))||(decide ((l.length:Int)>(100:Int)))) with hb4 | hb4
    · have hb4p:=hb4
      try simp only [bsm] at hb4p
      refine sk hf rfl hb4 fun a hf=>sk hf rfl hb4 fun a hf=>sk hf rfl hb4 fun a hf=>?_; refine ov (v:=.bool (((decide ((zs.length:Int)>100)||decide ((bs.length:Int)>120))||(decide ((l.length:Int)>(100:Int))))||(decide ((lv.length:Int)>(30:Int))))) hf rfl (RunV.pick rfl rfl rfl (by rw [hb4]; rfl)) fun a hf=>?_; exact O.nil ⟨rfl,hf.q rfl,hS⟩
    · have hb4p:=hb4
      try simp only [bsm] at hb4p
      refine og (v:=vv) hf rfl hb4 (RunV.move rfl) fun a hf=>og (v:=iV (lv.length:Int)) hf rfl hb4 (RunV.lenV (e:=2) (by simpa using T_elem_22) rfl (hS.rdAt (j:=3) rfl)) fun a hf=>og (v:=.bool (decide ((lv.length:Int)>(30:Int)))) hf rfl hb4 (RunV.gtr rfl rfl) fun a hf=>?_; refine ov (v:=.bool (((decide ((zs.length:Int)>100)||decide ((bs.length:Int)>120))||(decide ((l.length:Int)>(100:Int))))||(decide ((lv.length:Int)>(30:Int))))) hf rfl (RunV.pick rfl rfl rfl (by rw [hb4]; rfl)) fun a hf=>?_; exact O.nil ⟨rfl,hf.q rfl,hS⟩
  clear hf hS a; rintro a w ⟨hf,hS⟩; refine nk ?_; refine W.if_ hf rfl (fun hbig=>?_) (fun hbig=>?_)
  · have hbigb:=hbig
    try simp only [bsm] at hbig
    refine W.seq ?_
    refine R1 rfl<|mv hf rfl<|fun a hf=>?_; refine nk<|W.ret<|k_then_ret<|post1 hf rfl (ResOK.tmp rfl)<|?_; exact ⟨(),rfl,hS.sub (List.nil_sublist _) |>.noB⟩
  · have hbigb:=hbig
    try simp only [bsm] at hbig
    refine W.skip<|k_seq<|W.seq<|?_
    refine W.regionL (l:=[0,1,2,3,4,5,6,7,8,9]) rfl<|ov hf rfl (RunV.loadN (cs':=#[iV fW,iV fH,vP]) T_agg_24 T_size_24 rfl (hS.p 0 rfl) (bl rfl) rfl)<|fun a hf=>?_; refine mv hf rfl fun a hf=>mv hf rfl fun a hf=>mv hf rfl fun a hf=>?_; refine oc hf rfl C_ok_9 (split9_all fW fH least vP vL vv zs l lv _ (hS.rdAt (j:=0) rfl) (hS.rdAt (j:=2) rfl) (hS.rdAt (j:=3) rfl) hft) ?_; clear hf a; rintro ⟨va,ua⟩ w6 hS1 a hf; try dsimp only at hS1 hf; replace hS:=hS.cl hS1; refine mv hf rfl fun a hf=>ov hf rfl (RunV.extract rfl rfl) fun a hf=>ov hf rfl (RunV.extract rfl rfl) fun a hf=>mv hf rfl fun a hf=>mv hf rfl fun a hf=>?_; refine nk<|W.seq<|?_
    refine W.regionL (l:=[0,1,2,3,4,5,6,7,8,9]) rfl<|ov hf rfl (RunV.loadN (cs':=#[iV fW,iV fH,vP]) T_agg_24 T_size_24 rfl (hS.p 2 rfl) (bl rfl) rfl)<|fun a hf=>?_; refine mv hf rfl fun a hf=>mv hf rfl fun a hf=>mv hf rfl fun a hf=>?_; refine oc hf rfl C_ok_10 (split10_all fW fH least vP vL vv zs l lv _ (hS.rdAt (j:=0) rfl) (hS.rdAt (j:=2) rfl) (hS.rdAt (j:=3) rfl) hft) ?_; clear hf a; rintro ⟨vb,ub⟩ w7 hS1 a hf; try dsimp only at hS1 hf; replace hS:=hS.cl hS1; refine mv hf rfl fun a hf=>ov hf rfl (RunV.extract rfl rfl) fun a hf=>ov hf rfl (RunV.extract rfl rfl) fun a hf=>mv hf rfl fun a hf=>mv hf rfl fun a hf=>?_; refine nk<|W.seq<|?_
    refine W.regionL (l:=[0,1,2,3,4,5,6,7,8,9,10]) rfl<|ov hf rfl (RunV.loadN (cs':=#[iV fW,iV fH,vP]) T_agg_24 T_size_24 rfl (hS.p 4 rfl) (bl rfl) rfl)<|fun a hf=>?_; refine mv hf rfl fun a hf=>mv hf rfl fun a hf=>mv hf rfl fun a hf=>mv hf rfl fun a hf=>?_; refine oc hf rfl C_ok_11 (find11_all fW fH thr least vP vB vv zs bs lv _ (hS.rdAt (j:=0) rfl) (hS.rdAt (j:=1) rfl) (hS.rdAt (j:=3) rfl) hft) ?_; clear hf a; rintro ⟨vc,uc⟩ w8 ⟨hS1,hc⟩ a hf; try dsimp only at hS1 hf; replace hS:=hS.cl hS1; refine mv hf rfl fun a hf=>ov hf rfl (RunV.extract rfl rfl) fun a hf=>ov hf rfl (RunV.extract rfl rfl) fun a hf=>mv hf rfl fun a hf=>mv hf rfl fun a hf=>?_; refine nk<|W.seq<|?_
    refine W.regionL (l:=[0,1,2,3,4,5,6,7,8,9,10]) rfl<|ov hf rfl (RunV.loadN (cs':=#[iV fW,iV fH,vP]) T_agg_24 T_size_24 rfl (hS.p 6 rfl) (bl rfl) rfl)<|fun a hf=>?_; refine mv hf rfl fun a hf=>mv hf rfl fun a hf=>mv hf rfl fun a hf=>mv hf rfl fun a hf=>?_; refine oc hf rfl C_ok_12 (find12_all fW fH thr least vP vB vv zs bs lv _ (hS.rdAt (j:=0) rfl) (hS.rdAt (j:=1) rfl) (hS.rdAt (j:=3) rfl) hft) ?_; clear hf a; rintro ⟨vd,ud⟩ w9 ⟨hS1,hd⟩ a hf; try dsimp only at hS1 hf; replace hS:=hS.cl hS1; refine mv hf rfl fun a hf=>ov hf rfl (RunV.extract rfl rfl) fun a hf=>ov hf rfl (RunV.extract rfl rfl) fun a hf=>mv hf rfl fun a hf=>mv hf rfl fun a hf=>?_; refine nk<|W.seq<|?_
    refine W.regionL (l:=[0,1,2,3,4,5,6,7,8,9,10,11,12,13,14,15,16,17,18]) rfl<|mv hf rfl<|fun a hf=>?_; refine mv hf rfl fun a hf=>?_; refine oc hf rfl C_ok_13 (sameSets_refl va vb ua ub (Det.splitR fW fH least zs l lv) _ (hS.slr (j:=6) rfl) (hS.slr (j:=4) rfl) (hS.innAt (j:=7) rfl) (hS.innAt (j:=5) rfl)) ?_; clear hf a; rintro _ w10 hS1 a hf; replace hS:=hS.cl hS1; refine mv hf rfl fun a hf=>og (v:=iV (Det.splitE fW fH least zs l lv)) hf rfl rfl (RunV.move rfl) fun a hf=>og (v:=iV (Det.splitE fW fH least zs l lv)) hf rfl rfl (RunV.move rfl) fun a hf=>og (v:=.bool true) hf rfl rfl (RunV.toB (RunV.eql rfl rfl) (decide_eq_true rfl)) fun a hf=>ov (v:=.bool true) hf rfl (RunV.pick rfl rfl rfl rfl) fun a hf=>mv hf rfl fun a hf=>og (v:=vc) hf rfl rfl (RunV.move rfl) fun a hf=>og (v:=vd) hf rfl rfl (RunV.move rfl) fun a hf=>?_; have hcl:uc.length≤10000:=by
      have e1:=congrArg List.length hc; have e2:=Det.findR_len (fW:=fW) (fH:=fH) (thr:=thr) (least:=least) (zs:=zs) (bs:=bs) (lv:=lv); rw [List.length_map] at e1; dsimp only at e1
      omega
    refine O.gcallR hf rfl rfl rfl rfl rfl rfl (RunE.call (av:=#[vc,vd]) C_ok_14 rfl rfl rfl) (sb14 vc vd uc ud _ (hc.trans hd.symm) hcl (hS.slr (j:=2) rfl) (hS.slr (j:=0) rfl) (hS.innAt (j:=3) rfl) (hS.innAt (j:=1) rfl)) ?_; clear hf a; rintro _ w11 hS1 a hf; replace hS:=hS.cl hS1; refine ov (v:=.bool true) hf rfl (RunV.pick rfl rfl rfl rfl) fun a hf=>mv hf rfl fun a hf=>og (v:=iV (Det.findE fW fH thr least zs bs lv)) hf rfl rfl (RunV.move rfl) fun a hf=>og (v:=iV (Det.findE fW fH thr least zs bs lv)) hf rfl rfl (RunV.move rfl) fun a hf=>og (v:=.bool true) hf rfl rfl (RunV.toB (RunV.eql rfl rfl) (decide_eq_true rfl)) fun a hf=>ov (v:=.bool true) hf rfl (RunV.pick rfl rfl rfl rfl) fun a hf=>mv hf rfl fun a hf=>?_; refine nk<|W.ret<|post1 hf rfl (ResOK.tmp rfl)<|?_; exact ⟨(),rfl,hS.sub (List.nil_sublist _) |>.noB⟩
end Go.Proofs.YtipfobacinmoiaaGreat

namespace Go.SL
open Go Go.ChangeShapes Go.WideShapes Go.ChangeAt Go.RowKit
inductive LK where
  | int (k:IntKind)
  | bool
  | str
def LK.ok:LK→Value→Prop
  | .int k,v=>∃ n,v=.int k n∧(Lit.int k n).wf=true
  | .bool,v=>∃ b,v=.bool b
  | .str,v=>∃ s:ByteArray,v=.string s∧s.size≤maxLen
def AllK:List LK→List Value→Prop
  | [],cs=>cs=[]
  | k::ks,cs=>∃ v t,cs=v::t∧k.ok v∧AllK ks t
theorem AllK.app:∀ {ks ks':List LK} {a b:List Value},AllK ks a→AllK ks' b→AllK (ks++ks') (a++b)
  | [],_,a,b,h1,h2=>by
    have h1:a=[]:=h1
    subst h1; exact h2
  | k::ks,_,a,b,⟨v,t,h1,h2,h3⟩,h4=>by
    subst h1
    exact ⟨v,t++b,rfl,h2,AllK.app h3 h4⟩
def leafFs (P:Program) (f:TypeId→Option (List LK)):List Field→Nat→Option (List LK × Nat)
  | [],o=>some ([],o)
  | g::t,o=>if Nat.beq g.offset o=true then
      match f g.type with
      | some ks=>if Nat.beq ks.length (P.cellsOf g.type)=true then
          match leafFs P f t (o+ks.length) with
          | some (r,o')=>some (ks++r,o')
          | none=>none
        else none
      | none=>none
    else none
def leafK (P:Program):Nat→TypeId→Option (List LK)
  | 0,_=>none
  | d+1,t=>match P.underlying t with
    | some (.int k)=>some [.int k]
    | some .bool=>some [.bool]
    | some .string=>some [.str]
    | some (.struct fs)=>match leafFs P (leafK P d) fs.toList 0 with
      | some (ks,o)=>if Nat.beq o (P.cellsOf t)=true then some ks else none
      | none=>none
    | some (.array n e)=>match leafK P d e with
      | some ks=>if (Nat.beq ks.length (P.cellsOf e)&&Nat.beq (n*ks.length) (P.cellsOf t))=true then some (List.replicate n ks).flatten else none
      | none=>none
    | _=>none
section
variable {H:Type} {enc:TypeId × Value→H} {P:Program} {w:World} {base:Nat} {spare:Nat→Bool} {held:Bool}
end
theorem Below.trodAll {H:Type} {enc:TypeId × Value→H} {P:Program} (hl:laidOutB P=true) {W W':World} (hb:RowKit.Below W.heap.size W W'):∀ (ts:List TypeId) (vs:List Value) (ds:List (DataW H)) (p:List MemPlace),
    (ts.all fun t=>P.readableRec t&&Nat.blt t P.types.size)=true→DataW.TrodAll enc P W 0 (fun _=>true) true ts vs ds p→(∀ x ∈ p,x.block<W.heap.size)→DataW.TrodAll enc P W' 0 (fun b=>decide (b<W.heap.size)) true ts vs ds p
  | [],[],[],p,_,h,_=>h
  | [],[],_::_,p,_,h,_=>by simp [DataW.TrodAll] at h
  | [],_::_,_,p,_,h,_=>by simp [DataW.TrodAll] at h
  | _::_,[],_,p,_,h,_=>by simp [DataW.TrodAll] at h
  | _::_,_::_,[],p,_,h,_=>by simp [DataW.TrodAll] at h
  | t::ts,v::vs,d::ds,p,ha,h,hlt=>by
    simp only [List.all_cons,Bool.and_eq_true] at ha
    obtain ⟨p1,p2,h1,h2,rfl⟩:=h
    exact ⟨p1,p2,RowKit.Below.trod hl ha.1.1 (by simpa using ha.1.2) h1 hb (fun x hx=>hlt x (List.mem_append_left _ hx)),Below.trodAll hl hb ts vs ds p2 ha.2 h2 (fun x hx=>hlt x (List.mem_append_right _ hx)),rfl⟩
theorem trodAll_uncons {H:Type} {enc:TypeId × Value→H} {P:Program} {w:World} {base:Nat} {spare:Nat→Bool} {held:Bool} {t:TypeId} {ts:List TypeId} {args:List Value} {ds:List (DataW H)} {p:List MemPlace}
    (h:DataW.TrodAll enc P w base spare held (t::ts) args ds p):∃ v vs d ds' p1 p2,args=v::vs∧ds=d::ds'∧DataW.Trod enc P w base spare held t v d p1∧DataW.TrodAll enc P w base spare held ts vs ds' p2∧p=p1++p2:=by
  cases args with
  | nil=>simp [DataW.TrodAll] at h
  | cons v vs =>
    cases ds with
    | nil=>simp [DataW.TrodAll] at h
    | cons d ds' =>
      obtain ⟨p1,p2,h1,h2,rfl⟩:=h
      exact ⟨v,vs,d,ds',p1,p2,rfl,rfl,h1,h2,rfl⟩
theorem trodAll_unnil {H:Type} {enc:TypeId × Value→H} {P:Program} {w:World} {base:Nat} {spare:Nat→Bool} {held:Bool} {args:List Value} {ds:List (DataW H)} {p:List MemPlace}
    (h:DataW.TrodAll enc P w base spare held [] args ds p):args=[]∧ds=[]:=by
  cases args with
  | nil =>
    cases ds with
    | nil=>exact ⟨rfl,rfl⟩
    | cons=>simp [DataW.TrodAll] at h
  | cons=>simp [DataW.TrodAll] at h
end Go.SL

namespace Go.Proofs.YtipfobacinmoiaaGreat
open Go Go.SL Go.ChangeShapes Go.WideShapes Go.ChangeAt Go.RowKit
theorem rdOK_cells {W:World} {a:Addr} {len cap:Nat} {xs:List Value} (hl:xs.length=len) (hm:len≤maxLen) (h:∀ i u,xs[i]? = some u→W.cell? (a.add i)=some u):rdOK (hp W) 1 (.slice (some a) len cap) len xs:=by
  refine ⟨by omega,hm,some a,cap,rfl,fun hn=>?_⟩
  have h0:=h 0 (xs[0]'(by omega)) (by simp [hl,hn])
  unfold World.cell? at h0
  cases hb:W.heap[a.block]? with
  | none=>simp [Addr.add,hb] at h0
  | some o =>
    cases o with
    | cells cur e z =>
      have hs:a.spot=none:=by
        cases hs:a.spot with
        | none=>rfl
        | some s=>simp [Addr.add,hb,hs] at h0
      refine ⟨a,cur,e,z,rfl,hs,hb,fun j u hj=>?_⟩
      have:=h j u hj
      have ea:a.add j=⟨a.block,a.off+j,none⟩:=by
        obtain ⟨b,o,sp⟩:=a
        simp only at hs
        subst hs
        simp [Addr.add]
      rw [ea] at this
      unfold World.cell? at this
      simpa [hb] using this
    | _=>simp [Addr.add,hb] at h0
theorem Tryz.own:ownKnob Tryz.prog.godebug=none:=by kernel_rfl
theorem Tryz.laidOut:laidOutB Tryz.prog=true:=by kernel_rfl
set_option maxRecDepth 100000 in
theorem detectSplits_lifted (os:Os) (started:os.Started) (H:Type) (enc:TypeId × Value→H) :
    ReturnsInHanded {} Tryz.checked os 3 .any (Rows.detectSplitsSpec.pre6 enc Tryz.prog Tryz.f3 Rows.detectSplitsRow.domain false) (Rows.detectSplitsSpec.post enc Tryz.prog Tryz.f3 false true false false):=by
  refine returnsInHanded_of_change (C:=Tryz.checked) Tryz.own started (by kernel_rfl) Tryz.func3
    (ChangeSpec.witness6 (enc:=enc) (C:=Tryz.checked) false ⟨#[],#[.agg #[.int .i64 0,.int .i64 0,.slice none 0 0],.slice none 0 0,.slice none 0 0,.slice none 0 0,.int .i64 0,.int .i64 0],[]⟩ 8 (by kernel_rfl) (by kernel_rfl) (by kernel_rfl) (by kernel_rfl)) ?_
  intro W base args ds gs before hval0 hW hcnd _
  have hval:∀ (j:Nat) t v,Tryz.f3.params[j]? = some t→args[j]? = some v→Value.okWide Tryz.prog W .any base t v:=hval0
  have hW':=hW
  obtain ⟨p,q,hA0,hV,rfl,hfz,hnd⟩:=hW
  have hA:DataW.TrodAll enc Tryz.prog W 0 (fun _=>true) true [24,25,26,22,2,3] args.toList ds p:=hA0
  obtain ⟨rfl,rfl⟩:=trodVars_none hV
  have hA':=hA
  obtain ⟨v0,a0,d0,ds0,p0,q0,e1,rfl,t0,hB0,rfl⟩:=trodAll_uncons hA
  obtain ⟨v1,a1,d1,ds1,p1,q1,rfl,rfl,t1,hB1,rfl⟩:=trodAll_uncons hB0
  obtain ⟨v2,a2,d2,ds2,p2,q2,rfl,rfl,t2,hB2,rfl⟩:=trodAll_uncons hB1
  obtain ⟨v3,a3,d3,ds3,p3,q3,rfl,rfl,t3,hB3,rfl⟩:=trodAll_uncons hB2
  obtain ⟨v4,a4,d4,ds4,p4,q4,rfl,rfl,t4,hB4,rfl⟩:=trodAll_uncons hB3
  obtain ⟨v5,a5,d5,ds5,p5,q5,rfl,rfl,t5,hB5,rfl⟩:=trodAll_uncons hB4
  obtain ⟨rfl,rfl⟩:=trodAll_unnil hB5
  obtain rfl:args=#[v0,v1,v2,v3,v4,v5]:=by
    apply Array.ext'
    simpa using e1
  obtain ⟨fw,fh,vP,y0,y1,y2,m,rfl,rfl,rfl,hy0,hy1,hy2⟩:=Joins.open_agg3 Tryz.underlying24 (by kernel_rfl) (by kernel_rfl) (hval 0 24 v0 rfl rfl) t0
  obtain ⟨a,e0,_,_⟩:=DataW.trod_int Tryz.underlying3 hy0
  obtain ⟨b,e1',_,_⟩:=DataW.trod_int Tryz.underlying3 hy1
  obtain rfl:fw=.int .i64 a:=by simpa using e0
  obtain rfl:fh=.int .i64 b:=by simpa using e1'
  have hP:∃ zs:List Int,rdOK (hp W) 1 vP zs.length (ints zs):=by
    rcases open_ints Tryz.underlying22 Tryz.underlying2 (by kernel_rfl) hy2 with ⟨hc,_⟩ | ⟨ad,len,cap,zs,hc,_,hl,hm,hz,_,hcell,_⟩
    · obtain rfl:vP=.slice none 0 0:=by simpa using hc
      exact ⟨[],⟨rfl,Nat.zero_le _,none,0,rfl,fun h=>absurd h (Nat.lt_irrefl _)⟩⟩
    · obtain rfl:vP=.slice (some ad) len cap:=by simpa using hc
      have hz':zs.length=cap:=by simpa using hz
      have ht:(zs.take len).length=len:=by rw [List.length_take]; omega
      refine ⟨zs.take len,?_⟩
      rw [ht]
      refine rdOK_cells (by rw [Go.SL.ints_len]; exact ht) (by omega) fun i u hu=>?_
      obtain ⟨hi,rfl⟩:=Go.SL.ints_at hu
      rw [hcell i (by omega)]
      congr 2
      simp only [List.getD_eq_getElem?_getD,List.getElem?_take_of_lt (show i<len by omega)]
  obtain ⟨zs,hP⟩:=hP
  have hB_:∃ bs:List Bool,rdOK (hp W) 1 v1 bs.length (bools bs):=by
    obtain ⟨a0,len0,cap0,rfl⟩:=okWide_slice Tryz.underlying25 (hval 1 25 v1 rfl rfl)
    obtain ⟨fuel,hf⟩:=t1
    rcases Deep.open_bools Tryz.underlying25 Tryz.underlying4 (by kernel_rfl) hf with ⟨hc,_⟩ | ⟨ad,len,cap,Bf,hc,_,hl,hm,_,hcell⟩
    · have hc:(Value.slice a0 len0 cap0)=.slice none 0 0:=by simpa [Value.cells] using hc
      rw [hc]
      exact ⟨[],⟨rfl,Nat.zero_le _,none,0,rfl,fun h=>absurd h (Nat.lt_irrefl _)⟩⟩
    · have hc:(Value.slice a0 len0 cap0)=.slice (some ad) len cap:=by simpa [Value.cells] using hc
      rw [hc]
      refine ⟨(List.range len).map Bf,?_⟩
      have ht:((List.range len).map Bf).length=len:=by simp
      rw [ht]
      refine rdOK_cells (by simp [bools]) (by omega) fun i u hu=>?_
      simp only [bools,List.map_map,List.getElem?_map,Option.map_eq_some_iff] at hu
      obtain ⟨j,hj,rfl⟩:=hu
      have hj':=List.getElem?_eq_some_iff.1 hj
      obtain ⟨hi,he⟩:=hj'
      simp only [List.length_range] at hi
      simp only [List.getElem_range] at he
      subst he
      exact hcell i (by omega)
  obtain ⟨bs,hB_⟩:=hB_
  have hL2:∃ zs:List Int,rdOK (hp W) 1 v2 zs.length (ints zs)∧vfit v2:=by
    obtain ⟨a0,len0,cap0,rfl⟩:=okWide_slice Tryz.underlying26 (hval 2 26 v2 rfl rfl)
    obtain ⟨fuel,hf⟩:=t2
    rcases open_ints Tryz.underlying26 Tryz.underlying3 (by kernel_rfl) hf with ⟨hc,_⟩ | ⟨ad,len,cap,zs,hc,_,hl,hm,hz,_,hcell,_⟩
    · have hc:(Value.slice a0 len0 cap0)=.slice none 0 0:=by simpa [Value.cells] using hc
      rw [hc]
      exact ⟨[],⟨rfl,Nat.zero_le _,none,0,rfl,fun h=>absurd h (Nat.lt_irrefl _)⟩,Nat.le_refl _⟩
    · have hc:(Value.slice a0 len0 cap0)=.slice (some ad) len cap:=by simpa [Value.cells] using hc
      rw [hc]
      have hz':zs.length=cap:=by simpa using hz
      have ht:(zs.take len).length=len:=by rw [List.length_take]; omega
      refine ⟨zs.take len,?_,(by show len≤cap; omega)⟩
      rw [ht]
      refine rdOK_cells (by rw [Go.SL.ints_len]; exact ht) (by omega) fun i u hu=>?_
      obtain ⟨hi,rfl⟩:=Go.SL.ints_at hu
      rw [hcell i (by omega)]
      congr 2
      simp only [List.getD_eq_getElem?_getD,List.getElem?_take_of_lt (show i<len by omega)]
  obtain ⟨l2,hL2⟩:=hL2
  have hL3:∃ zs:List Int,rdOK (hp W) 1 v3 zs.length (ints zs)∧vfit v3:=by
    obtain ⟨a0,len0,cap0,rfl⟩:=okWide_slice Tryz.underlying22 (hval 3 22 v3 rfl rfl)
    obtain ⟨fuel,hf⟩:=t3
    rcases open_ints Tryz.underlying22 Tryz.underlying2 (by kernel_rfl) hf with ⟨hc,_⟩ | ⟨ad,len,cap,zs,hc,_,hl,hm,hz,_,hcell,_⟩
    · have hc:(Value.slice a0 len0 cap0)=.slice none 0 0:=by simpa [Value.cells] using hc
      rw [hc]
      exact ⟨[],⟨rfl,Nat.zero_le _,none,0,rfl,fun h=>absurd h (Nat.lt_irrefl _)⟩,Nat.le_refl _⟩
    · have hc:(Value.slice a0 len0 cap0)=.slice (some ad) len cap:=by simpa [Value.cells] using hc
      rw [hc]
      have hz':zs.length=cap:=by simpa using hz
      have ht:(zs.take len).length=len:=by rw [List.length_take]; omega
      refine ⟨zs.take len,?_,(by show len≤cap; omega)⟩
      rw [ht]
      refine rdOK_cells (by rw [Go.SL.ints_len]; exact ht) (by omega) fun i u hu=>?_
      obtain ⟨hi,rfl⟩:=Go.SL.ints_at hu
      rw [hcell i (by omega)]
      congr 2
      simp only [List.getD_eq_getElem?_getD,List.getElem?_take_of_lt (show i<len by omega)]
  obtain ⟨l3,hL3⟩:=hL3
  obtain ⟨x4,rfl,rfl,rfl,w4⟩:=open_int Tryz.underlying2 (hval 4 2 v4 rfl rfl) t4
  obtain ⟨x5,rfl,rfl,rfl,w5⟩:=open_int Tryz.underlying3 (hval 5 3 v5 rfl rfl) t5
  refine Calls.mono (splits_law a b x4 x5 vP v1 v2 v3 zs bs l2 l3 W hP hB_ hL2.1 hL3.1 hL3.2) fun e W' ⟨_,he,hS⟩=>?_
  subst he
  have hb:RowKit.Below W.heap.size W W':=⟨hS.os,hS.tape,hS.output,hS.size,fun k hk=>hS.old k hk (fun h=>h)⟩
  refine ⟨_,rfl,_,_,_,[],(y0.2++(y1.2++y2.2))++(p1++(p2++(p3++([]++([]++q5))))),[],hW',trodAll_mk1 (shut_bool Tryz.underlying4 true),?_,?_,hb.frame _,fun h=>by cases h⟩
  · have hl:=hW'.lt
    simp only [List.append_nil] at hl
    exact Below.trodAll Tryz.laidOut hb _ _ _ _ (by kernel_rfl) hA' (fun x hx=>hl x (by simpa using hx))
  · rfl
theorem detectSplits_holds:Rows.DetectSplitsSaid :=
  OpenClaim.holds_of_wide 3 Tryz.f3 rfl rfl rfl rfl rfl rfl rfl ⟨rfl,rfl,rfl,rfl,rfl⟩ rfl rfl rfl rfl rfl (by kernel_rfl) Tryz.func3 (by kernel_rfl)
    (of_decide_eq_true (by kernel_rfl)) (by unfold Func.isWrapper; first | (rw [if_pos (by decide +kernel)]; kernel_rfl) | (rw [if_neg (by decide +kernel)]; exact ⟨rfl,rfl⟩))
    (fun os started H enc _=>detectSplits_lifted os started H enc)
#print axioms detectSplits_holds
end Go.Proofs.YtipfobacinmoiaaGreat
