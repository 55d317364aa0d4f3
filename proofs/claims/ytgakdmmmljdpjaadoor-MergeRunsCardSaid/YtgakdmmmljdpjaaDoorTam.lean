/- Part of a proof: laws and walks. -/
import Derived.Test.YtgakdmmmljdpjaaDoorTac
import Derived.Test.YtgakdmmmljdpjaaDoorTal
import Derived.Test.YtgakdmmmljdpjaaDoorTak
set_option linter.unusedVariables false
set_option linter.unusedSimpArgs false
set_option maxHeartbeats 1000000
set_option maxRecDepth 8000
namespace Go.Proofs.YtgakdmmmljdpjaaDoor
open Go Go.SL
theorem C_ok_20:callOK Tryd.prog 20=true:=by kernel_rfl
theorem T_field_46_1:tField Tryd.prog 46 1=some 5:=by kernel_rfl
theorem T_places_26:tPlaces Tryd.prog 26=some #[(0,1),(1,5),(6,5),(11,1)]:=by kernel_rfl
set_option maxHeartbeats 400000 in
set_option maxRecDepth 4000 in
theorem sameObject_spec (p q:Dg) (v u:Value) (lp lq:List Dg) (w0:World) (h1:rdOK (hp w0) 5 v lp.length (encs eD lp)) (h2:rdOK (hp w0) 5 u lq.length (encs eD lq)) :
    Ret Tryd.prog 20 #[.agg #[.int .i64 p.num,.int .i64 p.yr,.int .u8 p.half,.int .u8 p.sec,.int .i64 p.cyc,v],.agg #[.int .i64 q.num,.int .i64 q.yr,.int .u8 q.half,.int .u8 q.sec,.int .i64 q.cyc,u]] w0 (G:=Unit) (fun _=>.bool (decide (p=q∧lp=lq))) (fun _ w=>St w0 w noX [] []):=by
  refine ret_of_W (lv:=[.agg #[.int .i64 p.num,.int .i64 p.yr,.int .u8 p.half,.int .u8 p.sec,.int .i64 p.cyc,v],.agg #[.int .i64 q.num,.int .i64 q.yr,.int .u8 q.half,.int .u8 q.sec,.int .i64 q.cyc,u]]) Tryd.func20 rfl rfl rfl (fun a hf=>?_); replace hf:Fr a 38 [] [(0,.agg #[.int .i64 p.num,.int .i64 p.yr,.int .u8 p.half,.int .u8 p.sec,.int .i64 p.cyc,v]),(1,.agg #[.int .i64 q.num,.int .i64 q.yr,.int .u8 q.half,.int .u8 q.sec,.int .i64 q.cyc,u])]:=hf; have hS:St w0 w0 noX [rdv 5 v lp.length (encs eD lp),rdv 5 u lq.length (encs eD lq)] []:=((St.refl w0).lend0 h2).lend0 h1; have hlm1:=h1.2.1; have hlm2:=h2.2.1; unfold maxLen at hlm1 hlm2; clear h1 h2; refine W.seq ?_
  refine W.regionL (l:=[0,1,2]) rfl<|O.box (cs:=#[.int .i64 p.num,.int .i64 p.yr,.int .u8 p.half,.int .u8 p.sec,.int .i64 p.cyc,v]) hf hS rfl rfl rfl rfl<|?_; intro b_a1 w a hbb_a1 hS hf; refine O.box (cs:=#[.int .i64 q.num,.int .i64 q.yr,.int .u8 q.half,.int .u8 q.sec,.int .i64 q.cyc,u]) hf hS rfl rfl rfl rfl ?_; intro b_b2 w a hbb_b2 hS hf; refine mv hf rfl ?_; clear hf a; intro a hf; refine nk<|W.seq<|W.seq<|?_
  refine W.regionL (l:=[0,1,2,3,4,5,6,7,8,9,10,11,12,13]) rfl<|ov hf rfl (RunV.field T_field_46_0 rfl rfl)<|?_; clear hf a; intro a hf; refine ov hf rfl (RunV.loadN (cs':=(aD p)) T_agg_24 T_size_24 rfl (hS.p 1 rfl) (bl rfl) rfl) ?_; clear hf a; intro a hf; refine ov hf rfl (RunV.field T_field_46_0 rfl rfl) ?_; clear hf a; intro a hf; refine ov hf rfl (RunV.loadN (cs':=(aD q)) T_agg_24 T_size_24 rfl (hS.p 0 rfl) (bl rfl) rfl) ?_; clear hf a; intro a hf; refine ov hf rfl (neD rfl p q eqGuard24 rfl rfl) ?_; clear hf a; intro a hf; refine mv hf rfl ?_; clear hf a; intro a hf
  refine O.cutN (l₁:=[6,7,8,9,10,11,12,13]) (l₂:=_) (fun a w=>Fr a 38 [] [(2,.pointer (some ⟨b_a1,0,none⟩)),(3,.pointer (some ⟨b_b2,0,none⟩)),(4,.bool false),(6,.pointer (some ⟨b_a1,0,none⟩)),(7,.agg (aD p)),(8,.pointer (some ⟨b_b2,0,none⟩)),(9,.agg (aD q)),(10,.bool (!decide (p=q))),(11,.bool (!decide (p=q))),(19,.bool ((!decide (p=q))||(decide ((lp.length:Int)≠((lq.length:Int):Int)))))]∧St w0 w noX [rdv 5 v lp.length (encs eD lp),rdv 5 u lq.length (encs eD lq)] [pt b_b2 (.cells #[.int .i64 q.num,.int .i64 q.yr,.int .u8 q.half,.int .u8 q.sec,.int .i64 q.cyc,u] 46 (0,0)),pt b_a1 (.cells #[.int .i64 p.num,.int .i64 p.yr,.int .u8 p.half,.int .u8 p.sec,.int .i64 p.cyc,v] 46 (0,0))]) rfl ?_ ?_
  · rcases Bool.eq_false_or_eq_true (!decide (p=q)) with hb3 | hb3
    · have hb3p:=hb3
      try simp only [Bool.and_eq_true,Bool.or_eq_true,Bool.and_eq_false_iff,Bool.or_eq_false_iff,decide_eq_true_eq,decide_eq_false_iff_not,Bool.not_eq_true',Bool.not_eq_false',Bool.not_eq_true,Bool.not_eq_false,ne_eq] at hb3p
      refine sk hf rfl hb3 fun a hf=>sk hf rfl hb3 fun a hf=>sk hf rfl hb3 fun a hf=>sk hf rfl hb3 fun a hf=>sk hf rfl hb3 fun a hf=>sk hf rfl hb3 fun a hf=>sk hf rfl hb3 fun a hf=>?_; refine ov (v:=.bool ((!decide (p=q))||(decide ((lp.length:Int)≠((lq.length:Int):Int))))) hf rfl (RunV.pick rfl rfl rfl (by rw [hb3]; rfl)) ?_; clear hf a; intro a hf; exact O.nil ⟨rfl,hf.q rfl,hS⟩
    · have hb3p:=hb3
      try simp only [Bool.and_eq_true,Bool.or_eq_true,Bool.and_eq_false_iff,Bool.or_eq_false_iff,decide_eq_true_eq,decide_eq_false_iff_not,Bool.not_eq_true',Bool.not_eq_false',Bool.not_eq_true,Bool.not_eq_false,ne_eq] at hb3p
      refine og (v:=.pointer (some ⟨b_a1,5,none⟩)) hf rfl hb3 (RunV.field T_field_46_1 rfl rfl) ?_; clear hf a; intro a hf; refine og (v:=v) hf rfl hb3 (RunV.load1 T_agg_35 rfl (hS.p 1 rfl) rfl) ?_; clear hf a; intro a hf; refine og (v:=.int .i64 (lp.length:Int)) hf rfl hb3 (RunV.lenV (e:=24) (by simpa using T_elem_35) rfl (hS.rdAt (j:=0) rfl)) ?_; clear hf a; intro a hf; refine og (v:=.pointer (some ⟨b_b2,5,none⟩)) hf rfl hb3 (RunV.field T_field_46_1 rfl rfl) ?_; clear hf a; intro a hf; refine og (v:=u) hf rfl hb3 (RunV.load1 T_agg_35 rfl (hS.p 0 rfl) rfl) ?_; clear hf a; intro a hf; refine og (v:=.int .i64 (lq.length:Int)) hf rfl hb3 (RunV.lenV (e:=24) (by simpa using T_elem_35) rfl (hS.rdAt (j:=1) rfl)) ?_; clear hf a; intro a hf; refine og (v:=.bool (decide ((lp.length:Int)≠((lq.length:Int):Int)))) hf rfl hb3 (RunV.neq rfl rfl) ?_; clear hf a; intro a hf; refine ov (v:=.bool ((!decide (p=q))||(decide ((lp.length:Int)≠((lq.length:Int):Int))))) hf rfl (RunV.pick rfl rfl rfl (by rw [hb3]; rfl)) ?_; clear hf a; intro a hf; exact O.nil ⟨rfl,hf.q rfl,hS⟩
  clear hf hS a; rintro a w ⟨hf,hS⟩; refine nk ?_; refine W.if_ hf rfl (fun hne=>?_) (fun hne=>?_)
  · have hneb:=hne
    try simp only [Bool.and_eq_true,Bool.or_eq_true,Bool.and_eq_false_iff,Bool.or_eq_false_iff,decide_eq_true_eq,decide_eq_false_iff_not,Bool.not_eq_true',Bool.not_eq_false',Bool.not_eq_true,Bool.not_eq_false,ne_eq] at hne
    refine W.seq ?_
    refine W.regionL (l:=[0]) rfl<|mv hf rfl<|?_; clear hf a; intro a hf; refine nk<|W.ret<|k_then_ret<|post1 hf rfl (ResOK.tmp rfl)<|?_; exact ⟨(),congrArg (fun b=>Ending.returned (Value.bool b)) (by first | exact (sameO_1 hne).symm | exact (sameO_2 (by omega) hd).symm),hS.sub (List.nil_sublist _) |>.noB⟩
  · have hneb:=hne
    try simp only [Bool.and_eq_true,Bool.or_eq_true,Bool.and_eq_false_iff,Bool.or_eq_false_iff,decide_eq_true_eq,decide_eq_false_iff_not,Bool.not_eq_true',Bool.not_eq_false',Bool.not_eq_true,Bool.not_eq_false,ne_eq] at hne
    refine W.skip<|k_seq<|W.seq<|W.seq<|?_
    refine W.regionL (l:=[0]) rfl<|mv hf rfl<|?_; clear hf a; intro a hf; refine nk<|W.block<|?_
    refine W.loop (G:=(Nat)) (fun g a w=>match g with | k=>Fr a 38 [] [(2,.pointer (some ⟨b_a1,0,none⟩)),(3,.pointer (some ⟨b_b2,0,none⟩)),(5,.int .i64 (k:Int))]∧St w0 w noX [rdv 5 v lp.length (encs eD lp),rdv 5 u lq.length (encs eD lq)] [pt b_b2 (.cells #[.int .i64 q.num,.int .i64 q.yr,.int .u8 q.half,.int .u8 q.sec,.int .i64 q.cyc,u] 46 (0,0)),pt b_a1 (.cells #[.int .i64 p.num,.int .i64 p.yr,.int .u8 p.half,.int .u8 p.sec,.int .i64 p.cyc,v] 46 (0,0))]∧(k≤lp.length)∧(∀ j,j<k→lp.getD j default=lq.getD j default)) (fun g=>match g with | k=>lp.length-k) 0 ?_ ?_
    · refine ⟨hf.to ⟨rfl,rfl,(by first | rfl | exact congrArg some (congrArg (Value.int _) (by omega))),trivial⟩,hS,?_,?_⟩
      · omega
      · intro j hj; omega
    clear hf hS a; rintro k a w ⟨hf,hS,hk,h2⟩; refine W.seq<|W.seq<|?_
    refine W.regionL (l:=[0,1,2,3,4]) rfl<|mv hf rfl<|?_; clear hf a; intro a hf; refine ov hf rfl (RunV.field T_field_46_1 rfl rfl) ?_; clear hf a; intro a hf; refine ov hf rfl (RunV.load1 T_agg_35 rfl (hS.p 1 rfl) rfl) ?_; clear hf a; intro a hf; refine ov hf rfl (RunV.lenV (e:=24) (by simpa using T_elem_35) rfl (hS.rdAt (j:=0) rfl)) ?_; clear hf a; intro a hf; refine ov (v:=.bool (decide ((k:Int)<((lp.length:Int):Int)))) hf rfl (RunV.lss rfl rfl) ?_; clear hf a; intro a hf; refine nk ?_; refine W.ifdI hf rfl (fun hlt=>?_) (fun hlt=>?_)
    · refine W.skip ?_
      refine k_seq<|W.seq<|W.block<|W.seq<|?_
      refine W.drawQ (fun w=>St w0 w noX [rdv 5 v lp.length (encs eD lp),rdv 5 u lq.length (encs eD lq)] [pt b_b2 (.cells #[.int .i64 q.num,.int .i64 q.yr,.int .u8 q.half,.int .u8 q.sec,.int .i64 q.cyc,u] 46 (0,0)),pt b_a1 (.cells #[.int .i64 p.num,.int .i64 p.yr,.int .u8 p.half,.int .u8 p.sec,.int .i64 p.cyc,v] 46 (0,0))]) P_mixed rfl (by kernel_rfl) rfl hS.drew ?_; clear hS; refine OQ.val (v:=.pointer (some ⟨b_a1,5,none⟩)) hf rfl (fun w hS=>RunV.field T_field_46_1 rfl rfl) fun a hf=>OQ.val (v:=v) hf rfl (fun w hS=>RunV.load1 T_agg_35 rfl (hS.p 1 rfl) rfl) fun a hf=>OQ.val (v:=.int .i64 (k:Int)) hf rfl (fun w hS=>RunV.move rfl) fun a hf=>OQ.val (v:=ix v (k*5)) hf rfl (fun w hS=>RunV.ixV (j:=k) (m:=k*5) T_elem_35 T_size_24 rfl rfl (hS.rdAt (j:=0) rfl) rfl (by omega) rfl) fun a hf=>OQ.val (v:=.agg (aD (lp.getD k default))) hf rfl (fun w hS=>RunV.ldG (j:=k) (enc:=eD) (l:=lp) (us:=[.int .i64 ((lp.getD k default).num),.int .i64 ((lp.getD k default).yr),.int .u8 ((lp.getD k default).half),.int .u8 ((lp.getD k default).sec),.int .i64 ((lp.getD k default).cyc)]) T_agg_24 T_size_24 rfl eD_len rfl (hS.rdAt (j:=0) rfl) (by omega) rfl) fun a hf=>OQ.val (v:=.pointer (some ⟨b_b2,5,none⟩)) hf rfl (fun w hS=>RunV.field T_field_46_1 rfl rfl) fun a hf=>OQ.val (v:=u) hf rfl (fun w hS=>RunV.load1 T_agg_35 rfl (hS.p 0 rfl) rfl) fun a hf=>OQ.val (v:=.int .i64 (k:Int)) hf rfl (fun w hS=>RunV.move rfl) fun a hf=>OQ.val (v:=ix u (k*5)) hf rfl (fun w hS=>RunV.ixV (j:=k) (m:=k*5) T_elem_35 T_size_24 rfl rfl (hS.rdAt (j:=1) rfl) rfl (by omega) rfl) fun a hf=>OQ.val (v:=.agg (aD (lq.getD k default))) hf rfl (fun w hS=>RunV.ldG (j:=k) (enc:=eD) (l:=lq) (us:=[.int .i64 ((lq.getD k default).num),.int .i64 ((lq.getD k default).yr),.int .u8 ((lq.getD k default).half),.int .u8 ((lq.getD k default).sec),.int .i64 ((lq.getD k default).cyc)]) T_agg_24 T_size_24 rfl eD_len rfl (hS.rdAt (j:=1) rfl) (by omega) rfl) fun a hf=>?_; refine OQ.val (v:=.bool (!decide ((lp.getD k default)=(lq.getD k default)))) hf rfl (fun w hS=>neD rfl (lp.getD k default) (lq.getD k default) eqGuard24 rfl rfl) fun a hf=>?_; refine OQ.nil ?_; intro w hS; refine k_seq ?_; refine W.if_ hf rfl (fun hd=>?_) (fun hd=>?_)
      · have hdb:=hd
        try simp only [Bool.and_eq_true,Bool.or_eq_true,Bool.and_eq_false_iff,Bool.or_eq_false_iff,decide_eq_true_eq,decide_eq_false_iff_not,Bool.not_eq_true',Bool.not_eq_false',Bool.not_eq_true,Bool.not_eq_false,ne_eq] at hd
        refine W.seq ?_
        refine W.regionL (l:=[0]) rfl<|mv hf rfl<|?_; clear hf a; intro a hf; refine nk<|W.ret<|k_blk_ret<|k_then_ret<|k_then_ret<|k_blk_ret<|k_then_ret<|post1 hf rfl (ResOK.tmp rfl)<|?_; exact ⟨(),congrArg (fun b=>Ending.returned (Value.bool b)) (by first | exact (sameO_1 hne).symm | exact (sameO_2 (by omega) hd).symm),hS.sub (List.nil_sublist _) |>.noB⟩
      · have hdb:=hd
        try simp only [Bool.and_eq_true,Bool.or_eq_true,Bool.and_eq_false_iff,Bool.or_eq_false_iff,decide_eq_true_eq,decide_eq_false_iff_not,Bool.not_eq_true',Bool.not_eq_false',Bool.not_eq_true,Bool.not_eq_false,ne_eq] at hd
        refine W.skip<|k_blk_normal<|k_seq<|?_
        refine W.regionL (l:=[0,1,2]) rfl<|mv hf rfl<|?_; clear hf a; intro a hf; refine ov hf rfl (RunV.addI rfl rfl (by omega)) ?_; clear hf a; intro a hf; refine mv hf rfl ?_; clear hf a; intro a hf; refine O.nil ?_; refine k_then ⟨(k+1),⟨hf.to ⟨rfl,rfl,(by first | rfl | exact congrArg some (congrArg (Value.int _) (by omega))),trivial⟩,?_,?_,?_⟩,?_⟩
        · exact hS.eqM rfl
        · omega
        · intro j hj; by_cases hjk:j<k
          · exact h2 j hjk
          · have:j=k:=by omega
            subst this; exact hd
        · dsimp only; omega
    · refine W.exit ?_
      refine k_then_exit<|k_then_exit<|k_blk<|k_seq<|?_; replace hf:Fr a 38 [] []:=hf.to trivial; refine W.seq ?_
      refine W.regionL (l:=[0]) rfl<|mv hf rfl<|?_; clear hf a; intro a hf; refine nk<|W.ret<|post1 hf rfl (ResOK.tmp rfl)<|?_; exact ⟨(),congrArg (fun b=>Ending.returned (Value.bool b)) (sameO_3 hne.1 (by omega) (fun j hj=>h2 j (by omega))).symm,hS.sub (List.nil_sublist _) |>.noB⟩
set_option maxHeartbeats 400000 in
set_option maxRecDepth 4000 in
theorem same_spec (va:Value) (xs:List Ob) (vb:Value) (ys:List Ob) (w0:World) (ha:rdOK (hp w0) 6 va xs.length (encs eO xs)) (hb:rdOK (hp w0) 6 vb ys.length (encs eO ys)) (hx:obsRd w0 xs) (hy:obsRd w0 ys) :
    Ret Tryd.prog 17 #[va,vb] w0 (G:=Unit) (fun _=>.bool (decide (xs.map prO=ys.map prO))) (fun _ w=>St w0 w noX [] []):=by
  refine ret_of_W (lv:=[va,vb]) Tryd.func17 rfl rfl rfl (fun a hf=>?_); replace hf:Fr a 27 [] [(0,va),(1,vb)]:=hf; have hS:St w0 w0 noX [rdv 6 va xs.length (encs eO xs),rdv 6 vb ys.length (encs eO ys),allA (xs.map rdOb),allA (ys.map rdOb)] []:=((((St.refl w0).lendObs hy).lendObs hx).lend0 hb).lend0 ha; have hlm1:=ha.2.1; have hlm2:=hb.2.1; unfold maxLen at hlm1 hlm2; clear ha hb hx hy; refine W.seq ?_
  refine W.regionL (l:=[0]) rfl<|mv hf rfl<|?_; clear hf a; intro a hf; refine nk<|W.seq<|W.seq<|?_
  refine W.regionL (l:=[0,1,2,3,4]) rfl<|mv hf rfl<|?_; clear hf a; intro a hf; refine ov hf rfl (RunV.lenV (e:=46) (by simpa using T_elem_39) rfl (hS.rdAt (j:=0) rfl)) ?_; clear hf a; intro a hf; refine mv hf rfl ?_; clear hf a; intro a hf; refine ov hf rfl (RunV.lenV (e:=46) (by simpa using T_elem_39) rfl (hS.rdAt (j:=1) rfl)) ?_; clear hf a; intro a hf; refine ov (v:=.bool (decide ((xs.length:Int)≠((ys.length:Int):Int)))) hf rfl (RunV.neq rfl rfl) ?_; clear hf a; intro a hf; refine nk ?_; refine W.ifdI hf rfl (fun hne=>?_) (fun hne=>?_)
  · refine W.seq ?_
    refine W.regionL (l:=[0]) rfl<|mv hf rfl<|?_; clear hf a; intro a hf; refine nk<|W.ret<|k_then_ret<|post1 hf rfl (ResOK.tmp rfl)<|?_; exact ⟨(),congrArg (fun b=>Ending.returned (Value.bool b)) (by first | exact (same_1 hne).symm | exact (same_2 (by omega) hd).symm),hS.sub (List.nil_sublist _) |>.noB⟩
  · refine W.skip ?_
    refine k_seq<|W.seq<|W.seq<|?_
    refine W.regionL (l:=[0]) rfl<|mv hf rfl<|?_; clear hf a; intro a hf; refine nk<|W.block<|?_
    refine W.loop (G:=(Nat)) (fun g a w=>match g with | k=>Fr a 27 [] [(0,va),(1,vb),(5,.int .i64 (k:Int))]∧St w0 w noX [rdv 6 va xs.length (encs eO xs),rdv 6 vb ys.length (encs eO ys),allA (xs.map rdOb),allA (ys.map rdOb)] []∧(k≤xs.length)∧(∀ j,j<k→prO (xs.getD j default)=prO (ys.getD j default))) (fun g=>match g with | k=>xs.length-k) 0 ?_ ?_
    · refine ⟨hf.to ⟨rfl,rfl,(by first | rfl | exact congrArg some (congrArg (Value.int _) (by omega))),trivial⟩,hS,?_,?_⟩
      · omega
      · intro j hj; omega
    clear hf hS a; rintro k a w ⟨hf,hS,hk,h2⟩; refine W.seq<|W.seq<|?_
    refine W.regionL (l:=[0,1,2,3]) rfl<|mv hf rfl<|?_; clear hf a; intro a hf; refine mv hf rfl ?_; clear hf a; intro a hf; refine ov hf rfl (RunV.lenV (e:=46) (by simpa using T_elem_39) rfl (hS.rdAt (j:=0) rfl)) ?_; clear hf a; intro a hf; refine ov (v:=.bool (decide ((k:Int)<((xs.length:Int):Int)))) hf rfl (RunV.lss rfl rfl) ?_; clear hf a; intro a hf; refine nk ?_; refine W.ifdI hf rfl (fun hlt=>?_) (fun hlt=>?_)
    · refine W.skip ?_
      refine k_seq<|W.seq<|W.block<|W.seq<|?_
      refine W.drawQ (fun w=>St w0 w noX [rdv 6 va xs.length (encs eO xs),rdv 6 vb ys.length (encs eO ys),allA (xs.map rdOb),allA (ys.map rdOb)] []) P_mixed rfl (by kernel_rfl) rfl hS.drew ?_; clear hS; refine OQ.val (v:=va) hf rfl (fun w hS=>RunV.move rfl) fun a hf=>OQ.val (v:=.int .i64 (k:Int)) hf rfl (fun w hS=>RunV.move rfl) fun a hf=>OQ.val (v:=ix va (k*6)) hf rfl (fun w hS=>RunV.ixV (j:=k) (m:=k*6) T_elem_39 T_size_46 rfl rfl (hS.rdAt (j:=0) rfl) rfl (by omega) rfl) fun a hf=>OQ.val (v:=.agg #[.int .i64 ((xs.getD k default).p.num),.int .i64 ((xs.getD k default).p.yr),.int .u8 ((xs.getD k default).p.half),.int .u8 ((xs.getD k default).p.sec),.int .i64 ((xs.getD k default).p.cyc),(xs.getD k default).v]) hf rfl (fun w hS=>RunV.ldG (j:=k) (enc:=eO) (l:=xs) (us:=[.int .i64 ((xs.getD k default).p.num),.int .i64 ((xs.getD k default).p.yr),.int .u8 ((xs.getD k default).p.half),.int .u8 ((xs.getD k default).p.sec),.int .i64 ((xs.getD k default).p.cyc),(xs.getD k default).v]) T_agg_46 T_size_46 rfl eO_len rfl (hS.rdAt (j:=0) rfl) (by omega) rfl) fun a hf=>OQ.val (v:=vb) hf rfl (fun w hS=>RunV.move rfl) fun a hf=>OQ.val (v:=.int .i64 (k:Int)) hf rfl (fun w hS=>RunV.move rfl) fun a hf=>OQ.val (v:=ix vb (k*6)) hf rfl (fun w hS=>RunV.ixV (j:=k) (m:=k*6) T_elem_39 T_size_46 rfl rfl (hS.rdAt (j:=1) rfl) rfl (by omega) rfl) fun a hf=>OQ.val (v:=.agg #[.int .i64 ((ys.getD k default).p.num),.int .i64 ((ys.getD k default).p.yr),.int .u8 ((ys.getD k default).p.half),.int .u8 ((ys.getD k default).p.sec),.int .i64 ((ys.getD k default).p.cyc),(ys.getD k default).v]) hf rfl (fun w hS=>RunV.ldG (j:=k) (enc:=eO) (l:=ys) (us:=[.int .i64 ((ys.getD k default).p.num),.int .i64 ((ys.getD k default).p.yr),.int .u8 ((ys.getD k default).p.half),.int .u8 ((ys.getD k default).p.sec),.int .i64 ((ys.getD k default).p.cyc),(ys.getD k default).v]) T_agg_46 T_size_46 rfl eO_len rfl (hS.rdAt (j:=1) rfl) (by omega) rfl) fun a hf=>OQ.callRq (v:=.bool (decide ((xs.getD k default).p=(ys.getD k default).p∧(xs.getD k default).l=(ys.getD k default).l))) hf rfl (fun w hS=>RunE.call (av:=#[.agg #[.int .i64 ((xs.getD k default).p.num),.int .i64 ((xs.getD k default).p.yr),.int .u8 ((xs.getD k default).p.half),.int .u8 ((xs.getD k default).p.sec),.int .i64 ((xs.getD k default).p.cyc),(xs.getD k default).v],.agg #[.int .i64 ((ys.getD k default).p.num),.int .i64 ((ys.getD k default).p.yr),.int .u8 ((ys.getD k default).p.half),.int .u8 ((ys.getD k default).p.sec),.int .i64 ((ys.getD k default).p.cyc),(ys.getD k default).v]]) C_ok_20 rfl rfl rfl) (fun w hS=>sameObject_spec (xs.getD k default).p (ys.getD k default).p (xs.getD k default).v (ys.getD k default).v (xs.getD k default).l (ys.getD k default).l _ ((hS.obAt (i:=2) rfl).at (by omega)) ((hS.obAt (i:=3) rfl).at (by omega))) fun a hf=>OQ.val (v:=.bool (!(decide ((xs.getD k default).p=(ys.getD k default).p∧(xs.getD k default).l=(ys.getD k default).l)))) hf rfl (fun w hS=>RunV.not rfl) fun a hf=>?_; refine OQ.nil ?_; intro w hS; refine k_seq ?_; refine W.if_ hf rfl (fun hd=>?_) (fun hd=>?_)
      · have hdb:=hd
        try simp only [Bool.and_eq_true,Bool.or_eq_true,Bool.and_eq_false_iff,Bool.or_eq_false_iff,decide_eq_true_eq,decide_eq_false_iff_not,Bool.not_eq_true',Bool.not_eq_false',Bool.not_eq_true,Bool.not_eq_false,ne_eq] at hd
        refine W.seq ?_
        refine W.regionL (l:=[0]) rfl<|mv hf rfl<|?_; clear hf a; intro a hf; refine nk<|W.ret<|k_blk_ret<|k_then_ret<|k_then_ret<|k_blk_ret<|k_then_ret<|post1 hf rfl (ResOK.tmp rfl)<|?_; exact ⟨(),congrArg (fun b=>Ending.returned (Value.bool b)) (by first | exact (same_1 hne).symm | exact (same_2 (by omega) hd).symm),hS.sub (List.nil_sublist _) |>.noB⟩
      · have hdb:=hd
        try simp only [Bool.and_eq_true,Bool.or_eq_true,Bool.and_eq_false_iff,Bool.or_eq_false_iff,decide_eq_true_eq,decide_eq_false_iff_not,Bool.not_eq_true',Bool.not_eq_false',Bool.not_eq_true,Bool.not_eq_false,ne_eq] at hd
        refine W.skip<|k_blk_normal<|k_seq<|?_
        refine W.regionL (l:=[0,1,2]) rfl<|mv hf rfl<|?_; clear hf a; intro a hf; refine ov hf rfl (RunV.addI rfl rfl (by omega)) ?_; clear hf a; intro a hf; refine mv hf rfl ?_; clear hf a; intro a hf; refine O.nil ?_; refine k_then ⟨(k+1),⟨hf.to ⟨rfl,rfl,(by first | rfl | exact congrArg some (congrArg (Value.int _) (by omega))),trivial⟩,?_,?_,?_⟩,?_⟩
        · exact hS.eqM rfl
        · omega
        · intro j hj; by_cases hjk:j<k
          · exact h2 j hjk
          · have:j=k:=by omega
            subst this; exact same_4 hd
        · dsimp only; omega
    · refine W.exit ?_
      refine k_then_exit<|k_then_exit<|k_blk<|k_seq<|?_; replace hf:Fr a 27 [] []:=hf.to trivial; refine W.seq ?_
      refine W.regionL (l:=[0]) rfl<|mv hf rfl<|?_; clear hf a; intro a hf; refine nk<|W.ret<|post1 hf rfl (ResOK.tmp rfl)<|?_; exact ⟨(),congrArg (fun b=>Ending.returned (Value.bool b)) (same_3 (by omega) (fun j hj=>h2 j (by omega))).symm,hS.sub (List.nil_sublist _) |>.noB⟩
set_option maxHeartbeats 400000 in
set_option maxRecDepth 4000 in
theorem great_spec (vl:Value) (l:List Ch) (w0:World) (hl:rdOK (hp w0) 12 vl l.length (encs eC l)) :
    Ret Tryd.prog 10 #[vl] w0 (G:=Unit) (fun _=>.bool (greatM l.length)) (fun _ w=>St w0 w noX [] []):=by
  refine ret_of_W (lv:=[vl]) Tryd.func10 rfl rfl rfl (fun a hf=>?_); replace hf:Fr a 16 [] [(0,vl)]:=hf; have hS:St w0 w0 noX [rdv 12 vl l.length (encs eC l)] []:=(St.refl w0).lend0 hl; refine W.seq ?_
  refine W.regionL (l:=[0]) rfl<|mv hf rfl<|?_; clear hf a; intro a hf; refine nk<|W.seq<|?_
  refine W.regionL (l:=[0,1,2,3,4,5,6,7,8,9,10,11,12,13]) rfl<|mv hf rfl<|?_; clear hf a; intro a hf; refine ov hf rfl (RunV.lenV (e:=26) (by simpa using T_elem_22) rfl (hS.rdAt (j:=0) rfl)) ?_; clear hf a; intro a hf; refine ov (v:=.bool (decide ((l.length:Int)>(25:Int)))) hf rfl (RunV.gtr rfl rfl) ?_; clear hf a; intro a hf; refine mv hf rfl ?_; clear hf a; intro a hf
  refine O.cutN (l₁:=[4,5,6,7]) (l₂:=_) (fun a w=>Fr a 16 [] [(0,vl),(2,.bool false),(3,vl),(4,.int .i64 (l.length:Int)),(5,.bool (decide ((l.length:Int)>(25:Int)))),(6,.bool (decide ((l.length:Int)>(25:Int)))),(10,.bool ((decide ((l.length:Int)>(25:Int)))&&(decide ((l.length:Int)≤(500:Int)))))]∧St w0 w noX [rdv 12 vl l.length (encs eC l)] []) rfl ?_ ?_
  · rcases Bool.eq_false_or_eq_true (decide ((l.length:Int)>(25:Int))) with hb1 | hb1
    · have hb1p:=of_decide_eq_true hb1
      refine og (v:=vl) hf rfl hb1 (RunV.move rfl) ?_; clear hf a; intro a hf; refine og (v:=.int .i64 (l.length:Int)) hf rfl hb1 (RunV.lenV (e:=26) (by simpa using T_elem_22) rfl (hS.rdAt (j:=0) rfl)) ?_; clear hf a; intro a hf; refine og (v:=.bool (decide ((l.length:Int)≤(500:Int)))) hf rfl hb1 (RunV.leq rfl rfl) ?_; clear hf a; intro a hf; refine ov (v:=.bool ((decide ((l.length:Int)>(25:Int)))&&(decide ((l.length:Int)≤(500:Int))))) hf rfl (RunV.pick rfl rfl rfl (by rw [hb1]; rfl)) ?_; clear hf a; intro a hf; exact O.nil ⟨rfl,hf.q rfl,hS⟩
    · have hb1p:=of_decide_eq_false hb1
      refine sk hf rfl hb1 fun a hf=>sk hf rfl hb1 fun a hf=>sk hf rfl hb1 fun a hf=>?_; refine ov (v:=.bool ((decide ((l.length:Int)>(25:Int)))&&(decide ((l.length:Int)≤(500:Int))))) hf rfl (RunV.pick rfl rfl rfl (by rw [hb1]; rfl)) ?_; clear hf a; intro a hf; exact O.nil ⟨rfl,hf.q rfl,hS⟩
  clear hf hS a; rintro a w ⟨hf,hS⟩; refine mv hf rfl ?_; clear hf a; intro a hf
  refine O.cutN (l₁:=[9,10,11,12]) (l₂:=_) (fun a w=>Fr a 16 [] [(0,vl),(2,.bool false),(3,vl),(4,.int .i64 (l.length:Int)),(5,.bool (decide ((l.length:Int)>(25:Int)))),(6,.bool (decide ((l.length:Int)>(25:Int)))),(10,.bool ((decide ((l.length:Int)>(25:Int)))&&(decide ((l.length:Int)≤(500:Int))))),(11,.bool ((decide ((l.length:Int)>(25:Int)))&&(decide ((l.length:Int)≤(500:Int))))),(15,.bool (((decide ((l.length:Int)>(25:Int)))&&(decide ((l.length:Int)≤(500:Int))))||(decide ((l.length:Int)>(510:Int)))))]∧St w0 w noX [rdv 12 vl l.length (encs eC l)] []) rfl ?_ ?_
  · rcases Bool.eq_false_or_eq_true ((decide ((l.length:Int)>(25:Int)))&&(decide ((l.length:Int)≤(500:Int)))) with hb2 | hb2
    · have hb2p:=hb2
      try simp only [Bool.and_eq_true,Bool.or_eq_true,Bool.and_eq_false_iff,Bool.or_eq_false_iff,decide_eq_true_eq,decide_eq_false_iff_not,Bool.not_eq_true',Bool.not_eq_false',Bool.not_eq_true,Bool.not_eq_false,ne_eq] at hb2p
      refine sk hf rfl hb2 fun a hf=>sk hf rfl hb2 fun a hf=>sk hf rfl hb2 fun a hf=>?_; refine ov (v:=.bool (((decide ((l.length:Int)>(25:Int)))&&(decide ((l.length:Int)≤(500:Int))))||(decide ((l.length:Int)>(510:Int))))) hf rfl (RunV.pick rfl rfl rfl (by rw [hb2]; rfl)) ?_; clear hf a; intro a hf; exact O.nil ⟨rfl,hf.q rfl,hS⟩
    · have hb2p:=hb2
      try simp only [Bool.and_eq_true,Bool.or_eq_true,Bool.and_eq_false_iff,Bool.or_eq_false_iff,decide_eq_true_eq,decide_eq_false_iff_not,Bool.not_eq_true',Bool.not_eq_false',Bool.not_eq_true,Bool.not_eq_false,ne_eq] at hb2p
      refine og (v:=vl) hf rfl hb2 (RunV.move rfl) ?_; clear hf a; intro a hf; refine og (v:=.int .i64 (l.length:Int)) hf rfl hb2 (RunV.lenV (e:=26) (by simpa using T_elem_22) rfl (hS.rdAt (j:=0) rfl)) ?_; clear hf a; intro a hf; refine og (v:=.bool (decide ((l.length:Int)>(510:Int)))) hf rfl hb2 (RunV.gtr rfl rfl) ?_; clear hf a; intro a hf; refine ov (v:=.bool (((decide ((l.length:Int)>(25:Int)))&&(decide ((l.length:Int)≤(500:Int))))||(decide ((l.length:Int)>(510:Int))))) hf rfl (RunV.pick rfl rfl rfl (by rw [hb2]; rfl)) ?_; clear hf a; intro a hf; exact O.nil ⟨rfl,hf.q rfl,hS⟩
  clear hf hS a; rintro a w ⟨hf,hS⟩; refine mv hf rfl ?_; clear hf a; intro a hf; refine nk<|W.ret<|post1 hf rfl (ResOK.tmp rfl)<|?_; exact ⟨(),rfl,hS.sub (List.nil_sublist _) |>.noB⟩
theorem same_true (va:Value) (xs:List Ob) (vb:Value) (ys:List Ob) (w0:World) (ha:rdOK (hp w0) 6 va xs.length (encs eO xs)) (hb:rdOK (hp w0) 6 vb ys.length (encs eO ys)) (hx:obsRd w0 xs) (hy:obsRd w0 ys) (h:xs.map prO=ys.map prO) :
    Ret Tryd.prog 17 #[va,vb] w0 (G:=Unit) (fun _=>.bool true) (fun _ w=>St w0 w noX [] []):=by
  have h1:=same_spec va xs vb ys w0 ha hb hx hy; rw [decide_eq_true h] at h1; exact h1
end Go.Proofs.YtgakdmmmljdpjaaDoor

set_option maxHeartbeats 1000000
set_option maxRecDepth 8000
namespace Go.Proofs.YtgakdmmmljdpjaaDoor
open Go Go.SL
theorem C_ok_16:callOK Tryd.prog 16=true:=by kernel_rfl
theorem C_ok_17:callOK Tryd.prog 17=true:=by kernel_rfl
end Go.Proofs.YtgakdmmmljdpjaaDoor

namespace Go.SL
open Go
section
variable {T:Type} [Inhabited T] {P:Program} {w:World} {n:Nat} {ds:List Deferred} {L:List (Nat × Value)} {ty t:TypeId} {x:Operand} {v u:Value} {enc:T→List Value} {l:List T} {sz q j o:Nat}
theorem RunV.ldG2 (ha:tAgg P t=some false) (henc:∀ x,(enc x).length=sz) (hx:ev L x=some (ix v (j*sz+o))) (hr:rdOK (hp w) sz v l.length (encs enc l)) (hj:j<l.length) (ho:Nat.blt o sz=true) (hv:(enc (l.getD j default))[o]? = some u):RunV P n ds L (.load t x) ty w u w:=by
  have h0:l[j]? = some (l.getD j default):=by simp [List.getD_eq_getElem?_getD,List.getElem?_eq_getElem hj]
  exact RunV.ld1 ha hx hr (by rw [encs_get henc h0 (by simpa using ho)]; exact hv)
theorem RunV.ldGN {us:List Value} (ha:tAgg P t=some true) (hs:tSize P t=some q) (hq:Nat.blt 0 q=true) (henc:∀ x,(enc x).length=sz) (hx:ev L x=some (ix v (j*sz+o))) (hr:rdOK (hp w) sz v l.length (encs enc l)) (hj:j<l.length) (ho:Nat.ble (o+q) sz=true) (hl:us.length=q) (hv:((enc (l.getD j default)).drop o).take q=us):RunV P n ds L (.load t x) ty w (.agg us.toArray) w:=by
  have h0:l[j]? = some (l.getD j default):=by simp [List.getD_eq_getElem?_getD,List.getElem?_eq_getElem hj]
  have ho:=Nat.le_of_ble_eq_true ho
  refine RunV.ldN ha hs hq hx hr hl (fun k u hu=>?_)
  subst hv
  rw [List.getElem?_take] at hu
  split at hu
  · rename_i hk
    rw [List.getElem?_drop] at hu
    rw [show j*sz+o+k=j*sz+(o+k) by omega,encs_get henc h0 (by omega)]
    exact hu
  · cases hu
end
section
variable {l:List Ch} {S S2:List PG} {us:List Bool} {n k:Nat} {e:Int}
end
end Go.SL

namespace Go.Proofs.YtgakdmmmljdpjaaDoor
open Go Go.SL
end Go.Proofs.YtgakdmmmljdpjaaDoor

set_option maxHeartbeats 1000000
set_option maxRecDepth 8000
namespace Go.Proofs.YtgakdmmmljdpjaaDoor
open Go Go.SL
theorem C_ok_10:callOK Tryd.prog 10=true:=by kernel_rfl
theorem C_ok_21:callOK Tryd.prog 21=true:=by kernel_rfl
end Go.Proofs.YtgakdmmmljdpjaaDoor

namespace Go.SL
open Go
def whoM (l:List Ch) (d:Dg):Except Int PG :=
  match histM l with
  | .error e=>.error e
  | .ok (S,_)=>if okD d=true then (match findG S d with | none=>.error 6 | some p=>.ok p) else .error 8
def appM (l:List Ch) (c:Ch):Except Int (List PG × List Bool) :=
  match histM l with
  | .error e=>.error e
  | .ok _=>if okC c=true then histM (l++[c]) else .error 8
section
variable {l:List Ch} {d a b:Dg} {c:Ch} {e:Int} {p x y:PG} {S S2:List PG} {us us2:List Bool}
theorem whoM_ok (h:whoM l d=.ok p):∃ S us,histM l=.ok (S,us)∧okD d=true∧findG S d=some p:=by
  unfold whoM at h
  cases hm:histM l with
  | error e'=>rw [hm] at h; cases h
  | ok r =>
    obtain ⟨S,us⟩:=r
    rw [hm] at h
    simp only at h
    split at h
    · rename_i hd
      cases hf:findG S d with
      | none=>rw [hf] at h; cases h
      | some q=>rw [hf] at h; cases h; exact ⟨S,us,rfl,hd,hf⟩
    · cases h
def joinC (a b:Dg):Ch:=⟨2,a,b,0⟩
def sameP (x y:PG):Prop:=objP x=objP y∨(0<(objP x).1.num∧0<(objP y).1.num)
def cntC (As Bs:List PO):Nat:=(As.map fun x=>Bs.count x).sum
structure JoinedR (l:List Ch) (a b:Dg) (S S2:List PG) (x y z:PG):Prop where
  wz:whoM (l++[joinC a b]) a=.ok z
  wv:whoM (l++[joinC a b]) b=.ok z
  len:(sortDs z.1).length=(sortDs x.1).length+(sortDs y.1).length
  siz:S2.length+1=S.length
  cnt:cntC (objsM S) (objsM S2)+1=S2.length
end
end Go.SL

namespace Go.Proofs.YtgakdmmmljdpjaaDoor
open Go Go.SL
section
variable (vl:Value) (l:List Ch) (d:Dg) (c:Ch) (w0:World) (hG:Lent w0 ordA) (hl:rdOK (hp w0) 12 vl l.length (encs eC l)) (hfit:vfit vl)
include hG hl hfit
theorem whoE (e:Int) (h:whoM l d=.error e):Ret Tryd.prog 19 #[vl,dV d] w0 (G:=Unit) (fun _=>.tuple #[oV ⟨0,0,0,0,0⟩ (.slice none 0 0),.int .i64 e]) (fun _ w=>St w0 w noX [] []):=by
  unfold whoM at h
  cases hm:histM l with
  | error e'=>rw [hm] at h; cases h; exact who_err vl l d w0 hG hl hfit e hm
  | ok r =>
    obtain ⟨S,us⟩:=r
    rw [hm] at h
    simp only at h
    cases hd:okD d with
    | false =>
      rw [hd,if_neg (by decide)] at h
      cases h
      exact who_bad vl l d w0 hG hl hfit S us hm hd
    | true =>
      rw [hd,if_pos rfl] at h
      cases hf:findG S d with
      | none =>
        rw [hf] at h
        cases h
        exact who_none vl l d w0 hG hl hfit S us hm hd hf
      | some p=>rw [hf] at h; cases h
theorem whoO (p:PG) (h:whoM l d=.ok p):Ret Tryd.prog 19 #[vl,dV d] w0 (G:=Value) (fun g=>.tuple #[oV ((sortDs p.1).getD 0 default) g,.int .i64 0]) (fun g w=>St w0 w noX [] [slE 24 5 eD g (sortDs p.1)]):=by
  obtain ⟨S,us,hm,hd,hf⟩:=whoM_ok h
  have h1:=okS_hist hm p (findG_mem hf).1
  have h2:=tot_mem (findG_mem hf).1
  have h3:=tot_hist hm
  exact who_ok vl l d w0 hG hl hfit S us hm hd p hf h1.2 (by omega) h1.1
end
theorem sameObject_true (p q:Dg) (v u:Value) (lp lq:List Dg) (w0:World) (h1:rdOK (hp w0) 5 v lp.length (encs eD lp)) (h2:rdOK (hp w0) 5 u lq.length (encs eD lq)) (h:p=q∧lp=lq) :
    Ret Tryd.prog 20 #[oV p v,oV q u] w0 (G:=Unit) (fun _=>.bool true) (fun _ w=>St w0 w noX [] []):=by
  have h3:=sameObject_spec p q v u lp lq w0 h1 h2
  rw [decide_eq_true h] at h3
  exact h3
end Go.Proofs.YtgakdmmmljdpjaaDoor
namespace Go.SL
open Go
def cntP (As Bs:List PO) (p:Nat):Nat:=cntC (As.take p) Bs
theorem prO_getD {os:List Ob} {k:Nat} (h:k<os.length):(os.map prO).getD k default=prO (os.getD k default):=by
  simp [List.getD_eq_getElem?_getD,List.getElem?_eq_getElem h]
end Go.SL

namespace Go.SL
open Go
theorem wfB {x:Int} (h:(Lit.int .u8 x).wf=true):0≤x∧x<256:=by
  simp only [Lit.wf,Bool.and_eq_true,decide_eq_true_eq] at h
  have h1:IntKind.u8.min=0:=rfl
  have h2:IntKind.u8.max=255:=rfl
  omega
def befN (d:Dg):Int:=if d.num=0 then 15396336 else d.num
def befM (a b:Dg):Int:=orM [cmpI (befN a) (befN b),cmpI a.yr b.yr,cmpI (IntKind.i64.wrap a.half) (IntKind.i64.wrap b.half),cmpI a.cyc b.cyc,cmpI (IntKind.i64.wrap a.sec) (IntKind.i64.wrap b.sec)]
def rD (d:Dg):Prop:=(0≤d.half∧d.half<256)∧0≤d.sec∧d.sec<256
def rC (c:Ch):Prop:=rD c.a∧rD c.b
theorem okD_num {d:Dg} (h:okD d=true):d.num=0∨(0<d.num∧d.num≤15396335):=by
  unfold okD at h
  split at h
  · simp only [Bool.and_eq_true,decide_eq_true_eq] at h
    exact .inr ⟨h.1.2,h.2⟩
  · rename_i hn
    exact .inl (by omega)
theorem cmpI_same (x:Int):cmpI x x=0:=by unfold cmpI; rw [if_neg (by omega),if_neg (by omega)]
theorem cmpI_l {x y:Int} (h:x<y):cmpI x y=-1:=if_pos h
theorem cmpI_g {x y:Int} (h:y<x):cmpI x y=1:=(if_neg (by omega)).trans (if_pos h)
theorem orM_0 {l:List Int}:orM (0::l)=orM l:=if_neg (by omega)
theorem orM_n {x:Int} {l:List Int} (h:x≠0):orM (x::l)=x:=if_pos h
theorem wrapB {x:Int} (h:0≤x∧x<256):IntKind.i64.wrap x=x:=by rw [IntKind.wrap_i64]; omega
theorem bef_cmp {a b:Dg} (ha:okD a=true) (hb:okD b=true) (ra:rD a) (rb:rD b):befM a b=cmpD a b:=by
  unfold befM cmpD befN
  rw [wrapB ra.1,wrapB rb.1,wrapB ra.2,wrapB rb.2]
  rcases okD_num ha with h1 | h1 <;> rcases okD_num hb with h2 | h2
  · rw [if_pos h1,if_pos h2,if_pos (by omega),if_pos (by omega),cmpI_same,h1,h2,cmpI_same]
    simp only [Int.neg_zero,orM_0]
  · rw [if_pos h1,if_neg (by omega),if_pos (by omega),if_neg (by omega),cmpI_g (show b.num<15396336 by omega),cmpI_l (show a.num<1 by omega),orM_n (by decide),orM_n (by decide)]
    rfl
  · rw [if_neg (by omega),if_pos h2,if_neg (by omega),if_pos (by omega),cmpI_l (show a.num<15396336 by omega),cmpI_g (show b.num<1 by omega),orM_n (by decide),orM_n (by decide)]
  · rw [if_neg (by omega),if_neg (by omega),if_neg (by omega),if_neg (by omega),cmpI_same]
    simp only [Int.neg_zero,orM_0]
theorem arr5 {a b c d e:Int} {j:Nat} (h:j<5):(#[.int .i64 a,.int .i64 b,.int .i64 c,.int .i64 d,.int .i64 e]:Array Value)[j]? = some (.int .i64 ([a,b,c,d,e].getD j 0)):=by
  rcases j with _ | _ | _ | _ | _ | j
  · rfl
  · rfl
  · rfl
  · rfl
  · rfl
  · omega
theorem bef_get {a b c d e a' b' c' d' e':Int} {j:Nat}:[cmpI a a',cmpI b b',cmpI c c',cmpI d d',cmpI e e'].getD j 0=cmpI ([a,b,c,d,e].getD j 0) ([a',b',c',d',e'].getD j 0):=by
  rcases j with _ | _ | _ | _ | _ | j <;> rfl
theorem bef_step {x y:List Int} {k:Nat} (h:∀ i,i<k→x.getD i 0=y.getD i 0) (h1:¬ x.getD k 0<y.getD k 0) (h2:¬ x.getD k 0>y.getD k 0):∀ i,i<k+1→x.getD i 0=y.getD i 0:=fun i hi=>by
  by_cases hik:i<k
  · exact h i hik
  · have:i=k:=by omega
    subst this; omega
section
variable {a b c d e a' b' c' d' e':Int} {k:Nat} (h:∀ i,i<k→[a,b,c,d,e].getD i 0=[a',b',c',d',e'].getD i 0)
include h
theorem bef_none (hk:5≤k):orM [cmpI a a',cmpI b b',cmpI c c',cmpI d d',cmpI e e']=0:=orM_none fun i hi=>by
  rw [bef_get,h i (by simp at hi; omega),cmpI_same]
theorem bef_hit (hk:k<5) (hn:cmpI ([a,b,c,d,e].getD k 0) ([a',b',c',d',e'].getD k 0)≠0):orM [cmpI a a',cmpI b b',cmpI c c',cmpI d d',cmpI e e']=cmpI ([a,b,c,d,e].getD k 0) ([a',b',c',d',e'].getD k 0):=by
  rw [orM_hit (k:=k) (fun i hi=>by rw [bef_get,h i hi,cmpI_same]) (by simpa using hk) (by rw [bef_get]; exact hn),bef_get]
theorem bef_lt (hk:k<5) (hl:[a,b,c,d,e].getD k 0<[a',b',c',d',e'].getD k 0):-1=orM [cmpI a a',cmpI b b',cmpI c c',cmpI d d',cmpI e e']:=by
  rw [bef_hit h hk (by rw [cmpI_l hl]; decide),cmpI_l hl]
theorem bef_gt (hk:k<5) (hl:[a,b,c,d,e].getD k 0>[a',b',c',d',e'].getD k 0):1=orM [cmpI a a',cmpI b b',cmpI c c',cmpI d d',cmpI e e']:=by
  rw [bef_hit h hk (by rw [cmpI_g hl]; decide),cmpI_g hl]
theorem bef_eq (hk:5≤k):0=orM [cmpI a a',cmpI b b',cmpI c c',cmpI d d',cmpI e e']:=(bef_none h hk).symm
end
end Go.SL

set_option maxHeartbeats 1000000
set_option maxRecDepth 8000
namespace Go.Proofs.YtgakdmmmljdpjaaDoor
open Go Go.SL
theorem T_arr_83:tArr Tryd.prog 83=some (5,3):=by kernel_rfl
theorem T_int_3:tInt Tryd.prog 3=some .i64:=by kernel_rfl
theorem T_size_83:tSize Tryd.prog 83=some 5:=by kernel_rfl
theorem T_zero_83:tZero Tryd.prog 83=some (.agg #[.int .i64 0,.int .i64 0,.int .i64 0,.int .i64 0,.int .i64 0]):=by kernel_rfl
set_option maxHeartbeats 4000000 in
set_option maxRecDepth 4000 in
theorem bef_spec (x y:Dg) (w0:World) :
    Ret Tryd.prog 18 #[.agg (aD x),.agg (aD y)] w0 (G:=Unit) (fun _=>.int .i64 (befM x y)) (fun _ w=>St w0 w noX [] []):=by
  refine ret_of_W (lv:=[.agg (aD x),.agg (aD y)]) Tryd.func18 rfl rfl rfl (fun a hf=>?_); replace hf:Fr a 60 [] [(0,.agg (aD x)),(1,.agg (aD y))]:=hf; have hS:St w0 w0 noX [] []:=St.refl w0; refine W.seq ?_
  refine W.regionL (l:=[0,1,2]) rfl<|O.box (cs:=(aD x)) hf hS rfl rfl rfl rfl<|?_; intro b_a1 w a hbb_a1 hS hf; refine O.box (cs:=(aD y)) hf hS rfl rfl rfl rfl ?_; intro b_b2 w a hbb_b2 hS hf; refine mv hf rfl ?_; clear hf a; intro a hf; refine nk<|W.seq<|?_
  refine W.regionL (l:=[0,1,2,3,4,5,6,7,8,9,10,11,12,13,14]) rfl<|ov hf rfl (RunV.field T_field_24_0 rfl rfl)<|?_; clear hf a; intro a hf; refine ov hf rfl (RunV.load1 T_agg_3 rfl (hS.p 1 rfl) rfl) ?_; clear hf a; intro a hf; refine ov hf rfl (RunV.field T_field_24_1 rfl rfl) ?_; clear hf a; intro a hf; refine ov hf rfl (RunV.load1 T_agg_3 rfl (hS.p 1 rfl) rfl) ?_; clear hf a; intro a hf; refine ov hf rfl (RunV.field T_field_24_2 rfl rfl) ?_; clear hf a; intro a hf; refine ov hf rfl (RunV.load1 T_agg_5 rfl (hS.p 1 rfl) rfl) ?_; clear hf a; intro a hf; refine ov hf rfl (RunV.conv T_und_5 T_int_3 rfl) ?_; clear hf a; intro a hf; refine ov hf rfl (RunV.field T_field_24_4 rfl rfl) ?_; clear hf a; intro a hf; refine ov hf rfl (RunV.load1 T_agg_3 rfl (hS.p 1 rfl) rfl) ?_; clear hf a; intro a hf; refine ov hf rfl (RunV.field T_field_24_3 rfl rfl) ?_; clear hf a; intro a hf; refine ov hf rfl (RunV.load1 T_agg_5 rfl (hS.p 1 rfl) rfl) ?_; clear hf a; intro a hf; refine ov hf rfl (RunV.conv T_und_5 T_int_3 rfl) ?_; clear hf a; intro a hf; refine ov hf rfl (RunV.buildA (cs':=#[.int .i64 x.num,.int .i64 x.yr,.int .i64 (IntKind.i64.wrap x.half),.int .i64 x.cyc,.int .i64 (IntKind.i64.wrap x.sec)]) T_arr_83 T_size_3 T_zero_83 rfl rfl) ?_; clear hf a; intro a hf; refine O.alloc (cs:=#[.int .i64 0,.int .i64 0,.int .i64 0,.int .i64 0,.int .i64 0]) hf hS rfl rfl T_zero_83 rfl ?_; intro b_x3 w a hbb_x3 hS hf; refine ost 0 #[.int .i64 x.num,.int .i64 x.yr,.int .i64 (IntKind.i64.wrap x.half),.int .i64 x.cyc,.int .i64 (IntKind.i64.wrap x.sec)] hf hS rfl rfl rfl T_size_83 rfl rfl rfl (bl rfl) rfl ?_; intro w hS; refine nk<|W.seq<|?_
  refine W.regionL (l:=[0,1,2,3,4,5,6,7,8,9,10,11,12,13,14]) rfl<|ov hf rfl (RunV.field T_field_24_0 rfl rfl)<|?_; clear hf a; intro a hf; refine ov hf rfl (RunV.load1 T_agg_3 rfl (hS.p 1 rfl) rfl) ?_; clear hf a; intro a hf; refine ov hf rfl (RunV.field T_field_24_1 rfl rfl) ?_; clear hf a; intro a hf; refine ov hf rfl (RunV.load1 T_agg_3 rfl (hS.p 1 rfl) rfl) ?_; clear hf a; intro a hf; refine ov hf rfl (RunV.field T_field_24_2 rfl rfl) ?_; clear hf a; intro a hf; refine ov hf rfl (RunV.load1 T_agg_5 rfl (hS.p 1 rfl) rfl) ?_; clear hf a; intro a hf; refine ov hf rfl (RunV.conv T_und_5 T_int_3 rfl) ?_; clear hf a; intro a hf; refine ov hf rfl (RunV.field T_field_24_4 rfl rfl) ?_; clear hf a; intro a hf; refine ov hf rfl (RunV.load1 T_agg_3 rfl (hS.p 1 rfl) rfl) ?_; clear hf a; intro a hf; refine ov hf rfl (RunV.field T_field_24_3 rfl rfl) ?_; clear hf a; intro a hf; refine ov hf rfl (RunV.load1 T_agg_5 rfl (hS.p 1 rfl) rfl) ?_; clear hf a; intro a hf; refine ov hf rfl (RunV.conv T_und_5 T_int_3 rfl) ?_; clear hf a; intro a hf; refine ov hf rfl (RunV.buildA (cs':=#[.int .i64 y.num,.int .i64 y.yr,.int .i64 (IntKind.i64.wrap y.half),.int .i64 y.cyc,.int .i64 (IntKind.i64.wrap y.sec)]) T_arr_83 T_size_3 T_zero_83 rfl rfl) ?_; clear hf a; intro a hf; refine O.alloc (cs:=#[.int .i64 0,.int .i64 0,.int .i64 0,.int .i64 0,.int .i64 0]) hf hS rfl rfl T_zero_83 rfl ?_; intro b_y4 w a hbb_y4 hS hf; refine ost 0 #[.int .i64 y.num,.int .i64 y.yr,.int .i64 (IntKind.i64.wrap y.half),.int .i64 y.cyc,.int .i64 (IntKind.i64.wrap y.sec)] hf hS rfl rfl rfl T_size_83 rfl rfl rfl (bl rfl) rfl ?_; intro w hS; refine nk<|W.seq<|W.seq<|?_
  refine W.regionL (l:=[0,1,2]) rfl<|ov hf rfl (RunV.field T_field_24_0 rfl rfl)<|?_; clear hf a; intro a hf; refine ov hf rfl (RunV.load1 T_agg_3 rfl (hS.p 3 rfl) rfl) ?_; clear hf a; intro a hf; refine ov (v:=.bool (decide (x.num=(0:Int)))) hf rfl (RunV.eql rfl rfl) ?_; clear hf a; intro a hf; refine nk ?_; refine W.ifdI hf rfl (fun ha=>?_) (fun ha=>?_)
  ·
    refine W.regionL (l:=[0,1]) rfl<|ov hf rfl (RunV.indexArr (j:=0) (m:=0) T_arr_83 T_size_3 rfl rfl rfl (by omega) (by omega))<|?_; clear hf a; intro a hf; refine ost 1 #[.int .i64 15396336,.int .i64 x.yr,.int .i64 (IntKind.i64.wrap x.half),.int .i64 x.cyc,.int .i64 (IntKind.i64.wrap x.sec)] hf hS rfl rfl rfl T_size_3 rfl rfl rfl (bl rfl) rfl ?_; intro w hS; refine nk<|W.seq<|W.seq<|?_
    refine W.regionL (l:=[0,1,2]) rfl<|ov hf rfl (RunV.field T_field_24_0 rfl rfl)<|?_; clear hf a; intro a hf; refine ov hf rfl (RunV.load1 T_agg_3 rfl (hS.p 2 rfl) rfl) ?_; clear hf a; intro a hf; refine ov (v:=.bool (decide (y.num=(0:Int)))) hf rfl (RunV.eql rfl rfl) ?_; clear hf a; intro a hf; refine nk ?_; refine W.ifdI hf rfl (fun hb=>?_) (fun hb=>?_)
    ·
      refine W.regionL (l:=[0,1]) rfl<|ov hf rfl (RunV.indexArr (j:=0) (m:=0) T_arr_83 T_size_3 rfl rfl rfl (by omega) (by omega))<|?_; clear hf a; intro a hf; refine ost 0 #[.int .i64 15396336,.int .i64 y.yr,.int .i64 (IntKind.i64.wrap y.half),.int .i64 y.cyc,.int .i64 (IntKind.i64.wrap y.sec)] hf hS rfl rfl rfl T_size_3 rfl rfl rfl (bl rfl) rfl ?_; intro w hS; refine nk<|W.seq<|W.seq<|?_
      refine W.regionL (l:=[0]) rfl<|mv hf rfl<|?_; clear hf a; intro a hf; refine nk<|W.block<|?_
      refine W.loop (G:=(Nat)) (fun g a w=>match g with | k=>Fr a 60 [] [(5,.pointer (some ⟨b_x3,0,none⟩)),(6,.pointer (some ⟨b_y4,0,none⟩)),(7,.int .i64 (k:Int))]∧St w0 w noX [] [pt b_y4 (.cells #[.int .i64 15396336,.int .i64 y.yr,.int .i64 (IntKind.i64.wrap y.half),.int .i64 y.cyc,.int .i64 (IntKind.i64.wrap y.sec)] 83 (0,0)),pt b_x3 (.cells #[.int .i64 15396336,.int .i64 x.yr,.int .i64 (IntKind.i64.wrap x.half),.int .i64 x.cyc,.int .i64 (IntKind.i64.wrap x.sec)] 83 (0,0)),pt b_b2 (.cells (aD y) 24 (0,0)),pt b_a1 (.cells (aD x) 24 (0,0))]∧(k≤5)∧(∀ i,i<k→[15396336,x.yr,IntKind.i64.wrap x.half,x.cyc,IntKind.i64.wrap x.sec].getD i 0=[15396336,y.yr,IntKind.i64.wrap y.half,y.cyc,IntKind.i64.wrap y.sec].getD i 0)) (fun g=>match g with | k=>5-k) 0 ?_ ?_
      · refine ⟨hf.to ⟨rfl,rfl,(by first | rfl | exact congrArg some (congrArg (Value.int _) (by omega))),trivial⟩,hS,?_,?_⟩
        · omega
        · intro i hi; omega
      clear hf hS a; rintro k a w ⟨hf,hS,hk,h2⟩; refine W.seq<|W.seq<|?_
      refine W.regionL (l:=[0,1]) rfl<|mv hf rfl<|?_; clear hf a; intro a hf; refine ov (v:=.bool (decide ((k:Int)<(5:Int)))) hf rfl (RunV.lss rfl rfl) ?_; clear hf a; intro a hf; refine nk ?_; refine W.ifdI hf rfl (fun hc7=>?_) (fun hc7=>?_)
      · refine W.skip ?_
        refine k_seq<|W.seq<|W.block<|W.seq<|W.seq<|?_
        refine W.drawQ (fun w=>St w0 w noX [] [pt b_y4 (.cells #[.int .i64 15396336,.int .i64 y.yr,.int .i64 (IntKind.i64.wrap y.half),.int .i64 y.cyc,.int .i64 (IntKind.i64.wrap y.sec)] 83 (0,0)),pt b_x3 (.cells #[.int .i64 15396336,.int .i64 x.yr,.int .i64 (IntKind.i64.wrap x.half),.int .i64 x.cyc,.int .i64 (IntKind.i64.wrap x.sec)] 83 (0,0)),pt b_b2 (.cells (aD y) 24 (0,0)),pt b_a1 (.cells (aD x) 24 (0,0))]) P_mixed rfl (by kernel_rfl) rfl hS.drew ?_; clear hS; refine OQ.val (v:=.int .i64 (k:Int)) hf rfl (fun w hS=>RunV.move rfl) fun a hf=>OQ.val (v:=.pointer (some ⟨b_x3,k,none⟩)) hf rfl (fun w hS=>RunV.indexArr (j:=k) (m:=k) T_arr_83 T_size_3 rfl rfl rfl (by omega) (by omega)) fun a hf=>OQ.val (v:=.int .i64 ([15396336,x.yr,IntKind.i64.wrap x.half,x.cyc,IntKind.i64.wrap x.sec].getD k 0)) hf rfl (fun w hS=>RunV.load1 T_agg_3 rfl (hS.p 1 rfl) (arr5 (by omega))) fun a hf=>OQ.val (v:=.int .i64 (k:Int)) hf rfl (fun w hS=>RunV.move rfl) fun a hf=>OQ.val (v:=.pointer (some ⟨b_y4,k,none⟩)) hf rfl (fun w hS=>RunV.indexArr (j:=k) (m:=k) T_arr_83 T_size_3 rfl rfl rfl (by omega) (by omega)) fun a hf=>OQ.val (v:=.int .i64 ([15396336,y.yr,IntKind.i64.wrap y.half,y.cyc,IntKind.i64.wrap y.sec].getD k 0)) hf rfl (fun w hS=>RunV.load1 T_agg_3 rfl (hS.p 0 rfl) (arr5 (by omega))) fun a hf=>OQ.val (v:=.bool (decide (([15396336,x.yr,IntKind.i64.wrap x.half,x.cyc,IntKind.i64.wrap x.sec].getD k 0)<([15396336,y.yr,IntKind.i64.wrap y.half,y.cyc,IntKind.i64.wrap y.sec].getD k 0:Int)))) hf rfl (fun w hS=>RunV.lss rfl rfl) fun a hf=>?_; refine OQ.nil ?_; intro w hS; refine k_seq ?_; refine W.ifdI hf rfl (fun hlt=>?_) (fun hlt=>?_)
        · refine W.seq ?_
          refine W.regionL (l:=[0]) rfl<|mv hf rfl<|?_; clear hf a; intro a hf; refine nk<|W.ret<|k_then_ret<|k_blk_ret<|k_then_ret<|k_then_ret<|k_blk_ret<|k_then_ret<|post1 hf rfl (ResOK.tmp rfl)<|?_; exact ⟨(),congrArg (fun x=>Ending.returned (Value.int .i64 x)) (by unfold befM befN; (first | rw [if_pos ha,if_pos hb] | rw [if_pos ha,if_neg hb] | rw [if_neg ha,if_pos hb] | rw [if_neg ha,if_neg hb]); exact bef_lt h2 (by omega) hlt),hS.sub (List.nil_sublist _) |>.noB⟩
        · refine W.skip ?_
          refine k_seq<|W.seq<|?_
          refine W.drawQ (fun w=>St w0 w noX [] [pt b_y4 (.cells #[.int .i64 15396336,.int .i64 y.yr,.int .i64 (IntKind.i64.wrap y.half),.int .i64 y.cyc,.int .i64 (IntKind.i64.wrap y.sec)] 83 (0,0)),pt b_x3 (.cells #[.int .i64 15396336,.int .i64 x.yr,.int .i64 (IntKind.i64.wrap x.half),.int .i64 x.cyc,.int .i64 (IntKind.i64.wrap x.sec)] 83 (0,0)),pt b_b2 (.cells (aD y) 24 (0,0)),pt b_a1 (.cells (aD x) 24 (0,0))]) P_mixed rfl (by kernel_rfl) rfl hS.drew ?_; clear hS; refine OQ.val (v:=.int .i64 (k:Int)) hf rfl (fun w hS=>RunV.move rfl) fun a hf=>OQ.val (v:=.pointer (some ⟨b_x3,k,none⟩)) hf rfl (fun w hS=>RunV.indexArr (j:=k) (m:=k) T_arr_83 T_size_3 rfl rfl rfl (by omega) (by omega)) fun a hf=>OQ.val (v:=.int .i64 ([15396336,x.yr,IntKind.i64.wrap x.half,x.cyc,IntKind.i64.wrap x.sec].getD k 0)) hf rfl (fun w hS=>RunV.load1 T_agg_3 rfl (hS.p 1 rfl) (arr5 (by omega))) fun a hf=>OQ.val (v:=.int .i64 (k:Int)) hf rfl (fun w hS=>RunV.move rfl) fun a hf=>OQ.val (v:=.pointer (some ⟨b_y4,k,none⟩)) hf rfl (fun w hS=>RunV.indexArr (j:=k) (m:=k) T_arr_83 T_size_3 rfl rfl rfl (by omega) (by omega)) fun a hf=>OQ.val (v:=.int .i64 ([15396336,y.yr,IntKind.i64.wrap y.half,y.cyc,IntKind.i64.wrap y.sec].getD k 0)) hf rfl (fun w hS=>RunV.load1 T_agg_3 rfl (hS.p 0 rfl) (arr5 (by omega))) fun a hf=>OQ.val (v:=.bool (decide (([15396336,x.yr,IntKind.i64.wrap x.half,x.cyc,IntKind.i64.wrap x.sec].getD k 0)>([15396336,y.yr,IntKind.i64.wrap y.half,y.cyc,IntKind.i64.wrap y.sec].getD k 0:Int)))) hf rfl (fun w hS=>RunV.gtr rfl rfl) fun a hf=>?_; refine OQ.nil ?_; intro w hS; refine k_seq ?_; refine W.ifdI hf rfl (fun hgt=>?_) (fun hgt=>?_)
          · refine W.seq ?_
            refine W.regionL (l:=[0]) rfl<|mv hf rfl<|?_; clear hf a; intro a hf; refine nk<|W.ret<|k_blk_ret<|k_then_ret<|k_then_ret<|k_blk_ret<|k_then_ret<|post1 hf rfl (ResOK.tmp rfl)<|?_; exact ⟨(),congrArg (fun x=>Ending.returned (Value.int .i64 x)) (by unfold befM befN; (first | rw [if_pos ha,if_pos hb] | rw [if_pos ha,if_neg hb] | rw [if_neg ha,if_pos hb] | rw [if_neg ha,if_neg hb]); exact bef_gt h2 (by omega) hgt),hS.sub (List.nil_sublist _) |>.noB⟩
          · refine W.skip ?_
            refine k_blk_normal<|k_seq<|?_
            refine W.regionL (l:=[0,1,2]) rfl<|mv hf rfl<|?_; clear hf a; intro a hf; refine ov hf rfl (RunV.addI rfl rfl (by omega)) ?_; clear hf a; intro a hf; refine mv hf rfl ?_; clear hf a; intro a hf; refine O.nil ?_; refine k_then ⟨(k+1),⟨hf.to ⟨rfl,rfl,(by first | rfl | exact congrArg some (congrArg (Value.int _) (by omega))),trivial⟩,?_,?_,?_⟩,?_⟩
            · exact hS.eqM rfl
            · omega
            · exact bef_step h2 (by omega) (by omega)
            · dsimp only; omega
      · refine W.exit ?_
        refine k_then_exit<|k_then_exit<|k_blk<|k_seq<|?_; replace hf:Fr a 60 [] []:=hf.to trivial; refine W.seq ?_
        refine W.regionL (l:=[0]) rfl<|mv hf rfl<|?_; clear hf a; intro a hf; refine nk<|W.ret<|post1 hf rfl (ResOK.tmp rfl)<|?_; exact ⟨(),congrArg (fun x=>Ending.returned (Value.int .i64 x)) (by unfold befM befN; (first | rw [if_pos ha,if_pos hb] | rw [if_pos ha,if_neg hb] | rw [if_neg ha,if_pos hb] | rw [if_neg ha,if_neg hb]); exact bef_eq h2 (by omega)),hS.sub (List.nil_sublist _) |>.noB⟩
    · refine W.skip ?_
      refine k_seq<|W.seq<|W.seq<|?_
      refine W.regionL (l:=[0]) rfl<|mv hf rfl<|?_; clear hf a; intro a hf; refine nk<|W.block<|?_
      refine W.loop (G:=(Nat)) (fun g a w=>match g with | k=>Fr a 60 [] [(5,.pointer (some ⟨b_x3,0,none⟩)),(6,.pointer (some ⟨b_y4,0,none⟩)),(7,.int .i64 (k:Int))]∧St w0 w noX [] [pt b_y4 (.cells #[.int .i64 y.num,.int .i64 y.yr,.int .i64 (IntKind.i64.wrap y.half),.int .i64 y.cyc,.int .i64 (IntKind.i64.wrap y.sec)] 83 (0,0)),pt b_x3 (.cells #[.int .i64 15396336,.int .i64 x.yr,.int .i64 (IntKind.i64.wrap x.half),.int .i64 x.cyc,.int .i64 (IntKind.i64.wrap x.sec)] 83 (0,0)),pt b_b2 (.cells (aD y) 24 (0,0)),pt b_a1 (.cells (aD x) 24 (0,0))]∧(k≤5)∧(∀ i,i<k→[15396336,x.yr,IntKind.i64.wrap x.half,x.cyc,IntKind.i64.wrap x.sec].getD i 0=[y.num,y.yr,IntKind.i64.wrap y.half,y.cyc,IntKind.i64.wrap y.sec].getD i 0)) (fun g=>match g with | k=>5-k) 0 ?_ ?_
      · refine ⟨hf.to ⟨rfl,rfl,(by first | rfl | exact congrArg some (congrArg (Value.int _) (by omega))),trivial⟩,hS,?_,?_⟩
        · omega
        · intro i hi; omega
      clear hf hS a; rintro k a w ⟨hf,hS,hk,h2⟩; refine W.seq<|W.seq<|?_
      refine W.regionL (l:=[0,1]) rfl<|mv hf rfl<|?_; clear hf a; intro a hf; refine ov (v:=.bool (decide ((k:Int)<(5:Int)))) hf rfl (RunV.lss rfl rfl) ?_; clear hf a; intro a hf; refine nk ?_; refine W.ifdI hf rfl (fun hc10=>?_) (fun hc10=>?_)
      · refine W.skip ?_
        refine k_seq<|W.seq<|W.block<|W.seq<|W.seq<|?_
        refine W.drawQ (fun w=>St w0 w noX [] [pt b_y4 (.cells #[.int .i64 y.num,.int .i64 y.yr,.int .i64 (IntKind.i64.wrap y.half),.int .i64 y.cyc,.int .i64 (IntKind.i64.wrap y.sec)] 83 (0,0)),pt b_x3 (.cells #[.int .i64 15396336,.int .i64 x.yr,.int .i64 (IntKind.i64.wrap x.half),.int .i64 x.cyc,.int .i64 (IntKind.i64.wrap x.sec)] 83 (0,0)),pt b_b2 (.cells (aD y) 24 (0,0)),pt b_a1 (.cells (aD x) 24 (0,0))]) P_mixed rfl (by kernel_rfl) rfl hS.drew ?_; clear hS; refine OQ.val (v:=.int .i64 (k:Int)) hf rfl (fun w hS=>RunV.move rfl) fun a hf=>OQ.val (v:=.pointer (some ⟨b_x3,k,none⟩)) hf rfl (fun w hS=>RunV.indexArr (j:=k) (m:=k) T_arr_83 T_size_3 rfl rfl rfl (by omega) (by omega)) fun a hf=>OQ.val (v:=.int .i64 ([15396336,x.yr,IntKind.i64.wrap x.half,x.cyc,IntKind.i64.wrap x.sec].getD k 0)) hf rfl (fun w hS=>RunV.load1 T_agg_3 rfl (hS.p 1 rfl) (arr5 (by omega))) fun a hf=>OQ.val (v:=.int .i64 (k:Int)) hf rfl (fun w hS=>RunV.move rfl) fun a hf=>OQ.val (v:=.pointer (some ⟨b_y4,k,none⟩)) hf rfl (fun w hS=>RunV.indexArr (j:=k) (m:=k) T_arr_83 T_size_3 rfl rfl rfl (by omega) (by omega)) fun a hf=>OQ.val (v:=.int .i64 ([y.num,y.yr,IntKind.i64.wrap y.half,y.cyc,IntKind.i64.wrap y.sec].getD k 0)) hf rfl (fun w hS=>RunV.load1 T_agg_3 rfl (hS.p 0 rfl) (arr5 (by omega))) fun a hf=>OQ.val (v:=.bool (decide (([15396336,x.yr,IntKind.i64.wrap x.half,x.cyc,IntKind.i64.wrap x.sec].getD k 0)<([y.num,y.yr,IntKind.i64.wrap y.half,y.cyc,IntKind.i64.wrap y.sec].getD k 0:Int)))) hf rfl (fun w hS=>RunV.lss rfl rfl) fun a hf=>?_; refine OQ.nil ?_; intro w hS; refine k_seq ?_; refine W.ifdI hf rfl (fun hlt=>?_) (fun hlt=>?_)
        · refine W.seq ?_
          refine W.regionL (l:=[0]) rfl<|mv hf rfl<|?_; clear hf a; intro a hf; refine nk<|W.ret<|k_then_ret<|k_blk_ret<|k_then_ret<|k_then_ret<|k_blk_ret<|k_then_ret<|post1 hf rfl (ResOK.tmp rfl)<|?_; exact ⟨(),congrArg (fun x=>Ending.returned (Value.int .i64 x)) (by unfold befM befN; (first | rw [if_pos ha,if_pos hb] | rw [if_pos ha,if_neg hb] | rw [if_neg ha,if_pos hb] | rw [if_neg ha,if_neg hb]); exact bef_lt h2 (by omega) hlt),hS.sub (List.nil_sublist _) |>.noB⟩
        · refine W.skip ?_
          refine k_seq<|W.seq<|?_
          refine W.drawQ (fun w=>St w0 w noX [] [pt b_y4 (.cells #[.int .i64 y.num,.int .i64 y.yr,.int .i64 (IntKind.i64.wrap y.half),.int .i64 y.cyc,.int .i64 (IntKind.i64.wrap y.sec)] 83 (0,0)),pt b_x3 (.cells #[.int .i64 15396336,.int .i64 x.yr,.int .i64 (IntKind.i64.wrap x.half),.int .i64 x.cyc,.int .i64 (IntKind.i64.wrap x.sec)] 83 (0,0)),pt b_b2 (.cells (aD y) 24 (0,0)),pt b_a1 (.cells (aD x) 24 (0,0))]) P_mixed rfl (by kernel_rfl) rfl hS.drew ?_; clear hS; refine OQ.val (v:=.int .i64 (k:Int)) hf rfl (fun w hS=>RunV.move rfl) fun a hf=>OQ.val (v:=.pointer (some ⟨b_x3,k,none⟩)) hf rfl (fun w hS=>RunV.indexArr (j:=k) (m:=k) T_arr_83 T_size_3 rfl rfl rfl (by omega) (by omega)) fun a hf=>OQ.val (v:=.int .i64 ([15396336,x.yr,IntKind.i64.wrap x.half,x.cyc,IntKind.i64.wrap x.sec].getD k 0)) hf rfl (fun w hS=>RunV.load1 T_agg_3 rfl (hS.p 1 rfl) (arr5 (by omega))) fun a hf=>OQ.val (v:=.int .i64 (k:Int)) hf rfl (fun w hS=>RunV.move rfl) fun a hf=>OQ.val (v:=.pointer (some ⟨b_y4,k,none⟩)) hf rfl (fun w hS=>RunV.indexArr (j:=k) (m:=k) T_arr_83 T_size_3 rfl rfl rfl (by omega) (by omega)) fun a hf=>OQ.val (v:=.int .i64 ([y.num,y.yr,IntKind.i64.wrap y.half,y.cyc,IntKind.i64.wrap y.sec].getD k 0)) hf rfl (fun w hS=>RunV.load1 T_agg_3 rfl (hS.p 0 rfl) (arr5 (by omega))) fun a hf=>OQ.val (v:=.bool (decide (([15396336,x.yr,IntKind.i64.wrap x.half,x.cyc,IntKind.i64.wrap x.sec].getD k 0)>([y.num,y.yr,IntKind.i64.wrap y.half,y.cyc,IntKind.i64.wrap y.sec].getD k 0:Int)))) hf rfl (fun w hS=>RunV.gtr rfl rfl) fun a hf=>?_; refine OQ.nil ?_; intro w hS; refine k_seq ?_; refine W.ifdI hf rfl (fun hgt=>?_) (fun hgt=>?_)
          · refine W.seq ?_
            refine W.regionL (l:=[0]) rfl<|mv hf rfl<|?_; clear hf a; intro a hf; refine nk<|W.ret<|k_blk_ret<|k_then_ret<|k_then_ret<|k_blk_ret<|k_then_ret<|post1 hf rfl (ResOK.tmp rfl)<|?_; exact ⟨(),congrArg (fun x=>Ending.returned (Value.int .i64 x)) (by unfold befM befN; (first | rw [if_pos ha,if_pos hb] | rw [if_pos ha,if_neg hb] | rw [if_neg ha,if_pos hb] | rw [if_neg ha,if_neg hb]); exact bef_gt h2 (by omega) hgt),hS.sub (List.nil_sublist _) |>.noB⟩
          · refine W.skip ?_
            refine k_blk_normal<|k_seq<|?_
            refine W.regionL (l:=[0,1,2]) rfl<|mv hf rfl<|?_; clear hf a; intro a hf; refine ov hf rfl (RunV.addI rfl rfl (by omega)) ?_; clear hf a; intro a hf; refine mv hf rfl ?_; clear hf a; intro a hf; refine O.nil ?_; refine k_then ⟨(k+1),⟨hf.to ⟨rfl,rfl,(by first | rfl | exact congrArg some (congrArg (Value.int _) (by omega))),trivial⟩,?_,?_,?_⟩,?_⟩
            · exact hS.eqM rfl
            · omega
            · exact bef_step h2 (by omega) (by omega)
            · dsimp only; omega
      · refine W.exit ?_
        refine k_then_exit<|k_then_exit<|k_blk<|k_seq<|?_; replace hf:Fr a 60 [] []:=hf.to trivial; refine W.seq ?_
        refine W.regionL (l:=[0]) rfl<|mv hf rfl<|?_; clear hf a; intro a hf; refine nk<|W.ret<|post1 hf rfl (ResOK.tmp rfl)<|?_; exact ⟨(),congrArg (fun x=>Ending.returned (Value.int .i64 x)) (by unfold befM befN; (first | rw [if_pos ha,if_pos hb] | rw [if_pos ha,if_neg hb] | rw [if_neg ha,if_pos hb] | rw [if_neg ha,if_neg hb]); exact bef_eq h2 (by omega)),hS.sub (List.nil_sublist _) |>.noB⟩
  · refine W.skip ?_
    refine k_seq<|W.seq<|W.seq<|?_
    refine W.regionL (l:=[0,1,2]) rfl<|ov hf rfl (RunV.field T_field_24_0 rfl rfl)<|?_; clear hf a; intro a hf; refine ov hf rfl (RunV.load1 T_agg_3 rfl (hS.p 2 rfl) rfl) ?_; clear hf a; intro a hf; refine ov (v:=.bool (decide (y.num=(0:Int)))) hf rfl (RunV.eql rfl rfl) ?_; clear hf a; intro a hf; refine nk ?_; refine W.ifdI hf rfl (fun hb=>?_) (fun hb=>?_)
    ·
      refine W.regionL (l:=[0,1]) rfl<|ov hf rfl (RunV.indexArr (j:=0) (m:=0) T_arr_83 T_size_3 rfl rfl rfl (by omega) (by omega))<|?_; clear hf a; intro a hf; refine ost 0 #[.int .i64 15396336,.int .i64 y.yr,.int .i64 (IntKind.i64.wrap y.half),.int .i64 y.cyc,.int .i64 (IntKind.i64.wrap y.sec)] hf hS rfl rfl rfl T_size_3 rfl rfl rfl (bl rfl) rfl ?_; intro w hS; refine nk<|W.seq<|W.seq<|?_
      refine W.regionL (l:=[0]) rfl<|mv hf rfl<|?_; clear hf a; intro a hf; refine nk<|W.block<|?_
      refine W.loop (G:=(Nat)) (fun g a w=>match g with | k=>Fr a 60 [] [(5,.pointer (some ⟨b_x3,0,none⟩)),(6,.pointer (some ⟨b_y4,0,none⟩)),(7,.int .i64 (k:Int))]∧St w0 w noX [] [pt b_y4 (.cells #[.int .i64 15396336,.int .i64 y.yr,.int .i64 (IntKind.i64.wrap y.half),.int .i64 y.cyc,.int .i64 (IntKind.i64.wrap y.sec)] 83 (0,0)),pt b_x3 (.cells #[.int .i64 x.num,.int .i64 x.yr,.int .i64 (IntKind.i64.wrap x.half),.int .i64 x.cyc,.int .i64 (IntKind.i64.wrap x.sec)] 83 (0,0)),pt b_b2 (.cells (aD y) 24 (0,0)),pt b_a1 (.cells (aD x) 24 (0,0))]∧(k≤5)∧(∀ i,i<k→[x.num,x.yr,IntKind.i64.wrap x.half,x.cyc,IntKind.i64.wrap x.sec].getD i 0=[15396336,y.yr,IntKind.i64.wrap y.half,y.cyc,IntKind.i64.wrap y.sec].getD i 0)) (fun g=>match g with | k=>5-k) 0 ?_ ?_
      · refine ⟨hf.to ⟨rfl,rfl,(by first | rfl | exact congrArg some (congrArg (Value.int _) (by omega))),trivial⟩,hS,?_,?_⟩
        · omega
        · intro i hi; omega
      clear hf hS a; rintro k a w ⟨hf,hS,hk,h2⟩; refine W.seq<|W.seq<|?_
      refine W.regionL (l:=[0,1]) rfl<|mv hf rfl<|?_; clear hf a; intro a hf; refine ov (v:=.bool (decide ((k:Int)<(5:Int)))) hf rfl (RunV.lss rfl rfl) ?_; clear hf a; intro a hf; refine nk ?_; refine W.ifdI hf rfl (fun hc14=>?_) (fun hc14=>?_)
      · refine W.skip ?_
        refine k_seq<|W.seq<|W.block<|W.seq<|W.seq<|?_
        refine W.drawQ (fun w=>St w0 w noX [] [pt b_y4 (.cells #[.int .i64 15396336,.int .i64 y.yr,.int .i64 (IntKind.i64.wrap y.half),.int .i64 y.cyc,.int .i64 (IntKind.i64.wrap y.sec)] 83 (0,0)),pt b_x3 (.cells #[.int .i64 x.num,.int .i64 x.yr,.int .i64 (IntKind.i64.wrap x.half),.int .i64 x.cyc,.int .i64 (IntKind.i64.wrap x.sec)] 83 (0,0)),pt b_b2 (.cells (aD y) 24 (0,0)),pt b_a1 (.cells (aD x) 24 (0,0))]) P_mixed rfl (by kernel_rfl) rfl hS.drew ?_; clear hS; refine OQ.val (v:=.int .i64 (k:Int)) hf rfl (fun w hS=>RunV.move rfl) fun a hf=>OQ.val (v:=.pointer (some ⟨b_x3,k,none⟩)) hf rfl (fun w hS=>RunV.indexArr (j:=k) (m:=k) T_arr_83 T_size_3 rfl rfl rfl (by omega) (by omega)) fun a hf=>OQ.val (v:=.int .i64 ([x.num,x.yr,IntKind.i64.wrap x.half,x.cyc,IntKind.i64.wrap x.sec].getD k 0)) hf rfl (fun w hS=>RunV.load1 T_agg_3 rfl (hS.p 1 rfl) (arr5 (by omega))) fun a hf=>OQ.val (v:=.int .i64 (k:Int)) hf rfl (fun w hS=>RunV.move rfl) fun a hf=>OQ.val (v:=.pointer (some ⟨b_y4,k,none⟩)) hf rfl (fun w hS=>RunV.indexArr (j:=k) (m:=k) T_arr_83 T_size_3 rfl rfl rfl (by omega) (by omega)) fun a hf=>OQ.val (v:=.int .i64 ([15396336,y.yr,IntKind.i64.wrap y.half,y.cyc,IntKind.i64.wrap y.sec].getD k 0)) hf rfl (fun w hS=>RunV.load1 T_agg_3 rfl (hS.p 0 rfl) (arr5 (by omega))) fun a hf=>OQ.val (v:=.bool (decide (([x.num,x.yr,IntKind.i64.wrap x.half,x.cyc,IntKind.i64.wrap x.sec].getD k 0)<([15396336,y.yr,IntKind.i64.wrap y.half,y.cyc,IntKind.i64.wrap y.sec].getD k 0:Int)))) hf rfl (fun w hS=>RunV.lss rfl rfl) fun a hf=>?_; refine OQ.nil ?_; intro w hS; refine k_seq ?_; refine W.ifdI hf rfl (fun hlt=>?_) (fun hlt=>?_)
        · refine W.seq ?_
          refine W.regionL (l:=[0]) rfl<|mv hf rfl<|?_; clear hf a; intro a hf; refine nk<|W.ret<|k_then_ret<|k_blk_ret<|k_then_ret<|k_then_ret<|k_blk_ret<|k_then_ret<|post1 hf rfl (ResOK.tmp rfl)<|?_; exact ⟨(),congrArg (fun x=>Ending.returned (Value.int .i64 x)) (by unfold befM befN; (first | rw [if_pos ha,if_pos hb] | rw [if_pos ha,if_neg hb] | rw [if_neg ha,if_pos hb] | rw [if_neg ha,if_neg hb]); exact bef_lt h2 (by omega) hlt),hS.sub (List.nil_sublist _) |>.noB⟩
        · refine W.skip ?_
          refine k_seq<|W.seq<|?_
          refine W.drawQ (fun w=>St w0 w noX [] [pt b_y4 (.cells #[.int .i64 15396336,.int .i64 y.yr,.int .i64 (IntKind.i64.wrap y.half),.int .i64 y.cyc,.int .i64 (IntKind.i64.wrap y.sec)] 83 (0,0)),pt b_x3 (.cells #[.int .i64 x.num,.int .i64 x.yr,.int .i64 (IntKind.i64.wrap x.half),.int .i64 x.cyc,.int .i64 (IntKind.i64.wrap x.sec)] 83 (0,0)),pt b_b2 (.cells (aD y) 24 (0,0)),pt b_a1 (.cells (aD x) 24 (0,0))]) P_mixed rfl (by kernel_rfl) rfl hS.drew ?_; clear hS; refine OQ.val (v:=.int .i64 (k:Int)) hf rfl (fun w hS=>RunV.move rfl) fun a hf=>OQ.val (v:=.pointer (some ⟨b_x3,k,none⟩)) hf rfl (fun w hS=>RunV.indexArr (j:=k) (m:=k) T_arr_83 T_size_3 rfl rfl rfl (by omega) (by omega)) fun a hf=>OQ.val (v:=.int .i64 ([x.num,x.yr,IntKind.i64.wrap x.half,x.cyc,IntKind.i64.wrap x.sec].getD k 0)) hf rfl (fun w hS=>RunV.load1 T_agg_3 rfl (hS.p 1 rfl) (arr5 (by omega))) fun a hf=>OQ.val (v:=.int .i64 (k:Int)) hf rfl (fun w hS=>RunV.move rfl) fun a hf=>OQ.val (v:=.pointer (some ⟨b_y4,k,none⟩)) hf rfl (fun w hS=>RunV.indexArr (j:=k) (m:=k) T_arr_83 T_size_3 rfl rfl rfl (by omega) (by omega)) fun a hf=>OQ.val (v:=.int .i64 ([15396336,y.yr,IntKind.i64.wrap y.half,y.cyc,IntKind.i64.wrap y.sec].getD k 0)) hf rfl (fun w hS=>RunV.load1 T_agg_3 rfl (hS.p 0 rfl) (arr5 (by omega))) fun a hf=>OQ.val (v:=.bool (decide (([x.num,x.yr,IntKind.i64.wrap x.half,x.cyc,IntKind.i64.wrap x.sec].getD k 0)>([15396336,y.yr,IntKind.i64.wrap y.half,y.cyc,IntKind.i64.wrap y.sec].getD k 0:Int)))) hf rfl (fun w hS=>RunV.gtr rfl rfl) fun a hf=>?_; refine OQ.nil ?_; intro w hS; refine k_seq ?_; refine W.ifdI hf rfl (fun hgt=>?_) (fun hgt=>?_)
          · refine W.seq ?_
            refine W.regionL (l:=[0]) rfl<|mv hf rfl<|?_; clear hf a; intro a hf; refine nk<|W.ret<|k_blk_ret<|k_then_ret<|k_then_ret<|k_blk_ret<|k_then_ret<|post1 hf rfl (ResOK.tmp rfl)<|?_; exact ⟨(),congrArg (fun x=>Ending.returned (Value.int .i64 x)) (by unfold befM befN; (first | rw [if_pos ha,if_pos hb] | rw [if_pos ha,if_neg hb] | rw [if_neg ha,if_pos hb] | rw [if_neg ha,if_neg hb]); exact bef_gt h2 (by omega) hgt),hS.sub (List.nil_sublist _) |>.noB⟩
          · refine W.skip ?_
            refine k_blk_normal<|k_seq<|?_
            refine W.regionL (l:=[0,1,2]) rfl<|mv hf rfl<|?_; clear hf a; intro a hf; refine ov hf rfl (RunV.addI rfl rfl (by omega)) ?_; clear hf a; intro a hf; refine mv hf rfl ?_; clear hf a; intro a hf; refine O.nil ?_; refine k_then ⟨(k+1),⟨hf.to ⟨rfl,rfl,(by first | rfl | exact congrArg some (congrArg (Value.int _) (by omega))),trivial⟩,?_,?_,?_⟩,?_⟩
            · exact hS.eqM rfl
            · omega
            · exact bef_step h2 (by omega) (by omega)
            · dsimp only; omega
      · refine W.exit ?_
        refine k_then_exit<|k_then_exit<|k_blk<|k_seq<|?_; replace hf:Fr a 60 [] []:=hf.to trivial; refine W.seq ?_
        refine W.regionL (l:=[0]) rfl<|mv hf rfl<|?_; clear hf a; intro a hf; refine nk<|W.ret<|post1 hf rfl (ResOK.tmp rfl)<|?_; exact ⟨(),congrArg (fun x=>Ending.returned (Value.int .i64 x)) (by unfold befM befN; (first | rw [if_pos ha,if_pos hb] | rw [if_pos ha,if_neg hb] | rw [if_neg ha,if_pos hb] | rw [if_neg ha,if_neg hb]); exact bef_eq h2 (by omega)),hS.sub (List.nil_sublist _) |>.noB⟩
    · refine W.skip ?_
      refine k_seq<|W.seq<|W.seq<|?_
      refine W.regionL (l:=[0]) rfl<|mv hf rfl<|?_; clear hf a; intro a hf; refine nk<|W.block<|?_
      refine W.loop (G:=(Nat)) (fun g a w=>match g with | k=>Fr a 60 [] [(5,.pointer (some ⟨b_x3,0,none⟩)),(6,.pointer (some ⟨b_y4,0,none⟩)),(7,.int .i64 (k:Int))]∧St w0 w noX [] [pt b_y4 (.cells #[.int .i64 y.num,.int .i64 y.yr,.int .i64 (IntKind.i64.wrap y.half),.int .i64 y.cyc,.int .i64 (IntKind.i64.wrap y.sec)] 83 (0,0)),pt b_x3 (.cells #[.int .i64 x.num,.int .i64 x.yr,.int .i64 (IntKind.i64.wrap x.half),.int .i64 x.cyc,.int .i64 (IntKind.i64.wrap x.sec)] 83 (0,0)),pt b_b2 (.cells (aD y) 24 (0,0)),pt b_a1 (.cells (aD x) 24 (0,0))]∧(k≤5)∧(∀ i,i<k→[x.num,x.yr,IntKind.i64.wrap x.half,x.cyc,IntKind.i64.wrap x.sec].getD i 0=[y.num,y.yr,IntKind.i64.wrap y.half,y.cyc,IntKind.i64.wrap y.sec].getD i 0)) (fun g=>match g with | k=>5-k) 0 ?_ ?_
      · refine ⟨hf.to ⟨rfl,rfl,(by first | rfl | exact congrArg some (congrArg (Value.int _) (by omega))),trivial⟩,hS,?_,?_⟩
        · omega
        · intro i hi; omega
      clear hf hS a; rintro k a w ⟨hf,hS,hk,h2⟩; refine W.seq<|W.seq<|?_
      refine W.regionL (l:=[0,1]) rfl<|mv hf rfl<|?_; clear hf a; intro a hf; refine ov (v:=.bool (decide ((k:Int)<(5:Int)))) hf rfl (RunV.lss rfl rfl) ?_; clear hf a; intro a hf; refine nk ?_; refine W.ifdI hf rfl (fun hc17=>?_) (fun hc17=>?_)
      · refine W.skip ?_
        refine k_seq<|W.seq<|W.block<|W.seq<|W.seq<|?_
        refine W.drawQ (fun w=>St w0 w noX [] [pt b_y4 (.cells #[.int .i64 y.num,.int .i64 y.yr,.int .i64 (IntKind.i64.wrap y.half),.int .i64 y.cyc,.int .i64 (IntKind.i64.wrap y.sec)] 83 (0,0)),pt b_x3 (.cells #[.int .i64 x.num,.int .i64 x.yr,.int .i64 (IntKind.i64.wrap x.half),.int .i64 x.cyc,.int .i64 (IntKind.i64.wrap x.sec)] 83 (0,0)),pt b_b2 (.cells (aD y) 24 (0,0)),pt b_a1 (.cells (aD x) 24 (0,0))]) P_mixed rfl (by kernel_rfl) rfl hS.drew ?_; clear hS; refine OQ.val (v:=.int .i64 (k:Int)) hf rfl (fun w hS=>RunV.move rfl) fun a hf=>OQ.val (v:=.pointer (some ⟨b_x3,k,none⟩)) hf rfl (fun w hS=>RunV.indexArr (j:=k) (m:=k) T_arr_83 T_size_3 rfl rfl rfl (by omega) (by omega)) fun a hf=>OQ.val (v:=.int .i64 ([x.num,x.yr,IntKind.i64.wrap x.half,x.cyc,IntKind.i64.wrap x.sec].getD k 0)) hf rfl (fun w hS=>RunV.load1 T_agg_3 rfl (hS.p 1 rfl) (arr5 (by omega))) fun a hf=>OQ.val (v:=.int .i64 (k:Int)) hf rfl (fun w hS=>RunV.move rfl) fun a hf=>OQ.val (v:=.pointer (some ⟨b_y4,k,none⟩)) hf rfl (fun w hS=>RunV.indexArr (j:=k) (m:=k) T_arr_83 T_size_3 rfl rfl rfl (by omega) (by omega)) fun a hf=>OQ.val (v:=.int .i64 ([y.num,y.yr,IntKind.i64.wrap y.half,y.cyc,IntKind.i64.wrap y.sec].getD k 0)) hf rfl (fun w hS=>RunV.load1 T_agg_3 rfl (hS.p 0 rfl) (arr5 (by omega))) fun a hf=>OQ.val (v:=.bool (decide (([x.num,x.yr,IntKind.i64.wrap x.half,x.cyc,IntKind.i64.wrap x.sec].getD k 0)<([y.num,y.yr,IntKind.i64.wrap y.half,y.cyc,IntKind.i64.wrap y.sec].getD k 0:Int)))) hf rfl (fun w hS=>RunV.lss rfl rfl) fun a hf=>?_; refine OQ.nil ?_; intro w hS; refine k_seq ?_; refine W.ifdI hf rfl (fun hlt=>?_) (fun hlt=>?_)
        · refine W.seq ?_
          refine W.regionL (l:=[0]) rfl<|mv hf rfl<|?_; clear hf a; intro a hf; refine nk<|W.ret<|k_then_ret<|k_blk_ret<|k_then_ret<|k_then_ret<|k_blk_ret<|k_then_ret<|post1 hf rfl (ResOK.tmp rfl)<|?_; exact ⟨(),congrArg (fun x=>Ending.returned (Value.int .i64 x)) (by unfold befM befN; (first | rw [if_pos ha,if_pos hb] | rw [if_pos ha,if_neg hb] | rw [if_neg ha,if_pos hb] | rw [if_neg ha,if_neg hb]); exact bef_lt h2 (by omega) hlt),hS.sub (List.nil_sublist _) |>.noB⟩
        · refine W.skip ?_
          refine k_seq<|W.seq<|?_
          refine W.drawQ (fun w=>St w0 w noX [] [pt b_y4 (.cells #[.int .i64 y.num,.int .i64 y.yr,.int .i64 (IntKind.i64.wrap y.half),.int .i64 y.cyc,.int .i64 (IntKind.i64.wrap y.sec)] 83 (0,0)),pt b_x3 (.cells #[.int .i64 x.num,.int .i64 x.yr,.int .i64 (IntKind.i64.wrap x.half),.int .i64 x.cyc,.int .i64 (IntKind.i64.wrap x.sec)] 83 (0,0)),pt b_b2 (.cells (aD y) 24 (0,0)),pt b_a1 (.cells (aD x) 24 (0,0))]) P_mixed rfl (by kernel_rfl) rfl hS.drew ?_; clear hS; refine OQ.val (v:=.int .i64 (k:Int)) hf rfl (fun w hS=>RunV.move rfl) fun a hf=>OQ.val (v:=.pointer (some ⟨b_x3,k,none⟩)) hf rfl (fun w hS=>RunV.indexArr (j:=k) (m:=k) T_arr_83 T_size_3 rfl rfl rfl (by omega) (by omega)) fun a hf=>OQ.val (v:=.int .i64 ([x.num,x.yr,IntKind.i64.wrap x.half,x.cyc,IntKind.i64.wrap x.sec].getD k 0)) hf rfl (fun w hS=>RunV.load1 T_agg_3 rfl (hS.p 1 rfl) (arr5 (by omega))) fun a hf=>OQ.val (v:=.int .i64 (k:Int)) hf rfl (fun w hS=>RunV.move rfl) fun a hf=>OQ.val (v:=.pointer (some ⟨b_y4,k,none⟩)) hf rfl (fun w hS=>RunV.indexArr (j:=k) (m:=k) T_arr_83 T_size_3 rfl rfl rfl (by omega) (by omega)) fun a hf=>OQ.val (v:=.int .i64 ([y.num,y.yr,IntKind.i64.wrap y.half,y.cyc,IntKind.i64.wrap y.sec].getD k 0)) hf rfl (fun w hS=>RunV.load1 T_agg_3 rfl (hS.p 0 rfl) (arr5 (by omega))) fun a hf=>OQ.val (v:=.bool (decide (([x.num,x.yr,IntKind.i64.wrap x.half,x.cyc,IntKind.i64.wrap x.sec].getD k 0)>([y.num,y.yr,IntKind.i64.wrap y.half,y.cyc,IntKind.i64.wrap y.sec].getD k 0:Int)))) hf rfl (fun w hS=>RunV.gtr rfl rfl) fun a hf=>?_; refine OQ.nil ?_; intro w hS; refine k_seq ?_; refine W.ifdI hf rfl (fun hgt=>?_) (fun hgt=>?_)
          · refine W.seq ?_
            refine W.regionL (l:=[0]) rfl<|mv hf rfl<|?_; clear hf a; intro a hf; refine nk<|W.ret<|k_blk_ret<|k_then_ret<|k_then_ret<|k_blk_ret<|k_then_ret<|post1 hf rfl (ResOK.tmp rfl)<|?_; exact ⟨(),congrArg (fun x=>Ending.returned (Value.int .i64 x)) (by unfold befM befN; (first | rw [if_pos ha,if_pos hb] | rw [if_pos ha,if_neg hb] | rw [if_neg ha,if_pos hb] | rw [if_neg ha,if_neg hb]); exact bef_gt h2 (by omega) hgt),hS.sub (List.nil_sublist _) |>.noB⟩
          · refine W.skip ?_
            refine k_blk_normal<|k_seq<|?_
            refine W.regionL (l:=[0,1,2]) rfl<|mv hf rfl<|?_; clear hf a; intro a hf; refine ov hf rfl (RunV.addI rfl rfl (by omega)) ?_; clear hf a; intro a hf; refine mv hf rfl ?_; clear hf a; intro a hf; refine O.nil ?_; refine k_then ⟨(k+1),⟨hf.to ⟨rfl,rfl,(by first | rfl | exact congrArg some (congrArg (Value.int _) (by omega))),trivial⟩,?_,?_,?_⟩,?_⟩
            · exact hS.eqM rfl
            · omega
            · exact bef_step h2 (by omega) (by omega)
            · dsimp only; omega
      · refine W.exit ?_
        refine k_then_exit<|k_then_exit<|k_blk<|k_seq<|?_; replace hf:Fr a 60 [] []:=hf.to trivial; refine W.seq ?_
        refine W.regionL (l:=[0]) rfl<|mv hf rfl<|?_; clear hf a; intro a hf; refine nk<|W.ret<|post1 hf rfl (ResOK.tmp rfl)<|?_; exact ⟨(),congrArg (fun x=>Ending.returned (Value.int .i64 x)) (by unfold befM befN; (first | rw [if_pos ha,if_pos hb] | rw [if_pos ha,if_neg hb] | rw [if_neg ha,if_pos hb] | rw [if_neg ha,if_neg hb]); exact bef_eq h2 (by omega)),hS.sub (List.nil_sublist _) |>.noB⟩
end Go.Proofs.YtgakdmmmljdpjaaDoor

namespace Go.SL
open Go
def halfB (c:Int):Bool:=decide (c≥65)&&decide (c≤89)&&decide (c≠73)
def orderB (c:Int):Bool:=decide (c≥65)&&decide (c≤90)&&decide (c≠73)
theorem half_place:∀ n:Fin 256,(decide (placeM (IntKind.i32.wrap (n.val:Int))≥0)&&decide (placeM (IntKind.i32.wrap (n.val:Int))<24))=halfB (n.val:Int):=by decide +kernel
theorem order_place:∀ n:Fin 256,decide (placeM (IntKind.i32.wrap (n.val:Int))≥0)=orderB (n.val:Int):=by decide +kernel
theorem okD_28 {d:Dg} (hr:rD d):okD d=if d.num≠0 then decide (d=⟨d.num,0,0,0,0⟩)&&decide (d.num>0)&&decide (d.num≤15396335)
    else decide (d.yr≥1800)&&decide (d.yr≤2099)&&halfB d.half&&orderB d.sec&&decide (d.cyc≥0)&&decide (d.cyc≤619):=by
  have h1:=half_place ⟨d.half.toNat,by have:=hr.1; omega⟩
  have h2:=order_place ⟨d.sec.toNat,by have:=hr.2; omega⟩
  have e1:((d.half.toNat:Nat):Int)=d.half:=by have:=hr.1; omega
  have e2:((d.sec.toNat:Nat):Int)=d.sec:=by have:=hr.2; omega
  simp only [e1,e2] at h1 h2
  unfold okD
  rw [h1,h2]
section
variable {A:Prop} [Decidable A] {n m y c:Int} {h o:Bool}
theorem ck_bad1 (hb:(!decide A||decide (n<1)||decide (n>m))=true):(decide A&&decide (n>0)&&decide (n≤m))=false:=by
  rw [Bool.eq_false_iff]
  intro h
  simp only [Bool.or_eq_true,Bool.and_eq_true,Bool.not_eq_true',decide_eq_true_eq,decide_eq_false_iff_not] at hb h
  rcases hb with (h1 | h1) | h1
  · exact h1 h.1.1
  · omega
  · omega
theorem ck_ok1 (hb:(!decide A||decide (n<1)||decide (n>m))=false):(decide A&&decide (n>0)&&decide (n≤m))=true:=by
  simp only [Bool.or_eq_false_iff,Bool.not_eq_false',decide_eq_true_eq,decide_eq_false_iff_not] at hb
  simp only [Bool.and_eq_true,decide_eq_true_eq]
  exact ⟨⟨hb.1.1,by omega⟩,by omega⟩
theorem ck_bad2 (hb:(decide (y<1800)||decide (y>2099)||!h||!o||decide (c<0)||decide (c>619))=true):(decide (y≥1800)&&decide (y≤2099)&&h&&o&&decide (c≥0)&&decide (c≤619))=false:=by
  rw [Bool.eq_false_iff]
  intro h
  simp only [Bool.or_eq_true,Bool.and_eq_true,Bool.not_eq_true',decide_eq_true_eq] at hb h
  rcases hb with ((((h1 | h1) | h1) | h1) | h1) | h1
  · omega
  · omega
  · rw [h.1.1.1.2] at h1; cases h1
  · rw [h.1.1.2] at h1; cases h1
  · omega
  · omega
theorem ck_ok2 (hb:(decide (y<1800)||decide (y>2099)||!h||!o||decide (c<0)||decide (c>619))=false):(decide (y≥1800)&&decide (y≤2099)&&h&&o&&decide (c≥0)&&decide (c≤619))=true:=by
  simp only [Bool.or_eq_false_iff,Bool.not_eq_false',decide_eq_false_iff_not] at hb
  simp only [Bool.and_eq_true,decide_eq_true_eq]
  exact ⟨⟨⟨⟨⟨by omega,by omega⟩,hb.1.1.1.2⟩,hb.1.1.2⟩,by omega⟩,by omega⟩
end
end Go.SL
