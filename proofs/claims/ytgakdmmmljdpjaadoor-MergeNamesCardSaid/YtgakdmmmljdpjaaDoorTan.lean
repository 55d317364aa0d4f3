/- Part of a proof: laws and walks. -/
import Derived.Test.YtgakdmmmljdpjaaDoorTam
set_option linter.unusedVariables false
set_option linter.unusedSimpArgs false
namespace Go.Proofs.YtgakdmmmljdpjaaDoor
open Go Go.SL
theorem C_ok_20:callOK Tryd.prog 20=true:=by kernel_rfl
theorem C_ok_28:callOK Tryd.prog 28=true:=by kernel_rfl
theorem T_field_46_1:tField Tryd.prog 46 1=some 5:=by kernel_rfl
theorem T_places_26:tPlaces Tryd.prog 26=some #[(0,1),(1,5),(6,5),(11,1)]:=by kernel_rfl
set_option maxHeartbeats 400000 in
set_option maxRecDepth 4000 in
theorem named_spec (c:Int) (w0:World) :
    Ret Tryd.prog 28 #[.int .u8 c] w0 (G:=Unit) (fun _=>dV (nameD c)) (fun _ w=>St w0 w noX [] []):=by
  refine ret_of_W (lv:=[.int .u8 c]) Tryd.func28 rfl rfl rfl (fun a hf=>?_)
  replace hf:Fr a 5 [] [(0,.int .u8 c)]:=hf
  have hS:St w0 w0 noX [] []:=St.refl w0
  refine W.seq ?_
  refine W.regionL (l:=[0]) rfl ?_
  refine O.alloc (cs:=#[.int .i64 0,.int .i64 0,.int .u8 0,.int .u8 0,.int .i64 0]) hf hS rfl rfl T_zero_24 rfl ?_
  clear hf hS a; intro b_x1 w a hbb_x1 hS hf
  refine O.nil ?_
  refine k_seq ?_
  refine W.seq ?_
  refine W.regionL (l:=[0,1,2]) rfl ?_
  refine O.val hf rfl rfl rfl (RunV.move rfl) ?_
  clear hf a; intro a hf
  refine O.val hf rfl rfl rfl (RunV.buildS (cs':=#[.int .i64 0,.int .i64 2026,.int .u8 87,.int .u8 c,.int .i64 0]) T_places_24 T_zero_24 rfl rfl) ?_
  clear hf a; intro a hf
  refine O.store (j:=0) (cs':=#[.int .i64 0,.int .i64 2026,.int .u8 87,.int .u8 c,.int .i64 0]) (M':=[pt b_x1 (.cells #[.int .i64 0,.int .i64 2026,.int .u8 87,.int .u8 c,.int .i64 0] 24 (0,0))]) hf hS rfl rfl rfl T_size_24 rfl rfl rfl (Nat.le_of_ble_eq_true rfl) rfl rfl ?_
  clear hS; intro w hS
  refine O.nil ?_
  refine k_seq ?_
  replace hf:Fr a 5 [] [(2,.pointer (some ⟨b_x1,0,none⟩))]:=hf.to ⟨rfl,trivial⟩
  refine W.ret ?_
  refine post1 hf rfl (ResOK.cellN (cs':=#[.int .i64 0,.int .i64 2026,.int .u8 87,.int .u8 c,.int .i64 0]) rfl T_agg_24 T_size_24 (hS.ptAt (i:=0) rfl) (Nat.le_of_ble_eq_true rfl) rfl) ?_
  exact ⟨(),rfl,hS.sub (List.nil_sublist _) |>.noB⟩
set_option maxHeartbeats 400000 in
set_option maxRecDepth 4000 in
theorem given_spec (w0:World) :
    Ret Tryd.prog 30 #[] w0 (G:=Value) (fun g=>g) (fun g w=>St w0 w noX [] [slE 26 12 eC g givenL]):=by
  refine ret_of_W (lv:=[]) Tryd.func30 rfl rfl rfl (fun a hf=>?_)
  replace hf:Fr a 12 [] []:=hf
  have hS:St w0 w0 noX [] []:=St.refl w0
  refine W.seq ?_
  refine W.regionL (l:=[0]) rfl ?_
  refine O.val hf rfl rfl rfl (RunV.assign rfl) ?_
  clear hf a; intro a hf
  refine O.nil ?_
  refine k_seq ?_
  refine W.seq ?_
  refine W.regionL (l:=[0,1,2,3,4,5,6,7,8,9,10,11]) rfl ?_
  refine O.callR hf rfl rfl rfl (RunE.call (av:=#[.int .u8 65]) C_ok_28 rfl rfl rfl) (named_spec 65 _) ?_
  clear hf a
  rintro _ w1 hS1 a hf
  replace hf:Fr a _ _ ((1,.agg #[.int .i64 0,.int .i64 2026,.int .u8 87,.int .u8 65,.int .i64 0])::_):=hf
  replace hS:=(hS.call hS1).eqM (N:=[]) rfl
  clear hS1
  refine O.val hf rfl rfl rfl (RunV.buildS (cs':=#[.int .u8 1,.int .i64 0,.int .i64 2026,.int .u8 87,.int .u8 65,.int .i64 0,.int .i64 0,.int .i64 0,.int .u8 0,.int .u8 0,.int .i64 0,.int .i64 0]) T_places_26 T_zero_26 rfl (by kernel_rfl)) ?_
  clear hf a; intro a hf
  refine O.callR hf rfl rfl rfl (RunE.call (av:=#[.int .u8 66]) C_ok_28 rfl rfl rfl) (named_spec 66 _) ?_
  clear hf a
  rintro _ w2 hS1 a hf
  replace hf:Fr a _ _ ((3,.agg #[.int .i64 0,.int .i64 2026,.int .u8 87,.int .u8 66,.int .i64 0])::_):=hf
  replace hS:=(hS.call hS1).eqM (N:=[]) rfl
  clear hS1
  refine O.val hf rfl rfl rfl (RunV.buildS (cs':=#[.int .u8 1,.int .i64 0,.int .i64 2026,.int .u8 87,.int .u8 66,.int .i64 0,.int .i64 0,.int .i64 0,.int .u8 0,.int .u8 0,.int .i64 0,.int .i64 0]) T_places_26 T_zero_26 rfl (by kernel_rfl)) ?_
  clear hf a; intro a hf
  refine O.callR hf rfl rfl rfl (RunE.call (av:=#[.int .u8 65]) C_ok_28 rfl rfl rfl) (named_spec 65 _) ?_
  clear hf a
  rintro _ w3 hS1 a hf
  replace hf:Fr a _ _ ((5,.agg #[.int .i64 0,.int .i64 2026,.int .u8 87,.int .u8 65,.int .i64 0])::_):=hf
  replace hS:=(hS.call hS1).eqM (N:=[]) rfl
  clear hS1
  refine O.callR hf rfl rfl rfl (RunE.call (av:=#[.int .u8 66]) C_ok_28 rfl rfl rfl) (named_spec 66 _) ?_
  clear hf a
  rintro _ w4 hS1 a hf
  replace hf:Fr a _ _ ((6,.agg #[.int .i64 0,.int .i64 2026,.int .u8 87,.int .u8 66,.int .i64 0])::_):=hf
  replace hS:=(hS.call hS1).eqM (N:=[]) rfl
  clear hS1
  refine O.val hf rfl rfl rfl (RunV.buildS (cs':=#[.int .u8 2,.int .i64 0,.int .i64 2026,.int .u8 87,.int .u8 65,.int .i64 0,.int .i64 0,.int .i64 2026,.int .u8 87,.int .u8 66,.int .i64 0,.int .i64 0]) T_places_26 T_zero_26 rfl (by kernel_rfl)) ?_
  clear hf a; intro a hf
  refine O.callR hf rfl rfl rfl (RunE.call (av:=#[.int .u8 66]) C_ok_28 rfl rfl rfl) (named_spec 66 _) ?_
  clear hf a
  rintro _ w5 hS1 a hf
  replace hf:Fr a _ _ ((8,.agg #[.int .i64 0,.int .i64 2026,.int .u8 87,.int .u8 66,.int .i64 0])::_):=hf
  replace hS:=(hS.call hS1).eqM (N:=[]) rfl
  clear hS1
  refine O.val hf rfl rfl rfl (RunV.buildS (cs':=#[.int .i64 700001,.int .i64 0,.int .u8 0,.int .u8 0,.int .i64 0]) T_places_24 T_zero_24 rfl rfl) ?_
  clear hf a; intro a hf
  refine O.val hf rfl rfl rfl (RunV.buildS (cs':=#[.int .u8 3,.int .i64 0,.int .i64 2026,.int .u8 87,.int .u8 66,.int .i64 0,.int .i64 700001,.int .i64 0,.int .u8 0,.int .u8 0,.int .i64 0,.int .i64 0]) T_places_26 T_zero_26 rfl (by kernel_rfl)) ?_
  clear hf a; intro a hf
  refine O.buildSlice (cs':=#[.int .u8 1,.int .i64 0,.int .i64 2026,.int .u8 87,.int .u8 65,.int .i64 0,.int .i64 0,.int .i64 0,.int .u8 0,.int .u8 0,.int .i64 0,.int .i64 0,.int .u8 1,.int .i64 0,.int .i64 2026,.int .u8 87,.int .u8 66,.int .i64 0,.int .i64 0,.int .i64 0,.int .u8 0,.int .u8 0,.int .i64 0,.int .i64 0,.int .u8 2,.int .i64 0,.int .i64 2026,.int .u8 87,.int .u8 65,.int .i64 0,.int .i64 0,.int .i64 2026,.int .u8 87,.int .u8 66,.int .i64 0,.int .i64 0,.int .u8 3,.int .i64 0,.int .i64 2026,.int .u8 87,.int .u8 66,.int .i64 0,.int .i64 700001,.int .i64 0,.int .u8 0,.int .u8 0,.int .i64 0,.int .i64 0]) (zs:=#[.int .u8 0,.int .i64 0,.int .i64 0,.int .u8 0,.int .u8 0,.int .i64 0,.int .i64 0,.int .i64 0,.int .u8 0,.int .u8 0,.int .i64 0,.int .i64 0,.int .u8 0,.int .i64 0,.int .i64 0,.int .u8 0,.int .u8 0,.int .i64 0,.int .i64 0,.int .i64 0,.int .u8 0,.int .u8 0,.int .i64 0,.int .i64 0,.int .u8 0,.int .i64 0,.int .i64 0,.int .u8 0,.int .u8 0,.int .i64 0,.int .i64 0,.int .i64 0,.int .u8 0,.int .u8 0,.int .i64 0,.int .i64 0,.int .u8 0,.int .i64 0,.int .i64 0,.int .u8 0,.int .u8 0,.int .i64 0,.int .i64 0,.int .i64 0,.int .u8 0,.int .u8 0,.int .i64 0,.int .i64 0]) hf hS rfl rfl T_elem_22 T_size_26 T_zero_26 rfl rfl (by kernel_rfl) rfl (by kernel_rfl) ?_
  clear hf hS a; intro b_s6 w a hbb_s6 hS hf
  refine O.val hf rfl rfl rfl (RunV.assign rfl) ?_
  clear hf a; intro a hf
  refine O.nil ?_
  refine k_seq ?_
  replace hf:Fr a 12 [] [(0,.slice (some ⟨b_s6,0,none⟩) 4 4)]:=hf.to ⟨rfl,trivial⟩
  refine W.ret ?_
  refine post1 hf rfl (ResOK.tmp rfl) ?_
  replace hS:=hS.ptSl (j:=0) (n:=4) (sz:=12) (xs:=encs eC givenL) rfl (by unfold maxLen; omega) rfl rfl rfl
  exact ⟨_,rfl,(hS.sub (List.Sublist.cons_cons _ (List.nil_sublist _))).noB⟩
set_option maxHeartbeats 400000 in
set_option maxRecDepth 4000 in
theorem one_spec (ad:Option Addr) (c:Nat) (l:List Dg) (w0:World) (hl:rdOK (hp w0) 5 (.slice ad l.length c) l.length (encs eD l)) (hne:0<l.length) :
    Ret Tryd.prog 31 #[(.slice ad l.length c)] w0 (G:=Unit) (fun _=>oV (l.getD 0 default) (.slice ad l.length c)) (fun _ w=>St w0 w noX [] []):=by
  refine ret_of_W (lv:=[(.slice ad l.length c)]) Tryd.func31 rfl rfl rfl (fun a hf=>?_)
  replace hf:Fr a 8 [] [(0,(.slice ad l.length c))]:=hf
  have hS:St w0 w0 noX [rdv 5 (.slice ad l.length c) l.length (encs eD l)] []:=(St.refl w0).lend0 hl
  obtain ⟨pd,hpd⟩:∃ pd,pd=l.getD 0 default:=⟨_,rfl⟩
  refine W.seq ?_
  refine W.regionL (l:=[0]) rfl ?_
  refine O.alloc (cs:=#[.int .i64 0,.int .i64 0,.int .u8 0,.int .u8 0,.int .i64 0,.slice none 0 0]) hf hS rfl rfl T_zero_46 rfl ?_
  clear hf hS a; intro b_x1 w a hbb_x1 hS hf
  refine O.nil ?_
  refine k_seq ?_
  refine W.seq ?_
  refine W.regionL (l:=[0,1,2,3,4,5]) rfl ?_
  refine O.val hf rfl rfl rfl (RunV.move rfl) ?_
  clear hf a; intro a hf
  refine O.val hf rfl rfl rfl (RunV.ixV (j:=0) (m:=0) T_elem_35 T_size_24 rfl rfl (hS.rdAt (j:=0) rfl) rfl (by omega) rfl) ?_
  clear hf a; intro a hf
  refine O.val hf rfl rfl rfl (RunV.ldG (j:=0) (enc:=eD) (l:=l) (us:=eD pd) T_agg_24 T_size_24 rfl eD_len rfl (hS.rdAt (j:=0) rfl) (by omega) (by rw [hpd])) ?_
  clear hf a; intro a hf
  refine O.val hf rfl rfl rfl (RunV.move rfl) ?_
  clear hf a; intro a hf
  refine O.val hf rfl rfl rfl (RunV.buildS (cs':=#[.int .i64 pd.num,.int .i64 pd.yr,.int .u8 pd.half,.int .u8 pd.sec,.int .i64 pd.cyc,(.slice ad l.length c)]) T_places_46 T_zero_46 rfl rfl) ?_
  clear hf a; intro a hf
  refine O.store (j:=0) (cs':=#[.int .i64 pd.num,.int .i64 pd.yr,.int .u8 pd.half,.int .u8 pd.sec,.int .i64 pd.cyc,(.slice ad l.length c)]) (M':=[pt b_x1 (.cells #[.int .i64 pd.num,.int .i64 pd.yr,.int .u8 pd.half,.int .u8 pd.sec,.int .i64 pd.cyc,(.slice ad l.length c)] 46 (0,0))]) hf hS rfl rfl rfl T_size_46 rfl rfl rfl (Nat.le_of_ble_eq_true rfl) rfl rfl ?_
  clear hS; intro w hS
  refine O.nil ?_
  refine k_seq ?_
  replace hf:Fr a 8 [] [(2,.pointer (some ⟨b_x1,0,none⟩))]:=hf.to ⟨rfl,trivial⟩
  refine W.ret ?_
  refine post1 hf rfl (ResOK.cellN (cs':=#[.int .i64 pd.num,.int .i64 pd.yr,.int .u8 pd.half,.int .u8 pd.sec,.int .i64 pd.cyc,(.slice ad l.length c)]) rfl T_agg_46 T_size_46 (hS.ptAt (i:=0) rfl) (Nat.le_of_ble_eq_true rfl) rfl) ?_
  exact ⟨(),by rw [← hpd]; rfl,hS.sub (List.nil_sublist _) |>.noB⟩
set_option maxHeartbeats 400000 in
set_option maxRecDepth 4000 in
theorem sameObject_spec (p q:Dg) (v u:Value) (lp lq:List Dg) (w0:World) (h1:rdOK (hp w0) 5 v lp.length (encs eD lp)) (h2:rdOK (hp w0) 5 u lq.length (encs eD lq)) :
    Ret Tryd.prog 20 #[.agg #[.int .i64 p.num,.int .i64 p.yr,.int .u8 p.half,.int .u8 p.sec,.int .i64 p.cyc,v],.agg #[.int .i64 q.num,.int .i64 q.yr,.int .u8 q.half,.int .u8 q.sec,.int .i64 q.cyc,u]] w0 (G:=Unit) (fun _=>.bool (decide (p=q∧lp=lq))) (fun _ w=>St w0 w noX [] []):=by
  refine ret_of_W (lv:=[.agg #[.int .i64 p.num,.int .i64 p.yr,.int .u8 p.half,.int .u8 p.sec,.int .i64 p.cyc,v],.agg #[.int .i64 q.num,.int .i64 q.yr,.int .u8 q.half,.int .u8 q.sec,.int .i64 q.cyc,u]]) Tryd.func20 rfl rfl rfl (fun a hf=>?_)
  replace hf:Fr a 38 [] [(0,.agg #[.int .i64 p.num,.int .i64 p.yr,.int .u8 p.half,.int .u8 p.sec,.int .i64 p.cyc,v]),(1,.agg #[.int .i64 q.num,.int .i64 q.yr,.int .u8 q.half,.int .u8 q.sec,.int .i64 q.cyc,u])]:=hf
  have hS:St w0 w0 noX [rdv 5 v lp.length (encs eD lp),rdv 5 u lq.length (encs eD lq)] []:=((St.refl w0).lend0 h2).lend0 h1
  have hlm1:=h1.2.1
  have hlm2:=h2.2.1
  unfold maxLen at hlm1 hlm2
  clear h1 h2
  refine W.seq ?_
  refine W.regionL (l:=[0,1,2]) rfl ?_
  refine O.box (cs:=#[.int .i64 p.num,.int .i64 p.yr,.int .u8 p.half,.int .u8 p.sec,.int .i64 p.cyc,v]) hf hS rfl rfl rfl rfl ?_
  clear hf hS a; intro b_a1 w a hbb_a1 hS hf
  refine O.box (cs:=#[.int .i64 q.num,.int .i64 q.yr,.int .u8 q.half,.int .u8 q.sec,.int .i64 q.cyc,u]) hf hS rfl rfl rfl rfl ?_
  clear hf hS a; intro b_b2 w a hbb_b2 hS hf
  refine O.val hf rfl rfl rfl (RunV.assign rfl) ?_
  clear hf a; intro a hf
  refine O.nil ?_
  refine k_seq ?_
  replace hf:Fr a 38 [] [(2,.pointer (some ⟨b_a1,0,none⟩)),(3,.pointer (some ⟨b_b2,0,none⟩)),(4,.bool false)]:=hf.to ⟨rfl,rfl,rfl,trivial⟩
  refine W.seq ?_
  refine W.seq ?_
  refine W.regionL (l:=[0,1,2,3,4,5,6,7,8,9,10,11,12,13]) rfl ?_
  refine O.val hf rfl rfl rfl (RunV.field T_field_46_0 rfl rfl) ?_
  clear hf a; intro a hf
  refine O.val hf rfl rfl rfl (RunV.loadN (cs':=#[.int .i64 p.num,.int .i64 p.yr,.int .u8 p.half,.int .u8 p.sec,.int .i64 p.cyc]) T_agg_24 T_size_24 rfl (hS.ptAt (i:=1) rfl) (Nat.le_of_ble_eq_true rfl) rfl) ?_
  clear hf a; intro a hf
  refine O.val hf rfl rfl rfl (RunV.field T_field_46_0 rfl rfl) ?_
  clear hf a; intro a hf
  refine O.val hf rfl rfl rfl (RunV.loadN (cs':=#[.int .i64 q.num,.int .i64 q.yr,.int .u8 q.half,.int .u8 q.sec,.int .i64 q.cyc]) T_agg_24 T_size_24 rfl (hS.ptAt (i:=0) rfl) (Nat.le_of_ble_eq_true rfl) rfl) ?_
  clear hf a; intro a hf
  refine O.val hf rfl rfl rfl (neD rfl p q eqGuard24 rfl rfl) ?_
  clear hf a; intro a hf
  refine O.val hf rfl rfl rfl (RunV.move rfl) ?_
  clear hf a; intro a hf
  refine O.cutN (l₁:=[6,7,8,9,10,11,12,13]) (l₂:=_) (fun a w=>Fr a 38 [] [(2,.pointer (some ⟨b_a1,0,none⟩)),(3,.pointer (some ⟨b_b2,0,none⟩)),(4,.bool false),(6,.pointer (some ⟨b_a1,0,none⟩)),(7,.agg #[.int .i64 p.num,.int .i64 p.yr,.int .u8 p.half,.int .u8 p.sec,.int .i64 p.cyc]),(8,.pointer (some ⟨b_b2,0,none⟩)),(9,.agg #[.int .i64 q.num,.int .i64 q.yr,.int .u8 q.half,.int .u8 q.sec,.int .i64 q.cyc]),(10,.bool (!decide (p=q))),(11,.bool (!decide (p=q))),(19,.bool ((!decide (p=q))||(decide ((lp.length:Int)≠((lq.length:Int):Int)))))]∧St w0 w noX [rdv 5 v lp.length (encs eD lp),rdv 5 u lq.length (encs eD lq)] [pt b_b2 (.cells #[.int .i64 q.num,.int .i64 q.yr,.int .u8 q.half,.int .u8 q.sec,.int .i64 q.cyc,u] 46 (0,0)),pt b_a1 (.cells #[.int .i64 p.num,.int .i64 p.yr,.int .u8 p.half,.int .u8 p.sec,.int .i64 p.cyc,v] 46 (0,0))]) rfl ?_ ?_
  · rcases Bool.eq_false_or_eq_true (!decide (p=q)) with hb3 | hb3
    · have hb3p:=hb3
      try simp only [Bool.and_eq_true,Bool.or_eq_true,Bool.and_eq_false_iff,Bool.or_eq_false_iff,decide_eq_true_eq,decide_eq_false_iff_not,Bool.not_eq_true',Bool.not_eq_false',Bool.not_eq_true,Bool.not_eq_false,ne_eq] at hb3p
      refine O.skipB hf rfl rfl rfl hb3 rfl ?_; clear hf a; intro a hf
      refine O.skipB hf rfl rfl rfl hb3 rfl ?_; clear hf a; intro a hf
      refine O.skipB hf rfl rfl rfl hb3 rfl ?_; clear hf a; intro a hf
      refine O.skipB hf rfl rfl rfl hb3 rfl ?_; clear hf a; intro a hf
      refine O.skipB hf rfl rfl rfl hb3 rfl ?_; clear hf a; intro a hf
      refine O.skipB hf rfl rfl rfl hb3 rfl ?_; clear hf a; intro a hf
      refine O.skipB hf rfl rfl rfl hb3 rfl ?_; clear hf a; intro a hf
      refine O.val (v:=.bool ((!decide (p=q))||(decide ((lp.length:Int)≠((lq.length:Int):Int))))) hf rfl rfl rfl (RunV.pick rfl rfl rfl (by rw [hb3]; rfl)) ?_; clear hf a; intro a hf
      exact O.nil ⟨rfl,hf.to ⟨rfl,rfl,rfl,rfl,rfl,rfl,rfl,rfl,rfl,rfl,trivial⟩,hS⟩
    · have hb3p:=hb3
      try simp only [Bool.and_eq_true,Bool.or_eq_true,Bool.and_eq_false_iff,Bool.or_eq_false_iff,decide_eq_true_eq,decide_eq_false_iff_not,Bool.not_eq_true',Bool.not_eq_false',Bool.not_eq_true,Bool.not_eq_false,ne_eq] at hb3p
      refine O.gvalB (v:=.pointer (some ⟨b_a1,5,none⟩)) hf rfl rfl rfl hb3 rfl rfl (RunV.field T_field_46_1 rfl rfl) ?_
      clear hf a; intro a hf
      refine O.gvalB (v:=v) hf rfl rfl rfl hb3 rfl rfl (RunV.load1 T_agg_35 rfl (hS.ptAt (i:=1) rfl) rfl) ?_
      clear hf a; intro a hf
      refine O.gvalB (v:=.int .i64 (lp.length:Int)) hf rfl rfl rfl hb3 rfl rfl (RunV.lenV (e:=24) (by simpa using T_elem_35) rfl (hS.rdAt (j:=0) rfl)) ?_
      clear hf a; intro a hf
      refine O.gvalB (v:=.pointer (some ⟨b_b2,5,none⟩)) hf rfl rfl rfl hb3 rfl rfl (RunV.field T_field_46_1 rfl rfl) ?_
      clear hf a; intro a hf
      refine O.gvalB (v:=u) hf rfl rfl rfl hb3 rfl rfl (RunV.load1 T_agg_35 rfl (hS.ptAt (i:=0) rfl) rfl) ?_
      clear hf a; intro a hf
      refine O.gvalB (v:=.int .i64 (lq.length:Int)) hf rfl rfl rfl hb3 rfl rfl (RunV.lenV (e:=24) (by simpa using T_elem_35) rfl (hS.rdAt (j:=1) rfl)) ?_
      clear hf a; intro a hf
      refine O.gvalB (v:=.bool (decide ((lp.length:Int)≠((lq.length:Int):Int)))) hf rfl rfl rfl hb3 rfl rfl (RunV.neq rfl rfl) ?_
      clear hf a; intro a hf
      refine O.val (v:=.bool ((!decide (p=q))||(decide ((lp.length:Int)≠((lq.length:Int):Int))))) hf rfl rfl rfl (RunV.pick rfl rfl rfl (by rw [hb3]; rfl)) ?_; clear hf a; intro a hf
      exact O.nil ⟨rfl,hf.to ⟨rfl,rfl,rfl,rfl,rfl,rfl,rfl,rfl,rfl,rfl,trivial⟩,hS⟩
  clear hf hS a; rintro a w ⟨hf,hS⟩
  refine O.nil ?_
  refine k_seq ?_
  replace hf:Fr a 38 [] [(2,.pointer (some ⟨b_a1,0,none⟩)),(3,.pointer (some ⟨b_b2,0,none⟩)),(4,.bool false),(19,.bool ((!decide (p=q))||(decide ((lp.length:Int)≠((lq.length:Int):Int)))))]:=hf.to ⟨rfl,rfl,rfl,rfl,trivial⟩
  refine W.if_ hf rfl (fun hne=>?_) (fun hne=>?_)
  · have hneb:=hne
    try simp only [Bool.and_eq_true,Bool.or_eq_true,Bool.and_eq_false_iff,Bool.or_eq_false_iff,decide_eq_true_eq,decide_eq_false_iff_not,Bool.not_eq_true',Bool.not_eq_false',Bool.not_eq_true,Bool.not_eq_false,ne_eq] at hne
    refine W.seq ?_
    refine W.regionL (l:=[0]) rfl ?_
    refine O.val hf rfl rfl rfl (RunV.assign rfl) ?_
    clear hf a; intro a hf
    refine O.nil ?_
    refine k_seq ?_
    refine W.ret ?_
    refine k_then_ret ?_
    refine post1 hf rfl (ResOK.tmp rfl) ?_
    exact ⟨(),congrArg (fun b=>Ending.returned (Value.bool b)) (by first | exact (sameO_1 hne).symm | exact (sameO_2 (by omega) hd).symm),hS.sub (List.nil_sublist _) |>.noB⟩
  · have hneb:=hne
    try simp only [Bool.and_eq_true,Bool.or_eq_true,Bool.and_eq_false_iff,Bool.or_eq_false_iff,decide_eq_true_eq,decide_eq_false_iff_not,Bool.not_eq_true',Bool.not_eq_false',Bool.not_eq_true,Bool.not_eq_false,ne_eq] at hne
    refine W.skip ?_
    refine k_seq ?_
    refine W.seq ?_
    refine W.seq ?_
    refine W.regionL (l:=[0]) rfl ?_
    refine O.val hf rfl rfl rfl (RunV.assign rfl) ?_
    clear hf a; intro a hf
    refine O.nil ?_
    refine k_seq ?_
    refine W.block ?_
    refine W.loop (G:=(Nat)) (fun g a w=>match g with | k=>Fr a 38 [] [(2,.pointer (some ⟨b_a1,0,none⟩)),(3,.pointer (some ⟨b_b2,0,none⟩)),(5,.int .i64 (k:Int))]∧St w0 w noX [rdv 5 v lp.length (encs eD lp),rdv 5 u lq.length (encs eD lq)] [pt b_b2 (.cells #[.int .i64 q.num,.int .i64 q.yr,.int .u8 q.half,.int .u8 q.sec,.int .i64 q.cyc,u] 46 (0,0)),pt b_a1 (.cells #[.int .i64 p.num,.int .i64 p.yr,.int .u8 p.half,.int .u8 p.sec,.int .i64 p.cyc,v] 46 (0,0))]∧(k≤lp.length)∧(∀ j,j<k→lp.getD j default=lq.getD j default)) (fun g=>match g with | k=>lp.length-k) 0 ?_ ?_
    · refine ⟨hf.to ⟨rfl,rfl,(by first | rfl | exact congrArg some (congrArg (Value.int _) (by omega))),trivial⟩,hS,?_,?_⟩
      · omega
      · intro j hj; omega
    clear hf hS a
    rintro k a w ⟨hf,hS,hk,h2⟩
    refine W.seq ?_
    refine W.seq ?_
    refine W.regionL (l:=[0,1,2,3,4]) rfl ?_
    refine O.val hf rfl rfl rfl (RunV.move rfl) ?_
    clear hf a; intro a hf
    refine O.val hf rfl rfl rfl (RunV.field T_field_46_1 rfl rfl) ?_
    clear hf a; intro a hf
    refine O.val hf rfl rfl rfl (RunV.load1 T_agg_35 rfl (hS.ptAt (i:=1) rfl) rfl) ?_
    clear hf a; intro a hf
    refine O.val hf rfl rfl rfl (RunV.lenV (e:=24) (by simpa using T_elem_35) rfl (hS.rdAt (j:=0) rfl)) ?_
    clear hf a; intro a hf
    refine O.val (v:=.bool (decide ((k:Int)<((lp.length:Int):Int)))) hf rfl rfl rfl (RunV.lss rfl rfl) ?_
    clear hf a; intro a hf
    refine O.nil ?_
    refine k_seq ?_
    replace hf:Fr a 38 [] [(2,.pointer (some ⟨b_a1,0,none⟩)),(3,.pointer (some ⟨b_b2,0,none⟩)),(5,.int .i64 (k:Int)),(24,.bool (decide ((k:Int)<((lp.length:Int):Int))))]:=hf.to ⟨rfl,rfl,rfl,rfl,trivial⟩
    refine W.ifdI hf rfl (fun hlt=>?_) (fun hlt=>?_)
    · refine W.skip ?_
      refine k_seq ?_
      refine W.seq ?_
      refine W.block ?_
      refine W.seq ?_
      refine W.drawQ (fun w=>St w0 w noX [rdv 5 v lp.length (encs eD lp),rdv 5 u lq.length (encs eD lq)] [pt b_b2 (.cells #[.int .i64 q.num,.int .i64 q.yr,.int .u8 q.half,.int .u8 q.sec,.int .i64 q.cyc,u] 46 (0,0)),pt b_a1 (.cells #[.int .i64 p.num,.int .i64 p.yr,.int .u8 p.half,.int .u8 p.sec,.int .i64 p.cyc,v] 46 (0,0))]) P_mixed rfl (by kernel_rfl) rfl hS.drew ?_
      clear hS
      refine OQ.val (v:=.pointer (some ⟨b_a1,5,none⟩)) hf rfl (fun w hS=>RunV.field T_field_46_1 rfl rfl) ?_; clear hf a; intro a hf
      refine OQ.val (v:=v) hf rfl (fun w hS=>RunV.load1 T_agg_35 rfl (hS.ptAt (i:=1) rfl) rfl) ?_; clear hf a; intro a hf
      refine OQ.val (v:=.int .i64 (k:Int)) hf rfl (fun w hS=>RunV.move rfl) ?_; clear hf a; intro a hf
      refine OQ.val (v:=ix v (k*5)) hf rfl (fun w hS=>RunV.ixV (j:=k) (m:=k*5) T_elem_35 T_size_24 rfl rfl (hS.rdAt (j:=0) rfl) rfl (by omega) rfl) ?_; clear hf a; intro a hf
      refine OQ.val (v:=.agg #[.int .i64 ((lp.getD k default).num),.int .i64 ((lp.getD k default).yr),.int .u8 ((lp.getD k default).half),.int .u8 ((lp.getD k default).sec),.int .i64 ((lp.getD k default).cyc)]) hf rfl (fun w hS=>RunV.ldG (j:=k) (enc:=eD) (l:=lp) (us:=[.int .i64 ((lp.getD k default).num),.int .i64 ((lp.getD k default).yr),.int .u8 ((lp.getD k default).half),.int .u8 ((lp.getD k default).sec),.int .i64 ((lp.getD k default).cyc)]) T_agg_24 T_size_24 rfl eD_len rfl (hS.rdAt (j:=0) rfl) (by omega) rfl) ?_; clear hf a; intro a hf
      refine OQ.val (v:=.pointer (some ⟨b_b2,5,none⟩)) hf rfl (fun w hS=>RunV.field T_field_46_1 rfl rfl) ?_; clear hf a; intro a hf
      refine OQ.val (v:=u) hf rfl (fun w hS=>RunV.load1 T_agg_35 rfl (hS.ptAt (i:=0) rfl) rfl) ?_; clear hf a; intro a hf
      refine OQ.val (v:=.int .i64 (k:Int)) hf rfl (fun w hS=>RunV.move rfl) ?_; clear hf a; intro a hf
      refine OQ.val (v:=ix u (k*5)) hf rfl (fun w hS=>RunV.ixV (j:=k) (m:=k*5) T_elem_35 T_size_24 rfl rfl (hS.rdAt (j:=1) rfl) rfl (by omega) rfl) ?_; clear hf a; intro a hf
      refine OQ.val (v:=.agg #[.int .i64 ((lq.getD k default).num),.int .i64 ((lq.getD k default).yr),.int .u8 ((lq.getD k default).half),.int .u8 ((lq.getD k default).sec),.int .i64 ((lq.getD k default).cyc)]) hf rfl (fun w hS=>RunV.ldG (j:=k) (enc:=eD) (l:=lq) (us:=[.int .i64 ((lq.getD k default).num),.int .i64 ((lq.getD k default).yr),.int .u8 ((lq.getD k default).half),.int .u8 ((lq.getD k default).sec),.int .i64 ((lq.getD k default).cyc)]) T_agg_24 T_size_24 rfl eD_len rfl (hS.rdAt (j:=1) rfl) (by omega) rfl) ?_; clear hf a; intro a hf
      refine OQ.val (v:=.bool (!decide ((lp.getD k default)=(lq.getD k default)))) hf rfl (fun w hS=>neD rfl (lp.getD k default) (lq.getD k default) eqGuard24 rfl rfl) ?_; clear hf a; intro a hf
      refine OQ.nil ?_; intro w hS
      refine k_seq ?_
      replace hf:Fr a 38 [] [(2,.pointer (some ⟨b_a1,0,none⟩)),(3,.pointer (some ⟨b_b2,0,none⟩)),(5,.int .i64 (k:Int)),(37,.bool (!decide ((lp.getD k default)=(lq.getD k default))))]:=hf.to ⟨rfl,rfl,rfl,rfl,trivial⟩
      refine W.if_ hf rfl (fun hd=>?_) (fun hd=>?_)
      · have hdb:=hd
        try simp only [Bool.and_eq_true,Bool.or_eq_true,Bool.and_eq_false_iff,Bool.or_eq_false_iff,decide_eq_true_eq,decide_eq_false_iff_not,Bool.not_eq_true',Bool.not_eq_false',Bool.not_eq_true,Bool.not_eq_false,ne_eq] at hd
        refine W.seq ?_
        refine W.regionL (l:=[0]) rfl ?_
        refine O.val hf rfl rfl rfl (RunV.assign rfl) ?_
        clear hf a; intro a hf
        refine O.nil ?_
        refine k_seq ?_
        refine W.ret ?_
        refine k_blk_ret ?_
        refine k_then_ret ?_
        refine k_then_ret ?_
        refine k_blk_ret ?_
        refine k_then_ret ?_
        refine post1 hf rfl (ResOK.tmp rfl) ?_
        exact ⟨(),congrArg (fun b=>Ending.returned (Value.bool b)) (by first | exact (sameO_1 hne).symm | exact (sameO_2 (by omega) hd).symm),hS.sub (List.nil_sublist _) |>.noB⟩
      · have hdb:=hd
        try simp only [Bool.and_eq_true,Bool.or_eq_true,Bool.and_eq_false_iff,Bool.or_eq_false_iff,decide_eq_true_eq,decide_eq_false_iff_not,Bool.not_eq_true',Bool.not_eq_false',Bool.not_eq_true,Bool.not_eq_false,ne_eq] at hd
        refine W.skip ?_
        refine k_blk_normal ?_
        refine k_seq ?_
        refine W.regionL (l:=[0,1,2]) rfl ?_
        refine O.val hf rfl rfl rfl (RunV.move rfl) ?_
        clear hf a; intro a hf
        refine O.val hf rfl rfl rfl (RunV.addI rfl rfl (by omega)) ?_
        clear hf a; intro a hf
        refine O.val hf rfl rfl rfl (RunV.assign rfl) ?_
        clear hf a; intro a hf
        refine O.nil ?_
        refine k_then ⟨(k+1),⟨hf.to ⟨rfl,rfl,(by first | rfl | exact congrArg some (congrArg (Value.int _) (by omega))),trivial⟩,?_,?_,?_⟩,?_⟩
        · exact hS.eqM rfl
        · omega
        · intro j hj; by_cases hjk:j<k
          · exact h2 j hjk
          · have:j=k:=by omega
            subst this; exact hd
        · dsimp only; omega
    · refine W.exit ?_
      refine k_then_exit ?_
      refine k_then_exit ?_
      refine k_blk ?_
      refine k_seq ?_
      replace hf:Fr a 38 [] []:=hf.to trivial
      refine W.seq ?_
      refine W.regionL (l:=[0]) rfl ?_
      refine O.val hf rfl rfl rfl (RunV.assign rfl) ?_
      clear hf a; intro a hf
      refine O.nil ?_
      refine k_seq ?_
      refine W.ret ?_
      refine post1 hf rfl (ResOK.tmp rfl) ?_
      exact ⟨(),congrArg (fun b=>Ending.returned (Value.bool b)) (sameO_3 hne.1 (by omega) (fun j hj=>h2 j (by omega))).symm,hS.sub (List.nil_sublist _) |>.noB⟩
set_option maxHeartbeats 400000 in
set_option maxRecDepth 4000 in
theorem same_spec (va:Value) (xs:List Ob) (vb:Value) (ys:List Ob) (w0:World) (ha:rdOK (hp w0) 6 va xs.length (encs eO xs)) (hb:rdOK (hp w0) 6 vb ys.length (encs eO ys)) (hx:obsRd w0 xs) (hy:obsRd w0 ys) :
    Ret Tryd.prog 17 #[va,vb] w0 (G:=Unit) (fun _=>.bool (decide (xs.map prO=ys.map prO))) (fun _ w=>St w0 w noX [] []):=by
  refine ret_of_W (lv:=[va,vb]) Tryd.func17 rfl rfl rfl (fun a hf=>?_)
  replace hf:Fr a 27 [] [(0,va),(1,vb)]:=hf
  have hS:St w0 w0 noX [rdv 6 va xs.length (encs eO xs),rdv 6 vb ys.length (encs eO ys),allA (xs.map rdOb),allA (ys.map rdOb)] []:=((((St.refl w0).lendObs hy).lendObs hx).lend0 hb).lend0 ha
  have hlm1:=ha.2.1
  have hlm2:=hb.2.1
  unfold maxLen at hlm1 hlm2
  clear ha hb hx hy
  refine W.seq ?_
  refine W.regionL (l:=[0]) rfl ?_
  refine O.val hf rfl rfl rfl (RunV.assign rfl) ?_
  clear hf a; intro a hf
  refine O.nil ?_
  refine k_seq ?_
  refine W.seq ?_
  refine W.seq ?_
  refine W.regionL (l:=[0,1,2,3,4]) rfl ?_
  refine O.val hf rfl rfl rfl (RunV.move rfl) ?_
  clear hf a; intro a hf
  refine O.val hf rfl rfl rfl (RunV.lenV (e:=46) (by simpa using T_elem_39) rfl (hS.rdAt (j:=0) rfl)) ?_
  clear hf a; intro a hf
  refine O.val hf rfl rfl rfl (RunV.move rfl) ?_
  clear hf a; intro a hf
  refine O.val hf rfl rfl rfl (RunV.lenV (e:=46) (by simpa using T_elem_39) rfl (hS.rdAt (j:=1) rfl)) ?_
  clear hf a; intro a hf
  refine O.val (v:=.bool (decide ((xs.length:Int)≠((ys.length:Int):Int)))) hf rfl rfl rfl (RunV.neq rfl rfl) ?_
  clear hf a; intro a hf
  refine O.nil ?_
  refine k_seq ?_
  replace hf:Fr a 27 [] [(0,va),(1,vb),(4,.bool false),(10,.bool (decide ((xs.length:Int)≠((ys.length:Int):Int))))]:=hf.to ⟨rfl,rfl,rfl,rfl,trivial⟩
  refine W.ifdI hf rfl (fun hne=>?_) (fun hne=>?_)
  · refine W.seq ?_
    refine W.regionL (l:=[0]) rfl ?_
    refine O.val hf rfl rfl rfl (RunV.assign rfl) ?_
    clear hf a; intro a hf
    refine O.nil ?_
    refine k_seq ?_
    refine W.ret ?_
    refine k_then_ret ?_
    refine post1 hf rfl (ResOK.tmp rfl) ?_
    exact ⟨(),congrArg (fun b=>Ending.returned (Value.bool b)) (by first | exact (same_1 hne).symm | exact (same_2 (by omega) hd).symm),hS.sub (List.nil_sublist _) |>.noB⟩
  · refine W.skip ?_
    refine k_seq ?_
    refine W.seq ?_
    refine W.seq ?_
    refine W.regionL (l:=[0]) rfl ?_
    refine O.val hf rfl rfl rfl (RunV.assign rfl) ?_
    clear hf a; intro a hf
    refine O.nil ?_
    refine k_seq ?_
    refine W.block ?_
    refine W.loop (G:=(Nat)) (fun g a w=>match g with | k=>Fr a 27 [] [(0,va),(1,vb),(5,.int .i64 (k:Int))]∧St w0 w noX [rdv 6 va xs.length (encs eO xs),rdv 6 vb ys.length (encs eO ys),allA (xs.map rdOb),allA (ys.map rdOb)] []∧(k≤xs.length)∧(∀ j,j<k→prO (xs.getD j default)=prO (ys.getD j default))) (fun g=>match g with | k=>xs.length-k) 0 ?_ ?_
    · refine ⟨hf.to ⟨rfl,rfl,(by first | rfl | exact congrArg some (congrArg (Value.int _) (by omega))),trivial⟩,hS,?_,?_⟩
      · omega
      · intro j hj; omega
    clear hf hS a
    rintro k a w ⟨hf,hS,hk,h2⟩
    refine W.seq ?_
    refine W.seq ?_
    refine W.regionL (l:=[0,1,2,3]) rfl ?_
    refine O.val hf rfl rfl rfl (RunV.move rfl) ?_
    clear hf a; intro a hf
    refine O.val hf rfl rfl rfl (RunV.move rfl) ?_
    clear hf a; intro a hf
    refine O.val hf rfl rfl rfl (RunV.lenV (e:=46) (by simpa using T_elem_39) rfl (hS.rdAt (j:=0) rfl)) ?_
    clear hf a; intro a hf
    refine O.val (v:=.bool (decide ((k:Int)<((xs.length:Int):Int)))) hf rfl rfl rfl (RunV.lss rfl rfl) ?_
    clear hf a; intro a hf
    refine O.nil ?_
    refine k_seq ?_
    replace hf:Fr a 27 [] [(0,va),(1,vb),(5,.int .i64 (k:Int)),(14,.bool (decide ((k:Int)<((xs.length:Int):Int))))]:=hf.to ⟨rfl,rfl,rfl,rfl,trivial⟩
    refine W.ifdI hf rfl (fun hlt=>?_) (fun hlt=>?_)
    · refine W.skip ?_
      refine k_seq ?_
      refine W.seq ?_
      refine W.block ?_
      refine W.seq ?_
      refine W.drawQ (fun w=>St w0 w noX [rdv 6 va xs.length (encs eO xs),rdv 6 vb ys.length (encs eO ys),allA (xs.map rdOb),allA (ys.map rdOb)] []) P_mixed rfl (by kernel_rfl) rfl hS.drew ?_
      clear hS
      refine OQ.val (v:=va) hf rfl (fun w hS=>RunV.move rfl) ?_; clear hf a; intro a hf
      refine OQ.val (v:=.int .i64 (k:Int)) hf rfl (fun w hS=>RunV.move rfl) ?_; clear hf a; intro a hf
      refine OQ.val (v:=ix va (k*6)) hf rfl (fun w hS=>RunV.ixV (j:=k) (m:=k*6) T_elem_39 T_size_46 rfl rfl (hS.rdAt (j:=0) rfl) rfl (by omega) rfl) ?_; clear hf a; intro a hf
      refine OQ.val (v:=.agg #[.int .i64 ((xs.getD k default).p.num),.int .i64 ((xs.getD k default).p.yr),.int .u8 ((xs.getD k default).p.half),.int .u8 ((xs.getD k default).p.sec),.int .i64 ((xs.getD k default).p.cyc),(xs.getD k default).v]) hf rfl (fun w hS=>RunV.ldG (j:=k) (enc:=eO) (l:=xs) (us:=[.int .i64 ((xs.getD k default).p.num),.int .i64 ((xs.getD k default).p.yr),.int .u8 ((xs.getD k default).p.half),.int .u8 ((xs.getD k default).p.sec),.int .i64 ((xs.getD k default).p.cyc),(xs.getD k default).v]) T_agg_46 T_size_46 rfl eO_len rfl (hS.rdAt (j:=0) rfl) (by omega) rfl) ?_; clear hf a; intro a hf
      refine OQ.val (v:=vb) hf rfl (fun w hS=>RunV.move rfl) ?_; clear hf a; intro a hf
      refine OQ.val (v:=.int .i64 (k:Int)) hf rfl (fun w hS=>RunV.move rfl) ?_; clear hf a; intro a hf
      refine OQ.val (v:=ix vb (k*6)) hf rfl (fun w hS=>RunV.ixV (j:=k) (m:=k*6) T_elem_39 T_size_46 rfl rfl (hS.rdAt (j:=1) rfl) rfl (by omega) rfl) ?_; clear hf a; intro a hf
      refine OQ.val (v:=.agg #[.int .i64 ((ys.getD k default).p.num),.int .i64 ((ys.getD k default).p.yr),.int .u8 ((ys.getD k default).p.half),.int .u8 ((ys.getD k default).p.sec),.int .i64 ((ys.getD k default).p.cyc),(ys.getD k default).v]) hf rfl (fun w hS=>RunV.ldG (j:=k) (enc:=eO) (l:=ys) (us:=[.int .i64 ((ys.getD k default).p.num),.int .i64 ((ys.getD k default).p.yr),.int .u8 ((ys.getD k default).p.half),.int .u8 ((ys.getD k default).p.sec),.int .i64 ((ys.getD k default).p.cyc),(ys.getD k default).v]) T_agg_46 T_size_46 rfl eO_len rfl (hS.rdAt (j:=1) rfl) (by omega) rfl) ?_; clear hf a; intro a hf
      refine OQ.callRq (v:=.bool (decide ((xs.getD k default).p=(ys.getD k default).p∧(xs.getD k default).l=(ys.getD k default).l))) hf rfl (fun w hS=>RunE.call (av:=#[.agg #[.int .i64 ((xs.getD k default).p.num),.int .i64 ((xs.getD k default).p.yr),.int .u8 ((xs.getD k default).p.half),.int .u8 ((xs.getD k default).p.sec),.int .i64 ((xs.getD k default).p.cyc),(xs.getD k default).v],.agg #[.int .i64 ((ys.getD k default).p.num),.int .i64 ((ys.getD k default).p.yr),.int .u8 ((ys.getD k default).p.half),.int .u8 ((ys.getD k default).p.sec),.int .i64 ((ys.getD k default).p.cyc),(ys.getD k default).v]]) C_ok_20 rfl rfl rfl) (fun w hS=>sameObject_spec (xs.getD k default).p (ys.getD k default).p (xs.getD k default).v (ys.getD k default).v (xs.getD k default).l (ys.getD k default).l _ ((hS.obAt (i:=2) rfl).at (by omega)) ((hS.obAt (i:=3) rfl).at (by omega))) ?_; clear hf a; intro a hf
      refine OQ.val (v:=.bool (!(decide ((xs.getD k default).p=(ys.getD k default).p∧(xs.getD k default).l=(ys.getD k default).l)))) hf rfl (fun w hS=>RunV.not rfl) ?_; clear hf a; intro a hf
      refine OQ.nil ?_; intro w hS
      refine k_seq ?_
      replace hf:Fr a 27 [] [(0,va),(1,vb),(5,.int .i64 (k:Int)),(26,.bool (!(decide ((xs.getD k default).p=(ys.getD k default).p∧(xs.getD k default).l=(ys.getD k default).l))))]:=hf.to ⟨rfl,rfl,rfl,rfl,trivial⟩
      refine W.if_ hf rfl (fun hd=>?_) (fun hd=>?_)
      · have hdb:=hd
        try simp only [Bool.and_eq_true,Bool.or_eq_true,Bool.and_eq_false_iff,Bool.or_eq_false_iff,decide_eq_true_eq,decide_eq_false_iff_not,Bool.not_eq_true',Bool.not_eq_false',Bool.not_eq_true,Bool.not_eq_false,ne_eq] at hd
        refine W.seq ?_
        refine W.regionL (l:=[0]) rfl ?_
        refine O.val hf rfl rfl rfl (RunV.assign rfl) ?_
        clear hf a; intro a hf
        refine O.nil ?_
        refine k_seq ?_
        refine W.ret ?_
        refine k_blk_ret ?_
        refine k_then_ret ?_
        refine k_then_ret ?_
        refine k_blk_ret ?_
        refine k_then_ret ?_
        refine post1 hf rfl (ResOK.tmp rfl) ?_
        exact ⟨(),congrArg (fun b=>Ending.returned (Value.bool b)) (by first | exact (same_1 hne).symm | exact (same_2 (by omega) hd).symm),hS.sub (List.nil_sublist _) |>.noB⟩
      · have hdb:=hd
        try simp only [Bool.and_eq_true,Bool.or_eq_true,Bool.and_eq_false_iff,Bool.or_eq_false_iff,decide_eq_true_eq,decide_eq_false_iff_not,Bool.not_eq_true',Bool.not_eq_false',Bool.not_eq_true,Bool.not_eq_false,ne_eq] at hd
        refine W.skip ?_
        refine k_blk_normal ?_
        refine k_seq ?_
        refine W.regionL (l:=[0,1,2]) rfl ?_
        refine O.val hf rfl rfl rfl (RunV.move rfl) ?_
        clear hf a; intro a hf
        refine O.val hf rfl rfl rfl (RunV.addI rfl rfl (by omega)) ?_
        clear hf a; intro a hf
        refine O.val hf rfl rfl rfl (RunV.assign rfl) ?_
        clear hf a; intro a hf
        refine O.nil ?_
        refine k_then ⟨(k+1),⟨hf.to ⟨rfl,rfl,(by first | rfl | exact congrArg some (congrArg (Value.int _) (by omega))),trivial⟩,?_,?_,?_⟩,?_⟩
        · exact hS.eqM rfl
        · omega
        · intro j hj; by_cases hjk:j<k
          · exact h2 j hjk
          · have:j=k:=by omega
            subst this; exact same_4 hd
        · dsimp only; omega
    · refine W.exit ?_
      refine k_then_exit ?_
      refine k_then_exit ?_
      refine k_blk ?_
      refine k_seq ?_
      replace hf:Fr a 27 [] []:=hf.to trivial
      refine W.seq ?_
      refine W.regionL (l:=[0]) rfl ?_
      refine O.val hf rfl rfl rfl (RunV.assign rfl) ?_
      clear hf a; intro a hf
      refine O.nil ?_
      refine k_seq ?_
      refine W.ret ?_
      refine post1 hf rfl (ResOK.tmp rfl) ?_
      exact ⟨(),congrArg (fun b=>Ending.returned (Value.bool b)) (same_3 (by omega) (fun j hj=>h2 j (by omega))).symm,hS.sub (List.nil_sublist _) |>.noB⟩
theorem same_true (va:Value) (xs:List Ob) (vb:Value) (ys:List Ob) (w0:World) (ha:rdOK (hp w0) 6 va xs.length (encs eO xs)) (hb:rdOK (hp w0) 6 vb ys.length (encs eO ys)) (hx:obsRd w0 xs) (hy:obsRd w0 ys) (h:xs.map prO=ys.map prO) :
    Ret Tryd.prog 17 #[va,vb] w0 (G:=Unit) (fun _=>.bool true) (fun _ w=>St w0 w noX [] []):=by
  have h1:=same_spec va xs vb ys w0 ha hb hx hy
  rw [decide_eq_true h] at h1
  exact h1
end Go.Proofs.YtgakdmmmljdpjaaDoor
