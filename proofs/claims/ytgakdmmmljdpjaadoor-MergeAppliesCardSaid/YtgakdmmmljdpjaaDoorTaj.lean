/- Part of a proof: laws and walks. -/
import Derived.Test.YtgakdmmmljdpjaaDoorTai
import Derived.Test.YtgakdmmmljdpjaaDoorTae
set_option linter.unusedVariables false
set_option linter.unusedSimpArgs false
namespace Go.Proofs.YtgakdmmmljdpjaaDoor
open Go Go.SL
theorem C_ok_33:callOK Tryd.prog 33=true:=by kernel_rfl
set_option maxHeartbeats 400000 in
set_option maxRecDepth 4000 in
theorem cloneC_nil (k c:Nat) (w0:World) :
    Ret Tryd.prog 33 #[.slice none k c] w0 (G:=Unit) (fun _=>.slice none 0 0) (fun _ w=>St w0 w noX [] []):=by
  refine ret_of_W (lv:=[.slice none k c]) Tryd.func33 rfl rfl rfl (fun a hf=>?_)
  replace hf:Fr a 8 [] [(0,.slice none k c)]:=hf
  have hS:St w0 w0 noX [] []:=St.refl w0
  refine W.seq ?_
  refine W.regionL (l:=[0]) rfl ?_
  refine O.val hf rfl rfl rfl (RunV.assign rfl) ?_
  clear hf a; intro a hf
  refine O.nil ?_
  refine k_seq ?_
  refine W.seq ?_
  refine W.seq ?_
  refine W.regionL (l:=[0,1]) rfl ?_
  refine O.val hf rfl rfl rfl (RunV.move rfl) ?_
  clear hf a; intro a hf
  refine O.val hf rfl rfl rfl (RunV.eqNil1 T_elem_22 rfl rfl rfl) ?_
  clear hf a; intro a hf
  refine O.nil ?_
  refine k_seq ?_
  replace hf:Fr a 8 [] [(0,.slice none k c),(2,.slice none 0 0),(4,.bool true)]:=hf.to ⟨rfl,rfl,rfl,trivial⟩
  refine W.if_tt hf rfl ?_
  refine W.seq ?_
  refine W.regionL (l:=[0]) rfl ?_
  refine O.val hf rfl rfl rfl (RunV.assign rfl) ?_
  clear hf a; intro a hf
  refine O.nil ?_
  refine k_seq ?_
  replace hf:Fr a 8 [] [(0,.slice none k c),(2,.slice none 0 0)]:=hf.to ⟨rfl,rfl,trivial⟩
  refine W.ret ?_
  refine k_then_ret ?_
  refine post1 hf rfl (ResOK.tmp rfl) ?_
  exact ⟨(),rfl,hS.sub (List.nil_sublist _) |>.noB⟩
theorem cloneC_spec (vl:Value) (l:List Ch) (w0:World) (hfit:vfit vl) (hl:rdOK (hp w0) 12 vl l.length (encs eC l)) (hz:l.length≤1000000) :
    Ret Tryd.prog 33 #[vl] w0 (G:=Value) (fun g=>g) (fun g w=>St w0 w noX [] [slE 26 12 eC g l]):=by
  have hl2:=hl
  obtain ⟨_,_,A,c,rfl,h3⟩:=hl2
  cases A with
  | some ad=>exact cloneC_some _ l ad c w0 rfl hfit hl hz
  | none =>
    have h0:l=[]:=by
      cases l with
      | nil=>rfl
      | cons x t=>obtain ⟨a,_,_,_,h4,_⟩:=h3 (by simp); cases h4
    subst h0
    refine Calls.mono (cloneC_nil _ _ w0) fun e w' he=>?_
    obtain ⟨_,he,hR⟩:=he
    exact ⟨_,he,hR.nilSl 26 12⟩
set_option maxHeartbeats 400000 in
set_option maxRecDepth 4000 in
theorem apply_err2 (vl:Value) (l:List Ch) (c:Ch) (w0:World) (hG:Lent w0 ordA) (hl:rdOK (hp w0) 12 vl l.length (encs eC l)) (hfit:vfit vl) (hz:l.length≤1000) (S:List PG) (us:List Bool) (hm:histM l=.ok (S,us)) (hc:okC c=true) (e:Int) (hm2:histM (l++[c])=.error e) :
    Ret Tryd.prog 11 #[vl,.agg #[.int .u8 c.kind,.int .i64 c.a.num,.int .i64 c.a.yr,.int .u8 c.a.half,.int .u8 c.a.sec,.int .i64 c.a.cyc,.int .i64 c.b.num,.int .i64 c.b.yr,.int .u8 c.b.half,.int .u8 c.b.sec,.int .i64 c.b.cyc,.int .i64 c.n]] w0 (G:=Unit) (fun _=>.tuple #[.slice none 0 0,.int .i64 e]) (fun _ w=>St w0 w noX [] []):=by
  refine ret_of_W (lv:=[vl,.agg #[.int .u8 c.kind,.int .i64 c.a.num,.int .i64 c.a.yr,.int .u8 c.a.half,.int .u8 c.a.sec,.int .i64 c.a.cyc,.int .i64 c.b.num,.int .i64 c.b.yr,.int .u8 c.b.half,.int .u8 c.b.sec,.int .i64 c.b.cyc,.int .i64 c.n]]) Tryd.func11 rfl rfl rfl (fun a hf=>?_)
  replace hf:Fr a 43 [] [(0,vl),(1,.agg #[.int .u8 c.kind,.int .i64 c.a.num,.int .i64 c.a.yr,.int .u8 c.a.half,.int .u8 c.a.sec,.int .i64 c.a.cyc,.int .i64 c.b.num,.int .i64 c.b.yr,.int .u8 c.b.half,.int .u8 c.b.sec,.int .i64 c.b.cyc,.int .i64 c.n])]:=hf
  have hS:St w0 w0 noX [ordA,rdv 12 vl l.length (encs eC l)] []:=((St.refl w0).lend0 hl).lendA hG
  have hlm:=hl.2.1
  unfold maxLen at hlm
  have he0:=histM_ne hm2
  refine W.seq ?_
  refine W.regionL (l:=[0,1,2]) rfl ?_
  refine O.box (cs:=#[.int .u8 c.kind,.int .i64 c.a.num,.int .i64 c.a.yr,.int .u8 c.a.half,.int .u8 c.a.sec,.int .i64 c.a.cyc,.int .i64 c.b.num,.int .i64 c.b.yr,.int .u8 c.b.half,.int .u8 c.b.sec,.int .i64 c.b.cyc,.int .i64 c.n]) hf hS rfl rfl rfl rfl ?_
  clear hf hS a; intro b_c1 w a hbb_c1 hS hf
  refine O.val hf rfl rfl rfl (RunV.assign rfl) ?_
  clear hf a; intro a hf
  refine O.val hf rfl rfl rfl (RunV.assign rfl) ?_
  clear hf a; intro a hf
  refine O.nil ?_
  refine k_seq ?_
  replace hf:Fr a 43 [] [(0,vl),(3,.pointer (some ⟨b_c1,0,none⟩)),(4,.slice none 0 0),(5,.int .i64 0)]:=hf.to ⟨rfl,rfl,rfl,rfl,trivial⟩
  refine W.seq ?_
  refine W.seq ?_
  refine W.regionL (l:=[0,1,2,3,4,5,6,7,8]) rfl ?_
  refine O.val hf rfl rfl rfl (RunV.move rfl) ?_
  clear hf a; intro a hf
  refine O.callR hf rfl rfl rfl (RunE.call (av:=#[vl]) C_ok_32 rfl rfl rfl) (history_ok vl l _ (hS.bptO (i:=0) rfl) (hS.rdAt (j:=1) rfl) hfit hm) ?_
  clear hf a
  rintro ⟨uv,bm,kvs,gs⟩ w2 ⟨hS1,hI⟩ a hf
  replace hf:Fr a _ _ ((16,.tuple #[.map (some bm),uv,.int .i64 0])::_):=hf
  replace hS:=(hS.call hS1).eqM (N:=[stA 95 24 bm kvs gs,sl 4 1 uv us.length (bools us),pt b_c1 (.cells #[.int .u8 c.kind,.int .i64 c.a.num,.int .i64 c.a.yr,.int .u8 c.a.half,.int .u8 c.a.sec,.int .i64 c.a.cyc,.int .i64 c.b.num,.int .i64 c.b.yr,.int .u8 c.b.half,.int .u8 c.b.sec,.int .i64 c.b.cyc,.int .i64 c.n] 26 (0,0))]) rfl
  clear hS1
  refine O.val hf rfl rfl rfl (RunV.move rfl) ?_
  clear hf a; intro a hf
  refine O.val hf rfl rfl rfl (RunV.extract rfl rfl) ?_
  clear hf a; intro a hf
  refine O.val hf rfl rfl rfl (RunV.extract rfl rfl) ?_
  clear hf a; intro a hf
  refine O.val hf rfl rfl rfl (RunV.extract rfl rfl) ?_
  clear hf a; intro a hf
  refine O.val hf rfl rfl rfl (RunV.assign rfl) ?_
  clear hf a; intro a hf
  refine O.val hf rfl rfl rfl (RunV.assign rfl) ?_
  clear hf a; intro a hf
  refine O.val hf rfl rfl rfl (RunV.assign rfl) ?_
  clear hf a; intro a hf
  refine O.nil ?_
  refine k_seq ?_
  replace hf:Fr a 43 [] [(0,vl),(3,.pointer (some ⟨b_c1,0,none⟩)),(4,.slice none 0 0),(5,.int .i64 0),(8,.int .i64 0)]:=hf.to ⟨rfl,rfl,rfl,rfl,rfl,trivial⟩
  refine W.seq ?_
  refine W.regionL (l:=[0,1]) rfl ?_
  refine O.val hf rfl rfl rfl (RunV.move rfl) ?_
  clear hf a; intro a hf
  refine O.val hf rfl rfl rfl (RunV.toB (c:=false) (RunV.neq rfl rfl) (by decide)) ?_
  clear hf a; intro a hf
  refine O.nil ?_
  refine k_seq ?_
  replace hf:Fr a 43 [] [(0,vl),(3,.pointer (some ⟨b_c1,0,none⟩)),(4,.slice none 0 0),(5,.int .i64 0),(8,.int .i64 0),(21,.bool false)]:=hf.to ⟨rfl,rfl,rfl,rfl,rfl,rfl,trivial⟩
  refine W.if_ff hf rfl ?_
  refine W.skip ?_
  refine k_seq ?_
  replace hf:Fr a 43 [] [(0,vl),(3,.pointer (some ⟨b_c1,0,none⟩)),(4,.slice none 0 0),(5,.int .i64 0)]:=hf.to ⟨rfl,rfl,rfl,rfl,trivial⟩
  refine W.seq ?_
  refine W.seq ?_
  refine W.regionL (l:=[0,1,2]) rfl ?_
  refine O.val hf rfl rfl rfl (RunV.loadN (cs':=#[.int .u8 c.kind,.int .i64 c.a.num,.int .i64 c.a.yr,.int .u8 c.a.half,.int .u8 c.a.sec,.int .i64 c.a.cyc,.int .i64 c.b.num,.int .i64 c.b.yr,.int .u8 c.b.half,.int .u8 c.b.sec,.int .i64 c.b.cyc,.int .i64 c.n]) T_agg_26 T_size_26 rfl (hS.ptAt (i:=2) rfl) (Nat.le_of_ble_eq_true rfl) rfl) ?_
  clear hf a; intro a hf
  refine O.callR hf rfl rfl rfl (RunE.call (av:=#[.agg #[.int .u8 c.kind,.int .i64 c.a.num,.int .i64 c.a.yr,.int .u8 c.a.half,.int .u8 c.a.sec,.int .i64 c.a.cyc,.int .i64 c.b.num,.int .i64 c.b.yr,.int .u8 c.b.half,.int .u8 c.b.sec,.int .i64 c.b.cyc,.int .i64 c.n]]) C_ok_25 rfl rfl rfl) (checkC_ok c _ (hS.bptO (i:=0) rfl) hc) ?_
  clear hf a
  rintro _ w3 hS1 a hf
  replace hf:Fr a _ _ ((24,.int .i64 0)::_):=hf
  replace hS:=(hS.call hS1).eqM (N:=[stA 95 24 bm kvs gs,sl 4 1 uv us.length (bools us),pt b_c1 (.cells #[.int .u8 c.kind,.int .i64 c.a.num,.int .i64 c.a.yr,.int .u8 c.a.half,.int .u8 c.a.sec,.int .i64 c.a.cyc,.int .i64 c.b.num,.int .i64 c.b.yr,.int .u8 c.b.half,.int .u8 c.b.sec,.int .i64 c.b.cyc,.int .i64 c.n] 26 (0,0))]) rfl
  clear hS1
  refine O.val hf rfl rfl rfl (RunV.assign rfl) ?_
  clear hf a; intro a hf
  refine O.nil ?_
  refine k_seq ?_
  replace hf:Fr a 43 [] [(0,vl),(3,.pointer (some ⟨b_c1,0,none⟩)),(4,.slice none 0 0),(5,.int .i64 0),(9,.int .i64 0)]:=hf.to ⟨rfl,rfl,rfl,rfl,rfl,trivial⟩
  refine W.seq ?_
  refine W.regionL (l:=[0,1]) rfl ?_
  refine O.val hf rfl rfl rfl (RunV.move rfl) ?_
  clear hf a; intro a hf
  refine O.val hf rfl rfl rfl (RunV.toB (c:=false) (RunV.neq rfl rfl) (by decide)) ?_
  clear hf a; intro a hf
  refine O.nil ?_
  refine k_seq ?_
  replace hf:Fr a 43 [] [(0,vl),(3,.pointer (some ⟨b_c1,0,none⟩)),(4,.slice none 0 0),(5,.int .i64 0),(9,.int .i64 0),(26,.bool false)]:=hf.to ⟨rfl,rfl,rfl,rfl,rfl,rfl,trivial⟩
  refine W.if_ff hf rfl ?_
  refine W.skip ?_
  refine k_seq ?_
  replace hf:Fr a 43 [] [(0,vl),(3,.pointer (some ⟨b_c1,0,none⟩)),(4,.slice none 0 0),(5,.int .i64 0)]:=hf.to ⟨rfl,rfl,rfl,rfl,trivial⟩
  refine W.seq ?_
  have hf1:Fr a 43 [] []:=hf.to trivial
  replace hf:Fr a 43 [] [(0,vl),(3,.pointer (some ⟨b_c1,0,none⟩)),(4,.slice none 0 0),(5,.int .i64 0)]:=hf.to ⟨rfl,rfl,rfl,rfl,trivial⟩
  replace hS:=hS.drew
  replace hS:=hS.emp
  let LZ164:List (Nat × Value):=[(0,vl),(3,.pointer (some ⟨b_c1,0,none⟩)),(4,.slice none 0 0),(5,.int .i64 0)]
  let MZ164:List Asr:=[stA 95 24 bm kvs gs,sl 4 1 uv us.length (bools us),pt b_c1 (.cells #[.int .u8 c.kind,.int .i64 c.a.num,.int .i64 c.a.yr,.int .u8 c.a.half,.int .u8 c.a.sec,.int .i64 c.a.cyc,.int .i64 c.b.num,.int .i64 c.b.yr,.int .u8 c.b.half,.int .u8 c.b.sec,.int .i64 c.b.cyc,.int .i64 c.n] 26 (0,0))]
  refine W.drawC (γ:=(Nat) × (Value) × (Value)) (L0:=LZ164) (L1:=[]) (0,default,default) [1,4] [3] [0,2,5] (fun i=>match i with | 1=>[0] | 3=>[2] | 4=>[1,3] | 5=>[0,1,2,3,4] | _=>[]) (fun i=>match i with | 4=>[1,3] | 5=>[1,4,3] | _=>[]) (fun i=>match i with | 0=>[1,4] | 1=>[4] | 2=>[4] | 3=>[4] | _=>[]) (fun i=>match i with | 4=>[3] | 5=>[3] | _=>[]) (fun i=>match i with | 1=>[4,5] | 3=>[4,5] | 4=>[5] | _=>[]) (fun _=>[]) (fun i=>match i with | 4=>1 | 5=>2 | _=>0) (fun i=>match i with | 1=>1 | 2=>1 | 3=>1 | 4=>2 | 5=>2 | _=>0) (fun (g:(Nat) × (Value) × (Value)) j=>match g,j with | ⟨b_s4,cv,v6⟩,0=>vl | ⟨b_s4,cv,v6⟩,1=>cv | ⟨b_s4,cv,v6⟩,2=>.agg #[.int .u8 c.kind,.int .i64 c.a.num,.int .i64 c.a.yr,.int .u8 c.a.half,.int .u8 c.a.sec,.int .i64 c.a.cyc,.int .i64 c.b.num,.int .i64 c.b.yr,.int .u8 c.b.half,.int .u8 c.b.sec,.int .i64 c.b.cyc,.int .i64 c.n] | ⟨b_s4,cv,v6⟩,3=>.slice (some ⟨b_s4,0,none⟩) 1 1 | ⟨b_s4,cv,v6⟩,4=>v6 | ⟨b_s4,cv,v6⟩,5=>v6 | _,_=>undef) (fun k s (g:(Nat) × (Value) × (Value)) w=>match k,g with | 0,⟨b_s4,cv,v6⟩=>St w0 w noX [ordA,rdv 12 vl l.length (encs eC l)] (condA (s 3) (pt b_s4 (.cells #[.int .u8 c.kind,.int .i64 c.a.num,.int .i64 c.a.yr,.int .u8 c.a.half,.int .u8 c.a.sec,.int .i64 c.a.cyc,.int .i64 c.b.num,.int .i64 c.b.yr,.int .u8 c.b.half,.int .u8 c.b.sec,.int .i64 c.b.cyc,.int .i64 c.n] 26 (0,0)))::MZ164) | 1,⟨b_s4,cv,v6⟩=>St w0 w noX [ordA,rdv 12 vl l.length (encs eC l)] (sl 26 12 cv l.length (encs eC l)::condA (s 3) (pt b_s4 (.cells #[.int .u8 c.kind,.int .i64 c.a.num,.int .i64 c.a.yr,.int .u8 c.a.half,.int .u8 c.a.sec,.int .i64 c.a.cyc,.int .i64 c.b.num,.int .i64 c.b.yr,.int .u8 c.b.half,.int .u8 c.b.sec,.int .i64 c.b.cyc,.int .i64 c.n] 26 (0,0)))::MZ164) | _,⟨b_s4,cv,v6⟩=>St w0 w noX [ordA,rdv 12 vl l.length (encs eC l)] (sl 26 12 v6 ((l++[c]).length) (encs eC (l++[c]))::pt b_s4 (.cells #[.int .u8 c.kind,.int .i64 c.a.num,.int .i64 c.a.yr,.int .u8 c.a.half,.int .u8 c.a.sec,.int .i64 c.a.cyc,.int .i64 c.b.num,.int .i64 c.b.yr,.int .u8 c.b.half,.int .u8 c.b.sec,.int .i64 c.b.cyc,.int .i64 c.n] 26 (0,0))::MZ164)) P_mixed (by kernel_rfl) (by kernel_rfl) (by kernel_rfl) hf hf1 hS ?_ ?_ ?_ ?_
  · clear hf hf1 hS
    refine ⟨?_,?_,?_,trivial⟩
    · intro k s g w h1_ h2_ hsp hD a hf
      obtain ⟨b_s4,cv,v6⟩:=g
      rcases k with _ | k
      · have hS:St w0 w noX [ordA,rdv 12 vl l.length (encs eC l)] (condA (s 3) (pt b_s4 (.cells #[.int .u8 c.kind,.int .i64 c.a.num,.int .i64 c.a.yr,.int .u8 c.a.half,.int .u8 c.a.sec,.int .i64 c.a.cyc,.int .i64 c.b.num,.int .i64 c.b.yr,.int .u8 c.b.half,.int .u8 c.b.sec,.int .i64 c.b.cyc,.int .i64 c.n] 26 (0,0)))::MZ164):=hD;
        replace hf:Fr a 43 [] LZ164:=hf
        refine O.val hf rfl rfl rfl (RunV.move rfl) ?_
        clear hf a; intro a hf
        exact O.nil ⟨rfl,hf.to trivial,(gt (d:=28) hf rfl rfl),hD⟩
      · exact absurd h2_ (by simp)
    · intro k s g w h1_ h2_ hsp hD a hf
      obtain ⟨b_s4,cv,v6⟩:=g
      rcases k with _ | _ | k
      · have hS:St w0 w noX [ordA,rdv 12 vl l.length (encs eC l)] (condA (s 3) (pt b_s4 (.cells #[.int .u8 c.kind,.int .i64 c.a.num,.int .i64 c.a.yr,.int .u8 c.a.half,.int .u8 c.a.sec,.int .i64 c.a.cyc,.int .i64 c.b.num,.int .i64 c.b.yr,.int .u8 c.b.half,.int .u8 c.b.sec,.int .i64 c.b.cyc,.int .i64 c.n] 26 (0,0)))::MZ164):=hD;
        replace hf:Fr a 43 [] LZ164:=hf
        refine O.val hf rfl rfl rfl (RunV.loadN (cs':=#[.int .u8 c.kind,.int .i64 c.a.num,.int .i64 c.a.yr,.int .u8 c.a.half,.int .u8 c.a.sec,.int .i64 c.a.cyc,.int .i64 c.b.num,.int .i64 c.b.yr,.int .u8 c.b.half,.int .u8 c.b.sec,.int .i64 c.b.cyc,.int .i64 c.n]) T_agg_26 T_size_26 rfl (hS.ptAt (i:=3) rfl) (Nat.le_of_ble_eq_true rfl) rfl) ?_
        clear hf a; intro a hf
        exact O.nil ⟨rfl,hf.to trivial,(gt (d:=30) hf rfl rfl),hD⟩
      · have hS:St w0 w noX [ordA,rdv 12 vl l.length (encs eC l)] (sl 26 12 cv l.length (encs eC l)::condA (s 3) (pt b_s4 (.cells #[.int .u8 c.kind,.int .i64 c.a.num,.int .i64 c.a.yr,.int .u8 c.a.half,.int .u8 c.a.sec,.int .i64 c.a.cyc,.int .i64 c.b.num,.int .i64 c.b.yr,.int .u8 c.b.half,.int .u8 c.b.sec,.int .i64 c.b.cyc,.int .i64 c.n] 26 (0,0)))::MZ164):=hD;
        replace hf:Fr a 43 [] LZ164:=hf
        refine O.val hf rfl rfl rfl (RunV.loadN (cs':=#[.int .u8 c.kind,.int .i64 c.a.num,.int .i64 c.a.yr,.int .u8 c.a.half,.int .u8 c.a.sec,.int .i64 c.a.cyc,.int .i64 c.b.num,.int .i64 c.b.yr,.int .u8 c.b.half,.int .u8 c.b.sec,.int .i64 c.b.cyc,.int .i64 c.n]) T_agg_26 T_size_26 rfl (hS.ptAt (i:=4) rfl) (Nat.le_of_ble_eq_true rfl) rfl) ?_
        clear hf a; intro a hf
        exact O.nil ⟨rfl,hf.to trivial,(gt (d:=30) hf rfl rfl),hD⟩
      · exact absurd h2_ (by simp)
    · intro k s g w h1_ h2_ hsp hD a hf
      obtain ⟨b_s4,cv,v6⟩:=g
      rcases k with _ | _ | _ | k
      · exact absurd h1_ (by decide)
      · exact absurd h1_ (by decide)
      · have ha_:s 3=true:=hsp 3 (by simp)
        have hS:St w0 w noX [ordA,rdv 12 vl l.length (encs eC l)] (sl 26 12 v6 ((l++[c]).length) (encs eC (l++[c]))::pt b_s4 (.cells #[.int .u8 c.kind,.int .i64 c.a.num,.int .i64 c.a.yr,.int .u8 c.a.half,.int .u8 c.a.sec,.int .i64 c.a.cyc,.int .i64 c.b.num,.int .i64 c.b.yr,.int .u8 c.b.half,.int .u8 c.b.sec,.int .i64 c.b.cyc,.int .i64 c.n] 26 (0,0))::MZ164):=hD;
        replace hS:St w0 w noX [ordA,rdv 12 vl l.length (encs eC l)] (sl 26 12 v6 ((l++[c]).length) (encs eC (l++[c]))::pt b_s4 (.cells #[.int .u8 c.kind,.int .i64 c.a.num,.int .i64 c.a.yr,.int .u8 c.a.half,.int .u8 c.a.sec,.int .i64 c.a.cyc,.int .i64 c.b.num,.int .i64 c.b.yr,.int .u8 c.b.half,.int .u8 c.b.sec,.int .i64 c.b.cyc,.int .i64 c.n] 26 (0,0))::MZ164):=hS
        replace hf:Fr a 43 [] ((28,vl)::(29,cv)::(30,.agg #[.int .u8 c.kind,.int .i64 c.a.num,.int .i64 c.a.yr,.int .u8 c.a.half,.int .u8 c.a.sec,.int .i64 c.a.cyc,.int .i64 c.b.num,.int .i64 c.b.yr,.int .u8 c.b.half,.int .u8 c.b.sec,.int .i64 c.b.cyc,.int .i64 c.n])::(31,.slice (some ⟨b_s4,0,none⟩) 1 1)::(32,v6)::LZ164):=hf
        refine O.val hf rfl rfl rfl (RunV.assign rfl) ?_
        clear hf a; intro a hf
        exact O.nil ⟨rfl,hf.to trivial,(gt (d:=10) hf rfl rfl),hD⟩
      · exact absurd h2_ (by simp)
  · clear hf hf1 hS
    refine ⟨?_,?_,trivial⟩
    · intro s g w hsp hD a hf
      obtain ⟨b_s4,cv,v6⟩:=g
      have hS:St w0 w noX [ordA,rdv 12 vl l.length (encs eC l)] (condA (s 3) (pt b_s4 (.cells #[.int .u8 c.kind,.int .i64 c.a.num,.int .i64 c.a.yr,.int .u8 c.a.half,.int .u8 c.a.sec,.int .i64 c.a.cyc,.int .i64 c.b.num,.int .i64 c.b.yr,.int .u8 c.b.half,.int .u8 c.b.sec,.int .i64 c.b.cyc,.int .i64 c.n] 26 (0,0)))::MZ164):=hD;
      replace hf:Fr a 43 [] ((28,vl)::LZ164):=hf
      clear hD
      refine O.callR hf rfl rfl rfl (RunE.call (av:=#[vl]) C_ok_33 rfl rfl rfl) (cloneC_spec vl l _ hfit (hS.rdAt (j:=1) rfl) (by omega)) ?_
      clear hf a
      rintro cv w7 hS1 a hf
      replace hf:Fr a _ _ ((29,cv)::_):=hf
      replace hS:=(hS.call hS1).eqM (N:=(sl 26 12 cv l.length (encs eC l)::condA (s 3) (pt b_s4 (.cells #[.int .u8 c.kind,.int .i64 c.a.num,.int .i64 c.a.yr,.int .u8 c.a.half,.int .u8 c.a.sec,.int .i64 c.a.cyc,.int .i64 c.b.num,.int .i64 c.b.yr,.int .u8 c.b.half,.int .u8 c.b.sec,.int .i64 c.b.cyc,.int .i64 c.n] 26 (0,0)))::MZ164)) rfl
      clear hS1
      exact O.nil ⟨rfl,(b_s4,cv,v6),hf.to trivial,(gt (d:=29) hf rfl rfl),(fun j_ hj_ ha_=>match j_,hj_,ha_ with | 0,hj_,ha_=>rfl | 1,hj_,ha_=>absurd rfl hj_ | 2,hj_,ha_=>rfl | 3,hj_,ha_=>rfl | 4,hj_,ha_=>absurd ha_ (by decide) | 5,hj_,ha_=>absurd ha_ (by decide) | _+6,_,_=>rfl),hS⟩
    · intro s g w hsp hD a hf
      obtain ⟨b_s4,cv,v6⟩:=g
      have ha_:s 3=true:=hsp 3 (by simp)
      have hS:St w0 w noX [ordA,rdv 12 vl l.length (encs eC l)] (sl 26 12 cv l.length (encs eC l)::condA (s 3) (pt b_s4 (.cells #[.int .u8 c.kind,.int .i64 c.a.num,.int .i64 c.a.yr,.int .u8 c.a.half,.int .u8 c.a.sec,.int .i64 c.a.cyc,.int .i64 c.b.num,.int .i64 c.b.yr,.int .u8 c.b.half,.int .u8 c.b.sec,.int .i64 c.b.cyc,.int .i64 c.n] 26 (0,0)))::MZ164):=hD; rw [ha_] at hS
      replace hS:St w0 w noX [ordA,rdv 12 vl l.length (encs eC l)] (sl 26 12 cv l.length (encs eC l)::pt b_s4 (.cells #[.int .u8 c.kind,.int .i64 c.a.num,.int .i64 c.a.yr,.int .u8 c.a.half,.int .u8 c.a.sec,.int .i64 c.a.cyc,.int .i64 c.b.num,.int .i64 c.b.yr,.int .u8 c.b.half,.int .u8 c.b.sec,.int .i64 c.b.cyc,.int .i64 c.n] 26 (0,0))::MZ164):=hS
      replace hf:Fr a 43 [] ((29,cv)::(31,.slice (some ⟨b_s4,0,none⟩) 1 1)::LZ164):=hf
      clear hD
      refine O.append1 (j:=0) (jj:=1) hf hS rfl rfl T_elem_22 T_size_26 T_bytes_26 T_zero_26 rfl rfl rfl rfl rfl rfl rfl rfl (by unfold maxLen; omega) (by omega) ?_
      clear hf hS a; intro v8 w a hS hf
      replace hS:=hS.eqM (N:=(sl 26 12 v8 (l.length+1) (encs eC l++[.int .u8 c.kind,.int .i64 c.a.num,.int .i64 c.a.yr,.int .u8 c.a.half,.int .u8 c.a.sec,.int .i64 c.a.cyc,.int .i64 c.b.num,.int .i64 c.b.yr,.int .u8 c.b.half,.int .u8 c.b.sec,.int .i64 c.b.cyc,.int .i64 c.n])::pt b_s4 (.cells #[.int .u8 c.kind,.int .i64 c.a.num,.int .i64 c.a.yr,.int .u8 c.a.half,.int .u8 c.a.sec,.int .i64 c.a.cyc,.int .i64 c.b.num,.int .i64 c.b.yr,.int .u8 c.b.half,.int .u8 c.b.sec,.int .i64 c.b.cyc,.int .i64 c.n] 26 (0,0))::MZ164)) rfl
      replace hS:=hS.reE (i:=0) (M':=(sl 26 12 v8 ((l++[c]).length) (encs eC (l++[c]))::pt b_s4 (.cells #[.int .u8 c.kind,.int .i64 c.a.num,.int .i64 c.a.yr,.int .u8 c.a.half,.int .u8 c.a.sec,.int .i64 c.a.cyc,.int .i64 c.b.num,.int .i64 c.b.yr,.int .u8 c.b.half,.int .u8 c.b.sec,.int .i64 c.b.cyc,.int .i64 c.n] 26 (0,0))::MZ164)) rfl (sl_snoc (enc:=eC) (l:=l) (x:=c)) rfl
      exact O.nil ⟨rfl,(b_s4,cv,v8),hf.to trivial,(gt (d:=32) hf rfl rfl),(fun j_ hj_ ha_=>match j_,hj_,ha_ with | 0,hj_,ha_=>rfl | 1,hj_,ha_=>rfl | 2,hj_,ha_=>rfl | 3,hj_,ha_=>rfl | 4,hj_,ha_=>absurd rfl hj_ | 5,hj_,ha_=>absurd ha_ (by decide) | _+6,_,_=>rfl),hS⟩
  · clear hf hf1 hS
    refine ⟨?_,trivial⟩
    intro k s g w h1_ h2_ hs0 hD a hf
    obtain ⟨b_s4,cv,v6⟩:=g
    rcases k with _ | _ | k
    · have hS:St w0 w noX [ordA,rdv 12 vl l.length (encs eC l)] (condA (s 3) (pt b_s4 (.cells #[.int .u8 c.kind,.int .i64 c.a.num,.int .i64 c.a.yr,.int .u8 c.a.half,.int .u8 c.a.sec,.int .i64 c.a.cyc,.int .i64 c.b.num,.int .i64 c.b.yr,.int .u8 c.b.half,.int .u8 c.b.sec,.int .i64 c.b.cyc,.int .i64 c.n] 26 (0,0)))::MZ164):=hD; clear hD
      replace hf:Fr a 43 [] ((30,.agg #[.int .u8 c.kind,.int .i64 c.a.num,.int .i64 c.a.yr,.int .u8 c.a.half,.int .u8 c.a.sec,.int .i64 c.a.cyc,.int .i64 c.b.num,.int .i64 c.b.yr,.int .u8 c.b.half,.int .u8 c.b.sec,.int .i64 c.b.cyc,.int .i64 c.n])::LZ164):=hf
      refine O.buildC (j:=0) (cs':=#[.int .u8 c.kind,.int .i64 c.a.num,.int .i64 c.a.yr,.int .u8 c.a.half,.int .u8 c.a.sec,.int .i64 c.a.cyc,.int .i64 c.b.num,.int .i64 c.b.yr,.int .u8 c.b.half,.int .u8 c.b.sec,.int .i64 c.b.cyc,.int .i64 c.n]) (zs:=#[.int .u8 0,.int .i64 0,.int .i64 0,.int .u8 0,.int .u8 0,.int .i64 0,.int .i64 0,.int .i64 0,.int .u8 0,.int .u8 0,.int .i64 0,.int .i64 0]) hf hS rfl hs0 rfl rfl T_elem_22 T_size_26 T_zero_26 rfl rfl (by kernel_rfl) rfl (by kernel_rfl) ?_; clear hf hS a; intro b_s9 w a hS hf
      exact O.nil ⟨rfl,(b_s9,cv,v6),hf.to trivial,(gt (d:=31) hf rfl rfl),(fun j_ hj_ ha_=>match j_,hj_,ha_ with | 0,hj_,ha_=>rfl | 1,hj_,ha_=>rfl | 2,hj_,ha_=>rfl | 3,hj_,ha_=>absurd rfl hj_ | 4,hj_,ha_=>absurd ha_ (by decide) | 5,hj_,ha_=>absurd ha_ (by decide) | _+6,_,_=>rfl),hS⟩
    · have hS:St w0 w noX [ordA,rdv 12 vl l.length (encs eC l)] (sl 26 12 cv l.length (encs eC l)::condA (s 3) (pt b_s4 (.cells #[.int .u8 c.kind,.int .i64 c.a.num,.int .i64 c.a.yr,.int .u8 c.a.half,.int .u8 c.a.sec,.int .i64 c.a.cyc,.int .i64 c.b.num,.int .i64 c.b.yr,.int .u8 c.b.half,.int .u8 c.b.sec,.int .i64 c.b.cyc,.int .i64 c.n] 26 (0,0)))::MZ164):=hD; clear hD
      replace hf:Fr a 43 [] ((30,.agg #[.int .u8 c.kind,.int .i64 c.a.num,.int .i64 c.a.yr,.int .u8 c.a.half,.int .u8 c.a.sec,.int .i64 c.a.cyc,.int .i64 c.b.num,.int .i64 c.b.yr,.int .u8 c.b.half,.int .u8 c.b.sec,.int .i64 c.b.cyc,.int .i64 c.n])::LZ164):=hf
      refine O.buildC (j:=1) (cs':=#[.int .u8 c.kind,.int .i64 c.a.num,.int .i64 c.a.yr,.int .u8 c.a.half,.int .u8 c.a.sec,.int .i64 c.a.cyc,.int .i64 c.b.num,.int .i64 c.b.yr,.int .u8 c.b.half,.int .u8 c.b.sec,.int .i64 c.b.cyc,.int .i64 c.n]) (zs:=#[.int .u8 0,.int .i64 0,.int .i64 0,.int .u8 0,.int .u8 0,.int .i64 0,.int .i64 0,.int .i64 0,.int .u8 0,.int .u8 0,.int .i64 0,.int .i64 0]) hf hS rfl hs0 rfl rfl T_elem_22 T_size_26 T_zero_26 rfl rfl (by kernel_rfl) rfl (by kernel_rfl) ?_; clear hf hS a; intro b_s10 w a hS hf
      exact O.nil ⟨rfl,(b_s10,cv,v6),hf.to trivial,(gt (d:=31) hf rfl rfl),(fun j_ hj_ ha_=>match j_,hj_,ha_ with | 0,hj_,ha_=>rfl | 1,hj_,ha_=>rfl | 2,hj_,ha_=>rfl | 3,hj_,ha_=>absurd rfl hj_ | 4,hj_,ha_=>absurd ha_ (by decide) | 5,hj_,ha_=>absurd ha_ (by decide) | _+6,_,_=>rfl),hS⟩
    · exact absurd h2_ (by simp)
  clear hf hf1 hS; intro s g a w hs_ hf hD
  obtain ⟨b_s4,cv,v6⟩:=g
  have ha_:s 3=true:=hs_ 3 (by simp)
  have hS:St w0 w noX [ordA,rdv 12 vl l.length (encs eC l)] (sl 26 12 v6 ((l++[c]).length) (encs eC (l++[c]))::pt b_s4 (.cells #[.int .u8 c.kind,.int .i64 c.a.num,.int .i64 c.a.yr,.int .u8 c.a.half,.int .u8 c.a.sec,.int .i64 c.a.cyc,.int .i64 c.b.num,.int .i64 c.b.yr,.int .u8 c.b.half,.int .u8 c.b.sec,.int .i64 c.b.cyc,.int .i64 c.n] 26 (0,0))::MZ164):=hD; clear hD
  replace hf:Fr a 43 [] ((28,vl)::(29,cv)::(30,.agg #[.int .u8 c.kind,.int .i64 c.a.num,.int .i64 c.a.yr,.int .u8 c.a.half,.int .u8 c.a.sec,.int .i64 c.a.cyc,.int .i64 c.b.num,.int .i64 c.b.yr,.int .u8 c.b.half,.int .u8 c.b.sec,.int .i64 c.b.cyc,.int .i64 c.n])::(31,.slice (some ⟨b_s4,0,none⟩) 1 1)::(32,v6)::(10,v6)::LZ164):=hf
  refine k_seq ?_
  replace hf:Fr a 43 [] [(4,.slice none 0 0),(5,.int .i64 0),(10,v6)]:=hf.to ⟨rfl,rfl,rfl,trivial⟩
  refine W.seq ?_
  refine W.seq ?_
  refine W.regionL (l:=[0,1,2,3,4,5,6,7,8]) rfl ?_
  refine O.val hf rfl rfl rfl (RunV.move rfl) ?_
  clear hf a; intro a hf
  refine O.callR hf rfl rfl rfl (RunE.call (av:=#[v6]) C_ok_32 rfl rfl rfl) (history_err v6 (l++[c]) _ (hS.bptO (i:=0) rfl) (hS.slr (j:=0) rfl) (slOK.fit (hS.slAt (j:=0) rfl)) hm2) ?_
  clear hf a
  rintro _ w11 hS1 a hf
  replace hf:Fr a _ _ ((35,.tuple #[.map none,(.slice none 0 0),.int .i64 e])::_):=hf
  replace hS:=(hS.call hS1).eqM (N:=(sl 26 12 v6 ((l++[c]).length) (encs eC (l++[c]))::pt b_s4 (.cells #[.int .u8 c.kind,.int .i64 c.a.num,.int .i64 c.a.yr,.int .u8 c.a.half,.int .u8 c.a.sec,.int .i64 c.a.cyc,.int .i64 c.b.num,.int .i64 c.b.yr,.int .u8 c.b.half,.int .u8 c.b.sec,.int .i64 c.b.cyc,.int .i64 c.n] 26 (0,0))::MZ164)) rfl
  clear hS1
  refine O.val hf rfl rfl rfl (RunV.move rfl) ?_
  clear hf a; intro a hf
  refine O.val hf rfl rfl rfl (RunV.extract rfl rfl) ?_
  clear hf a; intro a hf
  refine O.val hf rfl rfl rfl (RunV.extract rfl rfl) ?_
  clear hf a; intro a hf
  refine O.val hf rfl rfl rfl (RunV.extract rfl rfl) ?_
  clear hf a; intro a hf
  refine O.val hf rfl rfl rfl (RunV.assign rfl) ?_
  clear hf a; intro a hf
  refine O.val hf rfl rfl rfl (RunV.assign rfl) ?_
  clear hf a; intro a hf
  refine O.val hf rfl rfl rfl (RunV.assign rfl) ?_
  clear hf a; intro a hf
  refine O.nil ?_
  refine k_seq ?_
  replace hf:Fr a 43 [] [(4,.slice none 0 0),(5,.int .i64 0),(10,v6),(13,.int .i64 e)]:=hf.to ⟨rfl,rfl,rfl,rfl,trivial⟩
  refine W.seq ?_
  refine W.regionL (l:=[0,1]) rfl ?_
  refine O.val hf rfl rfl rfl (RunV.move rfl) ?_
  clear hf a; intro a hf
  refine O.val (v:=.bool (decide (e≠(0:Int)))) hf rfl rfl rfl (RunV.neq rfl rfl) ?_
  clear hf a; intro a hf
  refine O.nil ?_
  refine k_seq ?_
  replace hf:Fr a 43 [] [(4,.slice none 0 0),(5,.int .i64 0),(10,v6),(13,.int .i64 e),(40,.bool (decide (e≠(0:Int))))]:=hf.to ⟨rfl,rfl,rfl,rfl,rfl,trivial⟩
  refine W.ifdI hf rfl (fun h1=>?_) (fun h1=>?_)
  · refine W.seq ?_
    refine W.regionL (l:=[0,1,2]) rfl ?_
    refine O.val hf rfl rfl rfl (RunV.move rfl) ?_
    clear hf a; intro a hf
    refine O.val hf rfl rfl rfl (RunV.assign rfl) ?_
    clear hf a; intro a hf
    refine O.val hf rfl rfl rfl (RunV.assign rfl) ?_
    clear hf a; intro a hf
    refine O.nil ?_
    refine k_seq ?_
    replace hf:Fr a 43 [] [(4,.slice none 0 0),(5,.int .i64 e),(10,v6)]:=hf.to ⟨rfl,rfl,rfl,trivial⟩
    refine W.ret ?_
    refine k_then_ret ?_
    refine post2 hf rfl (ResOK.tmp rfl) (ResOK.tmp rfl) ?_
    first
      | exact absurd he0 h1
      | exact ⟨(),rfl,hS.sub (List.nil_sublist _) |>.noB⟩
  · refine W.skip ?_
    refine k_seq ?_
    replace hf:Fr a 43 [] [(4,.slice none 0 0),(5,.int .i64 0),(10,v6)]:=hf.to ⟨rfl,rfl,rfl,trivial⟩
    refine W.seq ?_
    refine W.regionL (l:=[0,1,2]) rfl ?_
    refine O.val hf rfl rfl rfl (RunV.move rfl) ?_
    clear hf a; intro a hf
    refine O.val hf rfl rfl rfl (RunV.assign rfl) ?_
    clear hf a; intro a hf
    refine O.val hf rfl rfl rfl (RunV.assign rfl) ?_
    clear hf a; intro a hf
    refine O.nil ?_
    refine k_seq ?_
    replace hf:Fr a 43 [] [(4,v6),(5,.int .i64 0)]:=hf.to ⟨rfl,rfl,trivial⟩
    refine W.ret ?_
    refine post2 hf rfl (ResOK.tmp rfl) (ResOK.tmp rfl) ?_
    first
      | exact absurd he0 h1
      | exact ⟨(),rfl,hS.sub (List.nil_sublist _) |>.noB⟩
set_option maxHeartbeats 400000 in
set_option maxRecDepth 4000 in
theorem apply_ok (vl:Value) (l:List Ch) (c:Ch) (w0:World) (hG:Lent w0 ordA) (hl:rdOK (hp w0) 12 vl l.length (encs eC l)) (hfit:vfit vl) (hz:l.length≤1000) (S:List PG) (us:List Bool) (hm:histM l=.ok (S,us)) (hc:okC c=true) (S2:List PG) (us2:List Bool) (hm2:histM (l++[c])=.ok (S2,us2)) :
    Ret Tryd.prog 11 #[vl,.agg #[.int .u8 c.kind,.int .i64 c.a.num,.int .i64 c.a.yr,.int .u8 c.a.half,.int .u8 c.a.sec,.int .i64 c.a.cyc,.int .i64 c.b.num,.int .i64 c.b.yr,.int .u8 c.b.half,.int .u8 c.b.sec,.int .i64 c.b.cyc,.int .i64 c.n]] w0 (G:=Value) (fun g=>.tuple #[g,.int .i64 0]) (fun g w=>St w0 w noX [] [slE 26 12 eC g (l++[c])]):=by
  refine ret_of_W (lv:=[vl,.agg #[.int .u8 c.kind,.int .i64 c.a.num,.int .i64 c.a.yr,.int .u8 c.a.half,.int .u8 c.a.sec,.int .i64 c.a.cyc,.int .i64 c.b.num,.int .i64 c.b.yr,.int .u8 c.b.half,.int .u8 c.b.sec,.int .i64 c.b.cyc,.int .i64 c.n]]) Tryd.func11 rfl rfl rfl (fun a hf=>?_)
  replace hf:Fr a 43 [] [(0,vl),(1,.agg #[.int .u8 c.kind,.int .i64 c.a.num,.int .i64 c.a.yr,.int .u8 c.a.half,.int .u8 c.a.sec,.int .i64 c.a.cyc,.int .i64 c.b.num,.int .i64 c.b.yr,.int .u8 c.b.half,.int .u8 c.b.sec,.int .i64 c.b.cyc,.int .i64 c.n])]:=hf
  have hS:St w0 w0 noX [ordA,rdv 12 vl l.length (encs eC l)] []:=((St.refl w0).lend0 hl).lendA hG
  have hlm:=hl.2.1
  unfold maxLen at hlm
  refine W.seq ?_
  refine W.regionL (l:=[0,1,2]) rfl ?_
  refine O.box (cs:=#[.int .u8 c.kind,.int .i64 c.a.num,.int .i64 c.a.yr,.int .u8 c.a.half,.int .u8 c.a.sec,.int .i64 c.a.cyc,.int .i64 c.b.num,.int .i64 c.b.yr,.int .u8 c.b.half,.int .u8 c.b.sec,.int .i64 c.b.cyc,.int .i64 c.n]) hf hS rfl rfl rfl rfl ?_
  clear hf hS a; intro b_c1 w a hbb_c1 hS hf
  refine O.val hf rfl rfl rfl (RunV.assign rfl) ?_
  clear hf a; intro a hf
  refine O.val hf rfl rfl rfl (RunV.assign rfl) ?_
  clear hf a; intro a hf
  refine O.nil ?_
  refine k_seq ?_
  replace hf:Fr a 43 [] [(0,vl),(3,.pointer (some ⟨b_c1,0,none⟩)),(4,.slice none 0 0),(5,.int .i64 0)]:=hf.to ⟨rfl,rfl,rfl,rfl,trivial⟩
  refine W.seq ?_
  refine W.seq ?_
  refine W.regionL (l:=[0,1,2,3,4,5,6,7,8]) rfl ?_
  refine O.val hf rfl rfl rfl (RunV.move rfl) ?_
  clear hf a; intro a hf
  refine O.callR hf rfl rfl rfl (RunE.call (av:=#[vl]) C_ok_32 rfl rfl rfl) (history_ok vl l _ (hS.bptO (i:=0) rfl) (hS.rdAt (j:=1) rfl) hfit hm) ?_
  clear hf a
  rintro ⟨uv,bm,kvs,gs⟩ w2 ⟨hS1,hI⟩ a hf
  replace hf:Fr a _ _ ((16,.tuple #[.map (some bm),uv,.int .i64 0])::_):=hf
  replace hS:=(hS.call hS1).eqM (N:=[stA 95 24 bm kvs gs,sl 4 1 uv us.length (bools us),pt b_c1 (.cells #[.int .u8 c.kind,.int .i64 c.a.num,.int .i64 c.a.yr,.int .u8 c.a.half,.int .u8 c.a.sec,.int .i64 c.a.cyc,.int .i64 c.b.num,.int .i64 c.b.yr,.int .u8 c.b.half,.int .u8 c.b.sec,.int .i64 c.b.cyc,.int .i64 c.n] 26 (0,0))]) rfl
  clear hS1
  refine O.val hf rfl rfl rfl (RunV.move rfl) ?_
  clear hf a; intro a hf
  refine O.val hf rfl rfl rfl (RunV.extract rfl rfl) ?_
  clear hf a; intro a hf
  refine O.val hf rfl rfl rfl (RunV.extract rfl rfl) ?_
  clear hf a; intro a hf
  refine O.val hf rfl rfl rfl (RunV.extract rfl rfl) ?_
  clear hf a; intro a hf
  refine O.val hf rfl rfl rfl (RunV.assign rfl) ?_
  clear hf a; intro a hf
  refine O.val hf rfl rfl rfl (RunV.assign rfl) ?_
  clear hf a; intro a hf
  refine O.val hf rfl rfl rfl (RunV.assign rfl) ?_
  clear hf a; intro a hf
  refine O.nil ?_
  refine k_seq ?_
  replace hf:Fr a 43 [] [(0,vl),(3,.pointer (some ⟨b_c1,0,none⟩)),(4,.slice none 0 0),(5,.int .i64 0),(8,.int .i64 0)]:=hf.to ⟨rfl,rfl,rfl,rfl,rfl,trivial⟩
  refine W.seq ?_
  refine W.regionL (l:=[0,1]) rfl ?_
  refine O.val hf rfl rfl rfl (RunV.move rfl) ?_
  clear hf a; intro a hf
  refine O.val hf rfl rfl rfl (RunV.toB (c:=false) (RunV.neq rfl rfl) (by decide)) ?_
  clear hf a; intro a hf
  refine O.nil ?_
  refine k_seq ?_
  replace hf:Fr a 43 [] [(0,vl),(3,.pointer (some ⟨b_c1,0,none⟩)),(4,.slice none 0 0),(5,.int .i64 0),(8,.int .i64 0),(21,.bool false)]:=hf.to ⟨rfl,rfl,rfl,rfl,rfl,rfl,trivial⟩
  refine W.if_ff hf rfl ?_
  refine W.skip ?_
  refine k_seq ?_
  replace hf:Fr a 43 [] [(0,vl),(3,.pointer (some ⟨b_c1,0,none⟩)),(4,.slice none 0 0),(5,.int .i64 0)]:=hf.to ⟨rfl,rfl,rfl,rfl,trivial⟩
  refine W.seq ?_
  refine W.seq ?_
  refine W.regionL (l:=[0,1,2]) rfl ?_
  refine O.val hf rfl rfl rfl (RunV.loadN (cs':=#[.int .u8 c.kind,.int .i64 c.a.num,.int .i64 c.a.yr,.int .u8 c.a.half,.int .u8 c.a.sec,.int .i64 c.a.cyc,.int .i64 c.b.num,.int .i64 c.b.yr,.int .u8 c.b.half,.int .u8 c.b.sec,.int .i64 c.b.cyc,.int .i64 c.n]) T_agg_26 T_size_26 rfl (hS.ptAt (i:=2) rfl) (Nat.le_of_ble_eq_true rfl) rfl) ?_
  clear hf a; intro a hf
  refine O.callR hf rfl rfl rfl (RunE.call (av:=#[.agg #[.int .u8 c.kind,.int .i64 c.a.num,.int .i64 c.a.yr,.int .u8 c.a.half,.int .u8 c.a.sec,.int .i64 c.a.cyc,.int .i64 c.b.num,.int .i64 c.b.yr,.int .u8 c.b.half,.int .u8 c.b.sec,.int .i64 c.b.cyc,.int .i64 c.n]]) C_ok_25 rfl rfl rfl) (checkC_ok c _ (hS.bptO (i:=0) rfl) hc) ?_
  clear hf a
  rintro _ w3 hS1 a hf
  replace hf:Fr a _ _ ((24,.int .i64 0)::_):=hf
  replace hS:=(hS.call hS1).eqM (N:=[stA 95 24 bm kvs gs,sl 4 1 uv us.length (bools us),pt b_c1 (.cells #[.int .u8 c.kind,.int .i64 c.a.num,.int .i64 c.a.yr,.int .u8 c.a.half,.int .u8 c.a.sec,.int .i64 c.a.cyc,.int .i64 c.b.num,.int .i64 c.b.yr,.int .u8 c.b.half,.int .u8 c.b.sec,.int .i64 c.b.cyc,.int .i64 c.n] 26 (0,0))]) rfl
  clear hS1
  refine O.val hf rfl rfl rfl (RunV.assign rfl) ?_
  clear hf a; intro a hf
  refine O.nil ?_
  refine k_seq ?_
  replace hf:Fr a 43 [] [(0,vl),(3,.pointer (some ⟨b_c1,0,none⟩)),(4,.slice none 0 0),(5,.int .i64 0),(9,.int .i64 0)]:=hf.to ⟨rfl,rfl,rfl,rfl,rfl,trivial⟩
  refine W.seq ?_
  refine W.regionL (l:=[0,1]) rfl ?_
  refine O.val hf rfl rfl rfl (RunV.move rfl) ?_
  clear hf a; intro a hf
  refine O.val hf rfl rfl rfl (RunV.toB (c:=false) (RunV.neq rfl rfl) (by decide)) ?_
  clear hf a; intro a hf
  refine O.nil ?_
  refine k_seq ?_
  replace hf:Fr a 43 [] [(0,vl),(3,.pointer (some ⟨b_c1,0,none⟩)),(4,.slice none 0 0),(5,.int .i64 0),(9,.int .i64 0),(26,.bool false)]:=hf.to ⟨rfl,rfl,rfl,rfl,rfl,rfl,trivial⟩
  refine W.if_ff hf rfl ?_
  refine W.skip ?_
  refine k_seq ?_
  replace hf:Fr a 43 [] [(0,vl),(3,.pointer (some ⟨b_c1,0,none⟩)),(4,.slice none 0 0),(5,.int .i64 0)]:=hf.to ⟨rfl,rfl,rfl,rfl,trivial⟩
  refine W.seq ?_
  have hf1:Fr a 43 [] []:=hf.to trivial
  replace hf:Fr a 43 [] [(0,vl),(3,.pointer (some ⟨b_c1,0,none⟩)),(4,.slice none 0 0),(5,.int .i64 0)]:=hf.to ⟨rfl,rfl,rfl,rfl,trivial⟩
  replace hS:=hS.drew
  replace hS:=hS.emp
  let LZ430:List (Nat × Value):=[(0,vl),(3,.pointer (some ⟨b_c1,0,none⟩)),(4,.slice none 0 0),(5,.int .i64 0)]
  let MZ430:List Asr:=[stA 95 24 bm kvs gs,sl 4 1 uv us.length (bools us),pt b_c1 (.cells #[.int .u8 c.kind,.int .i64 c.a.num,.int .i64 c.a.yr,.int .u8 c.a.half,.int .u8 c.a.sec,.int .i64 c.a.cyc,.int .i64 c.b.num,.int .i64 c.b.yr,.int .u8 c.b.half,.int .u8 c.b.sec,.int .i64 c.b.cyc,.int .i64 c.n] 26 (0,0))]
  refine W.drawC (γ:=(Nat) × (Value) × (Value)) (L0:=LZ430) (L1:=[]) (0,default,default) [1,4] [3] [0,2,5] (fun i=>match i with | 1=>[0] | 3=>[2] | 4=>[1,3] | 5=>[0,1,2,3,4] | _=>[]) (fun i=>match i with | 4=>[1,3] | 5=>[1,4,3] | _=>[]) (fun i=>match i with | 0=>[1,4] | 1=>[4] | 2=>[4] | 3=>[4] | _=>[]) (fun i=>match i with | 4=>[3] | 5=>[3] | _=>[]) (fun i=>match i with | 1=>[4,5] | 3=>[4,5] | 4=>[5] | _=>[]) (fun _=>[]) (fun i=>match i with | 4=>1 | 5=>2 | _=>0) (fun i=>match i with | 1=>1 | 2=>1 | 3=>1 | 4=>2 | 5=>2 | _=>0) (fun (g:(Nat) × (Value) × (Value)) j=>match g,j with | ⟨b_s4,cv,v6⟩,0=>vl | ⟨b_s4,cv,v6⟩,1=>cv | ⟨b_s4,cv,v6⟩,2=>.agg #[.int .u8 c.kind,.int .i64 c.a.num,.int .i64 c.a.yr,.int .u8 c.a.half,.int .u8 c.a.sec,.int .i64 c.a.cyc,.int .i64 c.b.num,.int .i64 c.b.yr,.int .u8 c.b.half,.int .u8 c.b.sec,.int .i64 c.b.cyc,.int .i64 c.n] | ⟨b_s4,cv,v6⟩,3=>.slice (some ⟨b_s4,0,none⟩) 1 1 | ⟨b_s4,cv,v6⟩,4=>v6 | ⟨b_s4,cv,v6⟩,5=>v6 | _,_=>undef) (fun k s (g:(Nat) × (Value) × (Value)) w=>match k,g with | 0,⟨b_s4,cv,v6⟩=>St w0 w noX [ordA,rdv 12 vl l.length (encs eC l)] (condA (s 3) (pt b_s4 (.cells #[.int .u8 c.kind,.int .i64 c.a.num,.int .i64 c.a.yr,.int .u8 c.a.half,.int .u8 c.a.sec,.int .i64 c.a.cyc,.int .i64 c.b.num,.int .i64 c.b.yr,.int .u8 c.b.half,.int .u8 c.b.sec,.int .i64 c.b.cyc,.int .i64 c.n] 26 (0,0)))::MZ430) | 1,⟨b_s4,cv,v6⟩=>St w0 w noX [ordA,rdv 12 vl l.length (encs eC l)] (sl 26 12 cv l.length (encs eC l)::condA (s 3) (pt b_s4 (.cells #[.int .u8 c.kind,.int .i64 c.a.num,.int .i64 c.a.yr,.int .u8 c.a.half,.int .u8 c.a.sec,.int .i64 c.a.cyc,.int .i64 c.b.num,.int .i64 c.b.yr,.int .u8 c.b.half,.int .u8 c.b.sec,.int .i64 c.b.cyc,.int .i64 c.n] 26 (0,0)))::MZ430) | _,⟨b_s4,cv,v6⟩=>St w0 w noX [ordA,rdv 12 vl l.length (encs eC l)] (sl 26 12 v6 ((l++[c]).length) (encs eC (l++[c]))::pt b_s4 (.cells #[.int .u8 c.kind,.int .i64 c.a.num,.int .i64 c.a.yr,.int .u8 c.a.half,.int .u8 c.a.sec,.int .i64 c.a.cyc,.int .i64 c.b.num,.int .i64 c.b.yr,.int .u8 c.b.half,.int .u8 c.b.sec,.int .i64 c.b.cyc,.int .i64 c.n] 26 (0,0))::MZ430)) P_mixed (by kernel_rfl) (by kernel_rfl) (by kernel_rfl) hf hf1 hS ?_ ?_ ?_ ?_
  · clear hf hf1 hS
    refine ⟨?_,?_,?_,trivial⟩
    · intro k s g w h1_ h2_ hsp hD a hf
      obtain ⟨b_s4,cv,v6⟩:=g
      rcases k with _ | k
      · have hS:St w0 w noX [ordA,rdv 12 vl l.length (encs eC l)] (condA (s 3) (pt b_s4 (.cells #[.int .u8 c.kind,.int .i64 c.a.num,.int .i64 c.a.yr,.int .u8 c.a.half,.int .u8 c.a.sec,.int .i64 c.a.cyc,.int .i64 c.b.num,.int .i64 c.b.yr,.int .u8 c.b.half,.int .u8 c.b.sec,.int .i64 c.b.cyc,.int .i64 c.n] 26 (0,0)))::MZ430):=hD;
        replace hf:Fr a 43 [] LZ430:=hf
        refine O.val hf rfl rfl rfl (RunV.move rfl) ?_
        clear hf a; intro a hf
        exact O.nil ⟨rfl,hf.to trivial,(gt (d:=28) hf rfl rfl),hD⟩
      · exact absurd h2_ (by simp)
    · intro k s g w h1_ h2_ hsp hD a hf
      obtain ⟨b_s4,cv,v6⟩:=g
      rcases k with _ | _ | k
      · have hS:St w0 w noX [ordA,rdv 12 vl l.length (encs eC l)] (condA (s 3) (pt b_s4 (.cells #[.int .u8 c.kind,.int .i64 c.a.num,.int .i64 c.a.yr,.int .u8 c.a.half,.int .u8 c.a.sec,.int .i64 c.a.cyc,.int .i64 c.b.num,.int .i64 c.b.yr,.int .u8 c.b.half,.int .u8 c.b.sec,.int .i64 c.b.cyc,.int .i64 c.n] 26 (0,0)))::MZ430):=hD;
        replace hf:Fr a 43 [] LZ430:=hf
        refine O.val hf rfl rfl rfl (RunV.loadN (cs':=#[.int .u8 c.kind,.int .i64 c.a.num,.int .i64 c.a.yr,.int .u8 c.a.half,.int .u8 c.a.sec,.int .i64 c.a.cyc,.int .i64 c.b.num,.int .i64 c.b.yr,.int .u8 c.b.half,.int .u8 c.b.sec,.int .i64 c.b.cyc,.int .i64 c.n]) T_agg_26 T_size_26 rfl (hS.ptAt (i:=3) rfl) (Nat.le_of_ble_eq_true rfl) rfl) ?_
        clear hf a; intro a hf
        exact O.nil ⟨rfl,hf.to trivial,(gt (d:=30) hf rfl rfl),hD⟩
      · have hS:St w0 w noX [ordA,rdv 12 vl l.length (encs eC l)] (sl 26 12 cv l.length (encs eC l)::condA (s 3) (pt b_s4 (.cells #[.int .u8 c.kind,.int .i64 c.a.num,.int .i64 c.a.yr,.int .u8 c.a.half,.int .u8 c.a.sec,.int .i64 c.a.cyc,.int .i64 c.b.num,.int .i64 c.b.yr,.int .u8 c.b.half,.int .u8 c.b.sec,.int .i64 c.b.cyc,.int .i64 c.n] 26 (0,0)))::MZ430):=hD;
        replace hf:Fr a 43 [] LZ430:=hf
        refine O.val hf rfl rfl rfl (RunV.loadN (cs':=#[.int .u8 c.kind,.int .i64 c.a.num,.int .i64 c.a.yr,.int .u8 c.a.half,.int .u8 c.a.sec,.int .i64 c.a.cyc,.int .i64 c.b.num,.int .i64 c.b.yr,.int .u8 c.b.half,.int .u8 c.b.sec,.int .i64 c.b.cyc,.int .i64 c.n]) T_agg_26 T_size_26 rfl (hS.ptAt (i:=4) rfl) (Nat.le_of_ble_eq_true rfl) rfl) ?_
        clear hf a; intro a hf
        exact O.nil ⟨rfl,hf.to trivial,(gt (d:=30) hf rfl rfl),hD⟩
      · exact absurd h2_ (by simp)
    · intro k s g w h1_ h2_ hsp hD a hf
      obtain ⟨b_s4,cv,v6⟩:=g
      rcases k with _ | _ | _ | k
      · exact absurd h1_ (by decide)
      · exact absurd h1_ (by decide)
      · have ha_:s 3=true:=hsp 3 (by simp)
        have hS:St w0 w noX [ordA,rdv 12 vl l.length (encs eC l)] (sl 26 12 v6 ((l++[c]).length) (encs eC (l++[c]))::pt b_s4 (.cells #[.int .u8 c.kind,.int .i64 c.a.num,.int .i64 c.a.yr,.int .u8 c.a.half,.int .u8 c.a.sec,.int .i64 c.a.cyc,.int .i64 c.b.num,.int .i64 c.b.yr,.int .u8 c.b.half,.int .u8 c.b.sec,.int .i64 c.b.cyc,.int .i64 c.n] 26 (0,0))::MZ430):=hD;
        replace hS:St w0 w noX [ordA,rdv 12 vl l.length (encs eC l)] (sl 26 12 v6 ((l++[c]).length) (encs eC (l++[c]))::pt b_s4 (.cells #[.int .u8 c.kind,.int .i64 c.a.num,.int .i64 c.a.yr,.int .u8 c.a.half,.int .u8 c.a.sec,.int .i64 c.a.cyc,.int .i64 c.b.num,.int .i64 c.b.yr,.int .u8 c.b.half,.int .u8 c.b.sec,.int .i64 c.b.cyc,.int .i64 c.n] 26 (0,0))::MZ430):=hS
        replace hf:Fr a 43 [] ((28,vl)::(29,cv)::(30,.agg #[.int .u8 c.kind,.int .i64 c.a.num,.int .i64 c.a.yr,.int .u8 c.a.half,.int .u8 c.a.sec,.int .i64 c.a.cyc,.int .i64 c.b.num,.int .i64 c.b.yr,.int .u8 c.b.half,.int .u8 c.b.sec,.int .i64 c.b.cyc,.int .i64 c.n])::(31,.slice (some ⟨b_s4,0,none⟩) 1 1)::(32,v6)::LZ430):=hf
        refine O.val hf rfl rfl rfl (RunV.assign rfl) ?_
        clear hf a; intro a hf
        exact O.nil ⟨rfl,hf.to trivial,(gt (d:=10) hf rfl rfl),hD⟩
      · exact absurd h2_ (by simp)
  · clear hf hf1 hS
    refine ⟨?_,?_,trivial⟩
    · intro s g w hsp hD a hf
      obtain ⟨b_s4,cv,v6⟩:=g
      have hS:St w0 w noX [ordA,rdv 12 vl l.length (encs eC l)] (condA (s 3) (pt b_s4 (.cells #[.int .u8 c.kind,.int .i64 c.a.num,.int .i64 c.a.yr,.int .u8 c.a.half,.int .u8 c.a.sec,.int .i64 c.a.cyc,.int .i64 c.b.num,.int .i64 c.b.yr,.int .u8 c.b.half,.int .u8 c.b.sec,.int .i64 c.b.cyc,.int .i64 c.n] 26 (0,0)))::MZ430):=hD;
      replace hf:Fr a 43 [] ((28,vl)::LZ430):=hf
      clear hD
      refine O.callR hf rfl rfl rfl (RunE.call (av:=#[vl]) C_ok_33 rfl rfl rfl) (cloneC_spec vl l _ hfit (hS.rdAt (j:=1) rfl) (by omega)) ?_
      clear hf a
      rintro cv w7 hS1 a hf
      replace hf:Fr a _ _ ((29,cv)::_):=hf
      replace hS:=(hS.call hS1).eqM (N:=(sl 26 12 cv l.length (encs eC l)::condA (s 3) (pt b_s4 (.cells #[.int .u8 c.kind,.int .i64 c.a.num,.int .i64 c.a.yr,.int .u8 c.a.half,.int .u8 c.a.sec,.int .i64 c.a.cyc,.int .i64 c.b.num,.int .i64 c.b.yr,.int .u8 c.b.half,.int .u8 c.b.sec,.int .i64 c.b.cyc,.int .i64 c.n] 26 (0,0)))::MZ430)) rfl
      clear hS1
      exact O.nil ⟨rfl,(b_s4,cv,v6),hf.to trivial,(gt (d:=29) hf rfl rfl),(fun j_ hj_ ha_=>match j_,hj_,ha_ with | 0,hj_,ha_=>rfl | 1,hj_,ha_=>absurd rfl hj_ | 2,hj_,ha_=>rfl | 3,hj_,ha_=>rfl | 4,hj_,ha_=>absurd ha_ (by decide) | 5,hj_,ha_=>absurd ha_ (by decide) | _+6,_,_=>rfl),hS⟩
    · intro s g w hsp hD a hf
      obtain ⟨b_s4,cv,v6⟩:=g
      have ha_:s 3=true:=hsp 3 (by simp)
      have hS:St w0 w noX [ordA,rdv 12 vl l.length (encs eC l)] (sl 26 12 cv l.length (encs eC l)::condA (s 3) (pt b_s4 (.cells #[.int .u8 c.kind,.int .i64 c.a.num,.int .i64 c.a.yr,.int .u8 c.a.half,.int .u8 c.a.sec,.int .i64 c.a.cyc,.int .i64 c.b.num,.int .i64 c.b.yr,.int .u8 c.b.half,.int .u8 c.b.sec,.int .i64 c.b.cyc,.int .i64 c.n] 26 (0,0)))::MZ430):=hD; rw [ha_] at hS
      replace hS:St w0 w noX [ordA,rdv 12 vl l.length (encs eC l)] (sl 26 12 cv l.length (encs eC l)::pt b_s4 (.cells #[.int .u8 c.kind,.int .i64 c.a.num,.int .i64 c.a.yr,.int .u8 c.a.half,.int .u8 c.a.sec,.int .i64 c.a.cyc,.int .i64 c.b.num,.int .i64 c.b.yr,.int .u8 c.b.half,.int .u8 c.b.sec,.int .i64 c.b.cyc,.int .i64 c.n] 26 (0,0))::MZ430):=hS
      replace hf:Fr a 43 [] ((29,cv)::(31,.slice (some ⟨b_s4,0,none⟩) 1 1)::LZ430):=hf
      clear hD
      refine O.append1 (j:=0) (jj:=1) hf hS rfl rfl T_elem_22 T_size_26 T_bytes_26 T_zero_26 rfl rfl rfl rfl rfl rfl rfl rfl (by unfold maxLen; omega) (by omega) ?_
      clear hf hS a; intro v8 w a hS hf
      replace hS:=hS.eqM (N:=(sl 26 12 v8 (l.length+1) (encs eC l++[.int .u8 c.kind,.int .i64 c.a.num,.int .i64 c.a.yr,.int .u8 c.a.half,.int .u8 c.a.sec,.int .i64 c.a.cyc,.int .i64 c.b.num,.int .i64 c.b.yr,.int .u8 c.b.half,.int .u8 c.b.sec,.int .i64 c.b.cyc,.int .i64 c.n])::pt b_s4 (.cells #[.int .u8 c.kind,.int .i64 c.a.num,.int .i64 c.a.yr,.int .u8 c.a.half,.int .u8 c.a.sec,.int .i64 c.a.cyc,.int .i64 c.b.num,.int .i64 c.b.yr,.int .u8 c.b.half,.int .u8 c.b.sec,.int .i64 c.b.cyc,.int .i64 c.n] 26 (0,0))::MZ430)) rfl
      replace hS:=hS.reE (i:=0) (M':=(sl 26 12 v8 ((l++[c]).length) (encs eC (l++[c]))::pt b_s4 (.cells #[.int .u8 c.kind,.int .i64 c.a.num,.int .i64 c.a.yr,.int .u8 c.a.half,.int .u8 c.a.sec,.int .i64 c.a.cyc,.int .i64 c.b.num,.int .i64 c.b.yr,.int .u8 c.b.half,.int .u8 c.b.sec,.int .i64 c.b.cyc,.int .i64 c.n] 26 (0,0))::MZ430)) rfl (sl_snoc (enc:=eC) (l:=l) (x:=c)) rfl
      exact O.nil ⟨rfl,(b_s4,cv,v8),hf.to trivial,(gt (d:=32) hf rfl rfl),(fun j_ hj_ ha_=>match j_,hj_,ha_ with | 0,hj_,ha_=>rfl | 1,hj_,ha_=>rfl | 2,hj_,ha_=>rfl | 3,hj_,ha_=>rfl | 4,hj_,ha_=>absurd rfl hj_ | 5,hj_,ha_=>absurd ha_ (by decide) | _+6,_,_=>rfl),hS⟩
  · clear hf hf1 hS
    refine ⟨?_,trivial⟩
    intro k s g w h1_ h2_ hs0 hD a hf
    obtain ⟨b_s4,cv,v6⟩:=g
    rcases k with _ | _ | k
    · have hS:St w0 w noX [ordA,rdv 12 vl l.length (encs eC l)] (condA (s 3) (pt b_s4 (.cells #[.int .u8 c.kind,.int .i64 c.a.num,.int .i64 c.a.yr,.int .u8 c.a.half,.int .u8 c.a.sec,.int .i64 c.a.cyc,.int .i64 c.b.num,.int .i64 c.b.yr,.int .u8 c.b.half,.int .u8 c.b.sec,.int .i64 c.b.cyc,.int .i64 c.n] 26 (0,0)))::MZ430):=hD; clear hD
      replace hf:Fr a 43 [] ((30,.agg #[.int .u8 c.kind,.int .i64 c.a.num,.int .i64 c.a.yr,.int .u8 c.a.half,.int .u8 c.a.sec,.int .i64 c.a.cyc,.int .i64 c.b.num,.int .i64 c.b.yr,.int .u8 c.b.half,.int .u8 c.b.sec,.int .i64 c.b.cyc,.int .i64 c.n])::LZ430):=hf
      refine O.buildC (j:=0) (cs':=#[.int .u8 c.kind,.int .i64 c.a.num,.int .i64 c.a.yr,.int .u8 c.a.half,.int .u8 c.a.sec,.int .i64 c.a.cyc,.int .i64 c.b.num,.int .i64 c.b.yr,.int .u8 c.b.half,.int .u8 c.b.sec,.int .i64 c.b.cyc,.int .i64 c.n]) (zs:=#[.int .u8 0,.int .i64 0,.int .i64 0,.int .u8 0,.int .u8 0,.int .i64 0,.int .i64 0,.int .i64 0,.int .u8 0,.int .u8 0,.int .i64 0,.int .i64 0]) hf hS rfl hs0 rfl rfl T_elem_22 T_size_26 T_zero_26 rfl rfl (by kernel_rfl) rfl (by kernel_rfl) ?_; clear hf hS a; intro b_s9 w a hS hf
      exact O.nil ⟨rfl,(b_s9,cv,v6),hf.to trivial,(gt (d:=31) hf rfl rfl),(fun j_ hj_ ha_=>match j_,hj_,ha_ with | 0,hj_,ha_=>rfl | 1,hj_,ha_=>rfl | 2,hj_,ha_=>rfl | 3,hj_,ha_=>absurd rfl hj_ | 4,hj_,ha_=>absurd ha_ (by decide) | 5,hj_,ha_=>absurd ha_ (by decide) | _+6,_,_=>rfl),hS⟩
    · have hS:St w0 w noX [ordA,rdv 12 vl l.length (encs eC l)] (sl 26 12 cv l.length (encs eC l)::condA (s 3) (pt b_s4 (.cells #[.int .u8 c.kind,.int .i64 c.a.num,.int .i64 c.a.yr,.int .u8 c.a.half,.int .u8 c.a.sec,.int .i64 c.a.cyc,.int .i64 c.b.num,.int .i64 c.b.yr,.int .u8 c.b.half,.int .u8 c.b.sec,.int .i64 c.b.cyc,.int .i64 c.n] 26 (0,0)))::MZ430):=hD; clear hD
      replace hf:Fr a 43 [] ((30,.agg #[.int .u8 c.kind,.int .i64 c.a.num,.int .i64 c.a.yr,.int .u8 c.a.half,.int .u8 c.a.sec,.int .i64 c.a.cyc,.int .i64 c.b.num,.int .i64 c.b.yr,.int .u8 c.b.half,.int .u8 c.b.sec,.int .i64 c.b.cyc,.int .i64 c.n])::LZ430):=hf
      refine O.buildC (j:=1) (cs':=#[.int .u8 c.kind,.int .i64 c.a.num,.int .i64 c.a.yr,.int .u8 c.a.half,.int .u8 c.a.sec,.int .i64 c.a.cyc,.int .i64 c.b.num,.int .i64 c.b.yr,.int .u8 c.b.half,.int .u8 c.b.sec,.int .i64 c.b.cyc,.int .i64 c.n]) (zs:=#[.int .u8 0,.int .i64 0,.int .i64 0,.int .u8 0,.int .u8 0,.int .i64 0,.int .i64 0,.int .i64 0,.int .u8 0,.int .u8 0,.int .i64 0,.int .i64 0]) hf hS rfl hs0 rfl rfl T_elem_22 T_size_26 T_zero_26 rfl rfl (by kernel_rfl) rfl (by kernel_rfl) ?_; clear hf hS a; intro b_s10 w a hS hf
      exact O.nil ⟨rfl,(b_s10,cv,v6),hf.to trivial,(gt (d:=31) hf rfl rfl),(fun j_ hj_ ha_=>match j_,hj_,ha_ with | 0,hj_,ha_=>rfl | 1,hj_,ha_=>rfl | 2,hj_,ha_=>rfl | 3,hj_,ha_=>absurd rfl hj_ | 4,hj_,ha_=>absurd ha_ (by decide) | 5,hj_,ha_=>absurd ha_ (by decide) | _+6,_,_=>rfl),hS⟩
    · exact absurd h2_ (by simp)
  clear hf hf1 hS; intro s g a w hs_ hf hD
  obtain ⟨b_s4,cv,v6⟩:=g
  have ha_:s 3=true:=hs_ 3 (by simp)
  have hS:St w0 w noX [ordA,rdv 12 vl l.length (encs eC l)] (sl 26 12 v6 ((l++[c]).length) (encs eC (l++[c]))::pt b_s4 (.cells #[.int .u8 c.kind,.int .i64 c.a.num,.int .i64 c.a.yr,.int .u8 c.a.half,.int .u8 c.a.sec,.int .i64 c.a.cyc,.int .i64 c.b.num,.int .i64 c.b.yr,.int .u8 c.b.half,.int .u8 c.b.sec,.int .i64 c.b.cyc,.int .i64 c.n] 26 (0,0))::MZ430):=hD; clear hD
  replace hf:Fr a 43 [] ((28,vl)::(29,cv)::(30,.agg #[.int .u8 c.kind,.int .i64 c.a.num,.int .i64 c.a.yr,.int .u8 c.a.half,.int .u8 c.a.sec,.int .i64 c.a.cyc,.int .i64 c.b.num,.int .i64 c.b.yr,.int .u8 c.b.half,.int .u8 c.b.sec,.int .i64 c.b.cyc,.int .i64 c.n])::(31,.slice (some ⟨b_s4,0,none⟩) 1 1)::(32,v6)::(10,v6)::LZ430):=hf
  refine k_seq ?_
  replace hf:Fr a 43 [] [(4,.slice none 0 0),(5,.int .i64 0),(10,v6)]:=hf.to ⟨rfl,rfl,rfl,trivial⟩
  refine W.seq ?_
  refine W.seq ?_
  refine W.regionL (l:=[0,1,2,3,4,5,6,7,8]) rfl ?_
  refine O.val hf rfl rfl rfl (RunV.move rfl) ?_
  clear hf a; intro a hf
  refine O.callR hf rfl rfl rfl (RunE.call (av:=#[v6]) C_ok_32 rfl rfl rfl) (history_ok v6 (l++[c]) _ (hS.bptO (i:=0) rfl) (hS.slr (j:=0) rfl) (slOK.fit (hS.slAt (j:=0) rfl)) hm2) ?_
  clear hf a
  rintro ⟨uv2,bm2,kvs2,gs2⟩ w11 ⟨hS1,hI2⟩ a hf
  replace hf:Fr a _ _ ((35,.tuple #[.map (some bm2),uv2,.int .i64 0])::_):=hf
  replace hS:=(hS.call hS1).eqM (N:=(stA 95 24 bm2 kvs2 gs2::sl 4 1 uv2 us2.length (bools us2)::sl 26 12 v6 ((l++[c]).length) (encs eC (l++[c]))::pt b_s4 (.cells #[.int .u8 c.kind,.int .i64 c.a.num,.int .i64 c.a.yr,.int .u8 c.a.half,.int .u8 c.a.sec,.int .i64 c.a.cyc,.int .i64 c.b.num,.int .i64 c.b.yr,.int .u8 c.b.half,.int .u8 c.b.sec,.int .i64 c.b.cyc,.int .i64 c.n] 26 (0,0))::MZ430)) rfl
  clear hS1
  refine O.val hf rfl rfl rfl (RunV.move rfl) ?_
  clear hf a; intro a hf
  refine O.val hf rfl rfl rfl (RunV.extract rfl rfl) ?_
  clear hf a; intro a hf
  refine O.val hf rfl rfl rfl (RunV.extract rfl rfl) ?_
  clear hf a; intro a hf
  refine O.val hf rfl rfl rfl (RunV.extract rfl rfl) ?_
  clear hf a; intro a hf
  refine O.val hf rfl rfl rfl (RunV.assign rfl) ?_
  clear hf a; intro a hf
  refine O.val hf rfl rfl rfl (RunV.assign rfl) ?_
  clear hf a; intro a hf
  refine O.val hf rfl rfl rfl (RunV.assign rfl) ?_
  clear hf a; intro a hf
  refine O.nil ?_
  refine k_seq ?_
  replace hf:Fr a 43 [] [(4,.slice none 0 0),(5,.int .i64 0),(10,v6),(13,.int .i64 0)]:=hf.to ⟨rfl,rfl,rfl,rfl,trivial⟩
  refine W.seq ?_
  refine W.regionL (l:=[0,1]) rfl ?_
  refine O.val hf rfl rfl rfl (RunV.move rfl) ?_
  clear hf a; intro a hf
  refine O.val hf rfl rfl rfl (RunV.toB (c:=false) (RunV.neq rfl rfl) (by decide)) ?_
  clear hf a; intro a hf
  refine O.nil ?_
  refine k_seq ?_
  replace hf:Fr a 43 [] [(4,.slice none 0 0),(5,.int .i64 0),(10,v6),(13,.int .i64 0),(40,.bool false)]:=hf.to ⟨rfl,rfl,rfl,rfl,rfl,trivial⟩
  refine W.if_ff hf rfl ?_
  refine W.skip ?_
  refine k_seq ?_
  replace hf:Fr a 43 [] [(4,.slice none 0 0),(5,.int .i64 0),(10,v6)]:=hf.to ⟨rfl,rfl,rfl,trivial⟩
  refine W.seq ?_
  refine W.regionL (l:=[0,1,2]) rfl ?_
  refine O.val hf rfl rfl rfl (RunV.move rfl) ?_
  clear hf a; intro a hf
  refine O.val hf rfl rfl rfl (RunV.assign rfl) ?_
  clear hf a; intro a hf
  refine O.val hf rfl rfl rfl (RunV.assign rfl) ?_
  clear hf a; intro a hf
  refine O.nil ?_
  refine k_seq ?_
  replace hf:Fr a 43 [] [(4,v6),(5,.int .i64 0)]:=hf.to ⟨rfl,rfl,trivial⟩
  refine W.ret ?_
  refine post2 hf rfl (ResOK.tmp rfl) (ResOK.tmp rfl) ?_
  replace hS:=hS.front (i:=2) (M':=(sl 26 12 v6 ((l++[c]).length) (encs eC (l++[c]))::stA 95 24 bm2 kvs2 gs2::sl 4 1 uv2 us2.length (bools us2)::pt b_s4 (.cells #[.int .u8 c.kind,.int .i64 c.a.num,.int .i64 c.a.yr,.int .u8 c.a.half,.int .u8 c.a.sec,.int .i64 c.a.cyc,.int .i64 c.b.num,.int .i64 c.b.yr,.int .u8 c.b.half,.int .u8 c.b.sec,.int .i64 c.b.cyc,.int .i64 c.n] 26 (0,0))::MZ430)) rfl rfl
  exact ⟨v6,rfl,(hS.sub (List.Sublist.cons_cons _ (List.nil_sublist _))).noB⟩
end Go.Proofs.YtgakdmmmljdpjaaDoor

namespace Go.SL
open Go
def allA (l:List Asr):Asr:=⟨fun b=>∃ p ∈ l,p.fp b,fun h=>∀ p ∈ l,p.holds h,fun h h' hk hh p hp=>p.loc h h' (fun b hb=>hk b ⟨p,hp,hb⟩) (hh p hp)⟩
def rdOb (o:Ob):Asr:=rdv 5 o.v o.l.length (encs eD o.l)
section
variable {w0 w:World} {X:Nat→Prop} {B M:List Asr} {i j:Nat} {os:List Ob} {o:Ob} {l:List Asr}
def obsRd (w:World) (os:List Ob):Prop:=∀ o ∈ os,rdOK (hp w) 5 o.v o.l.length (encs eD o.l)
theorem St.lendObs (hS:St w w noX B M) (h:obsRd w os):St w w noX (allA (os.map rdOb)::B) M :=
  hS.lendA ⟨fun p hp=>by
    obtain ⟨o,ho,rfl⟩:=List.mem_map.1 hp
    exact h o ho,fun b ⟨p,hp,hb⟩=>by
    obtain ⟨o,ho,rfl⟩:=List.mem_map.1 hp
    have h1:=h o ho
    have h2:St w w noX [rdv 5 o.v o.l.length (encs eD o.l)] []:=(St.refl w).lend0 h1
    exact ((h2.bor _ List.mem_cons_self).2 b hb).1⟩
theorem St.obAt (hS:St w0 w X B M) (hi:B[i]? = some (allA (os.map rdOb))):obsRd w os:=fun o ho=>by
  have h:(allA (os.map rdOb)).holds (hp w):=hS.bat hi
  exact h (rdOb o) (List.mem_map.2 ⟨o,ho,rfl⟩)
theorem slE_rd {h:Hp} {e sz:Nat} {enc:Dg→List Value} {v:Value} {l:List Dg} (hh:(slE e sz enc v l).holds h):rdOK h sz v l.length (encs enc l):=(show slOK h e sz v l.length (encs enc l) from hh).rd
theorem St.obOwn (hS:St w0 w X B M) (hi:M[i]? = some (bigA (os.map obA))):obsRd w os:=fun o ho=>by
  have h:(bigA (os.map obA)).holds (hp w):=hS.at_ hi
  have h1:(obA o).holds (hp w):=h.1 (obA o) (List.mem_map.2 ⟨o,ho,rfl⟩)
  exact slE_rd h1
theorem obsRd.at (h:obsRd w os) {k:Nat} (hk:k<os.length):rdOK (hp w) 5 (os.getD k default).v (os.getD k default).l.length (encs eD (os.getD k default).l) :=
  h _ (by rw [List.getD_eq_getElem?_getD,List.getElem?_eq_getElem hk]; exact List.getElem_mem _)
theorem obsRd.nil:obsRd w []:=fun o ho=>by cases ho
theorem obsRd.cons {t:List Ob} (h:rdOK (hp w) 5 o.v o.l.length (encs eD o.l)) (ht:obsRd w t):obsRd w (o::t):=fun x hx=>by
  rcases List.mem_cons.1 hx with rfl | hx
  · exact h
  · exact ht x hx
end
def nameD (c:Int):Dg:=⟨0,2026,87,c,0⟩
def numD:Dg:=⟨700001,0,0,0,0⟩
def givenL:List Ch:=[⟨1,nameD 65,default,0⟩,⟨1,nameD 66,default,0⟩,⟨2,nameD 65,nameD 66,0⟩,⟨3,nameD 66,numD,0⟩]
instance {T:Type} [DecidableEq T]:DecidableEq (Except Int T):=fun a b=>match a,b with
  | .error e,.error f=>if h:e=f then isTrue (h▸rfl) else isFalse (fun h2=>h (by injection h2))
  | .ok x,.ok y=>if h:x=y then isTrue (h▸rfl) else isFalse (fun h2=>h (by injection h2))
  | .error _,.ok _=>isFalse (fun h=>by cases h)
  | .ok _,.error _=>isFalse (fun h=>by cases h)
theorem sortDs_eq {l s:List Dg} (hp:l.Perm s) (hs:s.Pairwise (fun x y=>ltD y x=false)):sortDs l=s:=by
  have h:=sorted_eq (l:=l.map fun d=>(d,[])) (s:=s.map fun d=>(d,[])) (fun x hx y hy he=>by
    obtain ⟨a,_,rfl⟩:=List.mem_map.1 hx
    obtain ⟨b,_,rfl⟩:=List.mem_map.1 hy
    exact Prod.ext he rfl) (hp.map _) (by
    rw [List.pairwise_map]
    exact hs.imp fun {a b} h=>by unfold leO; simp only [h]; rfl)
  have h2:=congrArg (List.map Prod.fst) h
  rw [List.map_mergeSort (r:=leO) (s:=fun x y=>!ltD y x) (f:=Prod.fst) (fun a _ b _=>rfl),List.map_map,List.map_map] at h2
  simpa [Function.comp_def,sortDs] using h2
end Go.SL

namespace Go.SL
open Go
def greatM (n:Nat):Bool:=decide ((n:Int)>25)&&decide ((n:Int)≤500)||decide ((n:Int)>510)
section
variable {p q:Dg} {lp lq:List Dg} {k:Nat} {xs ys:List Ob}
theorem ext_getD {T:Type} [Inhabited T] {a b:List T} (hl:a.length=b.length) (h:∀ j,j<a.length→a.getD j default=b.getD j default):a=b:=by
  apply List.ext_getElem hl
  intro i h1 h2
  have:=h i h1
  simpa [List.getD_eq_getElem?_getD,List.getElem?_eq_getElem h1,List.getElem?_eq_getElem h2] using this
end
end Go.SL

namespace Go.Proofs.YtgakdmmmljdpjaaDoor
open Go Go.SL
theorem T_field_46_1:tField Tryd.prog 46 1=some 5:=by kernel_rfl
theorem T_places_26:tPlaces Tryd.prog 26=some #[(0,1),(1,5),(6,5),(11,1)]:=by kernel_rfl
set_option maxHeartbeats 400000 in
set_option maxRecDepth 4000 in
theorem great_spec (vl:Value) (l:List Ch) (w0:World) (hl:rdOK (hp w0) 12 vl l.length (encs eC l)) :
    Ret Tryd.prog 10 #[vl] w0 (G:=Unit) (fun _=>.bool (greatM l.length)) (fun _ w=>St w0 w noX [] []):=by
  refine ret_of_W (lv:=[vl]) Tryd.func10 rfl rfl rfl (fun a hf=>?_)
  replace hf:Fr a 16 [] [(0,vl)]:=hf
  have hS:St w0 w0 noX [rdv 12 vl l.length (encs eC l)] []:=(St.refl w0).lend0 hl
  refine W.seq ?_
  refine W.regionL (l:=[0]) rfl ?_
  refine O.val hf rfl rfl rfl (RunV.assign rfl) ?_
  clear hf a; intro a hf
  refine O.nil ?_
  refine k_seq ?_
  refine W.seq ?_
  refine W.regionL (l:=[0,1,2,3,4,5,6,7,8,9,10,11,12,13]) rfl ?_
  refine O.val hf rfl rfl rfl (RunV.move rfl) ?_
  clear hf a; intro a hf
  refine O.val hf rfl rfl rfl (RunV.lenV (e:=26) (by simpa using T_elem_22) rfl (hS.rdAt (j:=0) rfl)) ?_
  clear hf a; intro a hf
  refine O.val (v:=.bool (decide ((l.length:Int)>(25:Int)))) hf rfl rfl rfl (RunV.gtr rfl rfl) ?_
  clear hf a; intro a hf
  refine O.val hf rfl rfl rfl (RunV.move rfl) ?_
  clear hf a; intro a hf
  refine O.cutN (l₁:=[4,5,6,7]) (l₂:=_) (fun a w=>Fr a 16 [] [(0,vl),(2,.bool false),(3,vl),(4,.int .i64 (l.length:Int)),(5,.bool (decide ((l.length:Int)>(25:Int)))),(6,.bool (decide ((l.length:Int)>(25:Int)))),(10,.bool ((decide ((l.length:Int)>(25:Int)))&&(decide ((l.length:Int)≤(500:Int)))))]∧St w0 w noX [rdv 12 vl l.length (encs eC l)] []) rfl ?_ ?_
  · rcases Bool.eq_false_or_eq_true (decide ((l.length:Int)>(25:Int))) with hb1 | hb1
    · have hb1p:=of_decide_eq_true hb1
      refine O.gvalB (v:=vl) hf rfl rfl rfl hb1 rfl rfl (RunV.move rfl) ?_
      clear hf a; intro a hf
      refine O.gvalB (v:=.int .i64 (l.length:Int)) hf rfl rfl rfl hb1 rfl rfl (RunV.lenV (e:=26) (by simpa using T_elem_22) rfl (hS.rdAt (j:=0) rfl)) ?_
      clear hf a; intro a hf
      refine O.gvalB (v:=.bool (decide ((l.length:Int)≤(500:Int)))) hf rfl rfl rfl hb1 rfl rfl (RunV.leq rfl rfl) ?_
      clear hf a; intro a hf
      refine O.val (v:=.bool ((decide ((l.length:Int)>(25:Int)))&&(decide ((l.length:Int)≤(500:Int))))) hf rfl rfl rfl (RunV.pick rfl rfl rfl (by rw [hb1]; rfl)) ?_; clear hf a; intro a hf
      exact O.nil ⟨rfl,hf.to ⟨rfl,rfl,rfl,rfl,rfl,rfl,rfl,trivial⟩,hS⟩
    · have hb1p:=of_decide_eq_false hb1
      refine O.skipB hf rfl rfl rfl hb1 rfl ?_; clear hf a; intro a hf
      refine O.skipB hf rfl rfl rfl hb1 rfl ?_; clear hf a; intro a hf
      refine O.skipB hf rfl rfl rfl hb1 rfl ?_; clear hf a; intro a hf
      refine O.val (v:=.bool ((decide ((l.length:Int)>(25:Int)))&&(decide ((l.length:Int)≤(500:Int))))) hf rfl rfl rfl (RunV.pick rfl rfl rfl (by rw [hb1]; rfl)) ?_; clear hf a; intro a hf
      exact O.nil ⟨rfl,hf.to ⟨rfl,rfl,rfl,rfl,rfl,rfl,rfl,trivial⟩,hS⟩
  clear hf hS a; rintro a w ⟨hf,hS⟩
  refine O.val hf rfl rfl rfl (RunV.move rfl) ?_
  clear hf a; intro a hf
  refine O.cutN (l₁:=[9,10,11,12]) (l₂:=_) (fun a w=>Fr a 16 [] [(0,vl),(2,.bool false),(3,vl),(4,.int .i64 (l.length:Int)),(5,.bool (decide ((l.length:Int)>(25:Int)))),(6,.bool (decide ((l.length:Int)>(25:Int)))),(10,.bool ((decide ((l.length:Int)>(25:Int)))&&(decide ((l.length:Int)≤(500:Int))))),(11,.bool ((decide ((l.length:Int)>(25:Int)))&&(decide ((l.length:Int)≤(500:Int))))),(15,.bool (((decide ((l.length:Int)>(25:Int)))&&(decide ((l.length:Int)≤(500:Int))))||(decide ((l.length:Int)>(510:Int)))))]∧St w0 w noX [rdv 12 vl l.length (encs eC l)] []) rfl ?_ ?_
  · rcases Bool.eq_false_or_eq_true ((decide ((l.length:Int)>(25:Int)))&&(decide ((l.length:Int)≤(500:Int)))) with hb2 | hb2
    · have hb2p:=hb2
      try simp only [Bool.and_eq_true,Bool.or_eq_true,Bool.and_eq_false_iff,Bool.or_eq_false_iff,decide_eq_true_eq,decide_eq_false_iff_not,Bool.not_eq_true',Bool.not_eq_false',Bool.not_eq_true,Bool.not_eq_false,ne_eq] at hb2p
      refine O.skipB hf rfl rfl rfl hb2 rfl ?_; clear hf a; intro a hf
      refine O.skipB hf rfl rfl rfl hb2 rfl ?_; clear hf a; intro a hf
      refine O.skipB hf rfl rfl rfl hb2 rfl ?_; clear hf a; intro a hf
      refine O.val (v:=.bool (((decide ((l.length:Int)>(25:Int)))&&(decide ((l.length:Int)≤(500:Int))))||(decide ((l.length:Int)>(510:Int))))) hf rfl rfl rfl (RunV.pick rfl rfl rfl (by rw [hb2]; rfl)) ?_; clear hf a; intro a hf
      exact O.nil ⟨rfl,hf.to ⟨rfl,rfl,rfl,rfl,rfl,rfl,rfl,rfl,rfl,trivial⟩,hS⟩
    · have hb2p:=hb2
      try simp only [Bool.and_eq_true,Bool.or_eq_true,Bool.and_eq_false_iff,Bool.or_eq_false_iff,decide_eq_true_eq,decide_eq_false_iff_not,Bool.not_eq_true',Bool.not_eq_false',Bool.not_eq_true,Bool.not_eq_false,ne_eq] at hb2p
      refine O.gvalB (v:=vl) hf rfl rfl rfl hb2 rfl rfl (RunV.move rfl) ?_
      clear hf a; intro a hf
      refine O.gvalB (v:=.int .i64 (l.length:Int)) hf rfl rfl rfl hb2 rfl rfl (RunV.lenV (e:=26) (by simpa using T_elem_22) rfl (hS.rdAt (j:=0) rfl)) ?_
      clear hf a; intro a hf
      refine O.gvalB (v:=.bool (decide ((l.length:Int)>(510:Int)))) hf rfl rfl rfl hb2 rfl rfl (RunV.gtr rfl rfl) ?_
      clear hf a; intro a hf
      refine O.val (v:=.bool (((decide ((l.length:Int)>(25:Int)))&&(decide ((l.length:Int)≤(500:Int))))||(decide ((l.length:Int)>(510:Int))))) hf rfl rfl rfl (RunV.pick rfl rfl rfl (by rw [hb2]; rfl)) ?_; clear hf a; intro a hf
      exact O.nil ⟨rfl,hf.to ⟨rfl,rfl,rfl,rfl,rfl,rfl,rfl,rfl,rfl,trivial⟩,hS⟩
  clear hf hS a; rintro a w ⟨hf,hS⟩
  refine O.val hf rfl rfl rfl (RunV.assign rfl) ?_
  clear hf a; intro a hf
  refine O.nil ?_
  refine k_seq ?_
  replace hf:Fr a 16 [] [(2,.bool (((decide ((l.length:Int)>(25:Int)))&&(decide ((l.length:Int)≤(500:Int))))||(decide ((l.length:Int)>(510:Int)))))]:=hf.to ⟨rfl,trivial⟩
  refine W.ret ?_
  refine post1 hf rfl (ResOK.tmp rfl) ?_
  exact ⟨(),rfl,hS.sub (List.nil_sublist _) |>.noB⟩
end Go.Proofs.YtgakdmmmljdpjaaDoor

namespace Go.Proofs.YtgakdmmmljdpjaaDoor
open Go Go.SL
end Go.Proofs.YtgakdmmmljdpjaaDoor

namespace Go.SL
open Go
section
variable {T:Type} [Inhabited T] {P:Program} {w:World} {n:Nat} {ds:List Deferred} {L:List (Nat × Value)} {ty t:TypeId} {x:Operand} {v u:Value} {enc:T→List Value} {l:List T} {sz q j o:Nat}
theorem RunV.ldG2 (ha:tAgg P t=some false) (henc:∀ x,(enc x).length=sz) (hx:ev L x=some (ix v (j*sz+o))) (hr:rdOK (hp w) sz v l.length (encs enc l)) (hj:j<l.length) (ho:Nat.blt o sz=true) (hv:(enc (l.getD j default))[o]? = some u):RunV P n ds L (.load t x) ty w u w:=by
  have h0:l[j]? = some (l.getD j default):=by simp [List.getD_eq_getElem?_getD,List.getElem?_eq_getElem hj]
  exact RunV.ld1 ha hx hr (by rw [encs_get henc h0 (by simpa using ho)]; exact hv)
end
section
variable {l:List Ch} {S S2:List PG} {us:List Bool} {n k:Nat} {e:Int}
end
end Go.SL

namespace Go.Proofs.YtgakdmmmljdpjaaDoor
open Go Go.SL
end Go.Proofs.YtgakdmmmljdpjaaDoor

namespace Go.Proofs.YtgakdmmmljdpjaaDoor
open Go Go.SL
theorem C_ok_10:callOK Tryd.prog 10=true:=by kernel_rfl
theorem C_ok_11:callOK Tryd.prog 11=true:=by kernel_rfl
end Go.Proofs.YtgakdmmmljdpjaaDoor

namespace Go.SL
open Go
def whoM (l:List Ch) (d:Dg):Except Int PG :=
  match histM l with
  | .error e=>.error e
  | .ok (S,_)=>if okD d=true then (match findG S d with | none=>.error 6 | some p=>.ok p) else .error 8
def appM (l:List Ch) (c:Ch):Except Int (List PG × List Bool) :=
  match histM l with
  | .error e=>.error e
  | .ok _=>if okC c=true then histM (l++[c]) else .error 8
section
variable {l:List Ch} {d a b:Dg} {c:Ch} {e:Int} {p x y:PG} {S S2:List PG} {us us2:List Bool}
theorem appM_ok (h:appM l c=.ok (S2,us2)):∃ S us,histM l=.ok (S,us)∧okC c=true∧histM (l++[c])=.ok (S2,us2):=by
  unfold appM at h
  cases hm:histM l with
  | error e'=>rw [hm] at h; cases h
  | ok r =>
    obtain ⟨S,us⟩:=r
    rw [hm] at h
    simp only at h
    split at h
    · rename_i hc; exact ⟨S,us,rfl,hc,h⟩
    · cases h
def joinC (a b:Dg):Ch:=⟨2,a,b,0⟩
def sameP (x y:PG):Prop:=objP x=objP y∨(0<(objP x).1.num∧0<(objP y).1.num)
def cntC (As Bs:List PO):Nat:=(As.map fun x=>Bs.count x).sum
structure JoinedR (l:List Ch) (a b:Dg) (S S2:List PG) (x y z:PG):Prop where
  wz:whoM (l++[joinC a b]) a=.ok z
  wv:whoM (l++[joinC a b]) b=.ok z
  len:(sortDs z.1).length=(sortDs x.1).length+(sortDs y.1).length
  siz:S2.length+1=S.length
  cnt:cntC (objsM S) (objsM S2)+1=S2.length
end
end Go.SL

namespace Go.Proofs.YtgakdmmmljdpjaaDoor
open Go Go.SL
section
variable (vl:Value) (l:List Ch) (d:Dg) (c:Ch) (w0:World) (hG:Lent w0 ordA) (hl:rdOK (hp w0) 12 vl l.length (encs eC l)) (hfit:vfit vl)
include hG hl hfit
theorem applyE (hz:l.length≤1000) (e:Int) (h:appM l c=.error e):Ret Tryd.prog 11 #[vl,cV c] w0 (G:=Unit) (fun _=>.tuple #[.slice none 0 0,.int .i64 e]) (fun _ w=>St w0 w noX [] []):=by
  unfold appM at h
  cases hm:histM l with
  | error e'=>rw [hm] at h; cases h; exact apply_err vl l c w0 hG hl hfit e hm
  | ok r =>
    obtain ⟨S,us⟩:=r
    rw [hm] at h
    simp only at h
    cases hc:okC c with
    | false =>
      rw [hc,if_neg (by decide)] at h
      cases h
      exact apply_bad vl l c w0 hG hl hfit S us hm hc
    | true =>
      rw [hc,if_pos rfl] at h
      exact apply_err2 vl l c w0 hG hl hfit hz S us hm hc e h
theorem applyO (hz:l.length≤1000) (S2:List PG) (us2:List Bool) (h:appM l c=.ok (S2,us2)):Ret Tryd.prog 11 #[vl,cV c] w0 (G:=Value) (fun g=>.tuple #[g,.int .i64 0]) (fun g w=>St w0 w noX [] [slE 26 12 eC g (l++[c])]):=by
  obtain ⟨S,us,hm,hc,hm2⟩:=appM_ok h
  exact apply_ok vl l c w0 hG hl hfit hz S us hm hc S2 us2 hm2
end
end Go.Proofs.YtgakdmmmljdpjaaDoor
namespace Go.SL
open Go
def cntP (As Bs:List PO) (p:Nat):Nat:=cntC (As.take p) Bs
theorem prO_getD {os:List Ob} {k:Nat} (h:k<os.length):(os.map prO).getD k default=prO (os.getD k default):=by
  simp [List.getD_eq_getElem?_getD,List.getElem?_eq_getElem h]
end Go.SL

namespace Go.SL
open Go
theorem wfB {x:Int} (h:(Lit.int .u8 x).wf=true):0≤x∧x<256:=by
  simp only [Lit.wf,Bool.and_eq_true,decide_eq_true_eq] at h
  have h1:IntKind.u8.min=0:=rfl
  have h2:IntKind.u8.max=255:=rfl
  omega
def befN (d:Dg):Int:=if d.num=0 then 15396336 else d.num
def befM (a b:Dg):Int:=orM [cmpI (befN a) (befN b),cmpI a.yr b.yr,cmpI (IntKind.i64.wrap a.half) (IntKind.i64.wrap b.half),cmpI a.cyc b.cyc,cmpI (IntKind.i64.wrap a.sec) (IntKind.i64.wrap b.sec)]
def rD (d:Dg):Prop:=(0≤d.half∧d.half<256)∧0≤d.sec∧d.sec<256
def rC (c:Ch):Prop:=rD c.a∧rD c.b
theorem okD_num {d:Dg} (h:okD d=true):d.num=0∨(0<d.num∧d.num≤15396335):=by
  unfold okD at h
  split at h
  · simp only [Bool.and_eq_true,decide_eq_true_eq] at h
    exact .inr ⟨h.1.2,h.2⟩
  · rename_i hn
    exact .inl (by omega)
theorem cmpI_same (x:Int):cmpI x x=0:=by unfold cmpI; rw [if_neg (by omega),if_neg (by omega)]
theorem cmpI_l {x y:Int} (h:x<y):cmpI x y=-1:=if_pos h
theorem cmpI_g {x y:Int} (h:y<x):cmpI x y=1:=(if_neg (by omega)).trans (if_pos h)
theorem orM_0 {l:List Int}:orM (0::l)=orM l:=if_neg (by omega)
theorem orM_n {x:Int} {l:List Int} (h:x≠0):orM (x::l)=x:=if_pos h
theorem wrapB {x:Int} (h:0≤x∧x<256):IntKind.i64.wrap x=x:=by rw [IntKind.wrap_i64]; omega
theorem bef_cmp {a b:Dg} (ha:okD a=true) (hb:okD b=true) (ra:rD a) (rb:rD b):befM a b=cmpD a b:=by
  unfold befM cmpD befN
  rw [wrapB ra.1,wrapB rb.1,wrapB ra.2,wrapB rb.2]
  rcases okD_num ha with h1 | h1 <;> rcases okD_num hb with h2 | h2
  · rw [if_pos h1,if_pos h2,if_pos (by omega),if_pos (by omega),cmpI_same,h1,h2,cmpI_same]
    simp only [Int.neg_zero,orM_0]
  · rw [if_pos h1,if_neg (by omega),if_pos (by omega),if_neg (by omega),cmpI_g (show b.num<15396336 by omega),cmpI_l (show a.num<1 by omega),orM_n (by decide),orM_n (by decide)]
    rfl
  · rw [if_neg (by omega),if_pos h2,if_neg (by omega),if_pos (by omega),cmpI_l (show a.num<15396336 by omega),cmpI_g (show b.num<1 by omega),orM_n (by decide),orM_n (by decide)]
  · rw [if_neg (by omega),if_neg (by omega),if_neg (by omega),if_neg (by omega),cmpI_same]
    simp only [Int.neg_zero,orM_0]
theorem arr5 {a b c d e:Int} {j:Nat} (h:j<5):(#[.int .i64 a,.int .i64 b,.int .i64 c,.int .i64 d,.int .i64 e]:Array Value)[j]? = some (.int .i64 ([a,b,c,d,e].getD j 0)):=by
  rcases j with _ | _ | _ | _ | _ | j
  · rfl
  · rfl
  · rfl
  · rfl
  · rfl
  · omega
theorem bef_get {a b c d e a' b' c' d' e':Int} {j:Nat}:[cmpI a a',cmpI b b',cmpI c c',cmpI d d',cmpI e e'].getD j 0=cmpI ([a,b,c,d,e].getD j 0) ([a',b',c',d',e'].getD j 0):=by
  rcases j with _ | _ | _ | _ | _ | j <;> rfl
theorem bef_step {x y:List Int} {k:Nat} (h:∀ i,i<k→x.getD i 0=y.getD i 0) (h1:¬ x.getD k 0<y.getD k 0) (h2:¬ x.getD k 0>y.getD k 0):∀ i,i<k+1→x.getD i 0=y.getD i 0:=fun i hi=>by
  by_cases hik:i<k
  · exact h i hik
  · have:i=k:=by omega
    subst this; omega
section
variable {a b c d e a' b' c' d' e':Int} {k:Nat} (h:∀ i,i<k→[a,b,c,d,e].getD i 0=[a',b',c',d',e'].getD i 0)
include h
theorem bef_none (hk:5≤k):orM [cmpI a a',cmpI b b',cmpI c c',cmpI d d',cmpI e e']=0:=orM_none fun i hi=>by
  rw [bef_get,h i (by simp at hi; omega),cmpI_same]
theorem bef_hit (hk:k<5) (hn:cmpI ([a,b,c,d,e].getD k 0) ([a',b',c',d',e'].getD k 0)≠0):orM [cmpI a a',cmpI b b',cmpI c c',cmpI d d',cmpI e e']=cmpI ([a,b,c,d,e].getD k 0) ([a',b',c',d',e'].getD k 0):=by
  rw [orM_hit (k:=k) (fun i hi=>by rw [bef_get,h i hi,cmpI_same]) (by simpa using hk) (by rw [bef_get]; exact hn),bef_get]
theorem bef_lt (hk:k<5) (hl:[a,b,c,d,e].getD k 0<[a',b',c',d',e'].getD k 0):-1=orM [cmpI a a',cmpI b b',cmpI c c',cmpI d d',cmpI e e']:=by
  rw [bef_hit h hk (by rw [cmpI_l hl]; decide),cmpI_l hl]
theorem bef_gt (hk:k<5) (hl:[a,b,c,d,e].getD k 0>[a',b',c',d',e'].getD k 0):1=orM [cmpI a a',cmpI b b',cmpI c c',cmpI d d',cmpI e e']:=by
  rw [bef_hit h hk (by rw [cmpI_g hl]; decide),cmpI_g hl]
theorem bef_eq (hk:5≤k):0=orM [cmpI a a',cmpI b b',cmpI c c',cmpI d d',cmpI e e']:=(bef_none h hk).symm
end
end Go.SL
