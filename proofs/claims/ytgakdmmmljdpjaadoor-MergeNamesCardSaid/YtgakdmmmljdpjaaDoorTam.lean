/- Part of a proof: laws and walks. -/
import Derived.Test.YtgakdmmmljdpjaaDoorTal
import Derived.Test.YtgakdmmmljdpjaaDoorTae
set_option linter.unusedVariables false
set_option linter.unusedSimpArgs false
namespace Go.Proofs.YtgakdmmmljdpjaaDoor
open Go Go.SL
theorem C_ok_33:callOK Tryd.prog 33=true:=by kernel_rfl
set_option maxHeartbeats 400000 in
set_option maxRecDepth 4000 in
theorem cloneC_nil (k c:Nat) (w0:World) :
    Ret Tryd.prog 33 #[.slice none k c] w0 (G:=Unit) (fun _=>.slice none 0 0) (fun _ w=>St w0 w noX [] []):=by
  refine ret_of_W (lv:=[.slice none k c]) Tryd.func33 rfl rfl rfl (fun a hf=>?_)
  replace hf:Fr a 8 [] [(0,.slice none k c)]:=hf
  have hS:St w0 w0 noX [] []:=St.refl w0
  refine W.seq ?_
  refine W.regionL (l:=[0]) rfl ?_
  refine O.val hf rfl rfl rfl (RunV.assign rfl) ?_
  clear hf a; intro a hf
  refine O.nil ?_
  refine k_seq ?_
  refine W.seq ?_
  refine W.seq ?_
  refine W.regionL (l:=[0,1]) rfl ?_
  refine O.val hf rfl rfl rfl (RunV.move rfl) ?_
  clear hf a; intro a hf
  refine O.val hf rfl rfl rfl (RunV.eqNil1 T_elem_22 rfl rfl rfl) ?_
  clear hf a; intro a hf
  refine O.nil ?_
  refine k_seq ?_
  replace hf:Fr a 8 [] [(0,.slice none k c),(2,.slice none 0 0),(4,.bool true)]:=hf.to ⟨rfl,rfl,rfl,trivial⟩
  refine W.if_tt hf rfl ?_
  refine W.seq ?_
  refine W.regionL (l:=[0]) rfl ?_
  refine O.val hf rfl rfl rfl (RunV.assign rfl) ?_
  clear hf a; intro a hf
  refine O.nil ?_
  refine k_seq ?_
  replace hf:Fr a 8 [] [(0,.slice none k c),(2,.slice none 0 0)]:=hf.to ⟨rfl,rfl,trivial⟩
  refine W.ret ?_
  refine k_then_ret ?_
  refine post1 hf rfl (ResOK.tmp rfl) ?_
  exact ⟨(),rfl,hS.sub (List.nil_sublist _) |>.noB⟩
theorem cloneC_spec (vl:Value) (l:List Ch) (w0:World) (hfit:vfit vl) (hl:rdOK (hp w0) 12 vl l.length (encs eC l)) (hz:l.length≤1000000) :
    Ret Tryd.prog 33 #[vl] w0 (G:=Value) (fun g=>g) (fun g w=>St w0 w noX [] [slE 26 12 eC g l]):=by
  have hl2:=hl
  obtain ⟨_,_,A,c,rfl,h3⟩:=hl2
  cases A with
  | some ad=>exact cloneC_some _ l ad c w0 rfl hfit hl hz
  | none =>
    have h0:l=[]:=by
      cases l with
      | nil=>rfl
      | cons x t=>obtain ⟨a,_,_,_,h4,_⟩:=h3 (by simp); cases h4
    subst h0
    refine Calls.mono (cloneC_nil _ _ w0) fun e w' he=>?_
    obtain ⟨_,he,hR⟩:=he
    exact ⟨_,he,hR.nilSl 26 12⟩
set_option maxHeartbeats 400000 in
set_option maxRecDepth 4000 in
theorem apply_err2 (vl:Value) (l:List Ch) (c:Ch) (w0:World) (hG:Lent w0 ordA) (hl:rdOK (hp w0) 12 vl l.length (encs eC l)) (hfit:vfit vl) (hz:l.length≤1000) (S:List PG) (us:List Bool) (hm:histM l=.ok (S,us)) (hc:okC c=true) (e:Int) (hm2:histM (l++[c])=.error e) :
    Ret Tryd.prog 11 #[vl,.agg #[.int .u8 c.kind,.int .i64 c.a.num,.int .i64 c.a.yr,.int .u8 c.a.half,.int .u8 c.a.sec,.int .i64 c.a.cyc,.int .i64 c.b.num,.int .i64 c.b.yr,.int .u8 c.b.half,.int .u8 c.b.sec,.int .i64 c.b.cyc,.int .i64 c.n]] w0 (G:=Unit) (fun _=>.tuple #[.slice none 0 0,.int .i64 e]) (fun _ w=>St w0 w noX [] []):=by
  refine ret_of_W (lv:=[vl,.agg #[.int .u8 c.kind,.int .i64 c.a.num,.int .i64 c.a.yr,.int .u8 c.a.half,.int .u8 c.a.sec,.int .i64 c.a.cyc,.int .i64 c.b.num,.int .i64 c.b.yr,.int .u8 c.b.half,.int .u8 c.b.sec,.int .i64 c.b.cyc,.int .i64 c.n]]) Tryd.func11 rfl rfl rfl (fun a hf=>?_)
  replace hf:Fr a 43 [] [(0,vl),(1,.agg #[.int .u8 c.kind,.int .i64 c.a.num,.int .i64 c.a.yr,.int .u8 c.a.half,.int .u8 c.a.sec,.int .i64 c.a.cyc,.int .i64 c.b.num,.int .i64 c.b.yr,.int .u8 c.b.half,.int .u8 c.b.sec,.int .i64 c.b.cyc,.int .i64 c.n])]:=hf
  have hS:St w0 w0 noX [ordA,rdv 12 vl l.length (encs eC l)] []:=((St.refl w0).lend0 hl).lendA hG
  have hlm:=hl.2.1
  unfold maxLen at hlm
  have he0:=histM_ne hm2
  refine W.seq ?_
  refine W.regionL (l:=[0,1,2]) rfl ?_
  refine O.box (cs:=#[.int .u8 c.kind,.int .i64 c.a.num,.int .i64 c.a.yr,.int .u8 c.a.half,.int .u8 c.a.sec,.int .i64 c.a.cyc,.int .i64 c.b.num,.int .i64 c.b.yr,.int .u8 c.b.half,.int .u8 c.b.sec,.int .i64 c.b.cyc,.int .i64 c.n]) hf hS rfl rfl rfl rfl ?_
  clear hf hS a; intro b_c1 w a hbb_c1 hS hf
  refine O.val hf rfl rfl rfl (RunV.assign rfl) ?_
  clear hf a; intro a hf
  refine O.val hf rfl rfl rfl (RunV.assign rfl) ?_
  clear hf a; intro a hf
  refine O.nil ?_
  refine k_seq ?_
  replace hf:Fr a 43 [] [(0,vl),(3,.pointer (some ⟨b_c1,0,none⟩)),(4,.slice none 0 0),(5,.int .i64 0)]:=hf.to ⟨rfl,rfl,rfl,rfl,trivial⟩
  refine W.seq ?_
  refine W.seq ?_
  refine W.regionL (l:=[0,1,2,3,4,5,6,7,8]) rfl ?_
  refine O.val hf rfl rfl rfl (RunV.move rfl) ?_
  clear hf a; intro a hf
  refine O.callR hf rfl rfl rfl (RunE.call (av:=#[vl]) C_ok_32 rfl rfl rfl) (history_ok vl l _ (hS.bptO (i:=0) rfl) (hS.rdAt (j:=1) rfl) hfit hm) ?_
  clear hf a
  rintro ⟨uv,bm,kvs,gs⟩ w2 ⟨hS1,hI⟩ a hf
  replace hf:Fr a _ _ ((16,.tuple #[.map (some bm),uv,.int .i64 0])::_):=hf
  replace hS:=(hS.call hS1).eqM (N:=[stA 95 24 bm kvs gs,sl 4 1 uv us.length (bools us),pt b_c1 (.cells #[.int .u8 c.kind,.int .i64 c.a.num,.int .i64 c.a.yr,.int .u8 c.a.half,.int .u8 c.a.sec,.int .i64 c.a.cyc,.int .i64 c.b.num,.int .i64 c.b.yr,.int .u8 c.b.half,.int .u8 c.b.sec,.int .i64 c.b.cyc,.int .i64 c.n] 26 (0,0))]) rfl
  clear hS1
  refine O.val hf rfl rfl rfl (RunV.move rfl) ?_
  clear hf a; intro a hf
  refine O.val hf rfl rfl rfl (RunV.extract rfl rfl) ?_
  clear hf a; intro a hf
  refine O.val hf rfl rfl rfl (RunV.extract rfl rfl) ?_
  clear hf a; intro a hf
  refine O.val hf rfl rfl rfl (RunV.extract rfl rfl) ?_
  clear hf a; intro a hf
  refine O.val hf rfl rfl rfl (RunV.assign rfl) ?_
  clear hf a; intro a hf
  refine O.val hf rfl rfl rfl (RunV.assign rfl) ?_
  clear hf a; intro a hf
  refine O.val hf rfl rfl rfl (RunV.assign rfl) ?_
  clear hf a; intro a hf
  refine O.nil ?_
  refine k_seq ?_
  replace hf:Fr a 43 [] [(0,vl),(3,.pointer (some ⟨b_c1,0,none⟩)),(4,.slice none 0 0),(5,.int .i64 0),(8,.int .i64 0)]:=hf.to ⟨rfl,rfl,rfl,rfl,rfl,trivial⟩
  refine W.seq ?_
  refine W.regionL (l:=[0,1]) rfl ?_
  refine O.val hf rfl rfl rfl (RunV.move rfl) ?_
  clear hf a; intro a hf
  refine O.val hf rfl rfl rfl (RunV.toB (c:=false) (RunV.neq rfl rfl) (by decide)) ?_
  clear hf a; intro a hf
  refine O.nil ?_
  refine k_seq ?_
  replace hf:Fr a 43 [] [(0,vl),(3,.pointer (some ⟨b_c1,0,none⟩)),(4,.slice none 0 0),(5,.int .i64 0),(8,.int .i64 0),(21,.bool false)]:=hf.to ⟨rfl,rfl,rfl,rfl,rfl,rfl,trivial⟩
  refine W.if_ff hf rfl ?_
  refine W.skip ?_
  refine k_seq ?_
  replace hf:Fr a 43 [] [(0,vl),(3,.pointer (some ⟨b_c1,0,none⟩)),(4,.slice none 0 0),(5,.int .i64 0)]:=hf.to ⟨rfl,rfl,rfl,rfl,trivial⟩
  refine W.seq ?_
  refine W.seq ?_
  refine W.regionL (l:=[0,1,2]) rfl ?_
  refine O.val hf rfl rfl rfl (RunV.loadN (cs':=#[.int .u8 c.kind,.int .i64 c.a.num,.int .i64 c.a.yr,.int .u8 c.a.half,.int .u8 c.a.sec,.int .i64 c.a.cyc,.int .i64 c.b.num,.int .i64 c.b.yr,.int .u8 c.b.half,.int .u8 c.b.sec,.int .i64 c.b.cyc,.int .i64 c.n]) T_agg_26 T_size_26 rfl (hS.ptAt (i:=2) rfl) (Nat.le_of_ble_eq_true rfl) rfl) ?_
  clear hf a; intro a hf
  refine O.callR hf rfl rfl rfl (RunE.call (av:=#[.agg #[.int .u8 c.kind,.int .i64 c.a.num,.int .i64 c.a.yr,.int .u8 c.a.half,.int .u8 c.a.sec,.int .i64 c.a.cyc,.int .i64 c.b.num,.int .i64 c.b.yr,.int .u8 c.b.half,.int .u8 c.b.sec,.int .i64 c.b.cyc,.int .i64 c.n]]) C_ok_25 rfl rfl rfl) (checkC_ok c _ (hS.bptO (i:=0) rfl) hc) ?_
  clear hf a
  rintro _ w3 hS1 a hf
  replace hf:Fr a _ _ ((24,.int .i64 0)::_):=hf
  replace hS:=(hS.call hS1).eqM (N:=[stA 95 24 bm kvs gs,sl 4 1 uv us.length (bools us),pt b_c1 (.cells #[.int .u8 c.kind,.int .i64 c.a.num,.int .i64 c.a.yr,.int .u8 c.a.half,.int .u8 c.a.sec,.int .i64 c.a.cyc,.int .i64 c.b.num,.int .i64 c.b.yr,.int .u8 c.b.half,.int .u8 c.b.sec,.int .i64 c.b.cyc,.int .i64 c.n] 26 (0,0))]) rfl
  clear hS1
  refine O.val hf rfl rfl rfl (RunV.assign rfl) ?_
  clear hf a; intro a hf
  refine O.nil ?_
  refine k_seq ?_
  replace hf:Fr a 43 [] [(0,vl),(3,.pointer (some ⟨b_c1,0,none⟩)),(4,.slice none 0 0),(5,.int .i64 0),(9,.int .i64 0)]:=hf.to ⟨rfl,rfl,rfl,rfl,rfl,trivial⟩
  refine W.seq ?_
  refine W.regionL (l:=[0,1]) rfl ?_
  refine O.val hf rfl rfl rfl (RunV.move rfl) ?_
  clear hf a; intro a hf
  refine O.val hf rfl rfl rfl (RunV.toB (c:=false) (RunV.neq rfl rfl) (by decide)) ?_
  clear hf a; intro a hf
  refine O.nil ?_
  refine k_seq ?_
  replace hf:Fr a 43 [] [(0,vl),(3,.pointer (some ⟨b_c1,0,none⟩)),(4,.slice none 0 0),(5,.int .i64 0),(9,.int .i64 0),(26,.bool false)]:=hf.to ⟨rfl,rfl,rfl,rfl,rfl,rfl,trivial⟩
  refine W.if_ff hf rfl ?_
  refine W.skip ?_
  refine k_seq ?_
  replace hf:Fr a 43 [] [(0,vl),(3,.pointer (some ⟨b_c1,0,none⟩)),(4,.slice none 0 0),(5,.int .i64 0)]:=hf.to ⟨rfl,rfl,rfl,rfl,trivial⟩
  refine W.seq ?_
  have hf1:Fr a 43 [] []:=hf.to trivial
  replace hf:Fr a 43 [] [(0,vl),(3,.pointer (some ⟨b_c1,0,none⟩)),(4,.slice none 0 0),(5,.int .i64 0)]:=hf.to ⟨rfl,rfl,rfl,rfl,trivial⟩
  replace hS:=hS.drew
  replace hS:=hS.emp
  let LZ164:List (Nat × Value):=[(0,vl),(3,.pointer (some ⟨b_c1,0,none⟩)),(4,.slice none 0 0),(5,.int .i64 0)]
  let MZ164:List Asr:=[stA 95 24 bm kvs gs,sl 4 1 uv us.length (bools us),pt b_c1 (.cells #[.int .u8 c.kind,.int .i64 c.a.num,.int .i64 c.a.yr,.int .u8 c.a.half,.int .u8 c.a.sec,.int .i64 c.a.cyc,.int .i64 c.b.num,.int .i64 c.b.yr,.int .u8 c.b.half,.int .u8 c.b.sec,.int .i64 c.b.cyc,.int .i64 c.n] 26 (0,0))]
  refine W.drawC (γ:=(Nat) × (Value) × (Value)) (L0:=LZ164) (L1:=[]) (0,default,default) [1,4] [3] [0,2,5] (fun i=>match i with | 1=>[0] | 3=>[2] | 4=>[1,3] | 5=>[0,1,2,3,4] | _=>[]) (fun i=>match i with | 4=>[1,3] | 5=>[1,4,3] | _=>[]) (fun i=>match i with | 0=>[1,4] | 1=>[4] | 2=>[4] | 3=>[4] | _=>[]) (fun i=>match i with | 4=>[3] | 5=>[3] | _=>[]) (fun i=>match i with | 1=>[4,5] | 3=>[4,5] | 4=>[5] | _=>[]) (fun _=>[]) (fun i=>match i with | 4=>1 | 5=>2 | _=>0) (fun i=>match i with | 1=>1 | 2=>1 | 3=>1 | 4=>2 | 5=>2 | _=>0) (fun (g:(Nat) × (Value) × (Value)) j=>match g,j with | ⟨b_s4,cv,v6⟩,0=>vl | ⟨b_s4,cv,v6⟩,1=>cv | ⟨b_s4,cv,v6⟩,2=>.agg #[.int .u8 c.kind,.int .i64 c.a.num,.int .i64 c.a.yr,.int .u8 c.a.half,.int .u8 c.a.sec,.int .i64 c.a.cyc,.int .i64 c.b.num,.int .i64 c.b.yr,.int .u8 c.b.half,.int .u8 c.b.sec,.int .i64 c.b.cyc,.int .i64 c.n] | ⟨b_s4,cv,v6⟩,3=>.slice (some ⟨b_s4,0,none⟩) 1 1 | ⟨b_s4,cv,v6⟩,4=>v6 | ⟨b_s4,cv,v6⟩,5=>v6 | _,_=>undef) (fun k s (g:(Nat) × (Value) × (Value)) w=>match k,g with | 0,⟨b_s4,cv,v6⟩=>St w0 w noX [ordA,rdv 12 vl l.length (encs eC l)] (condA (s 3) (pt b_s4 (.cells #[.int .u8 c.kind,.int .i64 c.a.num,.int .i64 c.a.yr,.int .u8 c.a.half,.int .u8 c.a.sec,.int .i64 c.a.cyc,.int .i64 c.b.num,.int .i64 c.b.yr,.int .u8 c.b.half,.int .u8 c.b.sec,.int .i64 c.b.cyc,.int .i64 c.n] 26 (0,0)))::MZ164) | 1,⟨b_s4,cv,v6⟩=>St w0 w noX [ordA,rdv 12 vl l.length (encs eC l)] (sl 26 12 cv l.length (encs eC l)::condA (s 3) (pt b_s4 (.cells #[.int .u8 c.kind,.int .i64 c.a.num,.int .i64 c.a.yr,.int .u8 c.a.half,.int .u8 c.a.sec,.int .i64 c.a.cyc,.int .i64 c.b.num,.int .i64 c.b.yr,.int .u8 c.b.half,.int .u8 c.b.sec,.int .i64 c.b.cyc,.int .i64 c.n] 26 (0,0)))::MZ164) | _,⟨b_s4,cv,v6⟩=>St w0 w noX [ordA,rdv 12 vl l.length (encs eC l)] (sl 26 12 v6 ((l++[c]).length) (encs eC (l++[c]))::pt b_s4 (.cells #[.int .u8 c.kind,.int .i64 c.a.num,.int .i64 c.a.yr,.int .u8 c.a.half,.int .u8 c.a.sec,.int .i64 c.a.cyc,.int .i64 c.b.num,.int .i64 c.b.yr,.int .u8 c.b.half,.int .u8 c.b.sec,.int .i64 c.b.cyc,.int .i64 c.n] 26 (0,0))::MZ164)) P_mixed (by kernel_rfl) (by kernel_rfl) (by kernel_rfl) hf hf1 hS ?_ ?_ ?_ ?_
  · clear hf hf1 hS
    refine ⟨?_,?_,?_,trivial⟩
    · intro k s g w h1_ h2_ hsp hD a hf
      obtain ⟨b_s4,cv,v6⟩:=g
      rcases k with _ | k
      · have hS:St w0 w noX [ordA,rdv 12 vl l.length (encs eC l)] (condA (s 3) (pt b_s4 (.cells #[.int .u8 c.kind,.int .i64 c.a.num,.int .i64 c.a.yr,.int .u8 c.a.half,.int .u8 c.a.sec,.int .i64 c.a.cyc,.int .i64 c.b.num,.int .i64 c.b.yr,.int .u8 c.b.half,.int .u8 c.b.sec,.int .i64 c.b.cyc,.int .i64 c.n] 26 (0,0)))::MZ164):=hD;
        replace hf:Fr a 43 [] LZ164:=hf
        refine O.val hf rfl rfl rfl (RunV.move rfl) ?_
        clear hf a; intro a hf
        exact O.nil ⟨rfl,hf.to trivial,(gt (d:=28) hf rfl rfl),hD⟩
      · exact absurd h2_ (by simp)
    · intro k s g w h1_ h2_ hsp hD a hf
      obtain ⟨b_s4,cv,v6⟩:=g
      rcases k with _ | _ | k
      · have hS:St w0 w noX [ordA,rdv 12 vl l.length (encs eC l)] (condA (s 3) (pt b_s4 (.cells #[.int .u8 c.kind,.int .i64 c.a.num,.int .i64 c.a.yr,.int .u8 c.a.half,.int .u8 c.a.sec,.int .i64 c.a.cyc,.int .i64 c.b.num,.int .i64 c.b.yr,.int .u8 c.b.half,.int .u8 c.b.sec,.int .i64 c.b.cyc,.int .i64 c.n] 26 (0,0)))::MZ164):=hD;
        replace hf:Fr a 43 [] LZ164:=hf
        refine O.val hf rfl rfl rfl (RunV.loadN (cs':=#[.int .u8 c.kind,.int .i64 c.a.num,.int .i64 c.a.yr,.int .u8 c.a.half,.int .u8 c.a.sec,.int .i64 c.a.cyc,.int .i64 c.b.num,.int .i64 c.b.yr,.int .u8 c.b.half,.int .u8 c.b.sec,.int .i64 c.b.cyc,.int .i64 c.n]) T_agg_26 T_size_26 rfl (hS.ptAt (i:=3) rfl) (Nat.le_of_ble_eq_true rfl) rfl) ?_
        clear hf a; intro a hf
        exact O.nil ⟨rfl,hf.to trivial,(gt (d:=30) hf rfl rfl),hD⟩
      · have hS:St w0 w noX [ordA,rdv 12 vl l.length (encs eC l)] (sl 26 12 cv l.length (encs eC l)::condA (s 3) (pt b_s4 (.cells #[.int .u8 c.kind,.int .i64 c.a.num,.int .i64 c.a.yr,.int .u8 c.a.half,.int .u8 c.a.sec,.int .i64 c.a.cyc,.int .i64 c.b.num,.int .i64 c.b.yr,.int .u8 c.b.half,.int .u8 c.b.sec,.int .i64 c.b.cyc,.int .i64 c.n] 26 (0,0)))::MZ164):=hD;
        replace hf:Fr a 43 [] LZ164:=hf
        refine O.val hf rfl rfl rfl (RunV.loadN (cs':=#[.int .u8 c.kind,.int .i64 c.a.num,.int .i64 c.a.yr,.int .u8 c.a.half,.int .u8 c.a.sec,.int .i64 c.a.cyc,.int .i64 c.b.num,.int .i64 c.b.yr,.int .u8 c.b.half,.int .u8 c.b.sec,.int .i64 c.b.cyc,.int .i64 c.n]) T_agg_26 T_size_26 rfl (hS.ptAt (i:=4) rfl) (Nat.le_of_ble_eq_true rfl) rfl) ?_
        clear hf a; intro a hf
        exact O.nil ⟨rfl,hf.to trivial,(gt (d:=30) hf rfl rfl),hD⟩
      · exact absurd h2_ (by simp)
    · intro k s g w h1_ h2_ hsp hD a hf
      obtain ⟨b_s4,cv,v6⟩:=g
      rcases k with _ | _ | _ | k
      · exact absurd h1_ (by decide)
      · exact absurd h1_ (by decide)
      · have ha_:s 3=true:=hsp 3 (by simp)
        have hS:St w0 w noX [ordA,rdv 12 vl l.length (encs eC l)] (sl 26 12 v6 ((l++[c]).length) (encs eC (l++[c]))::pt b_s4 (.cells #[.int .u8 c.kind,.int .i64 c.a.num,.int .i64 c.a.yr,.int .u8 c.a.half,.int .u8 c.a.sec,.int .i64 c.a.cyc,.int .i64 c.b.num,.int .i64 c.b.yr,.int .u8 c.b.half,.int .u8 c.b.sec,.int .i64 c.b.cyc,.int .i64 c.n] 26 (0,0))::MZ164):=hD;
        replace hS:St w0 w noX [ordA,rdv 12 vl l.length (encs eC l)] (sl 26 12 v6 ((l++[c]).length) (encs eC (l++[c]))::pt b_s4 (.cells #[.int .u8 c.kind,.int .i64 c.a.num,.int .i64 c.a.yr,.int .u8 c.a.half,.int .u8 c.a.sec,.int .i64 c.a.cyc,.int .i64 c.b.num,.int .i64 c.b.yr,.int .u8 c.b.half,.int .u8 c.b.sec,.int .i64 c.b.cyc,.int .i64 c.n] 26 (0,0))::MZ164):=hS
        replace hf:Fr a 43 [] ((28,vl)::(29,cv)::(30,.agg #[.int .u8 c.kind,.int .i64 c.a.num,.int .i64 c.a.yr,.int .u8 c.a.half,.int .u8 c.a.sec,.int .i64 c.a.cyc,.int .i64 c.b.num,.int .i64 c.b.yr,.int .u8 c.b.half,.int .u8 c.b.sec,.int .i64 c.b.cyc,.int .i64 c.n])::(31,.slice (some ⟨b_s4,0,none⟩) 1 1)::(32,v6)::LZ164):=hf
        refine O.val hf rfl rfl rfl (RunV.assign rfl) ?_
        clear hf a; intro a hf
        exact O.nil ⟨rfl,hf.to trivial,(gt (d:=10) hf rfl rfl),hD⟩
      · exact absurd h2_ (by simp)
  · clear hf hf1 hS
    refine ⟨?_,?_,trivial⟩
    · intro s g w hsp hD a hf
      obtain ⟨b_s4,cv,v6⟩:=g
      have hS:St w0 w noX [ordA,rdv 12 vl l.length (encs eC l)] (condA (s 3) (pt b_s4 (.cells #[.int .u8 c.kind,.int .i64 c.a.num,.int .i64 c.a.yr,.int .u8 c.a.half,.int .u8 c.a.sec,.int .i64 c.a.cyc,.int .i64 c.b.num,.int .i64 c.b.yr,.int .u8 c.b.half,.int .u8 c.b.sec,.int .i64 c.b.cyc,.int .i64 c.n] 26 (0,0)))::MZ164):=hD;
      replace hf:Fr a 43 [] ((28,vl)::LZ164):=hf
      clear hD
      refine O.callR hf rfl rfl rfl (RunE.call (av:=#[vl]) C_ok_33 rfl rfl rfl) (cloneC_spec vl l _ hfit (hS.rdAt (j:=1) rfl) (by omega)) ?_
      clear hf a
      rintro cv w7 hS1 a hf
      replace hf:Fr a _ _ ((29,cv)::_):=hf
      replace hS:=(hS.call hS1).eqM (N:=(sl 26 12 cv l.length (encs eC l)::condA (s 3) (pt b_s4 (.cells #[.int .u8 c.kind,.int .i64 c.a.num,.int .i64 c.a.yr,.int .u8 c.a.half,.int .u8 c.a.sec,.int .i64 c.a.cyc,.int .i64 c.b.num,.int .i64 c.b.yr,.int .u8 c.b.half,.int .u8 c.b.sec,.int .i64 c.b.cyc,.int .i64 c.n] 26 (0,0)))::MZ164)) rfl
      clear hS1
      exact O.nil ⟨rfl,(b_s4,cv,v6),hf.to trivial,(gt (d:=29) hf rfl rfl),(fun j_ hj_ ha_=>match j_,hj_,ha_ with | 0,hj_,ha_=>rfl | 1,hj_,ha_=>absurd rfl hj_ | 2,hj_,ha_=>rfl | 3,hj_,ha_=>rfl | 4,hj_,ha_=>absurd ha_ (by decide) | 5,hj_,ha_=>absurd ha_ (by decide) | _+6,_,_=>rfl),hS⟩
    · intro s g w hsp hD a hf
      obtain ⟨b_s4,cv,v6⟩:=g
      have ha_:s 3=true:=hsp 3 (by simp)
      have hS:St w0 w noX [ordA,rdv 12 vl l.length (encs eC l)] (sl 26 12 cv l.length (encs eC l)::condA (s 3) (pt b_s4 (.cells #[.int .u8 c.kind,.int .i64 c.a.num,.int .i64 c.a.yr,.int .u8 c.a.half,.int .u8 c.a.sec,.int .i64 c.a.cyc,.int .i64 c.b.num,.int .i64 c.b.yr,.int .u8 c.b.half,.int .u8 c.b.sec,.int .i64 c.b.cyc,.int .i64 c.n] 26 (0,0)))::MZ164):=hD; rw [ha_] at hS
      replace hS:St w0 w noX [ordA,rdv 12 vl l.length (encs eC l)] (sl 26 12 cv l.length (encs eC l)::pt b_s4 (.cells #[.int .u8 c.kind,.int .i64 c.a.num,.int .i64 c.a.yr,.int .u8 c.a.half,.int .u8 c.a.sec,.int .i64 c.a.cyc,.int .i64 c.b.num,.int .i64 c.b.yr,.int .u8 c.b.half,.int .u8 c.b.sec,.int .i64 c.b.cyc,.int .i64 c.n] 26 (0,0))::MZ164):=hS
      replace hf:Fr a 43 [] ((29,cv)::(31,.slice (some ⟨b_s4,0,none⟩) 1 1)::LZ164):=hf
      clear hD
      refine O.append1 (j:=0) (jj:=1) hf hS rfl rfl T_elem_22 T_size_26 T_bytes_26 T_zero_26 rfl rfl rfl rfl rfl rfl rfl rfl (by unfold maxLen; omega) (by omega) ?_
      clear hf hS a; intro v8 w a hS hf
      replace hS:=hS.eqM (N:=(sl 26 12 v8 (l.length+1) (encs eC l++[.int .u8 c.kind,.int .i64 c.a.num,.int .i64 c.a.yr,.int .u8 c.a.half,.int .u8 c.a.sec,.int .i64 c.a.cyc,.int .i64 c.b.num,.int .i64 c.b.yr,.int .u8 c.b.half,.int .u8 c.b.sec,.int .i64 c.b.cyc,.int .i64 c.n])::pt b_s4 (.cells #[.int .u8 c.kind,.int .i64 c.a.num,.int .i64 c.a.yr,.int .u8 c.a.half,.int .u8 c.a.sec,.int .i64 c.a.cyc,.int .i64 c.b.num,.int .i64 c.b.yr,.int .u8 c.b.half,.int .u8 c.b.sec,.int .i64 c.b.cyc,.int .i64 c.n] 26 (0,0))::MZ164)) rfl
      replace hS:=hS.reE (i:=0) (M':=(sl 26 12 v8 ((l++[c]).length) (encs eC (l++[c]))::pt b_s4 (.cells #[.int .u8 c.kind,.int .i64 c.a.num,.int .i64 c.a.yr,.int .u8 c.a.half,.int .u8 c.a.sec,.int .i64 c.a.cyc,.int .i64 c.b.num,.int .i64 c.b.yr,.int .u8 c.b.half,.int .u8 c.b.sec,.int .i64 c.b.cyc,.int .i64 c.n] 26 (0,0))::MZ164)) rfl (sl_snoc (enc:=eC) (l:=l) (x:=c)) rfl
      exact O.nil ⟨rfl,(b_s4,cv,v8),hf.to trivial,(gt (d:=32) hf rfl rfl),(fun j_ hj_ ha_=>match j_,hj_,ha_ with | 0,hj_,ha_=>rfl | 1,hj_,ha_=>rfl | 2,hj_,ha_=>rfl | 3,hj_,ha_=>rfl | 4,hj_,ha_=>absurd rfl hj_ | 5,hj_,ha_=>absurd ha_ (by decide) | _+6,_,_=>rfl),hS⟩
  · clear hf hf1 hS
    refine ⟨?_,trivial⟩
    intro k s g w h1_ h2_ hs0 hD a hf
    obtain ⟨b_s4,cv,v6⟩:=g
    rcases k with _ | _ | k
    · have hS:St w0 w noX [ordA,rdv 12 vl l.length (encs eC l)] (condA (s 3) (pt b_s4 (.cells #[.int .u8 c.kind,.int .i64 c.a.num,.int .i64 c.a.yr,.int .u8 c.a.half,.int .u8 c.a.sec,.int .i64 c.a.cyc,.int .i64 c.b.num,.int .i64 c.b.yr,.int .u8 c.b.half,.int .u8 c.b.sec,.int .i64 c.b.cyc,.int .i64 c.n] 26 (0,0)))::MZ164):=hD; clear hD
      replace hf:Fr a 43 [] ((30,.agg #[.int .u8 c.kind,.int .i64 c.a.num,.int .i64 c.a.yr,.int .u8 c.a.half,.int .u8 c.a.sec,.int .i64 c.a.cyc,.int .i64 c.b.num,.int .i64 c.b.yr,.int .u8 c.b.half,.int .u8 c.b.sec,.int .i64 c.b.cyc,.int .i64 c.n])::LZ164):=hf
      refine O.buildC (j:=0) (cs':=#[.int .u8 c.kind,.int .i64 c.a.num,.int .i64 c.a.yr,.int .u8 c.a.half,.int .u8 c.a.sec,.int .i64 c.a.cyc,.int .i64 c.b.num,.int .i64 c.b.yr,.int .u8 c.b.half,.int .u8 c.b.sec,.int .i64 c.b.cyc,.int .i64 c.n]) (zs:=#[.int .u8 0,.int .i64 0,.int .i64 0,.int .u8 0,.int .u8 0,.int .i64 0,.int .i64 0,.int .i64 0,.int .u8 0,.int .u8 0,.int .i64 0,.int .i64 0]) hf hS rfl hs0 rfl rfl T_elem_22 T_size_26 T_zero_26 rfl rfl (by kernel_rfl) rfl (by kernel_rfl) ?_; clear hf hS a; intro b_s9 w a hS hf
      exact O.nil ⟨rfl,(b_s9,cv,v6),hf.to trivial,(gt (d:=31) hf rfl rfl),(fun j_ hj_ ha_=>match j_,hj_,ha_ with | 0,hj_,ha_=>rfl | 1,hj_,ha_=>rfl | 2,hj_,ha_=>rfl | 3,hj_,ha_=>absurd rfl hj_ | 4,hj_,ha_=>absurd ha_ (by decide) | 5,hj_,ha_=>absurd ha_ (by decide) | _+6,_,_=>rfl),hS⟩
    · have hS:St w0 w noX [ordA,rdv 12 vl l.length (encs eC l)] (sl 26 12 cv l.length (encs eC l)::condA (s 3) (pt b_s4 (.cells #[.int .u8 c.kind,.int .i64 c.a.num,.int .i64 c.a.yr,.int .u8 c.a.half,.int .u8 c.a.sec,.int .i64 c.a.cyc,.int .i64 c.b.num,.int .i64 c.b.yr,.int .u8 c.b.half,.int .u8 c.b.sec,.int .i64 c.b.cyc,.int .i64 c.n] 26 (0,0)))::MZ164):=hD; clear hD
      replace hf:Fr a 43 [] ((30,.agg #[.int .u8 c.kind,.int .i64 c.a.num,.int .i64 c.a.yr,.int .u8 c.a.half,.int .u8 c.a.sec,.int .i64 c.a.cyc,.int .i64 c.b.num,.int .i64 c.b.yr,.int .u8 c.b.half,.int .u8 c.b.sec,.int .i64 c.b.cyc,.int .i64 c.n])::LZ164):=hf
      refine O.buildC (j:=1) (cs':=#[.int .u8 c.kind,.int .i64 c.a.num,.int .i64 c.a.yr,.int .u8 c.a.half,.int .u8 c.a.sec,.int .i64 c.a.cyc,.int .i64 c.b.num,.int .i64 c.b.yr,.int .u8 c.b.half,.int .u8 c.b.sec,.int .i64 c.b.cyc,.int .i64 c.n]) (zs:=#[.int .u8 0,.int .i64 0,.int .i64 0,.int .u8 0,.int .u8 0,.int .i64 0,.int .i64 0,.int .i64 0,.int .u8 0,.int .u8 0,.int .i64 0,.int .i64 0]) hf hS rfl hs0 rfl rfl T_elem_22 T_size_26 T_zero_26 rfl rfl (by kernel_rfl) rfl (by kernel_rfl) ?_; clear hf hS a; intro b_s10 w a hS hf
      exact O.nil ⟨rfl,(b_s10,cv,v6),hf.to trivial,(gt (d:=31) hf rfl rfl),(fun j_ hj_ ha_=>match j_,hj_,ha_ with | 0,hj_,ha_=>rfl | 1,hj_,ha_=>rfl | 2,hj_,ha_=>rfl | 3,hj_,ha_=>absurd rfl hj_ | 4,hj_,ha_=>absurd ha_ (by decide) | 5,hj_,ha_=>absurd ha_ (by decide) | _+6,_,_=>rfl),hS⟩
    · exact absurd h2_ (by simp)
  clear hf hf1 hS; intro s g a w hs_ hf hD
  obtain ⟨b_s4,cv,v6⟩:=g
  have ha_:s 3=true:=hs_ 3 (by simp)
  have hS:St w0 w noX [ordA,rdv 12 vl l.length (encs eC l)] (sl 26 12 v6 ((l++[c]).length) (encs eC (l++[c]))::pt b_s4 (.cells #[.int .u8 c.kind,.int .i64 c.a.num,.int .i64 c.a.yr,.int .u8 c.a.half,.int .u8 c.a.sec,.int .i64 c.a.cyc,.int .i64 c.b.num,.int .i64 c.b.yr,.int .u8 c.b.half,.int .u8 c.b.sec,.int .i64 c.b.cyc,.int .i64 c.n] 26 (0,0))::MZ164):=hD; clear hD
  replace hf:Fr a 43 [] ((28,vl)::(29,cv)::(30,.agg #[.int .u8 c.kind,.int .i64 c.a.num,.int .i64 c.a.yr,.int .u8 c.a.half,.int .u8 c.a.sec,.int .i64 c.a.cyc,.int .i64 c.b.num,.int .i64 c.b.yr,.int .u8 c.b.half,.int .u8 c.b.sec,.int .i64 c.b.cyc,.int .i64 c.n])::(31,.slice (some ⟨b_s4,0,none⟩) 1 1)::(32,v6)::(10,v6)::LZ164):=hf
  refine k_seq ?_
  replace hf:Fr a 43 [] [(4,.slice none 0 0),(5,.int .i64 0),(10,v6)]:=hf.to ⟨rfl,rfl,rfl,trivial⟩
  refine W.seq ?_
  refine W.seq ?_
  refine W.regionL (l:=[0,1,2,3,4,5,6,7,8]) rfl ?_
  refine O.val hf rfl rfl rfl (RunV.move rfl) ?_
  clear hf a; intro a hf
  refine O.callR hf rfl rfl rfl (RunE.call (av:=#[v6]) C_ok_32 rfl rfl rfl) (history_err v6 (l++[c]) _ (hS.bptO (i:=0) rfl) (hS.slr (j:=0) rfl) (slOK.fit (hS.slAt (j:=0) rfl)) hm2) ?_
  clear hf a
  rintro _ w11 hS1 a hf
  replace hf:Fr a _ _ ((35,.tuple #[.map none,(.slice none 0 0),.int .i64 e])::_):=hf
  replace hS:=(hS.call hS1).eqM (N:=(sl 26 12 v6 ((l++[c]).length) (encs eC (l++[c]))::pt b_s4 (.cells #[.int .u8 c.kind,.int .i64 c.a.num,.int .i64 c.a.yr,.int .u8 c.a.half,.int .u8 c.a.sec,.int .i64 c.a.cyc,.int .i64 c.b.num,.int .i64 c.b.yr,.int .u8 c.b.half,.int .u8 c.b.sec,.int .i64 c.b.cyc,.int .i64 c.n] 26 (0,0))::MZ164)) rfl
  clear hS1
  refine O.val hf rfl rfl rfl (RunV.move rfl) ?_
  clear hf a; intro a hf
  refine O.val hf rfl rfl rfl (RunV.extract rfl rfl) ?_
  clear hf a; intro a hf
  refine O.val hf rfl rfl rfl (RunV.extract rfl rfl) ?_
  clear hf a; intro a hf
  refine O.val hf rfl rfl rfl (RunV.extract rfl rfl) ?_
  clear hf a; intro a hf
  refine O.val hf rfl rfl rfl (RunV.assign rfl) ?_
  clear hf a; intro a hf
  refine O.val hf rfl rfl rfl (RunV.assign rfl) ?_
  clear hf a; intro a hf
  refine O.val hf rfl rfl rfl (RunV.assign rfl) ?_
  clear hf a; intro a hf
  refine O.nil ?_
  refine k_seq ?_
  replace hf:Fr a 43 [] [(4,.slice none 0 0),(5,.int .i64 0),(10,v6),(13,.int .i64 e)]:=hf.to ⟨rfl,rfl,rfl,rfl,trivial⟩
  refine W.seq ?_
  refine W.regionL (l:=[0,1]) rfl ?_
  refine O.val hf rfl rfl rfl (RunV.move rfl) ?_
  clear hf a; intro a hf
  refine O.val (v:=.bool (decide (e≠(0:Int)))) hf rfl rfl rfl (RunV.neq rfl rfl) ?_
  clear hf a; intro a hf
  refine O.nil ?_
  refine k_seq ?_
  replace hf:Fr a 43 [] [(4,.slice none 0 0),(5,.int .i64 0),(10,v6),(13,.int .i64 e),(40,.bool (decide (e≠(0:Int))))]:=hf.to ⟨rfl,rfl,rfl,rfl,rfl,trivial⟩
  refine W.ifdI hf rfl (fun h1=>?_) (fun h1=>?_)
  · refine W.seq ?_
    refine W.regionL (l:=[0,1,2]) rfl ?_
    refine O.val hf rfl rfl rfl (RunV.move rfl) ?_
    clear hf a; intro a hf
    refine O.val hf rfl rfl rfl (RunV.assign rfl) ?_
    clear hf a; intro a hf
    refine O.val hf rfl rfl rfl (RunV.assign rfl) ?_
    clear hf a; intro a hf
    refine O.nil ?_
    refine k_seq ?_
    replace hf:Fr a 43 [] [(4,.slice none 0 0),(5,.int .i64 e),(10,v6)]:=hf.to ⟨rfl,rfl,rfl,trivial⟩
    refine W.ret ?_
    refine k_then_ret ?_
    refine post2 hf rfl (ResOK.tmp rfl) (ResOK.tmp rfl) ?_
    first
      | exact absurd he0 h1
      | exact ⟨(),rfl,hS.sub (List.nil_sublist _) |>.noB⟩
  · refine W.skip ?_
    refine k_seq ?_
    replace hf:Fr a 43 [] [(4,.slice none 0 0),(5,.int .i64 0),(10,v6)]:=hf.to ⟨rfl,rfl,rfl,trivial⟩
    refine W.seq ?_
    refine W.regionL (l:=[0,1,2]) rfl ?_
    refine O.val hf rfl rfl rfl (RunV.move rfl) ?_
    clear hf a; intro a hf
    refine O.val hf rfl rfl rfl (RunV.assign rfl) ?_
    clear hf a; intro a hf
    refine O.val hf rfl rfl rfl (RunV.assign rfl) ?_
    clear hf a; intro a hf
    refine O.nil ?_
    refine k_seq ?_
    replace hf:Fr a 43 [] [(4,v6),(5,.int .i64 0)]:=hf.to ⟨rfl,rfl,trivial⟩
    refine W.ret ?_
    refine post2 hf rfl (ResOK.tmp rfl) (ResOK.tmp rfl) ?_
    first
      | exact absurd he0 h1
      | exact ⟨(),rfl,hS.sub (List.nil_sublist _) |>.noB⟩
set_option maxHeartbeats 400000 in
set_option maxRecDepth 4000 in
theorem apply_ok (vl:Value) (l:List Ch) (c:Ch) (w0:World) (hG:Lent w0 ordA) (hl:rdOK (hp w0) 12 vl l.length (encs eC l)) (hfit:vfit vl) (hz:l.length≤1000) (S:List PG) (us:List Bool) (hm:histM l=.ok (S,us)) (hc:okC c=true) (S2:List PG) (us2:List Bool) (hm2:histM (l++[c])=.ok (S2,us2)) :
    Ret Tryd.prog 11 #[vl,.agg #[.int .u8 c.kind,.int .i64 c.a.num,.int .i64 c.a.yr,.int .u8 c.a.half,.int .u8 c.a.sec,.int .i64 c.a.cyc,.int .i64 c.b.num,.int .i64 c.b.yr,.int .u8 c.b.half,.int .u8 c.b.sec,.int .i64 c.b.cyc,.int .i64 c.n]] w0 (G:=Value) (fun g=>.tuple #[g,.int .i64 0]) (fun g w=>St w0 w noX [] [slE 26 12 eC g (l++[c])]):=by
  refine ret_of_W (lv:=[vl,.agg #[.int .u8 c.kind,.int .i64 c.a.num,.int .i64 c.a.yr,.int .u8 c.a.half,.int .u8 c.a.sec,.int .i64 c.a.cyc,.int .i64 c.b.num,.int .i64 c.b.yr,.int .u8 c.b.half,.int .u8 c.b.sec,.int .i64 c.b.cyc,.int .i64 c.n]]) Tryd.func11 rfl rfl rfl (fun a hf=>?_)
  replace hf:Fr a 43 [] [(0,vl),(1,.agg #[.int .u8 c.kind,.int .i64 c.a.num,.int .i64 c.a.yr,.int .u8 c.a.half,.int .u8 c.a.sec,.int .i64 c.a.cyc,.int .i64 c.b.num,.int .i64 c.b.yr,.int .u8 c.b.half,.int .u8 c.b.sec,.int .i64 c.b.cyc,.int .i64 c.n])]:=hf
  have hS:St w0 w0 noX [ordA,rdv 12 vl l.length (encs eC l)] []:=((St.refl w0).lend0 hl).lendA hG
  have hlm:=hl.2.1
  unfold maxLen at hlm
  refine W.seq ?_
  refine W.regionL (l:=[0,1,2]) rfl ?_
  refine O.box (cs:=#[.int .u8 c.kind,.int .i64 c.a.num,.int .i64 c.a.yr,.int .u8 c.a.half,.int .u8 c.a.sec,.int .i64 c.a.cyc,.int .i64 c.b.num,.int .i64 c.b.yr,.int .u8 c.b.half,.int .u8 c.b.sec,.int .i64 c.b.cyc,.int .i64 c.n]) hf hS rfl rfl rfl rfl ?_
  clear hf hS a; intro b_c1 w a hbb_c1 hS hf
  refine O.val hf rfl rfl rfl (RunV.assign rfl) ?_
  clear hf a; intro a hf
  refine O.val hf rfl rfl rfl (RunV.assign rfl) ?_
  clear hf a; intro a hf
  refine O.nil ?_
  refine k_seq ?_
  replace hf:Fr a 43 [] [(0,vl),(3,.pointer (some ⟨b_c1,0,none⟩)),(4,.slice none 0 0),(5,.int .i64 0)]:=hf.to ⟨rfl,rfl,rfl,rfl,trivial⟩
  refine W.seq ?_
  refine W.seq ?_
  refine W.regionL (l:=[0,1,2,3,4,5,6,7,8]) rfl ?_
  refine O.val hf rfl rfl rfl (RunV.move rfl) ?_
  clear hf a; intro a hf
  refine O.callR hf rfl rfl rfl (RunE.call (av:=#[vl]) C_ok_32 rfl rfl rfl) (history_ok vl l _ (hS.bptO (i:=0) rfl) (hS.rdAt (j:=1) rfl) hfit hm) ?_
  clear hf a
  rintro ⟨uv,bm,kvs,gs⟩ w2 ⟨hS1,hI⟩ a hf
  replace hf:Fr a _ _ ((16,.tuple #[.map (some bm),uv,.int .i64 0])::_):=hf
  replace hS:=(hS.call hS1).eqM (N:=[stA 95 24 bm kvs gs,sl 4 1 uv us.length (bools us),pt b_c1 (.cells #[.int .u8 c.kind,.int .i64 c.a.num,.int .i64 c.a.yr,.int .u8 c.a.half,.int .u8 c.a.sec,.int .i64 c.a.cyc,.int .i64 c.b.num,.int .i64 c.b.yr,.int .u8 c.b.half,.int .u8 c.b.sec,.int .i64 c.b.cyc,.int .i64 c.n] 26 (0,0))]) rfl
  clear hS1
  refine O.val hf rfl rfl rfl (RunV.move rfl) ?_
  clear hf a; intro a hf
  refine O.val hf rfl rfl rfl (RunV.extract rfl rfl) ?_
  clear hf a; intro a hf
  refine O.val hf rfl rfl rfl (RunV.extract rfl rfl) ?_
  clear hf a; intro a hf
  refine O.val hf rfl rfl rfl (RunV.extract rfl rfl) ?_
  clear hf a; intro a hf
  refine O.val hf rfl rfl rfl (RunV.assign rfl) ?_
  clear hf a; intro a hf
  refine O.val hf rfl rfl rfl (RunV.assign rfl) ?_
  clear hf a; intro a hf
  refine O.val hf rfl rfl rfl (RunV.assign rfl) ?_
  clear hf a; intro a hf
  refine O.nil ?_
  refine k_seq ?_
  replace hf:Fr a 43 [] [(0,vl),(3,.pointer (some ⟨b_c1,0,none⟩)),(4,.slice none 0 0),(5,.int .i64 0),(8,.int .i64 0)]:=hf.to ⟨rfl,rfl,rfl,rfl,rfl,trivial⟩
  refine W.seq ?_
  refine W.regionL (l:=[0,1]) rfl ?_
  refine O.val hf rfl rfl rfl (RunV.move rfl) ?_
  clear hf a; intro a hf
  refine O.val hf rfl rfl rfl (RunV.toB (c:=false) (RunV.neq rfl rfl) (by decide)) ?_
  clear hf a; intro a hf
  refine O.nil ?_
  refine k_seq ?_
  replace hf:Fr a 43 [] [(0,vl),(3,.pointer (some ⟨b_c1,0,none⟩)),(4,.slice none 0 0),(5,.int .i64 0),(8,.int .i64 0),(21,.bool false)]:=hf.to ⟨rfl,rfl,rfl,rfl,rfl,rfl,trivial⟩
  refine W.if_ff hf rfl ?_
  refine W.skip ?_
  refine k_seq ?_
  replace hf:Fr a 43 [] [(0,vl),(3,.pointer (some ⟨b_c1,0,none⟩)),(4,.slice none 0 0),(5,.int .i64 0)]:=hf.to ⟨rfl,rfl,rfl,rfl,trivial⟩
  refine W.seq ?_
  refine W.seq ?_
  refine W.regionL (l:=[0,1,2]) rfl ?_
  refine O.val hf rfl rfl rfl (RunV.loadN (cs':=#[.int .u8 c.kind,.int .i64 c.a.num,.int .i64 c.a.yr,.int .u8 c.a.half,.int .u8 c.a.sec,.int .i64 c.a.cyc,.int .i64 c.b.num,.int .i64 c.b.yr,.int .u8 c.b.half,.int .u8 c.b.sec,.int .i64 c.b.cyc,.int .i64 c.n]) T_agg_26 T_size_26 rfl (hS.ptAt (i:=2) rfl) (Nat.le_of_ble_eq_true rfl) rfl) ?_
  clear hf a; intro a hf
  refine O.callR hf rfl rfl rfl (RunE.call (av:=#[.agg #[.int .u8 c.kind,.int .i64 c.a.num,.int .i64 c.a.yr,.int .u8 c.a.half,.int .u8 c.a.sec,.int .i64 c.a.cyc,.int .i64 c.b.num,.int .i64 c.b.yr,.int .u8 c.b.half,.int .u8 c.b.sec,.int .i64 c.b.cyc,.int .i64 c.n]]) C_ok_25 rfl rfl rfl) (checkC_ok c _ (hS.bptO (i:=0) rfl) hc) ?_
  clear hf a
  rintro _ w3 hS1 a hf
  replace hf:Fr a _ _ ((24,.int .i64 0)::_):=hf
  replace hS:=(hS.call hS1).eqM (N:=[stA 95 24 bm kvs gs,sl 4 1 uv us.length (bools us),pt b_c1 (.cells #[.int .u8 c.kind,.int .i64 c.a.num,.int .i64 c.a.yr,.int .u8 c.a.half,.int .u8 c.a.sec,.int .i64 c.a.cyc,.int .i64 c.b.num,.int .i64 c.b.yr,.int .u8 c.b.half,.int .u8 c.b.sec,.int .i64 c.b.cyc,.int .i64 c.n] 26 (0,0))]) rfl
  clear hS1
  refine O.val hf rfl rfl rfl (RunV.assign rfl) ?_
  clear hf a; intro a hf
  refine O.nil ?_
  refine k_seq ?_
  replace hf:Fr a 43 [] [(0,vl),(3,.pointer (some ⟨b_c1,0,none⟩)),(4,.slice none 0 0),(5,.int .i64 0),(9,.int .i64 0)]:=hf.to ⟨rfl,rfl,rfl,rfl,rfl,trivial⟩
  refine W.seq ?_
  refine W.regionL (l:=[0,1]) rfl ?_
  refine O.val hf rfl rfl rfl (RunV.move rfl) ?_
  clear hf a; intro a hf
  refine O.val hf rfl rfl rfl (RunV.toB (c:=false) (RunV.neq rfl rfl) (by decide)) ?_
  clear hf a; intro a hf
  refine O.nil ?_
  refine k_seq ?_
  replace hf:Fr a 43 [] [(0,vl),(3,.pointer (some ⟨b_c1,0,none⟩)),(4,.slice none 0 0),(5,.int .i64 0),(9,.int .i64 0),(26,.bool false)]:=hf.to ⟨rfl,rfl,rfl,rfl,rfl,rfl,trivial⟩
  refine W.if_ff hf rfl ?_
  refine W.skip ?_
  refine k_seq ?_
  replace hf:Fr a 43 [] [(0,vl),(3,.pointer (some ⟨b_c1,0,none⟩)),(4,.slice none 0 0),(5,.int .i64 0)]:=hf.to ⟨rfl,rfl,rfl,rfl,trivial⟩
  refine W.seq ?_
  have hf1:Fr a 43 [] []:=hf.to trivial
  replace hf:Fr a 43 [] [(0,vl),(3,.pointer (some ⟨b_c1,0,none⟩)),(4,.slice none 0 0),(5,.int .i64 0)]:=hf.to ⟨rfl,rfl,rfl,rfl,trivial⟩
  replace hS:=hS.drew
  replace hS:=hS.emp
  let LZ430:List (Nat × Value):=[(0,vl),(3,.pointer (some ⟨b_c1,0,none⟩)),(4,.slice none 0 0),(5,.int .i64 0)]
  let MZ430:List Asr:=[stA 95 24 bm kvs gs,sl 4 1 uv us.length (bools us),pt b_c1 (.cells #[.int .u8 c.kind,.int .i64 c.a.num,.int .i64 c.a.yr,.int .u8 c.a.half,.int .u8 c.a.sec,.int .i64 c.a.cyc,.int .i64 c.b.num,.int .i64 c.b.yr,.int .u8 c.b.half,.int .u8 c.b.sec,.int .i64 c.b.cyc,.int .i64 c.n] 26 (0,0))]
  refine W.drawC (γ:=(Nat) × (Value) × (Value)) (L0:=LZ430) (L1:=[]) (0,default,default) [1,4] [3] [0,2,5] (fun i=>match i with | 1=>[0] | 3=>[2] | 4=>[1,3] | 5=>[0,1,2,3,4] | _=>[]) (fun i=>match i with | 4=>[1,3] | 5=>[1,4,3] | _=>[]) (fun i=>match i with | 0=>[1,4] | 1=>[4] | 2=>[4] | 3=>[4] | _=>[]) (fun i=>match i with | 4=>[3] | 5=>[3] | _=>[]) (fun i=>match i with | 1=>[4,5] | 3=>[4,5] | 4=>[5] | _=>[]) (fun _=>[]) (fun i=>match i with | 4=>1 | 5=>2 | _=>0) (fun i=>match i with | 1=>1 | 2=>1 | 3=>1 | 4=>2 | 5=>2 | _=>0) (fun (g:(Nat) × (Value) × (Value)) j=>match g,j with | ⟨b_s4,cv,v6⟩,0=>vl | ⟨b_s4,cv,v6⟩,1=>cv | ⟨b_s4,cv,v6⟩,2=>.agg #[.int .u8 c.kind,.int .i64 c.a.num,.int .i64 c.a.yr,.int .u8 c.a.half,.int .u8 c.a.sec,.int .i64 c.a.cyc,.int .i64 c.b.num,.int .i64 c.b.yr,.int .u8 c.b.half,.int .u8 c.b.sec,.int .i64 c.b.cyc,.int .i64 c.n] | ⟨b_s4,cv,v6⟩,3=>.slice (some ⟨b_s4,0,none⟩) 1 1 | ⟨b_s4,cv,v6⟩,4=>v6 | ⟨b_s4,cv,v6⟩,5=>v6 | _,_=>undef) (fun k s (g:(Nat) × (Value) × (Value)) w=>match k,g with | 0,⟨b_s4,cv,v6⟩=>St w0 w noX [ordA,rdv 12 vl l.length (encs eC l)] (condA (s 3) (pt b_s4 (.cells #[.int .u8 c.kind,.int .i64 c.a.num,.int .i64 c.a.yr,.int .u8 c.a.half,.int .u8 c.a.sec,.int .i64 c.a.cyc,.int .i64 c.b.num,.int .i64 c.b.yr,.int .u8 c.b.half,.int .u8 c.b.sec,.int .i64 c.b.cyc,.int .i64 c.n] 26 (0,0)))::MZ430) | 1,⟨b_s4,cv,v6⟩=>St w0 w noX [ordA,rdv 12 vl l.length (encs eC l)] (sl 26 12 cv l.length (encs eC l)::condA (s 3) (pt b_s4 (.cells #[.int .u8 c.kind,.int .i64 c.a.num,.int .i64 c.a.yr,.int .u8 c.a.half,.int .u8 c.a.sec,.int .i64 c.a.cyc,.int .i64 c.b.num,.int .i64 c.b.yr,.int .u8 c.b.half,.int .u8 c.b.sec,.int .i64 c.b.cyc,.int .i64 c.n] 26 (0,0)))::MZ430) | _,⟨b_s4,cv,v6⟩=>St w0 w noX [ordA,rdv 12 vl l.length (encs eC l)] (sl 26 12 v6 ((l++[c]).length) (encs eC (l++[c]))::pt b_s4 (.cells #[.int .u8 c.kind,.int .i64 c.a.num,.int .i64 c.a.yr,.int .u8 c.a.half,.int .u8 c.a.sec,.int .i64 c.a.cyc,.int .i64 c.b.num,.int .i64 c.b.yr,.int .u8 c.b.half,.int .u8 c.b.sec,.int .i64 c.b.cyc,.int .i64 c.n] 26 (0,0))::MZ430)) P_mixed (by kernel_rfl) (by kernel_rfl) (by kernel_rfl) hf hf1 hS ?_ ?_ ?_ ?_
  · clear hf hf1 hS
    refine ⟨?_,?_,?_,trivial⟩
    · intro k s g w h1_ h2_ hsp hD a hf
      obtain ⟨b_s4,cv,v6⟩:=g
      rcases k with _ | k
      · have hS:St w0 w noX [ordA,rdv 12 vl l.length (encs eC l)] (condA (s 3) (pt b_s4 (.cells #[.int .u8 c.kind,.int .i64 c.a.num,.int .i64 c.a.yr,.int .u8 c.a.half,.int .u8 c.a.sec,.int .i64 c.a.cyc,.int .i64 c.b.num,.int .i64 c.b.yr,.int .u8 c.b.half,.int .u8 c.b.sec,.int .i64 c.b.cyc,.int .i64 c.n] 26 (0,0)))::MZ430):=hD;
        replace hf:Fr a 43 [] LZ430:=hf
        refine O.val hf rfl rfl rfl (RunV.move rfl) ?_
        clear hf a; intro a hf
        exact O.nil ⟨rfl,hf.to trivial,(gt (d:=28) hf rfl rfl),hD⟩
      · exact absurd h2_ (by simp)
    · intro k s g w h1_ h2_ hsp hD a hf
      obtain ⟨b_s4,cv,v6⟩:=g
      rcases k with _ | _ | k
      · have hS:St w0 w noX [ordA,rdv 12 vl l.length (encs eC l)] (condA (s 3) (pt b_s4 (.cells #[.int .u8 c.kind,.int .i64 c.a.num,.int .i64 c.a.yr,.int .u8 c.a.half,.int .u8 c.a.sec,.int .i64 c.a.cyc,.int .i64 c.b.num,.int .i64 c.b.yr,.int .u8 c.b.half,.int .u8 c.b.sec,.int .i64 c.b.cyc,.int .i64 c.n] 26 (0,0)))::MZ430):=hD;
        replace hf:Fr a 43 [] LZ430:=hf
        refine O.val hf rfl rfl rfl (RunV.loadN (cs':=#[.int .u8 c.kind,.int .i64 c.a.num,.int .i64 c.a.yr,.int .u8 c.a.half,.int .u8 c.a.sec,.int .i64 c.a.cyc,.int .i64 c.b.num,.int .i64 c.b.yr,.int .u8 c.b.half,.int .u8 c.b.sec,.int .i64 c.b.cyc,.int .i64 c.n]) T_agg_26 T_size_26 rfl (hS.ptAt (i:=3) rfl) (Nat.le_of_ble_eq_true rfl) rfl) ?_
        clear hf a; intro a hf
        exact O.nil ⟨rfl,hf.to trivial,(gt (d:=30) hf rfl rfl),hD⟩
      · have hS:St w0 w noX [ordA,rdv 12 vl l.length (encs eC l)] (sl 26 12 cv l.length (encs eC l)::condA (s 3) (pt b_s4 (.cells #[.int .u8 c.kind,.int .i64 c.a.num,.int .i64 c.a.yr,.int .u8 c.a.half,.int .u8 c.a.sec,.int .i64 c.a.cyc,.int .i64 c.b.num,.int .i64 c.b.yr,.int .u8 c.b.half,.int .u8 c.b.sec,.int .i64 c.b.cyc,.int .i64 c.n] 26 (0,0)))::MZ430):=hD;
        replace hf:Fr a 43 [] LZ430:=hf
        refine O.val hf rfl rfl rfl (RunV.loadN (cs':=#[.int .u8 c.kind,.int .i64 c.a.num,.int .i64 c.a.yr,.int .u8 c.a.half,.int .u8 c.a.sec,.int .i64 c.a.cyc,.int .i64 c.b.num,.int .i64 c.b.yr,.int .u8 c.b.half,.int .u8 c.b.sec,.int .i64 c.b.cyc,.int .i64 c.n]) T_agg_26 T_size_26 rfl (hS.ptAt (i:=4) rfl) (Nat.le_of_ble_eq_true rfl) rfl) ?_
        clear hf a; intro a hf
        exact O.nil ⟨rfl,hf.to trivial,(gt (d:=30) hf rfl rfl),hD⟩
      · exact absurd h2_ (by simp)
    · intro k s g w h1_ h2_ hsp hD a hf
      obtain ⟨b_s4,cv,v6⟩:=g
      rcases k with _ | _ | _ | k
      · exact absurd h1_ (by decide)
      · exact absurd h1_ (by decide)
      · have ha_:s 3=true:=hsp 3 (by simp)
        have hS:St w0 w noX [ordA,rdv 12 vl l.length (encs eC l)] (sl 26 12 v6 ((l++[c]).length) (encs eC (l++[c]))::pt b_s4 (.cells #[.int .u8 c.kind,.int .i64 c.a.num,.int .i64 c.a.yr,.int .u8 c.a.half,.int .u8 c.a.sec,.int .i64 c.a.cyc,.int .i64 c.b.num,.int .i64 c.b.yr,.int .u8 c.b.half,.int .u8 c.b.sec,.int .i64 c.b.cyc,.int .i64 c.n] 26 (0,0))::MZ430):=hD;
        replace hS:St w0 w noX [ordA,rdv 12 vl l.length (encs eC l)] (sl 26 12 v6 ((l++[c]).length) (encs eC (l++[c]))::pt b_s4 (.cells #[.int .u8 c.kind,.int .i64 c.a.num,.int .i64 c.a.yr,.int .u8 c.a.half,.int .u8 c.a.sec,.int .i64 c.a.cyc,.int .i64 c.b.num,.int .i64 c.b.yr,.int .u8 c.b.half,.int .u8 c.b.sec,.int .i64 c.b.cyc,.int .i64 c.n] 26 (0,0))::MZ430):=hS
        replace hf:Fr a 43 [] ((28,vl)::(29,cv)::(30,.agg #[.int .u8 c.kind,.int .i64 c.a.num,.int .i64 c.a.yr,.int .u8 c.a.half,.int .u8 c.a.sec,.int .i64 c.a.cyc,.int .i64 c.b.num,.int .i64 c.b.yr,.int .u8 c.b.half,.int .u8 c.b.sec,.int .i64 c.b.cyc,.int .i64 c.n])::(31,.slice (some ⟨b_s4,0,none⟩) 1 1)::(32,v6)::LZ430):=hf
        refine O.val hf rfl rfl rfl (RunV.assign rfl) ?_
        clear hf a; intro a hf
        exact O.nil ⟨rfl,hf.to trivial,(gt (d:=10) hf rfl rfl),hD⟩
      · exact absurd h2_ (by simp)
  · clear hf hf1 hS
    refine ⟨?_,?_,trivial⟩
    · intro s g w hsp hD a hf
      obtain ⟨b_s4,cv,v6⟩:=g
      have hS:St w0 w noX [ordA,rdv 12 vl l.length (encs eC l)] (condA (s 3) (pt b_s4 (.cells #[.int .u8 c.kind,.int .i64 c.a.num,.int .i64 c.a.yr,.int .u8 c.a.half,.int .u8 c.a.sec,.int .i64 c.a.cyc,.int .i64 c.b.num,.int .i64 c.b.yr,.int .u8 c.b.half,.int .u8 c.b.sec,.int .i64 c.b.cyc,.int .i64 c.n] 26 (0,0)))::MZ430):=hD;
      replace hf:Fr a 43 [] ((28,vl)::LZ430):=hf
      clear hD
      refine O.callR hf rfl rfl rfl (RunE.call (av:=#[vl]) C_ok_33 rfl rfl rfl) (cloneC_spec vl l _ hfit (hS.rdAt (j:=1) rfl) (by omega)) ?_
      clear hf a
      rintro cv w7 hS1 a hf
      replace hf:Fr a _ _ ((29,cv)::_):=hf
      replace hS:=(hS.call hS1).eqM (N:=(sl 26 12 cv l.length (encs eC l)::condA (s 3) (pt b_s4 (.cells #[.int .u8 c.kind,.int .i64 c.a.num,.int .i64 c.a.yr,.int .u8 c.a.half,.int .u8 c.a.sec,.int .i64 c.a.cyc,.int .i64 c.b.num,.int .i64 c.b.yr,.int .u8 c.b.half,.int .u8 c.b.sec,.int .i64 c.b.cyc,.int .i64 c.n] 26 (0,0)))::MZ430)) rfl
      clear hS1
      exact O.nil ⟨rfl,(b_s4,cv,v6),hf.to trivial,(gt (d:=29) hf rfl rfl),(fun j_ hj_ ha_=>match j_,hj_,ha_ with | 0,hj_,ha_=>rfl | 1,hj_,ha_=>absurd rfl hj_ | 2,hj_,ha_=>rfl | 3,hj_,ha_=>rfl | 4,hj_,ha_=>absurd ha_ (by decide) | 5,hj_,ha_=>absurd ha_ (by decide) | _+6,_,_=>rfl),hS⟩
    · intro s g w hsp hD a hf
      obtain ⟨b_s4,cv,v6⟩:=g
      have ha_:s 3=true:=hsp 3 (by simp)
      have hS:St w0 w noX [ordA,rdv 12 vl l.length (encs eC l)] (sl 26 12 cv l.length (encs eC l)::condA (s 3) (pt b_s4 (.cells #[.int .u8 c.kind,.int .i64 c.a.num,.int .i64 c.a.yr,.int .u8 c.a.half,.int .u8 c.a.sec,.int .i64 c.a.cyc,.int .i64 c.b.num,.int .i64 c.b.yr,.int .u8 c.b.half,.int .u8 c.b.sec,.int .i64 c.b.cyc,.int .i64 c.n] 26 (0,0)))::MZ430):=hD; rw [ha_] at hS
      replace hS:St w0 w noX [ordA,rdv 12 vl l.length (encs eC l)] (sl 26 12 cv l.length (encs eC l)::pt b_s4 (.cells #[.int .u8 c.kind,.int .i64 c.a.num,.int .i64 c.a.yr,.int .u8 c.a.half,.int .u8 c.a.sec,.int .i64 c.a.cyc,.int .i64 c.b.num,.int .i64 c.b.yr,.int .u8 c.b.half,.int .u8 c.b.sec,.int .i64 c.b.cyc,.int .i64 c.n] 26 (0,0))::MZ430):=hS
      replace hf:Fr a 43 [] ((29,cv)::(31,.slice (some ⟨b_s4,0,none⟩) 1 1)::LZ430):=hf
      clear hD
      refine O.append1 (j:=0) (jj:=1) hf hS rfl rfl T_elem_22 T_size_26 T_bytes_26 T_zero_26 rfl rfl rfl rfl rfl rfl rfl rfl (by unfold maxLen; omega) (by omega) ?_
      clear hf hS a; intro v8 w a hS hf
      replace hS:=hS.eqM (N:=(sl 26 12 v8 (l.length+1) (encs eC l++[.int .u8 c.kind,.int .i64 c.a.num,.int .i64 c.a.yr,.int .u8 c.a.half,.int .u8 c.a.sec,.int .i64 c.a.cyc,.int .i64 c.b.num,.int .i64 c.b.yr,.int .u8 c.b.half,.int .u8 c.b.sec,.int .i64 c.b.cyc,.int .i64 c.n])::pt b_s4 (.cells #[.int .u8 c.kind,.int .i64 c.a.num,.int .i64 c.a.yr,.int .u8 c.a.half,.int .u8 c.a.sec,.int .i64 c.a.cyc,.int .i64 c.b.num,.int .i64 c.b.yr,.int .u8 c.b.half,.int .u8 c.b.sec,.int .i64 c.b.cyc,.int .i64 c.n] 26 (0,0))::MZ430)) rfl
      replace hS:=hS.reE (i:=0) (M':=(sl 26 12 v8 ((l++[c]).length) (encs eC (l++[c]))::pt b_s4 (.cells #[.int .u8 c.kind,.int .i64 c.a.num,.int .i64 c.a.yr,.int .u8 c.a.half,.int .u8 c.a.sec,.int .i64 c.a.cyc,.int .i64 c.b.num,.int .i64 c.b.yr,.int .u8 c.b.half,.int .u8 c.b.sec,.int .i64 c.b.cyc,.int .i64 c.n] 26 (0,0))::MZ430)) rfl (sl_snoc (enc:=eC) (l:=l) (x:=c)) rfl
      exact O.nil ⟨rfl,(b_s4,cv,v8),hf.to trivial,(gt (d:=32) hf rfl rfl),(fun j_ hj_ ha_=>match j_,hj_,ha_ with | 0,hj_,ha_=>rfl | 1,hj_,ha_=>rfl | 2,hj_,ha_=>rfl | 3,hj_,ha_=>rfl | 4,hj_,ha_=>absurd rfl hj_ | 5,hj_,ha_=>absurd ha_ (by decide) | _+6,_,_=>rfl),hS⟩
  · clear hf hf1 hS
    refine ⟨?_,trivial⟩
    intro k s g w h1_ h2_ hs0 hD a hf
    obtain ⟨b_s4,cv,v6⟩:=g
    rcases k with _ | _ | k
    · have hS:St w0 w noX [ordA,rdv 12 vl l.length (encs eC l)] (condA (s 3) (pt b_s4 (.cells #[.int .u8 c.kind,.int .i64 c.a.num,.int .i64 c.a.yr,.int .u8 c.a.half,.int .u8 c.a.sec,.int .i64 c.a.cyc,.int .i64 c.b.num,.int .i64 c.b.yr,.int .u8 c.b.half,.int .u8 c.b.sec,.int .i64 c.b.cyc,.int .i64 c.n] 26 (0,0)))::MZ430):=hD; clear hD
      replace hf:Fr a 43 [] ((30,.agg #[.int .u8 c.kind,.int .i64 c.a.num,.int .i64 c.a.yr,.int .u8 c.a.half,.int .u8 c.a.sec,.int .i64 c.a.cyc,.int .i64 c.b.num,.int .i64 c.b.yr,.int .u8 c.b.half,.int .u8 c.b.sec,.int .i64 c.b.cyc,.int .i64 c.n])::LZ430):=hf
      refine O.buildC (j:=0) (cs':=#[.int .u8 c.kind,.int .i64 c.a.num,.int .i64 c.a.yr,.int .u8 c.a.half,.int .u8 c.a.sec,.int .i64 c.a.cyc,.int .i64 c.b.num,.int .i64 c.b.yr,.int .u8 c.b.half,.int .u8 c.b.sec,.int .i64 c.b.cyc,.int .i64 c.n]) (zs:=#[.int .u8 0,.int .i64 0,.int .i64 0,.int .u8 0,.int .u8 0,.int .i64 0,.int .i64 0,.int .i64 0,.int .u8 0,.int .u8 0,.int .i64 0,.int .i64 0]) hf hS rfl hs0 rfl rfl T_elem_22 T_size_26 T_zero_26 rfl rfl (by kernel_rfl) rfl (by kernel_rfl) ?_; clear hf hS a; intro b_s9 w a hS hf
      exact O.nil ⟨rfl,(b_s9,cv,v6),hf.to trivial,(gt (d:=31) hf rfl rfl),(fun j_ hj_ ha_=>match j_,hj_,ha_ with | 0,hj_,ha_=>rfl | 1,hj_,ha_=>rfl | 2,hj_,ha_=>rfl | 3,hj_,ha_=>absurd rfl hj_ | 4,hj_,ha_=>absurd ha_ (by decide) | 5,hj_,ha_=>absurd ha_ (by decide) | _+6,_,_=>rfl),hS⟩
    · have hS:St w0 w noX [ordA,rdv 12 vl l.length (encs eC l)] (sl 26 12 cv l.length (encs eC l)::condA (s 3) (pt b_s4 (.cells #[.int .u8 c.kind,.int .i64 c.a.num,.int .i64 c.a.yr,.int .u8 c.a.half,.int .u8 c.a.sec,.int .i64 c.a.cyc,.int .i64 c.b.num,.int .i64 c.b.yr,.int .u8 c.b.half,.int .u8 c.b.sec,.int .i64 c.b.cyc,.int .i64 c.n] 26 (0,0)))::MZ430):=hD; clear hD
      replace hf:Fr a 43 [] ((30,.agg #[.int .u8 c.kind,.int .i64 c.a.num,.int .i64 c.a.yr,.int .u8 c.a.half,.int .u8 c.a.sec,.int .i64 c.a.cyc,.int .i64 c.b.num,.int .i64 c.b.yr,.int .u8 c.b.half,.int .u8 c.b.sec,.int .i64 c.b.cyc,.int .i64 c.n])::LZ430):=hf
      refine O.buildC (j:=1) (cs':=#[.int .u8 c.kind,.int .i64 c.a.num,.int .i64 c.a.yr,.int .u8 c.a.half,.int .u8 c.a.sec,.int .i64 c.a.cyc,.int .i64 c.b.num,.int .i64 c.b.yr,.int .u8 c.b.half,.int .u8 c.b.sec,.int .i64 c.b.cyc,.int .i64 c.n]) (zs:=#[.int .u8 0,.int .i64 0,.int .i64 0,.int .u8 0,.int .u8 0,.int .i64 0,.int .i64 0,.int .i64 0,.int .u8 0,.int .u8 0,.int .i64 0,.int .i64 0]) hf hS rfl hs0 rfl rfl T_elem_22 T_size_26 T_zero_26 rfl rfl (by kernel_rfl) rfl (by kernel_rfl) ?_; clear hf hS a; intro b_s10 w a hS hf
      exact O.nil ⟨rfl,(b_s10,cv,v6),hf.to trivial,(gt (d:=31) hf rfl rfl),(fun j_ hj_ ha_=>match j_,hj_,ha_ with | 0,hj_,ha_=>rfl | 1,hj_,ha_=>rfl | 2,hj_,ha_=>rfl | 3,hj_,ha_=>absurd rfl hj_ | 4,hj_,ha_=>absurd ha_ (by decide) | 5,hj_,ha_=>absurd ha_ (by decide) | _+6,_,_=>rfl),hS⟩
    · exact absurd h2_ (by simp)
  clear hf hf1 hS; intro s g a w hs_ hf hD
  obtain ⟨b_s4,cv,v6⟩:=g
  have ha_:s 3=true:=hs_ 3 (by simp)
  have hS:St w0 w noX [ordA,rdv 12 vl l.length (encs eC l)] (sl 26 12 v6 ((l++[c]).length) (encs eC (l++[c]))::pt b_s4 (.cells #[.int .u8 c.kind,.int .i64 c.a.num,.int .i64 c.a.yr,.int .u8 c.a.half,.int .u8 c.a.sec,.int .i64 c.a.cyc,.int .i64 c.b.num,.int .i64 c.b.yr,.int .u8 c.b.half,.int .u8 c.b.sec,.int .i64 c.b.cyc,.int .i64 c.n] 26 (0,0))::MZ430):=hD; clear hD
  replace hf:Fr a 43 [] ((28,vl)::(29,cv)::(30,.agg #[.int .u8 c.kind,.int .i64 c.a.num,.int .i64 c.a.yr,.int .u8 c.a.half,.int .u8 c.a.sec,.int .i64 c.a.cyc,.int .i64 c.b.num,.int .i64 c.b.yr,.int .u8 c.b.half,.int .u8 c.b.sec,.int .i64 c.b.cyc,.int .i64 c.n])::(31,.slice (some ⟨b_s4,0,none⟩) 1 1)::(32,v6)::(10,v6)::LZ430):=hf
  refine k_seq ?_
  replace hf:Fr a 43 [] [(4,.slice none 0 0),(5,.int .i64 0),(10,v6)]:=hf.to ⟨rfl,rfl,rfl,trivial⟩
  refine W.seq ?_
  refine W.seq ?_
  refine W.regionL (l:=[0,1,2,3,4,5,6,7,8]) rfl ?_
  refine O.val hf rfl rfl rfl (RunV.move rfl) ?_
  clear hf a; intro a hf
  refine O.callR hf rfl rfl rfl (RunE.call (av:=#[v6]) C_ok_32 rfl rfl rfl) (history_ok v6 (l++[c]) _ (hS.bptO (i:=0) rfl) (hS.slr (j:=0) rfl) (slOK.fit (hS.slAt (j:=0) rfl)) hm2) ?_
  clear hf a
  rintro ⟨uv2,bm2,kvs2,gs2⟩ w11 ⟨hS1,hI2⟩ a hf
  replace hf:Fr a _ _ ((35,.tuple #[.map (some bm2),uv2,.int .i64 0])::_):=hf
  replace hS:=(hS.call hS1).eqM (N:=(stA 95 24 bm2 kvs2 gs2::sl 4 1 uv2 us2.length (bools us2)::sl 26 12 v6 ((l++[c]).length) (encs eC (l++[c]))::pt b_s4 (.cells #[.int .u8 c.kind,.int .i64 c.a.num,.int .i64 c.a.yr,.int .u8 c.a.half,.int .u8 c.a.sec,.int .i64 c.a.cyc,.int .i64 c.b.num,.int .i64 c.b.yr,.int .u8 c.b.half,.int .u8 c.b.sec,.int .i64 c.b.cyc,.int .i64 c.n] 26 (0,0))::MZ430)) rfl
  clear hS1
  refine O.val hf rfl rfl rfl (RunV.move rfl) ?_
  clear hf a; intro a hf
  refine O.val hf rfl rfl rfl (RunV.extract rfl rfl) ?_
  clear hf a; intro a hf
  refine O.val hf rfl rfl rfl (RunV.extract rfl rfl) ?_
  clear hf a; intro a hf
  refine O.val hf rfl rfl rfl (RunV.extract rfl rfl) ?_
  clear hf a; intro a hf
  refine O.val hf rfl rfl rfl (RunV.assign rfl) ?_
  clear hf a; intro a hf
  refine O.val hf rfl rfl rfl (RunV.assign rfl) ?_
  clear hf a; intro a hf
  refine O.val hf rfl rfl rfl (RunV.assign rfl) ?_
  clear hf a; intro a hf
  refine O.nil ?_
  refine k_seq ?_
  replace hf:Fr a 43 [] [(4,.slice none 0 0),(5,.int .i64 0),(10,v6),(13,.int .i64 0)]:=hf.to ⟨rfl,rfl,rfl,rfl,trivial⟩
  refine W.seq ?_
  refine W.regionL (l:=[0,1]) rfl ?_
  refine O.val hf rfl rfl rfl (RunV.move rfl) ?_
  clear hf a; intro a hf
  refine O.val hf rfl rfl rfl (RunV.toB (c:=false) (RunV.neq rfl rfl) (by decide)) ?_
  clear hf a; intro a hf
  refine O.nil ?_
  refine k_seq ?_
  replace hf:Fr a 43 [] [(4,.slice none 0 0),(5,.int .i64 0),(10,v6),(13,.int .i64 0),(40,.bool false)]:=hf.to ⟨rfl,rfl,rfl,rfl,rfl,trivial⟩
  refine W.if_ff hf rfl ?_
  refine W.skip ?_
  refine k_seq ?_
  replace hf:Fr a 43 [] [(4,.slice none 0 0),(5,.int .i64 0),(10,v6)]:=hf.to ⟨rfl,rfl,rfl,trivial⟩
  refine W.seq ?_
  refine W.regionL (l:=[0,1,2]) rfl ?_
  refine O.val hf rfl rfl rfl (RunV.move rfl) ?_
  clear hf a; intro a hf
  refine O.val hf rfl rfl rfl (RunV.assign rfl) ?_
  clear hf a; intro a hf
  refine O.val hf rfl rfl rfl (RunV.assign rfl) ?_
  clear hf a; intro a hf
  refine O.nil ?_
  refine k_seq ?_
  replace hf:Fr a 43 [] [(4,v6),(5,.int .i64 0)]:=hf.to ⟨rfl,rfl,trivial⟩
  refine W.ret ?_
  refine post2 hf rfl (ResOK.tmp rfl) (ResOK.tmp rfl) ?_
  replace hS:=hS.front (i:=2) (M':=(sl 26 12 v6 ((l++[c]).length) (encs eC (l++[c]))::stA 95 24 bm2 kvs2 gs2::sl 4 1 uv2 us2.length (bools us2)::pt b_s4 (.cells #[.int .u8 c.kind,.int .i64 c.a.num,.int .i64 c.a.yr,.int .u8 c.a.half,.int .u8 c.a.sec,.int .i64 c.a.cyc,.int .i64 c.b.num,.int .i64 c.b.yr,.int .u8 c.b.half,.int .u8 c.b.sec,.int .i64 c.b.cyc,.int .i64 c.n] 26 (0,0))::MZ430)) rfl rfl
  exact ⟨v6,rfl,(hS.sub (List.Sublist.cons_cons _ (List.nil_sublist _))).noB⟩
end Go.Proofs.YtgakdmmmljdpjaaDoor

namespace Go.SL
open Go
def allA (l:List Asr):Asr:=⟨fun b=>∃ p ∈ l,p.fp b,fun h=>∀ p ∈ l,p.holds h,fun h h' hk hh p hp=>p.loc h h' (fun b hb=>hk b ⟨p,hp,hb⟩) (hh p hp)⟩
def rdOb (o:Ob):Asr:=rdv 5 o.v o.l.length (encs eD o.l)
section
variable {w0 w:World} {X:Nat→Prop} {B M:List Asr} {i j:Nat} {os:List Ob} {o:Ob} {l:List Asr}
def obsRd (w:World) (os:List Ob):Prop:=∀ o ∈ os,rdOK (hp w) 5 o.v o.l.length (encs eD o.l)
theorem St.lendObs (hS:St w w noX B M) (h:obsRd w os):St w w noX (allA (os.map rdOb)::B) M :=
  hS.lendA ⟨fun p hp=>by
    obtain ⟨o,ho,rfl⟩:=List.mem_map.1 hp
    exact h o ho,fun b ⟨p,hp,hb⟩=>by
    obtain ⟨o,ho,rfl⟩:=List.mem_map.1 hp
    have h1:=h o ho
    have h2:St w w noX [rdv 5 o.v o.l.length (encs eD o.l)] []:=(St.refl w).lend0 h1
    exact ((h2.bor _ List.mem_cons_self).2 b hb).1⟩
theorem St.obAt (hS:St w0 w X B M) (hi:B[i]? = some (allA (os.map rdOb))):obsRd w os:=fun o ho=>by
  have h:(allA (os.map rdOb)).holds (hp w):=hS.bat hi
  exact h (rdOb o) (List.mem_map.2 ⟨o,ho,rfl⟩)
theorem slE_rd {h:Hp} {e sz:Nat} {enc:Dg→List Value} {v:Value} {l:List Dg} (hh:(slE e sz enc v l).holds h):rdOK h sz v l.length (encs enc l):=(show slOK h e sz v l.length (encs enc l) from hh).rd
theorem St.obOwn (hS:St w0 w X B M) (hi:M[i]? = some (bigA (os.map obA))):obsRd w os:=fun o ho=>by
  have h:(bigA (os.map obA)).holds (hp w):=hS.at_ hi
  have h1:(obA o).holds (hp w):=h.1 (obA o) (List.mem_map.2 ⟨o,ho,rfl⟩)
  exact slE_rd h1
theorem obsRd.at (h:obsRd w os) {k:Nat} (hk:k<os.length):rdOK (hp w) 5 (os.getD k default).v (os.getD k default).l.length (encs eD (os.getD k default).l) :=
  h _ (by rw [List.getD_eq_getElem?_getD,List.getElem?_eq_getElem hk]; exact List.getElem_mem _)
theorem obsRd.nil:obsRd w []:=fun o ho=>by cases ho
theorem obsRd.cons {t:List Ob} (h:rdOK (hp w) 5 o.v o.l.length (encs eD o.l)) (ht:obsRd w t):obsRd w (o::t):=fun x hx=>by
  rcases List.mem_cons.1 hx with rfl | hx
  · exact h
  · exact ht x hx
end
def nameD (c:Int):Dg:=⟨0,2026,87,c,0⟩
def numD:Dg:=⟨700001,0,0,0,0⟩
def givenL:List Ch:=[⟨1,nameD 65,default,0⟩,⟨1,nameD 66,default,0⟩,⟨2,nameD 65,nameD 66,0⟩,⟨3,nameD 66,numD,0⟩]
instance {T:Type} [DecidableEq T]:DecidableEq (Except Int T):=fun a b=>match a,b with
  | .error e,.error f=>if h:e=f then isTrue (h▸rfl) else isFalse (fun h2=>h (by injection h2))
  | .ok x,.ok y=>if h:x=y then isTrue (h▸rfl) else isFalse (fun h2=>h (by injection h2))
  | .error _,.ok _=>isFalse (fun h=>by cases h)
  | .ok _,.error _=>isFalse (fun h=>by cases h)
theorem given_hist:histM givenL=.ok ([([nameD 65,nameD 66,numD],true)],[false,false,false,false]):=by decide +kernel
theorem given_undo2:histM (givenL++[undoC 2])=.ok ([([nameD 66,numD],true),([nameD 65],false)],[false,false,true,false,false]):=by decide +kernel
theorem given_undo1:histM (givenL++[undoC 1])=.error 36:=by decide +kernel
theorem sortDs_eq {l s:List Dg} (hp:l.Perm s) (hs:s.Pairwise (fun x y=>ltD y x=false)):sortDs l=s:=by
  have h:=sorted_eq (l:=l.map fun d=>(d,[])) (s:=s.map fun d=>(d,[])) (fun x hx y hy he=>by
    obtain ⟨a,_,rfl⟩:=List.mem_map.1 hx
    obtain ⟨b,_,rfl⟩:=List.mem_map.1 hy
    exact Prod.ext he rfl) (hp.map _) (by
    rw [List.pairwise_map]
    exact hs.imp fun {a b} h=>by unfold leO; simp only [h]; rfl)
  have h2:=congrArg (List.map Prod.fst) h
  rw [List.map_mergeSort (r:=leO) (s:=fun x y=>!ltD y x) (f:=Prod.fst) (fun a _ b _=>rfl),List.map_map,List.map_map] at h2
  simpa [Function.comp_def,sortDs] using h2
theorem sort_given:sortDs [nameD 65,nameD 66,numD]=[numD,nameD 65,nameD 66]:=sortDs_eq (by decide +kernel) (by decide +kernel)
theorem sort_given2:sortDs [nameD 66,numD]=[numD,nameD 66]:=sortDs_eq (by decide +kernel) (by decide +kernel)
theorem sort_one (d:Dg):sortDs [d]=[d]:=List.mergeSort_singleton d
theorem objs_given:objsM [([nameD 65,nameD 66,numD],true)]=[(numD,[numD,nameD 65,nameD 66])]:=by
  unfold objsM
  rw [List.map_cons,List.map_nil,List.mergeSort_singleton]
  unfold objP
  rw [sort_given]
  rfl
theorem objs_given2:objsM [([nameD 66,numD],true),([nameD 65],false)]=[(numD,[numD,nameD 66]),(nameD 65,[nameD 65])]:=by
  unfold objsM
  rw [List.map_cons,List.map_cons,List.map_nil]
  unfold objP
  rw [sort_given2,sort_one]
  exact sorted_eq (by decide +kernel) (List.Perm.refl _) (by decide +kernel)
end Go.SL

namespace Go.SL
open Go
def greatM (n:Nat):Bool:=decide ((n:Int)>25)&&decide ((n:Int)≤500)||decide ((n:Int)>510)
section
variable {p q:Dg} {lp lq:List Dg} {k:Nat} {xs ys:List Ob}
theorem ext_getD {T:Type} [Inhabited T] {a b:List T} (hl:a.length=b.length) (h:∀ j,j<a.length→a.getD j default=b.getD j default):a=b:=by
  apply List.ext_getElem hl
  intro i h1 h2
  have:=h i h1
  simpa [List.getD_eq_getElem?_getD,List.getElem?_eq_getElem h1,List.getElem?_eq_getElem h2] using this
theorem sameO_1 (h:¬ p=q∨¬ (lp.length:Int)=(lq.length:Int)):decide (p=q∧lp=lq)=false:=decide_eq_false fun h2=>by
  rcases h with h | h
  · exact h h2.1
  · exact h (by rw [h2.2])
theorem sameO_2 (hk:k<lp.length) (h:¬ lp.getD k default=lq.getD k default):decide (p=q∧lp=lq)=false:=decide_eq_false fun h2=>h (by rw [h2.2])
theorem sameO_3 (h1:p=q) (h2:lp.length=lq.length) (h:∀ j,j<lp.length→lp.getD j default=lq.getD j default):decide (p=q∧lp=lq)=true:=decide_eq_true ⟨h1,ext_getD h2 h⟩
theorem same_1 (h:¬ (xs.length:Int)=(ys.length:Int)):decide (xs.map prO=ys.map prO)=false:=decide_eq_false fun h2=>h (by
  have:=congrArg List.length h2
  simp only [List.length_map] at this
  rw [this])
theorem prO_get {k:Nat}:(xs.map prO)[k]? = (xs[k]?).map prO:=by simp
theorem same_2 (hk:k<xs.length) (h:¬ ((xs.getD k default).p=(ys.getD k default).p∧(xs.getD k default).l=(ys.getD k default).l)):decide (xs.map prO=ys.map prO)=false:=decide_eq_false fun h2=>by
  have h3:ys.length=xs.length:=by simpa using (congrArg List.length h2).symm
  have h4:=congrArg (·[k]?) h2
  simp only [prO_get,List.getElem?_eq_getElem hk,List.getElem?_eq_getElem (show k<ys.length by omega),Option.map_some,Option.some.injEq] at h4
  refine h ?_
  simp only [List.getD_eq_getElem?_getD,List.getElem?_eq_getElem hk,List.getElem?_eq_getElem (show k<ys.length by omega),Option.getD_some]
  exact ⟨congrArg Prod.fst h4,congrArg Prod.snd h4⟩
theorem same_3 (h2:xs.length=ys.length) (h:∀ j,j<xs.length→prO (xs.getD j default)=prO (ys.getD j default)):decide (xs.map prO=ys.map prO)=true:=decide_eq_true (by
  apply List.ext_getElem (by simpa using h2)
  intro i h3 h4
  have h5:i<xs.length:=by simpa using h3
  have:=h i h5
  simpa [List.getD_eq_getElem?_getD,List.getElem?_eq_getElem h5,List.getElem?_eq_getElem (show i<ys.length by omega)] using this)
theorem same_4 {x y:Ob} (h:x.p=y.p∧x.l=y.l):prO x=prO y:=Prod.ext h.1 h.2
end
end Go.SL
