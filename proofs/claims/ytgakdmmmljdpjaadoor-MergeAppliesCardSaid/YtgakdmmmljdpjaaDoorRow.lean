/- MergeApplies: for every input. No conditions. -/
import Derived.Test.YtgakdmmmljdpjaaDoorTac
import Derived.Test.YtgakdmmmljdpjaaDoorTan
import Derived.Test.YtgakdmmmljdpjaaDoorTab
import Derived.ProofKit
import Derived.Lib.SmallJoins
import Derived.Deep.Grids
import Derived.Test.YtgakdmmmljdpjaaDoorTae
import Derived.Lib.LaidU8
import Derived.Test.YtgakdmmmljdpjaaDoorRows
import Derived.LaidMore
import Derived.Lay
import Derived.Test.YtgakdmmmljdpjaaDoorTie
import Derived.Test.YtgakdmmmljdpjaaDoorCards
import Derived.SevenTiedAt
set_option linter.unusedVariables false
set_option linter.unusedSimpArgs false
namespace Go.Proofs.YtgakdmmmljdpjaaDoor
open Go Go.SL
theorem C_ok_34:callOK Tryd.prog 34=true:=by kernel_rfl
set_option maxHeartbeats 4000000 in
set_option maxRecDepth 4000 in
theorem applyR_spec (vl:Value) (l:List Ch) (c:Ch) (w0:World) (hl:rdOK (hp w0) 12 vl l.length (encs eC l)) (hfit:vfit vl) (hr:∀ c ∈ l,rC c) (hrc:rC c) (hz:l.length≤1000) :
    Ret Tryd.prog 12 #[vl,.agg #[.int .u8 c.kind,.int .i64 c.a.num,.int .i64 c.a.yr,.int .u8 c.a.half,.int .u8 c.a.sec,.int .i64 c.a.cyc,.int .i64 c.b.num,.int .i64 c.b.yr,.int .u8 c.b.half,.int .u8 c.b.sec,.int .i64 c.b.cyc,.int .i64 c.n]] w0 (G:=Value × Int × List Ch) (fun g=>.tuple #[g.1,.int .i64 g.2.1]) (fun g w=>St w0 w noX [] [sl 26 12 g.1 g.2.2.length (encs eC g.2.2)]∧AppR l c g.2.1 g.2.2 g.1):=by
  refine ret_of_W (lv:=[vl,.agg #[.int .u8 c.kind,.int .i64 c.a.num,.int .i64 c.a.yr,.int .u8 c.a.half,.int .u8 c.a.sec,.int .i64 c.a.cyc,.int .i64 c.b.num,.int .i64 c.b.yr,.int .u8 c.b.half,.int .u8 c.b.sec,.int .i64 c.b.cyc,.int .i64 c.n]]) Tryd.func12 rfl rfl rfl (fun a hf=>?_)
  replace hf:Fr a 38 [] [(0,vl),(1,.agg #[.int .u8 c.kind,.int .i64 c.a.num,.int .i64 c.a.yr,.int .u8 c.a.half,.int .u8 c.a.sec,.int .i64 c.a.cyc,.int .i64 c.b.num,.int .i64 c.b.yr,.int .u8 c.b.half,.int .u8 c.b.sec,.int .i64 c.b.cyc,.int .i64 c.n])]:=hf
  have hS:St w0 w0 noX [rdv 12 vl l.length (encs eC l)] []:=(St.refl w0).lend0 hl
  have hlm:=hl.2.1
  unfold maxLen at hlm
  refine W.seq ?_
  refine W.regionL (l:=[0,1,2]) rfl ?_
  refine O.box (cs:=#[.int .u8 c.kind,.int .i64 c.a.num,.int .i64 c.a.yr,.int .u8 c.a.half,.int .u8 c.a.sec,.int .i64 c.a.cyc,.int .i64 c.b.num,.int .i64 c.b.yr,.int .u8 c.b.half,.int .u8 c.b.sec,.int .i64 c.b.cyc,.int .i64 c.n]) hf hS rfl rfl rfl rfl ?_
  clear hf hS a; intro b_c1 w a hbb_c1 hS hf
  refine O.val hf rfl rfl rfl (RunV.assign rfl) ?_
  clear hf a; intro a hf
  refine O.val hf rfl rfl rfl (RunV.assign rfl) ?_
  clear hf a; intro a hf
  refine O.nil ?_
  refine k_seq ?_
  replace hf:Fr a 38 [] [(0,vl),(3,.pointer (some ⟨b_c1,0,none⟩)),(4,.slice none 0 0),(5,.int .i64 0)]:=hf.to ⟨rfl,rfl,rfl,rfl,trivial⟩
  refine W.seq ?_
  rcases hm:histM l with e | ⟨S,us⟩
  · have he0:=histM_ne hm
    refine W.regionL (l:=[0,1,2,3,4,5,6,7,8]) rfl ?_
    refine O.val hf rfl rfl rfl (RunV.move rfl) ?_
    clear hf a; intro a hf
    refine O.callR hf rfl rfl rfl (RunE.call (av:=#[vl]) C_ok_34 rfl rfl rfl) (hisE vl l _ (hS.rdAt (j:=0) rfl) hfit hr e hm) ?_
    clear hf a
    rintro ⟨gn1,gm1⟩ w2 hS1 a hf
    replace hf:Fr a _ _ ((12,.tuple #[gn1,gm1,.int .i64 e])::_):=hf
    replace hS:=(hS.call hS1).eqM (N:=[pt b_c1 (.cells #[.int .u8 c.kind,.int .i64 c.a.num,.int .i64 c.a.yr,.int .u8 c.a.half,.int .u8 c.a.sec,.int .i64 c.a.cyc,.int .i64 c.b.num,.int .i64 c.b.yr,.int .u8 c.b.half,.int .u8 c.b.sec,.int .i64 c.b.cyc,.int .i64 c.n] 26 (0,0))]) rfl
    clear hS1
    refine O.val hf rfl rfl rfl (RunV.move rfl) ?_
    clear hf a; intro a hf
    refine O.val hf rfl rfl rfl (RunV.extract rfl rfl) ?_
    clear hf a; intro a hf
    refine O.val hf rfl rfl rfl (RunV.extract rfl rfl) ?_
    clear hf a; intro a hf
    refine O.val hf rfl rfl rfl (RunV.extract rfl rfl) ?_
    clear hf a; intro a hf
    refine O.val hf rfl rfl rfl (RunV.assign rfl) ?_
    clear hf a; intro a hf
    refine O.val hf rfl rfl rfl (RunV.assign rfl) ?_
    clear hf a; intro a hf
    refine O.val hf rfl rfl rfl (RunV.assign rfl) ?_
    clear hf a; intro a hf
    refine O.nil ?_
    refine k_seq ?_
    replace hf:Fr a 38 [] [(0,vl),(3,.pointer (some ⟨b_c1,0,none⟩)),(4,.slice none 0 0),(5,.int .i64 0),(8,.int .i64 e)]:=hf.to ⟨rfl,rfl,rfl,rfl,rfl,trivial⟩
    refine W.seq ?_
    refine W.seq ?_
    refine W.regionL (l:=[0,1]) rfl ?_
    refine O.val hf rfl rfl rfl (RunV.move rfl) ?_
    clear hf a; intro a hf
    refine O.val (v:=.bool (decide (e≠(0:Int)))) hf rfl rfl rfl (RunV.neq rfl rfl) ?_
    clear hf a; intro a hf
    refine O.nil ?_
    refine k_seq ?_
    replace hf:Fr a 38 [] [(0,vl),(3,.pointer (some ⟨b_c1,0,none⟩)),(4,.slice none 0 0),(5,.int .i64 0),(8,.int .i64 e),(17,.bool (decide (e≠(0:Int))))]:=hf.to ⟨rfl,rfl,rfl,rfl,rfl,rfl,trivial⟩
    have hbc:(decide (e≠(0:Int)))=true:=decide_eq_true he0
    simp only [hbc] at hf; clear hbc
    refine W.if_tt hf rfl ?_
    refine W.seq ?_
    refine W.regionL (l:=[0,1,2]) rfl ?_
    refine O.val hf rfl rfl rfl (RunV.move rfl) ?_
    clear hf a; intro a hf
    refine O.val hf rfl rfl rfl (RunV.assign rfl) ?_
    clear hf a; intro a hf
    refine O.val hf rfl rfl rfl (RunV.assign rfl) ?_
    clear hf a; intro a hf
    refine O.nil ?_
    refine k_seq ?_
    replace hf:Fr a 38 [] [(0,vl),(3,.pointer (some ⟨b_c1,0,none⟩)),(4,.slice none 0 0),(5,.int .i64 e),(8,.int .i64 e)]:=hf.to ⟨rfl,rfl,rfl,rfl,rfl,trivial⟩
    refine W.ret ?_
    refine k_then_ret ?_
    refine post2 hf rfl (ResOK.tmp rfl) (ResOK.tmp rfl) ?_
    have hS2:=((hS.sub (N:=[]) (List.nil_sublist _)).noB).nilSl 26 12
    exact ⟨(.slice none 0 0,e,[]),rfl,hS2,by exact .inl ⟨e,appM_h hm,rfl,rfl,rfl⟩⟩
  ·
    refine W.regionL (l:=[0,1,2,3,4,5,6,7,8]) rfl ?_
    refine O.val hf rfl rfl rfl (RunV.move rfl) ?_
    clear hf a; intro a hf
    refine O.callR hf rfl rfl rfl (RunE.call (av:=#[vl]) C_ok_34 rfl rfl rfl) (hisO vl l _ (hS.rdAt (j:=0) rfl) hfit hr S us hm) ?_
    clear hf a
    rintro ⟨vo1,vu1,os1,all1⟩ w3 ⟨hS1,href1,hsub1⟩ a hf
    replace hf:Fr a _ _ ((12,.tuple #[vo1,vu1,.int .i64 0])::_):=hf
    replace hS:=(hS.call hS1).eqM (N:=[sl 46 6 vo1 os1.length (encs eO os1),sl 4 1 vu1 us.length (bools us),bigA (all1.map obA),pt b_c1 (.cells #[.int .u8 c.kind,.int .i64 c.a.num,.int .i64 c.a.yr,.int .u8 c.a.half,.int .u8 c.a.sec,.int .i64 c.a.cyc,.int .i64 c.b.num,.int .i64 c.b.yr,.int .u8 c.b.half,.int .u8 c.b.sec,.int .i64 c.b.cyc,.int .i64 c.n] 26 (0,0))]) rfl
    clear hS1
    refine O.val hf rfl rfl rfl (RunV.move rfl) ?_
    clear hf a; intro a hf
    refine O.val hf rfl rfl rfl (RunV.extract rfl rfl) ?_
    clear hf a; intro a hf
    refine O.val hf rfl rfl rfl (RunV.extract rfl rfl) ?_
    clear hf a; intro a hf
    refine O.val hf rfl rfl rfl (RunV.extract rfl rfl) ?_
    clear hf a; intro a hf
    refine O.val hf rfl rfl rfl (RunV.assign rfl) ?_
    clear hf a; intro a hf
    refine O.val hf rfl rfl rfl (RunV.assign rfl) ?_
    clear hf a; intro a hf
    refine O.val hf rfl rfl rfl (RunV.assign rfl) ?_
    clear hf a; intro a hf
    refine O.nil ?_
    refine k_seq ?_
    replace hf:Fr a 38 [] [(0,vl),(3,.pointer (some ⟨b_c1,0,none⟩)),(4,.slice none 0 0),(5,.int .i64 0),(8,.int .i64 0)]:=hf.to ⟨rfl,rfl,rfl,rfl,rfl,trivial⟩
    refine W.seq ?_
    refine W.seq ?_
    refine W.regionL (l:=[0,1]) rfl ?_
    refine O.val hf rfl rfl rfl (RunV.move rfl) ?_
    clear hf a; intro a hf
    refine O.val hf rfl rfl rfl (RunV.toB (c:=false) (RunV.neq rfl rfl) (by decide)) ?_
    clear hf a; intro a hf
    refine O.nil ?_
    refine k_seq ?_
    replace hf:Fr a 38 [] [(0,vl),(3,.pointer (some ⟨b_c1,0,none⟩)),(4,.slice none 0 0),(5,.int .i64 0),(8,.int .i64 0),(17,.bool false)]:=hf.to ⟨rfl,rfl,rfl,rfl,rfl,rfl,trivial⟩
    refine W.if_ff hf rfl ?_
    refine W.skip ?_
    refine k_seq ?_
    replace hf:Fr a 38 [] [(0,vl),(3,.pointer (some ⟨b_c1,0,none⟩)),(4,.slice none 0 0),(5,.int .i64 0),(8,.int .i64 0)]:=hf.to ⟨rfl,rfl,rfl,rfl,rfl,trivial⟩
    refine W.seq ?_
    refine W.seq ?_
    refine W.regionL (l:=[0,1,2]) rfl ?_
    refine O.val hf rfl rfl rfl (RunV.loadN (cs':=#[.int .u8 c.kind,.int .i64 c.a.num,.int .i64 c.a.yr,.int .u8 c.a.half,.int .u8 c.a.sec,.int .i64 c.a.cyc,.int .i64 c.b.num,.int .i64 c.b.yr,.int .u8 c.b.half,.int .u8 c.b.sec,.int .i64 c.b.cyc,.int .i64 c.n]) T_agg_26 T_size_26 rfl (hS.ptAt (i:=3) rfl) (Nat.le_of_ble_eq_true rfl) rfl) ?_
    clear hf a; intro a hf
    refine O.callR hf rfl rfl rfl (RunE.call (av:=#[cV c]) C_ok_26 rfl rfl rfl) (check26_spec c _ hrc) ?_
    clear hf a
    rintro _ w4 hS1 a hf
    replace hf:Fr a _ _ ((20,.int .i64 (if okC c then 0 else 8))::_):=hf
    replace hS:=(hS.call hS1).eqM (N:=[sl 46 6 vo1 os1.length (encs eO os1),sl 4 1 vu1 us.length (bools us),bigA (all1.map obA),pt b_c1 (.cells #[.int .u8 c.kind,.int .i64 c.a.num,.int .i64 c.a.yr,.int .u8 c.a.half,.int .u8 c.a.sec,.int .i64 c.a.cyc,.int .i64 c.b.num,.int .i64 c.b.yr,.int .u8 c.b.half,.int .u8 c.b.sec,.int .i64 c.b.cyc,.int .i64 c.n] 26 (0,0))]) rfl
    clear hS1
    refine O.val (v:=.bool (decide ((if okC c then 0 else 8)≠(0:Int)))) hf rfl rfl rfl (RunV.neq rfl rfl) ?_
    clear hf a; intro a hf
    refine O.nil ?_
    refine k_seq ?_
    replace hf:Fr a 38 [] [(0,vl),(3,.pointer (some ⟨b_c1,0,none⟩)),(4,.slice none 0 0),(5,.int .i64 0),(8,.int .i64 0),(21,.bool (decide ((if okC c then 0 else 8)≠(0:Int))))]:=hf.to ⟨rfl,rfl,rfl,rfl,rfl,rfl,trivial⟩
    refine W.ifdI hf rfl (fun hcd=>?_) (fun hcd=>?_)
    · refine W.seq ?_
      refine W.regionL (l:=[0,1]) rfl ?_
      refine O.val hf rfl rfl rfl (RunV.assign rfl) ?_
      clear hf a; intro a hf
      refine O.val hf rfl rfl rfl (RunV.assign rfl) ?_
      clear hf a; intro a hf
      refine O.nil ?_
      refine k_seq ?_
      refine W.ret ?_
      refine k_then_ret ?_
      refine post2 hf rfl (ResOK.tmp rfl) (ResOK.tmp rfl) ?_
      have hS2:=((hS.sub (N:=[]) (List.nil_sublist _)).noB).nilSl 26 12
      exact ⟨(.slice none 0 0,8,[]),rfl,hS2,by exact .inl ⟨8,appM_c hm (okE_neC hcd),rfl,rfl,rfl⟩⟩
    · refine W.skip ?_
      refine k_seq ?_
      refine W.seq ?_
      have hf1:Fr a 38 [] []:=hf.to trivial
      replace hf:Fr a 38 [] [(0,vl),(3,.pointer (some ⟨b_c1,0,none⟩)),(4,.slice none 0 0),(5,.int .i64 0),(8,.int .i64 0)]:=hf.to ⟨rfl,rfl,rfl,rfl,rfl,trivial⟩
      replace hS:=hS.drew
      replace hS:=hS.emp
      let LZ170:List (Nat × Value):=[(0,vl),(3,.pointer (some ⟨b_c1,0,none⟩)),(4,.slice none 0 0),(5,.int .i64 0),(8,.int .i64 0)]
      let MZ170:List Asr:=[sl 46 6 vo1 os1.length (encs eO os1),sl 4 1 vu1 us.length (bools us),bigA (all1.map obA),pt b_c1 (.cells #[.int .u8 c.kind,.int .i64 c.a.num,.int .i64 c.a.yr,.int .u8 c.a.half,.int .u8 c.a.sec,.int .i64 c.a.cyc,.int .i64 c.b.num,.int .i64 c.b.yr,.int .u8 c.b.half,.int .u8 c.b.sec,.int .i64 c.b.cyc,.int .i64 c.n] 26 (0,0))]
      refine W.drawC (γ:=(Nat) × (Nat) × (Value) × (Value)) (L0:=LZ170) (L1:=[]) (0,0,default,default) [0,2,5] [4] [1,3,6] (fun i=>match i with | 2=>[0,1] | 4=>[3] | 5=>[2,4] | 6=>[0,1,2,3,4,5] | _=>[]) (fun i=>match i with | 2=>[0] | 5=>[0,2,4] | 6=>[0,2,5,4] | _=>[]) (fun i=>match i with | 0=>[2,5] | 1=>[2,5] | 2=>[5] | 3=>[5] | 4=>[5] | _=>[]) (fun i=>match i with | 5=>[4] | 6=>[4] | _=>[]) (fun i=>match i with | 0=>[2,5,6] | 2=>[5,6] | 4=>[5,6] | 5=>[6] | _=>[]) (fun _=>[]) (fun i=>match i with | 2=>1 | 5=>2 | 6=>3 | _=>0) (fun i=>match i with | 0=>1 | 1=>1 | 2=>2 | 3=>2 | 4=>2 | 5=>3 | 6=>3 | _=>0) (fun (g:(Nat) × (Nat) × (Value) × (Value)) j=>match g,j with | ⟨b_s6,b_s7,v8,v9⟩,0=>.slice (some ⟨b_s7,0,none⟩) 0 0 | ⟨b_s6,b_s7,v8,v9⟩,1=>vl | ⟨b_s6,b_s7,v8,v9⟩,2=>v8 | ⟨b_s6,b_s7,v8,v9⟩,3=>.agg #[.int .u8 c.kind,.int .i64 c.a.num,.int .i64 c.a.yr,.int .u8 c.a.half,.int .u8 c.a.sec,.int .i64 c.a.cyc,.int .i64 c.b.num,.int .i64 c.b.yr,.int .u8 c.b.half,.int .u8 c.b.sec,.int .i64 c.b.cyc,.int .i64 c.n] | ⟨b_s6,b_s7,v8,v9⟩,4=>.slice (some ⟨b_s6,0,none⟩) 1 1 | ⟨b_s6,b_s7,v8,v9⟩,5=>v9 | ⟨b_s6,b_s7,v8,v9⟩,6=>v9 | _,_=>undef) (fun k s (g:(Nat) × (Nat) × (Value) × (Value)) w=>match k,g with | 0,⟨b_s6,b_s7,v8,v9⟩=>St w0 w noX [rdv 12 vl l.length (encs eC l)] (condA (s 4) (pt b_s6 (.cells #[.int .u8 c.kind,.int .i64 c.a.num,.int .i64 c.a.yr,.int .u8 c.a.half,.int .u8 c.a.sec,.int .i64 c.a.cyc,.int .i64 c.b.num,.int .i64 c.b.yr,.int .u8 c.b.half,.int .u8 c.b.sec,.int .i64 c.b.cyc,.int .i64 c.n] 26 (0,0)))::MZ170) | 1,⟨b_s6,b_s7,v8,v9⟩=>St w0 w noX [rdv 12 vl l.length (encs eC l)] (sl 26 12 (.slice (some ⟨b_s7,0,none⟩) 0 0) 0 ([])::condA (s 4) (pt b_s6 (.cells #[.int .u8 c.kind,.int .i64 c.a.num,.int .i64 c.a.yr,.int .u8 c.a.half,.int .u8 c.a.sec,.int .i64 c.a.cyc,.int .i64 c.b.num,.int .i64 c.b.yr,.int .u8 c.b.half,.int .u8 c.b.sec,.int .i64 c.b.cyc,.int .i64 c.n] 26 (0,0)))::MZ170) | 2,⟨b_s6,b_s7,v8,v9⟩=>St w0 w noX [rdv 12 vl l.length (encs eC l)] (sl 26 12 v8 l.length (encs eC l)::condA (s 4) (pt b_s6 (.cells #[.int .u8 c.kind,.int .i64 c.a.num,.int .i64 c.a.yr,.int .u8 c.a.half,.int .u8 c.a.sec,.int .i64 c.a.cyc,.int .i64 c.b.num,.int .i64 c.b.yr,.int .u8 c.b.half,.int .u8 c.b.sec,.int .i64 c.b.cyc,.int .i64 c.n] 26 (0,0)))::MZ170) | _,⟨b_s6,b_s7,v8,v9⟩=>St w0 w noX [rdv 12 vl l.length (encs eC l)] (sl 26 12 v9 ((l++[c]).length) (encs eC (l++[c]))::pt b_s6 (.cells #[.int .u8 c.kind,.int .i64 c.a.num,.int .i64 c.a.yr,.int .u8 c.a.half,.int .u8 c.a.sec,.int .i64 c.a.cyc,.int .i64 c.b.num,.int .i64 c.b.yr,.int .u8 c.b.half,.int .u8 c.b.sec,.int .i64 c.b.cyc,.int .i64 c.n] 26 (0,0))::MZ170)) P_mixed (by kernel_rfl) (by kernel_rfl) (by kernel_rfl) hf hf1 hS ?_ ?_ ?_ ?_
      · clear hf hf1 hS
        refine ⟨?_,?_,?_,trivial⟩
        · intro k s g w h1_ h2_ hsp hD a hf
          obtain ⟨b_s6,b_s7,v8,v9⟩:=g
          rcases k with _ | _ | k
          · have hS:St w0 w noX [rdv 12 vl l.length (encs eC l)] (condA (s 4) (pt b_s6 (.cells #[.int .u8 c.kind,.int .i64 c.a.num,.int .i64 c.a.yr,.int .u8 c.a.half,.int .u8 c.a.sec,.int .i64 c.a.cyc,.int .i64 c.b.num,.int .i64 c.b.yr,.int .u8 c.b.half,.int .u8 c.b.sec,.int .i64 c.b.cyc,.int .i64 c.n] 26 (0,0)))::MZ170):=hD;
            replace hf:Fr a 38 [] LZ170:=hf
            refine O.val hf rfl rfl rfl (RunV.move rfl) ?_
            clear hf a; intro a hf
            exact O.nil ⟨rfl,hf.to trivial,(gt (d:=23) hf rfl rfl),hD⟩
          · have hS:St w0 w noX [rdv 12 vl l.length (encs eC l)] (sl 26 12 (.slice (some ⟨b_s7,0,none⟩) 0 0) 0 ([])::condA (s 4) (pt b_s6 (.cells #[.int .u8 c.kind,.int .i64 c.a.num,.int .i64 c.a.yr,.int .u8 c.a.half,.int .u8 c.a.sec,.int .i64 c.a.cyc,.int .i64 c.b.num,.int .i64 c.b.yr,.int .u8 c.b.half,.int .u8 c.b.sec,.int .i64 c.b.cyc,.int .i64 c.n] 26 (0,0)))::MZ170):=hD;
            replace hf:Fr a 38 [] LZ170:=hf
            refine O.val hf rfl rfl rfl (RunV.move rfl) ?_
            clear hf a; intro a hf
            exact O.nil ⟨rfl,hf.to trivial,(gt (d:=23) hf rfl rfl),hD⟩
          · exact absurd h2_ (by simp)
        · intro k s g w h1_ h2_ hsp hD a hf
          obtain ⟨b_s6,b_s7,v8,v9⟩:=g
          rcases k with _ | _ | _ | k
          · have hS:St w0 w noX [rdv 12 vl l.length (encs eC l)] (condA (s 4) (pt b_s6 (.cells #[.int .u8 c.kind,.int .i64 c.a.num,.int .i64 c.a.yr,.int .u8 c.a.half,.int .u8 c.a.sec,.int .i64 c.a.cyc,.int .i64 c.b.num,.int .i64 c.b.yr,.int .u8 c.b.half,.int .u8 c.b.sec,.int .i64 c.b.cyc,.int .i64 c.n] 26 (0,0)))::MZ170):=hD;
            replace hf:Fr a 38 [] LZ170:=hf
            refine O.val hf rfl rfl rfl (RunV.loadN (cs':=#[.int .u8 c.kind,.int .i64 c.a.num,.int .i64 c.a.yr,.int .u8 c.a.half,.int .u8 c.a.sec,.int .i64 c.a.cyc,.int .i64 c.b.num,.int .i64 c.b.yr,.int .u8 c.b.half,.int .u8 c.b.sec,.int .i64 c.b.cyc,.int .i64 c.n]) T_agg_26 T_size_26 rfl (hS.ptAt (i:=4) rfl) (Nat.le_of_ble_eq_true rfl) rfl) ?_
            clear hf a; intro a hf
            exact O.nil ⟨rfl,hf.to trivial,(gt (d:=25) hf rfl rfl),hD⟩
          · have hS:St w0 w noX [rdv 12 vl l.length (encs eC l)] (sl 26 12 (.slice (some ⟨b_s7,0,none⟩) 0 0) 0 ([])::condA (s 4) (pt b_s6 (.cells #[.int .u8 c.kind,.int .i64 c.a.num,.int .i64 c.a.yr,.int .u8 c.a.half,.int .u8 c.a.sec,.int .i64 c.a.cyc,.int .i64 c.b.num,.int .i64 c.b.yr,.int .u8 c.b.half,.int .u8 c.b.sec,.int .i64 c.b.cyc,.int .i64 c.n] 26 (0,0)))::MZ170):=hD;
            replace hf:Fr a 38 [] LZ170:=hf
            refine O.val hf rfl rfl rfl (RunV.loadN (cs':=#[.int .u8 c.kind,.int .i64 c.a.num,.int .i64 c.a.yr,.int .u8 c.a.half,.int .u8 c.a.sec,.int .i64 c.a.cyc,.int .i64 c.b.num,.int .i64 c.b.yr,.int .u8 c.b.half,.int .u8 c.b.sec,.int .i64 c.b.cyc,.int .i64 c.n]) T_agg_26 T_size_26 rfl (hS.ptAt (i:=5) rfl) (Nat.le_of_ble_eq_true rfl) rfl) ?_
            clear hf a; intro a hf
            exact O.nil ⟨rfl,hf.to trivial,(gt (d:=25) hf rfl rfl),hD⟩
          · have hS:St w0 w noX [rdv 12 vl l.length (encs eC l)] (sl 26 12 v8 l.length (encs eC l)::condA (s 4) (pt b_s6 (.cells #[.int .u8 c.kind,.int .i64 c.a.num,.int .i64 c.a.yr,.int .u8 c.a.half,.int .u8 c.a.sec,.int .i64 c.a.cyc,.int .i64 c.b.num,.int .i64 c.b.yr,.int .u8 c.b.half,.int .u8 c.b.sec,.int .i64 c.b.cyc,.int .i64 c.n] 26 (0,0)))::MZ170):=hD;
            replace hf:Fr a 38 [] LZ170:=hf
            refine O.val hf rfl rfl rfl (RunV.loadN (cs':=#[.int .u8 c.kind,.int .i64 c.a.num,.int .i64 c.a.yr,.int .u8 c.a.half,.int .u8 c.a.sec,.int .i64 c.a.cyc,.int .i64 c.b.num,.int .i64 c.b.yr,.int .u8 c.b.half,.int .u8 c.b.sec,.int .i64 c.b.cyc,.int .i64 c.n]) T_agg_26 T_size_26 rfl (hS.ptAt (i:=5) rfl) (Nat.le_of_ble_eq_true rfl) rfl) ?_
            clear hf a; intro a hf
            exact O.nil ⟨rfl,hf.to trivial,(gt (d:=25) hf rfl rfl),hD⟩
          · exact absurd h2_ (by simp)
        · intro k s g w h1_ h2_ hsp hD a hf
          obtain ⟨b_s6,b_s7,v8,v9⟩:=g
          obtain rfl:k=3:=Nat.le_antisymm h2_ h1_
          have ha_4:s 4=true:=hsp 4 (by simp)
          have hS:St w0 w noX [rdv 12 vl l.length (encs eC l)] (sl 26 12 v9 ((l++[c]).length) (encs eC (l++[c]))::pt b_s6 (.cells #[.int .u8 c.kind,.int .i64 c.a.num,.int .i64 c.a.yr,.int .u8 c.a.half,.int .u8 c.a.sec,.int .i64 c.a.cyc,.int .i64 c.b.num,.int .i64 c.b.yr,.int .u8 c.b.half,.int .u8 c.b.sec,.int .i64 c.b.cyc,.int .i64 c.n] 26 (0,0))::MZ170):=hD;
          replace hS:St w0 w noX [rdv 12 vl l.length (encs eC l)] (sl 26 12 v9 ((l++[c]).length) (encs eC (l++[c]))::pt b_s6 (.cells #[.int .u8 c.kind,.int .i64 c.a.num,.int .i64 c.a.yr,.int .u8 c.a.half,.int .u8 c.a.sec,.int .i64 c.a.cyc,.int .i64 c.b.num,.int .i64 c.b.yr,.int .u8 c.b.half,.int .u8 c.b.sec,.int .i64 c.b.cyc,.int .i64 c.n] 26 (0,0))::MZ170):=hS
          replace hf:Fr a 38 [] ((22,.slice (some ⟨b_s7,0,none⟩) 0 0)::(23,vl)::(24,v8)::(25,.agg #[.int .u8 c.kind,.int .i64 c.a.num,.int .i64 c.a.yr,.int .u8 c.a.half,.int .u8 c.a.sec,.int .i64 c.a.cyc,.int .i64 c.b.num,.int .i64 c.b.yr,.int .u8 c.b.half,.int .u8 c.b.sec,.int .i64 c.b.cyc,.int .i64 c.n])::(26,.slice (some ⟨b_s6,0,none⟩) 1 1)::(27,v9)::LZ170):=hf
          refine O.val hf rfl rfl rfl (RunV.assign rfl) ?_
          clear hf a; intro a hf
          exact O.nil ⟨rfl,hf.to trivial,(gt (d:=9) hf rfl rfl),hD⟩
      · clear hf hf1 hS
        refine ⟨?_,?_,?_,trivial⟩
        · intro s g w hsp hD a hf
          obtain ⟨b_s6,b_s7,v8,v9⟩:=g
          have hS:St w0 w noX [rdv 12 vl l.length (encs eC l)] (condA (s 4) (pt b_s6 (.cells #[.int .u8 c.kind,.int .i64 c.a.num,.int .i64 c.a.yr,.int .u8 c.a.half,.int .u8 c.a.sec,.int .i64 c.a.cyc,.int .i64 c.b.num,.int .i64 c.b.yr,.int .u8 c.b.half,.int .u8 c.b.sec,.int .i64 c.b.cyc,.int .i64 c.n] 26 (0,0)))::MZ170):=hD;
          replace hf:Fr a 38 [] LZ170:=hf
          clear hD
          refine O.buildSlice0 hf hS rfl rfl T_elem_22 T_size_26 rfl ?_
          clear hf hS a; intro b_s10 w a hbb_s10 hS hf
          exact O.nil ⟨rfl,(b_s6,b_s10,v8,v9),hf.to trivial,(gt (d:=22) hf rfl rfl),(fun j_ hj_ ha_=>match j_,hj_,ha_ with | 0,hj_,ha_=>absurd rfl hj_ | 1,hj_,ha_=>rfl | 2,hj_,ha_=>absurd ha_ (by decide) | 3,hj_,ha_=>rfl | 4,hj_,ha_=>rfl | 5,hj_,ha_=>absurd ha_ (by decide) | 6,hj_,ha_=>absurd ha_ (by decide) | _+7,_,_=>rfl),hS⟩
        · intro s g w hsp hD a hf
          obtain ⟨b_s6,b_s7,v8,v9⟩:=g
          have hS:St w0 w noX [rdv 12 vl l.length (encs eC l)] (sl 26 12 (.slice (some ⟨b_s7,0,none⟩) 0 0) 0 ([])::condA (s 4) (pt b_s6 (.cells #[.int .u8 c.kind,.int .i64 c.a.num,.int .i64 c.a.yr,.int .u8 c.a.half,.int .u8 c.a.sec,.int .i64 c.a.cyc,.int .i64 c.b.num,.int .i64 c.b.yr,.int .u8 c.b.half,.int .u8 c.b.sec,.int .i64 c.b.cyc,.int .i64 c.n] 26 (0,0)))::MZ170):=hD;
          replace hf:Fr a 38 [] ((22,.slice (some ⟨b_s7,0,none⟩) 0 0)::(23,vl)::LZ170):=hf
          clear hD
          replace hS:St w0 w noX [rdv 12 vl l.length (encs eC l)] (slE 26 12 eC (.slice (some ⟨b_s7,0,none⟩) 0 0) ([]:List Ch)::condA (s 4) (pt b_s6 (.cells #[.int .u8 c.kind,.int .i64 c.a.num,.int .i64 c.a.yr,.int .u8 c.a.half,.int .u8 c.a.sec,.int .i64 c.a.cyc,.int .i64 c.b.num,.int .i64 c.b.yr,.int .u8 c.b.half,.int .u8 c.b.sec,.int .i64 c.b.cyc,.int .i64 c.n] 26 (0,0)))::MZ170):=hS
          refine O.appendEV (j:=0) (enc:=eC) (l:=([]:List Ch)) (m:=l) (l':=l) hf hS rfl rfl T_elem_22 T_size_26 T_bytes_26 T_zero_26 rfl rfl rfl rfl rfl ⟨hS.rdAt (j:=0) rfl,hfit⟩ (fun _=>rfl) (by decide) (by omega) rfl rfl ?_
          clear hf hS a; intro v11 w a hS hf
          replace hS:St w0 w noX [rdv 12 vl l.length (encs eC l)] (sl 26 12 v11 l.length (encs eC l)::condA (s 4) (pt b_s6 (.cells #[.int .u8 c.kind,.int .i64 c.a.num,.int .i64 c.a.yr,.int .u8 c.a.half,.int .u8 c.a.sec,.int .i64 c.a.cyc,.int .i64 c.b.num,.int .i64 c.b.yr,.int .u8 c.b.half,.int .u8 c.b.sec,.int .i64 c.b.cyc,.int .i64 c.n] 26 (0,0)))::MZ170):=hS
          exact O.nil ⟨rfl,(b_s6,b_s7,v11,v9),hf.to trivial,(gt (d:=24) hf rfl rfl),(fun j_ hj_ ha_=>match j_,hj_,ha_ with | 0,hj_,ha_=>rfl | 1,hj_,ha_=>rfl | 2,hj_,ha_=>absurd rfl hj_ | 3,hj_,ha_=>rfl | 4,hj_,ha_=>rfl | 5,hj_,ha_=>absurd ha_ (by decide) | 6,hj_,ha_=>absurd ha_ (by decide) | _+7,_,_=>rfl),hS⟩
        · intro s g w hsp hD a hf
          obtain ⟨b_s6,b_s7,v8,v9⟩:=g
          have ha_4:s 4=true:=hsp 4 (by simp)
          have hS:St w0 w noX [rdv 12 vl l.length (encs eC l)] (sl 26 12 v8 l.length (encs eC l)::condA (s 4) (pt b_s6 (.cells #[.int .u8 c.kind,.int .i64 c.a.num,.int .i64 c.a.yr,.int .u8 c.a.half,.int .u8 c.a.sec,.int .i64 c.a.cyc,.int .i64 c.b.num,.int .i64 c.b.yr,.int .u8 c.b.half,.int .u8 c.b.sec,.int .i64 c.b.cyc,.int .i64 c.n] 26 (0,0)))::MZ170):=hD; rw [ha_4] at hS
          replace hS:St w0 w noX [rdv 12 vl l.length (encs eC l)] (sl 26 12 v8 l.length (encs eC l)::pt b_s6 (.cells #[.int .u8 c.kind,.int .i64 c.a.num,.int .i64 c.a.yr,.int .u8 c.a.half,.int .u8 c.a.sec,.int .i64 c.a.cyc,.int .i64 c.b.num,.int .i64 c.b.yr,.int .u8 c.b.half,.int .u8 c.b.sec,.int .i64 c.b.cyc,.int .i64 c.n] 26 (0,0))::MZ170):=hS
          replace hf:Fr a 38 [] ((24,v8)::(26,.slice (some ⟨b_s6,0,none⟩) 1 1)::LZ170):=hf
          clear hD
          refine O.append1 (j:=0) (jj:=1) hf hS rfl rfl T_elem_22 T_size_26 T_bytes_26 T_zero_26 rfl rfl rfl rfl rfl rfl rfl rfl (by unfold maxLen; omega) (by omega) ?_
          clear hf hS a; intro v12 w a hS hf
          replace hS:=hS.eqM (N:=(sl 26 12 v12 (l.length+1) (encs eC l++[.int .u8 c.kind,.int .i64 c.a.num,.int .i64 c.a.yr,.int .u8 c.a.half,.int .u8 c.a.sec,.int .i64 c.a.cyc,.int .i64 c.b.num,.int .i64 c.b.yr,.int .u8 c.b.half,.int .u8 c.b.sec,.int .i64 c.b.cyc,.int .i64 c.n])::pt b_s6 (.cells #[.int .u8 c.kind,.int .i64 c.a.num,.int .i64 c.a.yr,.int .u8 c.a.half,.int .u8 c.a.sec,.int .i64 c.a.cyc,.int .i64 c.b.num,.int .i64 c.b.yr,.int .u8 c.b.half,.int .u8 c.b.sec,.int .i64 c.b.cyc,.int .i64 c.n] 26 (0,0))::MZ170)) rfl
          replace hS:=hS.reE (i:=0) (M':=(sl 26 12 v12 ((l++[c]).length) (encs eC (l++[c]))::pt b_s6 (.cells #[.int .u8 c.kind,.int .i64 c.a.num,.int .i64 c.a.yr,.int .u8 c.a.half,.int .u8 c.a.sec,.int .i64 c.a.cyc,.int .i64 c.b.num,.int .i64 c.b.yr,.int .u8 c.b.half,.int .u8 c.b.sec,.int .i64 c.b.cyc,.int .i64 c.n] 26 (0,0))::MZ170)) rfl (sl_snoc (enc:=eC) (l:=l) (x:=c)) rfl
          exact O.nil ⟨rfl,(b_s6,b_s7,v8,v12),hf.to trivial,(gt (d:=27) hf rfl rfl),(fun j_ hj_ ha_=>match j_,hj_,ha_ with | 0,hj_,ha_=>rfl | 1,hj_,ha_=>rfl | 2,hj_,ha_=>rfl | 3,hj_,ha_=>rfl | 4,hj_,ha_=>rfl | 5,hj_,ha_=>absurd rfl hj_ | 6,hj_,ha_=>absurd ha_ (by decide) | _+7,_,_=>rfl),hS⟩
      · clear hf hf1 hS
        refine ⟨?_,trivial⟩
        · intro k s g w h1_ h2_ hs0 hD a hf
          obtain ⟨b_s6,b_s7,v8,v9⟩:=g
          rcases k with _ | _ | _ | k
          · have hS:St w0 w noX [rdv 12 vl l.length (encs eC l)] (condA (s 4) (pt b_s6 (.cells #[.int .u8 c.kind,.int .i64 c.a.num,.int .i64 c.a.yr,.int .u8 c.a.half,.int .u8 c.a.sec,.int .i64 c.a.cyc,.int .i64 c.b.num,.int .i64 c.b.yr,.int .u8 c.b.half,.int .u8 c.b.sec,.int .i64 c.b.cyc,.int .i64 c.n] 26 (0,0)))::MZ170):=hD; clear hD
            replace hf:Fr a 38 [] ((25,.agg #[.int .u8 c.kind,.int .i64 c.a.num,.int .i64 c.a.yr,.int .u8 c.a.half,.int .u8 c.a.sec,.int .i64 c.a.cyc,.int .i64 c.b.num,.int .i64 c.b.yr,.int .u8 c.b.half,.int .u8 c.b.sec,.int .i64 c.b.cyc,.int .i64 c.n])::LZ170):=hf
            refine O.buildC (j:=0) (cs':=#[.int .u8 c.kind,.int .i64 c.a.num,.int .i64 c.a.yr,.int .u8 c.a.half,.int .u8 c.a.sec,.int .i64 c.a.cyc,.int .i64 c.b.num,.int .i64 c.b.yr,.int .u8 c.b.half,.int .u8 c.b.sec,.int .i64 c.b.cyc,.int .i64 c.n]) (zs:=#[.int .u8 0,.int .i64 0,.int .i64 0,.int .u8 0,.int .u8 0,.int .i64 0,.int .i64 0,.int .i64 0,.int .u8 0,.int .u8 0,.int .i64 0,.int .i64 0]) hf hS rfl hs0 rfl rfl T_elem_22 T_size_26 T_zero_26 rfl rfl (by kernel_rfl) rfl (by kernel_rfl) ?_; clear hf hS a; intro b_s13 w a hS hf
            exact O.nil ⟨rfl,(b_s13,b_s7,v8,v9),hf.to trivial,(gt (d:=26) hf rfl rfl),(fun j_ hj_ ha_=>match j_,hj_,ha_ with | 0,hj_,ha_=>rfl | 1,hj_,ha_=>rfl | 2,hj_,ha_=>rfl | 3,hj_,ha_=>rfl | 4,hj_,ha_=>absurd rfl hj_ | 5,hj_,ha_=>absurd ha_ (by decide) | 6,hj_,ha_=>absurd ha_ (by decide) | _+7,_,_=>rfl),hS⟩
          · have hS:St w0 w noX [rdv 12 vl l.length (encs eC l)] (sl 26 12 (.slice (some ⟨b_s7,0,none⟩) 0 0) 0 ([])::condA (s 4) (pt b_s6 (.cells #[.int .u8 c.kind,.int .i64 c.a.num,.int .i64 c.a.yr,.int .u8 c.a.half,.int .u8 c.a.sec,.int .i64 c.a.cyc,.int .i64 c.b.num,.int .i64 c.b.yr,.int .u8 c.b.half,.int .u8 c.b.sec,.int .i64 c.b.cyc,.int .i64 c.n] 26 (0,0)))::MZ170):=hD; clear hD
            replace hf:Fr a 38 [] ((25,.agg #[.int .u8 c.kind,.int .i64 c.a.num,.int .i64 c.a.yr,.int .u8 c.a.half,.int .u8 c.a.sec,.int .i64 c.a.cyc,.int .i64 c.b.num,.int .i64 c.b.yr,.int .u8 c.b.half,.int .u8 c.b.sec,.int .i64 c.b.cyc,.int .i64 c.n])::LZ170):=hf
            refine O.buildC (j:=1) (cs':=#[.int .u8 c.kind,.int .i64 c.a.num,.int .i64 c.a.yr,.int .u8 c.a.half,.int .u8 c.a.sec,.int .i64 c.a.cyc,.int .i64 c.b.num,.int .i64 c.b.yr,.int .u8 c.b.half,.int .u8 c.b.sec,.int .i64 c.b.cyc,.int .i64 c.n]) (zs:=#[.int .u8 0,.int .i64 0,.int .i64 0,.int .u8 0,.int .u8 0,.int .i64 0,.int .i64 0,.int .i64 0,.int .u8 0,.int .u8 0,.int .i64 0,.int .i64 0]) hf hS rfl hs0 rfl rfl T_elem_22 T_size_26 T_zero_26 rfl rfl (by kernel_rfl) rfl (by kernel_rfl) ?_; clear hf hS a; intro b_s14 w a hS hf
            exact O.nil ⟨rfl,(b_s14,b_s7,v8,v9),hf.to trivial,(gt (d:=26) hf rfl rfl),(fun j_ hj_ ha_=>match j_,hj_,ha_ with | 0,hj_,ha_=>rfl | 1,hj_,ha_=>rfl | 2,hj_,ha_=>rfl | 3,hj_,ha_=>rfl | 4,hj_,ha_=>absurd rfl hj_ | 5,hj_,ha_=>absurd ha_ (by decide) | 6,hj_,ha_=>absurd ha_ (by decide) | _+7,_,_=>rfl),hS⟩
          · have hS:St w0 w noX [rdv 12 vl l.length (encs eC l)] (sl 26 12 v8 l.length (encs eC l)::condA (s 4) (pt b_s6 (.cells #[.int .u8 c.kind,.int .i64 c.a.num,.int .i64 c.a.yr,.int .u8 c.a.half,.int .u8 c.a.sec,.int .i64 c.a.cyc,.int .i64 c.b.num,.int .i64 c.b.yr,.int .u8 c.b.half,.int .u8 c.b.sec,.int .i64 c.b.cyc,.int .i64 c.n] 26 (0,0)))::MZ170):=hD; clear hD
            replace hf:Fr a 38 [] ((25,.agg #[.int .u8 c.kind,.int .i64 c.a.num,.int .i64 c.a.yr,.int .u8 c.a.half,.int .u8 c.a.sec,.int .i64 c.a.cyc,.int .i64 c.b.num,.int .i64 c.b.yr,.int .u8 c.b.half,.int .u8 c.b.sec,.int .i64 c.b.cyc,.int .i64 c.n])::LZ170):=hf
            refine O.buildC (j:=1) (cs':=#[.int .u8 c.kind,.int .i64 c.a.num,.int .i64 c.a.yr,.int .u8 c.a.half,.int .u8 c.a.sec,.int .i64 c.a.cyc,.int .i64 c.b.num,.int .i64 c.b.yr,.int .u8 c.b.half,.int .u8 c.b.sec,.int .i64 c.b.cyc,.int .i64 c.n]) (zs:=#[.int .u8 0,.int .i64 0,.int .i64 0,.int .u8 0,.int .u8 0,.int .i64 0,.int .i64 0,.int .i64 0,.int .u8 0,.int .u8 0,.int .i64 0,.int .i64 0]) hf hS rfl hs0 rfl rfl T_elem_22 T_size_26 T_zero_26 rfl rfl (by kernel_rfl) rfl (by kernel_rfl) ?_; clear hf hS a; intro b_s15 w a hS hf
            exact O.nil ⟨rfl,(b_s15,b_s7,v8,v9),hf.to trivial,(gt (d:=26) hf rfl rfl),(fun j_ hj_ ha_=>match j_,hj_,ha_ with | 0,hj_,ha_=>rfl | 1,hj_,ha_=>rfl | 2,hj_,ha_=>rfl | 3,hj_,ha_=>rfl | 4,hj_,ha_=>absurd rfl hj_ | 5,hj_,ha_=>absurd ha_ (by decide) | 6,hj_,ha_=>absurd ha_ (by decide) | _+7,_,_=>rfl),hS⟩
          · exact absurd h2_ (by simp)
      clear hf hf1 hS; intro s g a w hs_ hf hD
      obtain ⟨b_s6,b_s7,v8,v9⟩:=g
      have ha_4:s 4=true:=hs_ 4 (by simp)
      have hS:St w0 w noX [rdv 12 vl l.length (encs eC l)] (sl 26 12 v9 ((l++[c]).length) (encs eC (l++[c]))::pt b_s6 (.cells #[.int .u8 c.kind,.int .i64 c.a.num,.int .i64 c.a.yr,.int .u8 c.a.half,.int .u8 c.a.sec,.int .i64 c.a.cyc,.int .i64 c.b.num,.int .i64 c.b.yr,.int .u8 c.b.half,.int .u8 c.b.sec,.int .i64 c.b.cyc,.int .i64 c.n] 26 (0,0))::MZ170):=hD; clear hD
      replace hf:Fr a 38 [] ((22,.slice (some ⟨b_s7,0,none⟩) 0 0)::(23,vl)::(24,v8)::(25,.agg #[.int .u8 c.kind,.int .i64 c.a.num,.int .i64 c.a.yr,.int .u8 c.a.half,.int .u8 c.a.sec,.int .i64 c.a.cyc,.int .i64 c.b.num,.int .i64 c.b.yr,.int .u8 c.b.half,.int .u8 c.b.sec,.int .i64 c.b.cyc,.int .i64 c.n])::(26,.slice (some ⟨b_s6,0,none⟩) 1 1)::(27,v9)::(9,v9)::LZ170):=hf
      refine k_seq ?_
      replace hf:Fr a 38 [] [(4,.slice none 0 0),(5,.int .i64 0),(8,.int .i64 0),(9,v9)]:=hf.to ⟨rfl,rfl,rfl,rfl,trivial⟩
      refine W.seq ?_
      rcases hm2:histM (l++[c]) with e2 | ⟨S2,us2⟩
      · have he2:=histM_ne hm2
        refine W.regionL (l:=[0,1,2,3,4,5,6]) rfl ?_
        refine O.val hf rfl rfl rfl (RunV.move rfl) ?_
        clear hf a; intro a hf
        refine O.callR hf rfl rfl rfl (RunE.call (av:=#[v9]) C_ok_34 rfl rfl rfl) (hisE v9 (l++[c]) _ (hS.slr (j:=0) rfl) (slOK.fit (hS.slAt (j:=0) rfl)) (rC_snoc hr hrc) e2 hm2) ?_
        clear hf a
        rintro ⟨gn2,gm2⟩ w16 hS1 a hf
        replace hf:Fr a _ _ ((30,.tuple #[gn2,gm2,.int .i64 e2])::_):=hf
        replace hS:=(hS.call hS1).eqM (N:=(sl 26 12 v9 ((l++[c]).length) (encs eC (l++[c]))::pt b_s6 (.cells #[.int .u8 c.kind,.int .i64 c.a.num,.int .i64 c.a.yr,.int .u8 c.a.half,.int .u8 c.a.sec,.int .i64 c.a.cyc,.int .i64 c.b.num,.int .i64 c.b.yr,.int .u8 c.b.half,.int .u8 c.b.sec,.int .i64 c.b.cyc,.int .i64 c.n] 26 (0,0))::MZ170)) rfl
        clear hS1
        refine O.val hf rfl rfl rfl (RunV.move rfl) ?_
        clear hf a; intro a hf
        refine O.val hf rfl rfl rfl (RunV.extract rfl rfl) ?_
        clear hf a; intro a hf
        refine O.val hf rfl rfl rfl (RunV.extract rfl rfl) ?_
        clear hf a; intro a hf
        refine O.val hf rfl rfl rfl (RunV.extract rfl rfl) ?_
        clear hf a; intro a hf
        refine O.val hf rfl rfl rfl (RunV.assign rfl) ?_
        clear hf a; intro a hf
        refine O.nil ?_
        refine k_seq ?_
        replace hf:Fr a 38 [] [(4,.slice none 0 0),(5,.int .i64 0),(8,.int .i64 e2),(9,v9)]:=hf.to ⟨rfl,rfl,rfl,rfl,trivial⟩
        refine W.seq ?_
        refine W.seq ?_
        refine W.regionL (l:=[0,1]) rfl ?_
        refine O.val hf rfl rfl rfl (RunV.move rfl) ?_
        clear hf a; intro a hf
        refine O.val (v:=.bool (decide (e2≠(0:Int)))) hf rfl rfl rfl (RunV.neq rfl rfl) ?_
        clear hf a; intro a hf
        refine O.nil ?_
        refine k_seq ?_
        replace hf:Fr a 38 [] [(4,.slice none 0 0),(5,.int .i64 0),(8,.int .i64 e2),(9,v9),(35,.bool (decide (e2≠(0:Int))))]:=hf.to ⟨rfl,rfl,rfl,rfl,rfl,trivial⟩
        have hbc:(decide (e2≠(0:Int)))=true:=decide_eq_true he2
        simp only [hbc] at hf; clear hbc
        refine W.if_tt hf rfl ?_
        refine W.seq ?_
        refine W.regionL (l:=[0,1,2]) rfl ?_
        refine O.val hf rfl rfl rfl (RunV.move rfl) ?_
        clear hf a; intro a hf
        refine O.val hf rfl rfl rfl (RunV.assign rfl) ?_
        clear hf a; intro a hf
        refine O.val hf rfl rfl rfl (RunV.assign rfl) ?_
        clear hf a; intro a hf
        refine O.nil ?_
        refine k_seq ?_
        replace hf:Fr a 38 [] [(4,.slice none 0 0),(5,.int .i64 e2),(9,v9)]:=hf.to ⟨rfl,rfl,rfl,trivial⟩
        refine W.ret ?_
        refine k_then_ret ?_
        refine post2 hf rfl (ResOK.tmp rfl) (ResOK.tmp rfl) ?_
        have hS2:=((hS.sub (N:=[]) (List.nil_sublist _)).noB).nilSl 26 12
        exact ⟨(.slice none 0 0,e2,[]),rfl,hS2,by exact .inl ⟨e2,(appM_o hm (okE_eqC hcd)).trans hm2,rfl,rfl,rfl⟩⟩
      ·
        refine W.regionL (l:=[0,1,2,3,4,5,6]) rfl ?_
        refine O.val hf rfl rfl rfl (RunV.move rfl) ?_
        clear hf a; intro a hf
        refine O.callR hf rfl rfl rfl (RunE.call (av:=#[v9]) C_ok_34 rfl rfl rfl) (hisO v9 (l++[c]) _ (hS.slr (j:=0) rfl) (slOK.fit (hS.slAt (j:=0) rfl)) (rC_snoc hr hrc) S2 us2 hm2) ?_
        clear hf a
        rintro ⟨vo2,vu2,os2,all2⟩ w17 ⟨hS1,href2,hsub2⟩ a hf
        replace hf:Fr a _ _ ((30,.tuple #[vo2,vu2,.int .i64 0])::_):=hf
        replace hS:=(hS.call hS1).eqM (N:=(sl 46 6 vo2 os2.length (encs eO os2)::sl 4 1 vu2 us2.length (bools us2)::bigA (all2.map obA)::sl 26 12 v9 ((l++[c]).length) (encs eC (l++[c]))::pt b_s6 (.cells #[.int .u8 c.kind,.int .i64 c.a.num,.int .i64 c.a.yr,.int .u8 c.a.half,.int .u8 c.a.sec,.int .i64 c.a.cyc,.int .i64 c.b.num,.int .i64 c.b.yr,.int .u8 c.b.half,.int .u8 c.b.sec,.int .i64 c.b.cyc,.int .i64 c.n] 26 (0,0))::MZ170)) rfl
        clear hS1
        refine O.val hf rfl rfl rfl (RunV.move rfl) ?_
        clear hf a; intro a hf
        refine O.val hf rfl rfl rfl (RunV.extract rfl rfl) ?_
        clear hf a; intro a hf
        refine O.val hf rfl rfl rfl (RunV.extract rfl rfl) ?_
        clear hf a; intro a hf
        refine O.val hf rfl rfl rfl (RunV.extract rfl rfl) ?_
        clear hf a; intro a hf
        refine O.val hf rfl rfl rfl (RunV.assign rfl) ?_
        clear hf a; intro a hf
        refine O.nil ?_
        refine k_seq ?_
        replace hf:Fr a 38 [] [(4,.slice none 0 0),(5,.int .i64 0),(8,.int .i64 0),(9,v9)]:=hf.to ⟨rfl,rfl,rfl,rfl,trivial⟩
        refine W.seq ?_
        refine W.seq ?_
        refine W.regionL (l:=[0,1]) rfl ?_
        refine O.val hf rfl rfl rfl (RunV.move rfl) ?_
        clear hf a; intro a hf
        refine O.val hf rfl rfl rfl (RunV.toB (c:=false) (RunV.neq rfl rfl) (by decide)) ?_
        clear hf a; intro a hf
        refine O.nil ?_
        refine k_seq ?_
        replace hf:Fr a 38 [] [(4,.slice none 0 0),(5,.int .i64 0),(8,.int .i64 0),(9,v9),(35,.bool false)]:=hf.to ⟨rfl,rfl,rfl,rfl,rfl,trivial⟩
        refine W.if_ff hf rfl ?_
        refine W.skip ?_
        refine k_seq ?_
        replace hf:Fr a 38 [] [(4,.slice none 0 0),(5,.int .i64 0),(9,v9)]:=hf.to ⟨rfl,rfl,rfl,trivial⟩
        refine W.seq ?_
        refine W.regionL (l:=[0,1,2]) rfl ?_
        refine O.val hf rfl rfl rfl (RunV.move rfl) ?_
        clear hf a; intro a hf
        refine O.val hf rfl rfl rfl (RunV.assign rfl) ?_
        clear hf a; intro a hf
        refine O.val hf rfl rfl rfl (RunV.assign rfl) ?_
        clear hf a; intro a hf
        refine O.nil ?_
        refine k_seq ?_
        replace hf:Fr a 38 [] [(4,v9),(5,.int .i64 0)]:=hf.to ⟨rfl,rfl,trivial⟩
        refine W.ret ?_
        refine post2 hf rfl (ResOK.tmp rfl) (ResOK.tmp rfl) ?_
        exact ⟨(v9,0,(l++[c])),rfl,(hS.sub (N:=[sl 26 12 v9 ((l++[c]).length) (encs eC (l++[c]))]) (.cons _ (.cons _ (.cons _ (.cons_cons _ (.cons _ (.cons _ (.cons _ (.cons _ (.cons _ .slnil)))))))))).noB,.inr ⟨S2,us2,(appM_o hm (okE_eqC hcd)).trans hm2,rfl,rfl⟩⟩
end Go.Proofs.YtgakdmmmljdpjaaDoor

namespace Go.Proofs.YtgakdmmmljdpjaaDoor
open Go Go.SL
section
variable (vl:Value) (l:List Ch) (c:Ch) (w0:World) (hl:rdOK (hp w0) 12 vl l.length (encs eC l)) (hfit:vfit vl) (hr:∀ c ∈ l,rC c) (hrc:rC c) (hz:l.length≤1000)
include hl hfit hr hrc hz
theorem applyR_E (e:Int) (h:appM l c=.error e):Ret Tryd.prog 12 #[vl,cV c] w0 (G:=Unit) (fun _=>.tuple #[.slice none 0 0,.int .i64 e]) (fun _ w=>St w0 w noX [] []) :=
  (applyR_spec vl l c w0 hl hfit hr hrc hz).mono fun g w ⟨h1,h2⟩=>by
    rcases h2 with ⟨e',h3,h4,h5⟩ | ⟨S,us,h3,_⟩
    · rw [h] at h3
      cases h3
      exact ⟨(),by rw [h4,h5.2],(h1.sub (List.nil_sublist _)).noB⟩
    · rw [h] at h3; cases h3
theorem applyR_O (S2:List PG) (us2:List Bool) (h:appM l c=.ok (S2,us2)):Ret Tryd.prog 12 #[vl,cV c] w0 (G:=Value) (fun g=>.tuple #[g,.int .i64 0]) (fun g w=>St w0 w noX [] [slE 26 12 eC g (l++[c])]) :=
  (applyR_spec vl l c w0 hl hfit hr hrc hz).mono fun g w ⟨h1,h2⟩=>by
    rcases h2 with ⟨e',h3,h4,h5⟩ | ⟨S,us,h3,h4,h5⟩
    · rw [h] at h3; cases h3
    · rw [h5] at h1
      exact ⟨g.1,by rw [h4],h1⟩
end
end Go.Proofs.YtgakdmmmljdpjaaDoor

set_option maxHeartbeats 1000000
set_option maxRecDepth 8000
namespace Go.Proofs.YtgakdmmmljdpjaaDoor
open Go Go.SL
theorem C_ok_12:callOK Tryd.prog 12=true:=by kernel_rfl
theorem C_ok_13:callOK Tryd.prog 13=true:=by kernel_rfl
set_option maxHeartbeats 400000 in
set_option maxRecDepth 4000 in
theorem applies_great (vl:Value) (l:List Ch) (c:Ch) (w0:World) (hG:Lent w0 ordA) (hl:rdOK (hp w0) 12 vl l.length (encs eC l)) (hfit:vfit vl) (hr:∀ c ∈ l,rC c) (hrc:rC c) (hg:greatM l.length=true) :
    Ret Tryd.prog 3 #[vl,.agg (aC c)] w0 (G:=Unit) (fun _=>.bool true) (fun _ w=>St w0 w noX [] []):=by
  refine ret_of_W (lv:=[vl,.agg (aC c)]) Tryd.func3 rfl rfl rfl (fun a hf=>?_); replace hf:Fr a 31 [] [(0,vl),(1,.agg (aC c))]:=hf; have hS:St w0 w0 noX [ordA,rdv 12 vl l.length (encs eC l)] []:=((St.refl w0).lend0 hl).lendA hG; have hlm:=hl.2.1; unfold maxLen at hlm; refine W.seq ?_
  refine W.regionL (l:=[0,1]) rfl<|O.box (cs:=(aC c)) hf hS rfl rfl rfl rfl<|?_; intro b_c1 w a hbb_c1 hS hf; refine mv hf rfl ?_; clear hf a; intro a hf; refine nk<|W.seq<|W.seq<|?_
  refine W.regionL (l:=[0,1]) rfl<|mv hf rfl<|?_; clear hf a; intro a hf; refine oc hf rfl C_ok_10 (great_spec vl l _ (hS.rdAt (j:=1) rfl)) ?_; clear hf a; rintro _ w2 hS1 a hf; replace hS:=hS.cl hS1; refine nk ?_; have hbc:(greatM l.length)=true:=hg; simp only [hbc] at hf; clear hbc; refine W.if_tt hf rfl<|W.seq<|?_
  refine W.regionL (l:=[0]) rfl<|mv hf rfl<|?_; clear hf a; intro a hf; refine nk<|W.ret<|k_then_ret<|post1 hf rfl (ResOK.tmp rfl)<|?_; exact ⟨(),rfl,hS.sub (List.nil_sublist _) |>.noB⟩
set_option maxHeartbeats 400000 in
set_option maxRecDepth 4000 in
theorem applies_in (vl:Value) (l:List Ch) (c:Ch) (w0:World) (hG:Lent w0 ordA) (hl:rdOK (hp w0) 12 vl l.length (encs eC l)) (hfit:vfit vl) (hr:∀ c ∈ l,rC c) (hrc:rC c) (hg:greatM l.length=false) :
    Ret Tryd.prog 3 #[vl,.agg (aC c)] w0 (G:=Unit) (fun _=>.bool true) (fun _ w=>St w0 w noX [] []):=by
  refine ret_of_W (lv:=[vl,.agg (aC c)]) Tryd.func3 rfl rfl rfl (fun a hf=>?_); replace hf:Fr a 31 [] [(0,vl),(1,.agg (aC c))]:=hf; have hS:St w0 w0 noX [ordA,rdv 12 vl l.length (encs eC l)] []:=((St.refl w0).lend0 hl).lendA hG; have hlm:=hl.2.1; unfold maxLen at hlm; have hz:=great_len hg; refine W.seq ?_
  refine W.regionL (l:=[0,1]) rfl<|O.box (cs:=(aC c)) hf hS rfl rfl rfl rfl<|?_; intro b_c1 w a hbb_c1 hS hf; refine mv hf rfl ?_; clear hf a; intro a hf; refine nk<|W.seq<|W.seq<|?_
  refine W.regionL (l:=[0,1]) rfl<|mv hf rfl<|?_; clear hf a; intro a hf; refine oc hf rfl C_ok_10 (great_spec vl l _ (hS.rdAt (j:=1) rfl)) ?_; clear hf a; rintro _ w2 hS1 a hf; replace hS:=hS.cl hS1; refine nk ?_; have hbc:(greatM l.length)=false:=hg; simp only [hbc] at hf; clear hbc; refine W.if_ff hf rfl<|W.skip<|k_seq<|W.seq<|?_
  rcases hap:appM l c with e | ⟨S2,us2⟩
  ·
    refine W.regionL (l:=[0,1,2,3,4,5,6,7]) rfl<|mv hf rfl<|?_; clear hf a; intro a hf; refine ov hf rfl (RunV.loadN (cs':=(aC c)) T_agg_26 T_size_26 rfl (hS.p 0 rfl) (bl rfl) rfl) ?_; clear hf a; intro a hf; refine oc hf rfl C_ok_11 (applyE vl l c _ (hS.bptO (i:=0) rfl) (hS.rdAt (j:=1) rfl) hfit (by omega) e hap) ?_; clear hf a; rintro _ w3 hS1 a hf; replace hS:=hS.cl hS1; refine mv hf rfl ?_; clear hf a; intro a hf; refine ov hf rfl (RunV.extract rfl rfl) ?_; clear hf a; intro a hf; refine ov hf rfl (RunV.extract rfl rfl) ?_; clear hf a; intro a hf; refine mv hf rfl ?_; clear hf a; intro a hf; refine mv hf rfl ?_; clear hf a; intro a hf; refine nk<|W.seq<|?_
    refine W.regionL (l:=[0,1,2,3,4,5,6,7]) rfl<|mv hf rfl<|?_; clear hf a; intro a hf; refine ov hf rfl (RunV.loadN (cs':=(aC c)) T_agg_26 T_size_26 rfl (hS.p 0 rfl) (bl rfl) rfl) ?_; clear hf a; intro a hf; refine oc hf rfl C_ok_12 (applyR_E vl l c _ (hS.rdAt (j:=1) rfl) hfit hr hrc (by omega) e hap) ?_; clear hf a; rintro _ w4 hS1 a hf; replace hS:=hS.cl hS1; refine mv hf rfl ?_; clear hf a; intro a hf; refine ov hf rfl (RunV.extract rfl rfl) ?_; clear hf a; intro a hf; refine ov hf rfl (RunV.extract rfl rfl) ?_; clear hf a; intro a hf; refine mv hf rfl ?_; clear hf a; intro a hf; refine mv hf rfl ?_; clear hf a; intro a hf; refine nk<|W.seq<|?_
    refine W.regionL (l:=[0,1,2,3,4,5,6,7,8]) rfl<|mv hf rfl<|?_; clear hf a; intro a hf; refine mv hf rfl ?_; clear hf a; intro a hf; refine oc hf rfl C_ok_13 (sameChanges_true (.slice none 0 0) [] (.slice none 0 0) [] _ rd_nil rd_nil rfl) ?_; clear hf a; rintro _ w5 hS1 a hf; replace hS:=hS.cl hS1; refine mv hf rfl ?_; clear hf a; intro a hf; refine og (v:=.int .i64 e) hf rfl rfl (RunV.move rfl) ?_; clear hf a; intro a hf; refine og (v:=.int .i64 e) hf rfl rfl (RunV.move rfl) ?_; clear hf a; intro a hf; refine og (v:=.bool (decide (e=(e:Int)))) hf rfl rfl (RunV.eql rfl rfl) ?_; clear hf a; intro a hf; refine ov (v:=.bool (decide (e=(e:Int)))) hf rfl (RunV.pick rfl rfl rfl rfl) ?_; clear hf a; intro a hf; refine mv hf rfl ?_; clear hf a; intro a hf; refine nk<|W.ret<|post1 hf rfl (ResOK.tmp rfl)<|?_; exact ⟨(),congrArg (fun b=>Ending.returned (Value.bool b)) (decide_eq_true rfl),hS.sub (List.nil_sublist _) |>.noB⟩
  ·
    refine W.regionL (l:=[0,1,2,3,4,5,6,7]) rfl<|mv hf rfl<|?_; clear hf a; intro a hf; refine ov hf rfl (RunV.loadN (cs':=(aC c)) T_agg_26 T_size_26 rfl (hS.p 0 rfl) (bl rfl) rfl) ?_; clear hf a; intro a hf; refine oc hf rfl C_ok_11 (applyO vl l c _ (hS.bptO (i:=0) rfl) (hS.rdAt (j:=1) rfl) hfit (by omega) S2 us2 hap) ?_; clear hf a; rintro am w6 hS1 a hf; replace hS:=hS.cl hS1; refine mv hf rfl ?_; clear hf a; intro a hf; refine ov hf rfl (RunV.extract rfl rfl) ?_; clear hf a; intro a hf; refine ov hf rfl (RunV.extract rfl rfl) ?_; clear hf a; intro a hf; refine mv hf rfl ?_; clear hf a; intro a hf; refine mv hf rfl ?_; clear hf a; intro a hf; refine nk<|W.seq<|?_
    refine W.regionL (l:=[0,1,2,3,4,5,6,7]) rfl<|mv hf rfl<|?_; clear hf a; intro a hf; refine ov hf rfl (RunV.loadN (cs':=(aC c)) T_agg_26 T_size_26 rfl (hS.p 1 rfl) (bl rfl) rfl) ?_; clear hf a; intro a hf; refine oc hf rfl C_ok_12 (applyR_O vl l c _ (hS.rdAt (j:=1) rfl) hfit hr hrc (by omega) S2 us2 hap) ?_; clear hf a; rintro ar w7 hS1 a hf; replace hS:=hS.cl hS1; refine mv hf rfl ?_; clear hf a; intro a hf; refine ov hf rfl (RunV.extract rfl rfl) ?_; clear hf a; intro a hf; refine ov hf rfl (RunV.extract rfl rfl) ?_; clear hf a; intro a hf; refine mv hf rfl ?_; clear hf a; intro a hf; refine mv hf rfl ?_; clear hf a; intro a hf; refine nk<|W.seq<|?_
    refine W.regionL (l:=[0,1,2,3,4,5,6,7,8]) rfl<|mv hf rfl<|?_; clear hf a; intro a hf; refine mv hf rfl ?_; clear hf a; intro a hf; refine oc hf rfl C_ok_13 (sameChanges_true am (l++[c]) ar (l++[c]) _ (hS.slr (j:=1) rfl) (hS.slr (j:=0) rfl) rfl) ?_; clear hf a; rintro _ w8 hS1 a hf; replace hS:=hS.cl hS1; refine mv hf rfl ?_; clear hf a; intro a hf; refine og (v:=.int .i64 0) hf rfl rfl (RunV.move rfl) ?_; clear hf a; intro a hf; refine og (v:=.int .i64 0) hf rfl rfl (RunV.move rfl) ?_; clear hf a; intro a hf; refine og (v:=.bool true) hf rfl rfl (RunV.toB (c:=true) (RunV.eql rfl rfl) (by decide)) ?_; clear hf a; intro a hf; refine ov (v:=.bool true) hf rfl (RunV.pick rfl rfl rfl rfl) ?_; clear hf a; intro a hf; refine mv hf rfl ?_; clear hf a; intro a hf; refine nk<|W.ret<|post1 hf rfl (ResOK.tmp rfl)<|?_; exact ⟨(),rfl,hS.sub (List.nil_sublist _) |>.noB⟩
theorem applies_spec (vl:Value) (l:List Ch) (c:Ch) (w0:World) (hG:Lent w0 ordA) (hl:rdOK (hp w0) 12 vl l.length (encs eC l)) (hfit:vfit vl) (hr:∀ c ∈ l,rC c) (hrc:rC c) :
    Ret Tryd.prog 3 #[vl,cV c] w0 (G:=Unit) (fun _=>.bool true) (fun _ w=>St w0 w noX [] []):=by
  cases h:greatM l.length with
  | true=>exact applies_great vl l c w0 hG hl hfit hr hrc h
  | false=>exact applies_in vl l c w0 hG hl hfit hr hrc h
end Go.Proofs.YtgakdmmmljdpjaaDoor

namespace Go.SL
open Go Go.ChangeShapes Go.WideShapes Go.ChangeAt Go.RowKit
inductive LK where
  | int (k:IntKind)
  | bool
  | str
def LK.ok:LK→Value→Prop
  | .int k,v=>∃ n,v=.int k n∧(Lit.int k n).wf=true
  | .bool,v=>∃ b,v=.bool b
  | .str,v=>∃ s:ByteArray,v=.string s∧s.size≤maxLen
def AllK:List LK→List Value→Prop
  | [],cs=>cs=[]
  | k::ks,cs=>∃ v t,cs=v::t∧k.ok v∧AllK ks t
theorem AllK.app:∀ {ks ks':List LK} {a b:List Value},AllK ks a→AllK ks' b→AllK (ks++ks') (a++b)
  | [],_,a,b,h1,h2=>by
    have h1:a=[]:=h1
    subst h1; exact h2
  | k::ks,_,a,b,⟨v,t,h1,h2,h3⟩,h4=>by
    subst h1
    exact ⟨v,t++b,rfl,h2,AllK.app h3 h4⟩
def leafFs (P:Program) (f:TypeId→Option (List LK)):List Field→Nat→Option (List LK × Nat)
  | [],o=>some ([],o)
  | g::t,o=>if Nat.beq g.offset o=true then
      match f g.type with
      | some ks=>if Nat.beq ks.length (P.cellsOf g.type)=true then
          match leafFs P f t (o+ks.length) with
          | some (r,o')=>some (ks++r,o')
          | none=>none
        else none
      | none=>none
    else none
def leafK (P:Program):Nat→TypeId→Option (List LK)
  | 0,_=>none
  | d+1,t=>match P.underlying t with
    | some (.int k)=>some [.int k]
    | some .bool=>some [.bool]
    | some .string=>some [.str]
    | some (.struct fs)=>match leafFs P (leafK P d) fs.toList 0 with
      | some (ks,o)=>if Nat.beq o (P.cellsOf t)=true then some ks else none
      | none=>none
    | some (.array n e)=>match leafK P d e with
      | some ks=>if (Nat.beq ks.length (P.cellsOf e)&&Nat.beq (n*ks.length) (P.cellsOf t))=true then some (List.replicate n ks).flatten else none
      | none=>none
    | _=>none
section
variable {H:Type} {enc:TypeId × Value→H} {P:Program} {w:World} {base:Nat} {spare:Nat→Bool} {held:Bool}
theorem leafFs_ok {f:TypeId→Option (List LK)} {cs:List Value} (hf:∀ t ks,f t=some ks→∀ cs,(∃ (n:Nat) (x:DataW H × List MemPlace),DataW.trod enc P w base spare held n t cs=some x)→AllK ks cs) :
    ∀ (fs:List Field) (o:Nat) (ks:List LK) (o':Nat),leafFs P f fs o=some (ks,o')→(∀ g ∈ fs,∃ (n:Nat) (x:DataW H × List MemPlace),DataW.trod enc P w base spare held n g.type ((cs.drop g.offset).take (P.cellsOf g.type))=some x)→o'=cs.length→AllK ks (cs.drop o)
  | [],o,ks,o',h,_,ho=>by
    simp only [leafFs,Option.some.injEq,Prod.mk.injEq] at h
    obtain ⟨rfl,rfl⟩:=h
    subst ho
    show cs.drop cs.length=[]
    simp
  | g::t,o,ks,o',h,hg,ho=>by
    simp only [leafFs] at h
    split at h
    · rename_i hgo
      have hgo:=Nat.eq_of_beq_eq_true hgo
      split at h
      · rename_i k1 hk1
        split at h
        · rename_i hlen
          have hlen:=Nat.eq_of_beq_eq_true hlen
          split at h
          · rename_i r o2 hr
            simp only [Option.some.injEq,Prod.mk.injEq] at h
            obtain ⟨rfl,rfl⟩:=h
            have h2:=leafFs_ok hf t _ _ _ hr (fun g' hg'=>hg g' (by simp [hg'])) ho
            have h1:=hf _ _ hk1 _ (hg g (by simp))
            rw [hgo,← hlen] at h1
            have e:cs.drop o=(cs.drop o).take k1.length++cs.drop (o+k1.length):=by
              rw [← List.drop_drop,List.take_append_drop]
            rw [e]
            exact h1.app h2
          · cases h
        · cases h
      · cases h
    · cases h
theorem arr_ok {ks:List LK} {cs:List Value} {m:Nat} (hm:ks.length=m) (n:Nat) (hc:cs.length=n*m) (h:∀ i,i<n→AllK ks ((cs.drop (i*m)).take m)):∀ j,j≤n→AllK (List.replicate (n-j) ks).flatten (cs.drop (j*m)):=by
  intro j hj
  obtain ⟨q,hq⟩:∃ q,q=n-j:=⟨_,rfl⟩
  induction q generalizing j with
  | zero =>
    have:j=n:=by omega
    subst this
    rw [Nat.sub_self]
    show cs.drop (j*m)=[]
    rw [← hc]; simp
  | succ q ih =>
    have h1:=ih (j+1) (by omega) (by omega)
    have e:n-j=(n-(j+1))+1:=by omega
    rw [e,List.replicate_succ,List.flatten_cons]
    have e2:cs.drop (j*m)=(cs.drop (j*m)).take m++cs.drop ((j+1)*m):=by
      rw [Nat.add_mul,Nat.one_mul,← List.drop_drop,List.take_append_drop]
    rw [e2]
    exact (h j (by omega)).app h1
theorem leafK_ok:∀ (d:Nat) (t:TypeId) (ks:List LK),leafK P d t=some ks→∀ cs,(∃ (n:Nat) (x:DataW H × List MemPlace),DataW.trod enc P w base spare held n t cs=some x)→AllK ks cs
  | 0,t,ks,h,_,_=>by simp [leafK] at h
  | d+1,t,ks,h,cs,⟨n,x,hx⟩=>by
    have ih:=leafK_ok d
    simp only [leafK] at h
    split at h
    · rename_i k hk
      simp only [Option.some.injEq] at h
      subst h
      obtain ⟨z,rfl,_,hw⟩:=DataW.trod_int hk hx
      exact ⟨_,[],rfl,⟨z,rfl,hw⟩,rfl⟩
    · rename_i hk
      simp only [Option.some.injEq] at h
      subst h
      obtain ⟨z,rfl,_⟩:=DataW.trod_bool hk hx
      exact ⟨_,[],rfl,⟨z,rfl⟩,rfl⟩
    · rename_i hk
      simp only [Option.some.injEq] at h
      subst h
      obtain ⟨z,rfl,_,hw⟩:=DataW.trod_string hk hx
      exact ⟨_,[],rfl,⟨z,rfl,hw⟩,rfl⟩
    · rename_i fs hk
      split at h
      · rename_i ks' o ho
        split at h
        · rename_i hoc
          have hoc:=Nat.eq_of_beq_eq_true hoc
          simp only [Option.some.injEq] at h
          subst h
          obtain ⟨xs,m,rfl,rfl,hl,hxl,hall⟩:=DataW.trod_struct hk hx
          have:=leafFs_ok (H:=H) (cs:=cs) (fun t ks h=>ih t ks h) fs.toList 0 ks' o ho (fun g hg=>?_) (hoc.trans hl.symm)
          · simpa using this
          · obtain ⟨i,hi⟩:=List.getElem?_of_mem hg
            have hi':fs[i]? = some g:=by simpa using hi
            have hlt:i<xs.length:=by rw [hxl]; exact (Array.getElem?_eq_some_iff.1 hi').1
            exact ⟨m,xs[i],by rw [hall i g hi',List.getElem?_eq_getElem hlt]⟩
        · cases h
      · cases h
    · rename_i q e hk
      split at h
      · rename_i ks' hks
        split at h
        · rename_i hc
          simp only [Bool.and_eq_true] at hc
          have hc1:=Nat.eq_of_beq_eq_true hc.1
          have hc2:=Nat.eq_of_beq_eq_true hc.2
          simp only [Option.some.injEq] at h
          subst h
          obtain ⟨xs,m,rfl,rfl,hl,hxl,hall⟩:=DataW.trod_array hk hx
          have:=arr_ok (m:=P.cellsOf e) hc1 q (by rw [hl,← hc2,hc1]) (fun i hi=>ih e ks' hks _ ⟨m,xs[i]'(by omega),by rw [hall i hi,List.getElem?_eq_getElem (by omega)]⟩) 0 (Nat.zero_le _)
          simpa using this
        · cases h
      · cases h
    · cases h
theorem okWide_array {n:Nat} {e:TypeId} {t:TypeId} {v:Value} {r:Reach} {b0:Nat} (ht:P.underlying t=some (.array n e)) (h:Value.okWide P w r b0 t v):∃ cs,v=.agg cs:=by
  simp only [Value.okWide,ht] at h
  obtain ⟨cs,h1,_⟩:=h
  exact ⟨cs,h1⟩
theorem openAgg {d:Nat} {t:TypeId} {ks:List LK} {v:Value} {dd:DataW H} {ps:List MemPlace} {r:Reach} {b0:Nat} (hk:leafK P d t=some ks) (ha:tAgg P t=some true) (hval:Value.okWide P w r b0 t v) (h:DataW.Trod enc P w base spare held t v dd ps) :
    ∃ cs,v=.agg cs.toArray∧AllK ks cs:=by
  have hv:∃ cs,v=.agg cs:=by
    unfold tAgg at ha
    cases hu:P.underlying t with
    | none=>rw [hu] at ha; cases ha
    | some dsc =>
      rw [hu] at ha
      cases dsc <;> simp [descAgg] at ha
      · exact okWide_array hu hval
      · obtain ⟨cs,h1,_⟩:=okWide_struct hu hval
        exact ⟨cs,h1⟩
  obtain ⟨cs,rfl⟩:=hv
  obtain ⟨fuel,hf⟩:=h
  exact ⟨cs.toList,rfl,leafK_ok d t ks hk cs.toList ⟨fuel,_,hf⟩⟩
end
theorem Below.trodAll {H:Type} {enc:TypeId × Value→H} {P:Program} (hl:laidOutB P=true) {W W':World} (hb:RowKit.Below W.heap.size W W'):∀ (ts:List TypeId) (vs:List Value) (ds:List (DataW H)) (p:List MemPlace),
    (ts.all fun t=>P.readableRec t&&Nat.blt t P.types.size)=true→DataW.TrodAll enc P W 0 (fun _=>true) true ts vs ds p→(∀ x ∈ p,x.block<W.heap.size)→DataW.TrodAll enc P W' 0 (fun b=>decide (b<W.heap.size)) true ts vs ds p
  | [],[],[],p,_,h,_=>h
  | [],[],_::_,p,_,h,_=>by simp [DataW.TrodAll] at h
  | [],_::_,_,p,_,h,_=>by simp [DataW.TrodAll] at h
  | _::_,[],_,p,_,h,_=>by simp [DataW.TrodAll] at h
  | _::_,_::_,[],p,_,h,_=>by simp [DataW.TrodAll] at h
  | t::ts,v::vs,d::ds,p,ha,h,hlt=>by
    simp only [List.all_cons,Bool.and_eq_true] at ha
    obtain ⟨p1,p2,h1,h2,rfl⟩:=h
    exact ⟨p1,p2,RowKit.Below.trod hl ha.1.1 (by simpa using ha.1.2) h1 hb (fun x hx=>hlt x (List.mem_append_left _ hx)),Below.trodAll hl hb ts vs ds p2 ha.2 h2 (fun x hx=>hlt x (List.mem_append_right _ hx)),rfl⟩
theorem trodAll_uncons {H:Type} {enc:TypeId × Value→H} {P:Program} {w:World} {base:Nat} {spare:Nat→Bool} {held:Bool} {t:TypeId} {ts:List TypeId} {args:List Value} {ds:List (DataW H)} {p:List MemPlace}
    (h:DataW.TrodAll enc P w base spare held (t::ts) args ds p):∃ v vs d ds' p1 p2,args=v::vs∧ds=d::ds'∧DataW.Trod enc P w base spare held t v d p1∧DataW.TrodAll enc P w base spare held ts vs ds' p2∧p=p1++p2:=by
  cases args with
  | nil=>simp [DataW.TrodAll] at h
  | cons v vs =>
    cases ds with
    | nil=>simp [DataW.TrodAll] at h
    | cons d ds' =>
      obtain ⟨p1,p2,h1,h2,rfl⟩:=h
      exact ⟨v,vs,d,ds',p1,p2,rfl,rfl,h1,h2,rfl⟩
theorem trodAll_unnil {H:Type} {enc:TypeId × Value→H} {P:Program} {w:World} {base:Nat} {spare:Nat→Bool} {held:Bool} {args:List Value} {ds:List (DataW H)} {p:List MemPlace}
    (h:DataW.TrodAll enc P w base spare held [] args ds p):args=[]∧ds=[]:=by
  cases args with
  | nil =>
    cases ds with
    | nil=>exact ⟨rfl,rfl⟩
    | cons=>simp [DataW.TrodAll] at h
  | cons=>simp [DataW.TrodAll] at h
end Go.SL

namespace Go.SL
open Go Go.Lib
theorem LaidVars_places {P:Program} {w:World}:∀ {l:List (String × DataW Unit)} {ps:List MemPlace},DataW.LaidVars P w l ps→∀ n d,(n,d) ∈ l →
    ∃ g t cs fuel p,P.globalNamed n=some g∧(P.globals[g]?).map (·.type)=some t∧w.var? P n=some cs∧DataW.trod (fun _=>()) P w 0 (fun _=>true) false fuel t cs.toList=some (d,p)∧∀ x ∈ MemPlace.row ⟨g,0,none⟩ cs.size,x ∈ ps
  | [],_,_,_,_,hm=>by cases hm
  | (n',d')::r,ps,h,n,d,hm=>by
    obtain ⟨g,t,cs,fuel,p,q,h1,h2,h3,h4,h5,h6⟩:=h
    rcases List.mem_cons.1 hm with e | e
    · cases e
      exact ⟨g,t,cs,fuel,p,h1,h2,h3,h4,fun x hx=>by rw [h6]; simp [hx]⟩
    · obtain ⟨g',t',cs',fuel',p',k1,k2,k3,k4,k5⟩:=LaidVars_places h5 n d e
      exact ⟨g',t',cs',fuel',p',k1,k2,k3,k4,fun x hx=>by rw [h6]; simp [k5 x hx]⟩
theorem laid_tab1 {P:Program} {W:World} {laid:List (String × DataW Unit)} {name:String} {g n:Nat} {t e:TypeId} {k:IntKind} {zs:List Int} (h:laidMet P laid W) (hm:(name,tabData k zs) ∈ laid)
    (hg:P.globalNamed name=some g) (hty:(P.globals[g]?).map (·.type)=some t) (ht:P.underlying t=some (.array n e)) (he:P.underlying e=some (.int k)) (hce:P.cellsOf e=1) (hct:P.cellsOf t=n)
    (h0:0<zs.length):∃ ty,W.heap[g]? = some (.cells (zs.map fun z=>Value.int k z).toArray ty (0,0)):=by
  obtain ⟨ps,hv,_,hcell⟩:=h
  obtain ⟨g',t',cs,fuel,p,h1,h2,h3,h4,h5⟩:=LaidVars_places hv _ _ hm
  obtain rfl:=Option.some.inj (hg.symm.trans h1)
  obtain rfl:=Option.some.inj (hty.symm.trans h2)
  have hcs:=cells_of_tab ht he hce hct h4
  have hsz:0<cs.size:=by
    have:=congrArg List.length hcs
    simp only [Array.length_toList,List.length_map] at this
    omega
  obtain ⟨⟨c,ty,hc⟩,_⟩:=hcell g 0 (h5 _ (by
    unfold MemPlace.row
    exact List.mem_map.2 ⟨0,List.mem_range.2 hsz,by simp⟩))
  refine ⟨ty,?_⟩
  unfold World.var? at h3
  rw [hg] at h3
  simp only [Option.bind_some,hc,Option.some.injEq] at h3
  rw [hc,h3,← hcs]
theorem ord_lent {w:World} (h:∃ ty,w.heap[0]? = some (.cells (ordsL.map fun z=>Value.int .i32 z).toArray ty (0,0))):Lent w ordA:=by
  obtain ⟨ty,h⟩:=h
  refine ⟨⟨ty,h⟩,fun k hk=>?_⟩
  have hk:k=0:=hk
  subst hk
  exact (Array.getElem?_eq_some_iff.1 h).1
end Go.SL

namespace Go.SL
open Go Go.ChangeShapes Go.WideShapes Go.ChangeAt Go.RowKit
theorem list_choose {α β:Type} {p:α→β→Prop}:∀ (l:List α),(∀ x ∈ l,∃ y,p x y)→∃ m:List β,m.length=l.length∧∀ (i:Nat) (x:α),l[i]? = some x→∃ y,m[i]? = some y∧p x y
  | [],_=>⟨[],rfl,fun i x h=>by simp at h⟩
  | a::t,h=>by
    obtain ⟨y,hy⟩:=h a (by simp)
    obtain ⟨m,h1,h2⟩:=list_choose t (fun x hx=>h x (by simp [hx]))
    refine ⟨y::m,by simp [h1],fun i x hx=>?_⟩
    cases i with
    | zero=>simp only [List.getElem?_cons_zero,Option.some.injEq] at hx; subst hx; exact ⟨y,rfl,hy⟩
    | succ i=>simpa using h2 i x (by simpa using hx)
section
variable {H:Type} {henc:TypeId × Value→H} {P:Program} {w:World} {spare:Nat→Bool} {held:Bool} {T:Type} {E:T→List Value} {ok:T→Prop} {sz:Nat}
theorem openSlE {t e:TypeId} {d:Nat} {ks:List LK} {v:Value} {dd:DataW H} {ps:List MemPlace} {r:Reach} {b0:Nat} (ht:P.underlying t=some (.slice e)) (hk:leafK P d e=some ks) (hc:P.cellsOf e=sz) (h0:0<sz) (hE:∀ cs,AllK ks cs→∃ x,cs=E x∧ok x) (hlen:∀ x,(E x).length=sz)
    (hval:Value.okWide P w r b0 t v) (h:DataW.Trod henc P w 0 spare held t v dd ps):∃ l:List T,rdEOK (hp w) sz E v l∧∀ x ∈ l,ok x:=by
  obtain ⟨fuel,hf⟩:=h
  obtain ⟨a0,len0,cap0,rfl⟩:=okWide_slice ht hval
  have hcs:(Value.slice a0 len0 cap0).cells.toList=[.slice a0 len0 cap0]:=rfl
  rw [hcs] at hf
  rcases DataW.trod_slice ht hf with ⟨h1,_⟩ | ⟨a,len,cap,elems,rest,n,rfl,h1,_,_,hl,hm,hel,hx,_⟩
  · have h1:(Value.slice a0 len0 cap0)=.slice none 0 0:=by simpa using h1
    rw [h1]
    exact ⟨[],rdEOK_nil,by simp⟩
  · have h1:(Value.slice a0 len0 cap0)=.slice (some a) len cap:=by simpa using h1
    rw [h1]
    rw [hc] at hx
    obtain ⟨l,hl1,hl2⟩:=list_choose (p:=fun i (x:T)=>ok x∧w.cells? 0 (a.add (i*sz)) sz=some (E x)) (List.range len) (fun i hi=>by
      have hi:=List.mem_range.1 hi
      have h2:=hx i hi
      obtain ⟨x,hx'⟩:∃ x,elems[i]? = some x:=⟨_,List.getElem?_eq_getElem (by omega)⟩
      rw [hx'] at h2
      obtain ⟨cs,h3,h4⟩:=Option.bind_eq_some_iff.1 h2
      obtain ⟨y,rfl,hy⟩:=hE cs (leafK_ok d e ks hk cs ⟨_,_,h4⟩)
      exact ⟨y,hy,h3⟩)
    rw [List.length_range] at hl1
    have hcell:∀ (i:Nat) (x:T),l[i]? = some x→ok x∧∀ (k:Nat) (u:Value),(E x)[k]? = some u→w.cell? (a.add (i*sz+k))=some u:=fun i x hxi=>by
      have hi:i<len:=by rw [← hl1]; exact (List.getElem?_eq_some_iff.1 hxi).1
      obtain ⟨y,hy,h5,h6⟩:=hl2 i i (by rw [List.getElem?_range hi])
      rw [hxi] at hy
      simp only [Option.some.injEq] at hy
      subst hy
      refine ⟨h5,fun k u hu=>?_⟩
      have h7:=World.cells?_some h6
      have hk':k<sz:=by rw [← hlen x]; exact (List.getElem?_eq_some_iff.1 hu).1
      have h8:=h7.2.2 k hk'
      rw [hu] at h8
      have ea:(a.add (i*sz)).add k=a.add (i*sz+k):=by
        generalize i*sz=q
        by_cases g1:q=0 <;> by_cases g2:k=0 <;> simp [Addr.add,g1,g2,Nat.add_assoc]
      rw [ea] at h8
      exact h8
    refine ⟨l,⟨⟨by rw [encs_len hlen],by omega,some a,cap,by rw [hl1],fun hn=>?_⟩,by show len≤cap; omega⟩,fun x hxm=>?_⟩
    · have hn':0<l.length:=hn
      obtain ⟨x0,hx0⟩:∃ x,l[0]? = some x:=⟨_,List.getElem?_eq_getElem hn'⟩
      obtain ⟨u0,hu0⟩:∃ u,(E x0)[0]? = some u:=⟨_,List.getElem?_eq_getElem (by rw [hlen]; exact h0)⟩
      have hc0:=(hcell 0 x0 hx0).2 0 u0 hu0
      unfold World.cell? at hc0
      cases hb:w.heap[a.block]? with
      | none=>simp [Addr.add,hb] at hc0
      | some o =>
        cases o with
        | cells cur e' z =>
          have hs:a.spot=none:=by
            cases hs:a.spot with
            | none=>rfl
            | some s=>simp [Addr.add,hb,hs] at hc0
          refine ⟨a,cur,e',z,rfl,hs,hb,fun j u hj=>?_⟩
          have hjl:j<l.length*sz:=by rw [← encs_len hlen]; exact (List.getElem?_eq_some_iff.1 hj).1
          have hjd:j=(j/sz)*sz+j % sz:=by rw [Nat.mul_comm]; exact (Nat.div_add_mod j sz).symm
          have hjr:=Nat.mod_lt j h0
          have hjq:j/sz<l.length:=Nat.div_lt_of_lt_mul (by rw [Nat.mul_comm]; exact hjl)
          obtain ⟨x,hxj⟩:∃ x,l[j/sz]? = some x:=⟨_,List.getElem?_eq_getElem hjq⟩
          rw [hjd,encs_get hlen hxj hjr] at hj
          have h9:=(hcell _ x hxj).2 _ u hj
          rw [← hjd] at h9
          have ea:a.add j=⟨a.block,a.off+j,none⟩:=by
            obtain ⟨b,o,sp⟩:=a
            simp only at hs
            subst hs
            simp [Addr.add]
          rw [ea] at h9
          unfold World.cell? at h9
          simpa [hb] using h9
        | _=>simp [Addr.add,hb] at hc0
    · obtain ⟨i,hi⟩:=List.getElem?_of_mem hxm
      exact (hcell i x hi).1
end
end Go.SL

namespace Go.Proofs.YtgakdmmmljdpjaaDoor
open Go Go.SL Go.ChangeShapes Go.WideShapes Go.ChangeAt Go.RowKit
theorem Tryd.own:ownKnob Tryd.prog.godebug=none:=by kernel_rfl
theorem Tryd.laidOut:laidOutB Tryd.prog=true:=by kernel_rfl
theorem leaf26:leafK Tryd.prog 6 26=some [.int .u8,.int .i64,.int .i64,.int .u8,.int .u8,.int .i64,.int .i64,.int .i64,.int .u8,.int .u8,.int .i64,.int .i64]:=by kernel_rfl
theorem size26:Tryd.prog.cellsOf 26=12:=by kernel_rfl
theorem slice22:Tryd.prog.underlying 22=some (.slice 26):=by kernel_rfl
theorem change_open (cs:List Value) (h:AllK [.int .u8,.int .i64,.int .i64,.int .u8,.int .u8,.int .i64,.int .i64,.int .i64,.int .u8,.int .u8,.int .i64,.int .i64] cs):∃ x:Ch,cs=eC x∧rC x:=by
  obtain ⟨_,_,rfl,⟨x0,rfl,w0⟩,_,_,rfl,⟨x1,rfl,w1⟩,_,_,rfl,⟨x2,rfl,w2⟩,_,_,rfl,⟨x3,rfl,w3⟩,_,_,rfl,⟨x4,rfl,w4⟩,_,_,rfl,⟨x5,rfl,w5⟩,_,_,rfl,⟨x6,rfl,w6⟩,_,_,rfl,⟨x7,rfl,w7⟩,_,_,rfl,⟨x8,rfl,w8⟩,_,_,rfl,⟨x9,rfl,w9⟩,_,_,rfl,⟨x10,rfl,w10⟩,_,_,rfl,⟨x11,rfl,w11⟩,rfl⟩:=h
  exact ⟨⟨x0,⟨x1,x2,x3,x4,x5⟩,⟨x6,x7,x8,x9,x10⟩,x11⟩,rfl,⟨⟨wfB w3,wfB w4⟩,wfB w8,wfB w9⟩⟩
theorem agg26:tAgg Tryd.prog 26=some true:=by kernel_rfl
theorem door_met (os:Os) (args:Array Value):laidMetH Tryd.prog Rows.mergeAppliesRow.laid ((World.laidAll Tryd.prog os Rows.mergeAppliesRow.laid).forCall (fun _ _=>0) ⟨#[],args,[]⟩).memory:=by
  rw [MakeChecks.laidMetH_plain _ _ _ (by kernel_rfl)]
  exact laidMet_laidAll _ (by kernel_rfl) (by kernel_rfl)
set_option maxRecDepth 100000 in
theorem mergeApplies_lifted (os:Os) (started:os.Started) (H:Type) (enc:TypeId × Value→H) :
    ReturnsInHanded {} Tryd.checked os 3 .any (fun w args=>(Rows.mergeAppliesSpec.pre enc Tryd.prog Tryd.f3 [] false w args∧laidMetH Tryd.prog Rows.mergeAppliesRow.laid w)∧sizedMet enc Tryd.prog Tryd.f3 (OpenSpec.ofChange Rows.mergeAppliesSpec) false w args) (Rows.mergeAppliesSpec.post enc Tryd.prog Tryd.f3 false true false false):=by
  refine returnsInHanded_of_change_and (C:=Tryd.checked) (X:=fun w _=>laidMetH Tryd.prog Rows.mergeAppliesRow.laid w) (fun _ _ _ hh h=>h.of_heap hh) Tryd.own started (by kernel_rfl) Tryd.func3
    (ChangeSpec.witness_shaped (enc:=enc) (C:=Tryd.checked) (os:=os) (X:=fun w _=>laidMetH Tryd.prog Rows.mergeAppliesRow.laid w) false (World.laidAll Tryd.prog os Rows.mergeAppliesRow.laid) #[.slice none 0 0,.agg #[.int .u8 0,Iv 0,Iv 0,.int .u8 0,.int .u8 0,Iv 0,Iv 0,Iv 0,.int .u8 0,.int .u8 0,Iv 0,Iv 0]] 8 rfl (World.shaped_of_ZipB (by kernel_rfl) (by kernel_rfl)) (by kernel_rfl) (by kernel_rfl) (by kernel_rfl) (door_met os _)) ?_
  intro W base args ds gs before hval0 hW _ _ hL _
  have hval:∀ (j:Nat) t v,Tryd.f3.params[j]? = some t→args[j]? = some v→Value.okWide Tryd.prog W .any base t v:=hval0
  have hW':=hW
  obtain ⟨p,q,hA0,hV,rfl,hfz,hnd⟩:=hW
  have hA:DataW.TrodAll enc Tryd.prog W 0 (fun _=>true) true [22,26] args.toList ds p:=hA0
  obtain ⟨rfl,rfl⟩:=trodVars_none hV
  have hA':=hA
  obtain ⟨v1,a1_,d1,ds1,p1,q1,e1,rfl,t1,hB1,rfl⟩:=trodAll_uncons hA
  obtain ⟨v2,a2_,d2,ds2,p2,q2,rfl,rfl,t2,hB2,rfl⟩:=trodAll_uncons hB1
  obtain ⟨rfl,rfl⟩:=trodAll_unnil hB2
  obtain rfl:args=#[v1,v2]:=by
    apply Array.ext'
    simpa using e1
  obtain ⟨l,hl,hlr⟩:=openSlE (E:=eC) (ok:=rC) slice22 leaf26 size26 (by decide) change_open eC_len (hval 0 22 v1 rfl rfl) t1
  obtain ⟨cs2,rfl,k2⟩:=openAgg leaf26 agg26 (hval 1 26 v2 rfl rfl) t2
  obtain ⟨c,hcc,hrc⟩:=change_open cs2 k2
  subst hcc
  have hlm:laidMet Tryd.prog Rows.mergeAppliesRow.laid W:=by
    have h:=hL
    rw [MakeChecks.laidMetH_plain _ _ _ (by kernel_rfl)] at h; exact h
  have hord:=ord_lent (laid_tab1 (k:=.i32) (zs:=ordsL) (name:="planisphere/desig.orders") (g:=0) (n:=25) hlm (by simp [Rows.mergeAppliesRow,Rows.laid_planisphere_desig_orders,ordsL,Go.Lib.tabData]) (by kernel_rfl) (t:=123) (by kernel_rfl) (e:=21) (by kernel_rfl) (by kernel_rfl) (by kernel_rfl) (by kernel_rfl) (by decide))
  refine Calls.mono (applies_spec v1 l c W hord hl.1 hl.2 hlr hrc) fun e W' ⟨_,he,hS⟩=>?_
  subst he
  have hb:RowKit.Below W.heap.size W W':=⟨hS.os,hS.tape,hS.output,hS.size,fun k hk=>hS.old k hk (fun h=>h)⟩
  refine ⟨_,rfl,_,_,_,[],(p1++(p2++q2)),[],hW',trodAll_mk1 (shut_bool Tryd.underlying4 true),?_,?_,hb.frame _,fun h=>by cases h⟩
  · have hl:=hW'.lt
    simp only [List.append_nil] at hl
    exact Below.trodAll Tryd.laidOut hb _ _ _ _ (by kernel_rfl) hA' (fun x hx=>hl x (by simpa using hx))
  · rfl
theorem mergeApplies_holds:Rows.MergeAppliesSaid :=
  OpenClaim.holds_of_wide 3 Tryd.f3 rfl rfl rfl rfl rfl rfl rfl ⟨rfl,rfl,rfl,rfl,rfl⟩ rfl rfl rfl rfl rfl (by kernel_rfl) Tryd.func3 (by kernel_rfl)
    (of_decide_eq_true (by kernel_rfl)) (by unfold Func.isWrapper; first | (rw [if_pos (by decide +kernel)]; kernel_rfl) | (rw [if_neg (by decide +kernel)]; exact ⟨rfl,rfl⟩))
    (fun os started H enc _=>mergeApplies_lifted os started H enc)
end Go.Proofs.YtgakdmmmljdpjaaDoor

namespace Go.Proofs.YtgakdmmmljdpjaaDoor
open Go
theorem mergeAppliesCard_holds:Rows.MergeAppliesCardSaid :=
  Claim7.holds_tied_plain_at .later [] [.widerDeep] true (true,"b28cc4a234fc7c383bd42b9b5f7d4e425b70887cab9b5ce3da3221e733787fae") true
    mergeApplies_holds (fun _ h=>by cases h) (by kernel_rfl) (fun _ h=>by cases h) mergeApplies_row_tie rfl ⟨rfl,rfl⟩ (by kernel_rfl) rfl
    (fun f fn hf hfn=>by
      obtain rfl:f=3:=Option.some.inj ((show Tryd.prog.funcNamed "planisphere/planispherelaw41.MergeApplies"=some 3 by kernel_rfl).symm.trans hf) |>.symm
      obtain rfl:fn=Tryd.f3:=(Option.some.inj (Tryd.func3.symm.trans hfn)).symm
      exact ⟨by kernel_rfl,fun j t ht=>by
        rw [show Tryd.f3.params=#[22,26] by kernel_rfl] at ht
        rcases j with _ | _ | j
        · simp at ht; subst ht; kernel_rfl
        · simp at ht; subst ht; kernel_rfl
        · simp at ht⟩)
    (by kernel_rfl)
end Go.Proofs.YtgakdmmmljdpjaaDoor
