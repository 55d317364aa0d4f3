/- Part of a proof: laws and walks. -/
import Derived.Test.YtgakdmmmljdpjaaDoorTac
import Derived.Test.YtgakdmmmljdpjaaDoorTal
set_option linter.unusedVariables false
set_option linter.unusedSimpArgs false
namespace Go.Proofs.YtgakdmmmljdpjaaDoor
open Go Go.SL
theorem C_ok_43:callOK Tryd.prog 43=true:=by kernel_rfl
theorem C_ok_59:callOK Tryd.prog 59=true:=by kernel_rfl
theorem C_ok_60:callOK Tryd.prog 60=true:=by kernel_rfl
set_option maxHeartbeats 8000000 in
set_option maxRecDepth 4000 in
theorem next_spec (vo:Value) (os:List Ob) (c:Ch) (w0:World) (hl:rdOK (hp w0) 6 vo os.length (encs eO os)) (hfit:vfit vo) (ho:obsRd w0 os) (hof:∀ o ∈ os,vfit o.v) (hv:∀ o ∈ os,o.l≠[]∧∀ d ∈ o.l,okD d=true∧rD d) (hrc:rC c) (hoc:okD c.a=true) (hob:¬ c.kind=1→okD c.b=true) (hz:os.length≤500) (hzl:∀ o ∈ os,o.l.length≤500) :
    Ret Tryd.prog 47 #[vo,.agg #[.int .u8 c.kind,.int .i64 c.a.num,.int .i64 c.a.yr,.int .u8 c.a.half,.int .u8 c.a.sec,.int .i64 c.a.cyc,.int .i64 c.b.num,.int .i64 c.b.yr,.int .u8 c.b.half,.int .u8 c.b.sec,.int .i64 c.b.cyc,.int .i64 c.n]] w0 (G:=Value × Int × List Ob × List Ob) (fun g=>.tuple #[g.1,.int .i64 g.2.1]) (fun g w=>St w0 w noX [] [sl 46 6 g.1 g.2.2.1.length (encs eO g.2.2.1),bigA (g.2.2.2.map obA)]∧NextR os c g.2.1 g.2.2.1 g.2.2.2):=by
  refine ret_of_W (lv:=[vo,.agg #[.int .u8 c.kind,.int .i64 c.a.num,.int .i64 c.a.yr,.int .u8 c.a.half,.int .u8 c.a.sec,.int .i64 c.a.cyc,.int .i64 c.b.num,.int .i64 c.b.yr,.int .u8 c.b.half,.int .u8 c.b.sec,.int .i64 c.b.cyc,.int .i64 c.n]]) Tryd.func47 rfl rfl rfl (fun a hf=>?_)
  replace hf:Fr a 115 [] [(0,vo),(1,.agg #[.int .u8 c.kind,.int .i64 c.a.num,.int .i64 c.a.yr,.int .u8 c.a.half,.int .u8 c.a.sec,.int .i64 c.a.cyc,.int .i64 c.b.num,.int .i64 c.b.yr,.int .u8 c.b.half,.int .u8 c.b.sec,.int .i64 c.b.cyc,.int .i64 c.n])]:=hf
  have hS:St w0 w0 noX [rdv 6 vo os.length (encs eO os),allA (os.map rdOb)] []:=((St.refl w0).lendObs ho).lend0 hl
  have hlm:=hl.2.1
  unfold maxLen at hlm
  obtain ⟨fa,hfa⟩:∃ x,x=findR (os.map prO) c.a:=⟨_,rfl⟩
  obtain ⟨fb,hfb⟩:∃ x,x=findR (os.map prO) c.b:=⟨_,rfl⟩
  have hra:=findR_rng (os.map prO) c.a
  have hrb:=findR_rng (os.map prO) c.b
  rw [← hfa,List.length_map] at hra
  rw [← hfb,List.length_map] at hrb
  refine W.seq ?_
  refine W.regionL (l:=[0,1,2]) rfl ?_
  refine O.box (cs:=#[.int .u8 c.kind,.int .i64 c.a.num,.int .i64 c.a.yr,.int .u8 c.a.half,.int .u8 c.a.sec,.int .i64 c.a.cyc,.int .i64 c.b.num,.int .i64 c.b.yr,.int .u8 c.b.half,.int .u8 c.b.sec,.int .i64 c.b.cyc,.int .i64 c.n]) hf hS rfl rfl rfl rfl ?_
  clear hf hS a; intro b_c1 w a hbb_c1 hS hf
  refine O.val hf rfl rfl rfl (RunV.assign rfl) ?_
  clear hf a; intro a hf
  refine O.val hf rfl rfl rfl (RunV.assign rfl) ?_
  clear hf a; intro a hf
  refine O.nil ?_
  refine k_seq ?_
  replace hf:Fr a 115 [] [(0,vo),(3,.pointer (some ⟨b_c1,0,none⟩)),(4,.slice none 0 0),(5,.int .i64 0)]:=hf.to ⟨rfl,rfl,rfl,rfl,trivial⟩
  refine W.seq ?_
  refine W.drawQ (fun w=>St w0 w noX [rdv 6 vo os.length (encs eO os),allA (os.map rdOb)] [pt b_c1 (.cells #[.int .u8 c.kind,.int .i64 c.a.num,.int .i64 c.a.yr,.int .u8 c.a.half,.int .u8 c.a.sec,.int .i64 c.a.cyc,.int .i64 c.b.num,.int .i64 c.b.yr,.int .u8 c.b.half,.int .u8 c.b.sec,.int .i64 c.b.cyc,.int .i64 c.n] 26 (0,0))]) P_mixed rfl (by kernel_rfl) rfl hS.drew ?_
  clear hS
  refine OQ.val (v:=vo) hf rfl (fun w hS=>RunV.move rfl) ?_; clear hf a; intro a hf
  refine OQ.val (v:=.pointer (some ⟨b_c1,1,none⟩)) hf rfl (fun w hS=>RunV.field T_field_26_1 rfl rfl) ?_; clear hf a; intro a hf
  refine OQ.val (v:=.agg #[.int .i64 c.a.num,.int .i64 c.a.yr,.int .u8 c.a.half,.int .u8 c.a.sec,.int .i64 c.a.cyc]) hf rfl (fun w hS=>RunV.loadN (cs':=#[.int .i64 c.a.num,.int .i64 c.a.yr,.int .u8 c.a.half,.int .u8 c.a.sec,.int .i64 c.a.cyc]) T_agg_24 T_size_24 rfl (hS.ptAt (i:=0) rfl) (Nat.le_of_ble_eq_true rfl) rfl) ?_; clear hf a; intro a hf
  refine OQ.callRq (v:=.int .i64 fa) hf rfl (fun w hS=>RunE.call (av:=#[vo,.agg #[.int .i64 c.a.num,.int .i64 c.a.yr,.int .u8 c.a.half,.int .u8 c.a.sec,.int .i64 c.a.cyc]]) C_ok_43 rfl rfl rfl) (fun w hS=>find_as vo os c.a _ (hS.rdAt (j:=0) rfl) (hS.obAt (i:=1) rfl) fa hfa) ?_; clear hf a; intro a hf
  refine OQ.val (v:=vo) hf rfl (fun w hS=>RunV.move rfl) ?_; clear hf a; intro a hf
  refine OQ.val (v:=.pointer (some ⟨b_c1,6,none⟩)) hf rfl (fun w hS=>RunV.field T_field_26_2 rfl rfl) ?_; clear hf a; intro a hf
  refine OQ.val (v:=.agg #[.int .i64 c.b.num,.int .i64 c.b.yr,.int .u8 c.b.half,.int .u8 c.b.sec,.int .i64 c.b.cyc]) hf rfl (fun w hS=>RunV.loadN (cs':=#[.int .i64 c.b.num,.int .i64 c.b.yr,.int .u8 c.b.half,.int .u8 c.b.sec,.int .i64 c.b.cyc]) T_agg_24 T_size_24 rfl (hS.ptAt (i:=0) rfl) (Nat.le_of_ble_eq_true rfl) rfl) ?_; clear hf a; intro a hf
  refine OQ.callRq (v:=.int .i64 fb) hf rfl (fun w hS=>RunE.call (av:=#[vo,.agg #[.int .i64 c.b.num,.int .i64 c.b.yr,.int .u8 c.b.half,.int .u8 c.b.sec,.int .i64 c.b.cyc]]) C_ok_43 rfl rfl rfl) (fun w hS=>find_as vo os c.b _ (hS.rdAt (j:=0) rfl) (hS.obAt (i:=1) rfl) fb hfb) ?_; clear hf a; intro a hf
  refine OQ.val (v:=.int .i64 fa) hf rfl (fun w hS=>RunV.assign rfl) ?_; clear hf a; intro a hf
  refine OQ.val (v:=.int .i64 fb) hf rfl (fun w hS=>RunV.assign rfl) ?_; clear hf a; intro a hf
  refine OQ.nil ?_; intro w hS
  refine k_seq ?_
  replace hf:Fr a 115 [] [(0,vo),(3,.pointer (some ⟨b_c1,0,none⟩)),(4,.slice none 0 0),(5,.int .i64 0),(6,.int .i64 fa),(7,.int .i64 fb)]:=hf.to ⟨rfl,rfl,rfl,rfl,rfl,rfl,trivial⟩
  refine W.seq ?_
  refine W.seq ?_
  refine W.regionL (l:=[0,1]) rfl ?_
  refine O.val hf rfl rfl rfl (RunV.field T_field_26_0 rfl rfl) ?_
  clear hf a; intro a hf
  refine O.val hf rfl rfl rfl (RunV.load1 T_agg_5 rfl (hS.ptAt (i:=0) rfl) rfl) ?_
  clear hf a; intro a hf
  refine O.nil ?_
  refine k_seq ?_
  replace hf:Fr a 115 [] [(0,vo),(3,.pointer (some ⟨b_c1,0,none⟩)),(4,.slice none 0 0),(5,.int .i64 0),(6,.int .i64 fa),(7,.int .i64 fb),(18,.int .u8 c.kind)]:=hf.to ⟨rfl,rfl,rfl,rfl,rfl,rfl,rfl,trivial⟩
  refine W.block ?_
  refine W.seq ?_
  refine W.regionL (l:=[0,1]) rfl ?_
  refine O.val (v:=.bool (decide (c.kind=(1:Int)))) hf rfl rfl rfl (RunV.eql rfl rfl) ?_
  clear hf a; intro a hf
  refine O.val hf rfl rfl rfl (RunV.assign rfl) ?_
  clear hf a; intro a hf
  refine O.nil ?_
  refine k_seq ?_
  replace hf:Fr a 115 [] [(0,vo),(3,.pointer (some ⟨b_c1,0,none⟩)),(4,.slice none 0 0),(5,.int .i64 0),(6,.int .i64 fa),(7,.int .i64 fb),(18,.int .u8 c.kind),(19,.bool (decide (c.kind=(1:Int))))]:=hf.to ⟨rfl,rfl,rfl,rfl,rfl,rfl,rfl,rfl,trivial⟩
  refine W.ifdI hf rfl (fun hk1=>?_) (fun hk1=>?_)
  · refine W.seq ?_
    refine W.seq ?_
    refine W.regionL (l:=[0,1]) rfl ?_
    refine O.val hf rfl rfl rfl (RunV.move rfl) ?_
    clear hf a; intro a hf
    refine O.val (v:=.bool (decide (fa≥(0:Int)))) hf rfl rfl rfl (RunV.geq rfl rfl) ?_
    clear hf a; intro a hf
    refine O.nil ?_
    refine k_seq ?_
    replace hf:Fr a 115 [] [(0,vo),(3,.pointer (some ⟨b_c1,0,none⟩)),(4,.slice none 0 0),(5,.int .i64 0),(6,.int .i64 fa),(7,.int .i64 fb),(22,.bool (decide (fa≥(0:Int))))]:=hf.to ⟨rfl,rfl,rfl,rfl,rfl,rfl,rfl,trivial⟩
    refine W.ifdI hf rfl (fun hA=>?_) (fun hA=>?_)
    · refine W.seq ?_
      refine W.regionL (l:=[0,1]) rfl ?_
      refine O.val hf rfl rfl rfl (RunV.assign rfl) ?_
      clear hf a; intro a hf
      refine O.val hf rfl rfl rfl (RunV.assign rfl) ?_
      clear hf a; intro a hf
      refine O.nil ?_
      refine k_seq ?_
      refine W.ret ?_
      refine k_then_ret ?_
      refine k_blk_ret ?_
      refine k_then_ret ?_
      refine post2 hf rfl (ResOK.tmp rfl) (ResOK.tmp rfl) ?_
      have hS2:=(hS.sub (N:=[]) (List.nil_sublist _)).noB
      replace hS2:=St.bigNil (hS2.nilSl 46 6)
      exact ⟨(.slice none 0 0,14,[],[]),rfl,hS2,NextR.err (by decide) (by first | exact nx_add_err hk1 (by rw [← hfa]; exact hA) | exact nx_n14 hk1 hk2 (by rw [← hfa]; exact hA) (by rw [← hfb]; exact hB))⟩
    · refine W.skip ?_
      refine k_seq ?_
      refine W.seq ?_
      have hf1:Fr a 115 [] []:=hf.to trivial
      replace hf:Fr a 115 [] [(0,vo),(3,.pointer (some ⟨b_c1,0,none⟩)),(6,.int .i64 fa),(7,.int .i64 fb)]:=hf.to ⟨rfl,rfl,rfl,rfl,trivial⟩
      replace hS:=hS.drew
      replace hS:=hS.emp
      let LZ112:List (Nat × Value):=[(0,vo),(3,.pointer (some ⟨b_c1,0,none⟩)),(6,.int .i64 fa),(7,.int .i64 fb)]
      let MZ112:List Asr:=[pt b_c1 (.cells #[.int .u8 c.kind,.int .i64 c.a.num,.int .i64 c.a.yr,.int .u8 c.a.half,.int .u8 c.a.sec,.int .i64 c.a.cyc,.int .i64 c.b.num,.int .i64 c.b.yr,.int .u8 c.b.half,.int .u8 c.b.sec,.int .i64 c.b.cyc,.int .i64 c.n] 26 (0,0))]
      let BZ112:List Asr:=[rdv 6 vo os.length (encs eO os),allA (os.map rdOb)]
      refine W.drawC (γ:=(Nat) × (Nat) × (Value) × (Ob) × (Nat) × (Value)) (L0:=LZ112) (L1:=[]) (0,0,default,default,0,default) [0,2,6,7,8] [5] [1,3,4,9,10] (fun i=>match i with | 2=>[0,1] | 4=>[3] | 5=>[4] | 6=>[2,5] | 7=>[6] | 8=>[2,6,7] | 9=>[0,1,2,3,4,5,6,7,8] | 10=>[0,1,2,3,4,5,6,7,8,9] | _=>[]) (fun i=>match i with | 2=>[0] | 6=>[0,2,5] | 7=>[0,2,6,5] | 8=>[0,2,6,7,5] | 9=>[0,2,6,7,8,5] | 10=>[0,2,6,7,8,5] | _=>[]) (fun i=>match i with | 0=>[2,6,7,8] | 1=>[2,6,7,8] | 2=>[6,7,8] | 3=>[6,7,8] | 4=>[6,7,8] | 5=>[6,7,8] | 6=>[7,8] | 7=>[8] | _=>[]) (fun i=>match i with | 6=>[5] | 7=>[5] | 8=>[5] | 9=>[5] | 10=>[5] | _=>[]) (fun i=>match i with | 0=>[2,6,7,8,9,10] | 2=>[6,7,8,9,10] | 5=>[6,7,8,9,10] | 6=>[7,8,9,10] | 7=>[8,9,10] | 8=>[9,10] | _=>[]) (fun _=>[]) (fun i=>match i with | 2=>1 | 6=>2 | 7=>3 | 8=>4 | 9=>5 | 10=>5 | _=>0) (fun i=>match i with | 0=>1 | 1=>1 | 2=>2 | 3=>2 | 4=>2 | 5=>2 | 6=>3 | 7=>4 | 8=>5 | 9=>5 | 10=>5 | _=>0) (fun (g:(Nat) × (Nat) × (Value) × (Ob) × (Nat) × (Value)) j=>match g,j with | ⟨b_s4,b_s5,v6,on,b_s8,v9⟩,0=>.slice (some ⟨b_s5,0,none⟩) 0 0 | ⟨b_s4,b_s5,v6,on,b_s8,v9⟩,1=>vo | ⟨b_s4,b_s5,v6,on,b_s8,v9⟩,2=>v6 | ⟨b_s4,b_s5,v6,on,b_s8,v9⟩,3=>.pointer (some ⟨b_c1,1,none⟩) | ⟨b_s4,b_s5,v6,on,b_s8,v9⟩,4=>.agg #[.int .i64 c.a.num,.int .i64 c.a.yr,.int .u8 c.a.half,.int .u8 c.a.sec,.int .i64 c.a.cyc] | ⟨b_s4,b_s5,v6,on,b_s8,v9⟩,5=>.slice (some ⟨b_s4,0,none⟩) 1 1 | ⟨b_s4,b_s5,v6,on,b_s8,v9⟩,6=>.agg #[.int .i64 on.p.num,.int .i64 on.p.yr,.int .u8 on.p.half,.int .u8 on.p.sec,.int .i64 on.p.cyc,(.slice on.ad on.n on.c)] | ⟨b_s4,b_s5,v6,on,b_s8,v9⟩,7=>.slice (some ⟨b_s8,0,none⟩) 1 1 | ⟨b_s4,b_s5,v6,on,b_s8,v9⟩,8=>v9 | ⟨b_s4,b_s5,v6,on,b_s8,v9⟩,9=>v9 | ⟨b_s4,b_s5,v6,on,b_s8,v9⟩,10=>.int .i64 0 | _,_=>undef) (fun k s (g:(Nat) × (Nat) × (Value) × (Ob) × (Nat) × (Value)) w=>match k,g with | 0,⟨b_s4,b_s5,v6,on,b_s8,v9⟩=>St w0 w noX BZ112 (condA (s 5) (pt b_s4 (.cells #[.int .i64 c.a.num,.int .i64 c.a.yr,.int .u8 c.a.half,.int .u8 c.a.sec,.int .i64 c.a.cyc] 24 (0,0)))::MZ112) | 1,⟨b_s4,b_s5,v6,on,b_s8,v9⟩=>St w0 w noX BZ112 (sl 46 6 (.slice (some ⟨b_s5,0,none⟩) 0 0) 0 ([])::condA (s 5) (pt b_s4 (.cells #[.int .i64 c.a.num,.int .i64 c.a.yr,.int .u8 c.a.half,.int .u8 c.a.sec,.int .i64 c.a.cyc] 24 (0,0)))::MZ112) | 2,⟨b_s4,b_s5,v6,on,b_s8,v9⟩=>St w0 w noX BZ112 (sl 46 6 v6 os.length (encs eO os)::condA (s 5) (pt b_s4 (.cells #[.int .i64 c.a.num,.int .i64 c.a.yr,.int .u8 c.a.half,.int .u8 c.a.sec,.int .i64 c.a.cyc] 24 (0,0)))::MZ112) | 3,⟨b_s4,b_s5,v6,on,b_s8,v9⟩=>St w0 w noX BZ112 (obF [c.a] on::sl 46 6 v6 os.length (encs eO os)::pt b_s4 (.cells #[.int .i64 c.a.num,.int .i64 c.a.yr,.int .u8 c.a.half,.int .u8 c.a.sec,.int .i64 c.a.cyc] 24 (0,0))::MZ112) | 4,⟨b_s4,b_s5,v6,on,b_s8,v9⟩=>St w0 w noX BZ112 (pt b_s8 (.cells #[.int .i64 on.p.num,.int .i64 on.p.yr,.int .u8 on.p.half,.int .u8 on.p.sec,.int .i64 on.p.cyc,(.slice on.ad on.n on.c)] 46 (0,0))::obF [c.a] on::sl 46 6 v6 os.length (encs eO os)::pt b_s4 (.cells #[.int .i64 c.a.num,.int .i64 c.a.yr,.int .u8 c.a.half,.int .u8 c.a.sec,.int .i64 c.a.cyc] 24 (0,0))::MZ112) | _,⟨b_s4,b_s5,v6,on,b_s8,v9⟩=>St w0 w noX BZ112 (pt b_s8 (.cells #[.int .i64 on.p.num,.int .i64 on.p.yr,.int .u8 on.p.half,.int .u8 on.p.sec,.int .i64 on.p.cyc,(.slice on.ad on.n on.c)] 46 (0,0))::obF [c.a] on::sl 46 6 v9 ((os++[on]).length) (encs eO (os++[on]))::pt b_s4 (.cells #[.int .i64 c.a.num,.int .i64 c.a.yr,.int .u8 c.a.half,.int .u8 c.a.sec,.int .i64 c.a.cyc] 24 (0,0))::MZ112)) P_mixed (by kernel_rfl) (by kernel_rfl) (by kernel_rfl) hf hf1 hS ?_ ?_ ?_ ?_
      · clear hf hf1 hS
        refine ⟨?_,?_,?_,?_,?_,trivial⟩
        · intro k s g w h1_ h2_ hsp hD a hf
          obtain ⟨b_s4,b_s5,v6,on,b_s8,v9⟩:=g
          rcases k with _ | _ | k
          · have hS:St w0 w noX BZ112 (condA (s 5) (pt b_s4 (.cells #[.int .i64 c.a.num,.int .i64 c.a.yr,.int .u8 c.a.half,.int .u8 c.a.sec,.int .i64 c.a.cyc] 24 (0,0)))::MZ112):=hD;
            replace hf:Fr a 115 [] LZ112:=hf
            refine O.val hf rfl rfl rfl (RunV.move rfl) ?_
            clear hf a; intro a hf
            exact O.nil ⟨rfl,hf.to trivial,(gt (d:=24) hf rfl rfl),hD⟩
          · have hS:St w0 w noX BZ112 (sl 46 6 (.slice (some ⟨b_s5,0,none⟩) 0 0) 0 ([])::condA (s 5) (pt b_s4 (.cells #[.int .i64 c.a.num,.int .i64 c.a.yr,.int .u8 c.a.half,.int .u8 c.a.sec,.int .i64 c.a.cyc] 24 (0,0)))::MZ112):=hD;
            replace hf:Fr a 115 [] LZ112:=hf
            refine O.val hf rfl rfl rfl (RunV.move rfl) ?_
            clear hf a; intro a hf
            exact O.nil ⟨rfl,hf.to trivial,(gt (d:=24) hf rfl rfl),hD⟩
          · exact absurd h2_ (by simp)
        · intro k s g w h1_ h2_ hsp hD a hf
          obtain ⟨b_s4,b_s5,v6,on,b_s8,v9⟩:=g
          rcases k with _ | _ | _ | k
          · have hS:St w0 w noX BZ112 (condA (s 5) (pt b_s4 (.cells #[.int .i64 c.a.num,.int .i64 c.a.yr,.int .u8 c.a.half,.int .u8 c.a.sec,.int .i64 c.a.cyc] 24 (0,0)))::MZ112):=hD;
            replace hf:Fr a 115 [] LZ112:=hf
            refine O.val hf rfl rfl rfl (RunV.field T_field_26_1 rfl rfl) ?_
            clear hf a; intro a hf
            exact O.nil ⟨rfl,hf.to trivial,(gt (d:=26) hf rfl rfl),hD⟩
          · have hS:St w0 w noX BZ112 (sl 46 6 (.slice (some ⟨b_s5,0,none⟩) 0 0) 0 ([])::condA (s 5) (pt b_s4 (.cells #[.int .i64 c.a.num,.int .i64 c.a.yr,.int .u8 c.a.half,.int .u8 c.a.sec,.int .i64 c.a.cyc] 24 (0,0)))::MZ112):=hD;
            replace hf:Fr a 115 [] LZ112:=hf
            refine O.val hf rfl rfl rfl (RunV.field T_field_26_1 rfl rfl) ?_
            clear hf a; intro a hf
            exact O.nil ⟨rfl,hf.to trivial,(gt (d:=26) hf rfl rfl),hD⟩
          · have hS:St w0 w noX BZ112 (sl 46 6 v6 os.length (encs eO os)::condA (s 5) (pt b_s4 (.cells #[.int .i64 c.a.num,.int .i64 c.a.yr,.int .u8 c.a.half,.int .u8 c.a.sec,.int .i64 c.a.cyc] 24 (0,0)))::MZ112):=hD;
            replace hf:Fr a 115 [] LZ112:=hf
            refine O.val hf rfl rfl rfl (RunV.field T_field_26_1 rfl rfl) ?_
            clear hf a; intro a hf
            exact O.nil ⟨rfl,hf.to trivial,(gt (d:=26) hf rfl rfl),hD⟩
          · exact absurd h2_ (by simp)
        · intro k s g w h1_ h2_ hsp hD a hf
          obtain ⟨b_s4,b_s5,v6,on,b_s8,v9⟩:=g
          rcases k with _ | _ | _ | k
          · have hS:St w0 w noX BZ112 (condA (s 5) (pt b_s4 (.cells #[.int .i64 c.a.num,.int .i64 c.a.yr,.int .u8 c.a.half,.int .u8 c.a.sec,.int .i64 c.a.cyc] 24 (0,0)))::MZ112):=hD;
            replace hf:Fr a 115 [] ((26,.pointer (some ⟨b_c1,1,none⟩))::LZ112):=hf
            refine O.val hf rfl rfl rfl (RunV.loadN (cs':=#[.int .i64 c.a.num,.int .i64 c.a.yr,.int .u8 c.a.half,.int .u8 c.a.sec,.int .i64 c.a.cyc]) T_agg_24 T_size_24 rfl (hS.ptAt (i:=1) rfl) (Nat.le_of_ble_eq_true rfl) rfl) ?_
            clear hf a; intro a hf
            exact O.nil ⟨rfl,hf.to trivial,(gt (d:=27) hf rfl rfl),hD⟩
          · have hS:St w0 w noX BZ112 (sl 46 6 (.slice (some ⟨b_s5,0,none⟩) 0 0) 0 ([])::condA (s 5) (pt b_s4 (.cells #[.int .i64 c.a.num,.int .i64 c.a.yr,.int .u8 c.a.half,.int .u8 c.a.sec,.int .i64 c.a.cyc] 24 (0,0)))::MZ112):=hD;
            replace hf:Fr a 115 [] ((26,.pointer (some ⟨b_c1,1,none⟩))::LZ112):=hf
            refine O.val hf rfl rfl rfl (RunV.loadN (cs':=#[.int .i64 c.a.num,.int .i64 c.a.yr,.int .u8 c.a.half,.int .u8 c.a.sec,.int .i64 c.a.cyc]) T_agg_24 T_size_24 rfl (hS.ptAt (i:=2) rfl) (Nat.le_of_ble_eq_true rfl) rfl) ?_
            clear hf a; intro a hf
            exact O.nil ⟨rfl,hf.to trivial,(gt (d:=27) hf rfl rfl),hD⟩
          · have hS:St w0 w noX BZ112 (sl 46 6 v6 os.length (encs eO os)::condA (s 5) (pt b_s4 (.cells #[.int .i64 c.a.num,.int .i64 c.a.yr,.int .u8 c.a.half,.int .u8 c.a.sec,.int .i64 c.a.cyc] 24 (0,0)))::MZ112):=hD;
            replace hf:Fr a 115 [] ((26,.pointer (some ⟨b_c1,1,none⟩))::LZ112):=hf
            refine O.val hf rfl rfl rfl (RunV.loadN (cs':=#[.int .i64 c.a.num,.int .i64 c.a.yr,.int .u8 c.a.half,.int .u8 c.a.sec,.int .i64 c.a.cyc]) T_agg_24 T_size_24 rfl (hS.ptAt (i:=2) rfl) (Nat.le_of_ble_eq_true rfl) rfl) ?_
            clear hf a; intro a hf
            exact O.nil ⟨rfl,hf.to trivial,(gt (d:=27) hf rfl rfl),hD⟩
          · exact absurd h2_ (by simp)
        · intro k s g w h1_ h2_ hsp hD a hf
          obtain ⟨b_s4,b_s5,v6,on,b_s8,v9⟩:=g
          obtain rfl:k=5:=Nat.le_antisymm h2_ h1_
          have ha_5:s 5=true:=hsp 5 (by simp)
          have hS:St w0 w noX BZ112 (pt b_s8 (.cells #[.int .i64 on.p.num,.int .i64 on.p.yr,.int .u8 on.p.half,.int .u8 on.p.sec,.int .i64 on.p.cyc,(.slice on.ad on.n on.c)] 46 (0,0))::obF [c.a] on::sl 46 6 v9 ((os++[on]).length) (encs eO (os++[on]))::pt b_s4 (.cells #[.int .i64 c.a.num,.int .i64 c.a.yr,.int .u8 c.a.half,.int .u8 c.a.sec,.int .i64 c.a.cyc] 24 (0,0))::MZ112):=hD;
          replace hS:St w0 w noX BZ112 (pt b_s8 (.cells #[.int .i64 on.p.num,.int .i64 on.p.yr,.int .u8 on.p.half,.int .u8 on.p.sec,.int .i64 on.p.cyc,(.slice on.ad on.n on.c)] 46 (0,0))::obF [c.a] on::sl 46 6 v9 ((os++[on]).length) (encs eO (os++[on]))::pt b_s4 (.cells #[.int .i64 c.a.num,.int .i64 c.a.yr,.int .u8 c.a.half,.int .u8 c.a.sec,.int .i64 c.a.cyc] 24 (0,0))::MZ112):=hS
          replace hf:Fr a 115 [] ((23,.slice (some ⟨b_s5,0,none⟩) 0 0)::(24,vo)::(25,v6)::(26,.pointer (some ⟨b_c1,1,none⟩))::(27,.agg #[.int .i64 c.a.num,.int .i64 c.a.yr,.int .u8 c.a.half,.int .u8 c.a.sec,.int .i64 c.a.cyc])::(28,.slice (some ⟨b_s4,0,none⟩) 1 1)::(29,.agg #[.int .i64 on.p.num,.int .i64 on.p.yr,.int .u8 on.p.half,.int .u8 on.p.sec,.int .i64 on.p.cyc,(.slice on.ad on.n on.c)])::(30,.slice (some ⟨b_s8,0,none⟩) 1 1)::(31,v9)::LZ112):=hf
          refine O.val hf rfl rfl rfl (RunV.assign rfl) ?_
          clear hf a; intro a hf
          exact O.nil ⟨rfl,hf.to trivial,(gt (d:=4) hf rfl rfl),hD⟩
        · intro k s g w h1_ h2_ hsp hD a hf
          obtain ⟨b_s4,b_s5,v6,on,b_s8,v9⟩:=g
          obtain rfl:k=5:=Nat.le_antisymm h2_ h1_
          have ha_5:s 5=true:=hsp 5 (by simp)
          have hS:St w0 w noX BZ112 (pt b_s8 (.cells #[.int .i64 on.p.num,.int .i64 on.p.yr,.int .u8 on.p.half,.int .u8 on.p.sec,.int .i64 on.p.cyc,(.slice on.ad on.n on.c)] 46 (0,0))::obF [c.a] on::sl 46 6 v9 ((os++[on]).length) (encs eO (os++[on]))::pt b_s4 (.cells #[.int .i64 c.a.num,.int .i64 c.a.yr,.int .u8 c.a.half,.int .u8 c.a.sec,.int .i64 c.a.cyc] 24 (0,0))::MZ112):=hD;
          replace hS:St w0 w noX BZ112 (pt b_s8 (.cells #[.int .i64 on.p.num,.int .i64 on.p.yr,.int .u8 on.p.half,.int .u8 on.p.sec,.int .i64 on.p.cyc,(.slice on.ad on.n on.c)] 46 (0,0))::obF [c.a] on::sl 46 6 v9 ((os++[on]).length) (encs eO (os++[on]))::pt b_s4 (.cells #[.int .i64 c.a.num,.int .i64 c.a.yr,.int .u8 c.a.half,.int .u8 c.a.sec,.int .i64 c.a.cyc] 24 (0,0))::MZ112):=hS
          replace hf:Fr a 115 [] ((23,.slice (some ⟨b_s5,0,none⟩) 0 0)::(24,vo)::(25,v6)::(26,.pointer (some ⟨b_c1,1,none⟩))::(27,.agg #[.int .i64 c.a.num,.int .i64 c.a.yr,.int .u8 c.a.half,.int .u8 c.a.sec,.int .i64 c.a.cyc])::(28,.slice (some ⟨b_s4,0,none⟩) 1 1)::(29,.agg #[.int .i64 on.p.num,.int .i64 on.p.yr,.int .u8 on.p.half,.int .u8 on.p.sec,.int .i64 on.p.cyc,(.slice on.ad on.n on.c)])::(30,.slice (some ⟨b_s8,0,none⟩) 1 1)::(31,v9)::(4,v9)::LZ112):=hf
          refine O.val hf rfl rfl rfl (RunV.assign rfl) ?_
          clear hf a; intro a hf
          exact O.nil ⟨rfl,hf.to trivial,(gt (d:=5) hf rfl rfl),hD⟩
      · clear hf hf1 hS
        refine ⟨?_,?_,?_,?_,?_,trivial⟩
        · intro s g w hsp hD a hf
          obtain ⟨b_s4,b_s5,v6,on,b_s8,v9⟩:=g
          have hS:St w0 w noX BZ112 (condA (s 5) (pt b_s4 (.cells #[.int .i64 c.a.num,.int .i64 c.a.yr,.int .u8 c.a.half,.int .u8 c.a.sec,.int .i64 c.a.cyc] 24 (0,0)))::MZ112):=hD;
          replace hf:Fr a 115 [] LZ112:=hf
          clear hD
          refine O.buildSlice0 hf hS rfl rfl T_elem_39 T_size_46 rfl ?_
          clear hf hS a; intro b_s10 w a hbb_s10 hS hf
          exact O.nil ⟨rfl,(b_s4,b_s10,v6,on,b_s8,v9),hf.to trivial,(gt (d:=23) hf rfl rfl),(fun j_ hj_ ha_=>match j_,hj_,ha_ with | 0,hj_,ha_=>absurd rfl hj_ | 1,hj_,ha_=>rfl | 2,hj_,ha_=>absurd ha_ (by decide) | 3,hj_,ha_=>rfl | 4,hj_,ha_=>rfl | 5,hj_,ha_=>rfl | 6,hj_,ha_=>absurd ha_ (by decide) | 7,hj_,ha_=>absurd ha_ (by decide) | 8,hj_,ha_=>absurd ha_ (by decide) | 9,hj_,ha_=>absurd ha_ (by decide) | 10,hj_,ha_=>absurd ha_ (by decide) | _+11,_,_=>rfl),hS⟩
        · intro s g w hsp hD a hf
          obtain ⟨b_s4,b_s5,v6,on,b_s8,v9⟩:=g
          have hS:St w0 w noX BZ112 (sl 46 6 (.slice (some ⟨b_s5,0,none⟩) 0 0) 0 ([])::condA (s 5) (pt b_s4 (.cells #[.int .i64 c.a.num,.int .i64 c.a.yr,.int .u8 c.a.half,.int .u8 c.a.sec,.int .i64 c.a.cyc] 24 (0,0)))::MZ112):=hD;
          replace hf:Fr a 115 [] ((23,.slice (some ⟨b_s5,0,none⟩) 0 0)::(24,vo)::LZ112):=hf
          clear hD
          replace hS:St w0 w noX BZ112 (slE 46 6 eO (.slice (some ⟨b_s5,0,none⟩) 0 0) ([]:List Ob)::condA (s 5) (pt b_s4 (.cells #[.int .i64 c.a.num,.int .i64 c.a.yr,.int .u8 c.a.half,.int .u8 c.a.sec,.int .i64 c.a.cyc] 24 (0,0)))::MZ112):=hS
          refine O.appendEV (j:=0) (enc:=eO) (l:=([]:List Ob)) (m:=os) (l':=os) hf hS rfl rfl T_elem_39 T_size_46 T_bytes_46 T_zero_46 rfl rfl rfl rfl rfl ⟨(hS.rdAt (j:=0) rfl),hfit⟩ (fun _=>rfl) (by decide) (by omega) rfl rfl ?_
          clear hf hS a; intro v11 w a hS hf
          replace hS:St w0 w noX BZ112 (sl 46 6 v11 os.length (encs eO os)::condA (s 5) (pt b_s4 (.cells #[.int .i64 c.a.num,.int .i64 c.a.yr,.int .u8 c.a.half,.int .u8 c.a.sec,.int .i64 c.a.cyc] 24 (0,0)))::MZ112):=hS
          exact O.nil ⟨rfl,(b_s4,b_s5,v11,on,b_s8,v9),hf.to trivial,(gt (d:=25) hf rfl rfl),(fun j_ hj_ ha_=>match j_,hj_,ha_ with | 0,hj_,ha_=>rfl | 1,hj_,ha_=>rfl | 2,hj_,ha_=>absurd rfl hj_ | 3,hj_,ha_=>rfl | 4,hj_,ha_=>rfl | 5,hj_,ha_=>rfl | 6,hj_,ha_=>absurd ha_ (by decide) | 7,hj_,ha_=>absurd ha_ (by decide) | 8,hj_,ha_=>absurd ha_ (by decide) | 9,hj_,ha_=>absurd ha_ (by decide) | 10,hj_,ha_=>absurd ha_ (by decide) | _+11,_,_=>rfl),hS⟩
        · intro s g w hsp hD a hf
          obtain ⟨b_s4,b_s5,v6,on,b_s8,v9⟩:=g
          have ha_5:s 5=true:=hsp 5 (by simp)
          have hS:St w0 w noX BZ112 (sl 46 6 v6 os.length (encs eO os)::condA (s 5) (pt b_s4 (.cells #[.int .i64 c.a.num,.int .i64 c.a.yr,.int .u8 c.a.half,.int .u8 c.a.sec,.int .i64 c.a.cyc] 24 (0,0)))::MZ112):=hD; rw [ha_5] at hS
          replace hS:St w0 w noX BZ112 (sl 46 6 v6 os.length (encs eO os)::pt b_s4 (.cells #[.int .i64 c.a.num,.int .i64 c.a.yr,.int .u8 c.a.half,.int .u8 c.a.sec,.int .i64 c.a.cyc] 24 (0,0))::MZ112):=hS
          replace hf:Fr a 115 [] ((25,v6)::(28,.slice (some ⟨b_s4,0,none⟩) 1 1)::LZ112):=hf
          clear hD
          refine O.callR hf rfl rfl rfl (RunE.call (av:=#[.slice (some ⟨b_s4,0,none⟩) 1 1]) C_ok_59 rfl rfl rfl) (made_ob (.slice (some ⟨b_s4,0,none⟩) 1 1) [c.a] _ (hS.rdPt (j:=1) (n:=1) (sz:=5) (xs:=encs eD [c.a]) rfl (by unfold maxLen; decide) rfl rfl) (fun d hd=>by rw [List.mem_singleton.1 hd]; exact ⟨hoc,hrc.1⟩) (by simp) (by simp)) ?_
          clear hf a
          rintro on w12 hS1 a hf
          replace hf:Fr a _ _ ((29,.agg #[.int .i64 on.p.num,.int .i64 on.p.yr,.int .u8 on.p.half,.int .u8 on.p.sec,.int .i64 on.p.cyc,(.slice on.ad on.n on.c)])::_):=hf
          replace hS:=(hS.call hS1).eqM (N:=(obF [c.a] on::sl 46 6 v6 os.length (encs eO os)::pt b_s4 (.cells #[.int .i64 c.a.num,.int .i64 c.a.yr,.int .u8 c.a.half,.int .u8 c.a.sec,.int .i64 c.a.cyc] 24 (0,0))::MZ112)) rfl
          clear hS1
          exact O.nil ⟨rfl,(b_s4,b_s5,v6,on,b_s8,v9),hf.to trivial,(gt (d:=29) hf rfl rfl),(fun j_ hj_ ha_=>match j_,hj_,ha_ with | 0,hj_,ha_=>rfl | 1,hj_,ha_=>rfl | 2,hj_,ha_=>rfl | 3,hj_,ha_=>rfl | 4,hj_,ha_=>rfl | 5,hj_,ha_=>rfl | 6,hj_,ha_=>absurd rfl hj_ | 7,hj_,ha_=>absurd ha_ (by decide) | 8,hj_,ha_=>absurd ha_ (by decide) | 9,hj_,ha_=>absurd ha_ (by decide) | 10,hj_,ha_=>absurd ha_ (by decide) | _+11,_,_=>rfl),hS⟩
        · intro s g w hsp hD a hf
          obtain ⟨b_s4,b_s5,v6,on,b_s8,v9⟩:=g
          have ha_5:s 5=true:=hsp 5 (by simp)
          have hS:St w0 w noX BZ112 (obF [c.a] on::sl 46 6 v6 os.length (encs eO os)::pt b_s4 (.cells #[.int .i64 c.a.num,.int .i64 c.a.yr,.int .u8 c.a.half,.int .u8 c.a.sec,.int .i64 c.a.cyc] 24 (0,0))::MZ112):=hD;
          replace hS:St w0 w noX BZ112 (obF [c.a] on::sl 46 6 v6 os.length (encs eO os)::pt b_s4 (.cells #[.int .i64 c.a.num,.int .i64 c.a.yr,.int .u8 c.a.half,.int .u8 c.a.sec,.int .i64 c.a.cyc] 24 (0,0))::MZ112):=hS
          replace hf:Fr a 115 [] ((29,.agg #[.int .i64 on.p.num,.int .i64 on.p.yr,.int .u8 on.p.half,.int .u8 on.p.sec,.int .i64 on.p.cyc,(.slice on.ad on.n on.c)])::LZ112):=hf
          clear hD
          refine O.buildSlice (cs':=#[.int .i64 on.p.num,.int .i64 on.p.yr,.int .u8 on.p.half,.int .u8 on.p.sec,.int .i64 on.p.cyc,(.slice on.ad on.n on.c)]) (zs:=#[.int .i64 0,.int .i64 0,.int .u8 0,.int .u8 0,.int .i64 0,.slice none 0 0]) hf hS rfl rfl T_elem_39 T_size_46 T_zero_46 rfl rfl rfl rfl rfl ?_
          clear hf hS a; intro b_s13 w a hbb_s13 hS hf
          exact O.nil ⟨rfl,(b_s4,b_s5,v6,on,b_s13,v9),hf.to trivial,(gt (d:=30) hf rfl rfl),(fun j_ hj_ ha_=>match j_,hj_,ha_ with | 0,hj_,ha_=>rfl | 1,hj_,ha_=>rfl | 2,hj_,ha_=>rfl | 3,hj_,ha_=>rfl | 4,hj_,ha_=>rfl | 5,hj_,ha_=>rfl | 6,hj_,ha_=>rfl | 7,hj_,ha_=>absurd rfl hj_ | 8,hj_,ha_=>absurd ha_ (by decide) | 9,hj_,ha_=>absurd ha_ (by decide) | 10,hj_,ha_=>absurd ha_ (by decide) | _+11,_,_=>rfl),hS⟩
        · intro s g w hsp hD a hf
          obtain ⟨b_s4,b_s5,v6,on,b_s8,v9⟩:=g
          have ha_5:s 5=true:=hsp 5 (by simp)
          have hS:St w0 w noX BZ112 (pt b_s8 (.cells #[.int .i64 on.p.num,.int .i64 on.p.yr,.int .u8 on.p.half,.int .u8 on.p.sec,.int .i64 on.p.cyc,(.slice on.ad on.n on.c)] 46 (0,0))::obF [c.a] on::sl 46 6 v6 os.length (encs eO os)::pt b_s4 (.cells #[.int .i64 c.a.num,.int .i64 c.a.yr,.int .u8 c.a.half,.int .u8 c.a.sec,.int .i64 c.a.cyc] 24 (0,0))::MZ112):=hD;
          replace hS:St w0 w noX BZ112 (pt b_s8 (.cells #[.int .i64 on.p.num,.int .i64 on.p.yr,.int .u8 on.p.half,.int .u8 on.p.sec,.int .i64 on.p.cyc,(.slice on.ad on.n on.c)] 46 (0,0))::obF [c.a] on::sl 46 6 v6 os.length (encs eO os)::pt b_s4 (.cells #[.int .i64 c.a.num,.int .i64 c.a.yr,.int .u8 c.a.half,.int .u8 c.a.sec,.int .i64 c.a.cyc] 24 (0,0))::MZ112):=hS
          replace hf:Fr a 115 [] ((25,v6)::(29,.agg #[.int .i64 on.p.num,.int .i64 on.p.yr,.int .u8 on.p.half,.int .u8 on.p.sec,.int .i64 on.p.cyc,(.slice on.ad on.n on.c)])::(30,.slice (some ⟨b_s8,0,none⟩) 1 1)::LZ112):=hf
          clear hD
          refine O.append1 (j:=2) (jj:=0) hf hS rfl rfl T_elem_39 T_size_46 T_bytes_46 T_zero_46 rfl rfl rfl rfl rfl rfl rfl rfl (by unfold maxLen; omega) (by omega) ?_
          clear hf hS a; intro v14 w a hS hf
          replace hS:=hS.eqM (N:=(pt b_s8 (.cells #[.int .i64 on.p.num,.int .i64 on.p.yr,.int .u8 on.p.half,.int .u8 on.p.sec,.int .i64 on.p.cyc,(.slice on.ad on.n on.c)] 46 (0,0))::obF [c.a] on::sl 46 6 v14 (os.length+1) (encs eO os++[.int .i64 on.p.num,.int .i64 on.p.yr,.int .u8 on.p.half,.int .u8 on.p.sec,.int .i64 on.p.cyc,(.slice on.ad on.n on.c)])::pt b_s4 (.cells #[.int .i64 c.a.num,.int .i64 c.a.yr,.int .u8 c.a.half,.int .u8 c.a.sec,.int .i64 c.a.cyc] 24 (0,0))::MZ112)) rfl
          replace hS:=hS.reE (i:=2) (M':=(pt b_s8 (.cells #[.int .i64 on.p.num,.int .i64 on.p.yr,.int .u8 on.p.half,.int .u8 on.p.sec,.int .i64 on.p.cyc,(.slice on.ad on.n on.c)] 46 (0,0))::obF [c.a] on::sl 46 6 v14 ((os++[on]).length) (encs eO (os++[on]))::pt b_s4 (.cells #[.int .i64 c.a.num,.int .i64 c.a.yr,.int .u8 c.a.half,.int .u8 c.a.sec,.int .i64 c.a.cyc] 24 (0,0))::MZ112)) rfl (sl_snoc (enc:=eO) (l:=os) (x:=on)) rfl
          exact O.nil ⟨rfl,(b_s4,b_s5,v6,on,b_s8,v14),hf.to trivial,(gt (d:=31) hf rfl rfl),(fun j_ hj_ ha_=>match j_,hj_,ha_ with | 0,hj_,ha_=>rfl | 1,hj_,ha_=>rfl | 2,hj_,ha_=>rfl | 3,hj_,ha_=>rfl | 4,hj_,ha_=>rfl | 5,hj_,ha_=>rfl | 6,hj_,ha_=>rfl | 7,hj_,ha_=>rfl | 8,hj_,ha_=>absurd rfl hj_ | 9,hj_,ha_=>absurd ha_ (by decide) | 10,hj_,ha_=>absurd ha_ (by decide) | _+11,_,_=>rfl),hS⟩
      · clear hf hf1 hS
        refine ⟨?_,trivial⟩
        · intro k s g w h1_ h2_ hs0 hD a hf
          obtain ⟨b_s4,b_s5,v6,on,b_s8,v9⟩:=g
          rcases k with _ | _ | _ | k
          · have hS:St w0 w noX BZ112 (condA (s 5) (pt b_s4 (.cells #[.int .i64 c.a.num,.int .i64 c.a.yr,.int .u8 c.a.half,.int .u8 c.a.sec,.int .i64 c.a.cyc] 24 (0,0)))::MZ112):=hD; clear hD
            replace hf:Fr a 115 [] ((27,.agg #[.int .i64 c.a.num,.int .i64 c.a.yr,.int .u8 c.a.half,.int .u8 c.a.sec,.int .i64 c.a.cyc])::LZ112):=hf
            refine O.buildC (j:=0) (cs':=#[.int .i64 c.a.num,.int .i64 c.a.yr,.int .u8 c.a.half,.int .u8 c.a.sec,.int .i64 c.a.cyc]) (zs:=#[.int .i64 0,.int .i64 0,.int .u8 0,.int .u8 0,.int .i64 0]) hf hS rfl hs0 rfl rfl T_elem_35 T_size_24 T_zero_24 rfl rfl rfl rfl rfl ?_; clear hf hS a; intro b_s15 w a hS hf
            exact O.nil ⟨rfl,(b_s15,b_s5,v6,on,b_s8,v9),hf.to trivial,(gt (d:=28) hf rfl rfl),(fun j_ hj_ ha_=>match j_,hj_,ha_ with | 0,hj_,ha_=>rfl | 1,hj_,ha_=>rfl | 2,hj_,ha_=>rfl | 3,hj_,ha_=>rfl | 4,hj_,ha_=>rfl | 5,hj_,ha_=>absurd rfl hj_ | 6,hj_,ha_=>absurd ha_ (by decide) | 7,hj_,ha_=>absurd ha_ (by decide) | 8,hj_,ha_=>absurd ha_ (by decide) | 9,hj_,ha_=>absurd ha_ (by decide) | 10,hj_,ha_=>absurd ha_ (by decide) | _+11,_,_=>rfl),hS⟩
          · have hS:St w0 w noX BZ112 (sl 46 6 (.slice (some ⟨b_s5,0,none⟩) 0 0) 0 ([])::condA (s 5) (pt b_s4 (.cells #[.int .i64 c.a.num,.int .i64 c.a.yr,.int .u8 c.a.half,.int .u8 c.a.sec,.int .i64 c.a.cyc] 24 (0,0)))::MZ112):=hD; clear hD
            replace hf:Fr a 115 [] ((27,.agg #[.int .i64 c.a.num,.int .i64 c.a.yr,.int .u8 c.a.half,.int .u8 c.a.sec,.int .i64 c.a.cyc])::LZ112):=hf
            refine O.buildC (j:=1) (cs':=#[.int .i64 c.a.num,.int .i64 c.a.yr,.int .u8 c.a.half,.int .u8 c.a.sec,.int .i64 c.a.cyc]) (zs:=#[.int .i64 0,.int .i64 0,.int .u8 0,.int .u8 0,.int .i64 0]) hf hS rfl hs0 rfl rfl T_elem_35 T_size_24 T_zero_24 rfl rfl rfl rfl rfl ?_; clear hf hS a; intro b_s16 w a hS hf
            exact O.nil ⟨rfl,(b_s16,b_s5,v6,on,b_s8,v9),hf.to trivial,(gt (d:=28) hf rfl rfl),(fun j_ hj_ ha_=>match j_,hj_,ha_ with | 0,hj_,ha_=>rfl | 1,hj_,ha_=>rfl | 2,hj_,ha_=>rfl | 3,hj_,ha_=>rfl | 4,hj_,ha_=>rfl | 5,hj_,ha_=>absurd rfl hj_ | 6,hj_,ha_=>absurd ha_ (by decide) | 7,hj_,ha_=>absurd ha_ (by decide) | 8,hj_,ha_=>absurd ha_ (by decide) | 9,hj_,ha_=>absurd ha_ (by decide) | 10,hj_,ha_=>absurd ha_ (by decide) | _+11,_,_=>rfl),hS⟩
          · have hS:St w0 w noX BZ112 (sl 46 6 v6 os.length (encs eO os)::condA (s 5) (pt b_s4 (.cells #[.int .i64 c.a.num,.int .i64 c.a.yr,.int .u8 c.a.half,.int .u8 c.a.sec,.int .i64 c.a.cyc] 24 (0,0)))::MZ112):=hD; clear hD
            replace hf:Fr a 115 [] ((27,.agg #[.int .i64 c.a.num,.int .i64 c.a.yr,.int .u8 c.a.half,.int .u8 c.a.sec,.int .i64 c.a.cyc])::LZ112):=hf
            refine O.buildC (j:=1) (cs':=#[.int .i64 c.a.num,.int .i64 c.a.yr,.int .u8 c.a.half,.int .u8 c.a.sec,.int .i64 c.a.cyc]) (zs:=#[.int .i64 0,.int .i64 0,.int .u8 0,.int .u8 0,.int .i64 0]) hf hS rfl hs0 rfl rfl T_elem_35 T_size_24 T_zero_24 rfl rfl rfl rfl rfl ?_; clear hf hS a; intro b_s17 w a hS hf
            exact O.nil ⟨rfl,(b_s17,b_s5,v6,on,b_s8,v9),hf.to trivial,(gt (d:=28) hf rfl rfl),(fun j_ hj_ ha_=>match j_,hj_,ha_ with | 0,hj_,ha_=>rfl | 1,hj_,ha_=>rfl | 2,hj_,ha_=>rfl | 3,hj_,ha_=>rfl | 4,hj_,ha_=>rfl | 5,hj_,ha_=>absurd rfl hj_ | 6,hj_,ha_=>absurd ha_ (by decide) | 7,hj_,ha_=>absurd ha_ (by decide) | 8,hj_,ha_=>absurd ha_ (by decide) | 9,hj_,ha_=>absurd ha_ (by decide) | 10,hj_,ha_=>absurd ha_ (by decide) | _+11,_,_=>rfl),hS⟩
          · exact absurd h2_ (by simp)
      clear hf hf1 hS; intro s g a w hs_ hf hD
      obtain ⟨b_s4,b_s5,v6,on,b_s8,v9⟩:=g
      have ha_5:s 5=true:=hs_ 5 (by simp)
      have hS:St w0 w noX BZ112 (pt b_s8 (.cells #[.int .i64 on.p.num,.int .i64 on.p.yr,.int .u8 on.p.half,.int .u8 on.p.sec,.int .i64 on.p.cyc,(.slice on.ad on.n on.c)] 46 (0,0))::obF [c.a] on::sl 46 6 v9 ((os++[on]).length) (encs eO (os++[on]))::pt b_s4 (.cells #[.int .i64 c.a.num,.int .i64 c.a.yr,.int .u8 c.a.half,.int .u8 c.a.sec,.int .i64 c.a.cyc] 24 (0,0))::MZ112):=hD; clear hD
      replace hf:Fr a 115 [] ((23,.slice (some ⟨b_s5,0,none⟩) 0 0)::(24,vo)::(25,v6)::(26,.pointer (some ⟨b_c1,1,none⟩))::(27,.agg #[.int .i64 c.a.num,.int .i64 c.a.yr,.int .u8 c.a.half,.int .u8 c.a.sec,.int .i64 c.a.cyc])::(28,.slice (some ⟨b_s4,0,none⟩) 1 1)::(29,.agg #[.int .i64 on.p.num,.int .i64 on.p.yr,.int .u8 on.p.half,.int .u8 on.p.sec,.int .i64 on.p.cyc,(.slice on.ad on.n on.c)])::(30,.slice (some ⟨b_s8,0,none⟩) 1 1)::(31,v9)::(4,v9)::(5,.int .i64 0)::LZ112):=hf
      refine k_seq ?_
      replace hf:Fr a 115 [] [(0,vo),(3,.pointer (some ⟨b_c1,0,none⟩)),(4,v9),(5,.int .i64 0),(6,.int .i64 fa),(7,.int .i64 fb)]:=hf.to ⟨rfl,rfl,rfl,rfl,rfl,rfl,trivial⟩
      refine W.ret ?_
      refine k_blk_ret ?_
      refine k_then_ret ?_
      refine post2 hf rfl (ResOK.tmp rfl) (ResOK.tmp rfl) ?_
      replace hS:=hS.front (i:=2) (M':=(sl 46 6 v9 ((os++[on]).length) (encs eO (os++[on]))::pt b_s8 (.cells #[.int .i64 on.p.num,.int .i64 on.p.yr,.int .u8 on.p.half,.int .u8 on.p.sec,.int .i64 on.p.cyc,(.slice on.ad on.n on.c)] 46 (0,0))::obF [c.a] on::pt b_s4 (.cells #[.int .i64 c.a.num,.int .i64 c.a.yr,.int .u8 c.a.half,.int .u8 c.a.sec,.int .i64 c.a.cyc] 24 (0,0))::MZ112)) rfl rfl
      obtain ⟨hS2,hon⟩:=St.obFin (hS.sub (N:=[sl 46 6 v9 ((os++[on]).length) (encs eO (os++[on])),obF [c.a] on]) (.cons_cons _ (.cons _ (.cons_cons _ (.cons _ (.cons _ .slnil)))))).noB
      exact ⟨(v9,0,(os++[on]),[on]),rfl,hS2,NextR.add hk1 (by rw [← hfa]; exact hA) hon⟩
  · refine W.seq ?_
    refine W.regionL (l:=[0,1]) rfl ?_
    refine O.val (v:=.bool (decide (c.kind=(2:Int)))) hf rfl rfl rfl (RunV.eql rfl rfl) ?_
    clear hf a; intro a hf
    refine O.val hf rfl rfl rfl (RunV.assign rfl) ?_
    clear hf a; intro a hf
    refine O.nil ?_
    refine k_seq ?_
    replace hf:Fr a 115 [] [(0,vo),(3,.pointer (some ⟨b_c1,0,none⟩)),(4,.slice none 0 0),(5,.int .i64 0),(6,.int .i64 fa),(7,.int .i64 fb),(32,.bool (decide (c.kind=(2:Int))))]:=hf.to ⟨rfl,rfl,rfl,rfl,rfl,rfl,rfl,trivial⟩
    refine W.ifdI hf rfl (fun hk2=>?_) (fun hk2=>?_)
    · refine W.seq ?_
      refine W.seq ?_
      refine W.regionL (l:=[0,1,2,3,4,5]) rfl ?_
      refine O.val hf rfl rfl rfl (RunV.move rfl) ?_
      clear hf a; intro a hf
      refine O.val (v:=.bool (decide (fa<(0:Int)))) hf rfl rfl rfl (RunV.lss rfl rfl) ?_
      clear hf a; intro a hf
      refine O.val hf rfl rfl rfl (RunV.move rfl) ?_
      clear hf a; intro a hf
      refine O.cutN (l₁:=[3,4,5]) (l₂:=_) (fun a w=>Fr a 115 [] [(0,vo),(3,.pointer (some ⟨b_c1,0,none⟩)),(4,.slice none 0 0),(5,.int .i64 0),(6,.int .i64 fa),(7,.int .i64 fb),(34,.int .i64 fa),(35,.bool (decide (fa<(0:Int)))),(36,.bool (decide (fa<(0:Int)))),(39,.bool ((decide (fa<(0:Int)))||(decide (fb<(0:Int)))))]∧St w0 w noX [rdv 6 vo os.length (encs eO os),allA (os.map rdOb)] [pt b_c1 (.cells #[.int .u8 c.kind,.int .i64 c.a.num,.int .i64 c.a.yr,.int .u8 c.a.half,.int .u8 c.a.sec,.int .i64 c.a.cyc,.int .i64 c.b.num,.int .i64 c.b.yr,.int .u8 c.b.half,.int .u8 c.b.sec,.int .i64 c.b.cyc,.int .i64 c.n] 26 (0,0))]) rfl ?_ ?_
      · rcases Bool.eq_false_or_eq_true (decide (fa<(0:Int))) with hb19 | hb19
        · have hb19p:=of_decide_eq_true hb19
          refine O.skipB hf rfl rfl rfl hb19 rfl ?_; clear hf a; intro a hf
          refine O.skipB hf rfl rfl rfl hb19 rfl ?_; clear hf a; intro a hf
          refine O.val (v:=.bool ((decide (fa<(0:Int)))||(decide (fb<(0:Int))))) hf rfl rfl rfl (RunV.pick rfl rfl rfl (by rw [hb19]; rfl)) ?_; clear hf a; intro a hf
          exact O.nil ⟨rfl,hf.to ⟨rfl,rfl,rfl,rfl,rfl,rfl,rfl,rfl,rfl,rfl,trivial⟩,hS⟩
        · have hb19p:=of_decide_eq_false hb19
          refine O.gvalB (v:=.int .i64 fb) hf rfl rfl rfl hb19 rfl rfl (RunV.move rfl) ?_
          clear hf a; intro a hf
          refine O.gvalB (v:=.bool (decide (fb<(0:Int)))) hf rfl rfl rfl hb19 rfl rfl (RunV.lss rfl rfl) ?_
          clear hf a; intro a hf
          refine O.val (v:=.bool ((decide (fa<(0:Int)))||(decide (fb<(0:Int))))) hf rfl rfl rfl (RunV.pick rfl rfl rfl (by rw [hb19]; rfl)) ?_; clear hf a; intro a hf
          exact O.nil ⟨rfl,hf.to ⟨rfl,rfl,rfl,rfl,rfl,rfl,rfl,rfl,rfl,rfl,trivial⟩,hS⟩
      clear hf hS a; rintro a w ⟨hf,hS⟩
      refine O.nil ?_
      refine k_seq ?_
      replace hf:Fr a 115 [] [(0,vo),(3,.pointer (some ⟨b_c1,0,none⟩)),(4,.slice none 0 0),(5,.int .i64 0),(6,.int .i64 fa),(7,.int .i64 fb),(39,.bool ((decide (fa<(0:Int)))||(decide (fb<(0:Int)))))]:=hf.to ⟨rfl,rfl,rfl,rfl,rfl,rfl,rfl,trivial⟩
      refine W.if_ hf rfl (fun hJ=>?_) (fun hJ=>?_)
      · have hJb:=hJ
        try simp only [Bool.and_eq_true,Bool.or_eq_true,Bool.and_eq_false_iff,Bool.or_eq_false_iff,decide_eq_true_eq,decide_eq_false_iff_not,Bool.not_eq_true',Bool.not_eq_false',Bool.not_eq_true,Bool.not_eq_false,ne_eq] at hJ
        refine W.seq ?_
        refine W.regionL (l:=[0,1]) rfl ?_
        refine O.val hf rfl rfl rfl (RunV.assign rfl) ?_
        clear hf a; intro a hf
        refine O.val hf rfl rfl rfl (RunV.assign rfl) ?_
        clear hf a; intro a hf
        refine O.nil ?_
        refine k_seq ?_
        refine W.ret ?_
        refine k_then_ret ?_
        refine k_blk_ret ?_
        refine k_then_ret ?_
        refine post2 hf rfl (ResOK.tmp rfl) (ResOK.tmp rfl) ?_
        have hS2:=(hS.sub (N:=[]) (List.nil_sublist _)).noB
        replace hS2:=St.bigNil (hS2.nilSl 46 6)
        exact ⟨(.slice none 0 0,6,[],[]),rfl,hS2,NextR.err (by decide) (by first | exact nx_j6 hk2 (by rw [← hfa,← hfb]; exact hJ) | exact nx_n6 hk1 hk2 (by rw [← hfa]; exact hA))⟩
      · have hJb:=hJ
        try simp only [Bool.and_eq_true,Bool.or_eq_true,Bool.and_eq_false_iff,Bool.or_eq_false_iff,decide_eq_true_eq,decide_eq_false_iff_not,Bool.not_eq_true',Bool.not_eq_false',Bool.not_eq_true,Bool.not_eq_false,ne_eq] at hJ
        refine W.skip ?_
        refine k_seq ?_
        refine W.seq ?_
        refine W.seq ?_
        refine W.regionL (l:=[0,1,2,3,4,5,6,7,8,9,10,11,12,13,14,15,16,17,18,19,20]) rfl ?_
        have hJn:¬ (fa<0∨fb<0):=by omega
        obtain ⟨ia,hia,hil⟩:∃ i:Nat,fa=(i:Int)∧i<os.length:=by
          rcases hra with h | h
          · omega
          · exact h
        have hlA:=hzl _ (getO hil)
        have hvA:=hv _ (getO hil)
        obtain ⟨ib,hib,hjl⟩:∃ i:Nat,fb=(i:Int)∧i<os.length:=by
          rcases hrb with h | h
          · omega
          · exact h
        have hlB:=hzl _ (getO hjl)
        have hvB:=hv _ (getO hjl)
        refine O.val hf rfl rfl rfl (RunV.move rfl) ?_
        clear hf a; intro a hf
        refine O.val hf rfl rfl rfl (RunV.move rfl) ?_
        clear hf a; intro a hf
        refine O.val (v:=.bool (decide (fa=(fb:Int)))) hf rfl rfl rfl (RunV.eql rfl rfl) ?_
        clear hf a; intro a hf
        refine O.val hf rfl rfl rfl (RunV.move rfl) ?_
        clear hf a; intro a hf
        refine O.cutN (l₁:=[4,5,6,7,8,9,10,11,12,13,14,15,16,17,18,19,20]) (l₂:=_) (fun a w=>Fr a 115 [] [(0,vo),(3,.pointer (some ⟨b_c1,0,none⟩)),(4,.slice none 0 0),(5,.int .i64 0),(6,.int .i64 fa),(7,.int .i64 fb),(40,.int .i64 fa),(41,.int .i64 fb),(42,.bool (decide (fa=(fb:Int)))),(43,.bool (decide (fa=(fb:Int)))),(60,.bool ((decide (fa=(fb:Int)))||((decide (((os.getD ia default).p.num)>(0:Int)))&&(decide (((os.getD ib default).p.num)>(0:Int))))))]∧St w0 w noX [rdv 6 vo os.length (encs eO os),allA (os.map rdOb)] [pt b_c1 (.cells #[.int .u8 c.kind,.int .i64 c.a.num,.int .i64 c.a.yr,.int .u8 c.a.half,.int .u8 c.a.sec,.int .i64 c.a.cyc,.int .i64 c.b.num,.int .i64 c.b.yr,.int .u8 c.b.half,.int .u8 c.b.sec,.int .i64 c.b.cyc,.int .i64 c.n] 26 (0,0))]) rfl ?_ ?_
        · rcases Bool.eq_false_or_eq_true (decide (fa=(fb:Int))) with hb21 | hb21
          · have hb21p:=of_decide_eq_true hb21
            refine O.skipB hf rfl rfl rfl hb21 rfl ?_; clear hf a; intro a hf
            refine O.skipB hf rfl rfl rfl hb21 rfl ?_; clear hf a; intro a hf
            refine O.skipB hf rfl rfl rfl hb21 rfl ?_; clear hf a; intro a hf
            refine O.skipB hf rfl rfl rfl hb21 rfl ?_; clear hf a; intro a hf
            refine O.skipB hf rfl rfl rfl hb21 rfl ?_; clear hf a; intro a hf
            refine O.skipB hf rfl rfl rfl hb21 rfl ?_; clear hf a; intro a hf
            refine O.skipB hf rfl rfl rfl hb21 rfl ?_; clear hf a; intro a hf
            refine O.skipB hf rfl rfl rfl hb21 rfl ?_; clear hf a; intro a hf
            refine O.skipU hf rfl rfl rfl rfl ?_; clear hf a; intro a hf
            refine O.skipU hf rfl rfl rfl rfl ?_; clear hf a; intro a hf
            refine O.skipU hf rfl rfl rfl rfl ?_; clear hf a; intro a hf
            refine O.skipU hf rfl rfl rfl rfl ?_; clear hf a; intro a hf
            refine O.skipU hf rfl rfl rfl rfl ?_; clear hf a; intro a hf
            refine O.skipU hf rfl rfl rfl rfl ?_; clear hf a; intro a hf
            refine O.skipU hf rfl rfl rfl rfl ?_; clear hf a; intro a hf
            refine O.skipB hf rfl rfl rfl hb21 rfl ?_; clear hf a; intro a hf
            refine O.val (v:=.bool ((decide (fa=(fb:Int)))||((decide (((os.getD ia default).p.num)>(0:Int)))&&(decide (((os.getD ib default).p.num)>(0:Int)))))) hf rfl rfl rfl (RunV.pick rfl rfl rfl (by rw [hb21]; rfl)) ?_; clear hf a; intro a hf
            exact O.nil ⟨rfl,hf.to ⟨rfl,rfl,rfl,rfl,rfl,rfl,rfl,rfl,rfl,rfl,rfl,trivial⟩,hS⟩
          · have hb21p:=of_decide_eq_false hb21
            refine O.gvalB (v:=vo) hf rfl rfl rfl hb21 rfl rfl (RunV.move rfl) ?_
            clear hf a; intro a hf
            refine O.gvalB (v:=.int .i64 fa) hf rfl rfl rfl hb21 rfl rfl (RunV.move rfl) ?_
            clear hf a; intro a hf
            refine O.gvalB (v:=ix vo (ia*6)) hf rfl rfl rfl hb21 rfl rfl (RunV.ixV (j:=ia) (m:=ia*6) T_elem_39 T_size_46 rfl rfl (hS.rdAt (j:=0) rfl) hia (by omega) rfl) ?_
            clear hf a; intro a hf
            refine O.gvalB (v:=ix vo (ia*6)) hf rfl rfl rfl hb21 rfl rfl (RunV.ixF T_field_46_0 rfl (hS.rdAt (j:=0) rfl) (by omega) rfl) ?_
            clear hf a; intro a hf
            refine O.gvalB (v:=ix vo (ia*6)) hf rfl rfl rfl hb21 rfl rfl (RunV.ixF T_field_24_0 rfl (hS.rdAt (j:=0) rfl) (by omega) rfl) ?_
            clear hf a; intro a hf
            refine O.gvalB (v:=.int .i64 ((os.getD ia default).p.num)) hf rfl rfl rfl hb21 rfl rfl (RunV.ldG2 (j:=ia) (o:=0) (sz:=6) (enc:=eO) (l:=os) T_agg_3 eO_len rfl (hS.rdAt (j:=0) rfl) (by omega) rfl rfl) ?_
            clear hf a; intro a hf
            refine O.gvalB (v:=.bool (decide (((os.getD ia default).p.num)>(0:Int)))) hf rfl rfl rfl hb21 rfl rfl (RunV.gtr rfl rfl) ?_
            clear hf a; intro a hf
            refine O.gvalB (v:=.bool (decide (((os.getD ia default).p.num)>(0:Int)))) hf rfl rfl rfl hb21 rfl rfl (RunV.move rfl) ?_
            clear hf a; intro a hf
            refine O.cutN (l₁:=[12,13,14,15,16,17,18,19]) (l₂:=_) (fun a w=>Fr a 115 [] [(0,vo),(3,.pointer (some ⟨b_c1,0,none⟩)),(4,.slice none 0 0),(5,.int .i64 0),(6,.int .i64 fa),(7,.int .i64 fb),(40,.int .i64 fa),(41,.int .i64 fb),(42,.bool (decide (fa=(fb:Int)))),(43,.bool (decide (fa=(fb:Int)))),(44,vo),(45,.int .i64 fa),(46,ix vo (ia*6)),(47,ix vo (ia*6)),(48,ix vo (ia*6)),(49,.int .i64 ((os.getD ia default).p.num)),(50,.bool (decide (((os.getD ia default).p.num)>(0:Int)))),(51,.bool (decide (((os.getD ia default).p.num)>(0:Int)))),(59,.bool ((decide (((os.getD ia default).p.num)>(0:Int)))&&(decide (((os.getD ib default).p.num)>(0:Int)))))]∧St w0 w noX [rdv 6 vo os.length (encs eO os),allA (os.map rdOb)] [pt b_c1 (.cells #[.int .u8 c.kind,.int .i64 c.a.num,.int .i64 c.a.yr,.int .u8 c.a.half,.int .u8 c.a.sec,.int .i64 c.a.cyc,.int .i64 c.b.num,.int .i64 c.b.yr,.int .u8 c.b.half,.int .u8 c.b.sec,.int .i64 c.b.cyc,.int .i64 c.n] 26 (0,0))]) rfl ?_ ?_
            · rcases Bool.eq_false_or_eq_true (decide (((os.getD ia default).p.num)>(0:Int))) with hb22 | hb22
              · have hb22p:=of_decide_eq_true hb22
                refine O.gvalB (v:=vo) hf rfl rfl rfl hb22 rfl rfl (RunV.move rfl) ?_
                clear hf a; intro a hf
                refine O.gvalB (v:=.int .i64 fb) hf rfl rfl rfl hb22 rfl rfl (RunV.move rfl) ?_
                clear hf a; intro a hf
                refine O.gvalB (v:=ix vo (ib*6)) hf rfl rfl rfl hb22 rfl rfl (RunV.ixV (j:=ib) (m:=ib*6) T_elem_39 T_size_46 rfl rfl (hS.rdAt (j:=0) rfl) hib (by omega) rfl) ?_
                clear hf a; intro a hf
                refine O.gvalB (v:=ix vo (ib*6)) hf rfl rfl rfl hb22 rfl rfl (RunV.ixF T_field_46_0 rfl (hS.rdAt (j:=0) rfl) (by omega) rfl) ?_
                clear hf a; intro a hf
                refine O.gvalB (v:=ix vo (ib*6)) hf rfl rfl rfl hb22 rfl rfl (RunV.ixF T_field_24_0 rfl (hS.rdAt (j:=0) rfl) (by omega) rfl) ?_
                clear hf a; intro a hf
                refine O.gvalB (v:=.int .i64 ((os.getD ib default).p.num)) hf rfl rfl rfl hb22 rfl rfl (RunV.ldG2 (j:=ib) (o:=0) (sz:=6) (enc:=eO) (l:=os) T_agg_3 eO_len rfl (hS.rdAt (j:=0) rfl) (by omega) rfl rfl) ?_
                clear hf a; intro a hf
                refine O.gvalB (v:=.bool (decide (((os.getD ib default).p.num)>(0:Int)))) hf rfl rfl rfl hb22 rfl rfl (RunV.gtr rfl rfl) ?_
                clear hf a; intro a hf
                refine O.gvalB (v:=.bool ((decide (((os.getD ia default).p.num)>(0:Int)))&&(decide (((os.getD ib default).p.num)>(0:Int))))) hf rfl rfl rfl hb21 rfl rfl (RunV.pick rfl rfl rfl (by rw [hb22]; rfl)) ?_; clear hf a; intro a hf
                exact O.nil ⟨rfl,hf.to ⟨rfl,rfl,rfl,rfl,rfl,rfl,rfl,rfl,rfl,rfl,rfl,rfl,rfl,rfl,rfl,rfl,rfl,rfl,rfl,trivial⟩,hS⟩
              · have hb22p:=of_decide_eq_false hb22
                refine O.skipB hf rfl rfl rfl hb22 rfl ?_; clear hf a; intro a hf
                refine O.skipB hf rfl rfl rfl hb22 rfl ?_; clear hf a; intro a hf
                refine O.skipB hf rfl rfl rfl hb22 rfl ?_; clear hf a; intro a hf
                refine O.skipB hf rfl rfl rfl hb22 rfl ?_; clear hf a; intro a hf
                refine O.skipB hf rfl rfl rfl hb22 rfl ?_; clear hf a; intro a hf
                refine O.skipB hf rfl rfl rfl hb22 rfl ?_; clear hf a; intro a hf
                refine O.skipB hf rfl rfl rfl hb22 rfl ?_; clear hf a; intro a hf
                refine O.gvalB (v:=.bool ((decide (((os.getD ia default).p.num)>(0:Int)))&&(decide (((os.getD ib default).p.num)>(0:Int))))) hf rfl rfl rfl hb21 rfl rfl (RunV.pick rfl rfl rfl (by rw [hb22]; rfl)) ?_; clear hf a; intro a hf
                exact O.nil ⟨rfl,hf.to ⟨rfl,rfl,rfl,rfl,rfl,rfl,rfl,rfl,rfl,rfl,rfl,rfl,rfl,rfl,rfl,rfl,rfl,rfl,rfl,trivial⟩,hS⟩
            clear hf hS a; rintro a w ⟨hf,hS⟩
            refine O.val (v:=.bool ((decide (fa=(fb:Int)))||((decide (((os.getD ia default).p.num)>(0:Int)))&&(decide (((os.getD ib default).p.num)>(0:Int)))))) hf rfl rfl rfl (RunV.pick rfl rfl rfl (by rw [hb21]; rfl)) ?_; clear hf a; intro a hf
            exact O.nil ⟨rfl,hf.to ⟨rfl,rfl,rfl,rfl,rfl,rfl,rfl,rfl,rfl,rfl,rfl,trivial⟩,hS⟩
        clear hf hS a; rintro a w ⟨hf,hS⟩
        refine O.nil ?_
        refine k_seq ?_
        replace hf:Fr a 115 [] [(0,vo),(3,.pointer (some ⟨b_c1,0,none⟩)),(4,.slice none 0 0),(5,.int .i64 0),(6,.int .i64 fa),(7,.int .i64 fb),(60,.bool ((decide (fa=(fb:Int)))||((decide (((os.getD ia default).p.num)>(0:Int)))&&(decide (((os.getD ib default).p.num)>(0:Int))))))]:=hf.to ⟨rfl,rfl,rfl,rfl,rfl,rfl,rfl,trivial⟩
        refine W.if_ hf rfl (fun hQ=>?_) (fun hQ=>?_)
        · have hQb:=hQ
          try simp only [Bool.and_eq_true,Bool.or_eq_true,Bool.and_eq_false_iff,Bool.or_eq_false_iff,decide_eq_true_eq,decide_eq_false_iff_not,Bool.not_eq_true',Bool.not_eq_false',Bool.not_eq_true,Bool.not_eq_false,ne_eq] at hQ
          refine W.seq ?_
          refine W.regionL (l:=[0,1]) rfl ?_
          refine O.val hf rfl rfl rfl (RunV.assign rfl) ?_
          clear hf a; intro a hf
          refine O.val hf rfl rfl rfl (RunV.assign rfl) ?_
          clear hf a; intro a hf
          refine O.nil ?_
          refine k_seq ?_
          refine W.ret ?_
          refine k_then_ret ?_
          refine k_blk_ret ?_
          refine k_then_ret ?_
          refine post2 hf rfl (ResOK.tmp rfl) (ResOK.tmp rfl) ?_
          have hS2:=(hS.sub (N:=[]) (List.nil_sublist _)).noB
          replace hS2:=St.bigNil (hS2.nilSl 46 6)
          exact ⟨(.slice none 0 0,36,[],[]),rfl,hS2,NextR.err (by decide) (by first | exact nx_n36 hk1 hk2 (by rw [← hfa]; exact hA) (by rw [← hfb]; exact hB) (by rw [← hfa,hia,Int.toNat_natCast,prO_getD hil]; exact hN) | exact nx_j36 hk2 (by rw [← hfa,← hfb]; exact hJn) (by rw [← hfa,← hfb,hia,hib,Int.toNat_natCast,Int.toNat_natCast,prO_getD hil,prO_getD hjl]; rw [hia,hib] at hQ; exact hQ))⟩
        · have hQb:=hQ
          try simp only [Bool.and_eq_true,Bool.or_eq_true,Bool.and_eq_false_iff,Bool.or_eq_false_iff,decide_eq_true_eq,decide_eq_false_iff_not,Bool.not_eq_true',Bool.not_eq_false',Bool.not_eq_true,Bool.not_eq_false,ne_eq] at hQ
          refine W.skip ?_
          refine k_seq ?_
          refine W.seq ?_
          have hf1:Fr a 115 [] []:=hf.to trivial
          replace hf:Fr a 115 [] [(0,vo),(3,.pointer (some ⟨b_c1,0,none⟩)),(4,.slice none 0 0),(5,.int .i64 0),(6,.int .i64 fa),(7,.int .i64 fb)]:=hf.to ⟨rfl,rfl,rfl,rfl,rfl,rfl,trivial⟩
          replace hS:=hS.drew
          replace hS:=hS.emp
          let LZ470:List (Nat × Value):=[(0,vo),(3,.pointer (some ⟨b_c1,0,none⟩)),(4,.slice none 0 0),(5,.int .i64 0),(6,.int .i64 fa),(7,.int .i64 fb)]
          let MZ470:List Asr:=[pt b_c1 (.cells #[.int .u8 c.kind,.int .i64 c.a.num,.int .i64 c.a.yr,.int .u8 c.a.half,.int .u8 c.a.sec,.int .i64 c.a.cyc,.int .i64 c.b.num,.int .i64 c.b.yr,.int .u8 c.b.half,.int .u8 c.b.sec,.int .i64 c.b.cyc,.int .i64 c.n] 26 (0,0))]
          let BZ470:List Asr:=[rdv 6 vo os.length (encs eO os),allA (os.map rdOb)]
          refine W.drawC (γ:=(Nat) × (Nat) × (Value) × (Value) × (Ob)) (L0:=LZ470) (L1:=[]) (0,0,default,default,default) [0,6,12,13,15] [14] [1,2,3,4,5,7,8,9,10,11] (fun i=>match i with | 3=>[1,2] | 4=>[3] | 5=>[4] | 6=>[0,5] | 9=>[7,8] | 10=>[9] | 11=>[10] | 12=>[6,11] | 13=>[12] | 15=>[0,1,2,3,4,5,6,7,8,9,10,11,12,13,14] | _=>[]) (fun i=>match i with | 6=>[0] | 12=>[0,6] | 13=>[0,6,12] | 15=>[0,6,12,13,14] | _=>[]) (fun i=>match i with | 0=>[6,12,13,15] | 1=>[6,12,13,15] | 2=>[6,12,13,15] | 3=>[6,12,13,15] | 4=>[6,12,13,15] | 5=>[6,12,13,15] | 6=>[12,13,15] | 7=>[12,13,15] | 8=>[12,13,15] | 9=>[12,13,15] | 10=>[12,13,15] | 11=>[12,13,15] | 12=>[13,15] | 13=>[15] | 14=>[15] | _=>[]) (fun i=>match i with | 15=>[14] | _=>[]) (fun i=>match i with | 0=>[6,12,13,15] | 6=>[12,13,15] | 12=>[13,15] | 13=>[15] | 14=>[15] | _=>[]) (fun _=>[]) (fun i=>match i with | 6=>1 | 12=>2 | 13=>3 | 15=>4 | _=>0) (fun i=>match i with | 0=>1 | 1=>1 | 2=>1 | 3=>1 | 4=>1 | 5=>1 | 6=>2 | 7=>2 | 8=>2 | 9=>2 | 10=>2 | 11=>2 | 12=>3 | 13=>4 | 14=>4 | 15=>5 | _=>0) (fun (g:(Nat) × (Nat) × (Value) × (Value) × (Ob)) j=>match g,j with | ⟨b_o24,b_s25,v26,v27,on⟩,0=>.slice (some ⟨b_s25,0,none⟩) 0 0 | ⟨b_o24,b_s25,v26,v27,on⟩,1=>vo | ⟨b_o24,b_s25,v26,v27,on⟩,2=>.int .i64 fa | ⟨b_o24,b_s25,v26,v27,on⟩,3=>ix vo (ia*6) | ⟨b_o24,b_s25,v26,v27,on⟩,4=>ix vo (ia*6+5) | ⟨b_o24,b_s25,v26,v27,on⟩,5=>(os.getD ia default).v | ⟨b_o24,b_s25,v26,v27,on⟩,6=>v26 | ⟨b_o24,b_s25,v26,v27,on⟩,7=>vo | ⟨b_o24,b_s25,v26,v27,on⟩,8=>.int .i64 fb | ⟨b_o24,b_s25,v26,v27,on⟩,9=>ix vo (ib*6) | ⟨b_o24,b_s25,v26,v27,on⟩,10=>ix vo (ib*6+5) | ⟨b_o24,b_s25,v26,v27,on⟩,11=>(os.getD ib default).v | ⟨b_o24,b_s25,v26,v27,on⟩,12=>v27 | ⟨b_o24,b_s25,v26,v27,on⟩,13=>.agg #[.int .i64 on.p.num,.int .i64 on.p.yr,.int .u8 on.p.half,.int .u8 on.p.sec,.int .i64 on.p.cyc,(.slice on.ad on.n on.c)] | ⟨b_o24,b_s25,v26,v27,on⟩,14=>.pointer (some ⟨b_o24,0,none⟩) | _,_=>undef) (fun k s (g:(Nat) × (Nat) × (Value) × (Value) × (Ob)) w=>match k,g with | 0,⟨b_o24,b_s25,v26,v27,on⟩=>St w0 w noX BZ470 (condA (s 14) (pt b_o24 (.cells #[.int .i64 0,.int .i64 0,.int .u8 0,.int .u8 0,.int .i64 0,.slice none 0 0] 46 (0,0)))::MZ470) | 1,⟨b_o24,b_s25,v26,v27,on⟩=>St w0 w noX BZ470 (sl 24 5 (.slice (some ⟨b_s25,0,none⟩) 0 0) 0 ([])::condA (s 14) (pt b_o24 (.cells #[.int .i64 0,.int .i64 0,.int .u8 0,.int .u8 0,.int .i64 0,.slice none 0 0] 46 (0,0)))::MZ470) | 2,⟨b_o24,b_s25,v26,v27,on⟩=>St w0 w noX BZ470 (sl 24 5 v26 (((os.getD ia default).l).length) (encs eD ((os.getD ia default).l))::condA (s 14) (pt b_o24 (.cells #[.int .i64 0,.int .i64 0,.int .u8 0,.int .u8 0,.int .i64 0,.slice none 0 0] 46 (0,0)))::MZ470) | 3,⟨b_o24,b_s25,v26,v27,on⟩=>St w0 w noX BZ470 (sl 24 5 v27 (((os.getD ia default).l++(os.getD ib default).l).length) (encs eD ((os.getD ia default).l++(os.getD ib default).l))::condA (s 14) (pt b_o24 (.cells #[.int .i64 0,.int .i64 0,.int .u8 0,.int .u8 0,.int .i64 0,.slice none 0 0] 46 (0,0)))::MZ470) | 4,⟨b_o24,b_s25,v26,v27,on⟩=>St w0 w noX BZ470 (obF ((os.getD ia default).l++(os.getD ib default).l) on::sl 24 5 v27 (((os.getD ia default).l++(os.getD ib default).l).length) (encs eD ((os.getD ia default).l++(os.getD ib default).l))::condA (s 14) (pt b_o24 (.cells #[.int .i64 0,.int .i64 0,.int .u8 0,.int .u8 0,.int .i64 0,.slice none 0 0] 46 (0,0)))::MZ470) | _,⟨b_o24,b_s25,v26,v27,on⟩=>St w0 w noX BZ470 (obF ((os.getD ia default).l++(os.getD ib default).l) on::sl 24 5 v27 (((os.getD ia default).l++(os.getD ib default).l).length) (encs eD ((os.getD ia default).l++(os.getD ib default).l))::pt b_o24 (.cells #[.int .i64 on.p.num,.int .i64 on.p.yr,.int .u8 on.p.half,.int .u8 on.p.sec,.int .i64 on.p.cyc,(.slice on.ad on.n on.c)] 46 (0,0))::MZ470)) P_mixed (by kernel_rfl) (by kernel_rfl) (by kernel_rfl) hf hf1 hS ?_ ?_ ?_ ?_
          · clear hf hf1 hS
            refine ⟨?_,?_,?_,?_,?_,?_,?_,?_,?_,?_,trivial⟩
            · intro k s g w h1_ h2_ hsp hD a hf
              obtain ⟨b_o24,b_s25,v26,v27,on⟩:=g
              rcases k with _ | _ | k
              · have hS:St w0 w noX BZ470 (condA (s 14) (pt b_o24 (.cells #[.int .i64 0,.int .i64 0,.int .u8 0,.int .u8 0,.int .i64 0,.slice none 0 0] 46 (0,0)))::MZ470):=hD;
                replace hf:Fr a 115 [] LZ470:=hf
                refine O.val hf rfl rfl rfl (RunV.move rfl) ?_
                clear hf a; intro a hf
                exact O.nil ⟨rfl,hf.to trivial,(gt (d:=62) hf rfl rfl),hD⟩
              · have hS:St w0 w noX BZ470 (sl 24 5 (.slice (some ⟨b_s25,0,none⟩) 0 0) 0 ([])::condA (s 14) (pt b_o24 (.cells #[.int .i64 0,.int .i64 0,.int .u8 0,.int .u8 0,.int .i64 0,.slice none 0 0] 46 (0,0)))::MZ470):=hD;
                replace hf:Fr a 115 [] LZ470:=hf
                refine O.val hf rfl rfl rfl (RunV.move rfl) ?_
                clear hf a; intro a hf
                exact O.nil ⟨rfl,hf.to trivial,(gt (d:=62) hf rfl rfl),hD⟩
              · exact absurd h2_ (by simp)
            · intro k s g w h1_ h2_ hsp hD a hf
              obtain ⟨b_o24,b_s25,v26,v27,on⟩:=g
              rcases k with _ | _ | k
              · have hS:St w0 w noX BZ470 (condA (s 14) (pt b_o24 (.cells #[.int .i64 0,.int .i64 0,.int .u8 0,.int .u8 0,.int .i64 0,.slice none 0 0] 46 (0,0)))::MZ470):=hD;
                replace hf:Fr a 115 [] LZ470:=hf
                refine O.val hf rfl rfl rfl (RunV.move rfl) ?_
                clear hf a; intro a hf
                exact O.nil ⟨rfl,hf.to trivial,(gt (d:=63) hf rfl rfl),hD⟩
              · have hS:St w0 w noX BZ470 (sl 24 5 (.slice (some ⟨b_s25,0,none⟩) 0 0) 0 ([])::condA (s 14) (pt b_o24 (.cells #[.int .i64 0,.int .i64 0,.int .u8 0,.int .u8 0,.int .i64 0,.slice none 0 0] 46 (0,0)))::MZ470):=hD;
                replace hf:Fr a 115 [] LZ470:=hf
                refine O.val hf rfl rfl rfl (RunV.move rfl) ?_
                clear hf a; intro a hf
                exact O.nil ⟨rfl,hf.to trivial,(gt (d:=63) hf rfl rfl),hD⟩
              · exact absurd h2_ (by simp)
            · intro k s g w h1_ h2_ hsp hD a hf
              obtain ⟨b_o24,b_s25,v26,v27,on⟩:=g
              rcases k with _ | _ | k
              · have hS:St w0 w noX BZ470 (condA (s 14) (pt b_o24 (.cells #[.int .i64 0,.int .i64 0,.int .u8 0,.int .u8 0,.int .i64 0,.slice none 0 0] 46 (0,0)))::MZ470):=hD;
                replace hf:Fr a 115 [] ((62,vo)::(63,.int .i64 fa)::LZ470):=hf
                refine O.val hf rfl rfl rfl (RunV.ixV (j:=ia) (m:=ia*6) T_elem_39 T_size_46 rfl rfl (hS.rdAt (j:=0) rfl) hia (by omega) rfl) ?_
                clear hf a; intro a hf
                exact O.nil ⟨rfl,hf.to trivial,(gt (d:=64) hf rfl rfl),hD⟩
              · have hS:St w0 w noX BZ470 (sl 24 5 (.slice (some ⟨b_s25,0,none⟩) 0 0) 0 ([])::condA (s 14) (pt b_o24 (.cells #[.int .i64 0,.int .i64 0,.int .u8 0,.int .u8 0,.int .i64 0,.slice none 0 0] 46 (0,0)))::MZ470):=hD;
                replace hf:Fr a 115 [] ((62,vo)::(63,.int .i64 fa)::LZ470):=hf
                refine O.val hf rfl rfl rfl (RunV.ixV (j:=ia) (m:=ia*6) T_elem_39 T_size_46 rfl rfl (hS.rdAt (j:=0) rfl) hia (by omega) rfl) ?_
                clear hf a; intro a hf
                exact O.nil ⟨rfl,hf.to trivial,(gt (d:=64) hf rfl rfl),hD⟩
              · exact absurd h2_ (by simp)
            · intro k s g w h1_ h2_ hsp hD a hf
              obtain ⟨b_o24,b_s25,v26,v27,on⟩:=g
              rcases k with _ | _ | k
              · have hS:St w0 w noX BZ470 (condA (s 14) (pt b_o24 (.cells #[.int .i64 0,.int .i64 0,.int .u8 0,.int .u8 0,.int .i64 0,.slice none 0 0] 46 (0,0)))::MZ470):=hD;
                replace hf:Fr a 115 [] ((64,ix vo (ia*6))::LZ470):=hf
                refine O.val hf rfl rfl rfl (RunV.ixF T_field_46_1 rfl (hS.rdAt (j:=0) rfl) (by omega) rfl) ?_
                clear hf a; intro a hf
                exact O.nil ⟨rfl,hf.to trivial,(gt (d:=65) hf rfl rfl),hD⟩
              · have hS:St w0 w noX BZ470 (sl 24 5 (.slice (some ⟨b_s25,0,none⟩) 0 0) 0 ([])::condA (s 14) (pt b_o24 (.cells #[.int .i64 0,.int .i64 0,.int .u8 0,.int .u8 0,.int .i64 0,.slice none 0 0] 46 (0,0)))::MZ470):=hD;
                replace hf:Fr a 115 [] ((64,ix vo (ia*6))::LZ470):=hf
                refine O.val hf rfl rfl rfl (RunV.ixF T_field_46_1 rfl (hS.rdAt (j:=0) rfl) (by omega) rfl) ?_
                clear hf a; intro a hf
                exact O.nil ⟨rfl,hf.to trivial,(gt (d:=65) hf rfl rfl),hD⟩
              · exact absurd h2_ (by simp)
            · intro k s g w h1_ h2_ hsp hD a hf
              obtain ⟨b_o24,b_s25,v26,v27,on⟩:=g
              rcases k with _ | _ | k
              · have hS:St w0 w noX BZ470 (condA (s 14) (pt b_o24 (.cells #[.int .i64 0,.int .i64 0,.int .u8 0,.int .u8 0,.int .i64 0,.slice none 0 0] 46 (0,0)))::MZ470):=hD;
                replace hf:Fr a 115 [] ((65,ix vo (ia*6+5))::LZ470):=hf
                refine O.val hf rfl rfl rfl (RunV.ldG2 (j:=ia) (o:=5) (sz:=6) (enc:=eO) (l:=os) T_agg_35 eO_len rfl (hS.rdAt (j:=0) rfl) (by omega) rfl rfl) ?_
                clear hf a; intro a hf
                exact O.nil ⟨rfl,hf.to trivial,(gt (d:=66) hf rfl rfl),hD⟩
              · have hS:St w0 w noX BZ470 (sl 24 5 (.slice (some ⟨b_s25,0,none⟩) 0 0) 0 ([])::condA (s 14) (pt b_o24 (.cells #[.int .i64 0,.int .i64 0,.int .u8 0,.int .u8 0,.int .i64 0,.slice none 0 0] 46 (0,0)))::MZ470):=hD;
                replace hf:Fr a 115 [] ((65,ix vo (ia*6+5))::LZ470):=hf
                refine O.val hf rfl rfl rfl (RunV.ldG2 (j:=ia) (o:=5) (sz:=6) (enc:=eO) (l:=os) T_agg_35 eO_len rfl (hS.rdAt (j:=0) rfl) (by omega) rfl rfl) ?_
                clear hf a; intro a hf
                exact O.nil ⟨rfl,hf.to trivial,(gt (d:=66) hf rfl rfl),hD⟩
              · exact absurd h2_ (by simp)
            · intro k s g w h1_ h2_ hsp hD a hf
              obtain ⟨b_o24,b_s25,v26,v27,on⟩:=g
              rcases k with _ | _ | _ | k
              · have hS:St w0 w noX BZ470 (condA (s 14) (pt b_o24 (.cells #[.int .i64 0,.int .i64 0,.int .u8 0,.int .u8 0,.int .i64 0,.slice none 0 0] 46 (0,0)))::MZ470):=hD;
                replace hf:Fr a 115 [] LZ470:=hf
                refine O.val hf rfl rfl rfl (RunV.move rfl) ?_
                clear hf a; intro a hf
                exact O.nil ⟨rfl,hf.to trivial,(gt (d:=68) hf rfl rfl),hD⟩
              · have hS:St w0 w noX BZ470 (sl 24 5 (.slice (some ⟨b_s25,0,none⟩) 0 0) 0 ([])::condA (s 14) (pt b_o24 (.cells #[.int .i64 0,.int .i64 0,.int .u8 0,.int .u8 0,.int .i64 0,.slice none 0 0] 46 (0,0)))::MZ470):=hD;
                replace hf:Fr a 115 [] LZ470:=hf
                refine O.val hf rfl rfl rfl (RunV.move rfl) ?_
                clear hf a; intro a hf
                exact O.nil ⟨rfl,hf.to trivial,(gt (d:=68) hf rfl rfl),hD⟩
              · have hS:St w0 w noX BZ470 (sl 24 5 v26 (((os.getD ia default).l).length) (encs eD ((os.getD ia default).l))::condA (s 14) (pt b_o24 (.cells #[.int .i64 0,.int .i64 0,.int .u8 0,.int .u8 0,.int .i64 0,.slice none 0 0] 46 (0,0)))::MZ470):=hD;
                replace hf:Fr a 115 [] LZ470:=hf
                refine O.val hf rfl rfl rfl (RunV.move rfl) ?_
                clear hf a; intro a hf
                exact O.nil ⟨rfl,hf.to trivial,(gt (d:=68) hf rfl rfl),hD⟩
              · exact absurd h2_ (by simp)
            · intro k s g w h1_ h2_ hsp hD a hf
              obtain ⟨b_o24,b_s25,v26,v27,on⟩:=g
              rcases k with _ | _ | _ | k
              · have hS:St w0 w noX BZ470 (condA (s 14) (pt b_o24 (.cells #[.int .i64 0,.int .i64 0,.int .u8 0,.int .u8 0,.int .i64 0,.slice none 0 0] 46 (0,0)))::MZ470):=hD;
                replace hf:Fr a 115 [] LZ470:=hf
                refine O.val hf rfl rfl rfl (RunV.move rfl) ?_
                clear hf a; intro a hf
                exact O.nil ⟨rfl,hf.to trivial,(gt (d:=69) hf rfl rfl),hD⟩
              · have hS:St w0 w noX BZ470 (sl 24 5 (.slice (some ⟨b_s25,0,none⟩) 0 0) 0 ([])::condA (s 14) (pt b_o24 (.cells #[.int .i64 0,.int .i64 0,.int .u8 0,.int .u8 0,.int .i64 0,.slice none 0 0] 46 (0,0)))::MZ470):=hD;
                replace hf:Fr a 115 [] LZ470:=hf
                refine O.val hf rfl rfl rfl (RunV.move rfl) ?_
                clear hf a; intro a hf
                exact O.nil ⟨rfl,hf.to trivial,(gt (d:=69) hf rfl rfl),hD⟩
              · have hS:St w0 w noX BZ470 (sl 24 5 v26 (((os.getD ia default).l).length) (encs eD ((os.getD ia default).l))::condA (s 14) (pt b_o24 (.cells #[.int .i64 0,.int .i64 0,.int .u8 0,.int .u8 0,.int .i64 0,.slice none 0 0] 46 (0,0)))::MZ470):=hD;
                replace hf:Fr a 115 [] LZ470:=hf
                refine O.val hf rfl rfl rfl (RunV.move rfl) ?_
                clear hf a; intro a hf
                exact O.nil ⟨rfl,hf.to trivial,(gt (d:=69) hf rfl rfl),hD⟩
              · exact absurd h2_ (by simp)
            · intro k s g w h1_ h2_ hsp hD a hf
              obtain ⟨b_o24,b_s25,v26,v27,on⟩:=g
              rcases k with _ | _ | _ | k
              · have hS:St w0 w noX BZ470 (condA (s 14) (pt b_o24 (.cells #[.int .i64 0,.int .i64 0,.int .u8 0,.int .u8 0,.int .i64 0,.slice none 0 0] 46 (0,0)))::MZ470):=hD;
                replace hf:Fr a 115 [] ((68,vo)::(69,.int .i64 fb)::LZ470):=hf
                refine O.val hf rfl rfl rfl (RunV.ixV (j:=ib) (m:=ib*6) T_elem_39 T_size_46 rfl rfl (hS.rdAt (j:=0) rfl) hib (by omega) rfl) ?_
                clear hf a; intro a hf
                exact O.nil ⟨rfl,hf.to trivial,(gt (d:=70) hf rfl rfl),hD⟩
              · have hS:St w0 w noX BZ470 (sl 24 5 (.slice (some ⟨b_s25,0,none⟩) 0 0) 0 ([])::condA (s 14) (pt b_o24 (.cells #[.int .i64 0,.int .i64 0,.int .u8 0,.int .u8 0,.int .i64 0,.slice none 0 0] 46 (0,0)))::MZ470):=hD;
                replace hf:Fr a 115 [] ((68,vo)::(69,.int .i64 fb)::LZ470):=hf
                refine O.val hf rfl rfl rfl (RunV.ixV (j:=ib) (m:=ib*6) T_elem_39 T_size_46 rfl rfl (hS.rdAt (j:=0) rfl) hib (by omega) rfl) ?_
                clear hf a; intro a hf
                exact O.nil ⟨rfl,hf.to trivial,(gt (d:=70) hf rfl rfl),hD⟩
              · have hS:St w0 w noX BZ470 (sl 24 5 v26 (((os.getD ia default).l).length) (encs eD ((os.getD ia default).l))::condA (s 14) (pt b_o24 (.cells #[.int .i64 0,.int .i64 0,.int .u8 0,.int .u8 0,.int .i64 0,.slice none 0 0] 46 (0,0)))::MZ470):=hD;
                replace hf:Fr a 115 [] ((68,vo)::(69,.int .i64 fb)::LZ470):=hf
                refine O.val hf rfl rfl rfl (RunV.ixV (j:=ib) (m:=ib*6) T_elem_39 T_size_46 rfl rfl (hS.rdAt (j:=0) rfl) hib (by omega) rfl) ?_
                clear hf a; intro a hf
                exact O.nil ⟨rfl,hf.to trivial,(gt (d:=70) hf rfl rfl),hD⟩
              · exact absurd h2_ (by simp)
            · intro k s g w h1_ h2_ hsp hD a hf
              obtain ⟨b_o24,b_s25,v26,v27,on⟩:=g
              rcases k with _ | _ | _ | k
              · have hS:St w0 w noX BZ470 (condA (s 14) (pt b_o24 (.cells #[.int .i64 0,.int .i64 0,.int .u8 0,.int .u8 0,.int .i64 0,.slice none 0 0] 46 (0,0)))::MZ470):=hD;
                replace hf:Fr a 115 [] ((70,ix vo (ib*6))::LZ470):=hf
                refine O.val hf rfl rfl rfl (RunV.ixF T_field_46_1 rfl (hS.rdAt (j:=0) rfl) (by omega) rfl) ?_
                clear hf a; intro a hf
                exact O.nil ⟨rfl,hf.to trivial,(gt (d:=71) hf rfl rfl),hD⟩
              · have hS:St w0 w noX BZ470 (sl 24 5 (.slice (some ⟨b_s25,0,none⟩) 0 0) 0 ([])::condA (s 14) (pt b_o24 (.cells #[.int .i64 0,.int .i64 0,.int .u8 0,.int .u8 0,.int .i64 0,.slice none 0 0] 46 (0,0)))::MZ470):=hD;
                replace hf:Fr a 115 [] ((70,ix vo (ib*6))::LZ470):=hf
                refine O.val hf rfl rfl rfl (RunV.ixF T_field_46_1 rfl (hS.rdAt (j:=0) rfl) (by omega) rfl) ?_
                clear hf a; intro a hf
                exact O.nil ⟨rfl,hf.to trivial,(gt (d:=71) hf rfl rfl),hD⟩
              · have hS:St w0 w noX BZ470 (sl 24 5 v26 (((os.getD ia default).l).length) (encs eD ((os.getD ia default).l))::condA (s 14) (pt b_o24 (.cells #[.int .i64 0,.int .i64 0,.int .u8 0,.int .u8 0,.int .i64 0,.slice none 0 0] 46 (0,0)))::MZ470):=hD;
                replace hf:Fr a 115 [] ((70,ix vo (ib*6))::LZ470):=hf
                refine O.val hf rfl rfl rfl (RunV.ixF T_field_46_1 rfl (hS.rdAt (j:=0) rfl) (by omega) rfl) ?_
                clear hf a; intro a hf
                exact O.nil ⟨rfl,hf.to trivial,(gt (d:=71) hf rfl rfl),hD⟩
              · exact absurd h2_ (by simp)
            · intro k s g w h1_ h2_ hsp hD a hf
              obtain ⟨b_o24,b_s25,v26,v27,on⟩:=g
              rcases k with _ | _ | _ | k
              · have hS:St w0 w noX BZ470 (condA (s 14) (pt b_o24 (.cells #[.int .i64 0,.int .i64 0,.int .u8 0,.int .u8 0,.int .i64 0,.slice none 0 0] 46 (0,0)))::MZ470):=hD;
                replace hf:Fr a 115 [] ((71,ix vo (ib*6+5))::LZ470):=hf
                refine O.val hf rfl rfl rfl (RunV.ldG2 (j:=ib) (o:=5) (sz:=6) (enc:=eO) (l:=os) T_agg_35 eO_len rfl (hS.rdAt (j:=0) rfl) (by omega) rfl rfl) ?_
                clear hf a; intro a hf
                exact O.nil ⟨rfl,hf.to trivial,(gt (d:=72) hf rfl rfl),hD⟩
              · have hS:St w0 w noX BZ470 (sl 24 5 (.slice (some ⟨b_s25,0,none⟩) 0 0) 0 ([])::condA (s 14) (pt b_o24 (.cells #[.int .i64 0,.int .i64 0,.int .u8 0,.int .u8 0,.int .i64 0,.slice none 0 0] 46 (0,0)))::MZ470):=hD;
                replace hf:Fr a 115 [] ((71,ix vo (ib*6+5))::LZ470):=hf
                refine O.val hf rfl rfl rfl (RunV.ldG2 (j:=ib) (o:=5) (sz:=6) (enc:=eO) (l:=os) T_agg_35 eO_len rfl (hS.rdAt (j:=0) rfl) (by omega) rfl rfl) ?_
                clear hf a; intro a hf
                exact O.nil ⟨rfl,hf.to trivial,(gt (d:=72) hf rfl rfl),hD⟩
              · have hS:St w0 w noX BZ470 (sl 24 5 v26 (((os.getD ia default).l).length) (encs eD ((os.getD ia default).l))::condA (s 14) (pt b_o24 (.cells #[.int .i64 0,.int .i64 0,.int .u8 0,.int .u8 0,.int .i64 0,.slice none 0 0] 46 (0,0)))::MZ470):=hD;
                replace hf:Fr a 115 [] ((71,ix vo (ib*6+5))::LZ470):=hf
                refine O.val hf rfl rfl rfl (RunV.ldG2 (j:=ib) (o:=5) (sz:=6) (enc:=eO) (l:=os) T_agg_35 eO_len rfl (hS.rdAt (j:=0) rfl) (by omega) rfl rfl) ?_
                clear hf a; intro a hf
                exact O.nil ⟨rfl,hf.to trivial,(gt (d:=72) hf rfl rfl),hD⟩
              · exact absurd h2_ (by simp)
          · clear hf hf1 hS
            refine ⟨?_,?_,?_,?_,?_,trivial⟩
            · intro s g w hsp hD a hf
              obtain ⟨b_o24,b_s25,v26,v27,on⟩:=g
              have hS:St w0 w noX BZ470 (condA (s 14) (pt b_o24 (.cells #[.int .i64 0,.int .i64 0,.int .u8 0,.int .u8 0,.int .i64 0,.slice none 0 0] 46 (0,0)))::MZ470):=hD;
              replace hf:Fr a 115 [] LZ470:=hf
              clear hD
              refine O.buildSlice0 hf hS rfl rfl T_elem_35 T_size_24 rfl ?_
              clear hf hS a; intro b_s29 w a hbb_s29 hS hf
              exact O.nil ⟨rfl,(b_o24,b_s29,v26,v27,on),hf.to trivial,(gt (d:=61) hf rfl rfl),(fun j_ hj_ ha_=>match j_,hj_,ha_ with | 0,hj_,ha_=>absurd rfl hj_ | 1,hj_,ha_=>rfl | 2,hj_,ha_=>rfl | 3,hj_,ha_=>rfl | 4,hj_,ha_=>rfl | 5,hj_,ha_=>rfl | 6,hj_,ha_=>absurd ha_ (by decide) | 7,hj_,ha_=>rfl | 8,hj_,ha_=>rfl | 9,hj_,ha_=>rfl | 10,hj_,ha_=>rfl | 11,hj_,ha_=>rfl | 12,hj_,ha_=>absurd ha_ (by decide) | 13,hj_,ha_=>absurd ha_ (by decide) | 14,hj_,ha_=>rfl | 15,hj_,ha_=>absurd ha_ (by decide) | _+16,_,_=>rfl),hS⟩
            · intro s g w hsp hD a hf
              obtain ⟨b_o24,b_s25,v26,v27,on⟩:=g
              have hS:St w0 w noX BZ470 (sl 24 5 (.slice (some ⟨b_s25,0,none⟩) 0 0) 0 ([])::condA (s 14) (pt b_o24 (.cells #[.int .i64 0,.int .i64 0,.int .u8 0,.int .u8 0,.int .i64 0,.slice none 0 0] 46 (0,0)))::MZ470):=hD;
              replace hf:Fr a 115 [] ((61,.slice (some ⟨b_s25,0,none⟩) 0 0)::(66,(os.getD ia default).v)::LZ470):=hf
              clear hD
              replace hS:St w0 w noX BZ470 (slE 24 5 eD (.slice (some ⟨b_s25,0,none⟩) 0 0) ([]:List Dg)::condA (s 14) (pt b_o24 (.cells #[.int .i64 0,.int .i64 0,.int .u8 0,.int .u8 0,.int .i64 0,.slice none 0 0] 46 (0,0)))::MZ470):=hS
              refine O.appendEV (j:=0) (enc:=eD) (l:=([]:List Dg)) (m:=(os.getD ia default).l) (l':=(os.getD ia default).l) hf hS rfl rfl T_elem_35 T_size_24 T_bytes_24 T_zero_24 rfl rfl rfl rfl rfl ⟨((hS.obAt (i:=1) rfl).at (k:=ia) (by omega)),(hof _ (getO hil))⟩ (fun _=>rfl) (by decide) (by omega) rfl rfl ?_
              clear hf hS a; intro v30 w a hS hf
              replace hS:St w0 w noX BZ470 (sl 24 5 v30 (((os.getD ia default).l).length) (encs eD ((os.getD ia default).l))::condA (s 14) (pt b_o24 (.cells #[.int .i64 0,.int .i64 0,.int .u8 0,.int .u8 0,.int .i64 0,.slice none 0 0] 46 (0,0)))::MZ470):=hS
              exact O.nil ⟨rfl,(b_o24,b_s25,v30,v27,on),hf.to trivial,(gt (d:=67) hf rfl rfl),(fun j_ hj_ ha_=>match j_,hj_,ha_ with | 0,hj_,ha_=>rfl | 1,hj_,ha_=>rfl | 2,hj_,ha_=>rfl | 3,hj_,ha_=>rfl | 4,hj_,ha_=>rfl | 5,hj_,ha_=>rfl | 6,hj_,ha_=>absurd rfl hj_ | 7,hj_,ha_=>rfl | 8,hj_,ha_=>rfl | 9,hj_,ha_=>rfl | 10,hj_,ha_=>rfl | 11,hj_,ha_=>rfl | 12,hj_,ha_=>absurd ha_ (by decide) | 13,hj_,ha_=>absurd ha_ (by decide) | 14,hj_,ha_=>rfl | 15,hj_,ha_=>absurd ha_ (by decide) | _+16,_,_=>rfl),hS⟩
            · intro s g w hsp hD a hf
              obtain ⟨b_o24,b_s25,v26,v27,on⟩:=g
              have hS:St w0 w noX BZ470 (sl 24 5 v26 (((os.getD ia default).l).length) (encs eD ((os.getD ia default).l))::condA (s 14) (pt b_o24 (.cells #[.int .i64 0,.int .i64 0,.int .u8 0,.int .u8 0,.int .i64 0,.slice none 0 0] 46 (0,0)))::MZ470):=hD;
              replace hf:Fr a 115 [] ((67,v26)::(72,(os.getD ib default).v)::LZ470):=hf
              clear hD
              refine O.appendEV (j:=0) (enc:=eD) (l:=(os.getD ia default).l) (m:=(os.getD ib default).l) (l':=((os.getD ia default).l++(os.getD ib default).l)) hf hS rfl rfl T_elem_35 T_size_24 T_bytes_24 T_zero_24 rfl rfl rfl rfl rfl ⟨((hS.obAt (i:=1) rfl).at (k:=ib) (by omega)),(hof _ (getO hjl))⟩ (fun _=>rfl) (by omega) (by omega) rfl rfl ?_
              clear hf hS a; intro v31 w a hS hf
              replace hS:St w0 w noX BZ470 (sl 24 5 v31 (((os.getD ia default).l++(os.getD ib default).l).length) (encs eD ((os.getD ia default).l++(os.getD ib default).l))::condA (s 14) (pt b_o24 (.cells #[.int .i64 0,.int .i64 0,.int .u8 0,.int .u8 0,.int .i64 0,.slice none 0 0] 46 (0,0)))::MZ470):=hS
              exact O.nil ⟨rfl,(b_o24,b_s25,v26,v31,on),hf.to trivial,(gt (d:=73) hf rfl rfl),(fun j_ hj_ ha_=>match j_,hj_,ha_ with | 0,hj_,ha_=>rfl | 1,hj_,ha_=>rfl | 2,hj_,ha_=>rfl | 3,hj_,ha_=>rfl | 4,hj_,ha_=>rfl | 5,hj_,ha_=>rfl | 6,hj_,ha_=>rfl | 7,hj_,ha_=>rfl | 8,hj_,ha_=>rfl | 9,hj_,ha_=>rfl | 10,hj_,ha_=>rfl | 11,hj_,ha_=>rfl | 12,hj_,ha_=>absurd rfl hj_ | 13,hj_,ha_=>absurd ha_ (by decide) | 14,hj_,ha_=>rfl | 15,hj_,ha_=>absurd ha_ (by decide) | _+16,_,_=>rfl),hS⟩
            · intro s g w hsp hD a hf
              obtain ⟨b_o24,b_s25,v26,v27,on⟩:=g
              have hS:St w0 w noX BZ470 (sl 24 5 v27 (((os.getD ia default).l++(os.getD ib default).l).length) (encs eD ((os.getD ia default).l++(os.getD ib default).l))::condA (s 14) (pt b_o24 (.cells #[.int .i64 0,.int .i64 0,.int .u8 0,.int .u8 0,.int .i64 0,.slice none 0 0] 46 (0,0)))::MZ470):=hD;
              replace hf:Fr a 115 [] ((73,v27)::LZ470):=hf
              clear hD
              refine O.callR hf rfl rfl rfl (RunE.call (av:=#[v27]) C_ok_59 rfl rfl rfl) (made_ob v27 ((os.getD ia default).l++(os.getD ib default).l) _ (hS.slr (j:=0) rfl) (fun d hd=>(List.mem_append.1 hd).elim (hvA.2 d) (hvB.2 d)) (by have:=List.length_pos_iff.2 hvA.1; rw [List.length_append]; omega) (by rw [List.length_append]; omega)) ?_
              clear hf a
              rintro on w32 hS1 a hf
              replace hf:Fr a _ _ ((74,.agg #[.int .i64 on.p.num,.int .i64 on.p.yr,.int .u8 on.p.half,.int .u8 on.p.sec,.int .i64 on.p.cyc,(.slice on.ad on.n on.c)])::_):=hf
              replace hS:=(hS.call hS1).eqM (N:=(obF ((os.getD ia default).l++(os.getD ib default).l) on::sl 24 5 v27 (((os.getD ia default).l++(os.getD ib default).l).length) (encs eD ((os.getD ia default).l++(os.getD ib default).l))::condA (s 14) (pt b_o24 (.cells #[.int .i64 0,.int .i64 0,.int .u8 0,.int .u8 0,.int .i64 0,.slice none 0 0] 46 (0,0)))::MZ470)) rfl
              clear hS1
              exact O.nil ⟨rfl,(b_o24,b_s25,v26,v27,on),hf.to trivial,(gt (d:=74) hf rfl rfl),(fun j_ hj_ ha_=>match j_,hj_,ha_ with | 0,hj_,ha_=>rfl | 1,hj_,ha_=>rfl | 2,hj_,ha_=>rfl | 3,hj_,ha_=>rfl | 4,hj_,ha_=>rfl | 5,hj_,ha_=>rfl | 6,hj_,ha_=>rfl | 7,hj_,ha_=>rfl | 8,hj_,ha_=>rfl | 9,hj_,ha_=>rfl | 10,hj_,ha_=>rfl | 11,hj_,ha_=>rfl | 12,hj_,ha_=>rfl | 13,hj_,ha_=>absurd rfl hj_ | 14,hj_,ha_=>rfl | 15,hj_,ha_=>absurd ha_ (by decide) | _+16,_,_=>rfl),hS⟩
            · intro s g w hsp hD a hf
              obtain ⟨b_o24,b_s25,v26,v27,on⟩:=g
              have ha_14:s 14=true:=hsp 14 (by simp)
              have hS:St w0 w noX BZ470 (obF ((os.getD ia default).l++(os.getD ib default).l) on::sl 24 5 v27 (((os.getD ia default).l++(os.getD ib default).l).length) (encs eD ((os.getD ia default).l++(os.getD ib default).l))::condA (s 14) (pt b_o24 (.cells #[.int .i64 0,.int .i64 0,.int .u8 0,.int .u8 0,.int .i64 0,.slice none 0 0] 46 (0,0)))::MZ470):=hD; rw [ha_14] at hS
              replace hS:St w0 w noX BZ470 (obF ((os.getD ia default).l++(os.getD ib default).l) on::sl 24 5 v27 (((os.getD ia default).l++(os.getD ib default).l).length) (encs eD ((os.getD ia default).l++(os.getD ib default).l))::pt b_o24 (.cells #[.int .i64 0,.int .i64 0,.int .u8 0,.int .u8 0,.int .i64 0,.slice none 0 0] 46 (0,0))::MZ470):=hS
              replace hf:Fr a 115 [] ((61,.slice (some ⟨b_s25,0,none⟩) 0 0)::(62,vo)::(63,.int .i64 fa)::(64,ix vo (ia*6))::(65,ix vo (ia*6+5))::(66,(os.getD ia default).v)::(67,v26)::(68,vo)::(69,.int .i64 fb)::(70,ix vo (ib*6))::(71,ix vo (ib*6+5))::(72,(os.getD ib default).v)::(73,v27)::(74,.agg #[.int .i64 on.p.num,.int .i64 on.p.yr,.int .u8 on.p.half,.int .u8 on.p.sec,.int .i64 on.p.cyc,(.slice on.ad on.n on.c)])::(8,.pointer (some ⟨b_o24,0,none⟩))::LZ470):=hf
              clear hD
              refine O.store (j:=2) (cs':=#[.int .i64 on.p.num,.int .i64 on.p.yr,.int .u8 on.p.half,.int .u8 on.p.sec,.int .i64 on.p.cyc,(.slice on.ad on.n on.c)]) (M':=(obF ((os.getD ia default).l++(os.getD ib default).l) on::sl 24 5 v27 (((os.getD ia default).l++(os.getD ib default).l).length) (encs eD ((os.getD ia default).l++(os.getD ib default).l))::pt b_o24 (.cells #[.int .i64 on.p.num,.int .i64 on.p.yr,.int .u8 on.p.half,.int .u8 on.p.sec,.int .i64 on.p.cyc,(.slice on.ad on.n on.c)] 46 (0,0))::MZ470)) hf hS rfl rfl rfl T_size_46 rfl rfl rfl (Nat.le_of_ble_eq_true rfl) rfl rfl ?_
              clear hS; intro w hS
              exact O.nil ⟨rfl,(b_o24,b_s25,v26,v27,on),hf.to trivial,(fun d hd=>by cases (show none=some d from hd)),(fun j_ hj_ ha_=>match j_,hj_,ha_ with | 0,hj_,ha_=>rfl | 1,hj_,ha_=>rfl | 2,hj_,ha_=>rfl | 3,hj_,ha_=>rfl | 4,hj_,ha_=>rfl | 5,hj_,ha_=>rfl | 6,hj_,ha_=>rfl | 7,hj_,ha_=>rfl | 8,hj_,ha_=>rfl | 9,hj_,ha_=>rfl | 10,hj_,ha_=>rfl | 11,hj_,ha_=>rfl | 12,hj_,ha_=>rfl | 13,hj_,ha_=>rfl | 14,hj_,ha_=>rfl | 15,hj_,ha_=>absurd rfl hj_ | _+16,_,_=>rfl),hS⟩
          · clear hf hf1 hS
            refine ⟨?_,trivial⟩
            · intro k s g w h1_ h2_ hs0 hD a hf
              obtain ⟨b_o24,b_s25,v26,v27,on⟩:=g
              rcases k with _ | _ | _ | _ | _ | k
              · have hS:St w0 w noX BZ470 (condA (s 14) (pt b_o24 (.cells #[.int .i64 0,.int .i64 0,.int .u8 0,.int .u8 0,.int .i64 0,.slice none 0 0] 46 (0,0)))::MZ470):=hD; clear hD
                replace hf:Fr a 115 [] LZ470:=hf
                refine O.allocC (j:=0) (cs:=#[.int .i64 0,.int .i64 0,.int .u8 0,.int .u8 0,.int .i64 0,.slice none 0 0]) hf hS rfl hs0 rfl rfl T_zero_46 rfl ?_; clear hf hS a; intro b_s33 w a hS hf
                exact O.nil ⟨rfl,(b_s33,b_s25,v26,v27,on),hf.to trivial,(gt (d:=8) hf rfl rfl),(fun j_ hj_ ha_=>match j_,hj_,ha_ with | 0,hj_,ha_=>rfl | 1,hj_,ha_=>rfl | 2,hj_,ha_=>rfl | 3,hj_,ha_=>rfl | 4,hj_,ha_=>rfl | 5,hj_,ha_=>rfl | 6,hj_,ha_=>rfl | 7,hj_,ha_=>rfl | 8,hj_,ha_=>rfl | 9,hj_,ha_=>rfl | 10,hj_,ha_=>rfl | 11,hj_,ha_=>rfl | 12,hj_,ha_=>rfl | 13,hj_,ha_=>rfl | 14,hj_,ha_=>absurd rfl hj_ | 15,hj_,ha_=>absurd ha_ (by decide) | _+16,_,_=>rfl),hS⟩
              · have hS:St w0 w noX BZ470 (sl 24 5 (.slice (some ⟨b_s25,0,none⟩) 0 0) 0 ([])::condA (s 14) (pt b_o24 (.cells #[.int .i64 0,.int .i64 0,.int .u8 0,.int .u8 0,.int .i64 0,.slice none 0 0] 46 (0,0)))::MZ470):=hD; clear hD
                replace hf:Fr a 115 [] LZ470:=hf
                refine O.allocC (j:=1) (cs:=#[.int .i64 0,.int .i64 0,.int .u8 0,.int .u8 0,.int .i64 0,.slice none 0 0]) hf hS rfl hs0 rfl rfl T_zero_46 rfl ?_; clear hf hS a; intro b_s34 w a hS hf
                exact O.nil ⟨rfl,(b_s34,b_s25,v26,v27,on),hf.to trivial,(gt (d:=8) hf rfl rfl),(fun j_ hj_ ha_=>match j_,hj_,ha_ with | 0,hj_,ha_=>rfl | 1,hj_,ha_=>rfl | 2,hj_,ha_=>rfl | 3,hj_,ha_=>rfl | 4,hj_,ha_=>rfl | 5,hj_,ha_=>rfl | 6,hj_,ha_=>rfl | 7,hj_,ha_=>rfl | 8,hj_,ha_=>rfl | 9,hj_,ha_=>rfl | 10,hj_,ha_=>rfl | 11,hj_,ha_=>rfl | 12,hj_,ha_=>rfl | 13,hj_,ha_=>rfl | 14,hj_,ha_=>absurd rfl hj_ | 15,hj_,ha_=>absurd ha_ (by decide) | _+16,_,_=>rfl),hS⟩
              · have hS:St w0 w noX BZ470 (sl 24 5 v26 (((os.getD ia default).l).length) (encs eD ((os.getD ia default).l))::condA (s 14) (pt b_o24 (.cells #[.int .i64 0,.int .i64 0,.int .u8 0,.int .u8 0,.int .i64 0,.slice none 0 0] 46 (0,0)))::MZ470):=hD; clear hD
                replace hf:Fr a 115 [] LZ470:=hf
                refine O.allocC (j:=1) (cs:=#[.int .i64 0,.int .i64 0,.int .u8 0,.int .u8 0,.int .i64 0,.slice none 0 0]) hf hS rfl hs0 rfl rfl T_zero_46 rfl ?_; clear hf hS a; intro b_s35 w a hS hf
                exact O.nil ⟨rfl,(b_s35,b_s25,v26,v27,on),hf.to trivial,(gt (d:=8) hf rfl rfl),(fun j_ hj_ ha_=>match j_,hj_,ha_ with | 0,hj_,ha_=>rfl | 1,hj_,ha_=>rfl | 2,hj_,ha_=>rfl | 3,hj_,ha_=>rfl | 4,hj_,ha_=>rfl | 5,hj_,ha_=>rfl | 6,hj_,ha_=>rfl | 7,hj_,ha_=>rfl | 8,hj_,ha_=>rfl | 9,hj_,ha_=>rfl | 10,hj_,ha_=>rfl | 11,hj_,ha_=>rfl | 12,hj_,ha_=>rfl | 13,hj_,ha_=>rfl | 14,hj_,ha_=>absurd rfl hj_ | 15,hj_,ha_=>absurd ha_ (by decide) | _+16,_,_=>rfl),hS⟩
              · have hS:St w0 w noX BZ470 (sl 24 5 v27 (((os.getD ia default).l++(os.getD ib default).l).length) (encs eD ((os.getD ia default).l++(os.getD ib default).l))::condA (s 14) (pt b_o24 (.cells #[.int .i64 0,.int .i64 0,.int .u8 0,.int .u8 0,.int .i64 0,.slice none 0 0] 46 (0,0)))::MZ470):=hD; clear hD
                replace hf:Fr a 115 [] LZ470:=hf
                refine O.allocC (j:=1) (cs:=#[.int .i64 0,.int .i64 0,.int .u8 0,.int .u8 0,.int .i64 0,.slice none 0 0]) hf hS rfl hs0 rfl rfl T_zero_46 rfl ?_; clear hf hS a; intro b_s36 w a hS hf
                exact O.nil ⟨rfl,(b_s36,b_s25,v26,v27,on),hf.to trivial,(gt (d:=8) hf rfl rfl),(fun j_ hj_ ha_=>match j_,hj_,ha_ with | 0,hj_,ha_=>rfl | 1,hj_,ha_=>rfl | 2,hj_,ha_=>rfl | 3,hj_,ha_=>rfl | 4,hj_,ha_=>rfl | 5,hj_,ha_=>rfl | 6,hj_,ha_=>rfl | 7,hj_,ha_=>rfl | 8,hj_,ha_=>rfl | 9,hj_,ha_=>rfl | 10,hj_,ha_=>rfl | 11,hj_,ha_=>rfl | 12,hj_,ha_=>rfl | 13,hj_,ha_=>rfl | 14,hj_,ha_=>absurd rfl hj_ | 15,hj_,ha_=>absurd ha_ (by decide) | _+16,_,_=>rfl),hS⟩
              · have hS:St w0 w noX BZ470 (obF ((os.getD ia default).l++(os.getD ib default).l) on::sl 24 5 v27 (((os.getD ia default).l++(os.getD ib default).l).length) (encs eD ((os.getD ia default).l++(os.getD ib default).l))::condA (s 14) (pt b_o24 (.cells #[.int .i64 0,.int .i64 0,.int .u8 0,.int .u8 0,.int .i64 0,.slice none 0 0] 46 (0,0)))::MZ470):=hD; clear hD
                replace hf:Fr a 115 [] LZ470:=hf
                refine O.allocC (j:=2) (cs:=#[.int .i64 0,.int .i64 0,.int .u8 0,.int .u8 0,.int .i64 0,.slice none 0 0]) hf hS rfl hs0 rfl rfl T_zero_46 rfl ?_; clear hf hS a; intro b_s37 w a hS hf
                exact O.nil ⟨rfl,(b_s37,b_s25,v26,v27,on),hf.to trivial,(gt (d:=8) hf rfl rfl),(fun j_ hj_ ha_=>match j_,hj_,ha_ with | 0,hj_,ha_=>rfl | 1,hj_,ha_=>rfl | 2,hj_,ha_=>rfl | 3,hj_,ha_=>rfl | 4,hj_,ha_=>rfl | 5,hj_,ha_=>rfl | 6,hj_,ha_=>rfl | 7,hj_,ha_=>rfl | 8,hj_,ha_=>rfl | 9,hj_,ha_=>rfl | 10,hj_,ha_=>rfl | 11,hj_,ha_=>rfl | 12,hj_,ha_=>rfl | 13,hj_,ha_=>rfl | 14,hj_,ha_=>absurd rfl hj_ | 15,hj_,ha_=>absurd ha_ (by decide) | _+16,_,_=>rfl),hS⟩
              · exact absurd h2_ (by simp)
          clear hf hf1 hS; intro s g a w hs_ hf hD
          obtain ⟨b_o24,b_s25,v26,v27,on⟩:=g
          have ha_14:s 14=true:=hs_ 14 (by simp)
          have hS:St w0 w noX BZ470 (obF ((os.getD ia default).l++(os.getD ib default).l) on::sl 24 5 v27 (((os.getD ia default).l++(os.getD ib default).l).length) (encs eD ((os.getD ia default).l++(os.getD ib default).l))::pt b_o24 (.cells #[.int .i64 on.p.num,.int .i64 on.p.yr,.int .u8 on.p.half,.int .u8 on.p.sec,.int .i64 on.p.cyc,(.slice on.ad on.n on.c)] 46 (0,0))::MZ470):=hD; clear hD
          replace hf:Fr a 115 [] ((61,.slice (some ⟨b_s25,0,none⟩) 0 0)::(62,vo)::(63,.int .i64 fa)::(64,ix vo (ia*6))::(65,ix vo (ia*6+5))::(66,(os.getD ia default).v)::(67,v26)::(68,vo)::(69,.int .i64 fb)::(70,ix vo (ib*6))::(71,ix vo (ib*6+5))::(72,(os.getD ib default).v)::(73,v27)::(74,.agg #[.int .i64 on.p.num,.int .i64 on.p.yr,.int .u8 on.p.half,.int .u8 on.p.sec,.int .i64 on.p.cyc,(.slice on.ad on.n on.c)])::(8,.pointer (some ⟨b_o24,0,none⟩))::LZ470):=hf
          refine k_seq ?_
          replace hf:Fr a 115 [] [(0,vo),(3,.pointer (some ⟨b_c1,0,none⟩)),(4,.slice none 0 0),(5,.int .i64 0),(6,.int .i64 fa),(7,.int .i64 fb),(8,.pointer (some ⟨b_o24,0,none⟩))]:=hf.to ⟨rfl,rfl,rfl,rfl,rfl,rfl,rfl,trivial⟩
          refine W.seq ?_
          have hd1:=delR_len (l:=os) (i:=max ia ib) (by omega)
          have hd2:min ia ib<(delR os (max ia ib)).length:=by omega
          have hd3:(delR os (max ia ib)).length≤1000:=by omega
          have hd4:=delR_len hd2
          have hf1:Fr a 115 [] []:=hf.to trivial
          replace hf:Fr a 115 [] [(0,vo),(3,.pointer (some ⟨b_c1,0,none⟩)),(6,.int .i64 fa),(7,.int .i64 fb),(8,.pointer (some ⟨b_o24,0,none⟩))]:=hf.to ⟨rfl,rfl,rfl,rfl,rfl,trivial⟩
          replace hS:=hS.drew
          replace hS:=hS.emp
          let LZ732:List (Nat × Value):=[(0,vo),(3,.pointer (some ⟨b_c1,0,none⟩)),(6,.int .i64 fa),(7,.int .i64 fb),(8,.pointer (some ⟨b_o24,0,none⟩))]
          let MZ732:List Asr:=(obF ((os.getD ia default).l++(os.getD ib default).l) on::sl 24 5 v27 (((os.getD ia default).l++(os.getD ib default).l).length) (encs eD ((os.getD ia default).l++(os.getD ib default).l))::pt b_o24 (.cells #[.int .i64 on.p.num,.int .i64 on.p.yr,.int .u8 on.p.half,.int .u8 on.p.sec,.int .i64 on.p.cyc,(.slice on.ad on.n on.c)] 46 (0,0))::MZ470)
          let BZ732:List Asr:=BZ470
          refine W.drawC (γ:=(Nat) × (Value) × (Value) × (Value)) (L0:=LZ732) (L1:=[]) (0,default,default,default) [4,8,11] [10] [0,1,2,3,5,6,7,9,12,13] (fun i=>match i with | 3=>[1,2] | 4=>[0,3] | 7=>[5,6] | 8=>[4,7] | 10=>[9] | 11=>[8,10] | 12=>[0,1,2,3,4,5,6,7,8,9,10,11] | 13=>[0,1,2,3,4,5,6,7,8,9,10,11,12] | _=>[]) (fun i=>match i with | 8=>[4] | 11=>[4,8,10] | 12=>[4,8,11,10] | 13=>[4,8,11,10] | _=>[]) (fun i=>match i with | 0=>[4,8,11] | 1=>[4,8,11] | 2=>[4,8,11] | 3=>[4,8,11] | 4=>[8,11] | 5=>[8,11] | 6=>[8,11] | 7=>[8,11] | 8=>[11] | 9=>[11] | 10=>[11] | _=>[]) (fun i=>match i with | 11=>[10] | 12=>[10] | 13=>[10] | _=>[]) (fun i=>match i with | 4=>[8,11,12,13] | 8=>[11,12,13] | 10=>[11,12,13] | 11=>[12,13] | _=>[]) (fun _=>[]) (fun i=>match i with | 8=>1 | 11=>2 | 12=>3 | 13=>3 | _=>0) (fun i=>match i with | 4=>1 | 5=>1 | 6=>1 | 7=>1 | 8=>2 | 9=>2 | 10=>2 | 11=>3 | 12=>3 | 13=>3 | _=>0) (fun (g:(Nat) × (Value) × (Value) × (Value)) j=>match g,j with | ⟨b_s38,wv1,wv2,v41⟩,0=>vo | ⟨b_s38,wv1,wv2,v41⟩,1=>.int .i64 fa | ⟨b_s38,wv1,wv2,v41⟩,2=>.int .i64 fb | ⟨b_s38,wv1,wv2,v41⟩,3=>.int .i64 ((max ia ib:Nat):Int) | ⟨b_s38,wv1,wv2,v41⟩,4=>wv1 | ⟨b_s38,wv1,wv2,v41⟩,5=>.int .i64 fa | ⟨b_s38,wv1,wv2,v41⟩,6=>.int .i64 fb | ⟨b_s38,wv1,wv2,v41⟩,7=>.int .i64 ((min ia ib:Nat):Int) | ⟨b_s38,wv1,wv2,v41⟩,8=>wv2 | ⟨b_s38,wv1,wv2,v41⟩,9=>.agg #[.int .i64 on.p.num,.int .i64 on.p.yr,.int .u8 on.p.half,.int .u8 on.p.sec,.int .i64 on.p.cyc,(.slice on.ad on.n on.c)] | ⟨b_s38,wv1,wv2,v41⟩,10=>.slice (some ⟨b_s38,0,none⟩) 1 1 | ⟨b_s38,wv1,wv2,v41⟩,11=>v41 | ⟨b_s38,wv1,wv2,v41⟩,12=>v41 | ⟨b_s38,wv1,wv2,v41⟩,13=>.int .i64 0 | _,_=>undef) (fun k s (g:(Nat) × (Value) × (Value) × (Value)) w=>match k,g with | 0,⟨b_s38,wv1,wv2,v41⟩=>St w0 w noX BZ732 (condA (s 10) (pt b_s38 (.cells #[.int .i64 on.p.num,.int .i64 on.p.yr,.int .u8 on.p.half,.int .u8 on.p.sec,.int .i64 on.p.cyc,(.slice on.ad on.n on.c)] 46 (0,0)))::MZ732) | 1,⟨b_s38,wv1,wv2,v41⟩=>St w0 w noX BZ732 (sl 46 6 wv1 ((delR os (max ia ib)).length) (encs eO (delR os (max ia ib)))::condA (s 10) (pt b_s38 (.cells #[.int .i64 on.p.num,.int .i64 on.p.yr,.int .u8 on.p.half,.int .u8 on.p.sec,.int .i64 on.p.cyc,(.slice on.ad on.n on.c)] 46 (0,0)))::MZ732) | 2,⟨b_s38,wv1,wv2,v41⟩=>St w0 w noX BZ732 (sl 46 6 wv2 ((delR (delR os (max ia ib)) (min ia ib)).length) (encs eO (delR (delR os (max ia ib)) (min ia ib)))::sl 46 6 wv1 ((delR os (max ia ib)).length) (encs eO (delR os (max ia ib)))::condA (s 10) (pt b_s38 (.cells #[.int .i64 on.p.num,.int .i64 on.p.yr,.int .u8 on.p.half,.int .u8 on.p.sec,.int .i64 on.p.cyc,(.slice on.ad on.n on.c)] 46 (0,0)))::MZ732) | _,⟨b_s38,wv1,wv2,v41⟩=>St w0 w noX BZ732 (sl 46 6 v41 (((delR (delR os (max ia ib)) (min ia ib))++[on]).length) (encs eO ((delR (delR os (max ia ib)) (min ia ib))++[on]))::sl 46 6 wv1 ((delR os (max ia ib)).length) (encs eO (delR os (max ia ib)))::pt b_s38 (.cells #[.int .i64 on.p.num,.int .i64 on.p.yr,.int .u8 on.p.half,.int .u8 on.p.sec,.int .i64 on.p.cyc,(.slice on.ad on.n on.c)] 46 (0,0))::MZ732)) P_mixed (by kernel_rfl) (by kernel_rfl) (by kernel_rfl) hf hf1 hS ?_ ?_ ?_ ?_
          · clear hf hf1 hS
            refine ⟨?_,?_,?_,?_,?_,?_,?_,?_,?_,?_,trivial⟩
            · intro k s g w h1_ h2_ hsp hD a hf
              obtain ⟨b_s38,wv1,wv2,v41⟩:=g
              obtain rfl:k=0:=Nat.le_antisymm h2_ h1_
              have hS:St w0 w noX BZ732 (condA (s 10) (pt b_s38 (.cells #[.int .i64 on.p.num,.int .i64 on.p.yr,.int .u8 on.p.half,.int .u8 on.p.sec,.int .i64 on.p.cyc,(.slice on.ad on.n on.c)] 46 (0,0)))::MZ732):=hD;
              replace hf:Fr a 115 [] LZ732:=hf
              refine O.val hf rfl rfl rfl (RunV.move rfl) ?_
              clear hf a; intro a hf
              exact O.nil ⟨rfl,hf.to trivial,(gt (d:=75) hf rfl rfl),hD⟩
            · intro k s g w h1_ h2_ hsp hD a hf
              obtain ⟨b_s38,wv1,wv2,v41⟩:=g
              obtain rfl:k=0:=Nat.le_antisymm h2_ h1_
              have hS:St w0 w noX BZ732 (condA (s 10) (pt b_s38 (.cells #[.int .i64 on.p.num,.int .i64 on.p.yr,.int .u8 on.p.half,.int .u8 on.p.sec,.int .i64 on.p.cyc,(.slice on.ad on.n on.c)] 46 (0,0)))::MZ732):=hD;
              replace hf:Fr a 115 [] LZ732:=hf
              refine O.val hf rfl rfl rfl (RunV.move rfl) ?_
              clear hf a; intro a hf
              exact O.nil ⟨rfl,hf.to trivial,(gt (d:=76) hf rfl rfl),hD⟩
            · intro k s g w h1_ h2_ hsp hD a hf
              obtain ⟨b_s38,wv1,wv2,v41⟩:=g
              obtain rfl:k=0:=Nat.le_antisymm h2_ h1_
              have hS:St w0 w noX BZ732 (condA (s 10) (pt b_s38 (.cells #[.int .i64 on.p.num,.int .i64 on.p.yr,.int .u8 on.p.half,.int .u8 on.p.sec,.int .i64 on.p.cyc,(.slice on.ad on.n on.c)] 46 (0,0)))::MZ732):=hD;
              replace hf:Fr a 115 [] LZ732:=hf
              refine O.val hf rfl rfl rfl (RunV.move rfl) ?_
              clear hf a; intro a hf
              exact O.nil ⟨rfl,hf.to trivial,(gt (d:=77) hf rfl rfl),hD⟩
            · intro k s g w h1_ h2_ hsp hD a hf
              obtain ⟨b_s38,wv1,wv2,v41⟩:=g
              obtain rfl:k=0:=Nat.le_antisymm h2_ h1_
              have hS:St w0 w noX BZ732 (condA (s 10) (pt b_s38 (.cells #[.int .i64 on.p.num,.int .i64 on.p.yr,.int .u8 on.p.half,.int .u8 on.p.sec,.int .i64 on.p.cyc,(.slice on.ad on.n on.c)] 46 (0,0)))::MZ732):=hD;
              replace hf:Fr a 115 [] ((76,.int .i64 fa)::(77,.int .i64 fb)::LZ732):=hf
              refine O.val (v:=.int .i64 ((max ia ib:Nat):Int)) hf rfl rfl rfl ((RunV.max rfl rfl).toV ( by exact mxV hia hib)) ?_
              clear hf a; intro a hf
              exact O.nil ⟨rfl,hf.to trivial,(gt (d:=78) hf rfl rfl),hD⟩
            · intro k s g w h1_ h2_ hsp hD a hf
              obtain ⟨b_s38,wv1,wv2,v41⟩:=g
              rcases k with _ | _ | k
              · have hS:St w0 w noX BZ732 (condA (s 10) (pt b_s38 (.cells #[.int .i64 on.p.num,.int .i64 on.p.yr,.int .u8 on.p.half,.int .u8 on.p.sec,.int .i64 on.p.cyc,(.slice on.ad on.n on.c)] 46 (0,0)))::MZ732):=hD;
                replace hf:Fr a 115 [] LZ732:=hf
                refine O.val hf rfl rfl rfl (RunV.move rfl) ?_
                clear hf a; intro a hf
                exact O.nil ⟨rfl,hf.to trivial,(gt (d:=80) hf rfl rfl),hD⟩
              · have hS:St w0 w noX BZ732 (sl 46 6 wv1 ((delR os (max ia ib)).length) (encs eO (delR os (max ia ib)))::condA (s 10) (pt b_s38 (.cells #[.int .i64 on.p.num,.int .i64 on.p.yr,.int .u8 on.p.half,.int .u8 on.p.sec,.int .i64 on.p.cyc,(.slice on.ad on.n on.c)] 46 (0,0)))::MZ732):=hD;
                replace hf:Fr a 115 [] LZ732:=hf
                refine O.val hf rfl rfl rfl (RunV.move rfl) ?_
                clear hf a; intro a hf
                exact O.nil ⟨rfl,hf.to trivial,(gt (d:=80) hf rfl rfl),hD⟩
              · exact absurd h2_ (by simp)
            · intro k s g w h1_ h2_ hsp hD a hf
              obtain ⟨b_s38,wv1,wv2,v41⟩:=g
              rcases k with _ | _ | k
              · have hS:St w0 w noX BZ732 (condA (s 10) (pt b_s38 (.cells #[.int .i64 on.p.num,.int .i64 on.p.yr,.int .u8 on.p.half,.int .u8 on.p.sec,.int .i64 on.p.cyc,(.slice on.ad on.n on.c)] 46 (0,0)))::MZ732):=hD;
                replace hf:Fr a 115 [] LZ732:=hf
                refine O.val hf rfl rfl rfl (RunV.move rfl) ?_
                clear hf a; intro a hf
                exact O.nil ⟨rfl,hf.to trivial,(gt (d:=81) hf rfl rfl),hD⟩
              · have hS:St w0 w noX BZ732 (sl 46 6 wv1 ((delR os (max ia ib)).length) (encs eO (delR os (max ia ib)))::condA (s 10) (pt b_s38 (.cells #[.int .i64 on.p.num,.int .i64 on.p.yr,.int .u8 on.p.half,.int .u8 on.p.sec,.int .i64 on.p.cyc,(.slice on.ad on.n on.c)] 46 (0,0)))::MZ732):=hD;
                replace hf:Fr a 115 [] LZ732:=hf
                refine O.val hf rfl rfl rfl (RunV.move rfl) ?_
                clear hf a; intro a hf
                exact O.nil ⟨rfl,hf.to trivial,(gt (d:=81) hf rfl rfl),hD⟩
              · exact absurd h2_ (by simp)
            · intro k s g w h1_ h2_ hsp hD a hf
              obtain ⟨b_s38,wv1,wv2,v41⟩:=g
              rcases k with _ | _ | k
              · have hS:St w0 w noX BZ732 (condA (s 10) (pt b_s38 (.cells #[.int .i64 on.p.num,.int .i64 on.p.yr,.int .u8 on.p.half,.int .u8 on.p.sec,.int .i64 on.p.cyc,(.slice on.ad on.n on.c)] 46 (0,0)))::MZ732):=hD;
                replace hf:Fr a 115 [] ((80,.int .i64 fa)::(81,.int .i64 fb)::LZ732):=hf
                refine O.val (v:=.int .i64 ((min ia ib:Nat):Int)) hf rfl rfl rfl ((RunV.min rfl rfl).toV ( by exact mnV hia hib)) ?_
                clear hf a; intro a hf
                exact O.nil ⟨rfl,hf.to trivial,(gt (d:=82) hf rfl rfl),hD⟩
              · have hS:St w0 w noX BZ732 (sl 46 6 wv1 ((delR os (max ia ib)).length) (encs eO (delR os (max ia ib)))::condA (s 10) (pt b_s38 (.cells #[.int .i64 on.p.num,.int .i64 on.p.yr,.int .u8 on.p.half,.int .u8 on.p.sec,.int .i64 on.p.cyc,(.slice on.ad on.n on.c)] 46 (0,0)))::MZ732):=hD;
                replace hf:Fr a 115 [] ((80,.int .i64 fa)::(81,.int .i64 fb)::LZ732):=hf
                refine O.val (v:=.int .i64 ((min ia ib:Nat):Int)) hf rfl rfl rfl ((RunV.min rfl rfl).toV ( by exact mnV hia hib)) ?_
                clear hf a; intro a hf
                exact O.nil ⟨rfl,hf.to trivial,(gt (d:=82) hf rfl rfl),hD⟩
              · exact absurd h2_ (by simp)
            · intro k s g w h1_ h2_ hsp hD a hf
              obtain ⟨b_s38,wv1,wv2,v41⟩:=g
              rcases k with _ | _ | _ | k
              · have hS:St w0 w noX BZ732 (condA (s 10) (pt b_s38 (.cells #[.int .i64 on.p.num,.int .i64 on.p.yr,.int .u8 on.p.half,.int .u8 on.p.sec,.int .i64 on.p.cyc,(.slice on.ad on.n on.c)] 46 (0,0)))::MZ732):=hD;
                replace hf:Fr a 115 [] LZ732:=hf
                refine O.val hf rfl rfl rfl (RunV.loadN (cs':=#[.int .i64 on.p.num,.int .i64 on.p.yr,.int .u8 on.p.half,.int .u8 on.p.sec,.int .i64 on.p.cyc,(.slice on.ad on.n on.c)]) T_agg_46 T_size_46 rfl (hS.ptAt (i:=3) rfl) (Nat.le_of_ble_eq_true rfl) rfl) ?_
                clear hf a; intro a hf
                exact O.nil ⟨rfl,hf.to trivial,(gt (d:=84) hf rfl rfl),hD⟩
              · have hS:St w0 w noX BZ732 (sl 46 6 wv1 ((delR os (max ia ib)).length) (encs eO (delR os (max ia ib)))::condA (s 10) (pt b_s38 (.cells #[.int .i64 on.p.num,.int .i64 on.p.yr,.int .u8 on.p.half,.int .u8 on.p.sec,.int .i64 on.p.cyc,(.slice on.ad on.n on.c)] 46 (0,0)))::MZ732):=hD;
                replace hf:Fr a 115 [] LZ732:=hf
                refine O.val hf rfl rfl rfl (RunV.loadN (cs':=#[.int .i64 on.p.num,.int .i64 on.p.yr,.int .u8 on.p.half,.int .u8 on.p.sec,.int .i64 on.p.cyc,(.slice on.ad on.n on.c)]) T_agg_46 T_size_46 rfl (hS.ptAt (i:=4) rfl) (Nat.le_of_ble_eq_true rfl) rfl) ?_
                clear hf a; intro a hf
                exact O.nil ⟨rfl,hf.to trivial,(gt (d:=84) hf rfl rfl),hD⟩
              · have hS:St w0 w noX BZ732 (sl 46 6 wv2 ((delR (delR os (max ia ib)) (min ia ib)).length) (encs eO (delR (delR os (max ia ib)) (min ia ib)))::sl 46 6 wv1 ((delR os (max ia ib)).length) (encs eO (delR os (max ia ib)))::condA (s 10) (pt b_s38 (.cells #[.int .i64 on.p.num,.int .i64 on.p.yr,.int .u8 on.p.half,.int .u8 on.p.sec,.int .i64 on.p.cyc,(.slice on.ad on.n on.c)] 46 (0,0)))::MZ732):=hD;
                replace hf:Fr a 115 [] LZ732:=hf
                refine O.val hf rfl rfl rfl (RunV.loadN (cs':=#[.int .i64 on.p.num,.int .i64 on.p.yr,.int .u8 on.p.half,.int .u8 on.p.sec,.int .i64 on.p.cyc,(.slice on.ad on.n on.c)]) T_agg_46 T_size_46 rfl (hS.ptAt (i:=5) rfl) (Nat.le_of_ble_eq_true rfl) rfl) ?_
                clear hf a; intro a hf
                exact O.nil ⟨rfl,hf.to trivial,(gt (d:=84) hf rfl rfl),hD⟩
              · exact absurd h2_ (by simp)
            · intro k s g w h1_ h2_ hsp hD a hf
              obtain ⟨b_s38,wv1,wv2,v41⟩:=g
              obtain rfl:k=3:=Nat.le_antisymm h2_ h1_
              have ha_10:s 10=true:=hsp 10 (by simp)
              have hS:St w0 w noX BZ732 (sl 46 6 v41 (((delR (delR os (max ia ib)) (min ia ib))++[on]).length) (encs eO ((delR (delR os (max ia ib)) (min ia ib))++[on]))::sl 46 6 wv1 ((delR os (max ia ib)).length) (encs eO (delR os (max ia ib)))::pt b_s38 (.cells #[.int .i64 on.p.num,.int .i64 on.p.yr,.int .u8 on.p.half,.int .u8 on.p.sec,.int .i64 on.p.cyc,(.slice on.ad on.n on.c)] 46 (0,0))::MZ732):=hD;
              replace hS:St w0 w noX BZ732 (sl 46 6 v41 (((delR (delR os (max ia ib)) (min ia ib))++[on]).length) (encs eO ((delR (delR os (max ia ib)) (min ia ib))++[on]))::sl 46 6 wv1 ((delR os (max ia ib)).length) (encs eO (delR os (max ia ib)))::pt b_s38 (.cells #[.int .i64 on.p.num,.int .i64 on.p.yr,.int .u8 on.p.half,.int .u8 on.p.sec,.int .i64 on.p.cyc,(.slice on.ad on.n on.c)] 46 (0,0))::MZ732):=hS
              replace hf:Fr a 115 [] ((75,vo)::(76,.int .i64 fa)::(77,.int .i64 fb)::(78,.int .i64 ((max ia ib:Nat):Int))::(79,wv1)::(80,.int .i64 fa)::(81,.int .i64 fb)::(82,.int .i64 ((min ia ib:Nat):Int))::(83,wv2)::(84,.agg #[.int .i64 on.p.num,.int .i64 on.p.yr,.int .u8 on.p.half,.int .u8 on.p.sec,.int .i64 on.p.cyc,(.slice on.ad on.n on.c)])::(85,.slice (some ⟨b_s38,0,none⟩) 1 1)::(86,v41)::LZ732):=hf
              refine O.val hf rfl rfl rfl (RunV.assign rfl) ?_
              clear hf a; intro a hf
              exact O.nil ⟨rfl,hf.to trivial,(gt (d:=4) hf rfl rfl),hD⟩
            · intro k s g w h1_ h2_ hsp hD a hf
              obtain ⟨b_s38,wv1,wv2,v41⟩:=g
              obtain rfl:k=3:=Nat.le_antisymm h2_ h1_
              have ha_10:s 10=true:=hsp 10 (by simp)
              have hS:St w0 w noX BZ732 (sl 46 6 v41 (((delR (delR os (max ia ib)) (min ia ib))++[on]).length) (encs eO ((delR (delR os (max ia ib)) (min ia ib))++[on]))::sl 46 6 wv1 ((delR os (max ia ib)).length) (encs eO (delR os (max ia ib)))::pt b_s38 (.cells #[.int .i64 on.p.num,.int .i64 on.p.yr,.int .u8 on.p.half,.int .u8 on.p.sec,.int .i64 on.p.cyc,(.slice on.ad on.n on.c)] 46 (0,0))::MZ732):=hD;
              replace hS:St w0 w noX BZ732 (sl 46 6 v41 (((delR (delR os (max ia ib)) (min ia ib))++[on]).length) (encs eO ((delR (delR os (max ia ib)) (min ia ib))++[on]))::sl 46 6 wv1 ((delR os (max ia ib)).length) (encs eO (delR os (max ia ib)))::pt b_s38 (.cells #[.int .i64 on.p.num,.int .i64 on.p.yr,.int .u8 on.p.half,.int .u8 on.p.sec,.int .i64 on.p.cyc,(.slice on.ad on.n on.c)] 46 (0,0))::MZ732):=hS
              replace hf:Fr a 115 [] ((75,vo)::(76,.int .i64 fa)::(77,.int .i64 fb)::(78,.int .i64 ((max ia ib:Nat):Int))::(79,wv1)::(80,.int .i64 fa)::(81,.int .i64 fb)::(82,.int .i64 ((min ia ib:Nat):Int))::(83,wv2)::(84,.agg #[.int .i64 on.p.num,.int .i64 on.p.yr,.int .u8 on.p.half,.int .u8 on.p.sec,.int .i64 on.p.cyc,(.slice on.ad on.n on.c)])::(85,.slice (some ⟨b_s38,0,none⟩) 1 1)::(86,v41)::(4,v41)::LZ732):=hf
              refine O.val hf rfl rfl rfl (RunV.assign rfl) ?_
              clear hf a; intro a hf
              exact O.nil ⟨rfl,hf.to trivial,(gt (d:=5) hf rfl rfl),hD⟩
          · clear hf hf1 hS
            refine ⟨?_,?_,?_,trivial⟩
            · intro s g w hsp hD a hf
              obtain ⟨b_s38,wv1,wv2,v41⟩:=g
              have hS:St w0 w noX BZ732 (condA (s 10) (pt b_s38 (.cells #[.int .i64 on.p.num,.int .i64 on.p.yr,.int .u8 on.p.half,.int .u8 on.p.sec,.int .i64 on.p.cyc,(.slice on.ad on.n on.c)] 46 (0,0)))::MZ732):=hD;
              replace hf:Fr a 115 [] ((75,vo)::(78,.int .i64 ((max ia ib:Nat):Int))::LZ732):=hf
              clear hD
              refine O.callR hf rfl rfl rfl (RunE.call (av:=#[vo,.int .i64 ((max ia ib:Nat):Int)]) C_ok_60 rfl rfl rfl) (without_as vo os (max ia ib) _ (hS.rdAt (j:=0) rfl) hfit (by omega) (by omega) _ rfl) ?_
              clear hf a
              rintro wv1 w42 hS1 a hf
              replace hf:Fr a _ _ ((79,wv1)::_):=hf
              replace hS:=(hS.call hS1).eqM (N:=(sl 46 6 wv1 ((delR os (max ia ib)).length) (encs eO (delR os (max ia ib)))::condA (s 10) (pt b_s38 (.cells #[.int .i64 on.p.num,.int .i64 on.p.yr,.int .u8 on.p.half,.int .u8 on.p.sec,.int .i64 on.p.cyc,(.slice on.ad on.n on.c)] 46 (0,0)))::MZ732)) rfl
              clear hS1
              exact O.nil ⟨rfl,(b_s38,wv1,wv2,v41),hf.to trivial,(gt (d:=79) hf rfl rfl),(fun j_ hj_ ha_=>match j_,hj_,ha_ with | 0,hj_,ha_=>rfl | 1,hj_,ha_=>rfl | 2,hj_,ha_=>rfl | 3,hj_,ha_=>rfl | 4,hj_,ha_=>absurd rfl hj_ | 5,hj_,ha_=>rfl | 6,hj_,ha_=>rfl | 7,hj_,ha_=>rfl | 8,hj_,ha_=>absurd ha_ (by decide) | 9,hj_,ha_=>rfl | 10,hj_,ha_=>rfl | 11,hj_,ha_=>absurd ha_ (by decide) | 12,hj_,ha_=>absurd ha_ (by decide) | 13,hj_,ha_=>absurd ha_ (by decide) | _+14,_,_=>rfl),hS⟩
            · intro s g w hsp hD a hf
              obtain ⟨b_s38,wv1,wv2,v41⟩:=g
              have hS:St w0 w noX BZ732 (sl 46 6 wv1 ((delR os (max ia ib)).length) (encs eO (delR os (max ia ib)))::condA (s 10) (pt b_s38 (.cells #[.int .i64 on.p.num,.int .i64 on.p.yr,.int .u8 on.p.half,.int .u8 on.p.sec,.int .i64 on.p.cyc,(.slice on.ad on.n on.c)] 46 (0,0)))::MZ732):=hD;
              replace hf:Fr a 115 [] ((79,wv1)::(82,.int .i64 ((min ia ib:Nat):Int))::LZ732):=hf
              clear hD
              refine O.callR hf rfl rfl rfl (RunE.call (av:=#[wv1,.int .i64 ((min ia ib:Nat):Int)]) C_ok_60 rfl rfl rfl) (without_as wv1 (delR os (max ia ib)) (min ia ib) _ (hS.slr (j:=0) rfl) (slOK.fit (hS.slAt (j:=0) rfl)) hd2 hd3 _ rfl) ?_
              clear hf a
              rintro wv2 w43 hS1 a hf
              replace hf:Fr a _ _ ((83,wv2)::_):=hf
              replace hS:=(hS.call hS1).eqM (N:=(sl 46 6 wv2 ((delR (delR os (max ia ib)) (min ia ib)).length) (encs eO (delR (delR os (max ia ib)) (min ia ib)))::sl 46 6 wv1 ((delR os (max ia ib)).length) (encs eO (delR os (max ia ib)))::condA (s 10) (pt b_s38 (.cells #[.int .i64 on.p.num,.int .i64 on.p.yr,.int .u8 on.p.half,.int .u8 on.p.sec,.int .i64 on.p.cyc,(.slice on.ad on.n on.c)] 46 (0,0)))::MZ732)) rfl
              clear hS1
              exact O.nil ⟨rfl,(b_s38,wv1,wv2,v41),hf.to trivial,(gt (d:=83) hf rfl rfl),(fun j_ hj_ ha_=>match j_,hj_,ha_ with | 0,hj_,ha_=>rfl | 1,hj_,ha_=>rfl | 2,hj_,ha_=>rfl | 3,hj_,ha_=>rfl | 4,hj_,ha_=>rfl | 5,hj_,ha_=>rfl | 6,hj_,ha_=>rfl | 7,hj_,ha_=>rfl | 8,hj_,ha_=>absurd rfl hj_ | 9,hj_,ha_=>rfl | 10,hj_,ha_=>rfl | 11,hj_,ha_=>absurd ha_ (by decide) | 12,hj_,ha_=>absurd ha_ (by decide) | 13,hj_,ha_=>absurd ha_ (by decide) | _+14,_,_=>rfl),hS⟩
            · intro s g w hsp hD a hf
              obtain ⟨b_s38,wv1,wv2,v41⟩:=g
              have ha_10:s 10=true:=hsp 10 (by simp)
              have hS:St w0 w noX BZ732 (sl 46 6 wv2 ((delR (delR os (max ia ib)) (min ia ib)).length) (encs eO (delR (delR os (max ia ib)) (min ia ib)))::sl 46 6 wv1 ((delR os (max ia ib)).length) (encs eO (delR os (max ia ib)))::condA (s 10) (pt b_s38 (.cells #[.int .i64 on.p.num,.int .i64 on.p.yr,.int .u8 on.p.half,.int .u8 on.p.sec,.int .i64 on.p.cyc,(.slice on.ad on.n on.c)] 46 (0,0)))::MZ732):=hD; rw [ha_10] at hS
              replace hS:St w0 w noX BZ732 (sl 46 6 wv2 ((delR (delR os (max ia ib)) (min ia ib)).length) (encs eO (delR (delR os (max ia ib)) (min ia ib)))::sl 46 6 wv1 ((delR os (max ia ib)).length) (encs eO (delR os (max ia ib)))::pt b_s38 (.cells #[.int .i64 on.p.num,.int .i64 on.p.yr,.int .u8 on.p.half,.int .u8 on.p.sec,.int .i64 on.p.cyc,(.slice on.ad on.n on.c)] 46 (0,0))::MZ732):=hS
              replace hf:Fr a 115 [] ((83,wv2)::(85,.slice (some ⟨b_s38,0,none⟩) 1 1)::LZ732):=hf
              clear hD
              refine O.append1 (j:=0) (jj:=2) hf hS rfl rfl T_elem_39 T_size_46 T_bytes_46 T_zero_46 rfl rfl rfl rfl rfl rfl rfl rfl (by unfold maxLen; omega) (by omega) ?_
              clear hf hS a; intro v44 w a hS hf
              replace hS:=hS.eqM (N:=(sl 46 6 v44 ((delR (delR os (max ia ib)) (min ia ib)).length+1) (encs eO (delR (delR os (max ia ib)) (min ia ib))++[.int .i64 on.p.num,.int .i64 on.p.yr,.int .u8 on.p.half,.int .u8 on.p.sec,.int .i64 on.p.cyc,(.slice on.ad on.n on.c)])::sl 46 6 wv1 ((delR os (max ia ib)).length) (encs eO (delR os (max ia ib)))::pt b_s38 (.cells #[.int .i64 on.p.num,.int .i64 on.p.yr,.int .u8 on.p.half,.int .u8 on.p.sec,.int .i64 on.p.cyc,(.slice on.ad on.n on.c)] 46 (0,0))::MZ732)) rfl
              replace hS:=hS.reE (i:=0) (M':=(sl 46 6 v44 (((delR (delR os (max ia ib)) (min ia ib))++[on]).length) (encs eO ((delR (delR os (max ia ib)) (min ia ib))++[on]))::sl 46 6 wv1 ((delR os (max ia ib)).length) (encs eO (delR os (max ia ib)))::pt b_s38 (.cells #[.int .i64 on.p.num,.int .i64 on.p.yr,.int .u8 on.p.half,.int .u8 on.p.sec,.int .i64 on.p.cyc,(.slice on.ad on.n on.c)] 46 (0,0))::MZ732)) rfl (sl_snoc (enc:=eO) (l:=(delR (delR os (max ia ib)) (min ia ib))) (x:=on)) rfl
              exact O.nil ⟨rfl,(b_s38,wv1,wv2,v44),hf.to trivial,(gt (d:=86) hf rfl rfl),(fun j_ hj_ ha_=>match j_,hj_,ha_ with | 0,hj_,ha_=>rfl | 1,hj_,ha_=>rfl | 2,hj_,ha_=>rfl | 3,hj_,ha_=>rfl | 4,hj_,ha_=>rfl | 5,hj_,ha_=>rfl | 6,hj_,ha_=>rfl | 7,hj_,ha_=>rfl | 8,hj_,ha_=>rfl | 9,hj_,ha_=>rfl | 10,hj_,ha_=>rfl | 11,hj_,ha_=>absurd rfl hj_ | 12,hj_,ha_=>absurd ha_ (by decide) | 13,hj_,ha_=>absurd ha_ (by decide) | _+14,_,_=>rfl),hS⟩
          · clear hf hf1 hS
            refine ⟨?_,trivial⟩
            · intro k s g w h1_ h2_ hs0 hD a hf
              obtain ⟨b_s38,wv1,wv2,v41⟩:=g
              rcases k with _ | _ | _ | k
              · have hS:St w0 w noX BZ732 (condA (s 10) (pt b_s38 (.cells #[.int .i64 on.p.num,.int .i64 on.p.yr,.int .u8 on.p.half,.int .u8 on.p.sec,.int .i64 on.p.cyc,(.slice on.ad on.n on.c)] 46 (0,0)))::MZ732):=hD; clear hD
                replace hf:Fr a 115 [] ((84,.agg #[.int .i64 on.p.num,.int .i64 on.p.yr,.int .u8 on.p.half,.int .u8 on.p.sec,.int .i64 on.p.cyc,(.slice on.ad on.n on.c)])::LZ732):=hf
                refine O.buildC (j:=0) (cs':=#[.int .i64 on.p.num,.int .i64 on.p.yr,.int .u8 on.p.half,.int .u8 on.p.sec,.int .i64 on.p.cyc,(.slice on.ad on.n on.c)]) (zs:=#[.int .i64 0,.int .i64 0,.int .u8 0,.int .u8 0,.int .i64 0,.slice none 0 0]) hf hS rfl hs0 rfl rfl T_elem_39 T_size_46 T_zero_46 rfl rfl (by kernel_rfl) rfl (by kernel_rfl) ?_; clear hf hS a; intro b_s45 w a hS hf
                exact O.nil ⟨rfl,(b_s45,wv1,wv2,v41),hf.to trivial,(gt (d:=85) hf rfl rfl),(fun j_ hj_ ha_=>match j_,hj_,ha_ with | 0,hj_,ha_=>rfl | 1,hj_,ha_=>rfl | 2,hj_,ha_=>rfl | 3,hj_,ha_=>rfl | 4,hj_,ha_=>rfl | 5,hj_,ha_=>rfl | 6,hj_,ha_=>rfl | 7,hj_,ha_=>rfl | 8,hj_,ha_=>rfl | 9,hj_,ha_=>rfl | 10,hj_,ha_=>absurd rfl hj_ | 11,hj_,ha_=>absurd ha_ (by decide) | 12,hj_,ha_=>absurd ha_ (by decide) | 13,hj_,ha_=>absurd ha_ (by decide) | _+14,_,_=>rfl),hS⟩
              · have hS:St w0 w noX BZ732 (sl 46 6 wv1 ((delR os (max ia ib)).length) (encs eO (delR os (max ia ib)))::condA (s 10) (pt b_s38 (.cells #[.int .i64 on.p.num,.int .i64 on.p.yr,.int .u8 on.p.half,.int .u8 on.p.sec,.int .i64 on.p.cyc,(.slice on.ad on.n on.c)] 46 (0,0)))::MZ732):=hD; clear hD
                replace hf:Fr a 115 [] ((84,.agg #[.int .i64 on.p.num,.int .i64 on.p.yr,.int .u8 on.p.half,.int .u8 on.p.sec,.int .i64 on.p.cyc,(.slice on.ad on.n on.c)])::LZ732):=hf
                refine O.buildC (j:=1) (cs':=#[.int .i64 on.p.num,.int .i64 on.p.yr,.int .u8 on.p.half,.int .u8 on.p.sec,.int .i64 on.p.cyc,(.slice on.ad on.n on.c)]) (zs:=#[.int .i64 0,.int .i64 0,.int .u8 0,.int .u8 0,.int .i64 0,.slice none 0 0]) hf hS rfl hs0 rfl rfl T_elem_39 T_size_46 T_zero_46 rfl rfl (by kernel_rfl) rfl (by kernel_rfl) ?_; clear hf hS a; intro b_s46 w a hS hf
                exact O.nil ⟨rfl,(b_s46,wv1,wv2,v41),hf.to trivial,(gt (d:=85) hf rfl rfl),(fun j_ hj_ ha_=>match j_,hj_,ha_ with | 0,hj_,ha_=>rfl | 1,hj_,ha_=>rfl | 2,hj_,ha_=>rfl | 3,hj_,ha_=>rfl | 4,hj_,ha_=>rfl | 5,hj_,ha_=>rfl | 6,hj_,ha_=>rfl | 7,hj_,ha_=>rfl | 8,hj_,ha_=>rfl | 9,hj_,ha_=>rfl | 10,hj_,ha_=>absurd rfl hj_ | 11,hj_,ha_=>absurd ha_ (by decide) | 12,hj_,ha_=>absurd ha_ (by decide) | 13,hj_,ha_=>absurd ha_ (by decide) | _+14,_,_=>rfl),hS⟩
              · have hS:St w0 w noX BZ732 (sl 46 6 wv2 ((delR (delR os (max ia ib)) (min ia ib)).length) (encs eO (delR (delR os (max ia ib)) (min ia ib)))::sl 46 6 wv1 ((delR os (max ia ib)).length) (encs eO (delR os (max ia ib)))::condA (s 10) (pt b_s38 (.cells #[.int .i64 on.p.num,.int .i64 on.p.yr,.int .u8 on.p.half,.int .u8 on.p.sec,.int .i64 on.p.cyc,(.slice on.ad on.n on.c)] 46 (0,0)))::MZ732):=hD; clear hD
                replace hf:Fr a 115 [] ((84,.agg #[.int .i64 on.p.num,.int .i64 on.p.yr,.int .u8 on.p.half,.int .u8 on.p.sec,.int .i64 on.p.cyc,(.slice on.ad on.n on.c)])::LZ732):=hf
                refine O.buildC (j:=2) (cs':=#[.int .i64 on.p.num,.int .i64 on.p.yr,.int .u8 on.p.half,.int .u8 on.p.sec,.int .i64 on.p.cyc,(.slice on.ad on.n on.c)]) (zs:=#[.int .i64 0,.int .i64 0,.int .u8 0,.int .u8 0,.int .i64 0,.slice none 0 0]) hf hS rfl hs0 rfl rfl T_elem_39 T_size_46 T_zero_46 rfl rfl (by kernel_rfl) rfl (by kernel_rfl) ?_; clear hf hS a; intro b_s47 w a hS hf
                exact O.nil ⟨rfl,(b_s47,wv1,wv2,v41),hf.to trivial,(gt (d:=85) hf rfl rfl),(fun j_ hj_ ha_=>match j_,hj_,ha_ with | 0,hj_,ha_=>rfl | 1,hj_,ha_=>rfl | 2,hj_,ha_=>rfl | 3,hj_,ha_=>rfl | 4,hj_,ha_=>rfl | 5,hj_,ha_=>rfl | 6,hj_,ha_=>rfl | 7,hj_,ha_=>rfl | 8,hj_,ha_=>rfl | 9,hj_,ha_=>rfl | 10,hj_,ha_=>absurd rfl hj_ | 11,hj_,ha_=>absurd ha_ (by decide) | 12,hj_,ha_=>absurd ha_ (by decide) | 13,hj_,ha_=>absurd ha_ (by decide) | _+14,_,_=>rfl),hS⟩
              · exact absurd h2_ (by simp)
          clear hf hf1 hS; intro s g a w hs_ hf hD
          obtain ⟨b_s38,wv1,wv2,v41⟩:=g
          have ha_10:s 10=true:=hs_ 10 (by simp)
          have hS:St w0 w noX BZ732 (sl 46 6 v41 (((delR (delR os (max ia ib)) (min ia ib))++[on]).length) (encs eO ((delR (delR os (max ia ib)) (min ia ib))++[on]))::sl 46 6 wv1 ((delR os (max ia ib)).length) (encs eO (delR os (max ia ib)))::pt b_s38 (.cells #[.int .i64 on.p.num,.int .i64 on.p.yr,.int .u8 on.p.half,.int .u8 on.p.sec,.int .i64 on.p.cyc,(.slice on.ad on.n on.c)] 46 (0,0))::MZ732):=hD; clear hD
          replace hf:Fr a 115 [] ((75,vo)::(76,.int .i64 fa)::(77,.int .i64 fb)::(78,.int .i64 ((max ia ib:Nat):Int))::(79,wv1)::(80,.int .i64 fa)::(81,.int .i64 fb)::(82,.int .i64 ((min ia ib:Nat):Int))::(83,wv2)::(84,.agg #[.int .i64 on.p.num,.int .i64 on.p.yr,.int .u8 on.p.half,.int .u8 on.p.sec,.int .i64 on.p.cyc,(.slice on.ad on.n on.c)])::(85,.slice (some ⟨b_s38,0,none⟩) 1 1)::(86,v41)::(4,v41)::(5,.int .i64 0)::LZ732):=hf
          refine k_seq ?_
          replace hf:Fr a 115 [] [(0,vo),(3,.pointer (some ⟨b_c1,0,none⟩)),(4,v41),(5,.int .i64 0),(6,.int .i64 fa),(7,.int .i64 fb)]:=hf.to ⟨rfl,rfl,rfl,rfl,rfl,rfl,trivial⟩
          refine W.ret ?_
          refine k_blk_ret ?_
          refine k_then_ret ?_
          refine post2 hf rfl (ResOK.tmp rfl) (ResOK.tmp rfl) ?_
          obtain ⟨hS2,hon⟩:=St.obFin (hS.sub (N:=[sl 46 6 v41 (((delR (delR os (max ia ib)) (min ia ib))++[on]).length) (encs eO ((delR (delR os (max ia ib)) (min ia ib))++[on])),obF ((os.getD ia default).l++(os.getD ib default).l) on]) (.cons_cons _ (.cons _ (.cons _ (.cons_cons _ (.cons _ (.cons _ (.cons _ .slnil)))))))).noB
          exact ⟨(v41,0,((delR (delR os (max ia ib)) (min ia ib))++[on]),[on]),rfl,hS2,NextR.join hk2 (hfa▸hia) (hfb▸hib) hil hjl (nq (by rw [← hia,← hib]; exact hQ)) hon⟩
    · refine W.skip ?_
      refine k_blk_normal ?_
      refine k_seq ?_
      refine W.seq ?_
      refine W.seq ?_
      refine W.regionL (l:=[0,1]) rfl ?_
      refine O.val hf rfl rfl rfl (RunV.move rfl) ?_
      clear hf a; intro a hf
      refine O.val (v:=.bool (decide (fa<(0:Int)))) hf rfl rfl rfl (RunV.lss rfl rfl) ?_
      clear hf a; intro a hf
      refine O.nil ?_
      refine k_seq ?_
      replace hf:Fr a 115 [] [(0,vo),(3,.pointer (some ⟨b_c1,0,none⟩)),(4,.slice none 0 0),(5,.int .i64 0),(6,.int .i64 fa),(7,.int .i64 fb),(88,.bool (decide (fa<(0:Int))))]:=hf.to ⟨rfl,rfl,rfl,rfl,rfl,rfl,rfl,trivial⟩
      refine W.ifdI hf rfl (fun hA=>?_) (fun hA=>?_)
      · refine W.seq ?_
        refine W.regionL (l:=[0,1]) rfl ?_
        refine O.val hf rfl rfl rfl (RunV.assign rfl) ?_
        clear hf a; intro a hf
        refine O.val hf rfl rfl rfl (RunV.assign rfl) ?_
        clear hf a; intro a hf
        refine O.nil ?_
        refine k_seq ?_
        refine W.ret ?_
        refine k_then_ret ?_
        refine post2 hf rfl (ResOK.tmp rfl) (ResOK.tmp rfl) ?_
        have hS2:=(hS.sub (N:=[]) (List.nil_sublist _)).noB
        replace hS2:=St.bigNil (hS2.nilSl 46 6)
        exact ⟨(.slice none 0 0,6,[],[]),rfl,hS2,NextR.err (by decide) (by first | exact nx_j6 hk2 (by rw [← hfa,← hfb]; exact hJ) | exact nx_n6 hk1 hk2 (by rw [← hfa]; exact hA))⟩
      · refine W.skip ?_
        refine k_seq ?_
        refine W.seq ?_
        refine W.seq ?_
        refine W.regionL (l:=[0,1]) rfl ?_
        refine O.val hf rfl rfl rfl (RunV.move rfl) ?_
        clear hf a; intro a hf
        refine O.val (v:=.bool (decide (fb≥(0:Int)))) hf rfl rfl rfl (RunV.geq rfl rfl) ?_
        clear hf a; intro a hf
        refine O.nil ?_
        refine k_seq ?_
        replace hf:Fr a 115 [] [(0,vo),(3,.pointer (some ⟨b_c1,0,none⟩)),(4,.slice none 0 0),(5,.int .i64 0),(6,.int .i64 fa),(90,.bool (decide (fb≥(0:Int))))]:=hf.to ⟨rfl,rfl,rfl,rfl,rfl,rfl,trivial⟩
        refine W.ifdI hf rfl (fun hB=>?_) (fun hB=>?_)
        · refine W.seq ?_
          refine W.regionL (l:=[0,1]) rfl ?_
          refine O.val hf rfl rfl rfl (RunV.assign rfl) ?_
          clear hf a; intro a hf
          refine O.val hf rfl rfl rfl (RunV.assign rfl) ?_
          clear hf a; intro a hf
          refine O.nil ?_
          refine k_seq ?_
          refine W.ret ?_
          refine k_then_ret ?_
          refine post2 hf rfl (ResOK.tmp rfl) (ResOK.tmp rfl) ?_
          have hS2:=(hS.sub (N:=[]) (List.nil_sublist _)).noB
          replace hS2:=St.bigNil (hS2.nilSl 46 6)
          exact ⟨(.slice none 0 0,14,[],[]),rfl,hS2,NextR.err (by decide) (by first | exact nx_add_err hk1 (by rw [← hfa]; exact hA) | exact nx_n14 hk1 hk2 (by rw [← hfa]; exact hA) (by rw [← hfb]; exact hB))⟩
        · refine W.skip ?_
          refine k_seq ?_
          refine W.seq ?_
          refine W.seq ?_
          refine W.regionL (l:=[0,1,2,3,4,5,6]) rfl ?_
          obtain ⟨ia,hia,hil⟩:∃ i:Nat,fa=(i:Int)∧i<os.length:=by
            rcases hra with h | h
            · omega
            · exact h
          have hlA:=hzl _ (getO hil)
          have hvA:=hv _ (getO hil)
          refine O.val hf rfl rfl rfl (RunV.move rfl) ?_
          clear hf a; intro a hf
          refine O.val hf rfl rfl rfl (RunV.move rfl) ?_
          clear hf a; intro a hf
          refine O.val hf rfl rfl rfl (RunV.ixV (j:=ia) (m:=ia*6) T_elem_39 T_size_46 rfl rfl (hS.rdAt (j:=0) rfl) hia (by omega) rfl) ?_
          clear hf a; intro a hf
          refine O.val hf rfl rfl rfl (RunV.ixF T_field_46_0 rfl (hS.rdAt (j:=0) rfl) (by omega) rfl) ?_
          clear hf a; intro a hf
          refine O.val hf rfl rfl rfl (RunV.ixF T_field_24_0 rfl (hS.rdAt (j:=0) rfl) (by omega) rfl) ?_
          clear hf a; intro a hf
          refine O.val hf rfl rfl rfl (RunV.ldG2 (j:=ia) (o:=0) (sz:=6) (enc:=eO) (l:=os) T_agg_3 eO_len rfl (hS.rdAt (j:=0) rfl) (by omega) rfl rfl) ?_
          clear hf a; intro a hf
          refine O.val (v:=.bool (decide (((os.getD ia default).p.num)>(0:Int)))) hf rfl rfl rfl (RunV.gtr rfl rfl) ?_
          clear hf a; intro a hf
          refine O.nil ?_
          refine k_seq ?_
          replace hf:Fr a 115 [] [(0,vo),(3,.pointer (some ⟨b_c1,0,none⟩)),(4,.slice none 0 0),(5,.int .i64 0),(6,.int .i64 fa),(97,.bool (decide (((os.getD ia default).p.num)>(0:Int))))]:=hf.to ⟨rfl,rfl,rfl,rfl,rfl,rfl,trivial⟩
          refine W.ifdI hf rfl (fun hN=>?_) (fun hN=>?_)
          · refine W.seq ?_
            refine W.regionL (l:=[0,1]) rfl ?_
            refine O.val hf rfl rfl rfl (RunV.assign rfl) ?_
            clear hf a; intro a hf
            refine O.val hf rfl rfl rfl (RunV.assign rfl) ?_
            clear hf a; intro a hf
            refine O.nil ?_
            refine k_seq ?_
            refine W.ret ?_
            refine k_then_ret ?_
            refine post2 hf rfl (ResOK.tmp rfl) (ResOK.tmp rfl) ?_
            have hS2:=(hS.sub (N:=[]) (List.nil_sublist _)).noB
            replace hS2:=St.bigNil (hS2.nilSl 46 6)
            exact ⟨(.slice none 0 0,36,[],[]),rfl,hS2,NextR.err (by decide) (by first | exact nx_n36 hk1 hk2 (by rw [← hfa]; exact hA) (by rw [← hfb]; exact hB) (by rw [← hfa,hia,Int.toNat_natCast,prO_getD hil]; exact hN) | exact nx_j36 hk2 (by rw [← hfa,← hfb]; exact hJn) (by rw [← hfa,← hfb,hia,hib,Int.toNat_natCast,Int.toNat_natCast,prO_getD hil,prO_getD hjl]; rw [hia,hib] at hQ; exact hQ))⟩
          · refine W.skip ?_
            refine k_seq ?_
            refine W.seq ?_
            have hd1:=delR_len (l:=os) (i:=ia) (by omega)
            have hf1:Fr a 115 [] []:=hf.to trivial
            replace hf:Fr a 115 [] [(0,vo),(3,.pointer (some ⟨b_c1,0,none⟩)),(6,.int .i64 fa)]:=hf.to ⟨rfl,rfl,rfl,trivial⟩
            replace hS:=hS.drew
            replace hS:=hS.emp
            replace hS:=hS.emp
            let LZ1031:List (Nat × Value):=[(0,vo),(3,.pointer (some ⟨b_c1,0,none⟩)),(6,.int .i64 fa)]
            let MZ1031:List Asr:=[pt b_c1 (.cells #[.int .u8 c.kind,.int .i64 c.a.num,.int .i64 c.a.yr,.int .u8 c.a.half,.int .u8 c.a.sec,.int .i64 c.a.cyc,.int .i64 c.b.num,.int .i64 c.b.yr,.int .u8 c.b.half,.int .u8 c.b.sec,.int .i64 c.b.cyc,.int .i64 c.n] 26 (0,0))]
            let BZ1031:List Asr:=[rdv 6 vo os.length (encs eO os),allA (os.map rdOb)]
            refine W.drawC (γ:=(Nat) × (Nat) × (Value) × (Value) × (Value) × (Ob) × (Nat) × (Value)) (L0:=LZ1031) (L1:=[]) (0,0,default,default,default,default,0,default) [2,9,13,14,15,16] [3,12] [0,1,4,5,6,7,8,10,11,17,18] (fun i=>match i with | 2=>[0,1] | 6=>[4,5] | 7=>[6] | 8=>[7] | 9=>[2,3,8] | 11=>[10] | 12=>[11] | 13=>[9,12] | 14=>[13] | 15=>[14] | 16=>[2,14,15] | 17=>[0,1,2,3,4,5,6,7,8,9,10,11,12,13,14,15,16] | 18=>[0,1,2,3,4,5,6,7,8,9,10,11,12,13,14,15,16,17] | _=>[]) (fun i=>match i with | 9=>[2,3] | 13=>[2,9,3,12] | 14=>[2,9,13,3,12] | 15=>[2,9,13,14,3,12] | 16=>[2,9,13,14,15,3,12] | 17=>[2,9,13,14,15,16,3,12] | 18=>[2,9,13,14,15,16,3,12] | _=>[]) (fun i=>match i with | 0=>[2,9,13,14,15,16] | 1=>[2,9,13,14,15,16] | 2=>[9,13,14,15,16] | 3=>[9,13,14,15,16] | 4=>[9,13,14,15,16] | 5=>[9,13,14,15,16] | 6=>[9,13,14,15,16] | 7=>[9,13,14,15,16] | 8=>[9,13,14,15,16] | 9=>[13,14,15,16] | 10=>[13,14,15,16] | 11=>[13,14,15,16] | 12=>[13,14,15,16] | 13=>[14,15,16] | 14=>[15,16] | 15=>[16] | _=>[]) (fun i=>match i with | 9=>[3] | 13=>[3,12] | 14=>[3,12] | 15=>[3,12] | 16=>[3,12] | 17=>[3,12] | 18=>[3,12] | _=>[]) (fun i=>match i with | 2=>[9,13,14,15,16,17,18] | 3=>[9,13,14,15,16,17,18] | 9=>[13,14,15,16,17,18] | 12=>[13,14,15,16,17,18] | 13=>[14,15,16,17,18] | 14=>[15,16,17,18] | 15=>[16,17,18] | 16=>[17,18] | _=>[]) (fun _=>[]) (fun i=>match i with | 9=>1 | 13=>2 | 14=>3 | 15=>4 | 16=>5 | 17=>6 | 18=>6 | _=>0) (fun i=>match i with | 2=>1 | 3=>1 | 4=>1 | 5=>1 | 6=>1 | 7=>1 | 8=>1 | 9=>2 | 10=>2 | 11=>2 | 12=>2 | 13=>3 | 14=>4 | 15=>5 | 16=>6 | 17=>6 | 18=>6 | _=>0) (fun (g:(Nat) × (Nat) × (Value) × (Value) × (Value) × (Ob) × (Nat) × (Value)) j=>match g,j with | ⟨b_s51,b_s52,wv1,v54,v55,on,b_s57,v58⟩,0=>vo | ⟨b_s51,b_s52,wv1,v54,v55,on,b_s57,v58⟩,1=>.int .i64 fa | ⟨b_s51,b_s52,wv1,v54,v55,on,b_s57,v58⟩,2=>wv1 | ⟨b_s51,b_s52,wv1,v54,v55,on,b_s57,v58⟩,3=>.slice (some ⟨b_s51,0,none⟩) 0 0 | ⟨b_s51,b_s52,wv1,v54,v55,on,b_s57,v58⟩,4=>vo | ⟨b_s51,b_s52,wv1,v54,v55,on,b_s57,v58⟩,5=>.int .i64 fa | ⟨b_s51,b_s52,wv1,v54,v55,on,b_s57,v58⟩,6=>ix vo (ia*6) | ⟨b_s51,b_s52,wv1,v54,v55,on,b_s57,v58⟩,7=>ix vo (ia*6+5) | ⟨b_s51,b_s52,wv1,v54,v55,on,b_s57,v58⟩,8=>(os.getD ia default).v | ⟨b_s51,b_s52,wv1,v54,v55,on,b_s57,v58⟩,9=>v54 | ⟨b_s51,b_s52,wv1,v54,v55,on,b_s57,v58⟩,10=>.pointer (some ⟨b_c1,6,none⟩) | ⟨b_s51,b_s52,wv1,v54,v55,on,b_s57,v58⟩,11=>.agg #[.int .i64 c.b.num,.int .i64 c.b.yr,.int .u8 c.b.half,.int .u8 c.b.sec,.int .i64 c.b.cyc] | ⟨b_s51,b_s52,wv1,v54,v55,on,b_s57,v58⟩,12=>.slice (some ⟨b_s52,0,none⟩) 1 1 | ⟨b_s51,b_s52,wv1,v54,v55,on,b_s57,v58⟩,13=>v55 | ⟨b_s51,b_s52,wv1,v54,v55,on,b_s57,v58⟩,14=>.agg #[.int .i64 on.p.num,.int .i64 on.p.yr,.int .u8 on.p.half,.int .u8 on.p.sec,.int .i64 on.p.cyc,(.slice on.ad on.n on.c)] | ⟨b_s51,b_s52,wv1,v54,v55,on,b_s57,v58⟩,15=>.slice (some ⟨b_s57,0,none⟩) 1 1 | ⟨b_s51,b_s52,wv1,v54,v55,on,b_s57,v58⟩,16=>v58 | ⟨b_s51,b_s52,wv1,v54,v55,on,b_s57,v58⟩,17=>v58 | ⟨b_s51,b_s52,wv1,v54,v55,on,b_s57,v58⟩,18=>.int .i64 0 | _,_=>undef) (fun k s (g:(Nat) × (Nat) × (Value) × (Value) × (Value) × (Ob) × (Nat) × (Value)) w=>match k,g with | 0,⟨b_s51,b_s52,wv1,v54,v55,on,b_s57,v58⟩=>St w0 w noX BZ1031 (condA (s 12) (pt b_s52 (.cells #[.int .i64 c.b.num,.int .i64 c.b.yr,.int .u8 c.b.half,.int .u8 c.b.sec,.int .i64 c.b.cyc] 24 (0,0)))::condA (s 3) (sl 24 5 (.slice (some ⟨b_s51,0,none⟩) 0 0) 0 ([]))::MZ1031) | 1,⟨b_s51,b_s52,wv1,v54,v55,on,b_s57,v58⟩=>St w0 w noX BZ1031 (sl 46 6 wv1 ((delR os ia).length) (encs eO (delR os ia))::condA (s 12) (pt b_s52 (.cells #[.int .i64 c.b.num,.int .i64 c.b.yr,.int .u8 c.b.half,.int .u8 c.b.sec,.int .i64 c.b.cyc] 24 (0,0)))::condA (s 3) (sl 24 5 (.slice (some ⟨b_s51,0,none⟩) 0 0) 0 ([]))::MZ1031) | 2,⟨b_s51,b_s52,wv1,v54,v55,on,b_s57,v58⟩=>St w0 w noX BZ1031 (sl 46 6 wv1 ((delR os ia).length) (encs eO (delR os ia))::condA (s 12) (pt b_s52 (.cells #[.int .i64 c.b.num,.int .i64 c.b.yr,.int .u8 c.b.half,.int .u8 c.b.sec,.int .i64 c.b.cyc] 24 (0,0)))::sl 24 5 v54 (((os.getD ia default).l).length) (encs eD ((os.getD ia default).l))::MZ1031) | 3,⟨b_s51,b_s52,wv1,v54,v55,on,b_s57,v58⟩=>St w0 w noX BZ1031 (sl 46 6 wv1 ((delR os ia).length) (encs eO (delR os ia))::pt b_s52 (.cells #[.int .i64 c.b.num,.int .i64 c.b.yr,.int .u8 c.b.half,.int .u8 c.b.sec,.int .i64 c.b.cyc] 24 (0,0))::sl 24 5 v55 ((((os.getD ia default).l)++[c.b]).length) (encs eD (((os.getD ia default).l)++[c.b]))::MZ1031) | 4,⟨b_s51,b_s52,wv1,v54,v55,on,b_s57,v58⟩=>St w0 w noX BZ1031 (obF ((os.getD ia default).l++[c.b]) on::sl 46 6 wv1 ((delR os ia).length) (encs eO (delR os ia))::pt b_s52 (.cells #[.int .i64 c.b.num,.int .i64 c.b.yr,.int .u8 c.b.half,.int .u8 c.b.sec,.int .i64 c.b.cyc] 24 (0,0))::sl 24 5 v55 ((((os.getD ia default).l)++[c.b]).length) (encs eD (((os.getD ia default).l)++[c.b]))::MZ1031) | 5,⟨b_s51,b_s52,wv1,v54,v55,on,b_s57,v58⟩=>St w0 w noX BZ1031 (pt b_s57 (.cells #[.int .i64 on.p.num,.int .i64 on.p.yr,.int .u8 on.p.half,.int .u8 on.p.sec,.int .i64 on.p.cyc,(.slice on.ad on.n on.c)] 46 (0,0))::obF ((os.getD ia default).l++[c.b]) on::sl 46 6 wv1 ((delR os ia).length) (encs eO (delR os ia))::pt b_s52 (.cells #[.int .i64 c.b.num,.int .i64 c.b.yr,.int .u8 c.b.half,.int .u8 c.b.sec,.int .i64 c.b.cyc] 24 (0,0))::sl 24 5 v55 ((((os.getD ia default).l)++[c.b]).length) (encs eD (((os.getD ia default).l)++[c.b]))::MZ1031) | _,⟨b_s51,b_s52,wv1,v54,v55,on,b_s57,v58⟩=>St w0 w noX BZ1031 (pt b_s57 (.cells #[.int .i64 on.p.num,.int .i64 on.p.yr,.int .u8 on.p.half,.int .u8 on.p.sec,.int .i64 on.p.cyc,(.slice on.ad on.n on.c)] 46 (0,0))::obF ((os.getD ia default).l++[c.b]) on::sl 46 6 v58 (((delR os ia)++[on]).length) (encs eO ((delR os ia)++[on]))::pt b_s52 (.cells #[.int .i64 c.b.num,.int .i64 c.b.yr,.int .u8 c.b.half,.int .u8 c.b.sec,.int .i64 c.b.cyc] 24 (0,0))::sl 24 5 v55 ((((os.getD ia default).l)++[c.b]).length) (encs eD (((os.getD ia default).l)++[c.b]))::MZ1031)) P_mixed (by kernel_rfl) (by kernel_rfl) (by kernel_rfl) hf hf1 hS ?_ ?_ ?_ ?_
            · clear hf hf1 hS
              refine ⟨?_,?_,?_,?_,?_,?_,?_,?_,?_,?_,?_,trivial⟩
              · intro k s g w h1_ h2_ hsp hD a hf
                obtain ⟨b_s51,b_s52,wv1,v54,v55,on,b_s57,v58⟩:=g
                obtain rfl:k=0:=Nat.le_antisymm h2_ h1_
                have hS:St w0 w noX BZ1031 (condA (s 12) (pt b_s52 (.cells #[.int .i64 c.b.num,.int .i64 c.b.yr,.int .u8 c.b.half,.int .u8 c.b.sec,.int .i64 c.b.cyc] 24 (0,0)))::condA (s 3) (sl 24 5 (.slice (some ⟨b_s51,0,none⟩) 0 0) 0 ([]))::MZ1031):=hD;
                replace hf:Fr a 115 [] LZ1031:=hf
                refine O.val hf rfl rfl rfl (RunV.move rfl) ?_
                clear hf a; intro a hf
                exact O.nil ⟨rfl,hf.to trivial,(gt (d:=98) hf rfl rfl),hD⟩
              · intro k s g w h1_ h2_ hsp hD a hf
                obtain ⟨b_s51,b_s52,wv1,v54,v55,on,b_s57,v58⟩:=g
                obtain rfl:k=0:=Nat.le_antisymm h2_ h1_
                have hS:St w0 w noX BZ1031 (condA (s 12) (pt b_s52 (.cells #[.int .i64 c.b.num,.int .i64 c.b.yr,.int .u8 c.b.half,.int .u8 c.b.sec,.int .i64 c.b.cyc] 24 (0,0)))::condA (s 3) (sl 24 5 (.slice (some ⟨b_s51,0,none⟩) 0 0) 0 ([]))::MZ1031):=hD;
                replace hf:Fr a 115 [] LZ1031:=hf
                refine O.val hf rfl rfl rfl (RunV.move rfl) ?_
                clear hf a; intro a hf
                exact O.nil ⟨rfl,hf.to trivial,(gt (d:=99) hf rfl rfl),hD⟩
              · intro k s g w h1_ h2_ hsp hD a hf
                obtain ⟨b_s51,b_s52,wv1,v54,v55,on,b_s57,v58⟩:=g
                rcases k with _ | _ | k
                · have hS:St w0 w noX BZ1031 (condA (s 12) (pt b_s52 (.cells #[.int .i64 c.b.num,.int .i64 c.b.yr,.int .u8 c.b.half,.int .u8 c.b.sec,.int .i64 c.b.cyc] 24 (0,0)))::condA (s 3) (sl 24 5 (.slice (some ⟨b_s51,0,none⟩) 0 0) 0 ([]))::MZ1031):=hD;
                  replace hf:Fr a 115 [] LZ1031:=hf
                  refine O.val hf rfl rfl rfl (RunV.move rfl) ?_
                  clear hf a; intro a hf
                  exact O.nil ⟨rfl,hf.to trivial,(gt (d:=102) hf rfl rfl),hD⟩
                · have hS:St w0 w noX BZ1031 (sl 46 6 wv1 ((delR os ia).length) (encs eO (delR os ia))::condA (s 12) (pt b_s52 (.cells #[.int .i64 c.b.num,.int .i64 c.b.yr,.int .u8 c.b.half,.int .u8 c.b.sec,.int .i64 c.b.cyc] 24 (0,0)))::condA (s 3) (sl 24 5 (.slice (some ⟨b_s51,0,none⟩) 0 0) 0 ([]))::MZ1031):=hD;
                  replace hf:Fr a 115 [] LZ1031:=hf
                  refine O.val hf rfl rfl rfl (RunV.move rfl) ?_
                  clear hf a; intro a hf
                  exact O.nil ⟨rfl,hf.to trivial,(gt (d:=102) hf rfl rfl),hD⟩
                · exact absurd h2_ (by simp)
              · intro k s g w h1_ h2_ hsp hD a hf
                obtain ⟨b_s51,b_s52,wv1,v54,v55,on,b_s57,v58⟩:=g
                rcases k with _ | _ | k
                · have hS:St w0 w noX BZ1031 (condA (s 12) (pt b_s52 (.cells #[.int .i64 c.b.num,.int .i64 c.b.yr,.int .u8 c.b.half,.int .u8 c.b.sec,.int .i64 c.b.cyc] 24 (0,0)))::condA (s 3) (sl 24 5 (.slice (some ⟨b_s51,0,none⟩) 0 0) 0 ([]))::MZ1031):=hD;
                  replace hf:Fr a 115 [] LZ1031:=hf
                  refine O.val hf rfl rfl rfl (RunV.move rfl) ?_
                  clear hf a; intro a hf
                  exact O.nil ⟨rfl,hf.to trivial,(gt (d:=103) hf rfl rfl),hD⟩
                · have hS:St w0 w noX BZ1031 (sl 46 6 wv1 ((delR os ia).length) (encs eO (delR os ia))::condA (s 12) (pt b_s52 (.cells #[.int .i64 c.b.num,.int .i64 c.b.yr,.int .u8 c.b.half,.int .u8 c.b.sec,.int .i64 c.b.cyc] 24 (0,0)))::condA (s 3) (sl 24 5 (.slice (some ⟨b_s51,0,none⟩) 0 0) 0 ([]))::MZ1031):=hD;
                  replace hf:Fr a 115 [] LZ1031:=hf
                  refine O.val hf rfl rfl rfl (RunV.move rfl) ?_
                  clear hf a; intro a hf
                  exact O.nil ⟨rfl,hf.to trivial,(gt (d:=103) hf rfl rfl),hD⟩
                · exact absurd h2_ (by simp)
              · intro k s g w h1_ h2_ hsp hD a hf
                obtain ⟨b_s51,b_s52,wv1,v54,v55,on,b_s57,v58⟩:=g
                rcases k with _ | _ | k
                · have hS:St w0 w noX BZ1031 (condA (s 12) (pt b_s52 (.cells #[.int .i64 c.b.num,.int .i64 c.b.yr,.int .u8 c.b.half,.int .u8 c.b.sec,.int .i64 c.b.cyc] 24 (0,0)))::condA (s 3) (sl 24 5 (.slice (some ⟨b_s51,0,none⟩) 0 0) 0 ([]))::MZ1031):=hD;
                  replace hf:Fr a 115 [] ((102,vo)::(103,.int .i64 fa)::LZ1031):=hf
                  refine O.val hf rfl rfl rfl (RunV.ixV (j:=ia) (m:=ia*6) T_elem_39 T_size_46 rfl rfl (hS.rdAt (j:=0) rfl) hia (by omega) rfl) ?_
                  clear hf a; intro a hf
                  exact O.nil ⟨rfl,hf.to trivial,(gt (d:=104) hf rfl rfl),hD⟩
                · have hS:St w0 w noX BZ1031 (sl 46 6 wv1 ((delR os ia).length) (encs eO (delR os ia))::condA (s 12) (pt b_s52 (.cells #[.int .i64 c.b.num,.int .i64 c.b.yr,.int .u8 c.b.half,.int .u8 c.b.sec,.int .i64 c.b.cyc] 24 (0,0)))::condA (s 3) (sl 24 5 (.slice (some ⟨b_s51,0,none⟩) 0 0) 0 ([]))::MZ1031):=hD;
                  replace hf:Fr a 115 [] ((102,vo)::(103,.int .i64 fa)::LZ1031):=hf
                  refine O.val hf rfl rfl rfl (RunV.ixV (j:=ia) (m:=ia*6) T_elem_39 T_size_46 rfl rfl (hS.rdAt (j:=0) rfl) hia (by omega) rfl) ?_
                  clear hf a; intro a hf
                  exact O.nil ⟨rfl,hf.to trivial,(gt (d:=104) hf rfl rfl),hD⟩
                · exact absurd h2_ (by simp)
              · intro k s g w h1_ h2_ hsp hD a hf
                obtain ⟨b_s51,b_s52,wv1,v54,v55,on,b_s57,v58⟩:=g
                rcases k with _ | _ | k
                · have hS:St w0 w noX BZ1031 (condA (s 12) (pt b_s52 (.cells #[.int .i64 c.b.num,.int .i64 c.b.yr,.int .u8 c.b.half,.int .u8 c.b.sec,.int .i64 c.b.cyc] 24 (0,0)))::condA (s 3) (sl 24 5 (.slice (some ⟨b_s51,0,none⟩) 0 0) 0 ([]))::MZ1031):=hD;
                  replace hf:Fr a 115 [] ((104,ix vo (ia*6))::LZ1031):=hf
                  refine O.val hf rfl rfl rfl (RunV.ixF T_field_46_1 rfl (hS.rdAt (j:=0) rfl) (by omega) rfl) ?_
                  clear hf a; intro a hf
                  exact O.nil ⟨rfl,hf.to trivial,(gt (d:=105) hf rfl rfl),hD⟩
                · have hS:St w0 w noX BZ1031 (sl 46 6 wv1 ((delR os ia).length) (encs eO (delR os ia))::condA (s 12) (pt b_s52 (.cells #[.int .i64 c.b.num,.int .i64 c.b.yr,.int .u8 c.b.half,.int .u8 c.b.sec,.int .i64 c.b.cyc] 24 (0,0)))::condA (s 3) (sl 24 5 (.slice (some ⟨b_s51,0,none⟩) 0 0) 0 ([]))::MZ1031):=hD;
                  replace hf:Fr a 115 [] ((104,ix vo (ia*6))::LZ1031):=hf
                  refine O.val hf rfl rfl rfl (RunV.ixF T_field_46_1 rfl (hS.rdAt (j:=0) rfl) (by omega) rfl) ?_
                  clear hf a; intro a hf
                  exact O.nil ⟨rfl,hf.to trivial,(gt (d:=105) hf rfl rfl),hD⟩
                · exact absurd h2_ (by simp)
              · intro k s g w h1_ h2_ hsp hD a hf
                obtain ⟨b_s51,b_s52,wv1,v54,v55,on,b_s57,v58⟩:=g
                rcases k with _ | _ | k
                · have hS:St w0 w noX BZ1031 (condA (s 12) (pt b_s52 (.cells #[.int .i64 c.b.num,.int .i64 c.b.yr,.int .u8 c.b.half,.int .u8 c.b.sec,.int .i64 c.b.cyc] 24 (0,0)))::condA (s 3) (sl 24 5 (.slice (some ⟨b_s51,0,none⟩) 0 0) 0 ([]))::MZ1031):=hD;
                  replace hf:Fr a 115 [] ((105,ix vo (ia*6+5))::LZ1031):=hf
                  refine O.val hf rfl rfl rfl (RunV.ldG2 (j:=ia) (o:=5) (sz:=6) (enc:=eO) (l:=os) T_agg_35 eO_len rfl (hS.rdAt (j:=0) rfl) (by omega) rfl rfl) ?_
                  clear hf a; intro a hf
                  exact O.nil ⟨rfl,hf.to trivial,(gt (d:=106) hf rfl rfl),hD⟩
                · have hS:St w0 w noX BZ1031 (sl 46 6 wv1 ((delR os ia).length) (encs eO (delR os ia))::condA (s 12) (pt b_s52 (.cells #[.int .i64 c.b.num,.int .i64 c.b.yr,.int .u8 c.b.half,.int .u8 c.b.sec,.int .i64 c.b.cyc] 24 (0,0)))::condA (s 3) (sl 24 5 (.slice (some ⟨b_s51,0,none⟩) 0 0) 0 ([]))::MZ1031):=hD;
                  replace hf:Fr a 115 [] ((105,ix vo (ia*6+5))::LZ1031):=hf
                  refine O.val hf rfl rfl rfl (RunV.ldG2 (j:=ia) (o:=5) (sz:=6) (enc:=eO) (l:=os) T_agg_35 eO_len rfl (hS.rdAt (j:=0) rfl) (by omega) rfl rfl) ?_
                  clear hf a; intro a hf
                  exact O.nil ⟨rfl,hf.to trivial,(gt (d:=106) hf rfl rfl),hD⟩
                · exact absurd h2_ (by simp)
              · intro k s g w h1_ h2_ hsp hD a hf
                obtain ⟨b_s51,b_s52,wv1,v54,v55,on,b_s57,v58⟩:=g
                rcases k with _ | _ | _ | k
                · have hS:St w0 w noX BZ1031 (condA (s 12) (pt b_s52 (.cells #[.int .i64 c.b.num,.int .i64 c.b.yr,.int .u8 c.b.half,.int .u8 c.b.sec,.int .i64 c.b.cyc] 24 (0,0)))::condA (s 3) (sl 24 5 (.slice (some ⟨b_s51,0,none⟩) 0 0) 0 ([]))::MZ1031):=hD;
                  replace hf:Fr a 115 [] LZ1031:=hf
                  refine O.val hf rfl rfl rfl (RunV.field T_field_26_2 rfl rfl) ?_
                  clear hf a; intro a hf
                  exact O.nil ⟨rfl,hf.to trivial,(gt (d:=108) hf rfl rfl),hD⟩
                · have hS:St w0 w noX BZ1031 (sl 46 6 wv1 ((delR os ia).length) (encs eO (delR os ia))::condA (s 12) (pt b_s52 (.cells #[.int .i64 c.b.num,.int .i64 c.b.yr,.int .u8 c.b.half,.int .u8 c.b.sec,.int .i64 c.b.cyc] 24 (0,0)))::condA (s 3) (sl 24 5 (.slice (some ⟨b_s51,0,none⟩) 0 0) 0 ([]))::MZ1031):=hD;
                  replace hf:Fr a 115 [] LZ1031:=hf
                  refine O.val hf rfl rfl rfl (RunV.field T_field_26_2 rfl rfl) ?_
                  clear hf a; intro a hf
                  exact O.nil ⟨rfl,hf.to trivial,(gt (d:=108) hf rfl rfl),hD⟩
                · have hS:St w0 w noX BZ1031 (sl 46 6 wv1 ((delR os ia).length) (encs eO (delR os ia))::condA (s 12) (pt b_s52 (.cells #[.int .i64 c.b.num,.int .i64 c.b.yr,.int .u8 c.b.half,.int .u8 c.b.sec,.int .i64 c.b.cyc] 24 (0,0)))::sl 24 5 v54 (((os.getD ia default).l).length) (encs eD ((os.getD ia default).l))::MZ1031):=hD;
                  replace hf:Fr a 115 [] LZ1031:=hf
                  refine O.val hf rfl rfl rfl (RunV.field T_field_26_2 rfl rfl) ?_
                  clear hf a; intro a hf
                  exact O.nil ⟨rfl,hf.to trivial,(gt (d:=108) hf rfl rfl),hD⟩
                · exact absurd h2_ (by simp)
              · intro k s g w h1_ h2_ hsp hD a hf
                obtain ⟨b_s51,b_s52,wv1,v54,v55,on,b_s57,v58⟩:=g
                rcases k with _ | _ | _ | k
                · have hS:St w0 w noX BZ1031 (condA (s 12) (pt b_s52 (.cells #[.int .i64 c.b.num,.int .i64 c.b.yr,.int .u8 c.b.half,.int .u8 c.b.sec,.int .i64 c.b.cyc] 24 (0,0)))::condA (s 3) (sl 24 5 (.slice (some ⟨b_s51,0,none⟩) 0 0) 0 ([]))::MZ1031):=hD;
                  replace hf:Fr a 115 [] ((108,.pointer (some ⟨b_c1,6,none⟩))::LZ1031):=hf
                  refine O.val hf rfl rfl rfl (RunV.loadN (cs':=#[.int .i64 c.b.num,.int .i64 c.b.yr,.int .u8 c.b.half,.int .u8 c.b.sec,.int .i64 c.b.cyc]) T_agg_24 T_size_24 rfl (hS.ptAt (i:=2) rfl) (Nat.le_of_ble_eq_true rfl) rfl) ?_
                  clear hf a; intro a hf
                  exact O.nil ⟨rfl,hf.to trivial,(gt (d:=109) hf rfl rfl),hD⟩
                · have hS:St w0 w noX BZ1031 (sl 46 6 wv1 ((delR os ia).length) (encs eO (delR os ia))::condA (s 12) (pt b_s52 (.cells #[.int .i64 c.b.num,.int .i64 c.b.yr,.int .u8 c.b.half,.int .u8 c.b.sec,.int .i64 c.b.cyc] 24 (0,0)))::condA (s 3) (sl 24 5 (.slice (some ⟨b_s51,0,none⟩) 0 0) 0 ([]))::MZ1031):=hD;
                  replace hf:Fr a 115 [] ((108,.pointer (some ⟨b_c1,6,none⟩))::LZ1031):=hf
                  refine O.val hf rfl rfl rfl (RunV.loadN (cs':=#[.int .i64 c.b.num,.int .i64 c.b.yr,.int .u8 c.b.half,.int .u8 c.b.sec,.int .i64 c.b.cyc]) T_agg_24 T_size_24 rfl (hS.ptAt (i:=3) rfl) (Nat.le_of_ble_eq_true rfl) rfl) ?_
                  clear hf a; intro a hf
                  exact O.nil ⟨rfl,hf.to trivial,(gt (d:=109) hf rfl rfl),hD⟩
                · have hS:St w0 w noX BZ1031 (sl 46 6 wv1 ((delR os ia).length) (encs eO (delR os ia))::condA (s 12) (pt b_s52 (.cells #[.int .i64 c.b.num,.int .i64 c.b.yr,.int .u8 c.b.half,.int .u8 c.b.sec,.int .i64 c.b.cyc] 24 (0,0)))::sl 24 5 v54 (((os.getD ia default).l).length) (encs eD ((os.getD ia default).l))::MZ1031):=hD;
                  replace hf:Fr a 115 [] ((108,.pointer (some ⟨b_c1,6,none⟩))::LZ1031):=hf
                  refine O.val hf rfl rfl rfl (RunV.loadN (cs':=#[.int .i64 c.b.num,.int .i64 c.b.yr,.int .u8 c.b.half,.int .u8 c.b.sec,.int .i64 c.b.cyc]) T_agg_24 T_size_24 rfl (hS.ptAt (i:=3) rfl) (Nat.le_of_ble_eq_true rfl) rfl) ?_
                  clear hf a; intro a hf
                  exact O.nil ⟨rfl,hf.to trivial,(gt (d:=109) hf rfl rfl),hD⟩
                · exact absurd h2_ (by simp)
              · intro k s g w h1_ h2_ hsp hD a hf
                obtain ⟨b_s51,b_s52,wv1,v54,v55,on,b_s57,v58⟩:=g
                obtain rfl:k=6:=Nat.le_antisymm h2_ h1_
                have ha_3:s 3=true:=hsp 3 (by simp)
                have ha_12:s 12=true:=hsp 12 (by simp)
                have hS:St w0 w noX BZ1031 (pt b_s57 (.cells #[.int .i64 on.p.num,.int .i64 on.p.yr,.int .u8 on.p.half,.int .u8 on.p.sec,.int .i64 on.p.cyc,(.slice on.ad on.n on.c)] 46 (0,0))::obF ((os.getD ia default).l++[c.b]) on::sl 46 6 v58 (((delR os ia)++[on]).length) (encs eO ((delR os ia)++[on]))::pt b_s52 (.cells #[.int .i64 c.b.num,.int .i64 c.b.yr,.int .u8 c.b.half,.int .u8 c.b.sec,.int .i64 c.b.cyc] 24 (0,0))::sl 24 5 v55 ((((os.getD ia default).l)++[c.b]).length) (encs eD (((os.getD ia default).l)++[c.b]))::MZ1031):=hD;
                replace hS:St w0 w noX BZ1031 (pt b_s57 (.cells #[.int .i64 on.p.num,.int .i64 on.p.yr,.int .u8 on.p.half,.int .u8 on.p.sec,.int .i64 on.p.cyc,(.slice on.ad on.n on.c)] 46 (0,0))::obF ((os.getD ia default).l++[c.b]) on::sl 46 6 v58 (((delR os ia)++[on]).length) (encs eO ((delR os ia)++[on]))::pt b_s52 (.cells #[.int .i64 c.b.num,.int .i64 c.b.yr,.int .u8 c.b.half,.int .u8 c.b.sec,.int .i64 c.b.cyc] 24 (0,0))::sl 24 5 v55 ((((os.getD ia default).l)++[c.b]).length) (encs eD (((os.getD ia default).l)++[c.b]))::MZ1031):=hS
                replace hf:Fr a 115 [] ((98,vo)::(99,.int .i64 fa)::(100,wv1)::(101,.slice (some ⟨b_s51,0,none⟩) 0 0)::(102,vo)::(103,.int .i64 fa)::(104,ix vo (ia*6))::(105,ix vo (ia*6+5))::(106,(os.getD ia default).v)::(107,v54)::(108,.pointer (some ⟨b_c1,6,none⟩))::(109,.agg #[.int .i64 c.b.num,.int .i64 c.b.yr,.int .u8 c.b.half,.int .u8 c.b.sec,.int .i64 c.b.cyc])::(110,.slice (some ⟨b_s52,0,none⟩) 1 1)::(111,v55)::(112,.agg #[.int .i64 on.p.num,.int .i64 on.p.yr,.int .u8 on.p.half,.int .u8 on.p.sec,.int .i64 on.p.cyc,(.slice on.ad on.n on.c)])::(113,.slice (some ⟨b_s57,0,none⟩) 1 1)::(114,v58)::LZ1031):=hf
                refine O.val hf rfl rfl rfl (RunV.assign rfl) ?_
                clear hf a; intro a hf
                exact O.nil ⟨rfl,hf.to trivial,(gt (d:=4) hf rfl rfl),hD⟩
              · intro k s g w h1_ h2_ hsp hD a hf
                obtain ⟨b_s51,b_s52,wv1,v54,v55,on,b_s57,v58⟩:=g
                obtain rfl:k=6:=Nat.le_antisymm h2_ h1_
                have ha_3:s 3=true:=hsp 3 (by simp)
                have ha_12:s 12=true:=hsp 12 (by simp)
                have hS:St w0 w noX BZ1031 (pt b_s57 (.cells #[.int .i64 on.p.num,.int .i64 on.p.yr,.int .u8 on.p.half,.int .u8 on.p.sec,.int .i64 on.p.cyc,(.slice on.ad on.n on.c)] 46 (0,0))::obF ((os.getD ia default).l++[c.b]) on::sl 46 6 v58 (((delR os ia)++[on]).length) (encs eO ((delR os ia)++[on]))::pt b_s52 (.cells #[.int .i64 c.b.num,.int .i64 c.b.yr,.int .u8 c.b.half,.int .u8 c.b.sec,.int .i64 c.b.cyc] 24 (0,0))::sl 24 5 v55 ((((os.getD ia default).l)++[c.b]).length) (encs eD (((os.getD ia default).l)++[c.b]))::MZ1031):=hD;
                replace hS:St w0 w noX BZ1031 (pt b_s57 (.cells #[.int .i64 on.p.num,.int .i64 on.p.yr,.int .u8 on.p.half,.int .u8 on.p.sec,.int .i64 on.p.cyc,(.slice on.ad on.n on.c)] 46 (0,0))::obF ((os.getD ia default).l++[c.b]) on::sl 46 6 v58 (((delR os ia)++[on]).length) (encs eO ((delR os ia)++[on]))::pt b_s52 (.cells #[.int .i64 c.b.num,.int .i64 c.b.yr,.int .u8 c.b.half,.int .u8 c.b.sec,.int .i64 c.b.cyc] 24 (0,0))::sl 24 5 v55 ((((os.getD ia default).l)++[c.b]).length) (encs eD (((os.getD ia default).l)++[c.b]))::MZ1031):=hS
                replace hf:Fr a 115 [] ((98,vo)::(99,.int .i64 fa)::(100,wv1)::(101,.slice (some ⟨b_s51,0,none⟩) 0 0)::(102,vo)::(103,.int .i64 fa)::(104,ix vo (ia*6))::(105,ix vo (ia*6+5))::(106,(os.getD ia default).v)::(107,v54)::(108,.pointer (some ⟨b_c1,6,none⟩))::(109,.agg #[.int .i64 c.b.num,.int .i64 c.b.yr,.int .u8 c.b.half,.int .u8 c.b.sec,.int .i64 c.b.cyc])::(110,.slice (some ⟨b_s52,0,none⟩) 1 1)::(111,v55)::(112,.agg #[.int .i64 on.p.num,.int .i64 on.p.yr,.int .u8 on.p.half,.int .u8 on.p.sec,.int .i64 on.p.cyc,(.slice on.ad on.n on.c)])::(113,.slice (some ⟨b_s57,0,none⟩) 1 1)::(114,v58)::(4,v58)::LZ1031):=hf
                refine O.val hf rfl rfl rfl (RunV.assign rfl) ?_
                clear hf a; intro a hf
                exact O.nil ⟨rfl,hf.to trivial,(gt (d:=5) hf rfl rfl),hD⟩
            · clear hf hf1 hS
              refine ⟨?_,?_,?_,?_,?_,?_,trivial⟩
              · intro s g w hsp hD a hf
                obtain ⟨b_s51,b_s52,wv1,v54,v55,on,b_s57,v58⟩:=g
                have hS:St w0 w noX BZ1031 (condA (s 12) (pt b_s52 (.cells #[.int .i64 c.b.num,.int .i64 c.b.yr,.int .u8 c.b.half,.int .u8 c.b.sec,.int .i64 c.b.cyc] 24 (0,0)))::condA (s 3) (sl 24 5 (.slice (some ⟨b_s51,0,none⟩) 0 0) 0 ([]))::MZ1031):=hD;
                replace hf:Fr a 115 [] ((98,vo)::(99,.int .i64 fa)::LZ1031):=hf
                clear hD
                refine O.callR hf rfl rfl rfl (RunE.call (av:=#[vo,.int .i64 fa]) C_ok_60 rfl rfl rfl) (without_as vo os ia _ (hS.rdAt (j:=0) rfl) hfit hil (by omega) _ hia) ?_
                clear hf a
                rintro wv1 w59 hS1 a hf
                replace hf:Fr a _ _ ((100,wv1)::_):=hf
                replace hS:=(hS.call hS1).eqM (N:=(sl 46 6 wv1 ((delR os ia).length) (encs eO (delR os ia))::condA (s 12) (pt b_s52 (.cells #[.int .i64 c.b.num,.int .i64 c.b.yr,.int .u8 c.b.half,.int .u8 c.b.sec,.int .i64 c.b.cyc] 24 (0,0)))::condA (s 3) (sl 24 5 (.slice (some ⟨b_s51,0,none⟩) 0 0) 0 ([]))::MZ1031)) rfl
                clear hS1
                exact O.nil ⟨rfl,(b_s51,b_s52,wv1,v54,v55,on,b_s57,v58),hf.to trivial,(gt (d:=100) hf rfl rfl),(fun j_ hj_ ha_=>match j_,hj_,ha_ with | 0,hj_,ha_=>rfl | 1,hj_,ha_=>rfl | 2,hj_,ha_=>absurd rfl hj_ | 3,hj_,ha_=>rfl | 4,hj_,ha_=>rfl | 5,hj_,ha_=>rfl | 6,hj_,ha_=>rfl | 7,hj_,ha_=>rfl | 8,hj_,ha_=>rfl | 9,hj_,ha_=>absurd ha_ (by decide) | 10,hj_,ha_=>rfl | 11,hj_,ha_=>rfl | 12,hj_,ha_=>rfl | 13,hj_,ha_=>absurd ha_ (by decide) | 14,hj_,ha_=>absurd ha_ (by decide) | 15,hj_,ha_=>absurd ha_ (by decide) | 16,hj_,ha_=>absurd ha_ (by decide) | 17,hj_,ha_=>absurd ha_ (by decide) | 18,hj_,ha_=>absurd ha_ (by decide) | _+19,_,_=>rfl),hS⟩
              · intro s g w hsp hD a hf
                obtain ⟨b_s51,b_s52,wv1,v54,v55,on,b_s57,v58⟩:=g
                have ha_3:s 3=true:=hsp 3 (by simp)
                have hS:St w0 w noX BZ1031 (sl 46 6 wv1 ((delR os ia).length) (encs eO (delR os ia))::condA (s 12) (pt b_s52 (.cells #[.int .i64 c.b.num,.int .i64 c.b.yr,.int .u8 c.b.half,.int .u8 c.b.sec,.int .i64 c.b.cyc] 24 (0,0)))::condA (s 3) (sl 24 5 (.slice (some ⟨b_s51,0,none⟩) 0 0) 0 ([]))::MZ1031):=hD; rw [ha_3] at hS
                replace hS:St w0 w noX BZ1031 (sl 46 6 wv1 ((delR os ia).length) (encs eO (delR os ia))::condA (s 12) (pt b_s52 (.cells #[.int .i64 c.b.num,.int .i64 c.b.yr,.int .u8 c.b.half,.int .u8 c.b.sec,.int .i64 c.b.cyc] 24 (0,0)))::sl 24 5 (.slice (some ⟨b_s51,0,none⟩) 0 0) 0 ([])::MZ1031):=hS
                replace hf:Fr a 115 [] ((100,wv1)::(101,.slice (some ⟨b_s51,0,none⟩) 0 0)::(106,(os.getD ia default).v)::LZ1031):=hf
                clear hD
                replace hS:St w0 w noX BZ1031 (sl 46 6 wv1 ((delR os ia).length) (encs eO (delR os ia))::condA (s 12) (pt b_s52 (.cells #[.int .i64 c.b.num,.int .i64 c.b.yr,.int .u8 c.b.half,.int .u8 c.b.sec,.int .i64 c.b.cyc] 24 (0,0)))::slE 24 5 eD (.slice (some ⟨b_s51,0,none⟩) 0 0) ([]:List Dg)::MZ1031):=hS
                refine O.appendEV (j:=2) (enc:=eD) (l:=([]:List Dg)) (m:=(os.getD ia default).l) (l':=(os.getD ia default).l) hf hS rfl rfl T_elem_35 T_size_24 T_bytes_24 T_zero_24 rfl rfl rfl rfl rfl ⟨((hS.obAt (i:=1) rfl).at (k:=ia) (by omega)),(hof _ (getO hil))⟩ (fun _=>rfl) (by decide) (by omega) rfl rfl ?_
                clear hf hS a; intro v60 w a hS hf
                replace hS:St w0 w noX BZ1031 (sl 46 6 wv1 ((delR os ia).length) (encs eO (delR os ia))::condA (s 12) (pt b_s52 (.cells #[.int .i64 c.b.num,.int .i64 c.b.yr,.int .u8 c.b.half,.int .u8 c.b.sec,.int .i64 c.b.cyc] 24 (0,0)))::sl 24 5 v60 (((os.getD ia default).l).length) (encs eD ((os.getD ia default).l))::MZ1031):=hS
                exact O.nil ⟨rfl,(b_s51,b_s52,wv1,v60,v55,on,b_s57,v58),hf.to trivial,(gt (d:=107) hf rfl rfl),(fun j_ hj_ ha_=>match j_,hj_,ha_ with | 0,hj_,ha_=>rfl | 1,hj_,ha_=>rfl | 2,hj_,ha_=>rfl | 3,hj_,ha_=>rfl | 4,hj_,ha_=>rfl | 5,hj_,ha_=>rfl | 6,hj_,ha_=>rfl | 7,hj_,ha_=>rfl | 8,hj_,ha_=>rfl | 9,hj_,ha_=>absurd rfl hj_ | 10,hj_,ha_=>rfl | 11,hj_,ha_=>rfl | 12,hj_,ha_=>rfl | 13,hj_,ha_=>absurd ha_ (by decide) | 14,hj_,ha_=>absurd ha_ (by decide) | 15,hj_,ha_=>absurd ha_ (by decide) | 16,hj_,ha_=>absurd ha_ (by decide) | 17,hj_,ha_=>absurd ha_ (by decide) | 18,hj_,ha_=>absurd ha_ (by decide) | _+19,_,_=>rfl),hS⟩
              · intro s g w hsp hD a hf
                obtain ⟨b_s51,b_s52,wv1,v54,v55,on,b_s57,v58⟩:=g
                have ha_3:s 3=true:=hsp 3 (by simp)
                have ha_12:s 12=true:=hsp 12 (by simp)
                have hS:St w0 w noX BZ1031 (sl 46 6 wv1 ((delR os ia).length) (encs eO (delR os ia))::condA (s 12) (pt b_s52 (.cells #[.int .i64 c.b.num,.int .i64 c.b.yr,.int .u8 c.b.half,.int .u8 c.b.sec,.int .i64 c.b.cyc] 24 (0,0)))::sl 24 5 v54 (((os.getD ia default).l).length) (encs eD ((os.getD ia default).l))::MZ1031):=hD; rw [ha_12] at hS
                replace hS:St w0 w noX BZ1031 (sl 46 6 wv1 ((delR os ia).length) (encs eO (delR os ia))::pt b_s52 (.cells #[.int .i64 c.b.num,.int .i64 c.b.yr,.int .u8 c.b.half,.int .u8 c.b.sec,.int .i64 c.b.cyc] 24 (0,0))::sl 24 5 v54 (((os.getD ia default).l).length) (encs eD ((os.getD ia default).l))::MZ1031):=hS
                replace hf:Fr a 115 [] ((107,v54)::(110,.slice (some ⟨b_s52,0,none⟩) 1 1)::LZ1031):=hf
                clear hD
                refine O.append1 (j:=2) (jj:=1) hf hS rfl rfl T_elem_35 T_size_24 T_bytes_24 T_zero_24 rfl rfl rfl rfl rfl rfl rfl rfl (by unfold maxLen; omega) (by omega) ?_
                clear hf hS a; intro v61 w a hS hf
                replace hS:=hS.eqM (N:=(sl 46 6 wv1 ((delR os ia).length) (encs eO (delR os ia))::pt b_s52 (.cells #[.int .i64 c.b.num,.int .i64 c.b.yr,.int .u8 c.b.half,.int .u8 c.b.sec,.int .i64 c.b.cyc] 24 (0,0))::sl 24 5 v61 (((os.getD ia default).l).length+1) (encs eD ((os.getD ia default).l)++[.int .i64 c.b.num,.int .i64 c.b.yr,.int .u8 c.b.half,.int .u8 c.b.sec,.int .i64 c.b.cyc])::MZ1031)) rfl
                replace hS:=hS.reE (i:=2) (M':=(sl 46 6 wv1 ((delR os ia).length) (encs eO (delR os ia))::pt b_s52 (.cells #[.int .i64 c.b.num,.int .i64 c.b.yr,.int .u8 c.b.half,.int .u8 c.b.sec,.int .i64 c.b.cyc] 24 (0,0))::sl 24 5 v61 ((((os.getD ia default).l)++[c.b]).length) (encs eD (((os.getD ia default).l)++[c.b]))::MZ1031)) rfl (sl_snoc (enc:=eD) (l:=((os.getD ia default).l)) (x:=c.b)) rfl
                exact O.nil ⟨rfl,(b_s51,b_s52,wv1,v54,v61,on,b_s57,v58),hf.to trivial,(gt (d:=111) hf rfl rfl),(fun j_ hj_ ha_=>match j_,hj_,ha_ with | 0,hj_,ha_=>rfl | 1,hj_,ha_=>rfl | 2,hj_,ha_=>rfl | 3,hj_,ha_=>rfl | 4,hj_,ha_=>rfl | 5,hj_,ha_=>rfl | 6,hj_,ha_=>rfl | 7,hj_,ha_=>rfl | 8,hj_,ha_=>rfl | 9,hj_,ha_=>rfl | 10,hj_,ha_=>rfl | 11,hj_,ha_=>rfl | 12,hj_,ha_=>rfl | 13,hj_,ha_=>absurd rfl hj_ | 14,hj_,ha_=>absurd ha_ (by decide) | 15,hj_,ha_=>absurd ha_ (by decide) | 16,hj_,ha_=>absurd ha_ (by decide) | 17,hj_,ha_=>absurd ha_ (by decide) | 18,hj_,ha_=>absurd ha_ (by decide) | _+19,_,_=>rfl),hS⟩
              · intro s g w hsp hD a hf
                obtain ⟨b_s51,b_s52,wv1,v54,v55,on,b_s57,v58⟩:=g
                have ha_3:s 3=true:=hsp 3 (by simp)
                have ha_12:s 12=true:=hsp 12 (by simp)
                have hS:St w0 w noX BZ1031 (sl 46 6 wv1 ((delR os ia).length) (encs eO (delR os ia))::pt b_s52 (.cells #[.int .i64 c.b.num,.int .i64 c.b.yr,.int .u8 c.b.half,.int .u8 c.b.sec,.int .i64 c.b.cyc] 24 (0,0))::sl 24 5 v55 ((((os.getD ia default).l)++[c.b]).length) (encs eD (((os.getD ia default).l)++[c.b]))::MZ1031):=hD;
                replace hS:St w0 w noX BZ1031 (sl 46 6 wv1 ((delR os ia).length) (encs eO (delR os ia))::pt b_s52 (.cells #[.int .i64 c.b.num,.int .i64 c.b.yr,.int .u8 c.b.half,.int .u8 c.b.sec,.int .i64 c.b.cyc] 24 (0,0))::sl 24 5 v55 ((((os.getD ia default).l)++[c.b]).length) (encs eD (((os.getD ia default).l)++[c.b]))::MZ1031):=hS
                replace hf:Fr a 115 [] ((111,v55)::LZ1031):=hf
                clear hD
                refine O.callR hf rfl rfl rfl (RunE.call (av:=#[v55]) C_ok_59 rfl rfl rfl) (made_ob v55 ((os.getD ia default).l++[c.b]) _ (hS.slr (j:=2) rfl) (fun d hd=>(List.mem_append.1 hd).elim (hvA.2 d) (fun h=>by rw [List.mem_singleton.1 h]; exact ⟨hob hk1,hrc.2⟩)) (by rw [List.length_append,List.length_singleton]; omega) (by rw [List.length_append,List.length_singleton]; omega)) ?_
                clear hf a
                rintro on w62 hS1 a hf
                replace hf:Fr a _ _ ((112,.agg #[.int .i64 on.p.num,.int .i64 on.p.yr,.int .u8 on.p.half,.int .u8 on.p.sec,.int .i64 on.p.cyc,(.slice on.ad on.n on.c)])::_):=hf
                replace hS:=(hS.call hS1).eqM (N:=(obF ((os.getD ia default).l++[c.b]) on::sl 46 6 wv1 ((delR os ia).length) (encs eO (delR os ia))::pt b_s52 (.cells #[.int .i64 c.b.num,.int .i64 c.b.yr,.int .u8 c.b.half,.int .u8 c.b.sec,.int .i64 c.b.cyc] 24 (0,0))::sl 24 5 v55 ((((os.getD ia default).l)++[c.b]).length) (encs eD (((os.getD ia default).l)++[c.b]))::MZ1031)) rfl
                clear hS1
                exact O.nil ⟨rfl,(b_s51,b_s52,wv1,v54,v55,on,b_s57,v58),hf.to trivial,(gt (d:=112) hf rfl rfl),(fun j_ hj_ ha_=>match j_,hj_,ha_ with | 0,hj_,ha_=>rfl | 1,hj_,ha_=>rfl | 2,hj_,ha_=>rfl | 3,hj_,ha_=>rfl | 4,hj_,ha_=>rfl | 5,hj_,ha_=>rfl | 6,hj_,ha_=>rfl | 7,hj_,ha_=>rfl | 8,hj_,ha_=>rfl | 9,hj_,ha_=>rfl | 10,hj_,ha_=>rfl | 11,hj_,ha_=>rfl | 12,hj_,ha_=>rfl | 13,hj_,ha_=>rfl | 14,hj_,ha_=>absurd rfl hj_ | 15,hj_,ha_=>absurd ha_ (by decide) | 16,hj_,ha_=>absurd ha_ (by decide) | 17,hj_,ha_=>absurd ha_ (by decide) | 18,hj_,ha_=>absurd ha_ (by decide) | _+19,_,_=>rfl),hS⟩
              · intro s g w hsp hD a hf
                obtain ⟨b_s51,b_s52,wv1,v54,v55,on,b_s57,v58⟩:=g
                have ha_3:s 3=true:=hsp 3 (by simp)
                have ha_12:s 12=true:=hsp 12 (by simp)
                have hS:St w0 w noX BZ1031 (obF ((os.getD ia default).l++[c.b]) on::sl 46 6 wv1 ((delR os ia).length) (encs eO (delR os ia))::pt b_s52 (.cells #[.int .i64 c.b.num,.int .i64 c.b.yr,.int .u8 c.b.half,.int .u8 c.b.sec,.int .i64 c.b.cyc] 24 (0,0))::sl 24 5 v55 ((((os.getD ia default).l)++[c.b]).length) (encs eD (((os.getD ia default).l)++[c.b]))::MZ1031):=hD;
                replace hS:St w0 w noX BZ1031 (obF ((os.getD ia default).l++[c.b]) on::sl 46 6 wv1 ((delR os ia).length) (encs eO (delR os ia))::pt b_s52 (.cells #[.int .i64 c.b.num,.int .i64 c.b.yr,.int .u8 c.b.half,.int .u8 c.b.sec,.int .i64 c.b.cyc] 24 (0,0))::sl 24 5 v55 ((((os.getD ia default).l)++[c.b]).length) (encs eD (((os.getD ia default).l)++[c.b]))::MZ1031):=hS
                replace hf:Fr a 115 [] ((112,.agg #[.int .i64 on.p.num,.int .i64 on.p.yr,.int .u8 on.p.half,.int .u8 on.p.sec,.int .i64 on.p.cyc,(.slice on.ad on.n on.c)])::LZ1031):=hf
                clear hD
                refine O.buildSlice (cs':=#[.int .i64 on.p.num,.int .i64 on.p.yr,.int .u8 on.p.half,.int .u8 on.p.sec,.int .i64 on.p.cyc,(.slice on.ad on.n on.c)]) (zs:=#[.int .i64 0,.int .i64 0,.int .u8 0,.int .u8 0,.int .i64 0,.slice none 0 0]) hf hS rfl rfl T_elem_39 T_size_46 T_zero_46 rfl rfl rfl rfl rfl ?_
                clear hf hS a; intro b_s63 w a hbb_s63 hS hf
                exact O.nil ⟨rfl,(b_s51,b_s52,wv1,v54,v55,on,b_s63,v58),hf.to trivial,(gt (d:=113) hf rfl rfl),(fun j_ hj_ ha_=>match j_,hj_,ha_ with | 0,hj_,ha_=>rfl | 1,hj_,ha_=>rfl | 2,hj_,ha_=>rfl | 3,hj_,ha_=>rfl | 4,hj_,ha_=>rfl | 5,hj_,ha_=>rfl | 6,hj_,ha_=>rfl | 7,hj_,ha_=>rfl | 8,hj_,ha_=>rfl | 9,hj_,ha_=>rfl | 10,hj_,ha_=>rfl | 11,hj_,ha_=>rfl | 12,hj_,ha_=>rfl | 13,hj_,ha_=>rfl | 14,hj_,ha_=>rfl | 15,hj_,ha_=>absurd rfl hj_ | 16,hj_,ha_=>absurd ha_ (by decide) | 17,hj_,ha_=>absurd ha_ (by decide) | 18,hj_,ha_=>absurd ha_ (by decide) | _+19,_,_=>rfl),hS⟩
              · intro s g w hsp hD a hf
                obtain ⟨b_s51,b_s52,wv1,v54,v55,on,b_s57,v58⟩:=g
                have ha_3:s 3=true:=hsp 3 (by simp)
                have ha_12:s 12=true:=hsp 12 (by simp)
                have hS:St w0 w noX BZ1031 (pt b_s57 (.cells #[.int .i64 on.p.num,.int .i64 on.p.yr,.int .u8 on.p.half,.int .u8 on.p.sec,.int .i64 on.p.cyc,(.slice on.ad on.n on.c)] 46 (0,0))::obF ((os.getD ia default).l++[c.b]) on::sl 46 6 wv1 ((delR os ia).length) (encs eO (delR os ia))::pt b_s52 (.cells #[.int .i64 c.b.num,.int .i64 c.b.yr,.int .u8 c.b.half,.int .u8 c.b.sec,.int .i64 c.b.cyc] 24 (0,0))::sl 24 5 v55 ((((os.getD ia default).l)++[c.b]).length) (encs eD (((os.getD ia default).l)++[c.b]))::MZ1031):=hD;
                replace hS:St w0 w noX BZ1031 (pt b_s57 (.cells #[.int .i64 on.p.num,.int .i64 on.p.yr,.int .u8 on.p.half,.int .u8 on.p.sec,.int .i64 on.p.cyc,(.slice on.ad on.n on.c)] 46 (0,0))::obF ((os.getD ia default).l++[c.b]) on::sl 46 6 wv1 ((delR os ia).length) (encs eO (delR os ia))::pt b_s52 (.cells #[.int .i64 c.b.num,.int .i64 c.b.yr,.int .u8 c.b.half,.int .u8 c.b.sec,.int .i64 c.b.cyc] 24 (0,0))::sl 24 5 v55 ((((os.getD ia default).l)++[c.b]).length) (encs eD (((os.getD ia default).l)++[c.b]))::MZ1031):=hS
                replace hf:Fr a 115 [] ((100,wv1)::(112,.agg #[.int .i64 on.p.num,.int .i64 on.p.yr,.int .u8 on.p.half,.int .u8 on.p.sec,.int .i64 on.p.cyc,(.slice on.ad on.n on.c)])::(113,.slice (some ⟨b_s57,0,none⟩) 1 1)::LZ1031):=hf
                clear hD
                refine O.append1 (j:=2) (jj:=0) hf hS rfl rfl T_elem_39 T_size_46 T_bytes_46 T_zero_46 rfl rfl rfl rfl rfl rfl rfl rfl (by unfold maxLen; omega) (by omega) ?_
                clear hf hS a; intro v64 w a hS hf
                replace hS:=hS.eqM (N:=(pt b_s57 (.cells #[.int .i64 on.p.num,.int .i64 on.p.yr,.int .u8 on.p.half,.int .u8 on.p.sec,.int .i64 on.p.cyc,(.slice on.ad on.n on.c)] 46 (0,0))::obF ((os.getD ia default).l++[c.b]) on::sl 46 6 v64 ((delR os ia).length+1) (encs eO (delR os ia)++[.int .i64 on.p.num,.int .i64 on.p.yr,.int .u8 on.p.half,.int .u8 on.p.sec,.int .i64 on.p.cyc,(.slice on.ad on.n on.c)])::pt b_s52 (.cells #[.int .i64 c.b.num,.int .i64 c.b.yr,.int .u8 c.b.half,.int .u8 c.b.sec,.int .i64 c.b.cyc] 24 (0,0))::sl 24 5 v55 ((((os.getD ia default).l)++[c.b]).length) (encs eD (((os.getD ia default).l)++[c.b]))::MZ1031)) rfl
                replace hS:=hS.reE (i:=2) (M':=(pt b_s57 (.cells #[.int .i64 on.p.num,.int .i64 on.p.yr,.int .u8 on.p.half,.int .u8 on.p.sec,.int .i64 on.p.cyc,(.slice on.ad on.n on.c)] 46 (0,0))::obF ((os.getD ia default).l++[c.b]) on::sl 46 6 v64 (((delR os ia)++[on]).length) (encs eO ((delR os ia)++[on]))::pt b_s52 (.cells #[.int .i64 c.b.num,.int .i64 c.b.yr,.int .u8 c.b.half,.int .u8 c.b.sec,.int .i64 c.b.cyc] 24 (0,0))::sl 24 5 v55 ((((os.getD ia default).l)++[c.b]).length) (encs eD (((os.getD ia default).l)++[c.b]))::MZ1031)) rfl (sl_snoc (enc:=eO) (l:=(delR os ia)) (x:=on)) rfl
                exact O.nil ⟨rfl,(b_s51,b_s52,wv1,v54,v55,on,b_s57,v64),hf.to trivial,(gt (d:=114) hf rfl rfl),(fun j_ hj_ ha_=>match j_,hj_,ha_ with | 0,hj_,ha_=>rfl | 1,hj_,ha_=>rfl | 2,hj_,ha_=>rfl | 3,hj_,ha_=>rfl | 4,hj_,ha_=>rfl | 5,hj_,ha_=>rfl | 6,hj_,ha_=>rfl | 7,hj_,ha_=>rfl | 8,hj_,ha_=>rfl | 9,hj_,ha_=>rfl | 10,hj_,ha_=>rfl | 11,hj_,ha_=>rfl | 12,hj_,ha_=>rfl | 13,hj_,ha_=>rfl | 14,hj_,ha_=>rfl | 15,hj_,ha_=>rfl | 16,hj_,ha_=>absurd rfl hj_ | 17,hj_,ha_=>absurd ha_ (by decide) | 18,hj_,ha_=>absurd ha_ (by decide) | _+19,_,_=>rfl),hS⟩
            · clear hf hf1 hS
              refine ⟨?_,?_,trivial⟩
              · intro k s g w h1_ h2_ hs0 hD a hf
                obtain ⟨b_s51,b_s52,wv1,v54,v55,on,b_s57,v58⟩:=g
                rcases k with _ | _ | k
                · have hS:St w0 w noX BZ1031 (condA (s 12) (pt b_s52 (.cells #[.int .i64 c.b.num,.int .i64 c.b.yr,.int .u8 c.b.half,.int .u8 c.b.sec,.int .i64 c.b.cyc] 24 (0,0)))::condA (s 3) (sl 24 5 (.slice (some ⟨b_s51,0,none⟩) 0 0) 0 ([]))::MZ1031):=hD; clear hD
                  replace hf:Fr a 115 [] LZ1031:=hf
                  refine O.build0C (j:=1) hf hS rfl hs0 rfl rfl T_elem_35 T_size_24 rfl ?_; clear hf hS a; intro b_s65 w a hS hf
                  exact O.nil ⟨rfl,(b_s65,b_s52,wv1,v54,v55,on,b_s57,v58),hf.to trivial,(gt (d:=101) hf rfl rfl),(fun j_ hj_ ha_=>match j_,hj_,ha_ with | 0,hj_,ha_=>rfl | 1,hj_,ha_=>rfl | 2,hj_,ha_=>rfl | 3,hj_,ha_=>absurd rfl hj_ | 4,hj_,ha_=>rfl | 5,hj_,ha_=>rfl | 6,hj_,ha_=>rfl | 7,hj_,ha_=>rfl | 8,hj_,ha_=>rfl | 9,hj_,ha_=>absurd ha_ (by decide) | 10,hj_,ha_=>rfl | 11,hj_,ha_=>rfl | 12,hj_,ha_=>rfl | 13,hj_,ha_=>absurd ha_ (by decide) | 14,hj_,ha_=>absurd ha_ (by decide) | 15,hj_,ha_=>absurd ha_ (by decide) | 16,hj_,ha_=>absurd ha_ (by decide) | 17,hj_,ha_=>absurd ha_ (by decide) | 18,hj_,ha_=>absurd ha_ (by decide) | _+19,_,_=>rfl),hS⟩
                · have hS:St w0 w noX BZ1031 (sl 46 6 wv1 ((delR os ia).length) (encs eO (delR os ia))::condA (s 12) (pt b_s52 (.cells #[.int .i64 c.b.num,.int .i64 c.b.yr,.int .u8 c.b.half,.int .u8 c.b.sec,.int .i64 c.b.cyc] 24 (0,0)))::condA (s 3) (sl 24 5 (.slice (some ⟨b_s51,0,none⟩) 0 0) 0 ([]))::MZ1031):=hD; clear hD
                  replace hf:Fr a 115 [] LZ1031:=hf
                  refine O.build0C (j:=2) hf hS rfl hs0 rfl rfl T_elem_35 T_size_24 rfl ?_; clear hf hS a; intro b_s66 w a hS hf
                  exact O.nil ⟨rfl,(b_s66,b_s52,wv1,v54,v55,on,b_s57,v58),hf.to trivial,(gt (d:=101) hf rfl rfl),(fun j_ hj_ ha_=>match j_,hj_,ha_ with | 0,hj_,ha_=>rfl | 1,hj_,ha_=>rfl | 2,hj_,ha_=>rfl | 3,hj_,ha_=>absurd rfl hj_ | 4,hj_,ha_=>rfl | 5,hj_,ha_=>rfl | 6,hj_,ha_=>rfl | 7,hj_,ha_=>rfl | 8,hj_,ha_=>rfl | 9,hj_,ha_=>absurd ha_ (by decide) | 10,hj_,ha_=>rfl | 11,hj_,ha_=>rfl | 12,hj_,ha_=>rfl | 13,hj_,ha_=>absurd ha_ (by decide) | 14,hj_,ha_=>absurd ha_ (by decide) | 15,hj_,ha_=>absurd ha_ (by decide) | 16,hj_,ha_=>absurd ha_ (by decide) | 17,hj_,ha_=>absurd ha_ (by decide) | 18,hj_,ha_=>absurd ha_ (by decide) | _+19,_,_=>rfl),hS⟩
                · exact absurd h2_ (by simp)
              · intro k s g w h1_ h2_ hs0 hD a hf
                obtain ⟨b_s51,b_s52,wv1,v54,v55,on,b_s57,v58⟩:=g
                rcases k with _ | _ | _ | k
                · have hS:St w0 w noX BZ1031 (condA (s 12) (pt b_s52 (.cells #[.int .i64 c.b.num,.int .i64 c.b.yr,.int .u8 c.b.half,.int .u8 c.b.sec,.int .i64 c.b.cyc] 24 (0,0)))::condA (s 3) (sl 24 5 (.slice (some ⟨b_s51,0,none⟩) 0 0) 0 ([]))::MZ1031):=hD; clear hD
                  replace hf:Fr a 115 [] ((109,.agg #[.int .i64 c.b.num,.int .i64 c.b.yr,.int .u8 c.b.half,.int .u8 c.b.sec,.int .i64 c.b.cyc])::LZ1031):=hf
                  refine O.buildC (j:=0) (cs':=#[.int .i64 c.b.num,.int .i64 c.b.yr,.int .u8 c.b.half,.int .u8 c.b.sec,.int .i64 c.b.cyc]) (zs:=#[.int .i64 0,.int .i64 0,.int .u8 0,.int .u8 0,.int .i64 0]) hf hS rfl hs0 rfl rfl T_elem_35 T_size_24 T_zero_24 rfl rfl rfl rfl rfl ?_; clear hf hS a; intro b_s67 w a hS hf
                  exact O.nil ⟨rfl,(b_s51,b_s67,wv1,v54,v55,on,b_s57,v58),hf.to trivial,(gt (d:=110) hf rfl rfl),(fun j_ hj_ ha_=>match j_,hj_,ha_ with | 0,hj_,ha_=>rfl | 1,hj_,ha_=>rfl | 2,hj_,ha_=>rfl | 3,hj_,ha_=>rfl | 4,hj_,ha_=>rfl | 5,hj_,ha_=>rfl | 6,hj_,ha_=>rfl | 7,hj_,ha_=>rfl | 8,hj_,ha_=>rfl | 9,hj_,ha_=>rfl | 10,hj_,ha_=>rfl | 11,hj_,ha_=>rfl | 12,hj_,ha_=>absurd rfl hj_ | 13,hj_,ha_=>absurd ha_ (by decide) | 14,hj_,ha_=>absurd ha_ (by decide) | 15,hj_,ha_=>absurd ha_ (by decide) | 16,hj_,ha_=>absurd ha_ (by decide) | 17,hj_,ha_=>absurd ha_ (by decide) | 18,hj_,ha_=>absurd ha_ (by decide) | _+19,_,_=>rfl),hS⟩
                · have hS:St w0 w noX BZ1031 (sl 46 6 wv1 ((delR os ia).length) (encs eO (delR os ia))::condA (s 12) (pt b_s52 (.cells #[.int .i64 c.b.num,.int .i64 c.b.yr,.int .u8 c.b.half,.int .u8 c.b.sec,.int .i64 c.b.cyc] 24 (0,0)))::condA (s 3) (sl 24 5 (.slice (some ⟨b_s51,0,none⟩) 0 0) 0 ([]))::MZ1031):=hD; clear hD
                  replace hf:Fr a 115 [] ((109,.agg #[.int .i64 c.b.num,.int .i64 c.b.yr,.int .u8 c.b.half,.int .u8 c.b.sec,.int .i64 c.b.cyc])::LZ1031):=hf
                  refine O.buildC (j:=1) (cs':=#[.int .i64 c.b.num,.int .i64 c.b.yr,.int .u8 c.b.half,.int .u8 c.b.sec,.int .i64 c.b.cyc]) (zs:=#[.int .i64 0,.int .i64 0,.int .u8 0,.int .u8 0,.int .i64 0]) hf hS rfl hs0 rfl rfl T_elem_35 T_size_24 T_zero_24 rfl rfl rfl rfl rfl ?_; clear hf hS a; intro b_s68 w a hS hf
                  exact O.nil ⟨rfl,(b_s51,b_s68,wv1,v54,v55,on,b_s57,v58),hf.to trivial,(gt (d:=110) hf rfl rfl),(fun j_ hj_ ha_=>match j_,hj_,ha_ with | 0,hj_,ha_=>rfl | 1,hj_,ha_=>rfl | 2,hj_,ha_=>rfl | 3,hj_,ha_=>rfl | 4,hj_,ha_=>rfl | 5,hj_,ha_=>rfl | 6,hj_,ha_=>rfl | 7,hj_,ha_=>rfl | 8,hj_,ha_=>rfl | 9,hj_,ha_=>rfl | 10,hj_,ha_=>rfl | 11,hj_,ha_=>rfl | 12,hj_,ha_=>absurd rfl hj_ | 13,hj_,ha_=>absurd ha_ (by decide) | 14,hj_,ha_=>absurd ha_ (by decide) | 15,hj_,ha_=>absurd ha_ (by decide) | 16,hj_,ha_=>absurd ha_ (by decide) | 17,hj_,ha_=>absurd ha_ (by decide) | 18,hj_,ha_=>absurd ha_ (by decide) | _+19,_,_=>rfl),hS⟩
                · have hS:St w0 w noX BZ1031 (sl 46 6 wv1 ((delR os ia).length) (encs eO (delR os ia))::condA (s 12) (pt b_s52 (.cells #[.int .i64 c.b.num,.int .i64 c.b.yr,.int .u8 c.b.half,.int .u8 c.b.sec,.int .i64 c.b.cyc] 24 (0,0)))::sl 24 5 v54 (((os.getD ia default).l).length) (encs eD ((os.getD ia default).l))::MZ1031):=hD; clear hD
                  replace hf:Fr a 115 [] ((109,.agg #[.int .i64 c.b.num,.int .i64 c.b.yr,.int .u8 c.b.half,.int .u8 c.b.sec,.int .i64 c.b.cyc])::LZ1031):=hf
                  refine O.buildC (j:=1) (cs':=#[.int .i64 c.b.num,.int .i64 c.b.yr,.int .u8 c.b.half,.int .u8 c.b.sec,.int .i64 c.b.cyc]) (zs:=#[.int .i64 0,.int .i64 0,.int .u8 0,.int .u8 0,.int .i64 0]) hf hS rfl hs0 rfl rfl T_elem_35 T_size_24 T_zero_24 rfl rfl rfl rfl rfl ?_; clear hf hS a; intro b_s69 w a hS hf
                  exact O.nil ⟨rfl,(b_s51,b_s69,wv1,v54,v55,on,b_s57,v58),hf.to trivial,(gt (d:=110) hf rfl rfl),(fun j_ hj_ ha_=>match j_,hj_,ha_ with | 0,hj_,ha_=>rfl | 1,hj_,ha_=>rfl | 2,hj_,ha_=>rfl | 3,hj_,ha_=>rfl | 4,hj_,ha_=>rfl | 5,hj_,ha_=>rfl | 6,hj_,ha_=>rfl | 7,hj_,ha_=>rfl | 8,hj_,ha_=>rfl | 9,hj_,ha_=>rfl | 10,hj_,ha_=>rfl | 11,hj_,ha_=>rfl | 12,hj_,ha_=>absurd rfl hj_ | 13,hj_,ha_=>absurd ha_ (by decide) | 14,hj_,ha_=>absurd ha_ (by decide) | 15,hj_,ha_=>absurd ha_ (by decide) | 16,hj_,ha_=>absurd ha_ (by decide) | 17,hj_,ha_=>absurd ha_ (by decide) | 18,hj_,ha_=>absurd ha_ (by decide) | _+19,_,_=>rfl),hS⟩
                · exact absurd h2_ (by simp)
            clear hf hf1 hS; intro s g a w hs_ hf hD
            obtain ⟨b_s51,b_s52,wv1,v54,v55,on,b_s57,v58⟩:=g
            have ha_3:s 3=true:=hs_ 3 (by simp)
            have ha_12:s 12=true:=hs_ 12 (by simp)
            have hS:St w0 w noX BZ1031 (pt b_s57 (.cells #[.int .i64 on.p.num,.int .i64 on.p.yr,.int .u8 on.p.half,.int .u8 on.p.sec,.int .i64 on.p.cyc,(.slice on.ad on.n on.c)] 46 (0,0))::obF ((os.getD ia default).l++[c.b]) on::sl 46 6 v58 (((delR os ia)++[on]).length) (encs eO ((delR os ia)++[on]))::pt b_s52 (.cells #[.int .i64 c.b.num,.int .i64 c.b.yr,.int .u8 c.b.half,.int .u8 c.b.sec,.int .i64 c.b.cyc] 24 (0,0))::sl 24 5 v55 ((((os.getD ia default).l)++[c.b]).length) (encs eD (((os.getD ia default).l)++[c.b]))::MZ1031):=hD; clear hD
            replace hf:Fr a 115 [] ((98,vo)::(99,.int .i64 fa)::(100,wv1)::(101,.slice (some ⟨b_s51,0,none⟩) 0 0)::(102,vo)::(103,.int .i64 fa)::(104,ix vo (ia*6))::(105,ix vo (ia*6+5))::(106,(os.getD ia default).v)::(107,v54)::(108,.pointer (some ⟨b_c1,6,none⟩))::(109,.agg #[.int .i64 c.b.num,.int .i64 c.b.yr,.int .u8 c.b.half,.int .u8 c.b.sec,.int .i64 c.b.cyc])::(110,.slice (some ⟨b_s52,0,none⟩) 1 1)::(111,v55)::(112,.agg #[.int .i64 on.p.num,.int .i64 on.p.yr,.int .u8 on.p.half,.int .u8 on.p.sec,.int .i64 on.p.cyc,(.slice on.ad on.n on.c)])::(113,.slice (some ⟨b_s57,0,none⟩) 1 1)::(114,v58)::(4,v58)::(5,.int .i64 0)::LZ1031):=hf
            refine k_seq ?_
            replace hf:Fr a 115 [] [(4,v58),(5,.int .i64 0)]:=hf.to ⟨rfl,rfl,trivial⟩
            refine W.ret ?_
            refine post2 hf rfl (ResOK.tmp rfl) (ResOK.tmp rfl) ?_
            replace hS:=hS.front (i:=2) (M':=(sl 46 6 v58 (((delR os ia)++[on]).length) (encs eO ((delR os ia)++[on]))::pt b_s57 (.cells #[.int .i64 on.p.num,.int .i64 on.p.yr,.int .u8 on.p.half,.int .u8 on.p.sec,.int .i64 on.p.cyc,(.slice on.ad on.n on.c)] 46 (0,0))::obF ((os.getD ia default).l++[c.b]) on::pt b_s52 (.cells #[.int .i64 c.b.num,.int .i64 c.b.yr,.int .u8 c.b.half,.int .u8 c.b.sec,.int .i64 c.b.cyc] 24 (0,0))::sl 24 5 v55 ((((os.getD ia default).l)++[c.b]).length) (encs eD (((os.getD ia default).l)++[c.b]))::MZ1031)) rfl rfl
            obtain ⟨hS2,hon⟩:=St.obFin (hS.sub (N:=[sl 46 6 v58 (((delR os ia)++[on]).length) (encs eO ((delR os ia)++[on])),obF ((os.getD ia default).l++[c.b]) on]) (.cons_cons _ (.cons _ (.cons_cons _ (.cons _ (.cons _ (.cons _ .slnil))))))).noB
            exact ⟨(v58,0,((delR os ia)++[on]),[on]),rfl,hS2,NextR.name hk1 hk2 (hfa▸hia) hil (by rw [← hfb]; exact hB) hN hon⟩
end Go.Proofs.YtgakdmmmljdpjaaDoor
