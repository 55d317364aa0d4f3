/- Part of a proof: laws and walks. -/
import Derived.Test.YtgakdmmmljdpjaaDoorTac
import Derived.Test.YtgakdmmmljdpjaaDoorTan
set_option linter.unusedVariables false
set_option linter.unusedSimpArgs false
set_option maxHeartbeats 1000000
set_option maxRecDepth 8000
namespace Go.Proofs.YtgakdmmmljdpjaaDoor
open Go Go.SL
theorem C_ok_15:callOK Tryd.prog 15=true:=by kernel_rfl
set_option maxHeartbeats 2000000 in
set_option maxRecDepth 4000 in
theorem find_spec (vo:Value) (os:List Ob) (d:Dg) (w0:World) (hl:rdOK (hp w0) 6 vo os.length (encs eO os)) (ho:obsRd w0 os) :
    Ret Tryd.prog 43 #[vo,.agg (aD d)] w0 (G:=Unit) (fun _=>.int .i64 (findR (os.map prO) d)) (fun _ w=>St w0 w noX [] []):=by
  refine ret_of_W (lv:=[vo,.agg (aD d)]) Tryd.func43 rfl rfl rfl (fun a hf=>?_); replace hf:Fr a 34 [] [(0,vo),(1,.agg (aD d))]:=hf; have hS:St w0 w0 noX [rdv 6 vo os.length (encs eO os),allA (os.map rdOb)] []:=((St.refl w0).lendObs ho).lend0 hl; have hlm:=hl.2.1; unfold maxLen at hlm; have hom:=fun (k:Nat) (hk:k<os.length)=>(ho.at hk).2.1; unfold maxLen at hom; clear hl ho; refine W.seq ?_
  refine W.regionL (l:=[0,1]) rfl<|O.box (cs:=(aD d)) hf hS rfl rfl rfl rfl<|?_; intro b_d1 w a hbb_d1 hS hf; refine mv hf rfl ?_; clear hf a; intro a hf; refine nk<|W.seq<|W.seq<|?_
  refine W.regionL (l:=[0]) rfl<|mv hf rfl<|?_; clear hf a; intro a hf; refine nk<|W.block<|?_
  refine W.loop (G:=(Nat)) (fun g a w=>match g with | i=>Fr a 34 [] [(0,vo),(3,.pointer (some ⟨b_d1,0,none⟩)),(5,.int .i64 (i:Int))]∧St w0 w noX [rdv 6 vo os.length (encs eO os),allA (os.map rdOb)] [pt b_d1 (.cells (aD d) 24 (0,0))]∧(i≤os.length)∧(∀ j,j<i→d ∉ (os.getD j default).l)) (fun g=>match g with | i=>os.length-i) 0 ?_ ?_
  · refine ⟨hf.to ⟨rfl,rfl,(by first | rfl | exact congrArg some (congrArg (Value.int _) (by omega))),trivial⟩,hS,?_,?_⟩
    · omega
    · intro j hj; omega
  clear hf hS a; rintro i a w ⟨hf,hS,hi,h1⟩; refine W.seq<|W.seq<|?_
  refine W.regionL (l:=[0,1,2,3]) rfl<|mv hf rfl<|?_; clear hf a; intro a hf; refine mv hf rfl ?_; clear hf a; intro a hf; refine ov hf rfl (RunV.lenV (e:=46) (by simpa using T_elem_39) rfl (hS.rdAt (j:=0) rfl)) ?_; clear hf a; intro a hf; refine ov (v:=.bool (decide ((i:Int)<((os.length:Int):Int)))) hf rfl (RunV.lss rfl rfl) ?_; clear hf a; intro a hf; refine nk ?_; refine W.ifdI hf rfl (fun hc2=>?_) (fun hc2=>?_)
  · refine W.skip ?_
    refine k_seq<|W.seq<|W.block<|W.seq<|?_
    refine W.regionL (l:=[0]) rfl<|mv hf rfl<|?_; clear hf a; intro a hf; refine nk<|W.block<|?_
    refine W.loop (G:=(Nat)) (fun g a w=>match g with | k=>Fr a 34 [] [(0,vo),(3,.pointer (some ⟨b_d1,0,none⟩)),(5,.int .i64 (i:Int)),(6,.int .i64 (k:Int))]∧St w0 w noX [rdv 6 vo os.length (encs eO os),allA (os.map rdOb)] [pt b_d1 (.cells (aD d) 24 (0,0))]∧(k≤(os.getD i default).l.length)∧(∀ j,j<k→(os.getD i default).l.getD j default≠d)) (fun g=>match g with | k=>(os.getD i default).l.length-k) 0 ?_ ?_
    · refine ⟨hf.to ⟨rfl,rfl,rfl,(by first | rfl | exact congrArg some (congrArg (Value.int _) (by omega))),trivial⟩,hS,?_,?_⟩
      · omega
      · intro j hj; omega
    clear hf hS a; rintro k a w ⟨hf,hS,hk,h2⟩; refine W.seq<|W.seq<|?_
    refine W.regionL (l:=[0,1,2,3,4,5,6,7]) rfl ?_; have hom1:=hom i (by omega); refine mv hf rfl ?_; clear hf a; intro a hf; refine mv hf rfl ?_; clear hf a; intro a hf; refine mv hf rfl ?_; clear hf a; intro a hf; refine ov hf rfl (RunV.ixV (j:=i) (m:=i*6) T_elem_39 T_size_46 rfl rfl (hS.rdAt (j:=0) rfl) rfl (by omega) rfl) ?_; clear hf a; intro a hf; refine ov hf rfl (RunV.ixF T_field_46_1 rfl (hS.rdAt (j:=0) rfl) (by omega) rfl) ?_; clear hf a; intro a hf; refine ov hf rfl (RunV.ldG2 (j:=i) (o:=5) (sz:=6) (enc:=eO) (l:=os) T_agg_35 eO_len rfl (hS.rdAt (j:=0) rfl) (by omega) rfl rfl) ?_; clear hf a; intro a hf; refine ov hf rfl (RunV.lenV (e:=24) (by simpa using T_elem_35) rfl ((hS.obAt (i:=1) rfl).at (k:=i) (by omega))) ?_; clear hf a; intro a hf; refine ov (v:=.bool (decide ((k:Int)<(((os.getD i default).l.length:Int):Int)))) hf rfl (RunV.lss rfl rfl) ?_; clear hf a; intro a hf; refine nk ?_; refine W.ifdI hf rfl (fun hc3=>?_) (fun hc3=>?_)
    · refine W.skip ?_
      refine k_seq<|W.seq<|W.block<|W.seq<|?_
      refine W.drawQ (fun w=>St w0 w noX [rdv 6 vo os.length (encs eO os),allA (os.map rdOb)] [pt b_d1 (.cells (aD d) 24 (0,0))]) P_mixed rfl (by kernel_rfl) rfl hS.drew ?_; clear hS; refine OQ.val (v:=vo) hf rfl (fun w hS=>RunV.move rfl) fun a hf=>OQ.val (v:=.int .i64 (i:Int)) hf rfl (fun w hS=>RunV.move rfl) fun a hf=>OQ.val (v:=ix vo (i*6)) hf rfl (fun w hS=>RunV.ixV (j:=i) (m:=i*6) T_elem_39 T_size_46 rfl rfl (hS.rdAt (j:=0) rfl) rfl (by omega) rfl) fun a hf=>OQ.val (v:=ix vo (i*6+5)) hf rfl (fun w hS=>RunV.ixF T_field_46_1 rfl (hS.rdAt (j:=0) rfl) (by omega) rfl) fun a hf=>OQ.val (v:=(os.getD i default).v) hf rfl (fun w hS=>RunV.ldG2 (j:=i) (o:=5) (sz:=6) (enc:=eO) (l:=os) T_agg_35 eO_len rfl (hS.rdAt (j:=0) rfl) (by omega) rfl rfl) fun a hf=>OQ.val (v:=.int .i64 (k:Int)) hf rfl (fun w hS=>RunV.move rfl) fun a hf=>OQ.val (v:=ix ((os.getD i default).v) (k*5)) hf rfl (fun w hS=>RunV.ixV (j:=k) (m:=k*5) T_elem_35 T_size_24 rfl rfl ((hS.obAt (i:=1) rfl).at (k:=i) (by omega)) rfl (by omega) rfl) fun a hf=>OQ.val (v:=.agg (aD ((os.getD i default).l.getD k default))) hf rfl (fun w hS=>RunV.ldG (j:=k) (enc:=eD) (l:=(os.getD i default).l) (us:=[.int .i64 (((os.getD i default).l.getD k default).num),.int .i64 (((os.getD i default).l.getD k default).yr),.int .u8 (((os.getD i default).l.getD k default).half),.int .u8 (((os.getD i default).l.getD k default).sec),.int .i64 (((os.getD i default).l.getD k default).cyc)]) T_agg_24 T_size_24 rfl eD_len rfl ((hS.obAt (i:=1) rfl).at (k:=i) (by omega)) (by omega) rfl) fun a hf=>OQ.val (v:=.agg (aD d)) hf rfl (fun w hS=>RunV.loadN (cs':=(aD d)) T_agg_24 T_size_24 rfl (hS.p 0 rfl) (bl rfl) rfl) fun a hf=>OQ.val (v:=.bool (decide (((os.getD i default).l.getD k default)=d))) hf rfl (fun w hS=>eqD rfl ((os.getD i default).l.getD k default) d eqGuard24 rfl rfl) fun a hf=>?_; refine OQ.nil ?_; intro w hS; refine k_seq ?_; refine W.ifdI hf rfl (fun hd=>?_) (fun hd=>?_)
      · refine W.seq ?_
        refine W.regionL (l:=[0,1]) rfl<|mv hf rfl<|?_; clear hf a; intro a hf; refine mv hf rfl ?_; clear hf a; intro a hf; refine nk<|W.ret<|k_blk_ret<|k_then_ret<|k_then_ret<|k_blk_ret<|k_blk_ret<|k_then_ret<|k_then_ret<|k_blk_ret<|?_; refine k_then_ret<|post1 hf rfl (ResOK.tmp rfl)<|?_; exact ⟨(),congrArg (fun x=>Ending.returned (Value.int .i64 x)) (find_hitO h1 (by omega) (k:=k) (by omega) hd).symm,hS.sub (List.nil_sublist _) |>.noB⟩
      · refine W.skip ?_
        refine k_blk_normal<|k_seq<|?_
        refine W.regionL (l:=[0,1,2]) rfl<|mv hf rfl<|?_; clear hf a; intro a hf; refine ov hf rfl (RunV.addI rfl rfl (by omega)) ?_; clear hf a; intro a hf; refine mv hf rfl ?_; clear hf a; intro a hf; refine O.nil ?_; refine k_then ⟨(k+1),⟨hf.to ⟨rfl,rfl,rfl,(by first | rfl | exact congrArg some (congrArg (Value.int _) (by omega))),trivial⟩,?_,?_,?_⟩,?_⟩
        · exact hS.eqM rfl
        · omega
        · intro j hj; by_cases hjk:j<k
          · exact h2 j hjk
          · have:j=k:=by omega
            subst this; exact hd
        · dsimp only; omega
    · refine W.exit ?_
      refine k_then_exit<|k_then_exit<|k_blk<|k_blk_normal<|k_seq<|?_
      refine W.regionL (l:=[0,1,2]) rfl<|mv hf rfl<|?_; clear hf a; intro a hf; refine ov hf rfl (RunV.addI rfl rfl (by omega)) ?_; clear hf a; intro a hf; refine mv hf rfl ?_; clear hf a; intro a hf; refine O.nil ?_; refine k_then ⟨(i+1),⟨hf.to ⟨rfl,rfl,(by first | rfl | exact congrArg some (congrArg (Value.int _) (by omega))),trivial⟩,?_,?_,?_⟩,?_⟩
      · exact hS.eqM rfl
      · omega
      · intro j hj; by_cases hji:j<i
        · exact h1 j hji
        · have:j=i:=by omega
          subst this; exact fd_row (n:=k) (by omega) h2
      · dsimp only; omega
  · refine W.exit ?_
    refine k_then_exit<|k_then_exit<|k_blk<|k_seq<|?_; replace hf:Fr a 34 [] []:=hf.to trivial; refine W.seq ?_
    refine W.regionL (l:=[0]) rfl<|mv hf rfl<|?_; clear hf a; intro a hf; refine nk<|W.ret<|post1 hf rfl (ResOK.tmp rfl)<|?_; exact ⟨(),congrArg (fun x=>Ending.returned (Value.int .i64 x)) (find_noneO (by omega) h1).symm,hS.sub (List.nil_sublist _) |>.noB⟩
set_option maxHeartbeats 400000 in
set_option maxRecDepth 4000 in
theorem without_spec (vo:Value) (os:List Ob) (i:Nat) (w0:World) (hl:rdOK (hp w0) 6 vo os.length (encs eO os)) (hfit:vfit vo) (hi:i<os.length) (hz:os.length≤1000) :
    Ret Tryd.prog 60 #[vo,.int .i64 (i:Int)] w0 (G:=Value) (fun g=>g) (fun g w=>St w0 w noX [] [sl 46 6 g (delR os i).length (encs eO (delR os i))]):=by
  refine ret_of_W (lv:=[vo,.int .i64 (i:Int)]) Tryd.func60 rfl rfl rfl (fun a hf=>?_); replace hf:Fr a 15 [] [(0,vo),(1,.int .i64 (i:Int))]:=hf; have hS:St w0 w0 noX [rdv 6 vo os.length (encs eO os)] []:=(St.refl w0).lend0 hl; have hlm:=hl.2.1; unfold maxLen at hlm; have hs1:sbd 0 (i:Int) (os.length:Int):=⟨by omega,by omega,by omega⟩; have hs2:sbd ((i:Int)+1) (os.length:Int) (os.length:Int):=⟨by omega,by omega,by omega⟩; have hl1:=lsub_len hs1; have hl2:=lsub_len hs2; refine W.seq ?_
  refine W.regionL (l:=[0]) rfl<|mv hf rfl<|?_; clear hf a; intro a hf; refine nk<|W.seq<|?_
  replace hf:Fr a 15 [] [(0,vo),(1,.int .i64 (i:Int))]:=hf.q rfl; refine W.drawC (γ:=(Nat) × (Value) × (Value)) (L0:=[(0,vo),(1,.int .i64 (i:Int))]) (L1:=[]) (0,default,default) [0,4,9] [] [1,2,3,5,6,7,8,10] (fun i_=>match i_ with | 0=>[] | 1=>[] | 2=>[] | 3=>[1,2] | 4=>[0,3] | 5=>[] | 6=>[] | 7=>[6] | 8=>[5,7] | 9=>[4,8] | 10=>[0,1,2,3,4,5,6,7,8,9] | _=>[]) (fun i_=>match i_ with | 0=>[] | 1=>[] | 2=>[] | 3=>[] | 4=>[0] | 5=>[] | 6=>[] | 7=>[] | 8=>[] | 9=>[0,4] | 10=>[0,4,9] | _=>[]) (fun i_=>match i_ with | 0=>[4,9] | 1=>[4,9] | 2=>[4,9] | 3=>[4,9] | 4=>[9] | 5=>[9] | 6=>[9] | 7=>[9] | 8=>[9] | 9=>[] | 10=>[] | _=>[]) (fun _=>[]) (fun i_=>match i_ with | 0=>[4,9,10] | 1=>[] | 2=>[] | 3=>[] | 4=>[9,10] | 5=>[] | 6=>[] | 7=>[] | 8=>[] | 9=>[10] | 10=>[] | _=>[]) (fun _=>[]) (fun i_=>match i_ with | 0=>0 | 1=>0 | 2=>0 | 3=>0 | 4=>1 | 5=>0 | 6=>0 | 7=>0 | 8=>0 | 9=>2 | 10=>3 | _=>0) (fun i_=>match i_ with | 0=>1 | 1=>1 | 2=>1 | 3=>1 | 4=>2 | 5=>2 | 6=>2 | 7=>2 | 8=>2 | 9=>3 | 10=>3 | _=>0) (fun (g:(Nat) × (Value) × (Value)) j_=>match g,j_ with | ⟨b_s1,v2,v3⟩,0=>.slice (some ⟨b_s1,0,none⟩) 0 0 | ⟨b_s1,v2,v3⟩,1=>vo | ⟨b_s1,v2,v3⟩,2=>.int .i64 (i:Int) | ⟨b_s1,v2,v3⟩,3=>(vsub 6 vo 0 (i:Int)) | ⟨b_s1,v2,v3⟩,4=>v2 | ⟨b_s1,v2,v3⟩,5=>vo | ⟨b_s1,v2,v3⟩,6=>.int .i64 (i:Int) | ⟨b_s1,v2,v3⟩,7=>.int .i64 ((i:Int)+1) | ⟨b_s1,v2,v3⟩,8=>(vsub 6 vo ((i:Int)+1) (os.length:Int)) | ⟨b_s1,v2,v3⟩,9=>v3 | ⟨b_s1,v2,v3⟩,10=>v3 | _,_=>undef) (fun k_ (_:Nat→Bool) (g:(Nat) × (Value) × (Value)) w=>match k_,g with | 0,⟨b_s1,v2,v3⟩=>St w0 w noX [rdv 6 vo os.length (encs eO os)] [] | 1,⟨b_s1,v2,v3⟩=>St w0 w noX [rdv 6 vo os.length (encs eO os)] [sl 46 6 (.slice (some ⟨b_s1,0,none⟩) 0 0) 0 ([])] | 2,⟨b_s1,v2,v3⟩=>St w0 w noX [rdv 6 vo os.length (encs eO os)] [sl 46 6 v2 ((lsub os 0 (i:Int)).length) (encs eO (lsub os 0 (i:Int)))] | _,⟨b_s1,v2,v3⟩=>St w0 w noX [rdv 6 vo os.length (encs eO os)] [sl 46 6 v3 ((delR os i).length) (encs eO (delR os i))]) P_mixed (by kernel_rfl) (by kernel_rfl) (by kernel_rfl) hf (hf.to trivial) hS.drew ?_ ?_ trivial ?_
  · clear hf hS
    refine ⟨?_,?_,?_,?_,?_,?_,?_,?_,trivial⟩
    · intro k_ s_ g w hlo hhi _ hD a hf
      obtain ⟨b_s1,v2,v3⟩:=g
      rcases k_ with _ | _ | _ | k_
      · have hS:St w0 w noX [rdv 6 vo os.length (encs eO os)] []:=hD; clear hD
        replace hf:Fr a 15 [] [(0,vo),(1,.int .i64 (i:Int))]:=hf.q rfl; refine mv hf rfl ?_; clear hf a; intro a hf; exact O.nil ⟨rfl,hf.to trivial,(gt (d:=6) hf rfl rfl),hS⟩
      · have hS:St w0 w noX [rdv 6 vo os.length (encs eO os)] [sl 46 6 (.slice (some ⟨b_s1,0,none⟩) 0 0) 0 ([])]:=hD; clear hD
        replace hf:Fr a 15 [] [(0,vo),(1,.int .i64 (i:Int))]:=hf.q rfl; refine mv hf rfl ?_; clear hf a; intro a hf; exact O.nil ⟨rfl,hf.to trivial,(gt (d:=6) hf rfl rfl),hS⟩
      · exact absurd hhi (by decide)
      · have hhi:k_+3≤1:=hhi; omega
    · intro k_ s_ g w hlo hhi _ hD a hf
      obtain ⟨b_s1,v2,v3⟩:=g
      rcases k_ with _ | _ | _ | k_
      · have hS:St w0 w noX [rdv 6 vo os.length (encs eO os)] []:=hD; clear hD
        replace hf:Fr a 15 [] [(0,vo),(1,.int .i64 (i:Int))]:=hf.q rfl; refine mv hf rfl ?_; clear hf a; intro a hf; exact O.nil ⟨rfl,hf.to trivial,(gt (d:=7) hf rfl rfl),hS⟩
      · have hS:St w0 w noX [rdv 6 vo os.length (encs eO os)] [sl 46 6 (.slice (some ⟨b_s1,0,none⟩) 0 0) 0 ([])]:=hD; clear hD
        replace hf:Fr a 15 [] [(0,vo),(1,.int .i64 (i:Int))]:=hf.q rfl; refine mv hf rfl ?_; clear hf a; intro a hf; exact O.nil ⟨rfl,hf.to trivial,(gt (d:=7) hf rfl rfl),hS⟩
      · exact absurd hhi (by decide)
      · have hhi:k_+3≤1:=hhi; omega
    · intro k_ s_ g w hlo hhi _ hD a hf
      obtain ⟨b_s1,v2,v3⟩:=g
      rcases k_ with _ | _ | _ | k_
      · have hS:St w0 w noX [rdv 6 vo os.length (encs eO os)] []:=hD; clear hD
        replace hf:Fr a 15 [] [(6,vo),(7,.int .i64 (i:Int)),(0,vo),(1,.int .i64 (i:Int))]:=hf.q rfl; refine ov hf rfl (RunV.sliceH T_elem_39 T_size_46 rfl rfl (enc:=eO) (l:=os) ⟨hS.rdAt (j:=0) rfl,hfit⟩ hs1) ?_; clear hf a; intro a hf; exact O.nil ⟨rfl,hf.to trivial,(gt (d:=8) hf rfl rfl),hS⟩
      · have hS:St w0 w noX [rdv 6 vo os.length (encs eO os)] [sl 46 6 (.slice (some ⟨b_s1,0,none⟩) 0 0) 0 ([])]:=hD; clear hD
        replace hf:Fr a 15 [] [(6,vo),(7,.int .i64 (i:Int)),(0,vo),(1,.int .i64 (i:Int))]:=hf.q rfl; refine ov hf rfl (RunV.sliceH T_elem_39 T_size_46 rfl rfl (enc:=eO) (l:=os) ⟨hS.rdAt (j:=0) rfl,hfit⟩ hs1) ?_; clear hf a; intro a hf; exact O.nil ⟨rfl,hf.to trivial,(gt (d:=8) hf rfl rfl),hS⟩
      · exact absurd hhi (by decide)
      · have hhi:k_+3≤1:=hhi; omega
    · intro k_ s_ g w hlo hhi _ hD a hf
      obtain ⟨b_s1,v2,v3⟩:=g
      rcases k_ with _ | _ | _ | k_
      · have hS:St w0 w noX [rdv 6 vo os.length (encs eO os)] []:=hD; clear hD
        replace hf:Fr a 15 [] [(0,vo),(1,.int .i64 (i:Int))]:=hf.q rfl; refine mv hf rfl ?_; clear hf a; intro a hf; exact O.nil ⟨rfl,hf.to trivial,(gt (d:=10) hf rfl rfl),hS⟩
      · have hS:St w0 w noX [rdv 6 vo os.length (encs eO os)] [sl 46 6 (.slice (some ⟨b_s1,0,none⟩) 0 0) 0 ([])]:=hD; clear hD
        replace hf:Fr a 15 [] [(0,vo),(1,.int .i64 (i:Int))]:=hf.q rfl; refine mv hf rfl ?_; clear hf a; intro a hf; exact O.nil ⟨rfl,hf.to trivial,(gt (d:=10) hf rfl rfl),hS⟩
      · have hS:St w0 w noX [rdv 6 vo os.length (encs eO os)] [sl 46 6 v2 ((lsub os 0 (i:Int)).length) (encs eO (lsub os 0 (i:Int)))]:=hD; clear hD
        replace hf:Fr a 15 [] [(0,vo),(1,.int .i64 (i:Int))]:=hf.q rfl; refine mv hf rfl ?_; clear hf a; intro a hf; exact O.nil ⟨rfl,hf.to trivial,(gt (d:=10) hf rfl rfl),hS⟩
      · have hhi:k_+3≤2:=hhi; omega
    · intro k_ s_ g w hlo hhi _ hD a hf
      obtain ⟨b_s1,v2,v3⟩:=g
      rcases k_ with _ | _ | _ | k_
      · have hS:St w0 w noX [rdv 6 vo os.length (encs eO os)] []:=hD; clear hD
        replace hf:Fr a 15 [] [(0,vo),(1,.int .i64 (i:Int))]:=hf.q rfl; refine mv hf rfl ?_; clear hf a; intro a hf; exact O.nil ⟨rfl,hf.to trivial,(gt (d:=11) hf rfl rfl),hS⟩
      · have hS:St w0 w noX [rdv 6 vo os.length (encs eO os)] [sl 46 6 (.slice (some ⟨b_s1,0,none⟩) 0 0) 0 ([])]:=hD; clear hD
        replace hf:Fr a 15 [] [(0,vo),(1,.int .i64 (i:Int))]:=hf.q rfl; refine mv hf rfl ?_; clear hf a; intro a hf; exact O.nil ⟨rfl,hf.to trivial,(gt (d:=11) hf rfl rfl),hS⟩
      · have hS:St w0 w noX [rdv 6 vo os.length (encs eO os)] [sl 46 6 v2 ((lsub os 0 (i:Int)).length) (encs eO (lsub os 0 (i:Int)))]:=hD; clear hD
        replace hf:Fr a 15 [] [(0,vo),(1,.int .i64 (i:Int))]:=hf.q rfl; refine mv hf rfl ?_; clear hf a; intro a hf; exact O.nil ⟨rfl,hf.to trivial,(gt (d:=11) hf rfl rfl),hS⟩
      · have hhi:k_+3≤2:=hhi; omega
    · intro k_ s_ g w hlo hhi _ hD a hf
      obtain ⟨b_s1,v2,v3⟩:=g
      rcases k_ with _ | _ | _ | k_
      · have hS:St w0 w noX [rdv 6 vo os.length (encs eO os)] []:=hD; clear hD
        replace hf:Fr a 15 [] [(11,.int .i64 (i:Int)),(0,vo),(1,.int .i64 (i:Int))]:=hf.q rfl; refine ov hf rfl (RunV.addI rfl rfl (by omega)) ?_; clear hf a; intro a hf; exact O.nil ⟨rfl,hf.to trivial,(gt (d:=12) hf rfl rfl),hS⟩
      · have hS:St w0 w noX [rdv 6 vo os.length (encs eO os)] [sl 46 6 (.slice (some ⟨b_s1,0,none⟩) 0 0) 0 ([])]:=hD; clear hD
        replace hf:Fr a 15 [] [(11,.int .i64 (i:Int)),(0,vo),(1,.int .i64 (i:Int))]:=hf.q rfl; refine ov hf rfl (RunV.addI rfl rfl (by omega)) ?_; clear hf a; intro a hf; exact O.nil ⟨rfl,hf.to trivial,(gt (d:=12) hf rfl rfl),hS⟩
      · have hS:St w0 w noX [rdv 6 vo os.length (encs eO os)] [sl 46 6 v2 ((lsub os 0 (i:Int)).length) (encs eO (lsub os 0 (i:Int)))]:=hD; clear hD
        replace hf:Fr a 15 [] [(11,.int .i64 (i:Int)),(0,vo),(1,.int .i64 (i:Int))]:=hf.q rfl; refine ov hf rfl (RunV.addI rfl rfl (by omega)) ?_; clear hf a; intro a hf; exact O.nil ⟨rfl,hf.to trivial,(gt (d:=12) hf rfl rfl),hS⟩
      · have hhi:k_+3≤2:=hhi; omega
    · intro k_ s_ g w hlo hhi _ hD a hf
      obtain ⟨b_s1,v2,v3⟩:=g
      rcases k_ with _ | _ | _ | k_
      · have hS:St w0 w noX [rdv 6 vo os.length (encs eO os)] []:=hD; clear hD
        replace hf:Fr a 15 [] [(10,vo),(12,.int .i64 ((i:Int)+1)),(0,vo),(1,.int .i64 (i:Int))]:=hf.q rfl; refine ov hf rfl (RunV.sliceL T_elem_39 T_size_46 rfl rfl (enc:=eO) (l:=os) ⟨hS.rdAt (j:=0) rfl,hfit⟩ hs2) ?_; clear hf a; intro a hf; exact O.nil ⟨rfl,hf.to trivial,(gt (d:=13) hf rfl rfl),hS⟩
      · have hS:St w0 w noX [rdv 6 vo os.length (encs eO os)] [sl 46 6 (.slice (some ⟨b_s1,0,none⟩) 0 0) 0 ([])]:=hD; clear hD
        replace hf:Fr a 15 [] [(10,vo),(12,.int .i64 ((i:Int)+1)),(0,vo),(1,.int .i64 (i:Int))]:=hf.q rfl; refine ov hf rfl (RunV.sliceL T_elem_39 T_size_46 rfl rfl (enc:=eO) (l:=os) ⟨hS.rdAt (j:=0) rfl,hfit⟩ hs2) ?_; clear hf a; intro a hf; exact O.nil ⟨rfl,hf.to trivial,(gt (d:=13) hf rfl rfl),hS⟩
      · have hS:St w0 w noX [rdv 6 vo os.length (encs eO os)] [sl 46 6 v2 ((lsub os 0 (i:Int)).length) (encs eO (lsub os 0 (i:Int)))]:=hD; clear hD
        replace hf:Fr a 15 [] [(10,vo),(12,.int .i64 ((i:Int)+1)),(0,vo),(1,.int .i64 (i:Int))]:=hf.q rfl; refine ov hf rfl (RunV.sliceL T_elem_39 T_size_46 rfl rfl (enc:=eO) (l:=os) ⟨hS.rdAt (j:=0) rfl,hfit⟩ hs2) ?_; clear hf a; intro a hf; exact O.nil ⟨rfl,hf.to trivial,(gt (d:=13) hf rfl rfl),hS⟩
      · have hhi:k_+3≤2:=hhi; omega
    · intro k_ s_ g w hlo hhi _ hD a hf
      obtain ⟨b_s1,v2,v3⟩:=g; obtain rfl:k_=3:=Nat.le_antisymm hhi hlo; have hS:=hD; clear hD; replace hf:Fr a 15 [] [(5,.slice (some ⟨b_s1,0,none⟩) 0 0),(6,vo),(7,.int .i64 (i:Int)),(8,(vsub 6 vo 0 (i:Int))),(9,v2),(10,vo),(11,.int .i64 (i:Int)),(12,.int .i64 ((i:Int)+1)),(13,(vsub 6 vo ((i:Int)+1) (os.length:Int))),(14,v3),(0,vo),(1,.int .i64 (i:Int))]:=hf.q rfl; refine mv hf rfl ?_; clear hf a; intro a hf; exact O.nil ⟨rfl,hf.to trivial,(gt (d:=4) hf rfl rfl),hS⟩
  · clear hf hS
    refine ⟨?_,?_,?_,trivial⟩
    · intro s_ g w _ hD a hf
      obtain ⟨b_s1,v2,v3⟩:=g; have hS:=hD; clear hD; replace hf:Fr a 15 [] [(0,vo),(1,.int .i64 (i:Int))]:=hf.q rfl; refine O.buildSlice0 hf hS rfl rfl T_elem_39 T_size_46 rfl ?_; intro b_s4 w a hbb_s4 hS hf; exact O.nil ⟨rfl,(b_s4,v2,v3),hf.to trivial,(gt (d:=5) hf rfl rfl),(fun j_ hj_ ha_=>match j_,hj_,ha_ with | 0,hj_,ha_=>absurd rfl hj_ | 1,hj_,ha_=>rfl | 2,hj_,ha_=>rfl | 3,hj_,ha_=>rfl | 4,hj_,ha_=>absurd ha_ (by decide) | 5,hj_,ha_=>rfl | 6,hj_,ha_=>rfl | 7,hj_,ha_=>rfl | 8,hj_,ha_=>rfl | 9,hj_,ha_=>absurd ha_ (by decide) | 10,hj_,ha_=>absurd ha_ (by decide) | _+11,_,_=>rfl),hS⟩
    · intro s_ g w _ hD a hf
      obtain ⟨b_s1,v2,v3⟩:=g; have hS:=hD; clear hD; replace hf:Fr a 15 [] [(5,.slice (some ⟨b_s1,0,none⟩) 0 0),(8,(vsub 6 vo 0 (i:Int))),(0,vo),(1,.int .i64 (i:Int))]:=hf.q rfl; replace hS:St w0 w noX [rdv 6 vo os.length (encs eO os)] [slE 46 6 eO (.slice (some ⟨b_s1,0,none⟩) 0 0) ([]:List Ob)]:=hS; refine O.appendEV (j:=0) (enc:=eO) (l:=([]:List Ob)) (m:=(lsub os 0 (i:Int))) (l':=(lsub os 0 (i:Int))) hf hS rfl rfl T_elem_39 T_size_46 T_bytes_46 T_zero_46 rfl rfl rfl rfl rfl (rdEOK.sub (enc:=eO) (l:=os) ⟨hS.rdAt (j:=0) rfl,hfit⟩ eO_len hs1) (fun _=>rfl) (by decide) (by omega) rfl rfl ?_; intro v5 w a hS hf; replace hS:St w0 w noX [rdv 6 vo os.length (encs eO os)] [sl 46 6 v5 ((lsub os 0 (i:Int)).length) (encs eO (lsub os 0 (i:Int)))]:=hS; exact O.nil ⟨rfl,(b_s1,v5,v3),hf.to trivial,(gt (d:=9) hf rfl rfl),(fun j_ hj_ ha_=>match j_,hj_,ha_ with | 0,hj_,ha_=>rfl | 1,hj_,ha_=>rfl | 2,hj_,ha_=>rfl | 3,hj_,ha_=>rfl | 4,hj_,ha_=>absurd rfl hj_ | 5,hj_,ha_=>rfl | 6,hj_,ha_=>rfl | 7,hj_,ha_=>rfl | 8,hj_,ha_=>rfl | 9,hj_,ha_=>absurd ha_ (by decide) | 10,hj_,ha_=>absurd ha_ (by decide) | _+11,_,_=>rfl),hS⟩
    · intro s_ g w _ hD a hf
      obtain ⟨b_s1,v2,v3⟩:=g; have hS:=hD; clear hD; replace hf:Fr a 15 [] [(9,v2),(13,(vsub 6 vo ((i:Int)+1) (os.length:Int))),(0,vo),(1,.int .i64 (i:Int))]:=hf.q rfl; refine O.appendEV (j:=0) (enc:=eO) (l:=(lsub os 0 (i:Int))) (m:=(lsub os ((i:Int)+1) (os.length:Int))) (l':=(delR os i)) hf hS rfl rfl T_elem_39 T_size_46 T_bytes_46 T_zero_46 rfl rfl rfl rfl rfl (rdEOK.sub (enc:=eO) (l:=os) ⟨hS.rdAt (j:=0) rfl,hfit⟩ eO_len hs2) (fun _=>rfl) (by omega) (by omega) rfl rfl ?_; intro v6 w a hS hf; replace hS:St w0 w noX [rdv 6 vo os.length (encs eO os)] [sl 46 6 v6 ((delR os i).length) (encs eO (delR os i))]:=hS; exact O.nil ⟨rfl,(b_s1,v2,v6),hf.to trivial,(gt (d:=14) hf rfl rfl),(fun j_ hj_ ha_=>match j_,hj_,ha_ with | 0,hj_,ha_=>rfl | 1,hj_,ha_=>rfl | 2,hj_,ha_=>rfl | 3,hj_,ha_=>rfl | 4,hj_,ha_=>rfl | 5,hj_,ha_=>rfl | 6,hj_,ha_=>rfl | 7,hj_,ha_=>rfl | 8,hj_,ha_=>rfl | 9,hj_,ha_=>absurd rfl hj_ | 10,hj_,ha_=>absurd ha_ (by decide) | _+11,_,_=>rfl),hS⟩
  clear hf hS; intro s_ g a w _ hf hD; obtain ⟨b_s1,v2,v3⟩:=g; have hS:=hD; clear hD; replace hf:Fr a 15 [] [(5,.slice (some ⟨b_s1,0,none⟩) 0 0),(6,vo),(7,.int .i64 (i:Int)),(8,(vsub 6 vo 0 (i:Int))),(9,v2),(10,vo),(11,.int .i64 (i:Int)),(12,.int .i64 ((i:Int)+1)),(13,(vsub 6 vo ((i:Int)+1) (os.length:Int))),(14,v3),(4,v3),(0,vo),(1,.int .i64 (i:Int))]:=hf.q rfl; refine k_seq<|W.ret<|post1 hf rfl (ResOK.tmp rfl)<|?_; exact ⟨v3,rfl,(hS.sub (N:=[sl 46 6 v3 ((delR os i).length) (encs eO (delR os i))]) (.cons_cons _ .slnil)).noB⟩
set_option maxHeartbeats 400000 in
set_option maxRecDepth 4000 in
theorem sameChanges_spec (va:Value) (l:List Ch) (vb:Value) (m:List Ch) (w0:World) (ha:rdOK (hp w0) 12 va l.length (encs eC l)) (hb:rdOK (hp w0) 12 vb m.length (encs eC m)) :
    Ret Tryd.prog 13 #[va,vb] w0 (G:=Unit) (fun _=>.bool (decide (l=m))) (fun _ w=>St w0 w noX [] []):=by
  refine ret_of_W (lv:=[va,vb]) Tryd.func13 rfl rfl rfl (fun a hf=>?_); replace hf:Fr a 26 [] [(0,va),(1,vb)]:=hf; have hS:St w0 w0 noX [rdv 12 va l.length (encs eC l),rdv 12 vb m.length (encs eC m)] []:=((St.refl w0).lend0 hb).lend0 ha; have hlm1:=ha.2.1; have hlm2:=hb.2.1; unfold maxLen at hlm1 hlm2; clear ha hb; refine W.seq ?_
  refine W.regionL (l:=[0]) rfl<|mv hf rfl<|?_; clear hf a; intro a hf; refine nk<|W.seq<|W.seq<|?_
  refine W.regionL (l:=[0,1,2,3,4]) rfl<|mv hf rfl<|?_; clear hf a; intro a hf; refine ov hf rfl (RunV.lenV (e:=26) (by simpa using T_elem_22) rfl (hS.rdAt (j:=0) rfl)) ?_; clear hf a; intro a hf; refine mv hf rfl ?_; clear hf a; intro a hf; refine ov hf rfl (RunV.lenV (e:=26) (by simpa using T_elem_22) rfl (hS.rdAt (j:=1) rfl)) ?_; clear hf a; intro a hf; refine ov (v:=.bool (decide ((l.length:Int)≠((m.length:Int):Int)))) hf rfl (RunV.neq rfl rfl) ?_; clear hf a; intro a hf; refine nk ?_; refine W.ifdI hf rfl (fun hne=>?_) (fun hne=>?_)
  · refine W.seq ?_
    refine W.regionL (l:=[0]) rfl<|mv hf rfl<|?_; clear hf a; intro a hf; refine nk<|W.ret<|k_then_ret<|post1 hf rfl (ResOK.tmp rfl)<|?_; exact ⟨(),congrArg (fun b=>Ending.returned (Value.bool b)) (by first | exact (sc_1 hne).symm | exact (sc_2 (by omega) hdb).symm),hS.sub (List.nil_sublist _) |>.noB⟩
  · refine W.skip ?_
    refine k_seq<|W.seq<|W.seq<|?_
    refine W.regionL (l:=[0]) rfl<|mv hf rfl<|?_; clear hf a; intro a hf; refine nk<|W.block<|?_
    refine W.loop (G:=(Nat)) (fun g a w=>match g with | k=>Fr a 26 [] [(0,va),(1,vb),(5,.int .i64 (k:Int))]∧St w0 w noX [rdv 12 va l.length (encs eC l),rdv 12 vb m.length (encs eC m)] []∧(k≤l.length)∧(∀ j,j<k→l.getD j default=m.getD j default)) (fun g=>match g with | k=>l.length-k) 0 ?_ ?_
    · refine ⟨hf.to ⟨rfl,rfl,(by first | rfl | exact congrArg some (congrArg (Value.int _) (by omega))),trivial⟩,hS,?_,?_⟩
      · omega
      · intro j hj; omega
    clear hf hS a; rintro k a w ⟨hf,hS,hk,h2⟩; refine W.seq<|W.seq<|?_
    refine W.regionL (l:=[0,1,2,3]) rfl<|mv hf rfl<|?_; clear hf a; intro a hf; refine mv hf rfl ?_; clear hf a; intro a hf; refine ov hf rfl (RunV.lenV (e:=26) (by simpa using T_elem_22) rfl (hS.rdAt (j:=0) rfl)) ?_; clear hf a; intro a hf; refine ov (v:=.bool (decide ((k:Int)<((l.length:Int):Int)))) hf rfl (RunV.lss rfl rfl) ?_; clear hf a; intro a hf; refine nk ?_; refine W.ifdI hf rfl (fun hlt=>?_) (fun hlt=>?_)
    · refine W.skip ?_
      refine k_seq<|W.seq<|W.block<|W.seq<|?_
      refine W.drawQ (fun w=>St w0 w noX [rdv 12 va l.length (encs eC l),rdv 12 vb m.length (encs eC m)] []) P_mixed rfl (by kernel_rfl) rfl hS.drew ?_; clear hS; refine OQ.val (v:=va) hf rfl (fun w hS=>RunV.move rfl) fun a hf=>OQ.val (v:=.int .i64 (k:Int)) hf rfl (fun w hS=>RunV.move rfl) fun a hf=>OQ.val (v:=ix va (k*12)) hf rfl (fun w hS=>RunV.ixV (j:=k) (m:=k*12) T_elem_22 T_size_26 rfl rfl (hS.rdAt (j:=0) rfl) rfl (by omega) rfl) fun a hf=>OQ.val (v:=.agg #[.int .u8 ((l.getD k default).kind),.int .i64 ((l.getD k default).a.num),.int .i64 ((l.getD k default).a.yr),.int .u8 ((l.getD k default).a.half),.int .u8 ((l.getD k default).a.sec),.int .i64 ((l.getD k default).a.cyc),.int .i64 ((l.getD k default).b.num),.int .i64 ((l.getD k default).b.yr),.int .u8 ((l.getD k default).b.half),.int .u8 ((l.getD k default).b.sec),.int .i64 ((l.getD k default).b.cyc),.int .i64 ((l.getD k default).n)]) hf rfl (fun w hS=>RunV.ldG (j:=k) (enc:=eC) (l:=l) (us:=[.int .u8 ((l.getD k default).kind),.int .i64 ((l.getD k default).a.num),.int .i64 ((l.getD k default).a.yr),.int .u8 ((l.getD k default).a.half),.int .u8 ((l.getD k default).a.sec),.int .i64 ((l.getD k default).a.cyc),.int .i64 ((l.getD k default).b.num),.int .i64 ((l.getD k default).b.yr),.int .u8 ((l.getD k default).b.half),.int .u8 ((l.getD k default).b.sec),.int .i64 ((l.getD k default).b.cyc),.int .i64 ((l.getD k default).n)]) T_agg_26 T_size_26 rfl eC_len rfl (hS.rdAt (j:=0) rfl) (by omega) rfl) fun a hf=>OQ.val (v:=vb) hf rfl (fun w hS=>RunV.move rfl) fun a hf=>OQ.val (v:=.int .i64 (k:Int)) hf rfl (fun w hS=>RunV.move rfl) fun a hf=>OQ.val (v:=ix vb (k*12)) hf rfl (fun w hS=>RunV.ixV (j:=k) (m:=k*12) T_elem_22 T_size_26 rfl rfl (hS.rdAt (j:=1) rfl) rfl (by omega) rfl) fun a hf=>OQ.val (v:=.agg #[.int .u8 ((m.getD k default).kind),.int .i64 ((m.getD k default).a.num),.int .i64 ((m.getD k default).a.yr),.int .u8 ((m.getD k default).a.half),.int .u8 ((m.getD k default).a.sec),.int .i64 ((m.getD k default).a.cyc),.int .i64 ((m.getD k default).b.num),.int .i64 ((m.getD k default).b.yr),.int .u8 ((m.getD k default).b.half),.int .u8 ((m.getD k default).b.sec),.int .i64 ((m.getD k default).b.cyc),.int .i64 ((m.getD k default).n)]) hf rfl (fun w hS=>RunV.ldG (j:=k) (enc:=eC) (l:=m) (us:=[.int .u8 ((m.getD k default).kind),.int .i64 ((m.getD k default).a.num),.int .i64 ((m.getD k default).a.yr),.int .u8 ((m.getD k default).a.half),.int .u8 ((m.getD k default).a.sec),.int .i64 ((m.getD k default).a.cyc),.int .i64 ((m.getD k default).b.num),.int .i64 ((m.getD k default).b.yr),.int .u8 ((m.getD k default).b.half),.int .u8 ((m.getD k default).b.sec),.int .i64 ((m.getD k default).b.cyc),.int .i64 ((m.getD k default).n)]) T_agg_26 T_size_26 rfl eC_len rfl (hS.rdAt (j:=1) rfl) (by omega) rfl) fun a hf=>OQ.val (v:=.bool (!decide ((l.getD k default)=(m.getD k default)))) hf rfl (fun w hS=>neC (l.getD k default) (m.getD k default) rfl rfl) fun a hf=>?_; refine OQ.nil ?_; intro w hS; refine k_seq ?_; refine W.if_ hf rfl (fun hd=>?_) (fun hd=>?_)
      · have hdb:=hd
        try simp only [Bool.and_eq_true,Bool.or_eq_true,Bool.and_eq_false_iff,Bool.or_eq_false_iff,decide_eq_true_eq,decide_eq_false_iff_not,Bool.not_eq_true',Bool.not_eq_false',Bool.not_eq_true,Bool.not_eq_false,ne_eq] at hd
        refine W.seq ?_
        refine W.regionL (l:=[0]) rfl<|mv hf rfl<|?_; clear hf a; intro a hf; refine nk<|W.ret<|k_blk_ret<|k_then_ret<|k_then_ret<|k_blk_ret<|k_then_ret<|post1 hf rfl (ResOK.tmp rfl)<|?_; exact ⟨(),congrArg (fun b=>Ending.returned (Value.bool b)) (by first | exact (sc_1 hne).symm | exact (sc_2 (by omega) hdb).symm),hS.sub (List.nil_sublist _) |>.noB⟩
      · have hdb:=hd
        try simp only [Bool.and_eq_true,Bool.or_eq_true,Bool.and_eq_false_iff,Bool.or_eq_false_iff,decide_eq_true_eq,decide_eq_false_iff_not,Bool.not_eq_true',Bool.not_eq_false',Bool.not_eq_true,Bool.not_eq_false,ne_eq] at hd
        refine W.skip<|k_blk_normal<|k_seq<|?_
        refine W.regionL (l:=[0,1,2]) rfl<|mv hf rfl<|?_; clear hf a; intro a hf; refine ov hf rfl (RunV.addI rfl rfl (by omega)) ?_; clear hf a; intro a hf; refine mv hf rfl ?_; clear hf a; intro a hf; refine O.nil ?_; refine k_then ⟨(k+1),⟨hf.to ⟨rfl,rfl,(by first | rfl | exact congrArg some (congrArg (Value.int _) (by omega))),trivial⟩,?_,?_,?_⟩,?_⟩
        · exact hS.eqM rfl
        · omega
        · intro j hj; by_cases hjk:j<k
          · exact h2 j hjk
          · have:j=k:=by omega
            subst this; simpa using hdb
        · dsimp only; omega
    · refine W.exit ?_
      refine k_then_exit<|k_then_exit<|k_blk<|k_seq<|?_; replace hf:Fr a 26 [] []:=hf.to trivial; refine W.seq ?_
      refine W.regionL (l:=[0]) rfl<|mv hf rfl<|?_; clear hf a; intro a hf; refine nk<|W.ret<|post1 hf rfl (ResOK.tmp rfl)<|?_; exact ⟨(),congrArg (fun b=>Ending.returned (Value.bool b)) (sc_3 (by omega) (fun j hj=>h2 j (by omega))).symm,hS.sub (List.nil_sublist _) |>.noB⟩
set_option maxHeartbeats 400000 in
set_option maxRecDepth 4000 in
theorem check26_spec (c:Ch) (w0:World) (hr:rC c) :
    Ret Tryd.prog 26 #[.agg (aC c)] w0 (G:=Unit) (fun _=>.int .i64 (if okC c then 0 else 8)) (fun _ w=>St w0 w noX [] []):=by
  refine ret_of_W (lv:=[.agg (aC c)]) Tryd.func26 rfl rfl rfl (fun a hf=>?_); replace hf:Fr a 81 [] [(0,.agg (aC c))]:=hf; have hS:St w0 w0 noX [] []:=St.refl w0; refine W.seq ?_
  refine W.regionL (l:=[0,1]) rfl<|O.box (cs:=(aC c)) hf hS rfl rfl rfl rfl<|?_; intro b_c1 w a hbb_c1 hS hf; refine mv hf rfl ?_; clear hf a; intro a hf; refine nk<|W.seq<|?_
  refine W.drawQ (fun w=>St w0 w noX [] [pt b_c1 (.cells (aC c) 26 (0,0))]) P_mixed rfl (by kernel_rfl) rfl hS.drew ?_; clear hS; refine OQ.val (v:=.pointer (some ⟨b_c1,1,none⟩)) hf rfl (fun w hS=>RunV.field T_field_26_1 rfl rfl) fun a hf=>OQ.val (v:=.agg (aD c.a)) hf rfl (fun w hS=>RunV.loadN (cs':=(aD c.a)) T_agg_24 T_size_24 rfl (hS.p 0 rfl) (bl rfl) rfl) fun a hf=>OQ.callRq (v:=.int .i64 (if okD c.a then 0 else 8)) hf rfl (fun w hS=>RunE.call (av:=#[.agg (aD c.a)]) C_ok_15 rfl rfl rfl) (fun w hS=>check28_spec c.a _ hr.1) fun a hf=>OQ.val (v:=.bool (okD c.a)) hf rfl (fun w hS=>RunV.toB (c:=okD c.a) (RunV.eql rfl rfl) (okI c.a)) fun a hf=>OQ.val (v:=.pointer (some ⟨b_c1,6,none⟩)) hf rfl (fun w hS=>RunV.field T_field_26_2 rfl rfl) fun a hf=>OQ.val (v:=.agg (aD c.b)) hf rfl (fun w hS=>RunV.loadN (cs':=(aD c.b)) T_agg_24 T_size_24 rfl (hS.p 0 rfl) (bl rfl) rfl) fun a hf=>OQ.callRq (v:=.int .i64 (if okD c.b then 0 else 8)) hf rfl (fun w hS=>RunE.call (av:=#[.agg (aD c.b)]) C_ok_15 rfl rfl rfl) (fun w hS=>check28_spec c.b _ hr.2) fun a hf=>OQ.val (v:=.bool (okD c.b)) hf rfl (fun w hS=>RunV.toB (c:=okD c.b) (RunV.eql rfl rfl) (okI c.b)) fun a hf=>OQ.val (v:=.bool (okD c.a)) hf rfl (fun w hS=>RunV.assign rfl) fun a hf=>OQ.val (v:=.bool (okD c.b)) hf rfl (fun w hS=>RunV.assign rfl) fun a hf=>?_; refine OQ.nil ?_; intro w hS; refine k_seq<|W.seq<|?_
  refine W.regionL (l:=[0]) rfl<|mv hf rfl<|?_; clear hf a; intro a hf; refine nk<|W.seq<|W.seq<|?_
  refine W.regionL (l:=[0,1]) rfl<|ov hf rfl (RunV.field T_field_26_0 rfl rfl)<|?_; clear hf a; intro a hf; refine ov hf rfl (RunV.load1 T_agg_5 rfl (hS.p 0 rfl) rfl) ?_; clear hf a; intro a hf; refine nk<|W.block<|W.seq<|?_
  refine W.regionL (l:=[0,1]) rfl<|ov (v:=.bool (decide (c.kind=(1:Int)))) hf rfl (RunV.eql rfl rfl)<|?_; clear hf a; intro a hf; refine mv hf rfl ?_; clear hf a; intro a hf; refine nk ?_; refine W.ifdI hf rfl (fun hk1=>?_) (fun hk1=>?_)
  ·
    refine W.regionL (l:=[0,1,2,3,4,5,6,7,8,9,10,11,12,13,14]) rfl<|mv hf rfl<|?_; clear hf a; intro a hf; refine mv hf rfl ?_; clear hf a; intro a hf
    refine O.cutN (l₁:=[2,3,4,5,6]) (l₂:=_) (fun a w=>Fr a 81 [] [(1,.pointer (some ⟨b_c1,0,none⟩)),(2,.int .i64 0),(3,.bool (okD c.a)),(4,.bool (okD c.b)),(5,.bool false),(15,.int .u8 c.kind),(18,.bool (okD c.a)),(19,.bool (okD c.a)),(24,.bool ((okD c.a)&&(decide (c.a.num=(0:Int)))))]∧St w0 w noX [] [pt b_c1 (.cells (aC c) 26 (0,0))]) rfl ?_ ?_
    · rcases Bool.eq_false_or_eq_true (okD c.a) with hb3 | hb3
      · have hb3p:=hb3
        try simp only [Bool.and_eq_true,Bool.or_eq_true,Bool.and_eq_false_iff,Bool.or_eq_false_iff,decide_eq_true_eq,decide_eq_false_iff_not,Bool.not_eq_true',Bool.not_eq_false',Bool.not_eq_true,Bool.not_eq_false,ne_eq] at hb3p
        refine og (v:=.pointer (some ⟨b_c1,1,none⟩)) hf rfl hb3 (RunV.field T_field_26_1 rfl rfl) ?_; clear hf a; intro a hf; refine og (v:=.pointer (some ⟨b_c1,1,none⟩)) hf rfl hb3 (RunV.field T_field_24_0 rfl rfl) ?_; clear hf a; intro a hf; refine og (v:=.int .i64 c.a.num) hf rfl hb3 (RunV.load1 T_agg_3 rfl (hS.p 0 rfl) rfl) ?_; clear hf a; intro a hf; refine og (v:=.bool (decide (c.a.num=(0:Int)))) hf rfl hb3 (RunV.eql rfl rfl) ?_; clear hf a; intro a hf; refine ov (v:=.bool ((okD c.a)&&(decide (c.a.num=(0:Int))))) hf rfl (RunV.pick rfl rfl rfl (by rw [hb3]; rfl)) ?_; clear hf a; intro a hf; exact O.nil ⟨rfl,hf.q rfl,hS⟩
      · have hb3p:=hb3
        try simp only [Bool.and_eq_true,Bool.or_eq_true,Bool.and_eq_false_iff,Bool.or_eq_false_iff,decide_eq_true_eq,decide_eq_false_iff_not,Bool.not_eq_true',Bool.not_eq_false',Bool.not_eq_true,Bool.not_eq_false,ne_eq] at hb3p
        refine sk hf rfl hb3 fun a hf=>sk hf rfl hb3 fun a hf=>sk hf rfl hb3 fun a hf=>sk hf rfl hb3 fun a hf=>?_; refine ov (v:=.bool ((okD c.a)&&(decide (c.a.num=(0:Int))))) hf rfl (RunV.pick rfl rfl rfl (by rw [hb3]; rfl)) ?_; clear hf a; intro a hf; exact O.nil ⟨rfl,hf.q rfl,hS⟩
    clear hf hS a; rintro a w ⟨hf,hS⟩; refine mv hf rfl ?_; clear hf a; intro a hf
    refine O.cutN (l₁:=[8,9,10,11,12,13]) (l₂:=_) (fun a w=>Fr a 81 [] [(1,.pointer (some ⟨b_c1,0,none⟩)),(2,.int .i64 0),(3,.bool (okD c.a)),(4,.bool (okD c.b)),(5,.bool false),(15,.int .u8 c.kind),(18,.bool (okD c.a)),(19,.bool (okD c.a)),(24,.bool ((okD c.a)&&(decide (c.a.num=(0:Int))))),(25,.bool ((okD c.a)&&(decide (c.a.num=(0:Int))))),(31,.bool (((okD c.a)&&(decide (c.a.num=(0:Int))))&&(decide (c=⟨1,c.a,default,0⟩))))]∧St w0 w noX [] [pt b_c1 (.cells (aC c) 26 (0,0))]) rfl ?_ ?_
    · rcases Bool.eq_false_or_eq_true ((okD c.a)&&(decide (c.a.num=(0:Int)))) with hb4 | hb4
      · have hb4p:=hb4
        try simp only [Bool.and_eq_true,Bool.or_eq_true,Bool.and_eq_false_iff,Bool.or_eq_false_iff,decide_eq_true_eq,decide_eq_false_iff_not,Bool.not_eq_true',Bool.not_eq_false',Bool.not_eq_true,Bool.not_eq_false,ne_eq] at hb4p
        refine og (v:=.agg (aC c)) hf rfl hb4 (RunV.loadN (cs':=(aC c)) T_agg_26 T_size_26 rfl (hS.p 0 rfl) (bl rfl) rfl) ?_; clear hf a; intro a hf; refine og (v:=.pointer (some ⟨b_c1,1,none⟩)) hf rfl hb4 (RunV.field T_field_26_1 rfl rfl) ?_; clear hf a; intro a hf; refine og (v:=.agg (aD c.a)) hf rfl hb4 (RunV.loadN (cs':=(aD c.a)) T_agg_24 T_size_24 rfl (hS.p 0 rfl) (bl rfl) rfl) ?_; clear hf a; intro a hf; refine og (v:=.agg #[.int .u8 1,.int .i64 c.a.num,.int .i64 c.a.yr,.int .u8 c.a.half,.int .u8 c.a.sec,.int .i64 c.a.cyc,.int .i64 0,.int .i64 0,.int .u8 0,.int .u8 0,.int .i64 0,.int .i64 0]) hf rfl hb4 (RunV.buildS (cs':=#[.int .u8 1,.int .i64 c.a.num,.int .i64 c.a.yr,.int .u8 c.a.half,.int .u8 c.a.sec,.int .i64 c.a.cyc,.int .i64 0,.int .i64 0,.int .u8 0,.int .u8 0,.int .i64 0,.int .i64 0]) T_places_26 T_zero_26 rfl (by kernel_rfl)) ?_; clear hf a; intro a hf; refine og (v:=.bool (decide (c=⟨1,c.a,default,0⟩))) hf rfl hb4 (eqC c ⟨1,c.a,default,0⟩ rfl rfl) ?_; clear hf a; intro a hf; refine ov (v:=.bool (((okD c.a)&&(decide (c.a.num=(0:Int))))&&(decide (c=⟨1,c.a,default,0⟩)))) hf rfl (RunV.pick rfl rfl rfl (by rw [hb4]; rfl)) ?_; clear hf a; intro a hf; exact O.nil ⟨rfl,hf.q rfl,hS⟩
      · have hb4p:=hb4
        try simp only [Bool.and_eq_true,Bool.or_eq_true,Bool.and_eq_false_iff,Bool.or_eq_false_iff,decide_eq_true_eq,decide_eq_false_iff_not,Bool.not_eq_true',Bool.not_eq_false',Bool.not_eq_true,Bool.not_eq_false,ne_eq] at hb4p
        refine sk hf rfl hb4 fun a hf=>sk hf rfl hb4 fun a hf=>sk hf rfl hb4 fun a hf=>sk hf rfl hb4 fun a hf=>sk hf rfl hb4 fun a hf=>?_; refine ov (v:=.bool (((okD c.a)&&(decide (c.a.num=(0:Int))))&&(decide (c=⟨1,c.a,default,0⟩)))) hf rfl (RunV.pick rfl rfl rfl (by rw [hb4]; rfl)) ?_; clear hf a; intro a hf; exact O.nil ⟨rfl,hf.q rfl,hS⟩
    clear hf hS a; rintro a w ⟨hf,hS⟩; refine mv hf rfl ?_; clear hf a; intro a hf; refine O.nil<|k_blk_normal<|k_seq<|W.seq<|W.seq<|?_
    refine W.regionL (l:=[0,1]) rfl<|mv hf rfl<|?_; clear hf a; intro a hf; refine ov (v:=.bool (!(((okD c.a)&&(decide (c.a.num=(0:Int))))&&(decide (c=⟨1,c.a,default,0⟩))))) hf rfl (RunV.not rfl) ?_; clear hf a; intro a hf; refine nk ?_; refine W.if_ hf rfl (fun hox=>?_) (fun hox=>?_)
    · have hoxb:=hox
      try simp only [Bool.and_eq_true,Bool.or_eq_true,Bool.and_eq_false_iff,Bool.or_eq_false_iff,decide_eq_true_eq,decide_eq_false_iff_not,Bool.not_eq_true',Bool.not_eq_false',Bool.not_eq_true,Bool.not_eq_false,ne_eq] at hox
      refine W.seq ?_
      refine W.regionL (l:=[0]) rfl<|mv hf rfl<|?_; clear hf a; intro a hf; refine nk<|W.ret<|k_then_ret<|post1 hf rfl (ResOK.tmp rfl)<|?_; exact ⟨(),congrArg (fun x=>Ending.returned (Value.int .i64 x)) (by rw [okC_ref]; (first | rw [if_pos hk1] | rw [if_neg hk1,if_pos hk2] | rw [if_neg hk1,if_neg hk2,if_pos hk3] | rw [if_neg hk1,if_neg hk2,if_neg hk3,if_pos hk4] | rw [if_neg hk1,if_neg hk2,if_neg hk3,if_neg hk4]); first | rfl | exact (ck_no hoxb).symm),hS.sub (List.nil_sublist _) |>.noB⟩
    · have hoxb:=hox
      try simp only [Bool.and_eq_true,Bool.or_eq_true,Bool.and_eq_false_iff,Bool.or_eq_false_iff,decide_eq_true_eq,decide_eq_false_iff_not,Bool.not_eq_true',Bool.not_eq_false',Bool.not_eq_true,Bool.not_eq_false,ne_eq] at hox
      refine W.skip<|k_seq<|W.seq<|?_
      refine W.regionL (l:=[0]) rfl<|mv hf rfl<|?_; clear hf a; intro a hf; refine nk<|W.ret<|post1 hf rfl (ResOK.tmp rfl)<|?_; exact ⟨(),congrArg (fun x=>Ending.returned (Value.int .i64 x)) (by rw [okC_ref]; (first | rw [if_pos hk1] | rw [if_neg hk1,if_pos hk2] | rw [if_neg hk1,if_neg hk2,if_pos hk3] | rw [if_neg hk1,if_neg hk2,if_neg hk3,if_pos hk4] | rw [if_neg hk1,if_neg hk2,if_neg hk3,if_neg hk4]); exact (ck_yes hoxb).symm),hS.sub (List.nil_sublist _) |>.noB⟩
  · refine W.seq ?_
    refine W.regionL (l:=[0,1]) rfl<|ov (v:=.bool (decide (c.kind=(2:Int)))) hf rfl (RunV.eql rfl rfl)<|?_; clear hf a; intro a hf; refine mv hf rfl ?_; clear hf a; intro a hf; refine nk ?_; refine W.ifdI hf rfl (fun hk2=>?_) (fun hk2=>?_)
    ·
      refine W.regionL (l:=[0,1,2,3,4,5,6,7,8,9,10,11,12,13,14,15,16]) rfl<|mv hf rfl<|?_; clear hf a; intro a hf; refine mv hf rfl ?_; clear hf a; intro a hf
      refine O.cutN (l₁:=[2,3]) (l₂:=_) (fun a w=>Fr a 81 [] [(1,.pointer (some ⟨b_c1,0,none⟩)),(2,.int .i64 0),(3,.bool (okD c.a)),(4,.bool (okD c.b)),(5,.bool false),(15,.int .u8 c.kind),(34,.bool (okD c.a)),(35,.bool (okD c.a)),(37,.bool ((okD c.a)&&(okD c.b)))]∧St w0 w noX [] [pt b_c1 (.cells (aC c) 26 (0,0))]) rfl ?_ ?_
      · rcases Bool.eq_false_or_eq_true (okD c.a) with hb7 | hb7
        · have hb7p:=hb7
          try simp only [Bool.and_eq_true,Bool.or_eq_true,Bool.and_eq_false_iff,Bool.or_eq_false_iff,decide_eq_true_eq,decide_eq_false_iff_not,Bool.not_eq_true',Bool.not_eq_false',Bool.not_eq_true,Bool.not_eq_false,ne_eq] at hb7p
          refine og (v:=.bool (okD c.b)) hf rfl hb7 (RunV.move rfl) ?_; clear hf a; intro a hf; refine ov (v:=.bool ((okD c.a)&&(okD c.b))) hf rfl (RunV.pick rfl rfl rfl (by rw [hb7]; rfl)) ?_; clear hf a; intro a hf; exact O.nil ⟨rfl,hf.q rfl,hS⟩
        · have hb7p:=hb7
          try simp only [Bool.and_eq_true,Bool.or_eq_true,Bool.and_eq_false_iff,Bool.or_eq_false_iff,decide_eq_true_eq,decide_eq_false_iff_not,Bool.not_eq_true',Bool.not_eq_false',Bool.not_eq_true,Bool.not_eq_false,ne_eq] at hb7p
          refine sk hf rfl hb7 fun a hf=>?_; refine ov (v:=.bool ((okD c.a)&&(okD c.b))) hf rfl (RunV.pick rfl rfl rfl (by rw [hb7]; rfl)) ?_; clear hf a; intro a hf; exact O.nil ⟨rfl,hf.q rfl,hS⟩
      clear hf hS a; rintro a w ⟨hf,hS⟩; refine mv hf rfl ?_; clear hf a; intro a hf
      refine O.cutN (l₁:=[5,6,7,8,9,10]) (l₂:=_) (fun a w=>Fr a 81 [] [(1,.pointer (some ⟨b_c1,0,none⟩)),(2,.int .i64 0),(3,.bool (okD c.a)),(4,.bool (okD c.b)),(5,.bool false),(15,.int .u8 c.kind),(34,.bool (okD c.a)),(35,.bool (okD c.a)),(37,.bool ((okD c.a)&&(okD c.b))),(38,.bool ((okD c.a)&&(okD c.b))),(44,.bool (((okD c.a)&&(okD c.b))&&(!decide (c.a=c.b))))]∧St w0 w noX [] [pt b_c1 (.cells (aC c) 26 (0,0))]) rfl ?_ ?_
      · rcases Bool.eq_false_or_eq_true ((okD c.a)&&(okD c.b)) with hb8 | hb8
        · have hb8p:=hb8
          try simp only [Bool.and_eq_true,Bool.or_eq_true,Bool.and_eq_false_iff,Bool.or_eq_false_iff,decide_eq_true_eq,decide_eq_false_iff_not,Bool.not_eq_true',Bool.not_eq_false',Bool.not_eq_true,Bool.not_eq_false,ne_eq] at hb8p
          refine og (v:=.pointer (some ⟨b_c1,1,none⟩)) hf rfl hb8 (RunV.field T_field_26_1 rfl rfl) ?_; clear hf a; intro a hf; refine og (v:=.agg (aD c.a)) hf rfl hb8 (RunV.loadN (cs':=(aD c.a)) T_agg_24 T_size_24 rfl (hS.p 0 rfl) (bl rfl) rfl) ?_; clear hf a; intro a hf; refine og (v:=.pointer (some ⟨b_c1,6,none⟩)) hf rfl hb8 (RunV.field T_field_26_2 rfl rfl) ?_; clear hf a; intro a hf; refine og (v:=.agg (aD c.b)) hf rfl hb8 (RunV.loadN (cs':=(aD c.b)) T_agg_24 T_size_24 rfl (hS.p 0 rfl) (bl rfl) rfl) ?_; clear hf a; intro a hf; refine og (v:=.bool (!decide (c.a=c.b))) hf rfl hb8 (neD rfl c.a c.b eqGuard24 rfl rfl) ?_; clear hf a; intro a hf; refine ov (v:=.bool (((okD c.a)&&(okD c.b))&&(!decide (c.a=c.b)))) hf rfl (RunV.pick rfl rfl rfl (by rw [hb8]; rfl)) ?_; clear hf a; intro a hf; exact O.nil ⟨rfl,hf.q rfl,hS⟩
        · have hb8p:=hb8
          try simp only [Bool.and_eq_true,Bool.or_eq_true,Bool.and_eq_false_iff,Bool.or_eq_false_iff,decide_eq_true_eq,decide_eq_false_iff_not,Bool.not_eq_true',Bool.not_eq_false',Bool.not_eq_true,Bool.not_eq_false,ne_eq] at hb8p
          refine sk hf rfl hb8 fun a hf=>sk hf rfl hb8 fun a hf=>sk hf rfl hb8 fun a hf=>sk hf rfl hb8 fun a hf=>sk hf rfl hb8 fun a hf=>?_; refine ov (v:=.bool (((okD c.a)&&(okD c.b))&&(!decide (c.a=c.b)))) hf rfl (RunV.pick rfl rfl rfl (by rw [hb8]; rfl)) ?_; clear hf a; intro a hf; exact O.nil ⟨rfl,hf.q rfl,hS⟩
      clear hf hS a; rintro a w ⟨hf,hS⟩; refine mv hf rfl ?_; clear hf a; intro a hf
      refine O.cutN (l₁:=[12,13,14,15]) (l₂:=_) (fun a w=>Fr a 81 [] [(1,.pointer (some ⟨b_c1,0,none⟩)),(2,.int .i64 0),(3,.bool (okD c.a)),(4,.bool (okD c.b)),(5,.bool false),(15,.int .u8 c.kind),(34,.bool (okD c.a)),(35,.bool (okD c.a)),(37,.bool ((okD c.a)&&(okD c.b))),(38,.bool ((okD c.a)&&(okD c.b))),(44,.bool (((okD c.a)&&(okD c.b))&&(!decide (c.a=c.b)))),(45,.bool (((okD c.a)&&(okD c.b))&&(!decide (c.a=c.b)))),(49,.bool ((((okD c.a)&&(okD c.b))&&(!decide (c.a=c.b)))&&(decide (c.n=(0:Int)))))]∧St w0 w noX [] [pt b_c1 (.cells (aC c) 26 (0,0))]) rfl ?_ ?_
      · rcases Bool.eq_false_or_eq_true (((okD c.a)&&(okD c.b))&&(!decide (c.a=c.b))) with hb9 | hb9
        · have hb9p:=hb9
          try simp only [Bool.and_eq_true,Bool.or_eq_true,Bool.and_eq_false_iff,Bool.or_eq_false_iff,decide_eq_true_eq,decide_eq_false_iff_not,Bool.not_eq_true',Bool.not_eq_false',Bool.not_eq_true,Bool.not_eq_false,ne_eq] at hb9p
          refine og (v:=.pointer (some ⟨b_c1,11,none⟩)) hf rfl hb9 (RunV.field T_field_26_3 rfl rfl) ?_; clear hf a; intro a hf; refine og (v:=.int .i64 c.n) hf rfl hb9 (RunV.load1 T_agg_3 rfl (hS.p 0 rfl) rfl) ?_; clear hf a; intro a hf; refine og (v:=.bool (decide (c.n=(0:Int)))) hf rfl hb9 (RunV.eql rfl rfl) ?_; clear hf a; intro a hf; refine ov (v:=.bool ((((okD c.a)&&(okD c.b))&&(!decide (c.a=c.b)))&&(decide (c.n=(0:Int))))) hf rfl (RunV.pick rfl rfl rfl (by rw [hb9]; rfl)) ?_; clear hf a; intro a hf; exact O.nil ⟨rfl,hf.q rfl,hS⟩
        · have hb9p:=hb9
          try simp only [Bool.and_eq_true,Bool.or_eq_true,Bool.and_eq_false_iff,Bool.or_eq_false_iff,decide_eq_true_eq,decide_eq_false_iff_not,Bool.not_eq_true',Bool.not_eq_false',Bool.not_eq_true,Bool.not_eq_false,ne_eq] at hb9p
          refine sk hf rfl hb9 fun a hf=>sk hf rfl hb9 fun a hf=>sk hf rfl hb9 fun a hf=>?_; refine ov (v:=.bool ((((okD c.a)&&(okD c.b))&&(!decide (c.a=c.b)))&&(decide (c.n=(0:Int))))) hf rfl (RunV.pick rfl rfl rfl (by rw [hb9]; rfl)) ?_; clear hf a; intro a hf; exact O.nil ⟨rfl,hf.q rfl,hS⟩
      clear hf hS a; rintro a w ⟨hf,hS⟩; refine mv hf rfl ?_; clear hf a; intro a hf; refine O.nil<|k_blk_normal<|k_seq<|W.seq<|W.seq<|?_
      refine W.regionL (l:=[0,1]) rfl<|mv hf rfl<|?_; clear hf a; intro a hf; refine ov (v:=.bool (!((((okD c.a)&&(okD c.b))&&(!decide (c.a=c.b)))&&(decide (c.n=(0:Int)))))) hf rfl (RunV.not rfl) ?_; clear hf a; intro a hf; refine nk ?_; refine W.if_ hf rfl (fun hox=>?_) (fun hox=>?_)
      · have hoxb:=hox
        try simp only [Bool.and_eq_true,Bool.or_eq_true,Bool.and_eq_false_iff,Bool.or_eq_false_iff,decide_eq_true_eq,decide_eq_false_iff_not,Bool.not_eq_true',Bool.not_eq_false',Bool.not_eq_true,Bool.not_eq_false,ne_eq] at hox
        refine W.seq ?_
        refine W.regionL (l:=[0]) rfl<|mv hf rfl<|?_; clear hf a; intro a hf; refine nk<|W.ret<|k_then_ret<|post1 hf rfl (ResOK.tmp rfl)<|?_; exact ⟨(),congrArg (fun x=>Ending.returned (Value.int .i64 x)) (by rw [okC_ref]; (first | rw [if_pos hk1] | rw [if_neg hk1,if_pos hk2] | rw [if_neg hk1,if_neg hk2,if_pos hk3] | rw [if_neg hk1,if_neg hk2,if_neg hk3,if_pos hk4] | rw [if_neg hk1,if_neg hk2,if_neg hk3,if_neg hk4]); first | rfl | exact (ck_no hoxb).symm),hS.sub (List.nil_sublist _) |>.noB⟩
      · have hoxb:=hox
        try simp only [Bool.and_eq_true,Bool.or_eq_true,Bool.and_eq_false_iff,Bool.or_eq_false_iff,decide_eq_true_eq,decide_eq_false_iff_not,Bool.not_eq_true',Bool.not_eq_false',Bool.not_eq_true,Bool.not_eq_false,ne_eq] at hox
        refine W.skip<|k_seq<|W.seq<|?_
        refine W.regionL (l:=[0]) rfl<|mv hf rfl<|?_; clear hf a; intro a hf; refine nk<|W.ret<|post1 hf rfl (ResOK.tmp rfl)<|?_; exact ⟨(),congrArg (fun x=>Ending.returned (Value.int .i64 x)) (by rw [okC_ref]; (first | rw [if_pos hk1] | rw [if_neg hk1,if_pos hk2] | rw [if_neg hk1,if_neg hk2,if_pos hk3] | rw [if_neg hk1,if_neg hk2,if_neg hk3,if_pos hk4] | rw [if_neg hk1,if_neg hk2,if_neg hk3,if_neg hk4]); exact (ck_yes hoxb).symm),hS.sub (List.nil_sublist _) |>.noB⟩
    · refine W.seq ?_
      refine W.regionL (l:=[0,1]) rfl<|ov (v:=.bool (decide (c.kind=(3:Int)))) hf rfl (RunV.eql rfl rfl)<|?_; clear hf a; intro a hf; refine mv hf rfl ?_; clear hf a; intro a hf; refine nk ?_; refine W.ifdI hf rfl (fun hk3=>?_) (fun hk3=>?_)
      ·
        refine W.regionL (l:=[0,1,2,3,4,5,6,7,8,9,10,11,12,13,14,15]) rfl<|mv hf rfl<|?_; clear hf a; intro a hf; refine mv hf rfl ?_; clear hf a; intro a hf
        refine O.cutN (l₁:=[2,3]) (l₂:=_) (fun a w=>Fr a 81 [] [(1,.pointer (some ⟨b_c1,0,none⟩)),(2,.int .i64 0),(3,.bool (okD c.a)),(4,.bool (okD c.b)),(5,.bool false),(15,.int .u8 c.kind),(52,.bool (okD c.a)),(53,.bool (okD c.a)),(55,.bool ((okD c.a)&&(okD c.b)))]∧St w0 w noX [] [pt b_c1 (.cells (aC c) 26 (0,0))]) rfl ?_ ?_
        · rcases Bool.eq_false_or_eq_true (okD c.a) with hb12 | hb12
          · have hb12p:=hb12
            try simp only [Bool.and_eq_true,Bool.or_eq_true,Bool.and_eq_false_iff,Bool.or_eq_false_iff,decide_eq_true_eq,decide_eq_false_iff_not,Bool.not_eq_true',Bool.not_eq_false',Bool.not_eq_true,Bool.not_eq_false,ne_eq] at hb12p
            refine og (v:=.bool (okD c.b)) hf rfl hb12 (RunV.move rfl) ?_; clear hf a; intro a hf; refine ov (v:=.bool ((okD c.a)&&(okD c.b))) hf rfl (RunV.pick rfl rfl rfl (by rw [hb12]; rfl)) ?_; clear hf a; intro a hf; exact O.nil ⟨rfl,hf.q rfl,hS⟩
          · have hb12p:=hb12
            try simp only [Bool.and_eq_true,Bool.or_eq_true,Bool.and_eq_false_iff,Bool.or_eq_false_iff,decide_eq_true_eq,decide_eq_false_iff_not,Bool.not_eq_true',Bool.not_eq_false',Bool.not_eq_true,Bool.not_eq_false,ne_eq] at hb12p
            refine sk hf rfl hb12 fun a hf=>?_; refine ov (v:=.bool ((okD c.a)&&(okD c.b))) hf rfl (RunV.pick rfl rfl rfl (by rw [hb12]; rfl)) ?_; clear hf a; intro a hf; exact O.nil ⟨rfl,hf.q rfl,hS⟩
        clear hf hS a; rintro a w ⟨hf,hS⟩; refine mv hf rfl ?_; clear hf a; intro a hf
        refine O.cutN (l₁:=[5,6,7,8,9]) (l₂:=_) (fun a w=>Fr a 81 [] [(1,.pointer (some ⟨b_c1,0,none⟩)),(2,.int .i64 0),(3,.bool (okD c.a)),(4,.bool (okD c.b)),(5,.bool false),(15,.int .u8 c.kind),(52,.bool (okD c.a)),(53,.bool (okD c.a)),(55,.bool ((okD c.a)&&(okD c.b))),(56,.bool ((okD c.a)&&(okD c.b))),(61,.bool (((okD c.a)&&(okD c.b))&&(decide (c.b.num>(0:Int)))))]∧St w0 w noX [] [pt b_c1 (.cells (aC c) 26 (0,0))]) rfl ?_ ?_
        · rcases Bool.eq_false_or_eq_true ((okD c.a)&&(okD c.b)) with hb13 | hb13
          · have hb13p:=hb13
            try simp only [Bool.and_eq_true,Bool.or_eq_true,Bool.and_eq_false_iff,Bool.or_eq_false_iff,decide_eq_true_eq,decide_eq_false_iff_not,Bool.not_eq_true',Bool.not_eq_false',Bool.not_eq_true,Bool.not_eq_false,ne_eq] at hb13p
            refine og (v:=.pointer (some ⟨b_c1,6,none⟩)) hf rfl hb13 (RunV.field T_field_26_2 rfl rfl) ?_; clear hf a; intro a hf; refine og (v:=.pointer (some ⟨b_c1,6,none⟩)) hf rfl hb13 (RunV.field T_field_24_0 rfl rfl) ?_; clear hf a; intro a hf; refine og (v:=.int .i64 c.b.num) hf rfl hb13 (RunV.load1 T_agg_3 rfl (hS.p 0 rfl) rfl) ?_; clear hf a; intro a hf; refine og (v:=.bool (decide (c.b.num>(0:Int)))) hf rfl hb13 (RunV.gtr rfl rfl) ?_; clear hf a; intro a hf; refine ov (v:=.bool (((okD c.a)&&(okD c.b))&&(decide (c.b.num>(0:Int))))) hf rfl (RunV.pick rfl rfl rfl (by rw [hb13]; rfl)) ?_; clear hf a; intro a hf; exact O.nil ⟨rfl,hf.q rfl,hS⟩
          · have hb13p:=hb13
            try simp only [Bool.and_eq_true,Bool.or_eq_true,Bool.and_eq_false_iff,Bool.or_eq_false_iff,decide_eq_true_eq,decide_eq_false_iff_not,Bool.not_eq_true',Bool.not_eq_false',Bool.not_eq_true,Bool.not_eq_false,ne_eq] at hb13p
            refine sk hf rfl hb13 fun a hf=>sk hf rfl hb13 fun a hf=>sk hf rfl hb13 fun a hf=>sk hf rfl hb13 fun a hf=>?_; refine ov (v:=.bool (((okD c.a)&&(okD c.b))&&(decide (c.b.num>(0:Int))))) hf rfl (RunV.pick rfl rfl rfl (by rw [hb13]; rfl)) ?_; clear hf a; intro a hf; exact O.nil ⟨rfl,hf.q rfl,hS⟩
        clear hf hS a; rintro a w ⟨hf,hS⟩; refine mv hf rfl ?_; clear hf a; intro a hf
        refine O.cutN (l₁:=[11,12,13,14]) (l₂:=_) (fun a w=>Fr a 81 [] [(1,.pointer (some ⟨b_c1,0,none⟩)),(2,.int .i64 0),(3,.bool (okD c.a)),(4,.bool (okD c.b)),(5,.bool false),(15,.int .u8 c.kind),(52,.bool (okD c.a)),(53,.bool (okD c.a)),(55,.bool ((okD c.a)&&(okD c.b))),(56,.bool ((okD c.a)&&(okD c.b))),(61,.bool (((okD c.a)&&(okD c.b))&&(decide (c.b.num>(0:Int))))),(62,.bool (((okD c.a)&&(okD c.b))&&(decide (c.b.num>(0:Int))))),(66,.bool ((((okD c.a)&&(okD c.b))&&(decide (c.b.num>(0:Int))))&&(decide (c.n=(0:Int)))))]∧St w0 w noX [] [pt b_c1 (.cells (aC c) 26 (0,0))]) rfl ?_ ?_
        · rcases Bool.eq_false_or_eq_true (((okD c.a)&&(okD c.b))&&(decide (c.b.num>(0:Int)))) with hb14 | hb14
          · have hb14p:=hb14
            try simp only [Bool.and_eq_true,Bool.or_eq_true,Bool.and_eq_false_iff,Bool.or_eq_false_iff,decide_eq_true_eq,decide_eq_false_iff_not,Bool.not_eq_true',Bool.not_eq_false',Bool.not_eq_true,Bool.not_eq_false,ne_eq] at hb14p
            refine og (v:=.pointer (some ⟨b_c1,11,none⟩)) hf rfl hb14 (RunV.field T_field_26_3 rfl rfl) ?_; clear hf a; intro a hf; refine og (v:=.int .i64 c.n) hf rfl hb14 (RunV.load1 T_agg_3 rfl (hS.p 0 rfl) rfl) ?_; clear hf a; intro a hf; refine og (v:=.bool (decide (c.n=(0:Int)))) hf rfl hb14 (RunV.eql rfl rfl) ?_; clear hf a; intro a hf; refine ov (v:=.bool ((((okD c.a)&&(okD c.b))&&(decide (c.b.num>(0:Int))))&&(decide (c.n=(0:Int))))) hf rfl (RunV.pick rfl rfl rfl (by rw [hb14]; rfl)) ?_; clear hf a; intro a hf; exact O.nil ⟨rfl,hf.q rfl,hS⟩
          · have hb14p:=hb14
            try simp only [Bool.and_eq_true,Bool.or_eq_true,Bool.and_eq_false_iff,Bool.or_eq_false_iff,decide_eq_true_eq,decide_eq_false_iff_not,Bool.not_eq_true',Bool.not_eq_false',Bool.not_eq_true,Bool.not_eq_false,ne_eq] at hb14p
            refine sk hf rfl hb14 fun a hf=>sk hf rfl hb14 fun a hf=>sk hf rfl hb14 fun a hf=>?_; refine ov (v:=.bool ((((okD c.a)&&(okD c.b))&&(decide (c.b.num>(0:Int))))&&(decide (c.n=(0:Int))))) hf rfl (RunV.pick rfl rfl rfl (by rw [hb14]; rfl)) ?_; clear hf a; intro a hf; exact O.nil ⟨rfl,hf.q rfl,hS⟩
        clear hf hS a; rintro a w ⟨hf,hS⟩; refine mv hf rfl ?_; clear hf a; intro a hf; refine O.nil<|k_blk_normal<|k_seq<|W.seq<|W.seq<|?_
        refine W.regionL (l:=[0,1]) rfl<|mv hf rfl<|?_; clear hf a; intro a hf; refine ov (v:=.bool (!((((okD c.a)&&(okD c.b))&&(decide (c.b.num>(0:Int))))&&(decide (c.n=(0:Int)))))) hf rfl (RunV.not rfl) ?_; clear hf a; intro a hf; refine nk ?_; refine W.if_ hf rfl (fun hox=>?_) (fun hox=>?_)
        · have hoxb:=hox
          try simp only [Bool.and_eq_true,Bool.or_eq_true,Bool.and_eq_false_iff,Bool.or_eq_false_iff,decide_eq_true_eq,decide_eq_false_iff_not,Bool.not_eq_true',Bool.not_eq_false',Bool.not_eq_true,Bool.not_eq_false,ne_eq] at hox
          refine W.seq ?_
          refine W.regionL (l:=[0]) rfl<|mv hf rfl<|?_; clear hf a; intro a hf; refine nk<|W.ret<|k_then_ret<|post1 hf rfl (ResOK.tmp rfl)<|?_; exact ⟨(),congrArg (fun x=>Ending.returned (Value.int .i64 x)) (by rw [okC_ref]; (first | rw [if_pos hk1] | rw [if_neg hk1,if_pos hk2] | rw [if_neg hk1,if_neg hk2,if_pos hk3] | rw [if_neg hk1,if_neg hk2,if_neg hk3,if_pos hk4] | rw [if_neg hk1,if_neg hk2,if_neg hk3,if_neg hk4]); first | rfl | exact (ck_no hoxb).symm),hS.sub (List.nil_sublist _) |>.noB⟩
        · have hoxb:=hox
          try simp only [Bool.and_eq_true,Bool.or_eq_true,Bool.and_eq_false_iff,Bool.or_eq_false_iff,decide_eq_true_eq,decide_eq_false_iff_not,Bool.not_eq_true',Bool.not_eq_false',Bool.not_eq_true,Bool.not_eq_false,ne_eq] at hox
          refine W.skip<|k_seq<|W.seq<|?_
          refine W.regionL (l:=[0]) rfl<|mv hf rfl<|?_; clear hf a; intro a hf; refine nk<|W.ret<|post1 hf rfl (ResOK.tmp rfl)<|?_; exact ⟨(),congrArg (fun x=>Ending.returned (Value.int .i64 x)) (by rw [okC_ref]; (first | rw [if_pos hk1] | rw [if_neg hk1,if_pos hk2] | rw [if_neg hk1,if_neg hk2,if_pos hk3] | rw [if_neg hk1,if_neg hk2,if_neg hk3,if_pos hk4] | rw [if_neg hk1,if_neg hk2,if_neg hk3,if_neg hk4]); exact (ck_yes hoxb).symm),hS.sub (List.nil_sublist _) |>.noB⟩
      · refine W.seq ?_
        refine W.regionL (l:=[0,1]) rfl<|ov (v:=.bool (decide (c.kind=(4:Int)))) hf rfl (RunV.eql rfl rfl)<|?_; clear hf a; intro a hf; refine mv hf rfl ?_; clear hf a; intro a hf; refine nk ?_; refine W.ifdI hf rfl (fun hk4=>?_) (fun hk4=>?_)
        ·
          refine W.regionL (l:=[0,1,2,3,4,5,6,7,8,9,10]) rfl<|ov hf rfl (RunV.field T_field_26_3 rfl rfl)<|?_; clear hf a; intro a hf; refine ov hf rfl (RunV.load1 T_agg_3 rfl (hS.p 0 rfl) rfl) ?_; clear hf a; intro a hf; refine ov (v:=.bool (decide (c.n≥(0:Int)))) hf rfl (RunV.geq rfl rfl) ?_; clear hf a; intro a hf; refine mv hf rfl ?_; clear hf a; intro a hf
          refine O.cutN (l₁:=[4,5,6,7,8,9]) (l₂:=_) (fun a w=>Fr a 81 [] [(1,.pointer (some ⟨b_c1,0,none⟩)),(2,.int .i64 0),(5,.bool false),(69,.pointer (some ⟨b_c1,11,none⟩)),(70,.int .i64 c.n),(71,.bool (decide (c.n≥(0:Int)))),(72,.bool (decide (c.n≥(0:Int)))),(78,.bool ((decide (c.n≥(0:Int)))&&(decide (c=⟨4,default,default,c.n⟩))))]∧St w0 w noX [] [pt b_c1 (.cells (aC c) 26 (0,0))]) rfl ?_ ?_
          · rcases Bool.eq_false_or_eq_true (decide (c.n≥(0:Int))) with hb17 | hb17
            · have hb17p:=of_decide_eq_true hb17
              refine og (v:=.agg (aC c)) hf rfl hb17 (RunV.loadN (cs':=(aC c)) T_agg_26 T_size_26 rfl (hS.p 0 rfl) (bl rfl) rfl) ?_; clear hf a; intro a hf; refine og (v:=.pointer (some ⟨b_c1,11,none⟩)) hf rfl hb17 (RunV.field T_field_26_3 rfl rfl) ?_; clear hf a; intro a hf; refine og (v:=.int .i64 c.n) hf rfl hb17 (RunV.load1 T_agg_3 rfl (hS.p 0 rfl) rfl) ?_; clear hf a; intro a hf; refine og (v:=.agg #[.int .u8 4,.int .i64 0,.int .i64 0,.int .u8 0,.int .u8 0,.int .i64 0,.int .i64 0,.int .i64 0,.int .u8 0,.int .u8 0,.int .i64 0,.int .i64 c.n]) hf rfl hb17 (RunV.buildS (cs':=#[.int .u8 4,.int .i64 0,.int .i64 0,.int .u8 0,.int .u8 0,.int .i64 0,.int .i64 0,.int .i64 0,.int .u8 0,.int .u8 0,.int .i64 0,.int .i64 c.n]) T_places_26 T_zero_26 rfl (by kernel_rfl)) ?_; clear hf a; intro a hf; refine og (v:=.bool (decide (c=⟨4,default,default,c.n⟩))) hf rfl hb17 (eqC c ⟨4,default,default,c.n⟩ rfl rfl) ?_; clear hf a; intro a hf; refine ov (v:=.bool ((decide (c.n≥(0:Int)))&&(decide (c=⟨4,default,default,c.n⟩)))) hf rfl (RunV.pick rfl rfl rfl (by rw [hb17]; rfl)) ?_; clear hf a; intro a hf; exact O.nil ⟨rfl,hf.q rfl,hS⟩
            · have hb17p:=of_decide_eq_false hb17
              refine sk hf rfl hb17 fun a hf=>sk hf rfl hb17 fun a hf=>sk hf rfl hb17 fun a hf=>sk hf rfl hb17 fun a hf=>sk hf rfl hb17 fun a hf=>?_; refine ov (v:=.bool ((decide (c.n≥(0:Int)))&&(decide (c=⟨4,default,default,c.n⟩)))) hf rfl (RunV.pick rfl rfl rfl (by rw [hb17]; rfl)) ?_; clear hf a; intro a hf; exact O.nil ⟨rfl,hf.q rfl,hS⟩
          clear hf hS a; rintro a w ⟨hf,hS⟩; refine mv hf rfl ?_; clear hf a; intro a hf; refine O.nil<|k_blk_normal<|k_seq<|W.seq<|W.seq<|?_
          refine W.regionL (l:=[0,1]) rfl<|mv hf rfl<|?_; clear hf a; intro a hf; refine ov (v:=.bool (!((decide (c.n≥(0:Int)))&&(decide (c=⟨4,default,default,c.n⟩))))) hf rfl (RunV.not rfl) ?_; clear hf a; intro a hf; refine nk ?_; refine W.if_ hf rfl (fun hox=>?_) (fun hox=>?_)
          · have hoxb:=hox
            try simp only [Bool.and_eq_true,Bool.or_eq_true,Bool.and_eq_false_iff,Bool.or_eq_false_iff,decide_eq_true_eq,decide_eq_false_iff_not,Bool.not_eq_true',Bool.not_eq_false',Bool.not_eq_true,Bool.not_eq_false,ne_eq] at hox
            refine W.seq ?_
            refine W.regionL (l:=[0]) rfl<|mv hf rfl<|?_; clear hf a; intro a hf; refine nk<|W.ret<|k_then_ret<|post1 hf rfl (ResOK.tmp rfl)<|?_; exact ⟨(),congrArg (fun x=>Ending.returned (Value.int .i64 x)) (by rw [okC_ref]; (first | rw [if_pos hk1] | rw [if_neg hk1,if_pos hk2] | rw [if_neg hk1,if_neg hk2,if_pos hk3] | rw [if_neg hk1,if_neg hk2,if_neg hk3,if_pos hk4] | rw [if_neg hk1,if_neg hk2,if_neg hk3,if_neg hk4]); first | rfl | exact (ck_no hoxb).symm),hS.sub (List.nil_sublist _) |>.noB⟩
          · have hoxb:=hox
            try simp only [Bool.and_eq_true,Bool.or_eq_true,Bool.and_eq_false_iff,Bool.or_eq_false_iff,decide_eq_true_eq,decide_eq_false_iff_not,Bool.not_eq_true',Bool.not_eq_false',Bool.not_eq_true,Bool.not_eq_false,ne_eq] at hox
            refine W.skip<|k_seq<|W.seq<|?_
            refine W.regionL (l:=[0]) rfl<|mv hf rfl<|?_; clear hf a; intro a hf; refine nk<|W.ret<|post1 hf rfl (ResOK.tmp rfl)<|?_; exact ⟨(),congrArg (fun x=>Ending.returned (Value.int .i64 x)) (by rw [okC_ref]; (first | rw [if_pos hk1] | rw [if_neg hk1,if_pos hk2] | rw [if_neg hk1,if_neg hk2,if_pos hk3] | rw [if_neg hk1,if_neg hk2,if_neg hk3,if_pos hk4] | rw [if_neg hk1,if_neg hk2,if_neg hk3,if_neg hk4]); exact (ck_yes hoxb).symm),hS.sub (List.nil_sublist _) |>.noB⟩
        · refine W.skip ?_
          refine k_blk_normal<|k_seq<|W.seq<|W.seq<|?_
          refine W.regionL (l:=[0,1]) rfl<|mv hf rfl<|?_; clear hf a; intro a hf; refine ov (v:=.bool true) hf rfl (RunV.not (b:=false) rfl) ?_; clear hf a; intro a hf; refine nk<|W.if_tt hf rfl<|W.seq<|?_
          refine W.regionL (l:=[0]) rfl<|mv hf rfl<|?_; clear hf a; intro a hf; refine nk<|W.ret<|k_then_ret<|post1 hf rfl (ResOK.tmp rfl)<|?_; exact ⟨(),congrArg (fun x=>Ending.returned (Value.int .i64 x)) (by rw [okC_ref]; (first | rw [if_pos hk1] | rw [if_neg hk1,if_pos hk2] | rw [if_neg hk1,if_neg hk2,if_pos hk3] | rw [if_neg hk1,if_neg hk2,if_neg hk3,if_pos hk4] | rw [if_neg hk1,if_neg hk2,if_neg hk3,if_neg hk4]); first | rfl | exact (ck_no hoxb).symm),hS.sub (List.nil_sublist _) |>.noB⟩
end Go.Proofs.YtgakdmmmljdpjaaDoor
