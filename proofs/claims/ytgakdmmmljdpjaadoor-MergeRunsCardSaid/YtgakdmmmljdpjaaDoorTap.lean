/- Part of a proof: laws and walks. -/
import Derived.Test.YtgakdmmmljdpjaaDoorTac
import Derived.Test.YtgakdmmmljdpjaaDoorTan
import Derived.Test.YtgakdmmmljdpjaaDoorTal
import Derived.Test.YtgakdmmmljdpjaaDoorTab
import Derived.Test.YtgakdmmmljdpjaaDoorTao
set_option linter.unusedVariables false
set_option linter.unusedSimpArgs false
set_option maxHeartbeats 1000000
set_option maxRecDepth 8000
namespace Go.Proofs.YtgakdmmmljdpjaaDoor
open Go Go.SL
theorem C_ok_18:callOK Tryd.prog 18=true:=by kernel_rfl
set_option maxHeartbeats 4000000 in
set_option maxRecDepth 4000 in
theorem made_spec (vl:Value) (l:List Dg) (w0:World) (hl:rdOK (hp w0) 5 vl l.length (encs eD l)) (hok:∀ d ∈ l,okD d=true∧rD d) (h0:0<l.length) (hz:l.length≤1000) :
    Ret Tryd.prog 59 #[vl] w0 (G:=Value) (fun g=>oV ((sortDs l).getD 0 default) g) (fun g w=>St w0 w noX [] [slE 24 5 eD g (sortDs l)]):=by
  refine ret_of_W (lv:=[vl]) Tryd.func59 rfl rfl rfl (fun a hf=>?_); replace hf:Fr a 58 [] [(0,vl)]:=hf; have hS:St w0 w0 noX [rdv 5 vl l.length (encs eD l)] []:=(St.refl w0).lend0 hl; have hlm:=hl.2.1; unfold maxLen at hlm; refine W.seq ?_
  refine W.regionL (l:=[0]) rfl<|O.alloc (cs:=#[.int .i64 0,.int .i64 0,.int .u8 0,.int .u8 0,.int .i64 0,.slice none 0 0]) hf hS rfl rfl T_zero_46 rfl<|?_; intro b_x1 w a hbb_x1 hS hf; refine nk<|W.seq<|?_
  refine W.regionL (l:=[0]) rfl<|mv hf rfl<|?_; clear hf a; intro a hf; refine nk<|W.seq<|W.seq<|?_
  refine W.regionL (l:=[0]) rfl<|mv hf rfl<|?_; clear hf a; intro a hf; refine nk<|W.block<|?_; replace hS:=hS.nilSl 24 5; replace hS:St w0 _ noX [rdv 5 vl l.length (encs eD l)] [sl 24 5 (.slice none 0 0) (([]:List Dg).length) (encs eD ([]:List Dg)),pt b_x1 (.cells #[.int .i64 0,.int .i64 0,.int .u8 0,.int .u8 0,.int .i64 0,.slice none 0 0] 46 (0,0))]:=hS
  refine W.loop (G:=(Nat) × (List Dg) × (Value)) (fun g a w=>match g with | (i,s,vs)=>Fr a 58 [] [(0,vl),(2,.pointer (some ⟨b_x1,0,none⟩)),(3,vs),(4,.int .i64 (i:Int))]∧St w0 w noX [rdv 5 vl l.length (encs eD l)] [sl 24 5 vs s.length (encs eD s),pt b_x1 (.cells #[.int .i64 0,.int .i64 0,.int .u8 0,.int .u8 0,.int .i64 0,.slice none 0 0] 46 (0,0))]∧(i≤l.length)∧(s.length=i)∧(s.Perm (l.take i))∧(s.Pairwise fun x y=>cmpD ((fun d:Dg=>d) x) ((fun d:Dg=>d) y)≤0)) (fun g=>match g with | (i,s,vs)=>l.length-i) (0,[],.slice none 0 0) ?_ ?_
  · refine ⟨hf.to ⟨rfl,rfl,(by first | rfl | exact congrArg some (congrArg (Value.int _) (by omega))),(by first | rfl | exact congrArg some (congrArg (Value.int _) (by omega))),trivial⟩,hS,?_,?_,?_,?_⟩
    · omega
    · rfl
    · simp
    · exact List.Pairwise.nil
  clear hf hS a; rintro ⟨i,s,vs⟩ a w ⟨hf,hS,hi,hlen,hperm,hsrt⟩; refine W.seq<|W.seq<|?_
  refine W.regionL (l:=[0,1,2,3]) rfl<|mv hf rfl<|?_; clear hf a; intro a hf; refine mv hf rfl ?_; clear hf a; intro a hf; refine ov hf rfl (RunV.lenV (e:=24) (by simpa using T_elem_35) rfl (hS.rdAt (j:=0) rfl)) ?_; clear hf a; intro a hf; refine ov (v:=.bool (decide ((i:Int)<((l.length:Int):Int)))) hf rfl (RunV.lss rfl rfl) ?_; clear hf a; intro a hf; refine nk ?_; refine W.ifdI hf rfl (fun hc2=>?_) (fun hc2=>?_)
  · refine W.skip ?_
    refine k_seq<|W.seq<|W.block<|W.seq<|?_
    refine W.regionL (l:=[0,1,2,3,4,5,6,7]) rfl ?_; obtain ⟨x,hx⟩:∃ x,x=l.getD i default:=⟨_,rfl⟩; have hpe:putAt s i x=s++[x]:=by rw [← hlen]; exact putAt_end
    refine mv hf rfl ?_; clear hf a; intro a hf; refine mv hf rfl ?_; clear hf a; intro a hf; refine mv hf rfl ?_; clear hf a; intro a hf; refine ov hf rfl (RunV.ixV (j:=i) (m:=i*5) T_elem_35 T_size_24 rfl rfl (hS.rdAt (j:=0) rfl) rfl (by omega) rfl) ?_; clear hf a; intro a hf; refine ov hf rfl (RunV.ldG (j:=i) (enc:=eD) (l:=l) (us:=eD x) T_agg_24 T_size_24 rfl eD_len rfl (hS.rdAt (j:=0) rfl) (by omega) (by rw [hx])) ?_; clear hf a; intro a hf; refine O.buildSlice (cs':=(aD x)) (zs:=#[.int .i64 0,.int .i64 0,.int .u8 0,.int .u8 0,.int .i64 0]) hf hS rfl rfl T_elem_35 T_size_24 T_zero_24 rfl rfl rfl rfl rfl ?_; intro b_s3 w a hbb_s3 hS hf; refine O.append1 (j:=1) (jj:=0) hf hS rfl rfl T_elem_35 T_size_24 T_bytes_24 T_zero_24 rfl rfl rfl rfl rfl rfl rfl rfl (by unfold maxLen; omega) (by omega) ?_; intro v4 w a hS hf; replace hS:=hS.eqM (N:=[pt b_s3 (.cells (aD x) 24 (0,0)),sl 24 5 v4 (s.length+1) (encs eD s++[.int .i64 x.num,.int .i64 x.yr,.int .u8 x.half,.int .u8 x.sec,.int .i64 x.cyc]),pt b_x1 (.cells #[.int .i64 0,.int .i64 0,.int .u8 0,.int .u8 0,.int .i64 0,.slice none 0 0] 46 (0,0))]) rfl; replace hS:=hS.reE (i:=1) (M':=[pt b_s3 (.cells (aD x) 24 (0,0)),sl 24 5 v4 ((s++[x]).length) (encs eD (s++[x])),pt b_x1 (.cells #[.int .i64 0,.int .i64 0,.int .u8 0,.int .u8 0,.int .i64 0,.slice none 0 0] 46 (0,0))]) rfl (sl_snoc (enc:=eD) (l:=s) (x:=x)) rfl; refine mv hf rfl ?_; clear hf a; intro a hf; refine nk<|W.seq<|?_
    refine W.regionL (l:=[0,1]) rfl<|mv hf rfl<|?_; clear hf a; intro a hf; refine mv hf rfl ?_; clear hf a; intro a hf; refine nk ?_; replace hf:Fr a 58 [] [(0,vl),(2,.pointer (some ⟨b_x1,0,none⟩)),(3,v4),(4,.int .i64 (i:Int)),(5,.int .i64 (i:Int))]:=hf.q rfl; refine W.block ?_
    refine W.loop (G:=(Nat)) (fun g a w=>match g with | k=>Fr a 58 [] [(0,vl),(2,.pointer (some ⟨b_x1,0,none⟩)),(3,v4),(4,.int .i64 (i:Int)),(5,.int .i64 (k:Int))]∧St w0 w noX [rdv 5 vl l.length (encs eD l)] [pt b_s3 (.cells (aD x) 24 (0,0)),sl 24 5 v4 ((putAt s k x).length) (encs eD (putAt s k x)),pt b_x1 (.cells #[.int .i64 0,.int .i64 0,.int .u8 0,.int .u8 0,.int .i64 0,.slice none 0 0] 46 (0,0))]∧(InsI (fun d:Dg=>d) l s i k)) (fun g=>match g with | k=>k) i ?_ ?_
    · refine ⟨hf.to ⟨rfl,rfl,rfl,rfl,(by first | rfl | exact congrArg some (congrArg (Value.int _) (by omega))),trivial⟩,hS.eqM (by rw [hpe]),?_⟩
      · exact ins_start (by omega) hlen hperm hsrt
    clear hf hS a; rintro k a w ⟨hf,hS,I⟩; refine W.seq<|W.seq<|?_
    have hkk:=I.hk; have hsl:=I.len; have hgl:(putAt s k x).length=s.length+1:=putAt_len; have hgx:(putAt s k x).getD k default=x:=by rw [putAt_get (by omega),if_neg (by omega),if_pos rfl]
    have hgy:0<k→(putAt s k x).getD (k-1) default=s.getD (k-1) default:=fun h=>by rw [putAt_get (by omega),if_pos (by omega)]
    refine W.drawQ (fun w=>St w0 w noX [rdv 5 vl l.length (encs eD l)] [pt b_s3 (.cells (aD x) 24 (0,0)),sl 24 5 v4 ((putAt s k x).length) (encs eD (putAt s k x)),pt b_x1 (.cells #[.int .i64 0,.int .i64 0,.int .u8 0,.int .u8 0,.int .i64 0,.slice none 0 0] 46 (0,0))]) P_mixed rfl (by kernel_rfl) rfl hS.drew ?_; clear hS; refine OQ.val (v:=.int .i64 (k:Int)) hf rfl (fun w hS=>RunV.move rfl) fun a hf=>OQ.val (v:=.bool (decide ((k:Int)>(0:Int)))) hf rfl (fun w hS=>RunV.gtr rfl rfl) fun a hf=>OQ.val (v:=.bool (decide ((k:Int)>(0:Int)))) hf rfl (fun w hS=>RunV.move rfl) fun a hf=>?_
    refine OQ.cutK (K':=fun a=>Fr a 58 [] [(0,vl),(2,.pointer (some ⟨b_x1,0,none⟩)),(3,v4),(4,.int .i64 (i:Int)),(5,.int .i64 (k:Int)),(20,.int .i64 (k:Int)),(21,.bool (decide ((k:Int)>(0:Int)))),(22,.bool (decide ((k:Int)>(0:Int)))),(34,.bool ((decide ((k:Int)>(0:Int)))&&(decide ((befM x (s.getD (k-1) default))<(0:Int)))))]) 12 ?_ ?_
    · rcases Bool.eq_false_or_eq_true (decide ((k:Int)>(0:Int))) with hb5 | hb5
      · have hb5p:=of_decide_eq_true hb5
        refine OQ.gval (v:=v4) hf rfl rfl hb5 rfl (fun w hS=>RunV.move rfl) fun a hf=>OQ.gval (v:=.int .i64 (k:Int)) hf rfl rfl hb5 rfl (fun w hS=>RunV.move rfl) fun a hf=>OQ.gval (v:=ix v4 (k*5)) hf rfl rfl hb5 rfl (fun w hS=>RunV.ixV (j:=k) (m:=k*5) T_elem_35 T_size_24 rfl rfl (hS.slr (j:=1) rfl) rfl (by omega) rfl) fun a hf=>OQ.gval (v:=.agg (aD x)) hf rfl rfl hb5 rfl (fun w hS=>RunV.ldG (j:=k) (enc:=eD) (l:=(putAt s k x)) (us:=eD x) T_agg_24 T_size_24 rfl eD_len rfl (hS.slr (j:=1) rfl) (by omega) (by rw [hgx])) fun a hf=>OQ.gval (v:=v4) hf rfl rfl hb5 rfl (fun w hS=>RunV.move rfl) fun a hf=>OQ.gval (v:=.int .i64 (k:Int)) hf rfl rfl hb5 rfl (fun w hS=>RunV.move rfl) fun a hf=>OQ.gval (v:=.int .i64 ((k:Int)-1)) hf rfl rfl hb5 rfl (fun w hS=>RunV.subI rfl rfl (by omega)) fun a hf=>OQ.gval (v:=ix v4 ((k-1)*5)) hf rfl rfl hb5 rfl (fun w hS=>RunV.ixV (j:=(k-1)) (m:=(k-1)*5) T_elem_35 T_size_24 rfl rfl (hS.slr (j:=1) rfl) (by omega) (by omega) rfl) fun a hf=>OQ.gval (v:=.agg (aD (s.getD (k-1) default))) hf rfl rfl hb5 rfl (fun w hS=>RunV.ldG (j:=(k-1)) (enc:=eD) (l:=(putAt s k x)) (us:=eD (s.getD (k-1) default)) T_agg_24 T_size_24 rfl eD_len rfl (hS.slr (j:=1) rfl) (by omega) (by rw [hgy (by omega)])) fun a hf=>OQ.gcallRq (v:=.int .i64 (befM x (s.getD (k-1) default))) hf rfl rfl hb5 rfl (fun w hS=>RunE.call (av:=#[.agg (aD x),.agg (aD (s.getD (k-1) default))]) C_ok_18 rfl rfl rfl) (fun w hS=>bef_spec x (s.getD (k-1) default) _) fun a hf=>?_; refine OQ.gval (v:=.bool (decide ((befM x (s.getD (k-1) default))<(0:Int)))) hf rfl rfl hb5 rfl (fun w hS=>RunV.lss rfl rfl) fun a hf=>?_; refine OQ.val (v:=.bool ((decide ((k:Int)>(0:Int)))&&(decide ((befM x (s.getD (k-1) default))<(0:Int))))) hf rfl (fun w hS=>RunV.pick rfl rfl rfl (by rw [hb5]; rfl)) ?_; clear hf a; intro a hf; exact OQ.nil (hf.q rfl)
      · have hb5p:=of_decide_eq_false hb5
        refine OQ.skipB hf rfl rfl hb5 rfl fun a hf=>OQ.skipB hf rfl rfl hb5 rfl fun a hf=>OQ.skipB hf rfl rfl hb5 rfl fun a hf=>OQ.skipB hf rfl rfl hb5 rfl fun a hf=>OQ.skipB hf rfl rfl hb5 rfl fun a hf=>OQ.skipB hf rfl rfl hb5 rfl fun a hf=>OQ.skipB hf rfl rfl hb5 rfl fun a hf=>OQ.skipB hf rfl rfl hb5 rfl fun a hf=>OQ.skipB hf rfl rfl hb5 rfl fun a hf=>OQ.skipB hf rfl rfl hb5 rfl fun a hf=>?_; refine OQ.skipB hf rfl rfl hb5 rfl fun a hf=>?_; refine OQ.val (v:=.bool ((decide ((k:Int)>(0:Int)))&&(decide ((befM x (s.getD (k-1) default))<(0:Int))))) hf rfl (fun w hS=>RunV.pick rfl rfl rfl (by rw [hb5]; rfl)) ?_; clear hf a; intro a hf; exact OQ.nil (hf.q rfl)
    clear hf a; intro a hf; refine OQ.nil ?_; intro w hS; refine k_seq ?_; refine W.if_ hf rfl (fun hsw=>?_) (fun hsw=>?_)
    · have hswb:=hsw
      try simp only [Bool.and_eq_true,Bool.or_eq_true,Bool.and_eq_false_iff,Bool.or_eq_false_iff,decide_eq_true_eq,decide_eq_false_iff_not,Bool.not_eq_true',Bool.not_eq_false',Bool.not_eq_true,Bool.not_eq_false,ne_eq] at hsw
      refine W.skip<|k_seq<|W.seq<|W.block<|?_
      have hk0:=(ins_go I hok hx hswb).1; replace hf:Fr a 58 [] [(0,vl),(2,.pointer (some ⟨b_x1,0,none⟩)),(3,v4),(4,.int .i64 (i:Int)),(5,.int .i64 (k:Int))]:=hf.q rfl
      let LZ170:List (Nat × Value):=[(0,vl),(2,.pointer (some ⟨b_x1,0,none⟩)),(3,v4),(4,.int .i64 (i:Int)),(5,.int .i64 (k:Int))]
      let MZ170:List Asr:=[pt b_s3 (.cells (aD x) 24 (0,0)),sl 24 5 v4 ((putAt s k x).length) (encs eD (putAt s k x)),pt b_x1 (.cells #[.int .i64 0,.int .i64 0,.int .u8 0,.int .u8 0,.int .i64 0,.slice none 0 0] 46 (0,0))]
      refine W.drawC (γ:=Unit) (L0:=LZ170) (L1:=[]) () [15,17] [] [0,1,2,3,4,5,6,7,8,9,10,11,12,13,14,16] (fun i_=>match i_ with | 0=>[] | 1=>[] | 2=>[1] | 3=>[] | 4=>[] | 5=>[] | 6=>[] | 7=>[5,6] | 8=>[7] | 9=>[] | 10=>[] | 11=>[10] | 12=>[9,11] | 13=>[12] | 14=>[0,1,2,5,6,7,8,13] | 15=>[0,1,2,5,6,7,8,13,14] | 16=>[0,1,2,3,4,5,6,7,8,9,10,11,12,13,14,15] | 17=>[0,1,2,3,4,5,6,7,8,9,10,11,12,13,14,15,16] | _=>[]) (fun i_=>match i_ with | 0=>[] | 1=>[] | 2=>[] | 3=>[] | 4=>[] | 5=>[] | 6=>[] | 7=>[] | 8=>[] | 9=>[] | 10=>[] | 11=>[] | 12=>[] | 13=>[] | 14=>[] | 15=>[] | 16=>[15] | 17=>[15] | _=>[]) (fun i_=>match i_ with | 0=>[15,17] | 1=>[15,17] | 2=>[15,17] | 3=>[17] | 4=>[17] | 5=>[15,17] | 6=>[15,17] | 7=>[15,17] | 8=>[15,17] | 9=>[15,17] | 10=>[15,17] | 11=>[15,17] | 12=>[15,17] | 13=>[15,17] | 14=>[15,17] | 15=>[17] | 16=>[17] | 17=>[] | _=>[]) (fun _=>[]) (fun i_=>match i_ with | 0=>[] | 1=>[] | 2=>[] | 3=>[] | 4=>[] | 5=>[] | 6=>[] | 7=>[] | 8=>[] | 9=>[] | 10=>[] | 11=>[] | 12=>[] | 13=>[] | 14=>[] | 15=>[16,17] | 16=>[] | 17=>[] | _=>[]) (fun _=>[]) (fun i_=>match i_ with | 0=>0 | 1=>0 | 2=>0 | 3=>0 | 4=>0 | 5=>0 | 6=>0 | 7=>0 | 8=>0 | 9=>0 | 10=>0 | 11=>0 | 12=>0 | 13=>0 | 14=>0 | 15=>0 | 16=>1 | 17=>1 | _=>0) (fun i_=>match i_ with | 0=>0 | 1=>0 | 2=>0 | 3=>1 | 4=>1 | 5=>0 | 6=>0 | 7=>0 | 8=>0 | 9=>0 | 10=>0 | 11=>0 | 12=>0 | 13=>0 | 14=>0 | 15=>1 | 16=>1 | 17=>2 | _=>0) (fun (g:Unit) j_=>match g,j_ with | _,0=>v4 | _,1=>.int .i64 (k:Int) | _,2=>.int .i64 ((k:Int)-1) | _,3=>v4 | _,4=>.int .i64 (k:Int) | _,5=>v4 | _,6=>.int .i64 (k:Int) | _,7=>ix v4 (k*5) | _,8=>.agg (aD x) | _,9=>v4 | _,10=>.int .i64 (k:Int) | _,11=>.int .i64 ((k:Int)-1) | _,12=>ix v4 ((k-1)*5) | _,13=>.agg (aD (s.getD (k-1) default)) | _,14=>ix v4 ((k-1)*5) | _,16=>ix v4 (k*5) | _,_=>undef) (fun k_ (_:Nat→Bool) (g:Unit) w=>match k_,g with | 0,_=>St w0 w noX [rdv 5 vl l.length (encs eD l)] MZ170 | 1,_=>St w0 w noX [rdv 5 vl l.length (encs eD l)] [pt b_s3 (.cells (aD x) 24 (0,0)),sl 24 5 v4 (((putAt s k x).set (k-1) x).length) (encs eD ((putAt s k x).set (k-1) x)),pt b_x1 (.cells #[.int .i64 0,.int .i64 0,.int .u8 0,.int .u8 0,.int .i64 0,.slice none 0 0] 46 (0,0))] | _,_=>St w0 w noX [rdv 5 vl l.length (encs eD l)] [pt b_s3 (.cells (aD x) 24 (0,0)),sl 24 5 v4 ((((putAt s k x).set (k-1) x).set k (s.getD (k-1) default)).length) (encs eD (((putAt s k x).set (k-1) x).set k (s.getD (k-1) default))),pt b_x1 (.cells #[.int .i64 0,.int .i64 0,.int .u8 0,.int .u8 0,.int .i64 0,.slice none 0 0] 46 (0,0))]) P_mixed (by kernel_rfl) (by kernel_rfl) (by kernel_rfl) hf (hf.to trivial) hS.drew ?_ ?_ trivial ?_
      · clear hf hS
        refine ⟨?_,?_,?_,?_,?_,?_,?_,?_,?_,?_,?_,?_,?_,?_,?_,?_,trivial⟩
        · intro k_ s_ g w hlo hhi _ hD a hf
          obtain rfl:k_=0:=Nat.le_antisymm hhi hlo; have hS:=hD; clear hD; replace hf:Fr a 58 [] LZ170:=hf; refine mv hf rfl ?_; clear hf a; intro a hf; exact O.nil ⟨rfl,hf.to trivial,(gt (d:=37) hf rfl rfl),hS⟩
        · intro k_ s_ g w hlo hhi _ hD a hf
          obtain rfl:k_=0:=Nat.le_antisymm hhi hlo; have hS:=hD; clear hD; replace hf:Fr a 58 [] LZ170:=hf; refine mv hf rfl ?_; clear hf a; intro a hf; exact O.nil ⟨rfl,hf.to trivial,(gt (d:=38) hf rfl rfl),hS⟩
        · intro k_ s_ g w hlo hhi _ hD a hf
          obtain rfl:k_=0:=Nat.le_antisymm hhi hlo; have hS:=hD; clear hD; replace hf:Fr a 58 [] ((38,.int .i64 (k:Int))::LZ170):=hf; refine ov hf rfl (RunV.subI rfl rfl (by omega)) ?_; clear hf a; intro a hf; exact O.nil ⟨rfl,hf.to trivial,(gt (d:=39) hf rfl rfl),hS⟩
        · intro k_ s_ g w hlo hhi _ hD a hf
          rcases k_ with _ | _ | k_
          · have hS:St w0 w noX [rdv 5 vl l.length (encs eD l)] MZ170:=hD; clear hD
            replace hf:Fr a 58 [] LZ170:=hf; refine mv hf rfl ?_; clear hf a; intro a hf; exact O.nil ⟨rfl,hf.to trivial,(gt (d:=40) hf rfl rfl),hS⟩
          · have hS:St w0 w noX [rdv 5 vl l.length (encs eD l)] [pt b_s3 (.cells (aD x) 24 (0,0)),sl 24 5 v4 (((putAt s k x).set (k-1) x).length) (encs eD ((putAt s k x).set (k-1) x)),pt b_x1 (.cells #[.int .i64 0,.int .i64 0,.int .u8 0,.int .u8 0,.int .i64 0,.slice none 0 0] 46 (0,0))]:=hD; clear hD
            replace hf:Fr a 58 [] LZ170:=hf; refine mv hf rfl ?_; clear hf a; intro a hf; exact O.nil ⟨rfl,hf.to trivial,(gt (d:=40) hf rfl rfl),hS⟩
          · have hhi:k_+2≤1:=hhi; omega
        · intro k_ s_ g w hlo hhi _ hD a hf
          rcases k_ with _ | _ | k_
          · have hS:St w0 w noX [rdv 5 vl l.length (encs eD l)] MZ170:=hD; clear hD
            replace hf:Fr a 58 [] LZ170:=hf; refine mv hf rfl ?_; clear hf a; intro a hf; exact O.nil ⟨rfl,hf.to trivial,(gt (d:=41) hf rfl rfl),hS⟩
          · have hS:St w0 w noX [rdv 5 vl l.length (encs eD l)] [pt b_s3 (.cells (aD x) 24 (0,0)),sl 24 5 v4 (((putAt s k x).set (k-1) x).length) (encs eD ((putAt s k x).set (k-1) x)),pt b_x1 (.cells #[.int .i64 0,.int .i64 0,.int .u8 0,.int .u8 0,.int .i64 0,.slice none 0 0] 46 (0,0))]:=hD; clear hD
            replace hf:Fr a 58 [] LZ170:=hf; refine mv hf rfl ?_; clear hf a; intro a hf; exact O.nil ⟨rfl,hf.to trivial,(gt (d:=41) hf rfl rfl),hS⟩
          · have hhi:k_+2≤1:=hhi; omega
        · intro k_ s_ g w hlo hhi _ hD a hf
          obtain rfl:k_=0:=Nat.le_antisymm hhi hlo; have hS:=hD; clear hD; replace hf:Fr a 58 [] LZ170:=hf; refine mv hf rfl ?_; clear hf a; intro a hf; exact O.nil ⟨rfl,hf.to trivial,(gt (d:=42) hf rfl rfl),hS⟩
        · intro k_ s_ g w hlo hhi _ hD a hf
          obtain rfl:k_=0:=Nat.le_antisymm hhi hlo; have hS:=hD; clear hD; replace hf:Fr a 58 [] LZ170:=hf; refine mv hf rfl ?_; clear hf a; intro a hf; exact O.nil ⟨rfl,hf.to trivial,(gt (d:=43) hf rfl rfl),hS⟩
        · intro k_ s_ g w hlo hhi _ hD a hf
          obtain rfl:k_=0:=Nat.le_antisymm hhi hlo; have hS:=hD; clear hD; replace hf:Fr a 58 [] ((42,v4)::(43,.int .i64 (k:Int))::LZ170):=hf; refine ov hf rfl (RunV.ixV (j:=k) (m:=k*5) T_elem_35 T_size_24 rfl rfl (hS.slr (j:=1) rfl) rfl (by omega) rfl) ?_; clear hf a; intro a hf; exact O.nil ⟨rfl,hf.to trivial,(gt (d:=44) hf rfl rfl),hS⟩
        · intro k_ s_ g w hlo hhi _ hD a hf
          obtain rfl:k_=0:=Nat.le_antisymm hhi hlo; have hS:=hD; clear hD; replace hf:Fr a 58 [] ((44,ix v4 (k*5))::LZ170):=hf; refine ov hf rfl (RunV.ldG (j:=k) (enc:=eD) (l:=(putAt s k x)) (us:=eD x) T_agg_24 T_size_24 rfl eD_len rfl (hS.slr (j:=1) rfl) (by omega) (by rw [hgx])) ?_; clear hf a; intro a hf; exact O.nil ⟨rfl,hf.to trivial,(gt (d:=45) hf rfl rfl),hS⟩
        · intro k_ s_ g w hlo hhi _ hD a hf
          obtain rfl:k_=0:=Nat.le_antisymm hhi hlo; have hS:=hD; clear hD; replace hf:Fr a 58 [] LZ170:=hf; refine mv hf rfl ?_; clear hf a; intro a hf; exact O.nil ⟨rfl,hf.to trivial,(gt (d:=46) hf rfl rfl),hS⟩
        · intro k_ s_ g w hlo hhi _ hD a hf
          obtain rfl:k_=0:=Nat.le_antisymm hhi hlo; have hS:=hD; clear hD; replace hf:Fr a 58 [] LZ170:=hf; refine mv hf rfl ?_; clear hf a; intro a hf; exact O.nil ⟨rfl,hf.to trivial,(gt (d:=47) hf rfl rfl),hS⟩
        · intro k_ s_ g w hlo hhi _ hD a hf
          obtain rfl:k_=0:=Nat.le_antisymm hhi hlo; have hS:=hD; clear hD; replace hf:Fr a 58 [] ((47,.int .i64 (k:Int))::LZ170):=hf; refine ov hf rfl (RunV.subI rfl rfl (by omega)) ?_; clear hf a; intro a hf; exact O.nil ⟨rfl,hf.to trivial,(gt (d:=48) hf rfl rfl),hS⟩
        · intro k_ s_ g w hlo hhi _ hD a hf
          obtain rfl:k_=0:=Nat.le_antisymm hhi hlo; have hS:=hD; clear hD; replace hf:Fr a 58 [] ((46,v4)::(48,.int .i64 ((k:Int)-1))::LZ170):=hf; refine ov hf rfl (RunV.ixV (j:=(k-1)) (m:=(k-1)*5) T_elem_35 T_size_24 rfl rfl (hS.slr (j:=1) rfl) (by omega) (by omega) rfl) ?_; clear hf a; intro a hf; exact O.nil ⟨rfl,hf.to trivial,(gt (d:=49) hf rfl rfl),hS⟩
        · intro k_ s_ g w hlo hhi _ hD a hf
          obtain rfl:k_=0:=Nat.le_antisymm hhi hlo; have hS:=hD; clear hD; replace hf:Fr a 58 [] ((49,ix v4 ((k-1)*5))::LZ170):=hf; refine ov hf rfl (RunV.ldG (j:=(k-1)) (enc:=eD) (l:=(putAt s k x)) (us:=eD (s.getD (k-1) default)) T_agg_24 T_size_24 rfl eD_len rfl (hS.slr (j:=1) rfl) (by omega) (by rw [hgy (by omega)])) ?_; clear hf a; intro a hf; exact O.nil ⟨rfl,hf.to trivial,(gt (d:=50) hf rfl rfl),hS⟩
        · intro k_ s_ g w hlo hhi _ hD a hf
          obtain rfl:k_=0:=Nat.le_antisymm hhi hlo; have hS:=hD; clear hD; replace hf:Fr a 58 [] ((37,v4)::(38,.int .i64 (k:Int))::(39,.int .i64 ((k:Int)-1))::(42,v4)::(43,.int .i64 (k:Int))::(44,ix v4 (k*5))::(45,.agg (aD x))::(50,.agg (aD (s.getD (k-1) default)))::LZ170):=hf; refine ov hf rfl (RunV.ixV (j:=(k-1)) (m:=(k-1)*5) T_elem_35 T_size_24 rfl rfl (hS.slr (j:=1) rfl) (by omega) (by omega) rfl) ?_; clear hf a; intro a hf; exact O.nil ⟨rfl,hf.to trivial,(gt (d:=51) hf rfl rfl),hS⟩
        · intro k_ s_ g w hlo hhi _ hD a hf
          obtain rfl:k_=1:=Nat.le_antisymm hhi hlo; have hS:=hD; clear hD; replace hf:Fr a 58 [] ((37,v4)::(38,.int .i64 (k:Int))::(39,.int .i64 ((k:Int)-1))::(40,v4)::(41,.int .i64 (k:Int))::(42,v4)::(43,.int .i64 (k:Int))::(44,ix v4 (k*5))::(45,.agg (aD x))::(46,v4)::(47,.int .i64 (k:Int))::(48,.int .i64 ((k:Int)-1))::(49,ix v4 ((k-1)*5))::(50,.agg (aD (s.getD (k-1) default)))::(51,ix v4 ((k-1)*5))::LZ170):=hf; refine ov hf rfl (RunV.ixV (j:=k) (m:=k*5) T_elem_35 T_size_24 rfl rfl (hS.slr (j:=1) rfl) rfl (by rw [List.length_set]; omega) rfl) ?_; clear hf a; intro a hf; exact O.nil ⟨rfl,hf.to trivial,(gt (d:=52) hf rfl rfl),hS⟩
      · clear hf hS
        refine ⟨?_,?_,trivial⟩
        · intro s_ g w _ hD a hf
          have hS:=hD; clear hD; replace hf:Fr a 58 [] ((37,v4)::(38,.int .i64 (k:Int))::(39,.int .i64 ((k:Int)-1))::(42,v4)::(43,.int .i64 (k:Int))::(44,ix v4 (k*5))::(45,.agg (aD x))::(50,.agg (aD (s.getD (k-1) default)))::(51,ix v4 ((k-1)*5))::LZ170):=hf; refine O.storeE (j:=1) (p:=(((k-1):Nat):Int)) (o:=0) (enc:=eD) (l:=(putAt s k x)) (y0:=x) (l':=((putAt s k x).set (k-1) x)) (M':=[pt b_s3 (.cells (aD x) 24 (0,0)),slE 24 5 eD v4 ((putAt s k x).set (k-1) x),pt b_x1 (.cells #[.int .i64 0,.int .i64 0,.int .u8 0,.int .u8 0,.int .i64 0,.slice none 0 0] 46 (0,0))]) hf hS rfl rfl rfl T_size_24 rfl rfl rfl eD_len (idx_nat (by omega)) rfl rfl rfl rfl ?_; intro w hS; replace hS:St w0 w noX [rdv 5 vl l.length (encs eD l)] [pt b_s3 (.cells (aD x) 24 (0,0)),sl 24 5 v4 (((putAt s k x).set (k-1) x).length) (encs eD ((putAt s k x).set (k-1) x)),pt b_x1 (.cells #[.int .i64 0,.int .i64 0,.int .u8 0,.int .u8 0,.int .i64 0,.slice none 0 0] 46 (0,0))]:=hS; exact O.nil ⟨rfl,(),hf.to trivial,(fun d hd=>by cases (show none=some d from hd)),(fun j_ hj_ ha_=>match j_,hj_,ha_ with | 0,hj_,ha_=>rfl | 1,hj_,ha_=>rfl | 2,hj_,ha_=>rfl | 3,hj_,ha_=>rfl | 4,hj_,ha_=>rfl | 5,hj_,ha_=>rfl | 6,hj_,ha_=>rfl | 7,hj_,ha_=>rfl | 8,hj_,ha_=>rfl | 9,hj_,ha_=>rfl | 10,hj_,ha_=>rfl | 11,hj_,ha_=>rfl | 12,hj_,ha_=>rfl | 13,hj_,ha_=>rfl | 14,hj_,ha_=>rfl | 15,hj_,ha_=>absurd rfl hj_ | 16,hj_,ha_=>absurd ha_ (by decide) | 17,hj_,ha_=>absurd ha_ (by decide) | _+18,_,_=>rfl),hS⟩
        · intro s_ g w _ hD a hf
          have hS:=hD; clear hD; replace hf:Fr a 58 [] ((37,v4)::(38,.int .i64 (k:Int))::(39,.int .i64 ((k:Int)-1))::(40,v4)::(41,.int .i64 (k:Int))::(42,v4)::(43,.int .i64 (k:Int))::(44,ix v4 (k*5))::(45,.agg (aD x))::(46,v4)::(47,.int .i64 (k:Int))::(48,.int .i64 ((k:Int)-1))::(49,ix v4 ((k-1)*5))::(50,.agg (aD (s.getD (k-1) default)))::(51,ix v4 ((k-1)*5))::(52,ix v4 (k*5))::LZ170):=hf; refine O.storeE (j:=1) (p:=((k:Nat):Int)) (o:=0) (enc:=eD) (l:=((putAt s k x).set (k-1) x)) (y0:=(s.getD (k-1) default)) (l':=(((putAt s k x).set (k-1) x).set k (s.getD (k-1) default))) (M':=[pt b_s3 (.cells (aD x) 24 (0,0)),slE 24 5 eD v4 (((putAt s k x).set (k-1) x).set k (s.getD (k-1) default)),pt b_x1 (.cells #[.int .i64 0,.int .i64 0,.int .u8 0,.int .u8 0,.int .i64 0,.slice none 0 0] 46 (0,0))]) hf hS rfl rfl rfl T_size_24 rfl rfl rfl eD_len (idx_nat (by rw [List.length_set]; omega)) rfl rfl rfl rfl ?_; intro w hS; replace hS:St w0 w noX [rdv 5 vl l.length (encs eD l)] [pt b_s3 (.cells (aD x) 24 (0,0)),sl 24 5 v4 ((((putAt s k x).set (k-1) x).set k (s.getD (k-1) default)).length) (encs eD (((putAt s k x).set (k-1) x).set k (s.getD (k-1) default))),pt b_x1 (.cells #[.int .i64 0,.int .i64 0,.int .u8 0,.int .u8 0,.int .i64 0,.slice none 0 0] 46 (0,0))]:=hS; exact O.nil ⟨rfl,(),hf.to trivial,(fun d hd=>by cases (show none=some d from hd)),(fun j_ hj_ ha_=>match j_,hj_,ha_ with | 0,hj_,ha_=>rfl | 1,hj_,ha_=>rfl | 2,hj_,ha_=>rfl | 3,hj_,ha_=>rfl | 4,hj_,ha_=>rfl | 5,hj_,ha_=>rfl | 6,hj_,ha_=>rfl | 7,hj_,ha_=>rfl | 8,hj_,ha_=>rfl | 9,hj_,ha_=>rfl | 10,hj_,ha_=>rfl | 11,hj_,ha_=>rfl | 12,hj_,ha_=>rfl | 13,hj_,ha_=>rfl | 14,hj_,ha_=>rfl | 15,hj_,ha_=>rfl | 16,hj_,ha_=>rfl | 17,hj_,ha_=>absurd rfl hj_ | _+18,_,_=>rfl),hS⟩
      clear hf hS; intro s_ g a w _ hf hD; have hS:=hD; clear hD; replace hf:Fr a 58 [] ((37,v4)::(38,.int .i64 (k:Int))::(39,.int .i64 ((k:Int)-1))::(40,v4)::(41,.int .i64 (k:Int))::(42,v4)::(43,.int .i64 (k:Int))::(44,ix v4 (k*5))::(45,.agg (aD x))::(46,v4)::(47,.int .i64 (k:Int))::(48,.int .i64 ((k:Int)-1))::(49,ix v4 ((k-1)*5))::(50,.agg (aD (s.getD (k-1) default)))::(51,ix v4 ((k-1)*5))::(52,ix v4 (k*5))::LZ170):=hf; refine k_blk_normal<|k_seq<|?_
      refine W.regionL (l:=[0,1,2]) rfl<|mv hf rfl<|?_; clear hf a; intro a hf; refine ov hf rfl (RunV.subI rfl rfl (by omega)) ?_; clear hf a; intro a hf; refine mv hf rfl ?_; clear hf a; intro a hf; refine O.nil ?_; refine k_then ⟨(k-1),⟨hf.to ⟨rfl,rfl,rfl,rfl,(by first | rfl | exact congrArg some (congrArg (Value.int _) (by omega))),trivial⟩,?_,?_⟩,?_⟩
      · exact hS.eqM (by rw [putAt_swap (by have:=(ins_go I hok hx hswb).1; omega) (by have:=I.hk; omega)])
      · exact (ins_go I hok hx hswb).2
      · dsimp only; have:=(ins_go I hok hx hswb).1; omega
    · have hswb:=hsw
      try simp only [Bool.and_eq_true,Bool.or_eq_true,Bool.and_eq_false_iff,Bool.or_eq_false_iff,decide_eq_true_eq,decide_eq_false_iff_not,Bool.not_eq_true',Bool.not_eq_false',Bool.not_eq_true,Bool.not_eq_false,ne_eq] at hsw
      refine W.exit<|k_then_exit<|k_then_exit<|k_blk<|k_blk_normal<|k_seq<|?_
      refine W.regionL (l:=[0,1,2]) rfl<|mv hf rfl<|?_; clear hf a; intro a hf; refine ov hf rfl (RunV.addI rfl rfl (by omega)) ?_; clear hf a; intro a hf; refine mv hf rfl ?_; clear hf a; intro a hf; refine O.nil ?_; replace hS:=hS.sl [0,1,1]; refine k_then ⟨(i+1,(putAt s k x),v4),⟨hf.to ⟨rfl,rfl,(by first | rfl | exact congrArg some (congrArg (Value.int _) (by omega))),(by first | rfl | exact congrArg some (congrArg (Value.int _) (by omega))),trivial⟩,?_,?_,?_,?_,?_⟩,?_⟩
      · exact hS.eqM rfl
      · omega
      · rw [putAt_len,hlen]
      · exact (ins_stop I hok hx hswb).1
      · exact (ins_stop I hok hx hswb).2
      · dsimp only; omega
  · refine W.exit ?_
    refine k_then_exit<|k_then_exit<|k_blk<|k_seq<|W.seq<|?_
    refine W.regionL (l:=[0,1,2,3,4,5]) rfl<|mv hf rfl<|?_; clear hf a; intro a hf; refine ov hf rfl (RunV.ixV (j:=(0)) (m:=(0)*5) T_elem_35 T_size_24 rfl rfl (hS.slr (j:=0) rfl) rfl (by omega) rfl) ?_; clear hf a; intro a hf; refine ov hf rfl (RunV.ldG (j:=(0)) (enc:=eD) (l:=s) (us:=[.int .i64 ((s.getD (0) default).num),.int .i64 ((s.getD (0) default).yr),.int .u8 ((s.getD (0) default).half),.int .u8 ((s.getD (0) default).sec),.int .i64 ((s.getD (0) default).cyc)]) T_agg_24 T_size_24 rfl eD_len rfl (hS.slr (j:=0) rfl) (by omega) rfl) ?_; clear hf a; intro a hf; refine mv hf rfl ?_; clear hf a; intro a hf; have hcl7:=rdOK.cells (hS.slr (j:=0) rfl); refine ov hf rfl (RunV.buildS (cs':=#[.int .i64 ((s.getD (0) default).num),.int .i64 ((s.getD (0) default).yr),.int .u8 ((s.getD (0) default).half),.int .u8 ((s.getD (0) default).sec),.int .i64 ((s.getD (0) default).cyc),vs]) T_places_46 T_zero_46 rfl (by simp only [Instr.fill,hcl7.1]; rfl)) ?_; clear hf a; intro a hf; have hcl8:=rdOK.cells (hS.slr (j:=0) rfl); refine ost 1 #[.int .i64 ((s.getD (0) default).num),.int .i64 ((s.getD (0) default).yr),.int .u8 ((s.getD (0) default).half),.int .u8 ((s.getD (0) default).sec),.int .i64 ((s.getD (0) default).cyc),vs] hf hS rfl rfl rfl T_size_46 rfl (oneCells_cc rfl (oneCells_cc rfl (oneCells_cc rfl (oneCells_cc rfl (oneCells_cc rfl (oneCells_cc hcl8.2 rfl)))))) rfl (bl rfl) rfl ?_; intro w hS; refine nk<|W.ret<|post1 hf rfl (ResOK.cellN (cs':=#[.int .i64 ((s.getD (0) default).num),.int .i64 ((s.getD (0) default).yr),.int .u8 ((s.getD (0) default).half),.int .u8 ((s.getD (0) default).sec),.int .i64 ((s.getD (0) default).cyc),vs]) rfl T_agg_46 T_size_46 (hS.p 1 rfl) (bl rfl) rfl)<|?_; obtain rfl:s=sortDs l:=ins_end (by omega) hperm hsrt; exact ⟨vs,rfl,(hS.sub (N:=[sl 24 5 vs (sortDs l).length (encs eD (sortDs l))]) (.cons_cons _ (.cons _ .slnil))).noB⟩
set_option maxHeartbeats 4000000 in
set_option maxRecDepth 4000 in
theorem ordered_spec (vo:Value) (os:List Ob) (w0:World) (hl:rdOK (hp w0) 6 vo os.length (encs eO os)) (hok:∀ o ∈ os,okD o.p=true∧rD o.p) (hz:os.length≤1000) :
    Ret Tryd.prog 42 #[vo] w0 (G:=Value × List Ob) (fun g=>g.1) (fun g w=>St w0 w noX [] [sl 46 6 g.1 g.2.length (encs eO g.2)]∧g.2.Perm os∧g.2.Pairwise fun x y=>cmpD x.p y.p≤0):=by
  refine ret_of_W (lv:=[vo]) Tryd.func42 rfl rfl rfl (fun a hf=>?_); replace hf:Fr a 56 [] [(0,vo)]:=hf; have hS:St w0 w0 noX [rdv 6 vo os.length (encs eO os)] []:=(St.refl w0).lend0 hl; have hlm:=hl.2.1; unfold maxLen at hlm; refine W.seq ?_
  refine W.regionL (l:=[0]) rfl<|mv hf rfl<|?_; clear hf a; intro a hf; refine nk<|W.seq<|?_
  refine W.regionL (l:=[0]) rfl<|mv hf rfl<|?_; clear hf a; intro a hf; refine nk<|W.seq<|W.seq<|?_
  refine W.regionL (l:=[0]) rfl<|mv hf rfl<|?_; clear hf a; intro a hf; refine nk<|W.block<|?_; replace hS:=hS.nilSl 46 6; replace hS:St w0 _ noX [rdv 6 vo os.length (encs eO os)] [sl 46 6 (.slice none 0 0) (([]:List Ob).length) (encs eO ([]:List Ob))]:=hS
  refine W.loop (G:=(Nat) × (List Ob) × (Value)) (fun g a w=>match g with | (i,s,vs)=>Fr a 56 [] [(0,vo),(2,.slice none 0 0),(3,vs),(4,.int .i64 (i:Int))]∧St w0 w noX [rdv 6 vo os.length (encs eO os)] [sl 46 6 vs s.length (encs eO s)]∧(i≤os.length)∧(s.length=i)∧(s.Perm (os.take i))∧(s.Pairwise fun x y=>cmpD (Ob.p x) (Ob.p y)≤0)) (fun g=>match g with | (i,s,vs)=>os.length-i) (0,[],.slice none 0 0) ?_ ?_
  · refine ⟨hf.to ⟨rfl,rfl,(by first | rfl | exact congrArg some (congrArg (Value.int _) (by omega))),(by first | rfl | exact congrArg some (congrArg (Value.int _) (by omega))),trivial⟩,hS,?_,?_,?_,?_⟩
    · omega
    · rfl
    · simp
    · exact List.Pairwise.nil
  clear hf hS a; rintro ⟨i,s,vs⟩ a w ⟨hf,hS,hi,hlen,hperm,hsrt⟩; refine W.seq<|W.seq<|?_
  refine W.regionL (l:=[0,1,2,3]) rfl<|mv hf rfl<|?_; clear hf a; intro a hf; refine mv hf rfl ?_; clear hf a; intro a hf; refine ov hf rfl (RunV.lenV (e:=46) (by simpa using T_elem_39) rfl (hS.rdAt (j:=0) rfl)) ?_; clear hf a; intro a hf; refine ov (v:=.bool (decide ((i:Int)<((os.length:Int):Int)))) hf rfl (RunV.lss rfl rfl) ?_; clear hf a; intro a hf; refine nk ?_; refine W.ifdI hf rfl (fun hc1=>?_) (fun hc1=>?_)
  · refine W.skip ?_
    refine k_seq<|W.seq<|W.block<|W.seq<|?_
    refine W.regionL (l:=[0,1,2,3,4,5,6,7]) rfl ?_; obtain ⟨x,hx⟩:∃ x,x=os.getD i default:=⟨_,rfl⟩; have hpe:putAt s i x=s++[x]:=by rw [← hlen]; exact putAt_end
    refine mv hf rfl ?_; clear hf a; intro a hf; refine mv hf rfl ?_; clear hf a; intro a hf; refine mv hf rfl ?_; clear hf a; intro a hf; refine ov hf rfl (RunV.ixV (j:=i) (m:=i*6) T_elem_39 T_size_46 rfl rfl (hS.rdAt (j:=0) rfl) rfl (by omega) rfl) ?_; clear hf a; intro a hf; refine ov hf rfl (RunV.ldG (j:=i) (enc:=eO) (l:=os) (us:=eO x) T_agg_46 T_size_46 rfl eO_len rfl (hS.rdAt (j:=0) rfl) (by omega) (by rw [hx])) ?_; clear hf a; intro a hf; refine O.buildSlice (cs':=#[.int .i64 x.p.num,.int .i64 x.p.yr,.int .u8 x.p.half,.int .u8 x.p.sec,.int .i64 x.p.cyc,(.slice x.ad x.n x.c)]) (zs:=#[.int .i64 0,.int .i64 0,.int .u8 0,.int .u8 0,.int .i64 0,.slice none 0 0]) hf hS rfl rfl T_elem_39 T_size_46 T_zero_46 rfl rfl rfl rfl rfl ?_; intro b_s2 w a hbb_s2 hS hf; refine O.append1 (j:=1) (jj:=0) hf hS rfl rfl T_elem_39 T_size_46 T_bytes_46 T_zero_46 rfl rfl rfl rfl rfl rfl rfl rfl (by unfold maxLen; omega) (by omega) ?_; intro v3 w a hS hf; replace hS:=hS.eqM (N:=[pt b_s2 (.cells #[.int .i64 x.p.num,.int .i64 x.p.yr,.int .u8 x.p.half,.int .u8 x.p.sec,.int .i64 x.p.cyc,(.slice x.ad x.n x.c)] 46 (0,0)),sl 46 6 v3 (s.length+1) (encs eO s++[.int .i64 x.p.num,.int .i64 x.p.yr,.int .u8 x.p.half,.int .u8 x.p.sec,.int .i64 x.p.cyc,(.slice x.ad x.n x.c)])]) rfl; replace hS:=hS.reE (i:=1) (M':=[pt b_s2 (.cells #[.int .i64 x.p.num,.int .i64 x.p.yr,.int .u8 x.p.half,.int .u8 x.p.sec,.int .i64 x.p.cyc,(.slice x.ad x.n x.c)] 46 (0,0)),sl 46 6 v3 ((s++[x]).length) (encs eO (s++[x]))]) rfl (sl_snoc (enc:=eO) (l:=s) (x:=x)) rfl; refine mv hf rfl ?_; clear hf a; intro a hf; refine nk<|W.seq<|?_
    refine W.regionL (l:=[0,1]) rfl<|mv hf rfl<|?_; clear hf a; intro a hf; refine mv hf rfl ?_; clear hf a; intro a hf; refine nk ?_; replace hf:Fr a 56 [] [(0,vo),(2,.slice none 0 0),(3,v3),(4,.int .i64 (i:Int)),(5,.int .i64 (i:Int))]:=hf.q rfl; refine W.block ?_
    refine W.loop (G:=(Nat)) (fun g a w=>match g with | k=>Fr a 56 [] [(0,vo),(2,.slice none 0 0),(3,v3),(4,.int .i64 (i:Int)),(5,.int .i64 (k:Int))]∧St w0 w noX [rdv 6 vo os.length (encs eO os)] [pt b_s2 (.cells #[.int .i64 x.p.num,.int .i64 x.p.yr,.int .u8 x.p.half,.int .u8 x.p.sec,.int .i64 x.p.cyc,(.slice x.ad x.n x.c)] 46 (0,0)),sl 46 6 v3 ((putAt s k x).length) (encs eO (putAt s k x))]∧(InsI Ob.p os s i k)) (fun g=>match g with | k=>k) i ?_ ?_
    · refine ⟨hf.to ⟨rfl,rfl,rfl,rfl,(by first | rfl | exact congrArg some (congrArg (Value.int _) (by omega))),trivial⟩,hS.eqM (by rw [hpe]),?_⟩
      · exact ins_start (by omega) hlen hperm hsrt
    clear hf hS a; rintro k a w ⟨hf,hS,I⟩; refine W.seq<|W.seq<|?_
    have hkk:=I.hk; have hsl:=I.len; have hgl:(putAt s k x).length=s.length+1:=putAt_len; have hgx:(putAt s k x).getD k default=x:=by rw [putAt_get (by omega),if_neg (by omega),if_pos rfl]
    have hgy:0<k→(putAt s k x).getD (k-1) default=s.getD (k-1) default:=fun h=>by rw [putAt_get (by omega),if_pos (by omega)]
    refine W.drawQ (fun w=>St w0 w noX [rdv 6 vo os.length (encs eO os)] [pt b_s2 (.cells #[.int .i64 x.p.num,.int .i64 x.p.yr,.int .u8 x.p.half,.int .u8 x.p.sec,.int .i64 x.p.cyc,(.slice x.ad x.n x.c)] 46 (0,0)),sl 46 6 v3 ((putAt s k x).length) (encs eO (putAt s k x))]) P_mixed rfl (by kernel_rfl) rfl hS.drew ?_; clear hS; refine OQ.val (v:=.int .i64 (k:Int)) hf rfl (fun w hS=>RunV.move rfl) fun a hf=>OQ.val (v:=.bool (decide ((k:Int)>(0:Int)))) hf rfl (fun w hS=>RunV.gtr rfl rfl) fun a hf=>OQ.val (v:=.bool (decide ((k:Int)>(0:Int)))) hf rfl (fun w hS=>RunV.move rfl) fun a hf=>?_
    refine OQ.cutK (K':=fun a=>Fr a 56 [] [(0,vo),(2,.slice none 0 0),(3,v3),(4,.int .i64 (i:Int)),(5,.int .i64 (k:Int)),(20,.int .i64 (k:Int)),(21,.bool (decide ((k:Int)>(0:Int)))),(22,.bool (decide ((k:Int)>(0:Int)))),(36,.bool ((decide ((k:Int)>(0:Int)))&&(decide ((befM x.p (s.getD (k-1) default).p)<(0:Int)))))]) 14 ?_ ?_
    · rcases Bool.eq_false_or_eq_true (decide ((k:Int)>(0:Int))) with hb4 | hb4
      · have hb4p:=of_decide_eq_true hb4
        refine OQ.gval (v:=v3) hf rfl rfl hb4 rfl (fun w hS=>RunV.move rfl) fun a hf=>OQ.gval (v:=.int .i64 (k:Int)) hf rfl rfl hb4 rfl (fun w hS=>RunV.move rfl) fun a hf=>OQ.gval (v:=ix v3 (k*6)) hf rfl rfl hb4 rfl (fun w hS=>RunV.ixV (j:=k) (m:=k*6) T_elem_39 T_size_46 rfl rfl (hS.slr (j:=1) rfl) rfl (by omega) rfl) fun a hf=>OQ.gval (v:=ix v3 (k*6)) hf rfl rfl hb4 rfl (fun w hS=>RunV.ixF T_field_46_0 rfl (hS.slr (j:=1) rfl) (by omega) rfl) fun a hf=>?_; refine OQ.gval (v:=.agg (aD x.p)) hf rfl rfl hb4 rfl (fun w hS=>RunV.ldGN (j:=k) (o:=0) (sz:=6) (enc:=eO) (l:=(putAt s k x)) (us:=[.int .i64 x.p.num,.int .i64 x.p.yr,.int .u8 x.p.half,.int .u8 x.p.sec,.int .i64 x.p.cyc]) T_agg_24 T_size_24 rfl eO_len rfl (hS.slr (j:=1) rfl) (by omega) rfl rfl (by rw [hgx]; rfl)) ?_; clear hf a; intro a hf; refine OQ.gval (v:=v3) hf rfl rfl hb4 rfl (fun w hS=>RunV.move rfl) fun a hf=>OQ.gval (v:=.int .i64 (k:Int)) hf rfl rfl hb4 rfl (fun w hS=>RunV.move rfl) fun a hf=>OQ.gval (v:=.int .i64 ((k:Int)-1)) hf rfl rfl hb4 rfl (fun w hS=>RunV.subI rfl rfl (by omega)) fun a hf=>OQ.gval (v:=ix v3 ((k-1)*6)) hf rfl rfl hb4 rfl (fun w hS=>RunV.ixV (j:=(k-1)) (m:=(k-1)*6) T_elem_39 T_size_46 rfl rfl (hS.slr (j:=1) rfl) (by omega) (by omega) rfl) fun a hf=>OQ.gval (v:=ix v3 ((k-1)*6)) hf rfl rfl hb4 rfl (fun w hS=>RunV.ixF T_field_46_0 rfl (hS.slr (j:=1) rfl) (by omega) rfl) fun a hf=>?_; refine OQ.gval (v:=.agg #[.int .i64 ((s.getD (k-1) default).p.num),.int .i64 ((s.getD (k-1) default).p.yr),.int .u8 ((s.getD (k-1) default).p.half),.int .u8 ((s.getD (k-1) default).p.sec),.int .i64 ((s.getD (k-1) default).p.cyc)]) hf rfl rfl hb4 rfl (fun w hS=>RunV.ldGN (j:=(k-1)) (o:=0) (sz:=6) (enc:=eO) (l:=(putAt s k x)) (us:=[.int .i64 ((s.getD (k-1) default).p.num),.int .i64 ((s.getD (k-1) default).p.yr),.int .u8 ((s.getD (k-1) default).p.half),.int .u8 ((s.getD (k-1) default).p.sec),.int .i64 ((s.getD (k-1) default).p.cyc)]) T_agg_24 T_size_24 rfl eO_len rfl (hS.slr (j:=1) rfl) (by omega) rfl rfl (by rw [hgy (by omega)]; rfl)) ?_; clear hf a; intro a hf; refine OQ.gcallRq (v:=.int .i64 (befM x.p (s.getD (k-1) default).p)) hf rfl rfl hb4 rfl (fun w hS=>RunE.call (av:=#[.agg (aD x.p),.agg #[.int .i64 ((s.getD (k-1) default).p.num),.int .i64 ((s.getD (k-1) default).p.yr),.int .u8 ((s.getD (k-1) default).p.half),.int .u8 ((s.getD (k-1) default).p.sec),.int .i64 ((s.getD (k-1) default).p.cyc)]]) C_ok_18 rfl rfl rfl) (fun w hS=>bef_spec x.p (s.getD (k-1) default).p _) fun a hf=>OQ.gval (v:=.bool (decide ((befM x.p (s.getD (k-1) default).p)<(0:Int)))) hf rfl rfl hb4 rfl (fun w hS=>RunV.lss rfl rfl) fun a hf=>?_; refine OQ.val (v:=.bool ((decide ((k:Int)>(0:Int)))&&(decide ((befM x.p (s.getD (k-1) default).p)<(0:Int))))) hf rfl (fun w hS=>RunV.pick rfl rfl rfl (by rw [hb4]; rfl)) ?_; clear hf a; intro a hf; exact OQ.nil (hf.q rfl)
      · have hb4p:=of_decide_eq_false hb4
        refine OQ.skipB hf rfl rfl hb4 rfl fun a hf=>OQ.skipB hf rfl rfl hb4 rfl fun a hf=>OQ.skipB hf rfl rfl hb4 rfl fun a hf=>OQ.skipB hf rfl rfl hb4 rfl fun a hf=>OQ.skipB hf rfl rfl hb4 rfl fun a hf=>OQ.skipB hf rfl rfl hb4 rfl fun a hf=>OQ.skipB hf rfl rfl hb4 rfl fun a hf=>OQ.skipB hf rfl rfl hb4 rfl fun a hf=>OQ.skipB hf rfl rfl hb4 rfl fun a hf=>OQ.skipB hf rfl rfl hb4 rfl fun a hf=>?_; refine OQ.skipB hf rfl rfl hb4 rfl fun a hf=>OQ.skipB hf rfl rfl hb4 rfl fun a hf=>OQ.skipB hf rfl rfl hb4 rfl fun a hf=>?_; refine OQ.val (v:=.bool ((decide ((k:Int)>(0:Int)))&&(decide ((befM x.p (s.getD (k-1) default).p)<(0:Int))))) hf rfl (fun w hS=>RunV.pick rfl rfl rfl (by rw [hb4]; rfl)) ?_; clear hf a; intro a hf; exact OQ.nil (hf.q rfl)
    clear hf a; intro a hf; refine OQ.nil ?_; intro w hS; refine k_seq ?_; refine W.if_ hf rfl (fun hsw=>?_) (fun hsw=>?_)
    · have hswb:=hsw
      try simp only [Bool.and_eq_true,Bool.or_eq_true,Bool.and_eq_false_iff,Bool.or_eq_false_iff,decide_eq_true_eq,decide_eq_false_iff_not,Bool.not_eq_true',Bool.not_eq_false',Bool.not_eq_true,Bool.not_eq_false,ne_eq] at hsw
      refine W.skip<|k_seq<|W.seq<|W.block<|?_
      have hk0:=(ins_go I hok hx hswb).1; replace hf:Fr a 56 [] [(0,vo),(2,.slice none 0 0),(3,v3),(4,.int .i64 (i:Int)),(5,.int .i64 (k:Int))]:=hf.q rfl
      let LZ556:List (Nat × Value):=[(0,vo),(2,.slice none 0 0),(3,v3),(4,.int .i64 (i:Int)),(5,.int .i64 (k:Int))]
      let MZ556:List Asr:=[pt b_s2 (.cells #[.int .i64 x.p.num,.int .i64 x.p.yr,.int .u8 x.p.half,.int .u8 x.p.sec,.int .i64 x.p.cyc,(.slice x.ad x.n x.c)] 46 (0,0)),sl 46 6 v3 ((putAt s k x).length) (encs eO (putAt s k x))]
      refine W.drawC (γ:=Unit) (L0:=LZ556) (L1:=[]) () [15,17] [] [0,1,2,3,4,5,6,7,8,9,10,11,12,13,14,16] (fun i_=>match i_ with | 0=>[] | 1=>[] | 2=>[1] | 3=>[] | 4=>[] | 5=>[] | 6=>[] | 7=>[5,6] | 8=>[7] | 9=>[] | 10=>[] | 11=>[10] | 12=>[9,11] | 13=>[12] | 14=>[0,1,2,5,6,7,8,13] | 15=>[0,1,2,5,6,7,8,13,14] | 16=>[0,1,2,3,4,5,6,7,8,9,10,11,12,13,14,15] | 17=>[0,1,2,3,4,5,6,7,8,9,10,11,12,13,14,15,16] | _=>[]) (fun i_=>match i_ with | 0=>[] | 1=>[] | 2=>[] | 3=>[] | 4=>[] | 5=>[] | 6=>[] | 7=>[] | 8=>[] | 9=>[] | 10=>[] | 11=>[] | 12=>[] | 13=>[] | 14=>[] | 15=>[] | 16=>[15] | 17=>[15] | _=>[]) (fun i_=>match i_ with | 0=>[15,17] | 1=>[15,17] | 2=>[15,17] | 3=>[17] | 4=>[17] | 5=>[15,17] | 6=>[15,17] | 7=>[15,17] | 8=>[15,17] | 9=>[15,17] | 10=>[15,17] | 11=>[15,17] | 12=>[15,17] | 13=>[15,17] | 14=>[15,17] | 15=>[17] | 16=>[17] | 17=>[] | _=>[]) (fun _=>[]) (fun i_=>match i_ with | 0=>[] | 1=>[] | 2=>[] | 3=>[] | 4=>[] | 5=>[] | 6=>[] | 7=>[] | 8=>[] | 9=>[] | 10=>[] | 11=>[] | 12=>[] | 13=>[] | 14=>[] | 15=>[16,17] | 16=>[] | 17=>[] | _=>[]) (fun _=>[]) (fun i_=>match i_ with | 0=>0 | 1=>0 | 2=>0 | 3=>0 | 4=>0 | 5=>0 | 6=>0 | 7=>0 | 8=>0 | 9=>0 | 10=>0 | 11=>0 | 12=>0 | 13=>0 | 14=>0 | 15=>0 | 16=>1 | 17=>1 | _=>0) (fun i_=>match i_ with | 0=>0 | 1=>0 | 2=>0 | 3=>1 | 4=>1 | 5=>0 | 6=>0 | 7=>0 | 8=>0 | 9=>0 | 10=>0 | 11=>0 | 12=>0 | 13=>0 | 14=>0 | 15=>1 | 16=>1 | 17=>2 | _=>0) (fun (g:Unit) j_=>match g,j_ with | _,0=>v3 | _,1=>.int .i64 (k:Int) | _,2=>.int .i64 ((k:Int)-1) | _,3=>v3 | _,4=>.int .i64 (k:Int) | _,5=>v3 | _,6=>.int .i64 (k:Int) | _,7=>ix v3 (k*6) | _,8=>.agg #[.int .i64 x.p.num,.int .i64 x.p.yr,.int .u8 x.p.half,.int .u8 x.p.sec,.int .i64 x.p.cyc,(.slice x.ad x.n x.c)] | _,9=>v3 | _,10=>.int .i64 (k:Int) | _,11=>.int .i64 ((k:Int)-1) | _,12=>ix v3 ((k-1)*6) | _,13=>.agg #[.int .i64 ((s.getD (k-1) default).p.num),.int .i64 ((s.getD (k-1) default).p.yr),.int .u8 ((s.getD (k-1) default).p.half),.int .u8 ((s.getD (k-1) default).p.sec),.int .i64 ((s.getD (k-1) default).p.cyc),(.slice (s.getD (k-1) default).ad (s.getD (k-1) default).n (s.getD (k-1) default).c)] | _,14=>ix v3 ((k-1)*6) | _,16=>ix v3 (k*6) | _,_=>undef) (fun k_ (_:Nat→Bool) (g:Unit) w=>match k_,g with | 0,_=>St w0 w noX [rdv 6 vo os.length (encs eO os)] MZ556 | 1,_=>St w0 w noX [rdv 6 vo os.length (encs eO os)] [pt b_s2 (.cells #[.int .i64 x.p.num,.int .i64 x.p.yr,.int .u8 x.p.half,.int .u8 x.p.sec,.int .i64 x.p.cyc,(.slice x.ad x.n x.c)] 46 (0,0)),sl 46 6 v3 (((putAt s k x).set (k-1) x).length) (encs eO ((putAt s k x).set (k-1) x))] | _,_=>St w0 w noX [rdv 6 vo os.length (encs eO os)] [pt b_s2 (.cells #[.int .i64 x.p.num,.int .i64 x.p.yr,.int .u8 x.p.half,.int .u8 x.p.sec,.int .i64 x.p.cyc,(.slice x.ad x.n x.c)] 46 (0,0)),sl 46 6 v3 ((((putAt s k x).set (k-1) x).set k (s.getD (k-1) default)).length) (encs eO (((putAt s k x).set (k-1) x).set k (s.getD (k-1) default)))]) P_mixed (by kernel_rfl) (by kernel_rfl) (by kernel_rfl) hf (hf.to trivial) hS.drew ?_ ?_ trivial ?_
      · clear hf hS
        refine ⟨?_,?_,?_,?_,?_,?_,?_,?_,?_,?_,?_,?_,?_,?_,?_,?_,trivial⟩
        · intro k_ s_ g w hlo hhi _ hD a hf
          obtain rfl:k_=0:=Nat.le_antisymm hhi hlo; have hS:=hD; clear hD; replace hf:Fr a 56 [] LZ556:=hf; refine mv hf rfl ?_; clear hf a; intro a hf; exact O.nil ⟨rfl,hf.to trivial,(gt (d:=39) hf rfl rfl),hS⟩
        · intro k_ s_ g w hlo hhi _ hD a hf
          obtain rfl:k_=0:=Nat.le_antisymm hhi hlo; have hS:=hD; clear hD; replace hf:Fr a 56 [] LZ556:=hf; refine mv hf rfl ?_; clear hf a; intro a hf; exact O.nil ⟨rfl,hf.to trivial,(gt (d:=40) hf rfl rfl),hS⟩
        · intro k_ s_ g w hlo hhi _ hD a hf
          obtain rfl:k_=0:=Nat.le_antisymm hhi hlo; have hS:=hD; clear hD; replace hf:Fr a 56 [] ((40,.int .i64 (k:Int))::LZ556):=hf; refine ov hf rfl (RunV.subI rfl rfl (by omega)) ?_; clear hf a; intro a hf; exact O.nil ⟨rfl,hf.to trivial,(gt (d:=41) hf rfl rfl),hS⟩
        · intro k_ s_ g w hlo hhi _ hD a hf
          rcases k_ with _ | _ | k_
          · have hS:St w0 w noX [rdv 6 vo os.length (encs eO os)] MZ556:=hD; clear hD
            replace hf:Fr a 56 [] LZ556:=hf; refine mv hf rfl ?_; clear hf a; intro a hf; exact O.nil ⟨rfl,hf.to trivial,(gt (d:=42) hf rfl rfl),hS⟩
          · have hS:St w0 w noX [rdv 6 vo os.length (encs eO os)] [pt b_s2 (.cells #[.int .i64 x.p.num,.int .i64 x.p.yr,.int .u8 x.p.half,.int .u8 x.p.sec,.int .i64 x.p.cyc,(.slice x.ad x.n x.c)] 46 (0,0)),sl 46 6 v3 (((putAt s k x).set (k-1) x).length) (encs eO ((putAt s k x).set (k-1) x))]:=hD; clear hD
            replace hf:Fr a 56 [] LZ556:=hf; refine mv hf rfl ?_; clear hf a; intro a hf; exact O.nil ⟨rfl,hf.to trivial,(gt (d:=42) hf rfl rfl),hS⟩
          · have hhi:k_+2≤1:=hhi; omega
        · intro k_ s_ g w hlo hhi _ hD a hf
          rcases k_ with _ | _ | k_
          · have hS:St w0 w noX [rdv 6 vo os.length (encs eO os)] MZ556:=hD; clear hD
            replace hf:Fr a 56 [] LZ556:=hf; refine mv hf rfl ?_; clear hf a; intro a hf; exact O.nil ⟨rfl,hf.to trivial,(gt (d:=43) hf rfl rfl),hS⟩
          · have hS:St w0 w noX [rdv 6 vo os.length (encs eO os)] [pt b_s2 (.cells #[.int .i64 x.p.num,.int .i64 x.p.yr,.int .u8 x.p.half,.int .u8 x.p.sec,.int .i64 x.p.cyc,(.slice x.ad x.n x.c)] 46 (0,0)),sl 46 6 v3 (((putAt s k x).set (k-1) x).length) (encs eO ((putAt s k x).set (k-1) x))]:=hD; clear hD
            replace hf:Fr a 56 [] LZ556:=hf; refine mv hf rfl ?_; clear hf a; intro a hf; exact O.nil ⟨rfl,hf.to trivial,(gt (d:=43) hf rfl rfl),hS⟩
          · have hhi:k_+2≤1:=hhi; omega
        · intro k_ s_ g w hlo hhi _ hD a hf
          obtain rfl:k_=0:=Nat.le_antisymm hhi hlo; have hS:=hD; clear hD; replace hf:Fr a 56 [] LZ556:=hf; refine mv hf rfl ?_; clear hf a; intro a hf; exact O.nil ⟨rfl,hf.to trivial,(gt (d:=44) hf rfl rfl),hS⟩
        · intro k_ s_ g w hlo hhi _ hD a hf
          obtain rfl:k_=0:=Nat.le_antisymm hhi hlo; have hS:=hD; clear hD; replace hf:Fr a 56 [] LZ556:=hf; refine mv hf rfl ?_; clear hf a; intro a hf; exact O.nil ⟨rfl,hf.to trivial,(gt (d:=45) hf rfl rfl),hS⟩
        · intro k_ s_ g w hlo hhi _ hD a hf
          obtain rfl:k_=0:=Nat.le_antisymm hhi hlo; have hS:=hD; clear hD; replace hf:Fr a 56 [] ((44,v3)::(45,.int .i64 (k:Int))::LZ556):=hf; refine ov hf rfl (RunV.ixV (j:=k) (m:=k*6) T_elem_39 T_size_46 rfl rfl (hS.slr (j:=1) rfl) rfl (by omega) rfl) ?_; clear hf a; intro a hf; exact O.nil ⟨rfl,hf.to trivial,(gt (d:=46) hf rfl rfl),hS⟩
        · intro k_ s_ g w hlo hhi _ hD a hf
          obtain rfl:k_=0:=Nat.le_antisymm hhi hlo; have hS:=hD; clear hD; replace hf:Fr a 56 [] ((46,ix v3 (k*6))::LZ556):=hf; refine ov hf rfl (RunV.ldG (j:=k) (enc:=eO) (l:=(putAt s k x)) (us:=eO x) T_agg_46 T_size_46 rfl eO_len rfl (hS.slr (j:=1) rfl) (by omega) (by rw [hgx])) ?_; clear hf a; intro a hf; exact O.nil ⟨rfl,hf.to trivial,(gt (d:=47) hf rfl rfl),hS⟩
        · intro k_ s_ g w hlo hhi _ hD a hf
          obtain rfl:k_=0:=Nat.le_antisymm hhi hlo; have hS:=hD; clear hD; replace hf:Fr a 56 [] LZ556:=hf; refine mv hf rfl ?_; clear hf a; intro a hf; exact O.nil ⟨rfl,hf.to trivial,(gt (d:=48) hf rfl rfl),hS⟩
        · intro k_ s_ g w hlo hhi _ hD a hf
          obtain rfl:k_=0:=Nat.le_antisymm hhi hlo; have hS:=hD; clear hD; replace hf:Fr a 56 [] LZ556:=hf; refine mv hf rfl ?_; clear hf a; intro a hf; exact O.nil ⟨rfl,hf.to trivial,(gt (d:=49) hf rfl rfl),hS⟩
        · intro k_ s_ g w hlo hhi _ hD a hf
          obtain rfl:k_=0:=Nat.le_antisymm hhi hlo; have hS:=hD; clear hD; replace hf:Fr a 56 [] ((49,.int .i64 (k:Int))::LZ556):=hf; refine ov hf rfl (RunV.subI rfl rfl (by omega)) ?_; clear hf a; intro a hf; exact O.nil ⟨rfl,hf.to trivial,(gt (d:=50) hf rfl rfl),hS⟩
        · intro k_ s_ g w hlo hhi _ hD a hf
          obtain rfl:k_=0:=Nat.le_antisymm hhi hlo; have hS:=hD; clear hD; replace hf:Fr a 56 [] ((48,v3)::(50,.int .i64 ((k:Int)-1))::LZ556):=hf; refine ov hf rfl (RunV.ixV (j:=(k-1)) (m:=(k-1)*6) T_elem_39 T_size_46 rfl rfl (hS.slr (j:=1) rfl) (by omega) (by omega) rfl) ?_; clear hf a; intro a hf; exact O.nil ⟨rfl,hf.to trivial,(gt (d:=51) hf rfl rfl),hS⟩
        · intro k_ s_ g w hlo hhi _ hD a hf
          obtain rfl:k_=0:=Nat.le_antisymm hhi hlo; have hS:=hD; clear hD; replace hf:Fr a 56 [] ((51,ix v3 ((k-1)*6))::LZ556):=hf; refine ov hf rfl (RunV.ldG (j:=(k-1)) (enc:=eO) (l:=(putAt s k x)) (us:=eO (s.getD (k-1) default)) T_agg_46 T_size_46 rfl eO_len rfl (hS.slr (j:=1) rfl) (by omega) (by rw [hgy (by omega)])) ?_; clear hf a; intro a hf; exact O.nil ⟨rfl,hf.to trivial,(gt (d:=52) hf rfl rfl),hS⟩
        · intro k_ s_ g w hlo hhi _ hD a hf
          obtain rfl:k_=0:=Nat.le_antisymm hhi hlo; have hS:=hD; clear hD; replace hf:Fr a 56 [] ((39,v3)::(40,.int .i64 (k:Int))::(41,.int .i64 ((k:Int)-1))::(44,v3)::(45,.int .i64 (k:Int))::(46,ix v3 (k*6))::(47,.agg #[.int .i64 x.p.num,.int .i64 x.p.yr,.int .u8 x.p.half,.int .u8 x.p.sec,.int .i64 x.p.cyc,(.slice x.ad x.n x.c)])::(52,.agg #[.int .i64 ((s.getD (k-1) default).p.num),.int .i64 ((s.getD (k-1) default).p.yr),.int .u8 ((s.getD (k-1) default).p.half),.int .u8 ((s.getD (k-1) default).p.sec),.int .i64 ((s.getD (k-1) default).p.cyc),(.slice (s.getD (k-1) default).ad (s.getD (k-1) default).n (s.getD (k-1) default).c)])::LZ556):=hf; refine ov hf rfl (RunV.ixV (j:=(k-1)) (m:=(k-1)*6) T_elem_39 T_size_46 rfl rfl (hS.slr (j:=1) rfl) (by omega) (by omega) rfl) ?_; clear hf a; intro a hf; exact O.nil ⟨rfl,hf.to trivial,(gt (d:=53) hf rfl rfl),hS⟩
        · intro k_ s_ g w hlo hhi _ hD a hf
          obtain rfl:k_=1:=Nat.le_antisymm hhi hlo; have hS:=hD; clear hD; replace hf:Fr a 56 [] ((39,v3)::(40,.int .i64 (k:Int))::(41,.int .i64 ((k:Int)-1))::(42,v3)::(43,.int .i64 (k:Int))::(44,v3)::(45,.int .i64 (k:Int))::(46,ix v3 (k*6))::(47,.agg #[.int .i64 x.p.num,.int .i64 x.p.yr,.int .u8 x.p.half,.int .u8 x.p.sec,.int .i64 x.p.cyc,(.slice x.ad x.n x.c)])::(48,v3)::(49,.int .i64 (k:Int))::(50,.int .i64 ((k:Int)-1))::(51,ix v3 ((k-1)*6))::(52,.agg #[.int .i64 ((s.getD (k-1) default).p.num),.int .i64 ((s.getD (k-1) default).p.yr),.int .u8 ((s.getD (k-1) default).p.half),.int .u8 ((s.getD (k-1) default).p.sec),.int .i64 ((s.getD (k-1) default).p.cyc),(.slice (s.getD (k-1) default).ad (s.getD (k-1) default).n (s.getD (k-1) default).c)])::(53,ix v3 ((k-1)*6))::LZ556):=hf; refine ov hf rfl (RunV.ixV (j:=k) (m:=k*6) T_elem_39 T_size_46 rfl rfl (hS.slr (j:=1) rfl) rfl (by rw [List.length_set]; omega) rfl) ?_; clear hf a; intro a hf; exact O.nil ⟨rfl,hf.to trivial,(gt (d:=54) hf rfl rfl),hS⟩
      · clear hf hS
        refine ⟨?_,?_,trivial⟩
        · intro s_ g w _ hD a hf
          have hS:=hD; clear hD; replace hf:Fr a 56 [] ((39,v3)::(40,.int .i64 (k:Int))::(41,.int .i64 ((k:Int)-1))::(44,v3)::(45,.int .i64 (k:Int))::(46,ix v3 (k*6))::(47,.agg #[.int .i64 x.p.num,.int .i64 x.p.yr,.int .u8 x.p.half,.int .u8 x.p.sec,.int .i64 x.p.cyc,(.slice x.ad x.n x.c)])::(52,.agg #[.int .i64 ((s.getD (k-1) default).p.num),.int .i64 ((s.getD (k-1) default).p.yr),.int .u8 ((s.getD (k-1) default).p.half),.int .u8 ((s.getD (k-1) default).p.sec),.int .i64 ((s.getD (k-1) default).p.cyc),(.slice (s.getD (k-1) default).ad (s.getD (k-1) default).n (s.getD (k-1) default).c)])::(53,ix v3 ((k-1)*6))::LZ556):=hf; refine O.storeE (j:=1) (p:=(((k-1):Nat):Int)) (o:=0) (enc:=eO) (l:=(putAt s k x)) (y0:=x) (l':=((putAt s k x).set (k-1) x)) (M':=[pt b_s2 (.cells #[.int .i64 x.p.num,.int .i64 x.p.yr,.int .u8 x.p.half,.int .u8 x.p.sec,.int .i64 x.p.cyc,(.slice x.ad x.n x.c)] 46 (0,0)),slE 46 6 eO v3 ((putAt s k x).set (k-1) x)]) hf hS rfl rfl rfl T_size_46 rfl rfl rfl eO_len (idx_nat (by omega)) rfl rfl rfl rfl ?_; intro w hS; replace hS:St w0 w noX [rdv 6 vo os.length (encs eO os)] [pt b_s2 (.cells #[.int .i64 x.p.num,.int .i64 x.p.yr,.int .u8 x.p.half,.int .u8 x.p.sec,.int .i64 x.p.cyc,(.slice x.ad x.n x.c)] 46 (0,0)),sl 46 6 v3 (((putAt s k x).set (k-1) x).length) (encs eO ((putAt s k x).set (k-1) x))]:=hS; exact O.nil ⟨rfl,(),hf.to trivial,(fun d hd=>by cases (show none=some d from hd)),(fun j_ hj_ ha_=>match j_,hj_,ha_ with | 0,hj_,ha_=>rfl | 1,hj_,ha_=>rfl | 2,hj_,ha_=>rfl | 3,hj_,ha_=>rfl | 4,hj_,ha_=>rfl | 5,hj_,ha_=>rfl | 6,hj_,ha_=>rfl | 7,hj_,ha_=>rfl | 8,hj_,ha_=>rfl | 9,hj_,ha_=>rfl | 10,hj_,ha_=>rfl | 11,hj_,ha_=>rfl | 12,hj_,ha_=>rfl | 13,hj_,ha_=>rfl | 14,hj_,ha_=>rfl | 15,hj_,ha_=>absurd rfl hj_ | 16,hj_,ha_=>absurd ha_ (by decide) | 17,hj_,ha_=>absurd ha_ (by decide) | _+18,_,_=>rfl),hS⟩
        · intro s_ g w _ hD a hf
          have hS:=hD; clear hD; replace hf:Fr a 56 [] ((39,v3)::(40,.int .i64 (k:Int))::(41,.int .i64 ((k:Int)-1))::(42,v3)::(43,.int .i64 (k:Int))::(44,v3)::(45,.int .i64 (k:Int))::(46,ix v3 (k*6))::(47,.agg #[.int .i64 x.p.num,.int .i64 x.p.yr,.int .u8 x.p.half,.int .u8 x.p.sec,.int .i64 x.p.cyc,(.slice x.ad x.n x.c)])::(48,v3)::(49,.int .i64 (k:Int))::(50,.int .i64 ((k:Int)-1))::(51,ix v3 ((k-1)*6))::(52,.agg #[.int .i64 ((s.getD (k-1) default).p.num),.int .i64 ((s.getD (k-1) default).p.yr),.int .u8 ((s.getD (k-1) default).p.half),.int .u8 ((s.getD (k-1) default).p.sec),.int .i64 ((s.getD (k-1) default).p.cyc),(.slice (s.getD (k-1) default).ad (s.getD (k-1) default).n (s.getD (k-1) default).c)])::(53,ix v3 ((k-1)*6))::(54,ix v3 (k*6))::LZ556):=hf; refine O.storeE (j:=1) (p:=((k:Nat):Int)) (o:=0) (enc:=eO) (l:=((putAt s k x).set (k-1) x)) (y0:=(s.getD (k-1) default)) (l':=(((putAt s k x).set (k-1) x).set k (s.getD (k-1) default))) (M':=[pt b_s2 (.cells #[.int .i64 x.p.num,.int .i64 x.p.yr,.int .u8 x.p.half,.int .u8 x.p.sec,.int .i64 x.p.cyc,(.slice x.ad x.n x.c)] 46 (0,0)),slE 46 6 eO v3 (((putAt s k x).set (k-1) x).set k (s.getD (k-1) default))]) hf hS rfl rfl rfl T_size_46 rfl rfl rfl eO_len (idx_nat (by rw [List.length_set]; omega)) rfl rfl rfl rfl ?_; intro w hS; replace hS:St w0 w noX [rdv 6 vo os.length (encs eO os)] [pt b_s2 (.cells #[.int .i64 x.p.num,.int .i64 x.p.yr,.int .u8 x.p.half,.int .u8 x.p.sec,.int .i64 x.p.cyc,(.slice x.ad x.n x.c)] 46 (0,0)),sl 46 6 v3 ((((putAt s k x).set (k-1) x).set k (s.getD (k-1) default)).length) (encs eO (((putAt s k x).set (k-1) x).set k (s.getD (k-1) default)))]:=hS; exact O.nil ⟨rfl,(),hf.to trivial,(fun d hd=>by cases (show none=some d from hd)),(fun j_ hj_ ha_=>match j_,hj_,ha_ with | 0,hj_,ha_=>rfl | 1,hj_,ha_=>rfl | 2,hj_,ha_=>rfl | 3,hj_,ha_=>rfl | 4,hj_,ha_=>rfl | 5,hj_,ha_=>rfl | 6,hj_,ha_=>rfl | 7,hj_,ha_=>rfl | 8,hj_,ha_=>rfl | 9,hj_,ha_=>rfl | 10,hj_,ha_=>rfl | 11,hj_,ha_=>rfl | 12,hj_,ha_=>rfl | 13,hj_,ha_=>rfl | 14,hj_,ha_=>rfl | 15,hj_,ha_=>rfl | 16,hj_,ha_=>rfl | 17,hj_,ha_=>absurd rfl hj_ | _+18,_,_=>rfl),hS⟩
      clear hf hS; intro s_ g a w _ hf hD; have hS:=hD; clear hD; replace hf:Fr a 56 [] ((39,v3)::(40,.int .i64 (k:Int))::(41,.int .i64 ((k:Int)-1))::(42,v3)::(43,.int .i64 (k:Int))::(44,v3)::(45,.int .i64 (k:Int))::(46,ix v3 (k*6))::(47,.agg #[.int .i64 x.p.num,.int .i64 x.p.yr,.int .u8 x.p.half,.int .u8 x.p.sec,.int .i64 x.p.cyc,(.slice x.ad x.n x.c)])::(48,v3)::(49,.int .i64 (k:Int))::(50,.int .i64 ((k:Int)-1))::(51,ix v3 ((k-1)*6))::(52,.agg #[.int .i64 ((s.getD (k-1) default).p.num),.int .i64 ((s.getD (k-1) default).p.yr),.int .u8 ((s.getD (k-1) default).p.half),.int .u8 ((s.getD (k-1) default).p.sec),.int .i64 ((s.getD (k-1) default).p.cyc),(.slice (s.getD (k-1) default).ad (s.getD (k-1) default).n (s.getD (k-1) default).c)])::(53,ix v3 ((k-1)*6))::(54,ix v3 (k*6))::LZ556):=hf; refine k_blk_normal<|k_seq<|?_
      refine W.regionL (l:=[0,1,2]) rfl<|mv hf rfl<|?_; clear hf a; intro a hf; refine ov hf rfl (RunV.subI rfl rfl (by omega)) ?_; clear hf a; intro a hf; refine mv hf rfl ?_; clear hf a; intro a hf; refine O.nil ?_; refine k_then ⟨(k-1),⟨hf.to ⟨rfl,rfl,rfl,rfl,(by first | rfl | exact congrArg some (congrArg (Value.int _) (by omega))),trivial⟩,?_,?_⟩,?_⟩
      · exact hS.eqM (by rw [putAt_swap (by have:=(ins_go I hok hx hswb).1; omega) (by have:=I.hk; omega)])
      · exact (ins_go I hok hx hswb).2
      · dsimp only; have:=(ins_go I hok hx hswb).1; omega
    · have hswb:=hsw
      try simp only [Bool.and_eq_true,Bool.or_eq_true,Bool.and_eq_false_iff,Bool.or_eq_false_iff,decide_eq_true_eq,decide_eq_false_iff_not,Bool.not_eq_true',Bool.not_eq_false',Bool.not_eq_true,Bool.not_eq_false,ne_eq] at hsw
      refine W.exit<|k_then_exit<|k_then_exit<|k_blk<|k_blk_normal<|k_seq<|?_
      refine W.regionL (l:=[0,1,2]) rfl<|mv hf rfl<|?_; clear hf a; intro a hf; refine ov hf rfl (RunV.addI rfl rfl (by omega)) ?_; clear hf a; intro a hf; refine mv hf rfl ?_; clear hf a; intro a hf; refine O.nil ?_; replace hS:=hS.sl [0,1]; refine k_then ⟨(i+1,(putAt s k x),v3),⟨hf.to ⟨rfl,rfl,(by first | rfl | exact congrArg some (congrArg (Value.int _) (by omega))),(by first | rfl | exact congrArg some (congrArg (Value.int _) (by omega))),trivial⟩,?_,?_,?_,?_,?_⟩,?_⟩
      · exact hS.eqM rfl
      · omega
      · rw [putAt_len,hlen]
      · exact (ins_stop I hok hx hswb).1
      · exact (ins_stop I hok hx hswb).2
      · dsimp only; omega
  · refine W.exit ?_
    refine k_then_exit<|k_then_exit<|k_blk<|k_seq<|W.seq<|?_
    refine W.regionL (l:=[0,1]) rfl<|mv hf rfl<|?_; clear hf a; intro a hf; refine mv hf rfl ?_; clear hf a; intro a hf; refine nk<|W.ret<|post1 hf rfl (ResOK.tmp rfl)<|?_; exact ⟨(vs,s),rfl,(hS.sub (N:=[sl 46 6 vs s.length (encs eO s)]) (.cons_cons _ .slnil)).noB,by rw [List.take_of_length_le (by omega)] at hperm; exact hperm,hsrt⟩
end Go.Proofs.YtgakdmmmljdpjaaDoor

namespace Go.SL
open Go
section
variable {r:Option Nat} {P:Program} {ops:Array Oper} {Q:Exit→Act→World→Prop} {a:Act} {w w0:World} {n:Nat} {ds:List Deferred} {L:List (Nat × Value)} {X:Nat→Prop} {B M:List Asr}
theorem O.build0C {i d j m:Nat} {t ty e:TypeId} {rest:List Nat} {pos:String} {af:Array Edge} {c:Bool} {p:Asr} {parts:Array (Nat × Operand)}
    (hf:Fr a n ds L) (hS:St w0 w X B M) (hj:M[j]? = some (condA c p)) (hc:c=false) (ho:ops[i]? = some ⟨some d,.buildSlice t 0 parts,ty,pos,af,none⟩) (hd:Nat.blt d n=true)
    (he:tElem P t=some e) (hs:tSize P e=some m) (hp0:parts=#[])
    (k:∀ b w' a',St w0 w' X B (M.set j (sl e m (.slice (some ⟨b,0,none⟩) 0 0) 0 []))→Fr a' n ds ((d,.slice (some ⟨b,0,none⟩) 0 0)::L)→O r P ops Q rest a' w'):O r P ops Q (i::rest) a w:=by
  refine O.buildSlice0 hf hS ho hd he hs hp0 (fun b w' a' hb hS' hf'=>k b w' a' ?_ hf')
  subst hc
  have h1:=hS'.sep
  obtain ⟨hjl,hje⟩:=List.getElem?_eq_some_iff.1 hj
  refine ⟨hS'.os,hS'.tape,hS'.output,hS'.size,hS'.old,?_,hS'.bor⟩
  have hp:=h1.1
  have hM:=h1.2
  clear h1 hS hS' k hf hf' ho
  revert j
  induction M with
  | nil=>intro j hj hjl _; simp at hj
  | cons q t ih =>
    intro j hj hjl hje
    cases j with
    | zero =>
      simp only [List.set_cons_zero]
      exact ⟨⟨hp.1,hp.2.1,fun s hs=>hp.2.2 s (by simp [hs])⟩,hM.2⟩
    | succ j =>
      simp only [List.set_cons_succ]
      have h2:=ih ⟨hp.1,hp.2.1,fun s hs=>hp.2.2 s (by simp [hs])⟩ hM.2 (j:=j) (by simpa using hj) (by simpa using hjl) (by simpa using hje)
      refine ⟨⟨hM.1.1,hM.1.2.1,fun s hs b' hb' hsb=>?_⟩,h2⟩
      rcases List.mem_or_eq_of_mem_set hs with h3 | h3
      · exact hM.1.2.2 s h3 b' hb' hsb
      · subst h3
        exact hp.2.2 q (by simp) b' hsb hb'
end
end Go.SL

namespace Go.SL
open Go
theorem findR_rng (L:List PO) (d:Dg):findR L d=-1∨∃ i:Nat,findR L d=(i:Int)∧i<L.length:=by
  unfold findR
  cases h:L.findIdx? fun x=>decide (d ∈ x.2) with
  | none=>exact .inl rfl
  | some i =>
    rw [List.findIdx?_eq_some_iff_getElem] at h
    exact .inr ⟨i,rfl,h.1⟩
def NextR (os:List Ob) (c:Ch) (e:Int) (os' new:List Ob):Prop :=
  (e≠0∧nextR (os.map prO) c=.error e∧os'=[]∧new=[])∨(e=0∧(∀ o ∈ os',o ∈ os∨o ∈ new)∧nextR (os.map prO) c=.ok (os'.map prO))
def obF (m:List Dg) (o:Ob):Asr:=⟨(obA o).fp,fun h=>(obA o).holds h∧prO o=objR m,fun h h' hk hh=>⟨(obA o).loc h h' hk hh.1,hh.2⟩⟩
section
variable {w0 w:World} {X:Nat→Prop} {B M:List Asr} {p:Asr} {m:List Dg} {o:Ob}
theorem St.toF (hS:St w0 w X B [obA o]) (h:prO o=objR m):St w0 w X B [obF m o]:=by
  have h1:=hS.conv (i:=0) (p:=obA o) (q:=obF m o) rfl (fun h2=>⟨h2,h⟩) (fun b hb=>hb)
  exact h1
theorem St.obFin (hS:St w0 w X B [p,obF m o]):St w0 w X B [p,bigA ([o].map obA)]∧prO o=objR m:=by
  have h0:(obF m o).holds (hp w):=hS.at_ (i:=1) rfl
  have h1:St w0 w X B [p,obA o]:=hS.conv (i:=1) (p:=obF m o) (q:=obA o) rfl (fun h2=>h2.1) (fun b hb=>hb)
  have h2:St w0 w X B ([p]++([obA o]++[])):=h1
  exact ⟨h2.bigClose,h0.2⟩
theorem St.bigNil (hS:St w0 w X B [p]):St w0 w X B [p,bigA (([]:List Ob).map obA)]:=by
  have h2:St w0 w X B ([p]++([]++[])):=hS
  exact h2.bigClose
end
section
variable {L:List PO} {c:Ch}
theorem nx_add_err (hk:c.kind=1) (h:findR L c.a≥0):nextR L c=.error 14:=by
  unfold nextR; simp only [if_pos hk,if_pos h]
theorem nx_add (hk:c.kind=1) (h:¬ findR L c.a≥0):nextR L c=.ok (L++[objR [c.a]]):=by
  unfold nextR; simp only [if_pos hk,if_neg h]
theorem nx_j6 (hk:c.kind=2) (h:findR L c.a<0∨findR L c.b<0):nextR L c=.error 6:=by
  unfold nextR; simp only [if_neg (show ¬ c.kind=1 by omega),if_pos hk,if_pos h]
theorem nx_j36 (hk:c.kind=2) (h:¬ (findR L c.a<0∨findR L c.b<0)) (h2:findR L c.a=findR L c.b∨(0<(L.getD (findR L c.a).toNat default).1.num∧0<(L.getD (findR L c.b).toNat default).1.num)):nextR L c=.error 36:=by
  unfold nextR; simp only [if_neg (show ¬ c.kind=1 by omega),if_pos hk,if_neg h,if_pos h2]
theorem nx_j (hk:c.kind=2) (h:¬ (findR L c.a<0∨findR L c.b<0)) (h2:¬ (findR L c.a=findR L c.b∨(0<(L.getD (findR L c.a).toNat default).1.num∧0<(L.getD (findR L c.b).toNat default).1.num))) :
    nextR L c=.ok (delR (delR L (max (findR L c.a) (findR L c.b)).toNat) (min (findR L c.a) (findR L c.b)).toNat++[objR ((L.getD (findR L c.a).toNat default).2++(L.getD (findR L c.b).toNat default).2)]):=by
  unfold nextR; simp only [if_neg (show ¬ c.kind=1 by omega),if_pos hk,if_neg h,if_neg h2]
theorem nx_n6 (hk:¬ c.kind=1) (hk2:¬ c.kind=2) (h:findR L c.a<0):nextR L c=.error 6:=by
  unfold nextR; simp only [if_neg hk,if_neg hk2,if_pos h]
theorem nx_n14 (hk:¬ c.kind=1) (hk2:¬ c.kind=2) (h:¬ findR L c.a<0) (h2:findR L c.b≥0):nextR L c=.error 14:=by
  unfold nextR; simp only [if_neg hk,if_neg hk2,if_neg h,if_pos h2]
theorem nx_n36 (hk:¬ c.kind=1) (hk2:¬ c.kind=2) (h:¬ findR L c.a<0) (h2:¬ findR L c.b≥0) (h3:0<(L.getD (findR L c.a).toNat default).1.num):nextR L c=.error 36:=by
  unfold nextR; simp only [if_neg hk,if_neg hk2,if_neg h,if_neg h2,if_pos h3]
theorem nx_n (hk:¬ c.kind=1) (hk2:¬ c.kind=2) (h:¬ findR L c.a<0) (h2:¬ findR L c.b≥0) (h3:¬ 0<(L.getD (findR L c.a).toNat default).1.num) :
    nextR L c=.ok (delR L (findR L c.a).toNat++[objR ((L.getD (findR L c.a).toNat default).2++[c.b])]):=by
  unfold nextR; simp only [if_neg hk,if_neg hk2,if_neg h,if_neg h2,if_neg h3]
end
section
variable {os:List Ob} {c:Ch} {on:Ob} {ia ib:Nat}
theorem NextR.err {e:Int} (he:e≠0) (h:nextR (os.map prO) c=.error e):NextR os c e [] []:=.inl ⟨he,h,rfl,rfl⟩
theorem NextR.add (hk:c.kind=1) (h:¬ findR (os.map prO) c.a≥0) (hon:prO on=objR [c.a]):NextR os c 0 (os++[on]) [on] :=
  .inr ⟨rfl,fun o ho=>(List.mem_append.1 ho),by rw [nx_add hk h,List.map_append,List.map_cons,List.map_nil,hon]⟩
theorem NextR.join (hk:c.kind=2) (hia:findR (os.map prO) c.a=(ia:Int)) (hib:findR (os.map prO) c.b=(ib:Int)) (hl1:ia<os.length) (hl2:ib<os.length)
    (h2:¬ ((ia:Int)=(ib:Int)∨(0<(os.getD ia default).p.num∧0<(os.getD ib default).p.num))) (hon:prO on=objR ((os.getD ia default).l++(os.getD ib default).l)) :
    NextR os c 0 (delR (delR os (max ia ib)) (min ia ib)++[on]) [on]:=by
  refine .inr ⟨rfl,fun o ho=>?_,?_⟩
  · rcases List.mem_append.1 ho with h | h
    · exact .inl (delR_mem (delR_mem h))
    · exact .inr h
  · rw [nx_j hk (by rw [hia,hib]; omega) (by rw [hia,hib,Int.toNat_natCast,Int.toNat_natCast,prO_getD hl1,prO_getD hl2]; exact h2),hia,hib,Int.toNat_natCast,Int.toNat_natCast,prO_getD hl1,prO_getD hl2,
      show (max (ia:Int) (ib:Int)).toNat=max ia ib by omega,show (min (ia:Int) (ib:Int)).toNat=min ia ib by omega,List.map_append,List.map_cons,List.map_nil,hon,delR_map,delR_map]
    rfl
theorem NextR.name (hk:¬ c.kind=1) (hk2:¬ c.kind=2) (hia:findR (os.map prO) c.a=(ia:Int)) (hl1:ia<os.length) (hb:¬ findR (os.map prO) c.b≥0) (h3:¬ 0<(os.getD ia default).p.num)
    (hon:prO on=objR ((os.getD ia default).l++[c.b])):NextR os c 0 (delR os ia++[on]) [on]:=by
  refine .inr ⟨rfl,fun o ho=>?_,?_⟩
  · rcases List.mem_append.1 ho with h | h
    · exact .inl (delR_mem h)
    · exact .inr h
  · rw [nx_n hk hk2 (by rw [hia]; omega) hb (by rw [hia,Int.toNat_natCast,prO_getD hl1]; exact h3),hia,Int.toNat_natCast,prO_getD hl1,List.map_append,List.map_cons,List.map_nil,hon,delR_map]
    rfl
end
end Go.SL
namespace Go.Proofs.YtgakdmmmljdpjaaDoor
open Go Go.SL
theorem find_as (vo:Value) (os:List Ob) (d:Dg) (w0:World) (hl:rdOK (hp w0) 6 vo os.length (encs eO os)) (ho:obsRd w0 os) (f:Int) (hf:f=findR (os.map prO) d) :
    Ret Tryd.prog 43 #[vo,dV d] w0 (G:=Unit) (fun _=>.int .i64 f) (fun _ w=>St w0 w noX [] []):=by
  subst hf; exact find_spec vo os d w0 hl ho
theorem made_ob (vl:Value) (l:List Dg) (w0:World) (hl:rdOK (hp w0) 5 vl l.length (encs eD l)) (hok:∀ d ∈ l,okD d=true∧rD d) (h0:0<l.length) (hz:l.length≤1000) :
    Ret Tryd.prog 59 #[vl] w0 (G:=Ob) (fun g=>.agg (eO g).toArray) (fun g w=>St w0 w noX [] [obF l g]) :=
  (made_spec vl l w0 hl hok h0 hz).mono fun g w hS=>by
    have h1:slOK (hp w) 24 5 g (sortDs l).length (encs eD (sortDs l)):=hS.at_ (i:=0) rfl
    obtain ⟨A,cap,rfl,_⟩:=h1.isSlice
    exact ⟨⟨(sortDs l).getD 0 default,A,(sortDs l).length,cap,sortDs l⟩,rfl,St.toF (o:=⟨(sortDs l).getD 0 default,A,(sortDs l).length,cap,sortDs l⟩) hS rfl⟩
end Go.Proofs.YtgakdmmmljdpjaaDoor
namespace Go.SL
open Go
theorem RunV.toV {P:Program} {n:Nat} {ds:List Deferred} {L:List (Nat × Value)} {op:Op} {ty:TypeId} {w w':World} {v u:Value} (h:RunV P n ds L op ty w v w') (e:v=u):RunV P n ds L op ty w u w':=e▸h
end Go.SL
namespace Go.SL
open Go
theorem getO {os:List Ob} {i:Nat} (h:i<os.length):os.getD i default ∈ os:=by
  rw [List.getD_eq_getElem?_getD,List.getElem?_eq_getElem h]
  exact List.getElem_mem _
end Go.SL
namespace Go.Proofs.YtgakdmmmljdpjaaDoor
open Go Go.SL
theorem without_as (vo:Value) (os:List Ob) (i:Nat) (w0:World) (hl:rdOK (hp w0) 6 vo os.length (encs eO os)) (hfit:vfit vo) (hi:i<os.length) (hz:os.length≤1000) (f:Int) (hf:f=(i:Int)) :
    Ret Tryd.prog 60 #[vo,.int .i64 f] w0 (G:=Value) (fun g=>g) (fun g w=>St w0 w noX [] [sl 46 6 g (delR os i).length (encs eO (delR os i))]):=by
  subst hf; exact without_spec vo os i w0 hl hfit hi hz
theorem nq {p q r:Prop} (h:¬ p∧(¬ q∨¬ r)):¬ (p∨q∧r):=fun h2=>by
  rcases h2 with h2 | h2
  · exact h.1 h2
  · rcases h.2 with h3 | h3
    · exact h3 h2.1
    · exact h3 h2.2
end Go.Proofs.YtgakdmmmljdpjaaDoor
namespace Go.SL
open Go
theorem mxV {fa fb:Int} {ia ib:Nat} (ha:fa=(ia:Int)) (hb:fb=(ib:Int)):Value.int .i64 (if fa<fb then fb else fa)=Value.int .i64 ((max ia ib:Nat):Int):=by
  subst ha hb; congr 1; split <;> omega
theorem mnV {fa fb:Int} {ia ib:Nat} (ha:fa=(ia:Int)) (hb:fb=(ib:Int)):Value.int .i64 (if fb<fa then fb else fa)=Value.int .i64 ((min ia ib:Nat):Int):=by
  subst ha hb; congr 1; split <;> omega
end Go.SL
