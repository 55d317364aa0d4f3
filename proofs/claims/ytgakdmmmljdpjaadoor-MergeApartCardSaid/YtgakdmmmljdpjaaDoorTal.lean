/- Part of a proof: laws and walks. -/
import Derived.Test.YtgakdmmmljdpjaaDoorTak
import Derived.Test.YtgakdmmmljdpjaaDoorTac
import Derived.Test.YtgakdmmmljdpjaaDoorTae
set_option linter.unusedVariables false
set_option linter.unusedSimpArgs false
namespace Go.Proofs.YtgakdmmmljdpjaaDoor
open Go Go.SL
theorem C_ok_38:callOK Tryd.prog 38=true:=by kernel_rfl
theorem T_bytes_46:tBytes Tryd.prog 46=some 56:=by kernel_rfl
theorem T_elem_39:tElem Tryd.prog 39=some 46:=by kernel_rfl
theorem T_mapof_78:tMapOf Tryd.prog 78=some (79,.bool false):=by kernel_rfl
set_option maxHeartbeats 4000000 in
set_option maxRecDepth 4000 in
theorem run_ok (vl:Value) (l:List Ch) (w0:World) (hG:Lent w0 ordA) (hl:rdOK (hp w0) 12 vl l.length (encs eC l)) (hfit:vfit vl) (S:List PG) (us:List Bool) (hm:histM l=.ok (S,us)) :
    Ret Tryd.prog 16 #[vl] w0 (G:=Value × List Ob) (fun g=>.tuple #[g.1,.int .i64 0]) (fun g w=>St w0 w noX [] [slE 46 6 eO g.1 g.2,bigA (g.2.map obA)]∧g.2.map prO=objsM S):=by
  refine ret_of_W (lv:=[vl]) Tryd.func16 rfl rfl rfl (fun a hf=>?_)
  replace hf:Fr a 41 [] [(0,vl)]:=hf
  have hS:St w0 w0 noX [ordA,rdv 12 vl l.length (encs eC l)] []:=((St.refl w0).lend0 hl).lendA hG
  have hlm:=hl.2.1
  unfold maxLen at hlm
  refine W.seq ?_
  refine W.regionL (l:=[0,1]) rfl ?_
  refine O.val hf rfl rfl rfl (RunV.assign rfl) ?_
  clear hf a; intro a hf
  refine O.val hf rfl rfl rfl (RunV.assign rfl) ?_
  clear hf a; intro a hf
  refine O.nil ?_
  refine k_seq ?_
  refine W.seq ?_
  refine W.regionL (l:=[0,1,2,3,4,5,6,7,8]) rfl ?_
  refine O.val hf rfl rfl rfl (RunV.move rfl) ?_
  clear hf a; intro a hf
  refine O.callR hf rfl rfl rfl (RunE.call (av:=#[vl]) C_ok_32 rfl rfl rfl) (history_ok vl l _ (hS.bptO (i:=0) rfl) (hS.rdAt (j:=1) rfl) hfit hm) ?_
  clear hf a
  rintro ⟨uv,bm,kvs,gs⟩ w1 ⟨hS1,hI⟩ a hf
  replace hf:Fr a _ _ ((13,.tuple #[.map (some bm),uv,.int .i64 0])::_):=hf
  replace hS:=(hS.call hS1).eqM (N:=[stA 95 24 bm kvs gs,sl 4 1 uv us.length (bools us)]) rfl
  clear hS1
  refine O.val hf rfl rfl rfl (RunV.move rfl) ?_
  clear hf a; intro a hf
  refine O.val hf rfl rfl rfl (RunV.extract rfl rfl) ?_
  clear hf a; intro a hf
  refine O.val hf rfl rfl rfl (RunV.extract rfl rfl) ?_
  clear hf a; intro a hf
  refine O.val hf rfl rfl rfl (RunV.extract rfl rfl) ?_
  clear hf a; intro a hf
  refine O.val hf rfl rfl rfl (RunV.assign rfl) ?_
  clear hf a; intro a hf
  refine O.val hf rfl rfl rfl (RunV.assign rfl) ?_
  clear hf a; intro a hf
  refine O.val hf rfl rfl rfl (RunV.assign rfl) ?_
  clear hf a; intro a hf
  refine O.nil ?_
  have hL:=hI.1
  replace hS:=St.stOpen hS
  replace hS:St w0 _ noX [ordA,rdv 12 vl l.length (encs eC l)] [mp dV bm kvs,bigA (gs.map (grA 95 24)),sl 4 1 uv us.length (bools us)]:=hS
  refine k_seq ?_
  replace hf:Fr a 41 [] [(2,.slice none 0 0),(3,.int .i64 0),(4,.map (some bm)),(6,.int .i64 0)]:=hf.to ⟨rfl,rfl,rfl,rfl,trivial⟩
  refine W.seq ?_
  refine W.seq ?_
  refine W.regionL (l:=[0,1]) rfl ?_
  refine O.val hf rfl rfl rfl (RunV.move rfl) ?_
  clear hf a; intro a hf
  refine O.val hf rfl rfl rfl (RunV.toB (c:=false) (RunV.neq rfl rfl) (by decide)) ?_
  clear hf a; intro a hf
  refine O.nil ?_
  refine k_seq ?_
  replace hf:Fr a 41 [] [(2,.slice none 0 0),(3,.int .i64 0),(4,.map (some bm)),(6,.int .i64 0),(18,.bool false)]:=hf.to ⟨rfl,rfl,rfl,rfl,rfl,trivial⟩
  refine W.if_ff hf rfl ?_
  refine W.skip ?_
  refine k_seq ?_
  replace hf:Fr a 41 [] [(2,.slice none 0 0),(3,.int .i64 0),(4,.map (some bm))]:=hf.to ⟨rfl,rfl,rfl,trivial⟩
  refine W.seq ?_
  refine W.regionL (l:=[0]) rfl ?_
  refine O.val hf rfl rfl rfl (RunV.assign rfl) ?_
  clear hf a; intro a hf
  refine O.nil ?_
  refine k_seq ?_
  refine W.seq ?_
  refine W.regionL (l:=[0,1]) rfl ?_
  refine O.makeP ptrV hf hS rfl rfl ?_
  clear hf hS a; intro b_m2 w a hbb_m2 hS hf
  refine O.val hf rfl rfl rfl (RunV.assign rfl) ?_
  clear hf a; intro a hf
  refine O.nil ?_
  refine k_seq ?_
  replace hf:Fr a 41 [] [(2,.slice none 0 0),(3,.int .i64 0),(4,.map (some bm)),(7,.slice none 0 0),(8,.map (some b_m2))]:=hf.to ⟨rfl,rfl,rfl,rfl,rfl,trivial⟩
  refine W.seq ?_
  refine W.seq ?_
  refine W.regionL (l:=[0,1]) rfl ?_
  refine O.val hf rfl rfl rfl (RunV.move rfl) ?_
  clear hf a; intro a hf
  refine O.rangeP (j:=1) hf hS rfl rfl Tryd.underlying71 rfl rfl ?_
  clear hf hS a; intro b_r3 w a hbb_r3 hS hf
  replace hS:St w0 w noX [ordA,rdv 12 vl l.length (encs eC l)] [mp ptrV b_m2 ([]),rgA dV bm b_r3 kvs kvs none,bigA (gs.map (grA 95 24)),sl 4 1 uv us.length (bools us)]:=hS
  refine O.nil ?_
  refine k_seq ?_
  replace hf:Fr a 41 [] [(2,.slice none 0 0),(3,.int .i64 0),(7,.slice none 0 0),(8,.map (some b_m2)),(22,.pointer (some ⟨b_r3,0,none⟩))]:=hf.to ⟨rfl,rfl,rfl,rfl,rfl,trivial⟩
  refine W.block ?_
  replace hS:=hS.nilSl 46 6
  replace hS:St w0 _ noX [ordA,rdv 12 vl l.length (encs eC l)] (bigA (([]:List Ob).map obA)::[sl 46 6 (.slice none 0 0) (([]:List Ob).length) (encs eO ([]:List Ob)),mp ptrV b_m2 ([]),rgA dV bm b_r3 kvs kvs none,bigA (gs.map (grA 95 24)),sl 4 1 uv us.length (bools us)]):=St.bigClose (N:=[]) (l:=[]) hS
  refine W.loop (G:=(List Grp) × (List (Dg × Value)) × (Option (Dg × Value)) × (List (Nat × Value)) × (List Ob) × (Value)) (fun g a w=>match g with | (done,todo,last,sk,os,vo)=>Fr a 41 [] [(2,.slice none 0 0),(3,.int .i64 0),(7,vo),(8,.map (some b_m2)),(22,.pointer (some ⟨b_r3,0,none⟩))]∧St w0 w noX [ordA,rdv 12 vl l.length (encs eC l)] [bigA (os.map obA),sl 46 6 vo os.length (encs eO os),mp ptrV b_m2 sk,rgA dV bm b_r3 kvs todo last,bigA (gs.map (grA 95 24)),sl 4 1 uv us.length (bools us)]∧(RunI gs done kvs todo sk os)) (fun g=>match g with | (done,todo,last,sk,os,vo)=>todo.length) ([],kvs,none,[],[],.slice none 0 0) ?_ ?_
  · refine ⟨hf.to ⟨rfl,rfl,(by first | rfl | exact congrArg some (congrArg (Value.int _) (by omega))),rfl,rfl,trivial⟩,hS,?_⟩
    · exact RunI.start hL
  clear hf hS a
  rintro ⟨done,todo,last,sk,os,vo⟩ a w ⟨hf,hS,hR⟩
  refine W.seq ?_
  refine W.regionL (l:=[0,1]) rfl ?_
  refine O.nextP (j:=3) hf hS rfl rfl rfl rfl ?_ ?_
  · clear hf; intro htd a hf
    rw [htd] at hR
    have hln:=Nat.le_trans hR.len (gs_len hm hI)
    refine O.val hf rfl rfl rfl (RunV.extract rfl rfl) ?_
    clear hf a; intro a hf
    refine O.nil ?_
    refine k_seq ?_
    replace hf:Fr a 41 [] [(2,.slice none 0 0),(3,.int .i64 0),(7,vo),(8,.map (some b_m2)),(22,.pointer (some ⟨b_r3,0,none⟩)),(24,.bool false)]:=hf.to ⟨rfl,rfl,rfl,rfl,rfl,rfl,trivial⟩
    refine W.seq ?_
    refine W.if_ff hf rfl ?_
    refine W.exit ?_
    refine k_then_exit ?_
    refine k_then_exit ?_
    refine k_blk ?_
    refine k_seq ?_
    replace hf:Fr a 41 [] [(2,.slice none 0 0),(3,.int .i64 0),(7,vo)]:=hf.to ⟨rfl,rfl,rfl,trivial⟩
    refine W.seq ?_
    refine W.regionL (l:=[0,1]) rfl ?_
    refine O.val hf rfl rfl rfl (RunV.move rfl) ?_
    clear hf a; intro a hf
    refine O.callR hf rfl rfl rfl (RunE.call (av:=#[vo,.func (.func 39) #[] #[]]) C_ok_38 rfl rfl rfl) (sortO_spec vo os _ (RunI.pok hR hm hI) (RunI.inj hR hI) (hS.bptO (i:=0) rfl) (hS.slAt (j:=1) rfl) (by omega) (fun h=>hS.apart (i:=1) (j:=0) rfl rfl 0 rfl h)) ?_
    clear hf a
    rintro _ w4 hS1 a hf
    replace hf:Fr a _ _ ((39,.tuple #[])::_):=hf
    replace hS:=(hS.callX1 hS1 (i:=1) rfl (fun _ h=>h)).eqM (N:=[sl 46 6 vo ((sortOs os).length) (encs eO (sortOs os)),bigA (os.map obA),mp ptrV b_m2 sk,rgA dV bm b_r3 kvs todo last,bigA (gs.map (grA 95 24)),sl 4 1 uv us.length (bools us)]) rfl
    clear hS1
    refine O.nil ?_
    refine k_seq ?_
    replace hf:Fr a 41 [] [(2,.slice none 0 0),(3,.int .i64 0),(7,vo)]:=hf.to ⟨rfl,rfl,rfl,trivial⟩
    refine W.seq ?_
    refine W.regionL (l:=[0,1,2]) rfl ?_
    refine O.val hf rfl rfl rfl (RunV.move rfl) ?_
    clear hf a; intro a hf
    refine O.val hf rfl rfl rfl (RunV.assign rfl) ?_
    clear hf a; intro a hf
    refine O.val hf rfl rfl rfl (RunV.assign rfl) ?_
    clear hf a; intro a hf
    refine O.nil ?_
    refine k_seq ?_
    replace hf:Fr a 41 [] [(2,vo),(3,.int .i64 0)]:=hf.to ⟨rfl,rfl,trivial⟩
    refine W.ret ?_
    refine post2 hf rfl (ResOK.tmp rfl) (ResOK.tmp rfl) ?_
    have hdn:=hR.done_ hI
    have hpo:(os.map obA).Perm ((sortOs os).map obA):=(List.mergeSort_perm os _).symm.map _
    replace hS:=hS.front (i:=1) (M':=[bigA (os.map obA),sl 46 6 vo ((sortOs os).length) (encs eO (sortOs os)),mp ptrV b_m2 sk,rgA dV bm b_r3 kvs todo last,bigA (gs.map (grA 95 24)),sl 4 1 uv us.length (bools us)]) rfl rfl
    replace hS:=hS.front (i:=1) (M':=[sl 46 6 vo ((sortOs os).length) (encs eO (sortOs os)),bigA (os.map obA),mp ptrV b_m2 sk,rgA dV bm b_r3 kvs todo last,bigA (gs.map (grA 95 24)),sl 4 1 uv us.length (bools us)]) rfl rfl
    replace hS:=hS.bigPerm (i:=1) rfl hpo
    exact ⟨(vo,sortOs os),rfl,(hS.sub (List.Sublist.cons_cons _ (List.Sublist.cons_cons _ (List.nil_sublist _)))).noB,hdn.1⟩
  · clear hf hS; intro ts_ tp_ tt_ w a htd hS hf
    replace hS:St w0 w noX [ordA,rdv 12 vl l.length (encs eC l)] [bigA (os.map obA),sl 46 6 vo os.length (encs eO os),mp ptrV b_m2 sk,rgA dV bm b_r3 kvs (ts_++tt_) (some tp_),bigA (gs.map (grA 95 24)),sl 4 1 uv us.length (bools us)]:=hS
    rw [htd] at hR
    obtain ⟨gr,hg,hpv⟩:=hR.inn tp_ (by simp)
    obtain ⟨td,tv⟩:=tp_
    simp only at hpv
    subst hpv
    replace hS:St w0 w noX [ordA,rdv 12 vl l.length (encs eC l)] [bigA (os.map obA),sl 46 6 vo os.length (encs eO os),mp ptrV b_m2 sk,rgA dV bm b_r3 kvs (ts_++tt_) (some (td,ptrV gr.blk)),bigA (gs.map (grA 95 24)),sl 4 1 uv us.length (bools us)]:=hS
    replace hf:Fr a _ _ ((23,.tuple #[.bool true,.agg #[.int .i64 td.num,.int .i64 td.yr,.int .u8 td.half,.int .u8 td.sec,.int .i64 td.cyc],.pointer (some ⟨gr.blk,0,none⟩)])::_):=hf
    refine O.val hf rfl rfl rfl (RunV.extract rfl rfl) ?_
    clear hf a; intro a hf
    refine O.nil ?_
    refine k_seq ?_
    replace hf:Fr a 41 [] [(2,.slice none 0 0),(3,.int .i64 0),(7,vo),(8,.map (some b_m2)),(22,.pointer (some ⟨b_r3,0,none⟩)),(24,.bool true)]:=hf.to ⟨rfl,rfl,rfl,rfl,rfl,rfl,trivial⟩
    refine W.seq ?_
    refine W.if_tt hf rfl ?_
    refine W.skip ?_
    refine k_seq ?_
    refine W.block ?_
    refine W.seq ?_
    refine W.regionL (l:=[0,1,2]) rfl ?_
    refine O.val hf rfl rfl rfl (RunV.entryP hS (j:=3) rfl rfl) ?_; clear hf a; intro a hf
    replace hf:Fr a _ _ ((25,.tuple #[.agg #[.int .i64 td.num,.int .i64 td.yr,.int .u8 td.half,.int .u8 td.sec,.int .i64 td.cyc],.pointer (some ⟨gr.blk,0,none⟩)])::_):=hf
    refine O.val hf rfl rfl rfl (RunV.extract rfl rfl) ?_
    clear hf a; intro a hf
    refine O.val hf rfl rfl rfl (RunV.assign rfl) ?_
    clear hf a; intro a hf
    refine O.nil ?_
    refine k_seq ?_
    replace hf:Fr a 41 [] [(2,.slice none 0 0),(3,.int .i64 0),(7,vo),(8,.map (some b_m2)),(10,.pointer (some ⟨gr.blk,0,none⟩)),(22,.pointer (some ⟨b_r3,0,none⟩)),(24,.bool true)]:=hf.to ⟨rfl,rfl,rfl,rfl,rfl,rfl,rfl,trivial⟩
    refine W.seq ?_
    rcases (show getP gr.blk sk=some (.bool true)∨getP gr.blk sk=none from by rw [hR.seen]; split <;> simp) with hsk | hsk
    ·
      refine W.regionL (l:=[0,1,2,3]) rfl ?_
      refine O.val hf rfl rfl rfl (RunV.move rfl) ?_
      clear hf a; intro a hf
      refine O.val hf rfl rfl rfl (RunV.move rfl) ?_
      clear hf a; intro a hf
      refine O.val hf rfl rfl rfl (RunV.lookP (k:=gr.blk) (kvs:=sk) T_mapof_78 keyG (cells_of hS (i:=4) rfl _ hg) (RunI.good hR (cells_of hS (i:=4) rfl)) rfl rfl (hS.mpAt (j:=2) rfl) (by rw [hsk] <;> rfl)) ?_
      clear hf a; intro a hf
      refine O.val (v:=.bool false) hf rfl rfl rfl (RunV.not (b:=true) rfl) ?_
      clear hf a; intro a hf
      refine O.nil ?_
      refine k_seq ?_
      replace hf:Fr a 41 [] [(2,.slice none 0 0),(3,.int .i64 0),(7,vo),(8,.map (some b_m2)),(10,.pointer (some ⟨gr.blk,0,none⟩)),(22,.pointer (some ⟨b_r3,0,none⟩)),(24,.bool true),(30,.bool false)]:=hf.to ⟨rfl,rfl,rfl,rfl,rfl,rfl,rfl,rfl,trivial⟩
      refine W.if_ff hf rfl ?_
      refine W.skip ?_
      refine k_blk_normal ?_
      refine k_then ⟨(done,ts_++tt_,some (td,ptrV gr.blk),sk,os,vo),⟨hf.to ⟨rfl,rfl,(by first | rfl | exact congrArg some (congrArg (Value.int _) (by omega))),rfl,rfl,trivial⟩,?_,?_⟩,?_⟩
      · exact hS.eqM rfl
      · exact RunI.old (g:=gr) (p:=(td,ptrV gr.blk)) hR rfl hsk
      · dsimp only; rw [htd]; simp only [List.length_append,List.length_cons]; omega
    ·
      refine W.regionL (l:=[0,1,2,3]) rfl ?_
      refine O.val hf rfl rfl rfl (RunV.move rfl) ?_
      clear hf a; intro a hf
      refine O.val hf rfl rfl rfl (RunV.move rfl) ?_
      clear hf a; intro a hf
      refine O.val hf rfl rfl rfl (RunV.lookP (k:=gr.blk) (kvs:=sk) T_mapof_78 keyG (cells_of hS (i:=4) rfl _ hg) (RunI.good hR (cells_of hS (i:=4) rfl)) rfl rfl (hS.mpAt (j:=2) rfl) (by rw [hsk] <;> rfl)) ?_
      clear hf a; intro a hf
      refine O.val (v:=.bool true) hf rfl rfl rfl (RunV.not (b:=false) rfl) ?_
      clear hf a; intro a hf
      refine O.nil ?_
      refine k_seq ?_
      replace hf:Fr a 41 [] [(2,.slice none 0 0),(3,.int .i64 0),(7,vo),(8,.map (some b_m2)),(10,.pointer (some ⟨gr.blk,0,none⟩)),(22,.pointer (some ⟨b_r3,0,none⟩)),(24,.bool true),(30,.bool true)]:=hf.to ⟨rfl,rfl,rfl,rfl,rfl,rfl,rfl,rfl,trivial⟩
      refine W.if_tt hf rfl ?_
      refine W.seq ?_
      refine W.regionL (l:=[0,1,2]) rfl ?_
      refine O.val hf rfl rfl rfl (RunV.move rfl) ?_
      clear hf a; intro a hf
      refine O.val hf rfl rfl rfl (RunV.move rfl) ?_
      clear hf a; intro a hf
      refine O.putP (j:=2) (k:=gr.blk) (v:=(.bool true)) (kvs:=sk) (M':=[bigA (os.map obA),sl 46 6 vo os.length (encs eO os),mp ptrV b_m2 (setP gr.blk (.bool true) sk),rgA dV bm b_r3 kvs (ts_++tt_) (some (td,ptrV gr.blk)),bigA (gs.map (grA 95 24)),sl 4 1 uv us.length (bools us)]) hf hS rfl T_mapof_78 keyG (cells_of hS (i:=4) rfl _ hg) (RunI.good hR (cells_of hS (i:=4) rfl)) rfl rfl rfl rfl rfl ?_
      clear hS; intro w hS
      refine O.nil ?_
      refine k_seq ?_
      replace hf:Fr a 41 [] [(2,.slice none 0 0),(3,.int .i64 0),(7,vo),(8,.map (some b_m2)),(10,.pointer (some ⟨gr.blk,0,none⟩)),(22,.pointer (some ⟨b_r3,0,none⟩)),(24,.bool true),(30,.bool true)]:=hf.to ⟨rfl,rfl,rfl,rfl,rfl,rfl,rfl,rfl,trivial⟩
      refine W.regionL (l:=[0,1,2,3,4,5]) rfl ?_
      obtain ⟨rest,hpm⟩:=perm_of_mem hg
      have hgo:=grp_ok hm hI hg
      have hln:=Nat.le_trans hR.len (gs_len hm hI)
      replace hS:=hS.front (i:=4) (M':=[bigA (gs.map (grA 95 24)),bigA (os.map obA),sl 46 6 vo os.length (encs eO os),mp ptrV b_m2 (setP gr.blk (.bool true) sk),rgA dV bm b_r3 kvs (ts_++tt_) (some (td,ptrV gr.blk)),sl 4 1 uv us.length (bools us)]) rfl rfl
      replace hS:=hS.front (i:=3) (M':=[mp ptrV b_m2 (setP gr.blk (.bool true) sk),bigA (gs.map (grA 95 24)),bigA (os.map obA),sl 46 6 vo os.length (encs eO os),rgA dV bm b_r3 kvs (ts_++tt_) (some (td,ptrV gr.blk)),sl 4 1 uv us.length (bools us)]) rfl rfl
      replace hS:=St.grTake hS hpm
      replace hS:St w0 _ noX [ordA,rdv 12 vl l.length (encs eC l)] [mp ptrV b_m2 (setP gr.blk (.bool true) sk),pt gr.blk (.cells #[gr.v,.bool gr.num] 95 (0,0)),sl 24 5 gr.v gr.all.length (encs eD gr.all),bigA (rest.map (grA 95 24)),bigA (os.map obA),sl 46 6 vo os.length (encs eO os),rgA dV bm b_r3 kvs (ts_++tt_) (some (td,ptrV gr.blk)),sl 4 1 uv us.length (bools us)]:=hS
      refine O.val hf rfl rfl rfl (RunV.move rfl) ?_
      clear hf a; intro a hf
      refine O.val hf rfl rfl rfl (RunV.move rfl) ?_
      clear hf a; intro a hf
      refine O.callR hf rfl rfl rfl (RunE.call (av:=#[.pointer (some ⟨gr.blk,0,none⟩)]) C_ok_37 rfl rfl rfl) (object_spec gr.blk gr.v gr.num gr.all _ (hS.bptO (i:=0) rfl) (hS.lentAt (i:=1) rfl) (hS.slr (j:=2) rfl) (slOK.fit (hS.slAt (j:=2) rfl)) hgo.1 (by omega) hgo.2.1) ?_
      clear hf a
      rintro ov w5 hS1 a hf
      replace hf:Fr a _ _ ((35,.agg #[.int .i64 (((sortDs gr.all).getD 0 default).num),.int .i64 (((sortDs gr.all).getD 0 default).yr),.int .u8 (((sortDs gr.all).getD 0 default).half),.int .u8 (((sortDs gr.all).getD 0 default).sec),.int .i64 (((sortDs gr.all).getD 0 default).cyc),ov])::_):=hf
      replace hS:=(hS.call hS1).eqM (N:=[sl 24 5 ov ((sortDs gr.all).length) (encs eD (sortDs gr.all)),mp ptrV b_m2 (setP gr.blk (.bool true) sk),pt gr.blk (.cells #[gr.v,.bool gr.num] 95 (0,0)),sl 24 5 gr.v gr.all.length (encs eD gr.all),bigA (rest.map (grA 95 24)),bigA (os.map obA),sl 46 6 vo os.length (encs eO os),rgA dV bm b_r3 kvs (ts_++tt_) (some (td,ptrV gr.blk)),sl 4 1 uv us.length (bools us)]) rfl
      clear hS1
      obtain ⟨oa,om,oc,hov⟩:=slv_of (hS.slr (j:=0) rfl)
      obtain ⟨o,ho1,ho2,ho3⟩:∃ o:Ob,((sortDs gr.all).getD 0 default)=o.p∧sortDs gr.all=o.l∧ov=o.v:=⟨⟨((sortDs gr.all).getD 0 default),oa,om,oc,sortDs gr.all⟩,rfl,rfl,hov⟩
      rw [ho1,ho3] at hf; rw [ho2,ho3] at hS
      replace hS:St w0 _ noX [ordA,rdv 12 vl l.length (encs eC l)] [obA o,mp ptrV b_m2 (setP gr.blk (.bool true) sk),pt gr.blk (.cells #[gr.v,.bool gr.num] 95 (0,0)),sl 24 5 gr.v gr.all.length (encs eD gr.all),bigA (rest.map (grA 95 24)),bigA (os.map obA),sl 46 6 vo os.length (encs eO os),rgA dV bm b_r3 kvs (ts_++tt_) (some (td,ptrV gr.blk)),sl 4 1 uv us.length (bools us)]:=hS
      replace hf:Fr a _ _ ((35,.agg #[.int .i64 o.p.num,.int .i64 o.p.yr,.int .u8 o.p.half,.int .u8 o.p.sec,.int .i64 o.p.cyc,.slice o.ad o.n o.c])::_):=hf
      refine O.buildSlice (cs':=#[.int .i64 o.p.num,.int .i64 o.p.yr,.int .u8 o.p.half,.int .u8 o.p.sec,.int .i64 o.p.cyc,.slice o.ad o.n o.c]) (zs:=#[.int .i64 0,.int .i64 0,.int .u8 0,.int .u8 0,.int .i64 0,.slice none 0 0]) hf hS rfl rfl T_elem_39 T_size_46 T_zero_46 rfl rfl rfl rfl rfl ?_
      clear hf hS a; intro b_s6 w a hbb_s6 hS hf
      refine O.append1 (j:=7) (jj:=0) hf hS rfl rfl T_elem_39 T_size_46 T_bytes_46 T_zero_46 rfl rfl rfl rfl rfl rfl rfl rfl (by unfold maxLen; omega) (by omega) ?_
      clear hf hS a; intro v7 w a hS hf
      replace hS:=hS.eqM (N:=[pt b_s6 (.cells #[.int .i64 o.p.num,.int .i64 o.p.yr,.int .u8 o.p.half,.int .u8 o.p.sec,.int .i64 o.p.cyc,.slice o.ad o.n o.c] 46 (0,0)),obA o,mp ptrV b_m2 (setP gr.blk (.bool true) sk),pt gr.blk (.cells #[gr.v,.bool gr.num] 95 (0,0)),sl 24 5 gr.v gr.all.length (encs eD gr.all),bigA (rest.map (grA 95 24)),bigA (os.map obA),sl 46 6 v7 (os.length+1) (encs eO os++[.int .i64 o.p.num,.int .i64 o.p.yr,.int .u8 o.p.half,.int .u8 o.p.sec,.int .i64 o.p.cyc,.slice o.ad o.n o.c]),rgA dV bm b_r3 kvs (ts_++tt_) (some (td,ptrV gr.blk)),sl 4 1 uv us.length (bools us)]) rfl
      replace hS:=hS.reE (i:=7) (M':=[pt b_s6 (.cells #[.int .i64 o.p.num,.int .i64 o.p.yr,.int .u8 o.p.half,.int .u8 o.p.sec,.int .i64 o.p.cyc,.slice o.ad o.n o.c] 46 (0,0)),obA o,mp ptrV b_m2 (setP gr.blk (.bool true) sk),pt gr.blk (.cells #[gr.v,.bool gr.num] 95 (0,0)),sl 24 5 gr.v gr.all.length (encs eD gr.all),bigA (rest.map (grA 95 24)),bigA (os.map obA),sl 46 6 v7 ((os++[o]).length) (encs eO (os++[o])),rgA dV bm b_r3 kvs (ts_++tt_) (some (td,ptrV gr.blk)),sl 4 1 uv us.length (bools us)]) rfl (sl_snoc (enc:=eO) (l:=os) (x:=o)) rfl
      refine O.val hf rfl rfl rfl (RunV.assign rfl) ?_
      clear hf a; intro a hf
      refine O.nil ?_
      replace hS:=hS.front (i:=6) (M':=[bigA (os.map obA),pt b_s6 (.cells #[.int .i64 o.p.num,.int .i64 o.p.yr,.int .u8 o.p.half,.int .u8 o.p.sec,.int .i64 o.p.cyc,.slice o.ad o.n o.c] 46 (0,0)),obA o,mp ptrV b_m2 (setP gr.blk (.bool true) sk),pt gr.blk (.cells #[gr.v,.bool gr.num] 95 (0,0)),sl 24 5 gr.v gr.all.length (encs eD gr.all),bigA (rest.map (grA 95 24)),sl 46 6 v7 ((os++[o]).length) (encs eO (os++[o])),rgA dV bm b_r3 kvs (ts_++tt_) (some (td,ptrV gr.blk)),sl 4 1 uv us.length (bools us)]) rfl rfl
      replace hS:=hS.front (i:=2) (M':=[obA o,bigA (os.map obA),pt b_s6 (.cells #[.int .i64 o.p.num,.int .i64 o.p.yr,.int .u8 o.p.half,.int .u8 o.p.sec,.int .i64 o.p.cyc,.slice o.ad o.n o.c] 46 (0,0)),mp ptrV b_m2 (setP gr.blk (.bool true) sk),pt gr.blk (.cells #[gr.v,.bool gr.num] 95 (0,0)),sl 24 5 gr.v gr.all.length (encs eD gr.all),bigA (rest.map (grA 95 24)),sl 46 6 v7 ((os++[o]).length) (encs eO (os++[o])),rgA dV bm b_r3 kvs (ts_++tt_) (some (td,ptrV gr.blk)),sl 4 1 uv us.length (bools us)]) rfl rfl
      replace hS:=St.mapSnoc hS
      replace hS:St w0 _ noX [ordA,rdv 12 vl l.length (encs eC l)] [bigA ((os++[o]).map obA),pt b_s6 (.cells #[.int .i64 o.p.num,.int .i64 o.p.yr,.int .u8 o.p.half,.int .u8 o.p.sec,.int .i64 o.p.cyc,.slice o.ad o.n o.c] 46 (0,0)),mp ptrV b_m2 (setP gr.blk (.bool true) sk),pt gr.blk (.cells #[gr.v,.bool gr.num] 95 (0,0)),sl 24 5 gr.v gr.all.length (encs eD gr.all),bigA (rest.map (grA 95 24)),sl 46 6 v7 ((os++[o]).length) (encs eO (os++[o])),rgA dV bm b_r3 kvs (ts_++tt_) (some (td,ptrV gr.blk)),sl 4 1 uv us.length (bools us)]:=hS
      replace hS:=hS.front (i:=5) (M':=[bigA (rest.map (grA 95 24)),bigA ((os++[o]).map obA),pt b_s6 (.cells #[.int .i64 o.p.num,.int .i64 o.p.yr,.int .u8 o.p.half,.int .u8 o.p.sec,.int .i64 o.p.cyc,.slice o.ad o.n o.c] 46 (0,0)),mp ptrV b_m2 (setP gr.blk (.bool true) sk),pt gr.blk (.cells #[gr.v,.bool gr.num] 95 (0,0)),sl 24 5 gr.v gr.all.length (encs eD gr.all),sl 46 6 v7 ((os++[o]).length) (encs eO (os++[o])),rgA dV bm b_r3 kvs (ts_++tt_) (some (td,ptrV gr.blk)),sl 4 1 uv us.length (bools us)]) rfl rfl
      replace hS:=hS.front (i:=5) (M':=[sl 24 5 gr.v gr.all.length (encs eD gr.all),bigA (rest.map (grA 95 24)),bigA ((os++[o]).map obA),pt b_s6 (.cells #[.int .i64 o.p.num,.int .i64 o.p.yr,.int .u8 o.p.half,.int .u8 o.p.sec,.int .i64 o.p.cyc,.slice o.ad o.n o.c] 46 (0,0)),mp ptrV b_m2 (setP gr.blk (.bool true) sk),pt gr.blk (.cells #[gr.v,.bool gr.num] 95 (0,0)),sl 46 6 v7 ((os++[o]).length) (encs eO (os++[o])),rgA dV bm b_r3 kvs (ts_++tt_) (some (td,ptrV gr.blk)),sl 4 1 uv us.length (bools us)]) rfl rfl
      replace hS:=hS.front (i:=5) (M':=[pt gr.blk (.cells #[gr.v,.bool gr.num] 95 (0,0)),sl 24 5 gr.v gr.all.length (encs eD gr.all),bigA (rest.map (grA 95 24)),bigA ((os++[o]).map obA),pt b_s6 (.cells #[.int .i64 o.p.num,.int .i64 o.p.yr,.int .u8 o.p.half,.int .u8 o.p.sec,.int .i64 o.p.cyc,.slice o.ad o.n o.c] 46 (0,0)),mp ptrV b_m2 (setP gr.blk (.bool true) sk),sl 46 6 v7 ((os++[o]).length) (encs eO (os++[o])),rgA dV bm b_r3 kvs (ts_++tt_) (some (td,ptrV gr.blk)),sl 4 1 uv us.length (bools us)]) rfl rfl
      replace hS:=hS.front (i:=5) (M':=[mp ptrV b_m2 (setP gr.blk (.bool true) sk),pt gr.blk (.cells #[gr.v,.bool gr.num] 95 (0,0)),sl 24 5 gr.v gr.all.length (encs eD gr.all),bigA (rest.map (grA 95 24)),bigA ((os++[o]).map obA),pt b_s6 (.cells #[.int .i64 o.p.num,.int .i64 o.p.yr,.int .u8 o.p.half,.int .u8 o.p.sec,.int .i64 o.p.cyc,.slice o.ad o.n o.c] 46 (0,0)),sl 46 6 v7 ((os++[o]).length) (encs eO (os++[o])),rgA dV bm b_r3 kvs (ts_++tt_) (some (td,ptrV gr.blk)),sl 4 1 uv us.length (bools us)]) rfl rfl
      replace hS:=St.grBack hpm hS
      replace hS:St w0 _ noX [ordA,rdv 12 vl l.length (encs eC l)] [mp ptrV b_m2 (setP gr.blk (.bool true) sk),bigA (gs.map (grA 95 24)),bigA ((os++[o]).map obA),pt b_s6 (.cells #[.int .i64 o.p.num,.int .i64 o.p.yr,.int .u8 o.p.half,.int .u8 o.p.sec,.int .i64 o.p.cyc,.slice o.ad o.n o.c] 46 (0,0)),sl 46 6 v7 ((os++[o]).length) (encs eO (os++[o])),rgA dV bm b_r3 kvs (ts_++tt_) (some (td,ptrV gr.blk)),sl 4 1 uv us.length (bools us)]:=hS
      refine k_blk_normal ?_
      replace hS:=hS.front (i:=6) (M':=[sl 4 1 uv us.length (bools us),mp ptrV b_m2 (setP gr.blk (.bool true) sk),bigA (gs.map (grA 95 24)),bigA ((os++[o]).map obA),pt b_s6 (.cells #[.int .i64 o.p.num,.int .i64 o.p.yr,.int .u8 o.p.half,.int .u8 o.p.sec,.int .i64 o.p.cyc,.slice o.ad o.n o.c] 46 (0,0)),sl 46 6 v7 ((os++[o]).length) (encs eO (os++[o])),rgA dV bm b_r3 kvs (ts_++tt_) (some (td,ptrV gr.blk))]) rfl rfl
      replace hS:=hS.front (i:=2) (M':=[bigA (gs.map (grA 95 24)),sl 4 1 uv us.length (bools us),mp ptrV b_m2 (setP gr.blk (.bool true) sk),bigA ((os++[o]).map obA),pt b_s6 (.cells #[.int .i64 o.p.num,.int .i64 o.p.yr,.int .u8 o.p.half,.int .u8 o.p.sec,.int .i64 o.p.cyc,.slice o.ad o.n o.c] 46 (0,0)),sl 46 6 v7 ((os++[o]).length) (encs eO (os++[o])),rgA dV bm b_r3 kvs (ts_++tt_) (some (td,ptrV gr.blk))]) rfl rfl
      replace hS:=hS.front (i:=6) (M':=[rgA dV bm b_r3 kvs (ts_++tt_) (some (td,ptrV gr.blk)),bigA (gs.map (grA 95 24)),sl 4 1 uv us.length (bools us),mp ptrV b_m2 (setP gr.blk (.bool true) sk),bigA ((os++[o]).map obA),pt b_s6 (.cells #[.int .i64 o.p.num,.int .i64 o.p.yr,.int .u8 o.p.half,.int .u8 o.p.sec,.int .i64 o.p.cyc,.slice o.ad o.n o.c] 46 (0,0)),sl 46 6 v7 ((os++[o]).length) (encs eO (os++[o]))]) rfl rfl
      replace hS:=hS.front (i:=3) (M':=[mp ptrV b_m2 (setP gr.blk (.bool true) sk),rgA dV bm b_r3 kvs (ts_++tt_) (some (td,ptrV gr.blk)),bigA (gs.map (grA 95 24)),sl 4 1 uv us.length (bools us),bigA ((os++[o]).map obA),pt b_s6 (.cells #[.int .i64 o.p.num,.int .i64 o.p.yr,.int .u8 o.p.half,.int .u8 o.p.sec,.int .i64 o.p.cyc,.slice o.ad o.n o.c] 46 (0,0)),sl 46 6 v7 ((os++[o]).length) (encs eO (os++[o]))]) rfl rfl
      replace hS:=hS.front (i:=6) (M':=[sl 46 6 v7 ((os++[o]).length) (encs eO (os++[o])),mp ptrV b_m2 (setP gr.blk (.bool true) sk),rgA dV bm b_r3 kvs (ts_++tt_) (some (td,ptrV gr.blk)),bigA (gs.map (grA 95 24)),sl 4 1 uv us.length (bools us),bigA ((os++[o]).map obA),pt b_s6 (.cells #[.int .i64 o.p.num,.int .i64 o.p.yr,.int .u8 o.p.half,.int .u8 o.p.sec,.int .i64 o.p.cyc,.slice o.ad o.n o.c] 46 (0,0))]) rfl rfl
      replace hS:=hS.front (i:=5) (M':=[bigA ((os++[o]).map obA),sl 46 6 v7 ((os++[o]).length) (encs eO (os++[o])),mp ptrV b_m2 (setP gr.blk (.bool true) sk),rgA dV bm b_r3 kvs (ts_++tt_) (some (td,ptrV gr.blk)),bigA (gs.map (grA 95 24)),sl 4 1 uv us.length (bools us),pt b_s6 (.cells #[.int .i64 o.p.num,.int .i64 o.p.yr,.int .u8 o.p.half,.int .u8 o.p.sec,.int .i64 o.p.cyc,.slice o.ad o.n o.c] 46 (0,0))]) rfl rfl
      replace hS:=hS.sub (N:=[bigA ((os++[o]).map obA),sl 46 6 v7 ((os++[o]).length) (encs eO (os++[o])),mp ptrV b_m2 (setP gr.blk (.bool true) sk),rgA dV bm b_r3 kvs (ts_++tt_) (some (td,ptrV gr.blk)),bigA (gs.map (grA 95 24)),sl 4 1 uv us.length (bools us)]) (.cons_cons _ (.cons_cons _ (.cons_cons _ (.cons_cons _ (.cons_cons _ (.cons_cons _ (.cons _ .slnil)))))))
      refine k_then ⟨(done++[gr],ts_++tt_,some (td,ptrV gr.blk),setP gr.blk (.bool true) sk,os++[o],v7),⟨hf.to ⟨rfl,rfl,(by first | rfl | exact congrArg some (congrArg (Value.int _) (by omega))),rfl,rfl,trivial⟩,?_,?_⟩,?_⟩
      · exact hS.eqM rfl
      · exact RunI.new (g:=gr) (p:=(td,ptrV gr.blk)) hR hg rfl hsk (by unfold obOf; rw [ho1,ho2])
      · dsimp only; rw [htd]; simp only [List.length_append,List.length_cons]; omega
end Go.Proofs.YtgakdmmmljdpjaaDoor

namespace Go.SL
open Go
section
variable {r:Option Nat} {P:Program} {Q:Exit→Act→World→Prop} {ops:Array Oper} {i:Nat} {rest l:List Nat} {a:Act} {w w' w0:World} {n:Nat} {ds:List Deferred} {L:List (Nat × Value)}
  {d:Nat} {op:Op} {ty:TypeId} {v:Value} {y:Code} {id:Nat} {X:Nat→Prop} {B M N R:List Asr} {pp qq:Asr}
def mvk (L:List (Nat × Value)) (n:Nat):Option Oper→Option (Nat × Value)
  | some ⟨some d,.move x,_,_,_,none⟩=>match Nat.blt d n,ev L x with
    | true,some v=>some (d,v)
    | _,_=>none
  | some ⟨some d,.assign x,_,_,_,none⟩=>match Nat.blt d n,ev L x with
    | true,some v=>some (d,v)
    | _,_=>none
  | _=>none
def opk (n:Nat):Option Oper→Option (Nat × Op × TypeId)
  | some ⟨some d,op,ty,_,_,none⟩=>match noDefer op,Nat.blt d n with
    | true,true=>some (d,op,ty)
    | _,_=>none
  | _=>none
theorem ov (hf:Fr a n ds L) (h:opk n ops[i]? = some (d,op,ty)) (hr:RunV P n ds L op ty w v w') (k:∀ a',Fr a' n ds ((d,v)::L)→O r P ops Q rest a' w'):O r P ops Q (i::rest) a w:=by
  unfold opk at h
  split at h
  · split at h
    · cases h
      exact O.val hf (by assumption) (by assumption) (by assumption) hr k
    · cases h
  · cases h
class App (A B:List Asr) (C:outParam (List Asr)):Prop where
  eq:A++B=C
instance App.nil:App [] B B:=⟨rfl⟩
instance App.cons [h:App N B R]:App (pp::N) B (pp::R):=⟨congrArg (pp::·) h.eq⟩
theorem St.cl [h:App N M R] (hS:St w0 w X B M) (hc:St w w' noX [] N):St w0 w' X B R:=h.eq▸hS.call hc
class Del (i:Nat) (M:List Asr) (p:outParam Asr) (R:outParam (List Asr)):Prop where
  get:M[i]? = some p
  eq:M.eraseIdx i=R
instance Del.zero:Del 0 (pp::M) pp M:=⟨rfl,rfl⟩
instance Del.succ [h:Del i M pp R]:Del (i+1) (qq::M) pp (qq::R):=⟨h.get,congrArg (qq::·) h.eq⟩
theorem St.fr (hS:St w0 w X B M) (i:Nat) [h:Del i M pp R]:St w0 w X B (pp::R):=hS.front h.get (congrArg (pp::·) h.eq)
theorem bl {a b:Nat} (h:Nat.ble a b=true):a≤b:=Nat.le_of_ble_eq_true h
theorem St.p {b:Nat} {o:Obj} (h:St w0 w X B M) (i:Nat) (hi:M[i]? = some (pt b o)):w.heap[b]? = some o:=h.ptAt hi
theorem St.b {T:Type} {sz:Nat} {enc:T→List Value} {l:List T} (h:St w0 w X B M) (j:Nat) (hi:B[j]? = some (rdE sz enc v l)):rdEOK (hp w) sz enc v l:=h.rdB hi
theorem St.s {T:Type} {e sz:Nat} {enc:T→List Value} {l:List T} (h:St w0 w X B M) (j:Nat) (hi:M[j]? = some (slE e sz enc v l)):rdEOK (hp w) sz enc v l:=h.rdS hi
class Sel (bs:List Nat) (M:List Asr) (N:outParam (List Asr)):Prop where
  sub:N.Sublist M
instance Sel.nil:Sel [] M []:=⟨List.nil_sublist _⟩
instance Sel.one {bs:List Nat} [h:Sel bs M N]:Sel (1::bs) (pp::M) (pp::N):=⟨h.sub.cons_cons _⟩
instance Sel.zero {bs:List Nat} [h:Sel bs M N]:Sel (0::bs) (pp::M) N:=⟨h.sub.cons _⟩
theorem St.sl (hS:St w0 w X B M) (bs:List Nat) [h:Sel bs M N]:St w0 w X B N:=hS.sub h.sub
def pk (L:List (Nat × Value)):List (Nat × Value)→List (Nat × Value)
  | []=>[]
  | (k,_)::t=>match lk L k with
    | some v=>(k,v)::pk L t
    | none=>[]
theorem pk_subs:∀ {L':List (Nat × Value)},pk L L'=L'→Subs L L'
  | [],_=>trivial
  | (k,v)::t,h=>by
    simp only [pk] at h
    split at h
    · rename_i u hu
      simp only [List.cons.injEq,Prod.mk.injEq,true_and] at h
      exact ⟨h.1▸hu,pk_subs h.2⟩
    · cases h
theorem Fr.q {L':List (Nat × Value)} (h:Fr a n ds L) (e:pk L L'=L'):Fr a n ds L':=h.to (pk_subs e)
def gpk (n:Nat) (L:List (Nat × Value)) (ops:Array Oper):Option Oper→Option (Nat × Op × TypeId × Bool × Bool)
  | some ⟨some d,op,ty,_,_,some (jj,want)⟩=>match (ops[jj]?).bind (·.dst) with
    | some dj=>match lk L dj,noDefer op,Nat.blt d n with
      | some (.bool c),true,true=>some (d,op,ty,c,want)
      | _,_,_=>none
    | none=>none
  | _=>none
theorem sk {c want:Bool} (hf:Fr a n ds L) (h:gpk n L ops ops[i]? = some (d,op,ty,c,want)) (hc:c=!want) (k:∀ a',Fr a' n ds ((d,undef)::L)→O r P ops Q rest a' w):O r P ops Q (i::rest) a w:=by
  unfold gpk at h
  split at h
  · split at h
    · split at h
      · cases h
        exact O.skipB hf (by assumption) (by assumption) (by assumption) hc (by assumption) k
      · cases h
    · cases h
  · cases h
def clk (n:Nat) (L:List (Nat × Value)):Option Oper→Option (Nat × FuncId × Array Value)
  | some ⟨some d,.call ⟨.value f,args,_⟩,_,_,_,none⟩=>match Nat.blt d n,ev L f,evA L args.toList with
    | true,some (.func (.func fid) first captured),some vs=>some (d,fid,(first.toList++(vs++captured.toList)).toArray)
    | _,_,_=>none
  | _=>none
theorem oc {f:FuncId} {av:Array Value} {G:Type} {u:G→Value} {R:G→World→Prop} (hf:Fr a n ds L) (h:clk n L ops[i]? = some (d,f,av)) (hk:callOK P f=true) (hc:Ret P f av w u R)
    (k:∀ g w',R g w'→∀ a',Fr a' n ds ((d,u g)::L)→O r P ops Q rest a' w'):O r P ops Q (i::rest) a w:=by
  unfold clk at h
  split at h
  · split at h
    · cases h
      exact O.callR hf (by assumption) rfl (by assumption) (RunE.call hk (by assumption) (by assumption) (by apply Array.ext'; simp)) hc k
    · cases h
  · cases h
class SetA (j:Nat) (M:List Asr) (q:Asr) (M':outParam (List Asr)):Prop where
  eq:M.set j q=M'
instance SetA.zero:SetA 0 (pp::M) qq (qq::M):=⟨rfl⟩
instance SetA.succ {j:Nat} [h:SetA j M qq R]:SetA (j+1) (pp::M) qq (pp::R):=⟨congrArg (pp::·) h.eq⟩
end
end Go.SL

namespace Go.SL
open Go
section
variable {r:Option Nat} {P:Program} {ops:Array Oper} {i n:Nat} {ds:List Deferred} {L:List (Nat × Value)} {a:Act} {w:World}
end
end Go.SL

namespace Go.SL
open Go
section
variable {r:Option Nat} {P:Program} {ops:Array Oper} {Q:Exit→Act→World→Prop} {a:Act} {w w0:World} {n:Nat} {ds:List Deferred} {L:List (Nat × Value)} {X:Nat→Prop} {B M:List Asr}
end
section
variable {r:Option Nat} {P:Program} {ops:Array Oper} {Q:Exit→Act→World→Prop} {a:Act} {w w0:World} {n:Nat} {ds:List Deferred} {γ:Type} {X:Nat→Prop} {B M:List Asr}
theorem oj {T:Type} {x y:T} (h:some x=some y):x=y:=Option.some.inj h
def Lq (v:Nat→Value) (i:Nat) (l:List Nat) (N:Nat):List Value:=(List.range N).map fun j=>match Nat.beq j i||l.contains j with
  | true=>undef
  | false=>v j
end
end Go.SL

namespace Go.Proofs.YtgakdmmmljdpjaaDoor
open Go Go.SL
end Go.Proofs.YtgakdmmmljdpjaaDoor

namespace Go.SL
open Go
def allA (l:List Asr):Asr:=⟨fun b=>∃ p ∈ l,p.fp b,fun h=>∀ p ∈ l,p.holds h,fun h h' hk hh p hp=>p.loc h h' (fun b hb=>hk b ⟨p,hp,hb⟩) (hh p hp)⟩
def rdOb (o:Ob):Asr:=rdv 5 o.v o.l.length (encs eD o.l)
section
variable {w0 w:World} {X:Nat→Prop} {B M:List Asr} {i j:Nat} {os:List Ob} {o:Ob} {l:List Asr}
def obsRd (w:World) (os:List Ob):Prop:=∀ o ∈ os,rdOK (hp w) 5 o.v o.l.length (encs eD o.l)
theorem St.lendObs (hS:St w w noX B M) (h:obsRd w os):St w w noX (allA (os.map rdOb)::B) M :=
  hS.lendA ⟨fun p hp=>by
    obtain ⟨o,ho,rfl⟩:=List.mem_map.1 hp
    exact h o ho,fun b ⟨p,hp,hb⟩=>by
    obtain ⟨o,ho,rfl⟩:=List.mem_map.1 hp
    have h1:=h o ho
    have h2:St w w noX [rdv 5 o.v o.l.length (encs eD o.l)] []:=(St.refl w).lend0 h1
    exact ((h2.bor _ List.mem_cons_self).2 b hb).1⟩
theorem St.obAt (hS:St w0 w X B M) (hi:B[i]? = some (allA (os.map rdOb))):obsRd w os:=fun o ho=>by
  have h:(allA (os.map rdOb)).holds (hp w):=hS.bat hi
  exact h (rdOb o) (List.mem_map.2 ⟨o,ho,rfl⟩)
theorem slE_rd {h:Hp} {e sz:Nat} {enc:Dg→List Value} {v:Value} {l:List Dg} (hh:(slE e sz enc v l).holds h):rdOK h sz v l.length (encs enc l):=(show slOK h e sz v l.length (encs enc l) from hh).rd
theorem St.obOwn (hS:St w0 w X B M) (hi:M[i]? = some (bigA (os.map obA))):obsRd w os:=fun o ho=>by
  have h:(bigA (os.map obA)).holds (hp w):=hS.at_ hi
  have h1:(obA o).holds (hp w):=h.1 (obA o) (List.mem_map.2 ⟨o,ho,rfl⟩)
  exact slE_rd h1
theorem obsRd.at (h:obsRd w os) {k:Nat} (hk:k<os.length):rdOK (hp w) 5 (os.getD k default).v (os.getD k default).l.length (encs eD (os.getD k default).l) :=
  h _ (by rw [List.getD_eq_getElem?_getD,List.getElem?_eq_getElem hk]; exact List.getElem_mem _)
theorem obsRd.nil:obsRd w []:=fun o ho=>by cases ho
theorem obsRd.cons {t:List Ob} (h:rdOK (hp w) 5 o.v o.l.length (encs eD o.l)) (ht:obsRd w t):obsRd w (o::t):=fun x hx=>by
  rcases List.mem_cons.1 hx with rfl | hx
  · exact h
  · exact ht x hx
end
def nameD (c:Int):Dg:=⟨0,2026,87,c,0⟩
def numD:Dg:=⟨700001,0,0,0,0⟩
def givenL:List Ch:=[⟨1,nameD 65,default,0⟩,⟨1,nameD 66,default,0⟩,⟨2,nameD 65,nameD 66,0⟩,⟨3,nameD 66,numD,0⟩]
instance {T:Type} [DecidableEq T]:DecidableEq (Except Int T):=fun a b=>match a,b with
  | .error e,.error f=>if h:e=f then isTrue (h▸rfl) else isFalse (fun h2=>h (by injection h2))
  | .ok x,.ok y=>if h:x=y then isTrue (h▸rfl) else isFalse (fun h2=>h (by injection h2))
  | .error _,.ok _=>isFalse (fun h=>by cases h)
  | .ok _,.error _=>isFalse (fun h=>by cases h)
theorem given_hist:histM givenL=.ok ([([nameD 65,nameD 66,numD],true)],[false,false,false,false]):=by decide +kernel
theorem given_undo2:histM (givenL++[undoC 2])=.ok ([([nameD 66,numD],true),([nameD 65],false)],[false,false,true,false,false]):=by decide +kernel
theorem given_undo1:histM (givenL++[undoC 1])=.error 36:=by decide +kernel
theorem sortDs_eq {l s:List Dg} (hp:l.Perm s) (hs:s.Pairwise (fun x y=>ltD y x=false)):sortDs l=s:=by
  have h:=sorted_eq (l:=l.map fun d=>(d,[])) (s:=s.map fun d=>(d,[])) (fun x hx y hy he=>by
    obtain ⟨a,_,rfl⟩:=List.mem_map.1 hx
    obtain ⟨b,_,rfl⟩:=List.mem_map.1 hy
    exact Prod.ext he rfl) (hp.map _) (by
    rw [List.pairwise_map]
    exact hs.imp fun {a b} h=>by unfold leO; simp only [h]; rfl)
  have h2:=congrArg (List.map Prod.fst) h
  rw [List.map_mergeSort (r:=leO) (s:=fun x y=>!ltD y x) (f:=Prod.fst) (fun a _ b _=>rfl),List.map_map,List.map_map] at h2
  simpa [Function.comp_def,sortDs] using h2
theorem sort_given:sortDs [nameD 65,nameD 66,numD]=[numD,nameD 65,nameD 66]:=sortDs_eq (by decide +kernel) (by decide +kernel)
theorem sort_given2:sortDs [nameD 66,numD]=[numD,nameD 66]:=sortDs_eq (by decide +kernel) (by decide +kernel)
theorem sort_one (d:Dg):sortDs [d]=[d]:=List.mergeSort_singleton d
theorem objs_given:objsM [([nameD 65,nameD 66,numD],true)]=[(numD,[numD,nameD 65,nameD 66])]:=by
  unfold objsM
  rw [List.map_cons,List.map_nil,List.mergeSort_singleton]
  unfold objP
  rw [sort_given]
  rfl
theorem objs_given2:objsM [([nameD 66,numD],true),([nameD 65],false)]=[(numD,[numD,nameD 66]),(nameD 65,[nameD 65])]:=by
  unfold objsM
  rw [List.map_cons,List.map_cons,List.map_nil]
  unfold objP
  rw [sort_given2,sort_one]
  exact sorted_eq (by decide +kernel) (List.Perm.refl _) (by decide +kernel)
end Go.SL

namespace Go.SL
open Go
def greatM (n:Nat):Bool:=decide ((n:Int)>25)&&decide ((n:Int)≤500)||decide ((n:Int)>510)
section
variable {p q:Dg} {lp lq:List Dg} {k:Nat} {xs ys:List Ob}
theorem ext_getD {T:Type} [Inhabited T] {a b:List T} (hl:a.length=b.length) (h:∀ j,j<a.length→a.getD j default=b.getD j default):a=b:=by
  apply List.ext_getElem hl
  intro i h1 h2
  have:=h i h1
  simpa [List.getD_eq_getElem?_getD,List.getElem?_eq_getElem h1,List.getElem?_eq_getElem h2] using this
theorem sameO_1 (h:¬ p=q∨¬ (lp.length:Int)=(lq.length:Int)):decide (p=q∧lp=lq)=false:=decide_eq_false fun h2=>by
  rcases h with h | h
  · exact h h2.1
  · exact h (by rw [h2.2])
theorem sameO_2 (hk:k<lp.length) (h:¬ lp.getD k default=lq.getD k default):decide (p=q∧lp=lq)=false:=decide_eq_false fun h2=>h (by rw [h2.2])
theorem sameO_3 (h1:p=q) (h2:lp.length=lq.length) (h:∀ j,j<lp.length→lp.getD j default=lq.getD j default):decide (p=q∧lp=lq)=true:=decide_eq_true ⟨h1,ext_getD h2 h⟩
theorem same_1 (h:¬ (xs.length:Int)=(ys.length:Int)):decide (xs.map prO=ys.map prO)=false:=decide_eq_false fun h2=>h (by
  have:=congrArg List.length h2
  simp only [List.length_map] at this
  rw [this])
theorem prO_get {k:Nat}:(xs.map prO)[k]? = (xs[k]?).map prO:=by simp
theorem same_2 (hk:k<xs.length) (h:¬ ((xs.getD k default).p=(ys.getD k default).p∧(xs.getD k default).l=(ys.getD k default).l)):decide (xs.map prO=ys.map prO)=false:=decide_eq_false fun h2=>by
  have h3:ys.length=xs.length:=by simpa using (congrArg List.length h2).symm
  have h4:=congrArg (·[k]?) h2
  simp only [prO_get,List.getElem?_eq_getElem hk,List.getElem?_eq_getElem (show k<ys.length by omega),Option.map_some,Option.some.injEq] at h4
  refine h ?_
  simp only [List.getD_eq_getElem?_getD,List.getElem?_eq_getElem hk,List.getElem?_eq_getElem (show k<ys.length by omega),Option.getD_some]
  exact ⟨congrArg Prod.fst h4,congrArg Prod.snd h4⟩
theorem same_3 (h2:xs.length=ys.length) (h:∀ j,j<xs.length→prO (xs.getD j default)=prO (ys.getD j default)):decide (xs.map prO=ys.map prO)=true:=decide_eq_true (by
  apply List.ext_getElem (by simpa using h2)
  intro i h3 h4
  have h5:i<xs.length:=by simpa using h3
  have:=h i h5
  simpa [List.getD_eq_getElem?_getD,List.getElem?_eq_getElem h5,List.getElem?_eq_getElem (show i<ys.length by omega)] using this)
theorem same_4 {x y:Ob} (h:x.p=y.p∧x.l=y.l):prO x=prO y:=Prod.ext h.1 h.2
end
end Go.SL

namespace Go.Proofs.YtgakdmmmljdpjaaDoor
open Go Go.SL
theorem C_ok_20:callOK Tryd.prog 20=true:=by kernel_rfl
theorem C_ok_28:callOK Tryd.prog 28=true:=by kernel_rfl
theorem T_field_46_1:tField Tryd.prog 46 1=some 5:=by kernel_rfl
theorem T_places_26:tPlaces Tryd.prog 26=some #[(0,1),(1,5),(6,5),(11,1)]:=by kernel_rfl
set_option maxHeartbeats 400000 in
set_option maxRecDepth 4000 in
theorem named_spec (c:Int) (w0:World) :
    Ret Tryd.prog 28 #[.int .u8 c] w0 (G:=Unit) (fun _=>dV (nameD c)) (fun _ w=>St w0 w noX [] []):=by
  refine ret_of_W (lv:=[.int .u8 c]) Tryd.func28 rfl rfl rfl (fun a hf=>?_)
  replace hf:Fr a 5 [] [(0,.int .u8 c)]:=hf
  have hS:St w0 w0 noX [] []:=St.refl w0
  refine W.seq ?_
  refine W.regionL (l:=[0]) rfl ?_
  refine O.alloc (cs:=#[.int .i64 0,.int .i64 0,.int .u8 0,.int .u8 0,.int .i64 0]) hf hS rfl rfl T_zero_24 rfl ?_
  clear hf hS a; intro b_x1 w a hbb_x1 hS hf
  refine O.nil ?_
  refine k_seq ?_
  refine W.seq ?_
  refine W.regionL (l:=[0,1,2]) rfl ?_
  refine O.val hf rfl rfl rfl (RunV.move rfl) ?_
  clear hf a; intro a hf
  refine O.val hf rfl rfl rfl (RunV.buildS (cs':=#[.int .i64 0,.int .i64 2026,.int .u8 87,.int .u8 c,.int .i64 0]) T_places_24 T_zero_24 rfl rfl) ?_
  clear hf a; intro a hf
  refine O.store (j:=0) (cs':=#[.int .i64 0,.int .i64 2026,.int .u8 87,.int .u8 c,.int .i64 0]) (M':=[pt b_x1 (.cells #[.int .i64 0,.int .i64 2026,.int .u8 87,.int .u8 c,.int .i64 0] 24 (0,0))]) hf hS rfl rfl rfl T_size_24 rfl rfl rfl (Nat.le_of_ble_eq_true rfl) rfl rfl ?_
  clear hS; intro w hS
  refine O.nil ?_
  refine k_seq ?_
  replace hf:Fr a 5 [] [(2,.pointer (some ⟨b_x1,0,none⟩))]:=hf.to ⟨rfl,trivial⟩
  refine W.ret ?_
  refine post1 hf rfl (ResOK.cellN (cs':=#[.int .i64 0,.int .i64 2026,.int .u8 87,.int .u8 c,.int .i64 0]) rfl T_agg_24 T_size_24 (hS.ptAt (i:=0) rfl) (Nat.le_of_ble_eq_true rfl) rfl) ?_
  exact ⟨(),rfl,hS.sub (List.nil_sublist _) |>.noB⟩
set_option maxHeartbeats 400000 in
set_option maxRecDepth 4000 in
theorem given_spec (w0:World) :
    Ret Tryd.prog 30 #[] w0 (G:=Value) (fun g=>g) (fun g w=>St w0 w noX [] [slE 26 12 eC g givenL]):=by
  refine ret_of_W (lv:=[]) Tryd.func30 rfl rfl rfl (fun a hf=>?_)
  replace hf:Fr a 12 [] []:=hf
  have hS:St w0 w0 noX [] []:=St.refl w0
  refine W.seq ?_
  refine W.regionL (l:=[0]) rfl ?_
  refine O.val hf rfl rfl rfl (RunV.assign rfl) ?_
  clear hf a; intro a hf
  refine O.nil ?_
  refine k_seq ?_
  refine W.seq ?_
  refine W.regionL (l:=[0,1,2,3,4,5,6,7,8,9,10,11]) rfl ?_
  refine O.callR hf rfl rfl rfl (RunE.call (av:=#[.int .u8 65]) C_ok_28 rfl rfl rfl) (named_spec 65 _) ?_
  clear hf a
  rintro _ w1 hS1 a hf
  replace hf:Fr a _ _ ((1,.agg #[.int .i64 0,.int .i64 2026,.int .u8 87,.int .u8 65,.int .i64 0])::_):=hf
  replace hS:=(hS.call hS1).eqM (N:=[]) rfl
  clear hS1
  refine O.val hf rfl rfl rfl (RunV.buildS (cs':=#[.int .u8 1,.int .i64 0,.int .i64 2026,.int .u8 87,.int .u8 65,.int .i64 0,.int .i64 0,.int .i64 0,.int .u8 0,.int .u8 0,.int .i64 0,.int .i64 0]) T_places_26 T_zero_26 rfl (by kernel_rfl)) ?_
  clear hf a; intro a hf
  refine O.callR hf rfl rfl rfl (RunE.call (av:=#[.int .u8 66]) C_ok_28 rfl rfl rfl) (named_spec 66 _) ?_
  clear hf a
  rintro _ w2 hS1 a hf
  replace hf:Fr a _ _ ((3,.agg #[.int .i64 0,.int .i64 2026,.int .u8 87,.int .u8 66,.int .i64 0])::_):=hf
  replace hS:=(hS.call hS1).eqM (N:=[]) rfl
  clear hS1
  refine O.val hf rfl rfl rfl (RunV.buildS (cs':=#[.int .u8 1,.int .i64 0,.int .i64 2026,.int .u8 87,.int .u8 66,.int .i64 0,.int .i64 0,.int .i64 0,.int .u8 0,.int .u8 0,.int .i64 0,.int .i64 0]) T_places_26 T_zero_26 rfl (by kernel_rfl)) ?_
  clear hf a; intro a hf
  refine O.callR hf rfl rfl rfl (RunE.call (av:=#[.int .u8 65]) C_ok_28 rfl rfl rfl) (named_spec 65 _) ?_
  clear hf a
  rintro _ w3 hS1 a hf
  replace hf:Fr a _ _ ((5,.agg #[.int .i64 0,.int .i64 2026,.int .u8 87,.int .u8 65,.int .i64 0])::_):=hf
  replace hS:=(hS.call hS1).eqM (N:=[]) rfl
  clear hS1
  refine O.callR hf rfl rfl rfl (RunE.call (av:=#[.int .u8 66]) C_ok_28 rfl rfl rfl) (named_spec 66 _) ?_
  clear hf a
  rintro _ w4 hS1 a hf
  replace hf:Fr a _ _ ((6,.agg #[.int .i64 0,.int .i64 2026,.int .u8 87,.int .u8 66,.int .i64 0])::_):=hf
  replace hS:=(hS.call hS1).eqM (N:=[]) rfl
  clear hS1
  refine O.val hf rfl rfl rfl (RunV.buildS (cs':=#[.int .u8 2,.int .i64 0,.int .i64 2026,.int .u8 87,.int .u8 65,.int .i64 0,.int .i64 0,.int .i64 2026,.int .u8 87,.int .u8 66,.int .i64 0,.int .i64 0]) T_places_26 T_zero_26 rfl (by kernel_rfl)) ?_
  clear hf a; intro a hf
  refine O.callR hf rfl rfl rfl (RunE.call (av:=#[.int .u8 66]) C_ok_28 rfl rfl rfl) (named_spec 66 _) ?_
  clear hf a
  rintro _ w5 hS1 a hf
  replace hf:Fr a _ _ ((8,.agg #[.int .i64 0,.int .i64 2026,.int .u8 87,.int .u8 66,.int .i64 0])::_):=hf
  replace hS:=(hS.call hS1).eqM (N:=[]) rfl
  clear hS1
  refine O.val hf rfl rfl rfl (RunV.buildS (cs':=#[.int .i64 700001,.int .i64 0,.int .u8 0,.int .u8 0,.int .i64 0]) T_places_24 T_zero_24 rfl rfl) ?_
  clear hf a; intro a hf
  refine O.val hf rfl rfl rfl (RunV.buildS (cs':=#[.int .u8 3,.int .i64 0,.int .i64 2026,.int .u8 87,.int .u8 66,.int .i64 0,.int .i64 700001,.int .i64 0,.int .u8 0,.int .u8 0,.int .i64 0,.int .i64 0]) T_places_26 T_zero_26 rfl (by kernel_rfl)) ?_
  clear hf a; intro a hf
  refine O.buildSlice (cs':=#[.int .u8 1,.int .i64 0,.int .i64 2026,.int .u8 87,.int .u8 65,.int .i64 0,.int .i64 0,.int .i64 0,.int .u8 0,.int .u8 0,.int .i64 0,.int .i64 0,.int .u8 1,.int .i64 0,.int .i64 2026,.int .u8 87,.int .u8 66,.int .i64 0,.int .i64 0,.int .i64 0,.int .u8 0,.int .u8 0,.int .i64 0,.int .i64 0,.int .u8 2,.int .i64 0,.int .i64 2026,.int .u8 87,.int .u8 65,.int .i64 0,.int .i64 0,.int .i64 2026,.int .u8 87,.int .u8 66,.int .i64 0,.int .i64 0,.int .u8 3,.int .i64 0,.int .i64 2026,.int .u8 87,.int .u8 66,.int .i64 0,.int .i64 700001,.int .i64 0,.int .u8 0,.int .u8 0,.int .i64 0,.int .i64 0]) (zs:=#[.int .u8 0,.int .i64 0,.int .i64 0,.int .u8 0,.int .u8 0,.int .i64 0,.int .i64 0,.int .i64 0,.int .u8 0,.int .u8 0,.int .i64 0,.int .i64 0,.int .u8 0,.int .i64 0,.int .i64 0,.int .u8 0,.int .u8 0,.int .i64 0,.int .i64 0,.int .i64 0,.int .u8 0,.int .u8 0,.int .i64 0,.int .i64 0,.int .u8 0,.int .i64 0,.int .i64 0,.int .u8 0,.int .u8 0,.int .i64 0,.int .i64 0,.int .i64 0,.int .u8 0,.int .u8 0,.int .i64 0,.int .i64 0,.int .u8 0,.int .i64 0,.int .i64 0,.int .u8 0,.int .u8 0,.int .i64 0,.int .i64 0,.int .i64 0,.int .u8 0,.int .u8 0,.int .i64 0,.int .i64 0]) hf hS rfl rfl T_elem_22 T_size_26 T_zero_26 rfl rfl (by kernel_rfl) rfl (by kernel_rfl) ?_
  clear hf hS a; intro b_s6 w a hbb_s6 hS hf
  refine O.val hf rfl rfl rfl (RunV.assign rfl) ?_
  clear hf a; intro a hf
  refine O.nil ?_
  refine k_seq ?_
  replace hf:Fr a 12 [] [(0,.slice (some ⟨b_s6,0,none⟩) 4 4)]:=hf.to ⟨rfl,trivial⟩
  refine W.ret ?_
  refine post1 hf rfl (ResOK.tmp rfl) ?_
  replace hS:=hS.ptSl (j:=0) (n:=4) (sz:=12) (xs:=encs eC givenL) rfl (by unfold maxLen; omega) rfl rfl rfl
  exact ⟨_,rfl,(hS.sub (List.Sublist.cons_cons _ (List.nil_sublist _))).noB⟩
set_option maxHeartbeats 400000 in
set_option maxRecDepth 4000 in
theorem one_spec (ad:Option Addr) (c:Nat) (l:List Dg) (w0:World) (hl:rdOK (hp w0) 5 (.slice ad l.length c) l.length (encs eD l)) (hne:0<l.length) :
    Ret Tryd.prog 31 #[(.slice ad l.length c)] w0 (G:=Unit) (fun _=>oV (l.getD 0 default) (.slice ad l.length c)) (fun _ w=>St w0 w noX [] []):=by
  refine ret_of_W (lv:=[(.slice ad l.length c)]) Tryd.func31 rfl rfl rfl (fun a hf=>?_)
  replace hf:Fr a 8 [] [(0,(.slice ad l.length c))]:=hf
  have hS:St w0 w0 noX [rdv 5 (.slice ad l.length c) l.length (encs eD l)] []:=(St.refl w0).lend0 hl
  obtain ⟨pd,hpd⟩:∃ pd,pd=l.getD 0 default:=⟨_,rfl⟩
  refine W.seq ?_
  refine W.regionL (l:=[0]) rfl ?_
  refine O.alloc (cs:=#[.int .i64 0,.int .i64 0,.int .u8 0,.int .u8 0,.int .i64 0,.slice none 0 0]) hf hS rfl rfl T_zero_46 rfl ?_
  clear hf hS a; intro b_x1 w a hbb_x1 hS hf
  refine O.nil ?_
  refine k_seq ?_
  refine W.seq ?_
  refine W.regionL (l:=[0,1,2,3,4,5]) rfl ?_
  refine O.val hf rfl rfl rfl (RunV.move rfl) ?_
  clear hf a; intro a hf
  refine O.val hf rfl rfl rfl (RunV.ixV (j:=0) (m:=0) T_elem_35 T_size_24 rfl rfl (hS.rdAt (j:=0) rfl) rfl (by omega) rfl) ?_
  clear hf a; intro a hf
  refine O.val hf rfl rfl rfl (RunV.ldG (j:=0) (enc:=eD) (l:=l) (us:=eD pd) T_agg_24 T_size_24 rfl eD_len rfl (hS.rdAt (j:=0) rfl) (by omega) (by rw [hpd])) ?_
  clear hf a; intro a hf
  refine O.val hf rfl rfl rfl (RunV.move rfl) ?_
  clear hf a; intro a hf
  refine O.val hf rfl rfl rfl (RunV.buildS (cs':=#[.int .i64 pd.num,.int .i64 pd.yr,.int .u8 pd.half,.int .u8 pd.sec,.int .i64 pd.cyc,(.slice ad l.length c)]) T_places_46 T_zero_46 rfl rfl) ?_
  clear hf a; intro a hf
  refine O.store (j:=0) (cs':=#[.int .i64 pd.num,.int .i64 pd.yr,.int .u8 pd.half,.int .u8 pd.sec,.int .i64 pd.cyc,(.slice ad l.length c)]) (M':=[pt b_x1 (.cells #[.int .i64 pd.num,.int .i64 pd.yr,.int .u8 pd.half,.int .u8 pd.sec,.int .i64 pd.cyc,(.slice ad l.length c)] 46 (0,0))]) hf hS rfl rfl rfl T_size_46 rfl rfl rfl (Nat.le_of_ble_eq_true rfl) rfl rfl ?_
  clear hS; intro w hS
  refine O.nil ?_
  refine k_seq ?_
  replace hf:Fr a 8 [] [(2,.pointer (some ⟨b_x1,0,none⟩))]:=hf.to ⟨rfl,trivial⟩
  refine W.ret ?_
  refine post1 hf rfl (ResOK.cellN (cs':=#[.int .i64 pd.num,.int .i64 pd.yr,.int .u8 pd.half,.int .u8 pd.sec,.int .i64 pd.cyc,(.slice ad l.length c)]) rfl T_agg_46 T_size_46 (hS.ptAt (i:=0) rfl) (Nat.le_of_ble_eq_true rfl) rfl) ?_
  exact ⟨(),by rw [← hpd]; rfl,hS.sub (List.nil_sublist _) |>.noB⟩
set_option maxHeartbeats 400000 in
set_option maxRecDepth 4000 in
theorem sameObject_spec (p q:Dg) (v u:Value) (lp lq:List Dg) (w0:World) (h1:rdOK (hp w0) 5 v lp.length (encs eD lp)) (h2:rdOK (hp w0) 5 u lq.length (encs eD lq)) :
    Ret Tryd.prog 20 #[.agg #[.int .i64 p.num,.int .i64 p.yr,.int .u8 p.half,.int .u8 p.sec,.int .i64 p.cyc,v],.agg #[.int .i64 q.num,.int .i64 q.yr,.int .u8 q.half,.int .u8 q.sec,.int .i64 q.cyc,u]] w0 (G:=Unit) (fun _=>.bool (decide (p=q∧lp=lq))) (fun _ w=>St w0 w noX [] []):=by
  refine ret_of_W (lv:=[.agg #[.int .i64 p.num,.int .i64 p.yr,.int .u8 p.half,.int .u8 p.sec,.int .i64 p.cyc,v],.agg #[.int .i64 q.num,.int .i64 q.yr,.int .u8 q.half,.int .u8 q.sec,.int .i64 q.cyc,u]]) Tryd.func20 rfl rfl rfl (fun a hf=>?_)
  replace hf:Fr a 38 [] [(0,.agg #[.int .i64 p.num,.int .i64 p.yr,.int .u8 p.half,.int .u8 p.sec,.int .i64 p.cyc,v]),(1,.agg #[.int .i64 q.num,.int .i64 q.yr,.int .u8 q.half,.int .u8 q.sec,.int .i64 q.cyc,u])]:=hf
  have hS:St w0 w0 noX [rdv 5 v lp.length (encs eD lp),rdv 5 u lq.length (encs eD lq)] []:=((St.refl w0).lend0 h2).lend0 h1
  have hlm1:=h1.2.1
  have hlm2:=h2.2.1
  unfold maxLen at hlm1 hlm2
  clear h1 h2
  refine W.seq ?_
  refine W.regionL (l:=[0,1,2]) rfl ?_
  refine O.box (cs:=#[.int .i64 p.num,.int .i64 p.yr,.int .u8 p.half,.int .u8 p.sec,.int .i64 p.cyc,v]) hf hS rfl rfl rfl rfl ?_
  clear hf hS a; intro b_a1 w a hbb_a1 hS hf
  refine O.box (cs:=#[.int .i64 q.num,.int .i64 q.yr,.int .u8 q.half,.int .u8 q.sec,.int .i64 q.cyc,u]) hf hS rfl rfl rfl rfl ?_
  clear hf hS a; intro b_b2 w a hbb_b2 hS hf
  refine O.val hf rfl rfl rfl (RunV.assign rfl) ?_
  clear hf a; intro a hf
  refine O.nil ?_
  refine k_seq ?_
  replace hf:Fr a 38 [] [(2,.pointer (some ⟨b_a1,0,none⟩)),(3,.pointer (some ⟨b_b2,0,none⟩)),(4,.bool false)]:=hf.to ⟨rfl,rfl,rfl,trivial⟩
  refine W.seq ?_
  refine W.seq ?_
  refine W.regionL (l:=[0,1,2,3,4,5,6,7,8,9,10,11,12,13]) rfl ?_
  refine O.val hf rfl rfl rfl (RunV.field T_field_46_0 rfl rfl) ?_
  clear hf a; intro a hf
  refine O.val hf rfl rfl rfl (RunV.loadN (cs':=#[.int .i64 p.num,.int .i64 p.yr,.int .u8 p.half,.int .u8 p.sec,.int .i64 p.cyc]) T_agg_24 T_size_24 rfl (hS.ptAt (i:=1) rfl) (Nat.le_of_ble_eq_true rfl) rfl) ?_
  clear hf a; intro a hf
  refine O.val hf rfl rfl rfl (RunV.field T_field_46_0 rfl rfl) ?_
  clear hf a; intro a hf
  refine O.val hf rfl rfl rfl (RunV.loadN (cs':=#[.int .i64 q.num,.int .i64 q.yr,.int .u8 q.half,.int .u8 q.sec,.int .i64 q.cyc]) T_agg_24 T_size_24 rfl (hS.ptAt (i:=0) rfl) (Nat.le_of_ble_eq_true rfl) rfl) ?_
  clear hf a; intro a hf
  refine O.val hf rfl rfl rfl (neD rfl p q eqGuard24 rfl rfl) ?_
  clear hf a; intro a hf
  refine O.val hf rfl rfl rfl (RunV.move rfl) ?_
  clear hf a; intro a hf
  refine O.cutN (l₁:=[6,7,8,9,10,11,12,13]) (l₂:=_) (fun a w=>Fr a 38 [] [(2,.pointer (some ⟨b_a1,0,none⟩)),(3,.pointer (some ⟨b_b2,0,none⟩)),(4,.bool false),(6,.pointer (some ⟨b_a1,0,none⟩)),(7,.agg #[.int .i64 p.num,.int .i64 p.yr,.int .u8 p.half,.int .u8 p.sec,.int .i64 p.cyc]),(8,.pointer (some ⟨b_b2,0,none⟩)),(9,.agg #[.int .i64 q.num,.int .i64 q.yr,.int .u8 q.half,.int .u8 q.sec,.int .i64 q.cyc]),(10,.bool (!decide (p=q))),(11,.bool (!decide (p=q))),(19,.bool ((!decide (p=q))||(decide ((lp.length:Int)≠((lq.length:Int):Int)))))]∧St w0 w noX [rdv 5 v lp.length (encs eD lp),rdv 5 u lq.length (encs eD lq)] [pt b_b2 (.cells #[.int .i64 q.num,.int .i64 q.yr,.int .u8 q.half,.int .u8 q.sec,.int .i64 q.cyc,u] 46 (0,0)),pt b_a1 (.cells #[.int .i64 p.num,.int .i64 p.yr,.int .u8 p.half,.int .u8 p.sec,.int .i64 p.cyc,v] 46 (0,0))]) rfl ?_ ?_
  · rcases Bool.eq_false_or_eq_true (!decide (p=q)) with hb3 | hb3
    · have hb3p:=hb3
      try simp only [Bool.and_eq_true,Bool.or_eq_true,Bool.and_eq_false_iff,Bool.or_eq_false_iff,decide_eq_true_eq,decide_eq_false_iff_not,Bool.not_eq_true',Bool.not_eq_false',Bool.not_eq_true,Bool.not_eq_false,ne_eq] at hb3p
      refine O.skipB hf rfl rfl rfl hb3 rfl ?_; clear hf a; intro a hf
      refine O.skipB hf rfl rfl rfl hb3 rfl ?_; clear hf a; intro a hf
      refine O.skipB hf rfl rfl rfl hb3 rfl ?_; clear hf a; intro a hf
      refine O.skipB hf rfl rfl rfl hb3 rfl ?_; clear hf a; intro a hf
      refine O.skipB hf rfl rfl rfl hb3 rfl ?_; clear hf a; intro a hf
      refine O.skipB hf rfl rfl rfl hb3 rfl ?_; clear hf a; intro a hf
      refine O.skipB hf rfl rfl rfl hb3 rfl ?_; clear hf a; intro a hf
      refine O.val (v:=.bool ((!decide (p=q))||(decide ((lp.length:Int)≠((lq.length:Int):Int))))) hf rfl rfl rfl (RunV.pick rfl rfl rfl (by rw [hb3]; rfl)) ?_; clear hf a; intro a hf
      exact O.nil ⟨rfl,hf.to ⟨rfl,rfl,rfl,rfl,rfl,rfl,rfl,rfl,rfl,rfl,trivial⟩,hS⟩
    · have hb3p:=hb3
      try simp only [Bool.and_eq_true,Bool.or_eq_true,Bool.and_eq_false_iff,Bool.or_eq_false_iff,decide_eq_true_eq,decide_eq_false_iff_not,Bool.not_eq_true',Bool.not_eq_false',Bool.not_eq_true,Bool.not_eq_false,ne_eq] at hb3p
      refine O.gvalB (v:=.pointer (some ⟨b_a1,5,none⟩)) hf rfl rfl rfl hb3 rfl rfl (RunV.field T_field_46_1 rfl rfl) ?_
      clear hf a; intro a hf
      refine O.gvalB (v:=v) hf rfl rfl rfl hb3 rfl rfl (RunV.load1 T_agg_35 rfl (hS.ptAt (i:=1) rfl) rfl) ?_
      clear hf a; intro a hf
      refine O.gvalB (v:=.int .i64 (lp.length:Int)) hf rfl rfl rfl hb3 rfl rfl (RunV.lenV (e:=24) (by simpa using T_elem_35) rfl (hS.rdAt (j:=0) rfl)) ?_
      clear hf a; intro a hf
      refine O.gvalB (v:=.pointer (some ⟨b_b2,5,none⟩)) hf rfl rfl rfl hb3 rfl rfl (RunV.field T_field_46_1 rfl rfl) ?_
      clear hf a; intro a hf
      refine O.gvalB (v:=u) hf rfl rfl rfl hb3 rfl rfl (RunV.load1 T_agg_35 rfl (hS.ptAt (i:=0) rfl) rfl) ?_
      clear hf a; intro a hf
      refine O.gvalB (v:=.int .i64 (lq.length:Int)) hf rfl rfl rfl hb3 rfl rfl (RunV.lenV (e:=24) (by simpa using T_elem_35) rfl (hS.rdAt (j:=1) rfl)) ?_
      clear hf a; intro a hf
      refine O.gvalB (v:=.bool (decide ((lp.length:Int)≠((lq.length:Int):Int)))) hf rfl rfl rfl hb3 rfl rfl (RunV.neq rfl rfl) ?_
      clear hf a; intro a hf
      refine O.val (v:=.bool ((!decide (p=q))||(decide ((lp.length:Int)≠((lq.length:Int):Int))))) hf rfl rfl rfl (RunV.pick rfl rfl rfl (by rw [hb3]; rfl)) ?_; clear hf a; intro a hf
      exact O.nil ⟨rfl,hf.to ⟨rfl,rfl,rfl,rfl,rfl,rfl,rfl,rfl,rfl,rfl,trivial⟩,hS⟩
  clear hf hS a; rintro a w ⟨hf,hS⟩
  refine O.nil ?_
  refine k_seq ?_
  replace hf:Fr a 38 [] [(2,.pointer (some ⟨b_a1,0,none⟩)),(3,.pointer (some ⟨b_b2,0,none⟩)),(4,.bool false),(19,.bool ((!decide (p=q))||(decide ((lp.length:Int)≠((lq.length:Int):Int)))))]:=hf.to ⟨rfl,rfl,rfl,rfl,trivial⟩
  refine W.if_ hf rfl (fun hne=>?_) (fun hne=>?_)
  · have hneb:=hne
    try simp only [Bool.and_eq_true,Bool.or_eq_true,Bool.and_eq_false_iff,Bool.or_eq_false_iff,decide_eq_true_eq,decide_eq_false_iff_not,Bool.not_eq_true',Bool.not_eq_false',Bool.not_eq_true,Bool.not_eq_false,ne_eq] at hne
    refine W.seq ?_
    refine W.regionL (l:=[0]) rfl ?_
    refine O.val hf rfl rfl rfl (RunV.assign rfl) ?_
    clear hf a; intro a hf
    refine O.nil ?_
    refine k_seq ?_
    refine W.ret ?_
    refine k_then_ret ?_
    refine post1 hf rfl (ResOK.tmp rfl) ?_
    exact ⟨(),congrArg (fun b=>Ending.returned (Value.bool b)) (by first | exact (sameO_1 hne).symm | exact (sameO_2 (by omega) hd).symm),hS.sub (List.nil_sublist _) |>.noB⟩
  · have hneb:=hne
    try simp only [Bool.and_eq_true,Bool.or_eq_true,Bool.and_eq_false_iff,Bool.or_eq_false_iff,decide_eq_true_eq,decide_eq_false_iff_not,Bool.not_eq_true',Bool.not_eq_false',Bool.not_eq_true,Bool.not_eq_false,ne_eq] at hne
    refine W.skip ?_
    refine k_seq ?_
    refine W.seq ?_
    refine W.seq ?_
    refine W.regionL (l:=[0]) rfl ?_
    refine O.val hf rfl rfl rfl (RunV.assign rfl) ?_
    clear hf a; intro a hf
    refine O.nil ?_
    refine k_seq ?_
    refine W.block ?_
    refine W.loop (G:=(Nat)) (fun g a w=>match g with | k=>Fr a 38 [] [(2,.pointer (some ⟨b_a1,0,none⟩)),(3,.pointer (some ⟨b_b2,0,none⟩)),(5,.int .i64 (k:Int))]∧St w0 w noX [rdv 5 v lp.length (encs eD lp),rdv 5 u lq.length (encs eD lq)] [pt b_b2 (.cells #[.int .i64 q.num,.int .i64 q.yr,.int .u8 q.half,.int .u8 q.sec,.int .i64 q.cyc,u] 46 (0,0)),pt b_a1 (.cells #[.int .i64 p.num,.int .i64 p.yr,.int .u8 p.half,.int .u8 p.sec,.int .i64 p.cyc,v] 46 (0,0))]∧(k≤lp.length)∧(∀ j,j<k→lp.getD j default=lq.getD j default)) (fun g=>match g with | k=>lp.length-k) 0 ?_ ?_
    · refine ⟨hf.to ⟨rfl,rfl,(by first | rfl | exact congrArg some (congrArg (Value.int _) (by omega))),trivial⟩,hS,?_,?_⟩
      · omega
      · intro j hj; omega
    clear hf hS a
    rintro k a w ⟨hf,hS,hk,h2⟩
    refine W.seq ?_
    refine W.seq ?_
    refine W.regionL (l:=[0,1,2,3,4]) rfl ?_
    refine O.val hf rfl rfl rfl (RunV.move rfl) ?_
    clear hf a; intro a hf
    refine O.val hf rfl rfl rfl (RunV.field T_field_46_1 rfl rfl) ?_
    clear hf a; intro a hf
    refine O.val hf rfl rfl rfl (RunV.load1 T_agg_35 rfl (hS.ptAt (i:=1) rfl) rfl) ?_
    clear hf a; intro a hf
    refine O.val hf rfl rfl rfl (RunV.lenV (e:=24) (by simpa using T_elem_35) rfl (hS.rdAt (j:=0) rfl)) ?_
    clear hf a; intro a hf
    refine O.val (v:=.bool (decide ((k:Int)<((lp.length:Int):Int)))) hf rfl rfl rfl (RunV.lss rfl rfl) ?_
    clear hf a; intro a hf
    refine O.nil ?_
    refine k_seq ?_
    replace hf:Fr a 38 [] [(2,.pointer (some ⟨b_a1,0,none⟩)),(3,.pointer (some ⟨b_b2,0,none⟩)),(5,.int .i64 (k:Int)),(24,.bool (decide ((k:Int)<((lp.length:Int):Int))))]:=hf.to ⟨rfl,rfl,rfl,rfl,trivial⟩
    refine W.ifdI hf rfl (fun hlt=>?_) (fun hlt=>?_)
    · refine W.skip ?_
      refine k_seq ?_
      refine W.seq ?_
      refine W.block ?_
      refine W.seq ?_
      refine W.drawQ (fun w=>St w0 w noX [rdv 5 v lp.length (encs eD lp),rdv 5 u lq.length (encs eD lq)] [pt b_b2 (.cells #[.int .i64 q.num,.int .i64 q.yr,.int .u8 q.half,.int .u8 q.sec,.int .i64 q.cyc,u] 46 (0,0)),pt b_a1 (.cells #[.int .i64 p.num,.int .i64 p.yr,.int .u8 p.half,.int .u8 p.sec,.int .i64 p.cyc,v] 46 (0,0))]) P_mixed rfl (by kernel_rfl) rfl hS.drew ?_
      clear hS
      refine OQ.val (v:=.pointer (some ⟨b_a1,5,none⟩)) hf rfl (fun w hS=>RunV.field T_field_46_1 rfl rfl) ?_; clear hf a; intro a hf
      refine OQ.val (v:=v) hf rfl (fun w hS=>RunV.load1 T_agg_35 rfl (hS.ptAt (i:=1) rfl) rfl) ?_; clear hf a; intro a hf
      refine OQ.val (v:=.int .i64 (k:Int)) hf rfl (fun w hS=>RunV.move rfl) ?_; clear hf a; intro a hf
      refine OQ.val (v:=ix v (k*5)) hf rfl (fun w hS=>RunV.ixV (j:=k) (m:=k*5) T_elem_35 T_size_24 rfl rfl (hS.rdAt (j:=0) rfl) rfl (by omega) rfl) ?_; clear hf a; intro a hf
      refine OQ.val (v:=.agg #[.int .i64 ((lp.getD k default).num),.int .i64 ((lp.getD k default).yr),.int .u8 ((lp.getD k default).half),.int .u8 ((lp.getD k default).sec),.int .i64 ((lp.getD k default).cyc)]) hf rfl (fun w hS=>RunV.ldG (j:=k) (enc:=eD) (l:=lp) (us:=[.int .i64 ((lp.getD k default).num),.int .i64 ((lp.getD k default).yr),.int .u8 ((lp.getD k default).half),.int .u8 ((lp.getD k default).sec),.int .i64 ((lp.getD k default).cyc)]) T_agg_24 T_size_24 rfl eD_len rfl (hS.rdAt (j:=0) rfl) (by omega) rfl) ?_; clear hf a; intro a hf
      refine OQ.val (v:=.pointer (some ⟨b_b2,5,none⟩)) hf rfl (fun w hS=>RunV.field T_field_46_1 rfl rfl) ?_; clear hf a; intro a hf
      refine OQ.val (v:=u) hf rfl (fun w hS=>RunV.load1 T_agg_35 rfl (hS.ptAt (i:=0) rfl) rfl) ?_; clear hf a; intro a hf
      refine OQ.val (v:=.int .i64 (k:Int)) hf rfl (fun w hS=>RunV.move rfl) ?_; clear hf a; intro a hf
      refine OQ.val (v:=ix u (k*5)) hf rfl (fun w hS=>RunV.ixV (j:=k) (m:=k*5) T_elem_35 T_size_24 rfl rfl (hS.rdAt (j:=1) rfl) rfl (by omega) rfl) ?_; clear hf a; intro a hf
      refine OQ.val (v:=.agg #[.int .i64 ((lq.getD k default).num),.int .i64 ((lq.getD k default).yr),.int .u8 ((lq.getD k default).half),.int .u8 ((lq.getD k default).sec),.int .i64 ((lq.getD k default).cyc)]) hf rfl (fun w hS=>RunV.ldG (j:=k) (enc:=eD) (l:=lq) (us:=[.int .i64 ((lq.getD k default).num),.int .i64 ((lq.getD k default).yr),.int .u8 ((lq.getD k default).half),.int .u8 ((lq.getD k default).sec),.int .i64 ((lq.getD k default).cyc)]) T_agg_24 T_size_24 rfl eD_len rfl (hS.rdAt (j:=1) rfl) (by omega) rfl) ?_; clear hf a; intro a hf
      refine OQ.val (v:=.bool (!decide ((lp.getD k default)=(lq.getD k default)))) hf rfl (fun w hS=>neD rfl (lp.getD k default) (lq.getD k default) eqGuard24 rfl rfl) ?_; clear hf a; intro a hf
      refine OQ.nil ?_; intro w hS
      refine k_seq ?_
      replace hf:Fr a 38 [] [(2,.pointer (some ⟨b_a1,0,none⟩)),(3,.pointer (some ⟨b_b2,0,none⟩)),(5,.int .i64 (k:Int)),(37,.bool (!decide ((lp.getD k default)=(lq.getD k default))))]:=hf.to ⟨rfl,rfl,rfl,rfl,trivial⟩
      refine W.if_ hf rfl (fun hd=>?_) (fun hd=>?_)
      · have hdb:=hd
        try simp only [Bool.and_eq_true,Bool.or_eq_true,Bool.and_eq_false_iff,Bool.or_eq_false_iff,decide_eq_true_eq,decide_eq_false_iff_not,Bool.not_eq_true',Bool.not_eq_false',Bool.not_eq_true,Bool.not_eq_false,ne_eq] at hd
        refine W.seq ?_
        refine W.regionL (l:=[0]) rfl ?_
        refine O.val hf rfl rfl rfl (RunV.assign rfl) ?_
        clear hf a; intro a hf
        refine O.nil ?_
        refine k_seq ?_
        refine W.ret ?_
        refine k_blk_ret ?_
        refine k_then_ret ?_
        refine k_then_ret ?_
        refine k_blk_ret ?_
        refine k_then_ret ?_
        refine post1 hf rfl (ResOK.tmp rfl) ?_
        exact ⟨(),congrArg (fun b=>Ending.returned (Value.bool b)) (by first | exact (sameO_1 hne).symm | exact (sameO_2 (by omega) hd).symm),hS.sub (List.nil_sublist _) |>.noB⟩
      · have hdb:=hd
        try simp only [Bool.and_eq_true,Bool.or_eq_true,Bool.and_eq_false_iff,Bool.or_eq_false_iff,decide_eq_true_eq,decide_eq_false_iff_not,Bool.not_eq_true',Bool.not_eq_false',Bool.not_eq_true,Bool.not_eq_false,ne_eq] at hd
        refine W.skip ?_
        refine k_blk_normal ?_
        refine k_seq ?_
        refine W.regionL (l:=[0,1,2]) rfl ?_
        refine O.val hf rfl rfl rfl (RunV.move rfl) ?_
        clear hf a; intro a hf
        refine O.val hf rfl rfl rfl (RunV.addI rfl rfl (by omega)) ?_
        clear hf a; intro a hf
        refine O.val hf rfl rfl rfl (RunV.assign rfl) ?_
        clear hf a; intro a hf
        refine O.nil ?_
        refine k_then ⟨(k+1),⟨hf.to ⟨rfl,rfl,(by first | rfl | exact congrArg some (congrArg (Value.int _) (by omega))),trivial⟩,?_,?_,?_⟩,?_⟩
        · exact hS.eqM rfl
        · omega
        · intro j hj; by_cases hjk:j<k
          · exact h2 j hjk
          · have:j=k:=by omega
            subst this; exact hd
        · dsimp only; omega
    · refine W.exit ?_
      refine k_then_exit ?_
      refine k_then_exit ?_
      refine k_blk ?_
      refine k_seq ?_
      replace hf:Fr a 38 [] []:=hf.to trivial
      refine W.seq ?_
      refine W.regionL (l:=[0]) rfl ?_
      refine O.val hf rfl rfl rfl (RunV.assign rfl) ?_
      clear hf a; intro a hf
      refine O.nil ?_
      refine k_seq ?_
      refine W.ret ?_
      refine post1 hf rfl (ResOK.tmp rfl) ?_
      exact ⟨(),congrArg (fun b=>Ending.returned (Value.bool b)) (sameO_3 hne.1 (by omega) (fun j hj=>h2 j (by omega))).symm,hS.sub (List.nil_sublist _) |>.noB⟩
set_option maxHeartbeats 400000 in
set_option maxRecDepth 4000 in
theorem same_spec (va:Value) (xs:List Ob) (vb:Value) (ys:List Ob) (w0:World) (ha:rdOK (hp w0) 6 va xs.length (encs eO xs)) (hb:rdOK (hp w0) 6 vb ys.length (encs eO ys)) (hx:obsRd w0 xs) (hy:obsRd w0 ys) :
    Ret Tryd.prog 17 #[va,vb] w0 (G:=Unit) (fun _=>.bool (decide (xs.map prO=ys.map prO))) (fun _ w=>St w0 w noX [] []):=by
  refine ret_of_W (lv:=[va,vb]) Tryd.func17 rfl rfl rfl (fun a hf=>?_)
  replace hf:Fr a 27 [] [(0,va),(1,vb)]:=hf
  have hS:St w0 w0 noX [rdv 6 va xs.length (encs eO xs),rdv 6 vb ys.length (encs eO ys),allA (xs.map rdOb),allA (ys.map rdOb)] []:=((((St.refl w0).lendObs hy).lendObs hx).lend0 hb).lend0 ha
  have hlm1:=ha.2.1
  have hlm2:=hb.2.1
  unfold maxLen at hlm1 hlm2
  clear ha hb hx hy
  refine W.seq ?_
  refine W.regionL (l:=[0]) rfl ?_
  refine O.val hf rfl rfl rfl (RunV.assign rfl) ?_
  clear hf a; intro a hf
  refine O.nil ?_
  refine k_seq ?_
  refine W.seq ?_
  refine W.seq ?_
  refine W.regionL (l:=[0,1,2,3,4]) rfl ?_
  refine O.val hf rfl rfl rfl (RunV.move rfl) ?_
  clear hf a; intro a hf
  refine O.val hf rfl rfl rfl (RunV.lenV (e:=46) (by simpa using T_elem_39) rfl (hS.rdAt (j:=0) rfl)) ?_
  clear hf a; intro a hf
  refine O.val hf rfl rfl rfl (RunV.move rfl) ?_
  clear hf a; intro a hf
  refine O.val hf rfl rfl rfl (RunV.lenV (e:=46) (by simpa using T_elem_39) rfl (hS.rdAt (j:=1) rfl)) ?_
  clear hf a; intro a hf
  refine O.val (v:=.bool (decide ((xs.length:Int)≠((ys.length:Int):Int)))) hf rfl rfl rfl (RunV.neq rfl rfl) ?_
  clear hf a; intro a hf
  refine O.nil ?_
  refine k_seq ?_
  replace hf:Fr a 27 [] [(0,va),(1,vb),(4,.bool false),(10,.bool (decide ((xs.length:Int)≠((ys.length:Int):Int))))]:=hf.to ⟨rfl,rfl,rfl,rfl,trivial⟩
  refine W.ifdI hf rfl (fun hne=>?_) (fun hne=>?_)
  · refine W.seq ?_
    refine W.regionL (l:=[0]) rfl ?_
    refine O.val hf rfl rfl rfl (RunV.assign rfl) ?_
    clear hf a; intro a hf
    refine O.nil ?_
    refine k_seq ?_
    refine W.ret ?_
    refine k_then_ret ?_
    refine post1 hf rfl (ResOK.tmp rfl) ?_
    exact ⟨(),congrArg (fun b=>Ending.returned (Value.bool b)) (by first | exact (same_1 hne).symm | exact (same_2 (by omega) hd).symm),hS.sub (List.nil_sublist _) |>.noB⟩
  · refine W.skip ?_
    refine k_seq ?_
    refine W.seq ?_
    refine W.seq ?_
    refine W.regionL (l:=[0]) rfl ?_
    refine O.val hf rfl rfl rfl (RunV.assign rfl) ?_
    clear hf a; intro a hf
    refine O.nil ?_
    refine k_seq ?_
    refine W.block ?_
    refine W.loop (G:=(Nat)) (fun g a w=>match g with | k=>Fr a 27 [] [(0,va),(1,vb),(5,.int .i64 (k:Int))]∧St w0 w noX [rdv 6 va xs.length (encs eO xs),rdv 6 vb ys.length (encs eO ys),allA (xs.map rdOb),allA (ys.map rdOb)] []∧(k≤xs.length)∧(∀ j,j<k→prO (xs.getD j default)=prO (ys.getD j default))) (fun g=>match g with | k=>xs.length-k) 0 ?_ ?_
    · refine ⟨hf.to ⟨rfl,rfl,(by first | rfl | exact congrArg some (congrArg (Value.int _) (by omega))),trivial⟩,hS,?_,?_⟩
      · omega
      · intro j hj; omega
    clear hf hS a
    rintro k a w ⟨hf,hS,hk,h2⟩
    refine W.seq ?_
    refine W.seq ?_
    refine W.regionL (l:=[0,1,2,3]) rfl ?_
    refine O.val hf rfl rfl rfl (RunV.move rfl) ?_
    clear hf a; intro a hf
    refine O.val hf rfl rfl rfl (RunV.move rfl) ?_
    clear hf a; intro a hf
    refine O.val hf rfl rfl rfl (RunV.lenV (e:=46) (by simpa using T_elem_39) rfl (hS.rdAt (j:=0) rfl)) ?_
    clear hf a; intro a hf
    refine O.val (v:=.bool (decide ((k:Int)<((xs.length:Int):Int)))) hf rfl rfl rfl (RunV.lss rfl rfl) ?_
    clear hf a; intro a hf
    refine O.nil ?_
    refine k_seq ?_
    replace hf:Fr a 27 [] [(0,va),(1,vb),(5,.int .i64 (k:Int)),(14,.bool (decide ((k:Int)<((xs.length:Int):Int))))]:=hf.to ⟨rfl,rfl,rfl,rfl,trivial⟩
    refine W.ifdI hf rfl (fun hlt=>?_) (fun hlt=>?_)
    · refine W.skip ?_
      refine k_seq ?_
      refine W.seq ?_
      refine W.block ?_
      refine W.seq ?_
      refine W.drawQ (fun w=>St w0 w noX [rdv 6 va xs.length (encs eO xs),rdv 6 vb ys.length (encs eO ys),allA (xs.map rdOb),allA (ys.map rdOb)] []) P_mixed rfl (by kernel_rfl) rfl hS.drew ?_
      clear hS
      refine OQ.val (v:=va) hf rfl (fun w hS=>RunV.move rfl) ?_; clear hf a; intro a hf
      refine OQ.val (v:=.int .i64 (k:Int)) hf rfl (fun w hS=>RunV.move rfl) ?_; clear hf a; intro a hf
      refine OQ.val (v:=ix va (k*6)) hf rfl (fun w hS=>RunV.ixV (j:=k) (m:=k*6) T_elem_39 T_size_46 rfl rfl (hS.rdAt (j:=0) rfl) rfl (by omega) rfl) ?_; clear hf a; intro a hf
      refine OQ.val (v:=.agg #[.int .i64 ((xs.getD k default).p.num),.int .i64 ((xs.getD k default).p.yr),.int .u8 ((xs.getD k default).p.half),.int .u8 ((xs.getD k default).p.sec),.int .i64 ((xs.getD k default).p.cyc),(xs.getD k default).v]) hf rfl (fun w hS=>RunV.ldG (j:=k) (enc:=eO) (l:=xs) (us:=[.int .i64 ((xs.getD k default).p.num),.int .i64 ((xs.getD k default).p.yr),.int .u8 ((xs.getD k default).p.half),.int .u8 ((xs.getD k default).p.sec),.int .i64 ((xs.getD k default).p.cyc),(xs.getD k default).v]) T_agg_46 T_size_46 rfl eO_len rfl (hS.rdAt (j:=0) rfl) (by omega) rfl) ?_; clear hf a; intro a hf
      refine OQ.val (v:=vb) hf rfl (fun w hS=>RunV.move rfl) ?_; clear hf a; intro a hf
      refine OQ.val (v:=.int .i64 (k:Int)) hf rfl (fun w hS=>RunV.move rfl) ?_; clear hf a; intro a hf
      refine OQ.val (v:=ix vb (k*6)) hf rfl (fun w hS=>RunV.ixV (j:=k) (m:=k*6) T_elem_39 T_size_46 rfl rfl (hS.rdAt (j:=1) rfl) rfl (by omega) rfl) ?_; clear hf a; intro a hf
      refine OQ.val (v:=.agg #[.int .i64 ((ys.getD k default).p.num),.int .i64 ((ys.getD k default).p.yr),.int .u8 ((ys.getD k default).p.half),.int .u8 ((ys.getD k default).p.sec),.int .i64 ((ys.getD k default).p.cyc),(ys.getD k default).v]) hf rfl (fun w hS=>RunV.ldG (j:=k) (enc:=eO) (l:=ys) (us:=[.int .i64 ((ys.getD k default).p.num),.int .i64 ((ys.getD k default).p.yr),.int .u8 ((ys.getD k default).p.half),.int .u8 ((ys.getD k default).p.sec),.int .i64 ((ys.getD k default).p.cyc),(ys.getD k default).v]) T_agg_46 T_size_46 rfl eO_len rfl (hS.rdAt (j:=1) rfl) (by omega) rfl) ?_; clear hf a; intro a hf
      refine OQ.callRq (v:=.bool (decide ((xs.getD k default).p=(ys.getD k default).p∧(xs.getD k default).l=(ys.getD k default).l))) hf rfl (fun w hS=>RunE.call (av:=#[.agg #[.int .i64 ((xs.getD k default).p.num),.int .i64 ((xs.getD k default).p.yr),.int .u8 ((xs.getD k default).p.half),.int .u8 ((xs.getD k default).p.sec),.int .i64 ((xs.getD k default).p.cyc),(xs.getD k default).v],.agg #[.int .i64 ((ys.getD k default).p.num),.int .i64 ((ys.getD k default).p.yr),.int .u8 ((ys.getD k default).p.half),.int .u8 ((ys.getD k default).p.sec),.int .i64 ((ys.getD k default).p.cyc),(ys.getD k default).v]]) C_ok_20 rfl rfl rfl) (fun w hS=>sameObject_spec (xs.getD k default).p (ys.getD k default).p (xs.getD k default).v (ys.getD k default).v (xs.getD k default).l (ys.getD k default).l _ ((hS.obAt (i:=2) rfl).at (by omega)) ((hS.obAt (i:=3) rfl).at (by omega))) ?_; clear hf a; intro a hf
      refine OQ.val (v:=.bool (!(decide ((xs.getD k default).p=(ys.getD k default).p∧(xs.getD k default).l=(ys.getD k default).l)))) hf rfl (fun w hS=>RunV.not rfl) ?_; clear hf a; intro a hf
      refine OQ.nil ?_; intro w hS
      refine k_seq ?_
      replace hf:Fr a 27 [] [(0,va),(1,vb),(5,.int .i64 (k:Int)),(26,.bool (!(decide ((xs.getD k default).p=(ys.getD k default).p∧(xs.getD k default).l=(ys.getD k default).l))))]:=hf.to ⟨rfl,rfl,rfl,rfl,trivial⟩
      refine W.if_ hf rfl (fun hd=>?_) (fun hd=>?_)
      · have hdb:=hd
        try simp only [Bool.and_eq_true,Bool.or_eq_true,Bool.and_eq_false_iff,Bool.or_eq_false_iff,decide_eq_true_eq,decide_eq_false_iff_not,Bool.not_eq_true',Bool.not_eq_false',Bool.not_eq_true,Bool.not_eq_false,ne_eq] at hd
        refine W.seq ?_
        refine W.regionL (l:=[0]) rfl ?_
        refine O.val hf rfl rfl rfl (RunV.assign rfl) ?_
        clear hf a; intro a hf
        refine O.nil ?_
        refine k_seq ?_
        refine W.ret ?_
        refine k_blk_ret ?_
        refine k_then_ret ?_
        refine k_then_ret ?_
        refine k_blk_ret ?_
        refine k_then_ret ?_
        refine post1 hf rfl (ResOK.tmp rfl) ?_
        exact ⟨(),congrArg (fun b=>Ending.returned (Value.bool b)) (by first | exact (same_1 hne).symm | exact (same_2 (by omega) hd).symm),hS.sub (List.nil_sublist _) |>.noB⟩
      · have hdb:=hd
        try simp only [Bool.and_eq_true,Bool.or_eq_true,Bool.and_eq_false_iff,Bool.or_eq_false_iff,decide_eq_true_eq,decide_eq_false_iff_not,Bool.not_eq_true',Bool.not_eq_false',Bool.not_eq_true,Bool.not_eq_false,ne_eq] at hd
        refine W.skip ?_
        refine k_blk_normal ?_
        refine k_seq ?_
        refine W.regionL (l:=[0,1,2]) rfl ?_
        refine O.val hf rfl rfl rfl (RunV.move rfl) ?_
        clear hf a; intro a hf
        refine O.val hf rfl rfl rfl (RunV.addI rfl rfl (by omega)) ?_
        clear hf a; intro a hf
        refine O.val hf rfl rfl rfl (RunV.assign rfl) ?_
        clear hf a; intro a hf
        refine O.nil ?_
        refine k_then ⟨(k+1),⟨hf.to ⟨rfl,rfl,(by first | rfl | exact congrArg some (congrArg (Value.int _) (by omega))),trivial⟩,?_,?_,?_⟩,?_⟩
        · exact hS.eqM rfl
        · omega
        · intro j hj; by_cases hjk:j<k
          · exact h2 j hjk
          · have:j=k:=by omega
            subst this; exact same_4 hd
        · dsimp only; omega
    · refine W.exit ?_
      refine k_then_exit ?_
      refine k_then_exit ?_
      refine k_blk ?_
      refine k_seq ?_
      replace hf:Fr a 27 [] []:=hf.to trivial
      refine W.seq ?_
      refine W.regionL (l:=[0]) rfl ?_
      refine O.val hf rfl rfl rfl (RunV.assign rfl) ?_
      clear hf a; intro a hf
      refine O.nil ?_
      refine k_seq ?_
      refine W.ret ?_
      refine post1 hf rfl (ResOK.tmp rfl) ?_
      exact ⟨(),congrArg (fun b=>Ending.returned (Value.bool b)) (same_3 (by omega) (fun j hj=>h2 j (by omega))).symm,hS.sub (List.nil_sublist _) |>.noB⟩
set_option maxHeartbeats 400000 in
set_option maxRecDepth 4000 in
theorem great_spec (vl:Value) (l:List Ch) (w0:World) (hl:rdOK (hp w0) 12 vl l.length (encs eC l)) :
    Ret Tryd.prog 10 #[vl] w0 (G:=Unit) (fun _=>.bool (greatM l.length)) (fun _ w=>St w0 w noX [] []):=by
  refine ret_of_W (lv:=[vl]) Tryd.func10 rfl rfl rfl (fun a hf=>?_)
  replace hf:Fr a 16 [] [(0,vl)]:=hf
  have hS:St w0 w0 noX [rdv 12 vl l.length (encs eC l)] []:=(St.refl w0).lend0 hl
  refine W.seq ?_
  refine W.regionL (l:=[0]) rfl ?_
  refine O.val hf rfl rfl rfl (RunV.assign rfl) ?_
  clear hf a; intro a hf
  refine O.nil ?_
  refine k_seq ?_
  refine W.seq ?_
  refine W.regionL (l:=[0,1,2,3,4,5,6,7,8,9,10,11,12,13]) rfl ?_
  refine O.val hf rfl rfl rfl (RunV.move rfl) ?_
  clear hf a; intro a hf
  refine O.val hf rfl rfl rfl (RunV.lenV (e:=26) (by simpa using T_elem_22) rfl (hS.rdAt (j:=0) rfl)) ?_
  clear hf a; intro a hf
  refine O.val (v:=.bool (decide ((l.length:Int)>(25:Int)))) hf rfl rfl rfl (RunV.gtr rfl rfl) ?_
  clear hf a; intro a hf
  refine O.val hf rfl rfl rfl (RunV.move rfl) ?_
  clear hf a; intro a hf
  refine O.cutN (l₁:=[4,5,6,7]) (l₂:=_) (fun a w=>Fr a 16 [] [(0,vl),(2,.bool false),(3,vl),(4,.int .i64 (l.length:Int)),(5,.bool (decide ((l.length:Int)>(25:Int)))),(6,.bool (decide ((l.length:Int)>(25:Int)))),(10,.bool ((decide ((l.length:Int)>(25:Int)))&&(decide ((l.length:Int)≤(500:Int)))))]∧St w0 w noX [rdv 12 vl l.length (encs eC l)] []) rfl ?_ ?_
  · rcases Bool.eq_false_or_eq_true (decide ((l.length:Int)>(25:Int))) with hb1 | hb1
    · have hb1p:=of_decide_eq_true hb1
      refine O.gvalB (v:=vl) hf rfl rfl rfl hb1 rfl rfl (RunV.move rfl) ?_
      clear hf a; intro a hf
      refine O.gvalB (v:=.int .i64 (l.length:Int)) hf rfl rfl rfl hb1 rfl rfl (RunV.lenV (e:=26) (by simpa using T_elem_22) rfl (hS.rdAt (j:=0) rfl)) ?_
      clear hf a; intro a hf
      refine O.gvalB (v:=.bool (decide ((l.length:Int)≤(500:Int)))) hf rfl rfl rfl hb1 rfl rfl (RunV.leq rfl rfl) ?_
      clear hf a; intro a hf
      refine O.val (v:=.bool ((decide ((l.length:Int)>(25:Int)))&&(decide ((l.length:Int)≤(500:Int))))) hf rfl rfl rfl (RunV.pick rfl rfl rfl (by rw [hb1]; rfl)) ?_; clear hf a; intro a hf
      exact O.nil ⟨rfl,hf.to ⟨rfl,rfl,rfl,rfl,rfl,rfl,rfl,trivial⟩,hS⟩
    · have hb1p:=of_decide_eq_false hb1
      refine O.skipB hf rfl rfl rfl hb1 rfl ?_; clear hf a; intro a hf
      refine O.skipB hf rfl rfl rfl hb1 rfl ?_; clear hf a; intro a hf
      refine O.skipB hf rfl rfl rfl hb1 rfl ?_; clear hf a; intro a hf
      refine O.val (v:=.bool ((decide ((l.length:Int)>(25:Int)))&&(decide ((l.length:Int)≤(500:Int))))) hf rfl rfl rfl (RunV.pick rfl rfl rfl (by rw [hb1]; rfl)) ?_; clear hf a; intro a hf
      exact O.nil ⟨rfl,hf.to ⟨rfl,rfl,rfl,rfl,rfl,rfl,rfl,trivial⟩,hS⟩
  clear hf hS a; rintro a w ⟨hf,hS⟩
  refine O.val hf rfl rfl rfl (RunV.move rfl) ?_
  clear hf a; intro a hf
  refine O.cutN (l₁:=[9,10,11,12]) (l₂:=_) (fun a w=>Fr a 16 [] [(0,vl),(2,.bool false),(3,vl),(4,.int .i64 (l.length:Int)),(5,.bool (decide ((l.length:Int)>(25:Int)))),(6,.bool (decide ((l.length:Int)>(25:Int)))),(10,.bool ((decide ((l.length:Int)>(25:Int)))&&(decide ((l.length:Int)≤(500:Int))))),(11,.bool ((decide ((l.length:Int)>(25:Int)))&&(decide ((l.length:Int)≤(500:Int))))),(15,.bool (((decide ((l.length:Int)>(25:Int)))&&(decide ((l.length:Int)≤(500:Int))))||(decide ((l.length:Int)>(510:Int)))))]∧St w0 w noX [rdv 12 vl l.length (encs eC l)] []) rfl ?_ ?_
  · rcases Bool.eq_false_or_eq_true ((decide ((l.length:Int)>(25:Int)))&&(decide ((l.length:Int)≤(500:Int)))) with hb2 | hb2
    · have hb2p:=hb2
      try simp only [Bool.and_eq_true,Bool.or_eq_true,Bool.and_eq_false_iff,Bool.or_eq_false_iff,decide_eq_true_eq,decide_eq_false_iff_not,Bool.not_eq_true',Bool.not_eq_false',Bool.not_eq_true,Bool.not_eq_false,ne_eq] at hb2p
      refine O.skipB hf rfl rfl rfl hb2 rfl ?_; clear hf a; intro a hf
      refine O.skipB hf rfl rfl rfl hb2 rfl ?_; clear hf a; intro a hf
      refine O.skipB hf rfl rfl rfl hb2 rfl ?_; clear hf a; intro a hf
      refine O.val (v:=.bool (((decide ((l.length:Int)>(25:Int)))&&(decide ((l.length:Int)≤(500:Int))))||(decide ((l.length:Int)>(510:Int))))) hf rfl rfl rfl (RunV.pick rfl rfl rfl (by rw [hb2]; rfl)) ?_; clear hf a; intro a hf
      exact O.nil ⟨rfl,hf.to ⟨rfl,rfl,rfl,rfl,rfl,rfl,rfl,rfl,rfl,trivial⟩,hS⟩
    · have hb2p:=hb2
      try simp only [Bool.and_eq_true,Bool.or_eq_true,Bool.and_eq_false_iff,Bool.or_eq_false_iff,decide_eq_true_eq,decide_eq_false_iff_not,Bool.not_eq_true',Bool.not_eq_false',Bool.not_eq_true,Bool.not_eq_false,ne_eq] at hb2p
      refine O.gvalB (v:=vl) hf rfl rfl rfl hb2 rfl rfl (RunV.move rfl) ?_
      clear hf a; intro a hf
      refine O.gvalB (v:=.int .i64 (l.length:Int)) hf rfl rfl rfl hb2 rfl rfl (RunV.lenV (e:=26) (by simpa using T_elem_22) rfl (hS.rdAt (j:=0) rfl)) ?_
      clear hf a; intro a hf
      refine O.gvalB (v:=.bool (decide ((l.length:Int)>(510:Int)))) hf rfl rfl rfl hb2 rfl rfl (RunV.gtr rfl rfl) ?_
      clear hf a; intro a hf
      refine O.val (v:=.bool (((decide ((l.length:Int)>(25:Int)))&&(decide ((l.length:Int)≤(500:Int))))||(decide ((l.length:Int)>(510:Int))))) hf rfl rfl rfl (RunV.pick rfl rfl rfl (by rw [hb2]; rfl)) ?_; clear hf a; intro a hf
      exact O.nil ⟨rfl,hf.to ⟨rfl,rfl,rfl,rfl,rfl,rfl,rfl,rfl,rfl,trivial⟩,hS⟩
  clear hf hS a; rintro a w ⟨hf,hS⟩
  refine O.val hf rfl rfl rfl (RunV.assign rfl) ?_
  clear hf a; intro a hf
  refine O.nil ?_
  refine k_seq ?_
  replace hf:Fr a 16 [] [(2,.bool (((decide ((l.length:Int)>(25:Int)))&&(decide ((l.length:Int)≤(500:Int))))||(decide ((l.length:Int)>(510:Int)))))]:=hf.to ⟨rfl,trivial⟩
  refine W.ret ?_
  refine post1 hf rfl (ResOK.tmp rfl) ?_
  exact ⟨(),rfl,hS.sub (List.nil_sublist _) |>.noB⟩
theorem same_true (va:Value) (xs:List Ob) (vb:Value) (ys:List Ob) (w0:World) (ha:rdOK (hp w0) 6 va xs.length (encs eO xs)) (hb:rdOK (hp w0) 6 vb ys.length (encs eO ys)) (hx:obsRd w0 xs) (hy:obsRd w0 ys) (h:xs.map prO=ys.map prO) :
    Ret Tryd.prog 17 #[va,vb] w0 (G:=Unit) (fun _=>.bool true) (fun _ w=>St w0 w noX [] []):=by
  have h1:=same_spec va xs vb ys w0 ha hb hx hy
  rw [decide_eq_true h] at h1
  exact h1
end Go.Proofs.YtgakdmmmljdpjaaDoor
