/- Part of a proof: laws and walks. -/
import Derived.Test.YtgakdmmmljdpjaaDoorTak
import Derived.Test.YtgakdmmmljdpjaaDoorTac
import Derived.Test.YtgakdmmmljdpjaaDoorTae
set_option linter.unusedVariables false
set_option linter.unusedSimpArgs false
namespace Go.Proofs.YtgakdmmmljdpjaaDoor
open Go Go.SL
theorem C_ok_38:callOK Tryd.prog 38=true:=by kernel_rfl
theorem T_bytes_46:tBytes Tryd.prog 46=some 56:=by kernel_rfl
theorem T_elem_39:tElem Tryd.prog 39=some 46:=by kernel_rfl
theorem T_mapof_78:tMapOf Tryd.prog 78=some (79,.bool false):=by kernel_rfl
set_option maxHeartbeats 4000000 in
set_option maxRecDepth 4000 in
theorem run_ok (vl:Value) (l:List Ch) (w0:World) (hG:Lent w0 ordA) (hl:rdOK (hp w0) 12 vl l.length (encs eC l)) (hfit:vfit vl) (S:List PG) (us:List Bool) (hm:histM l=.ok (S,us)) :
    Ret Tryd.prog 16 #[vl] w0 (G:=Value × List Ob) (fun g=>.tuple #[g.1,.int .i64 0]) (fun g w=>St w0 w noX [] [slE 46 6 eO g.1 g.2,bigA (g.2.map obA)]∧g.2.map prO=objsM S):=by
  refine ret_of_W (lv:=[vl]) Tryd.func16 rfl rfl rfl (fun a hf=>?_)
  replace hf:Fr a 41 [] [(0,vl)]:=hf
  have hS:St w0 w0 noX [ordA,rdv 12 vl l.length (encs eC l)] []:=((St.refl w0).lend0 hl).lendA hG
  have hlm:=hl.2.1
  unfold maxLen at hlm
  refine W.seq ?_
  refine W.regionL (l:=[0,1]) rfl ?_
  refine O.val hf rfl rfl rfl (RunV.assign rfl) ?_
  clear hf a; intro a hf
  refine O.val hf rfl rfl rfl (RunV.assign rfl) ?_
  clear hf a; intro a hf
  refine O.nil ?_
  refine k_seq ?_
  refine W.seq ?_
  refine W.regionL (l:=[0,1,2,3,4,5,6,7,8]) rfl ?_
  refine O.val hf rfl rfl rfl (RunV.move rfl) ?_
  clear hf a; intro a hf
  refine O.callR hf rfl rfl rfl (RunE.call (av:=#[vl]) C_ok_32 rfl rfl rfl) (history_ok vl l _ (hS.bptO (i:=0) rfl) (hS.rdAt (j:=1) rfl) hfit hm) ?_
  clear hf a
  rintro ⟨uv,bm,kvs,gs⟩ w1 ⟨hS1,hI⟩ a hf
  replace hf:Fr a _ _ ((13,.tuple #[.map (some bm),uv,.int .i64 0])::_):=hf
  replace hS:=(hS.call hS1).eqM (N:=[stA 95 24 bm kvs gs,sl 4 1 uv us.length (bools us)]) rfl
  clear hS1
  refine O.val hf rfl rfl rfl (RunV.move rfl) ?_
  clear hf a; intro a hf
  refine O.val hf rfl rfl rfl (RunV.extract rfl rfl) ?_
  clear hf a; intro a hf
  refine O.val hf rfl rfl rfl (RunV.extract rfl rfl) ?_
  clear hf a; intro a hf
  refine O.val hf rfl rfl rfl (RunV.extract rfl rfl) ?_
  clear hf a; intro a hf
  refine O.val hf rfl rfl rfl (RunV.assign rfl) ?_
  clear hf a; intro a hf
  refine O.val hf rfl rfl rfl (RunV.assign rfl) ?_
  clear hf a; intro a hf
  refine O.val hf rfl rfl rfl (RunV.assign rfl) ?_
  clear hf a; intro a hf
  refine O.nil ?_
  have hL:=hI.1
  replace hS:=St.stOpen hS
  replace hS:St w0 _ noX [ordA,rdv 12 vl l.length (encs eC l)] [mp dV bm kvs,bigA (gs.map (grA 95 24)),sl 4 1 uv us.length (bools us)]:=hS
  refine k_seq ?_
  replace hf:Fr a 41 [] [(2,.slice none 0 0),(3,.int .i64 0),(4,.map (some bm)),(6,.int .i64 0)]:=hf.to ⟨rfl,rfl,rfl,rfl,trivial⟩
  refine W.seq ?_
  refine W.seq ?_
  refine W.regionL (l:=[0,1]) rfl ?_
  refine O.val hf rfl rfl rfl (RunV.move rfl) ?_
  clear hf a; intro a hf
  refine O.val hf rfl rfl rfl (RunV.toB (c:=false) (RunV.neq rfl rfl) (by decide)) ?_
  clear hf a; intro a hf
  refine O.nil ?_
  refine k_seq ?_
  replace hf:Fr a 41 [] [(2,.slice none 0 0),(3,.int .i64 0),(4,.map (some bm)),(6,.int .i64 0),(18,.bool false)]:=hf.to ⟨rfl,rfl,rfl,rfl,rfl,trivial⟩
  refine W.if_ff hf rfl ?_
  refine W.skip ?_
  refine k_seq ?_
  replace hf:Fr a 41 [] [(2,.slice none 0 0),(3,.int .i64 0),(4,.map (some bm))]:=hf.to ⟨rfl,rfl,rfl,trivial⟩
  refine W.seq ?_
  refine W.regionL (l:=[0]) rfl ?_
  refine O.val hf rfl rfl rfl (RunV.assign rfl) ?_
  clear hf a; intro a hf
  refine O.nil ?_
  refine k_seq ?_
  refine W.seq ?_
  refine W.regionL (l:=[0,1]) rfl ?_
  refine O.makeP ptrV hf hS rfl rfl ?_
  clear hf hS a; intro b_m2 w a hbb_m2 hS hf
  refine O.val hf rfl rfl rfl (RunV.assign rfl) ?_
  clear hf a; intro a hf
  refine O.nil ?_
  refine k_seq ?_
  replace hf:Fr a 41 [] [(2,.slice none 0 0),(3,.int .i64 0),(4,.map (some bm)),(7,.slice none 0 0),(8,.map (some b_m2))]:=hf.to ⟨rfl,rfl,rfl,rfl,rfl,trivial⟩
  refine W.seq ?_
  refine W.seq ?_
  refine W.regionL (l:=[0,1]) rfl ?_
  refine O.val hf rfl rfl rfl (RunV.move rfl) ?_
  clear hf a; intro a hf
  refine O.rangeP (j:=1) hf hS rfl rfl Tryd.underlying71 rfl rfl ?_
  clear hf hS a; intro b_r3 w a hbb_r3 hS hf
  replace hS:St w0 w noX [ordA,rdv 12 vl l.length (encs eC l)] [mp ptrV b_m2 ([]),rgA dV bm b_r3 kvs kvs none,bigA (gs.map (grA 95 24)),sl 4 1 uv us.length (bools us)]:=hS
  refine O.nil ?_
  refine k_seq ?_
  replace hf:Fr a 41 [] [(2,.slice none 0 0),(3,.int .i64 0),(7,.slice none 0 0),(8,.map (some b_m2)),(22,.pointer (some ⟨b_r3,0,none⟩))]:=hf.to ⟨rfl,rfl,rfl,rfl,rfl,trivial⟩
  refine W.block ?_
  replace hS:=hS.nilSl 46 6
  replace hS:St w0 _ noX [ordA,rdv 12 vl l.length (encs eC l)] (bigA (([]:List Ob).map obA)::[sl 46 6 (.slice none 0 0) (([]:List Ob).length) (encs eO ([]:List Ob)),mp ptrV b_m2 ([]),rgA dV bm b_r3 kvs kvs none,bigA (gs.map (grA 95 24)),sl 4 1 uv us.length (bools us)]):=St.bigClose (N:=[]) (l:=[]) hS
  refine W.loop (G:=(List Grp) × (List (Dg × Value)) × (Option (Dg × Value)) × (List (Nat × Value)) × (List Ob) × (Value)) (fun g a w=>match g with | (done,todo,last,sk,os,vo)=>Fr a 41 [] [(2,.slice none 0 0),(3,.int .i64 0),(7,vo),(8,.map (some b_m2)),(22,.pointer (some ⟨b_r3,0,none⟩))]∧St w0 w noX [ordA,rdv 12 vl l.length (encs eC l)] [bigA (os.map obA),sl 46 6 vo os.length (encs eO os),mp ptrV b_m2 sk,rgA dV bm b_r3 kvs todo last,bigA (gs.map (grA 95 24)),sl 4 1 uv us.length (bools us)]∧(RunI gs done kvs todo sk os)) (fun g=>match g with | (done,todo,last,sk,os,vo)=>todo.length) ([],kvs,none,[],[],.slice none 0 0) ?_ ?_
  · refine ⟨hf.to ⟨rfl,rfl,(by first | rfl | exact congrArg some (congrArg (Value.int _) (by omega))),rfl,rfl,trivial⟩,hS,?_⟩
    · exact RunI.start hL
  clear hf hS a
  rintro ⟨done,todo,last,sk,os,vo⟩ a w ⟨hf,hS,hR⟩
  refine W.seq ?_
  refine W.regionL (l:=[0,1]) rfl ?_
  refine O.nextP (j:=3) hf hS rfl rfl rfl rfl ?_ ?_
  · clear hf; intro htd a hf
    rw [htd] at hR
    have hln:=Nat.le_trans hR.len (gs_len hm hI)
    refine O.val hf rfl rfl rfl (RunV.extract rfl rfl) ?_
    clear hf a; intro a hf
    refine O.nil ?_
    refine k_seq ?_
    replace hf:Fr a 41 [] [(2,.slice none 0 0),(3,.int .i64 0),(7,vo),(8,.map (some b_m2)),(22,.pointer (some ⟨b_r3,0,none⟩)),(24,.bool false)]:=hf.to ⟨rfl,rfl,rfl,rfl,rfl,rfl,trivial⟩
    refine W.seq ?_
    refine W.if_ff hf rfl ?_
    refine W.exit ?_
    refine k_then_exit ?_
    refine k_then_exit ?_
    refine k_blk ?_
    refine k_seq ?_
    replace hf:Fr a 41 [] [(2,.slice none 0 0),(3,.int .i64 0),(7,vo)]:=hf.to ⟨rfl,rfl,rfl,trivial⟩
    refine W.seq ?_
    refine W.regionL (l:=[0,1]) rfl ?_
    refine O.val hf rfl rfl rfl (RunV.move rfl) ?_
    clear hf a; intro a hf
    refine O.callR hf rfl rfl rfl (RunE.call (av:=#[vo,.func (.func 39) #[] #[]]) C_ok_38 rfl rfl rfl) (sortO_spec vo os _ (RunI.pok hR hm hI) (RunI.inj hR hI) (hS.bptO (i:=0) rfl) (hS.slAt (j:=1) rfl) (by omega) (fun h=>hS.apart (i:=1) (j:=0) rfl rfl 0 rfl h)) ?_
    clear hf a
    rintro _ w4 hS1 a hf
    replace hf:Fr a _ _ ((39,.tuple #[])::_):=hf
    replace hS:=(hS.callX1 hS1 (i:=1) rfl (fun _ h=>h)).eqM (N:=[sl 46 6 vo ((sortOs os).length) (encs eO (sortOs os)),bigA (os.map obA),mp ptrV b_m2 sk,rgA dV bm b_r3 kvs todo last,bigA (gs.map (grA 95 24)),sl 4 1 uv us.length (bools us)]) rfl
    clear hS1
    refine O.nil ?_
    refine k_seq ?_
    replace hf:Fr a 41 [] [(2,.slice none 0 0),(3,.int .i64 0),(7,vo)]:=hf.to ⟨rfl,rfl,rfl,trivial⟩
    refine W.seq ?_
    refine W.regionL (l:=[0,1,2]) rfl ?_
    refine O.val hf rfl rfl rfl (RunV.move rfl) ?_
    clear hf a; intro a hf
    refine O.val hf rfl rfl rfl (RunV.assign rfl) ?_
    clear hf a; intro a hf
    refine O.val hf rfl rfl rfl (RunV.assign rfl) ?_
    clear hf a; intro a hf
    refine O.nil ?_
    refine k_seq ?_
    replace hf:Fr a 41 [] [(2,vo),(3,.int .i64 0)]:=hf.to ⟨rfl,rfl,trivial⟩
    refine W.ret ?_
    refine post2 hf rfl (ResOK.tmp rfl) (ResOK.tmp rfl) ?_
    have hdn:=hR.done_ hI
    have hpo:(os.map obA).Perm ((sortOs os).map obA):=(List.mergeSort_perm os _).symm.map _
    replace hS:=hS.front (i:=1) (M':=[bigA (os.map obA),sl 46 6 vo ((sortOs os).length) (encs eO (sortOs os)),mp ptrV b_m2 sk,rgA dV bm b_r3 kvs todo last,bigA (gs.map (grA 95 24)),sl 4 1 uv us.length (bools us)]) rfl rfl
    replace hS:=hS.front (i:=1) (M':=[sl 46 6 vo ((sortOs os).length) (encs eO (sortOs os)),bigA (os.map obA),mp ptrV b_m2 sk,rgA dV bm b_r3 kvs todo last,bigA (gs.map (grA 95 24)),sl 4 1 uv us.length (bools us)]) rfl rfl
    replace hS:=hS.bigPerm (i:=1) rfl hpo
    exact ⟨(vo,sortOs os),rfl,(hS.sub (List.Sublist.cons_cons _ (List.Sublist.cons_cons _ (List.nil_sublist _)))).noB,hdn.1⟩
  · clear hf hS; intro ts_ tp_ tt_ w a htd hS hf
    replace hS:St w0 w noX [ordA,rdv 12 vl l.length (encs eC l)] [bigA (os.map obA),sl 46 6 vo os.length (encs eO os),mp ptrV b_m2 sk,rgA dV bm b_r3 kvs (ts_++tt_) (some tp_),bigA (gs.map (grA 95 24)),sl 4 1 uv us.length (bools us)]:=hS
    rw [htd] at hR
    obtain ⟨gr,hg,hpv⟩:=hR.inn tp_ (by simp)
    obtain ⟨td,tv⟩:=tp_
    simp only at hpv
    subst hpv
    replace hS:St w0 w noX [ordA,rdv 12 vl l.length (encs eC l)] [bigA (os.map obA),sl 46 6 vo os.length (encs eO os),mp ptrV b_m2 sk,rgA dV bm b_r3 kvs (ts_++tt_) (some (td,ptrV gr.blk)),bigA (gs.map (grA 95 24)),sl 4 1 uv us.length (bools us)]:=hS
    replace hf:Fr a _ _ ((23,.tuple #[.bool true,.agg #[.int .i64 td.num,.int .i64 td.yr,.int .u8 td.half,.int .u8 td.sec,.int .i64 td.cyc],.pointer (some ⟨gr.blk,0,none⟩)])::_):=hf
    refine O.val hf rfl rfl rfl (RunV.extract rfl rfl) ?_
    clear hf a; intro a hf
    refine O.nil ?_
    refine k_seq ?_
    replace hf:Fr a 41 [] [(2,.slice none 0 0),(3,.int .i64 0),(7,vo),(8,.map (some b_m2)),(22,.pointer (some ⟨b_r3,0,none⟩)),(24,.bool true)]:=hf.to ⟨rfl,rfl,rfl,rfl,rfl,rfl,trivial⟩
    refine W.seq ?_
    refine W.if_tt hf rfl ?_
    refine W.skip ?_
    refine k_seq ?_
    refine W.block ?_
    refine W.seq ?_
    refine W.regionL (l:=[0,1,2]) rfl ?_
    refine O.val hf rfl rfl rfl (RunV.entryP hS (j:=3) rfl rfl) ?_; clear hf a; intro a hf
    replace hf:Fr a _ _ ((25,.tuple #[.agg #[.int .i64 td.num,.int .i64 td.yr,.int .u8 td.half,.int .u8 td.sec,.int .i64 td.cyc],.pointer (some ⟨gr.blk,0,none⟩)])::_):=hf
    refine O.val hf rfl rfl rfl (RunV.extract rfl rfl) ?_
    clear hf a; intro a hf
    refine O.val hf rfl rfl rfl (RunV.assign rfl) ?_
    clear hf a; intro a hf
    refine O.nil ?_
    refine k_seq ?_
    replace hf:Fr a 41 [] [(2,.slice none 0 0),(3,.int .i64 0),(7,vo),(8,.map (some b_m2)),(10,.pointer (some ⟨gr.blk,0,none⟩)),(22,.pointer (some ⟨b_r3,0,none⟩)),(24,.bool true)]:=hf.to ⟨rfl,rfl,rfl,rfl,rfl,rfl,rfl,trivial⟩
    refine W.seq ?_
    rcases (show getP gr.blk sk=some (.bool true)∨getP gr.blk sk=none from by rw [hR.seen]; split <;> simp) with hsk | hsk
    ·
      refine W.regionL (l:=[0,1,2,3]) rfl ?_
      refine O.val hf rfl rfl rfl (RunV.move rfl) ?_
      clear hf a; intro a hf
      refine O.val hf rfl rfl rfl (RunV.move rfl) ?_
      clear hf a; intro a hf
      refine O.val hf rfl rfl rfl (RunV.lookP (k:=gr.blk) (kvs:=sk) T_mapof_78 keyG (cells_of hS (i:=4) rfl _ hg) (RunI.good hR (cells_of hS (i:=4) rfl)) rfl rfl (hS.mpAt (j:=2) rfl) (by rw [hsk] <;> rfl)) ?_
      clear hf a; intro a hf
      refine O.val (v:=.bool false) hf rfl rfl rfl (RunV.not (b:=true) rfl) ?_
      clear hf a; intro a hf
      refine O.nil ?_
      refine k_seq ?_
      replace hf:Fr a 41 [] [(2,.slice none 0 0),(3,.int .i64 0),(7,vo),(8,.map (some b_m2)),(10,.pointer (some ⟨gr.blk,0,none⟩)),(22,.pointer (some ⟨b_r3,0,none⟩)),(24,.bool true),(30,.bool false)]:=hf.to ⟨rfl,rfl,rfl,rfl,rfl,rfl,rfl,rfl,trivial⟩
      refine W.if_ff hf rfl ?_
      refine W.skip ?_
      refine k_blk_normal ?_
      refine k_then ⟨(done,ts_++tt_,some (td,ptrV gr.blk),sk,os,vo),⟨hf.to ⟨rfl,rfl,(by first | rfl | exact congrArg some (congrArg (Value.int _) (by omega))),rfl,rfl,trivial⟩,?_,?_⟩,?_⟩
      · exact hS.eqM rfl
      · exact RunI.old (g:=gr) (p:=(td,ptrV gr.blk)) hR rfl hsk
      · dsimp only; rw [htd]; simp only [List.length_append,List.length_cons]; omega
    ·
      refine W.regionL (l:=[0,1,2,3]) rfl ?_
      refine O.val hf rfl rfl rfl (RunV.move rfl) ?_
      clear hf a; intro a hf
      refine O.val hf rfl rfl rfl (RunV.move rfl) ?_
      clear hf a; intro a hf
      refine O.val hf rfl rfl rfl (RunV.lookP (k:=gr.blk) (kvs:=sk) T_mapof_78 keyG (cells_of hS (i:=4) rfl _ hg) (RunI.good hR (cells_of hS (i:=4) rfl)) rfl rfl (hS.mpAt (j:=2) rfl) (by rw [hsk] <;> rfl)) ?_
      clear hf a; intro a hf
      refine O.val (v:=.bool true) hf rfl rfl rfl (RunV.not (b:=false) rfl) ?_
      clear hf a; intro a hf
      refine O.nil ?_
      refine k_seq ?_
      replace hf:Fr a 41 [] [(2,.slice none 0 0),(3,.int .i64 0),(7,vo),(8,.map (some b_m2)),(10,.pointer (some ⟨gr.blk,0,none⟩)),(22,.pointer (some ⟨b_r3,0,none⟩)),(24,.bool true),(30,.bool true)]:=hf.to ⟨rfl,rfl,rfl,rfl,rfl,rfl,rfl,rfl,trivial⟩
      refine W.if_tt hf rfl ?_
      refine W.seq ?_
      refine W.regionL (l:=[0,1,2]) rfl ?_
      refine O.val hf rfl rfl rfl (RunV.move rfl) ?_
      clear hf a; intro a hf
      refine O.val hf rfl rfl rfl (RunV.move rfl) ?_
      clear hf a; intro a hf
      refine O.putP (j:=2) (k:=gr.blk) (v:=(.bool true)) (kvs:=sk) (M':=[bigA (os.map obA),sl 46 6 vo os.length (encs eO os),mp ptrV b_m2 (setP gr.blk (.bool true) sk),rgA dV bm b_r3 kvs (ts_++tt_) (some (td,ptrV gr.blk)),bigA (gs.map (grA 95 24)),sl 4 1 uv us.length (bools us)]) hf hS rfl T_mapof_78 keyG (cells_of hS (i:=4) rfl _ hg) (RunI.good hR (cells_of hS (i:=4) rfl)) rfl rfl rfl rfl rfl ?_
      clear hS; intro w hS
      refine O.nil ?_
      refine k_seq ?_
      replace hf:Fr a 41 [] [(2,.slice none 0 0),(3,.int .i64 0),(7,vo),(8,.map (some b_m2)),(10,.pointer (some ⟨gr.blk,0,none⟩)),(22,.pointer (some ⟨b_r3,0,none⟩)),(24,.bool true),(30,.bool true)]:=hf.to ⟨rfl,rfl,rfl,rfl,rfl,rfl,rfl,rfl,trivial⟩
      refine W.regionL (l:=[0,1,2,3,4,5]) rfl ?_
      obtain ⟨rest,hpm⟩:=perm_of_mem hg
      have hgo:=grp_ok hm hI hg
      have hln:=Nat.le_trans hR.len (gs_len hm hI)
      replace hS:=hS.front (i:=4) (M':=[bigA (gs.map (grA 95 24)),bigA (os.map obA),sl 46 6 vo os.length (encs eO os),mp ptrV b_m2 (setP gr.blk (.bool true) sk),rgA dV bm b_r3 kvs (ts_++tt_) (some (td,ptrV gr.blk)),sl 4 1 uv us.length (bools us)]) rfl rfl
      replace hS:=hS.front (i:=3) (M':=[mp ptrV b_m2 (setP gr.blk (.bool true) sk),bigA (gs.map (grA 95 24)),bigA (os.map obA),sl 46 6 vo os.length (encs eO os),rgA dV bm b_r3 kvs (ts_++tt_) (some (td,ptrV gr.blk)),sl 4 1 uv us.length (bools us)]) rfl rfl
      replace hS:=St.grTake hS hpm
      replace hS:St w0 _ noX [ordA,rdv 12 vl l.length (encs eC l)] [mp ptrV b_m2 (setP gr.blk (.bool true) sk),pt gr.blk (.cells #[gr.v,.bool gr.num] 95 (0,0)),sl 24 5 gr.v gr.all.length (encs eD gr.all),bigA (rest.map (grA 95 24)),bigA (os.map obA),sl 46 6 vo os.length (encs eO os),rgA dV bm b_r3 kvs (ts_++tt_) (some (td,ptrV gr.blk)),sl 4 1 uv us.length (bools us)]:=hS
      refine O.val hf rfl rfl rfl (RunV.move rfl) ?_
      clear hf a; intro a hf
      refine O.val hf rfl rfl rfl (RunV.move rfl) ?_
      clear hf a; intro a hf
      refine O.callR hf rfl rfl rfl (RunE.call (av:=#[.pointer (some ⟨gr.blk,0,none⟩)]) C_ok_37 rfl rfl rfl) (object_spec gr.blk gr.v gr.num gr.all _ (hS.bptO (i:=0) rfl) (hS.lentAt (i:=1) rfl) (hS.slr (j:=2) rfl) (slOK.fit (hS.slAt (j:=2) rfl)) hgo.1 (by omega) hgo.2.1) ?_
      clear hf a
      rintro ov w5 hS1 a hf
      replace hf:Fr a _ _ ((35,.agg #[.int .i64 (((sortDs gr.all).getD 0 default).num),.int .i64 (((sortDs gr.all).getD 0 default).yr),.int .u8 (((sortDs gr.all).getD 0 default).half),.int .u8 (((sortDs gr.all).getD 0 default).sec),.int .i64 (((sortDs gr.all).getD 0 default).cyc),ov])::_):=hf
      replace hS:=(hS.call hS1).eqM (N:=[sl 24 5 ov ((sortDs gr.all).length) (encs eD (sortDs gr.all)),mp ptrV b_m2 (setP gr.blk (.bool true) sk),pt gr.blk (.cells #[gr.v,.bool gr.num] 95 (0,0)),sl 24 5 gr.v gr.all.length (encs eD gr.all),bigA (rest.map (grA 95 24)),bigA (os.map obA),sl 46 6 vo os.length (encs eO os),rgA dV bm b_r3 kvs (ts_++tt_) (some (td,ptrV gr.blk)),sl 4 1 uv us.length (bools us)]) rfl
      clear hS1
      obtain ⟨oa,om,oc,hov⟩:=slv_of (hS.slr (j:=0) rfl)
      obtain ⟨o,ho1,ho2,ho3⟩:∃ o:Ob,((sortDs gr.all).getD 0 default)=o.p∧sortDs gr.all=o.l∧ov=o.v:=⟨⟨((sortDs gr.all).getD 0 default),oa,om,oc,sortDs gr.all⟩,rfl,rfl,hov⟩
      rw [ho1,ho3] at hf; rw [ho2,ho3] at hS
      replace hS:St w0 _ noX [ordA,rdv 12 vl l.length (encs eC l)] [obA o,mp ptrV b_m2 (setP gr.blk (.bool true) sk),pt gr.blk (.cells #[gr.v,.bool gr.num] 95 (0,0)),sl 24 5 gr.v gr.all.length (encs eD gr.all),bigA (rest.map (grA 95 24)),bigA (os.map obA),sl 46 6 vo os.length (encs eO os),rgA dV bm b_r3 kvs (ts_++tt_) (some (td,ptrV gr.blk)),sl 4 1 uv us.length (bools us)]:=hS
      replace hf:Fr a _ _ ((35,.agg #[.int .i64 o.p.num,.int .i64 o.p.yr,.int .u8 o.p.half,.int .u8 o.p.sec,.int .i64 o.p.cyc,.slice o.ad o.n o.c])::_):=hf
      refine O.buildSlice (cs':=#[.int .i64 o.p.num,.int .i64 o.p.yr,.int .u8 o.p.half,.int .u8 o.p.sec,.int .i64 o.p.cyc,.slice o.ad o.n o.c]) (zs:=#[.int .i64 0,.int .i64 0,.int .u8 0,.int .u8 0,.int .i64 0,.slice none 0 0]) hf hS rfl rfl T_elem_39 T_size_46 T_zero_46 rfl rfl rfl rfl rfl ?_
      clear hf hS a; intro b_s6 w a hbb_s6 hS hf
      refine O.append1 (j:=7) (jj:=0) hf hS rfl rfl T_elem_39 T_size_46 T_bytes_46 T_zero_46 rfl rfl rfl rfl rfl rfl rfl rfl (by unfold maxLen; omega) (by omega) ?_
      clear hf hS a; intro v7 w a hS hf
      replace hS:=hS.eqM (N:=[pt b_s6 (.cells #[.int .i64 o.p.num,.int .i64 o.p.yr,.int .u8 o.p.half,.int .u8 o.p.sec,.int .i64 o.p.cyc,.slice o.ad o.n o.c] 46 (0,0)),obA o,mp ptrV b_m2 (setP gr.blk (.bool true) sk),pt gr.blk (.cells #[gr.v,.bool gr.num] 95 (0,0)),sl 24 5 gr.v gr.all.length (encs eD gr.all),bigA (rest.map (grA 95 24)),bigA (os.map obA),sl 46 6 v7 (os.length+1) (encs eO os++[.int .i64 o.p.num,.int .i64 o.p.yr,.int .u8 o.p.half,.int .u8 o.p.sec,.int .i64 o.p.cyc,.slice o.ad o.n o.c]),rgA dV bm b_r3 kvs (ts_++tt_) (some (td,ptrV gr.blk)),sl 4 1 uv us.length (bools us)]) rfl
      replace hS:=hS.reE (i:=7) (M':=[pt b_s6 (.cells #[.int .i64 o.p.num,.int .i64 o.p.yr,.int .u8 o.p.half,.int .u8 o.p.sec,.int .i64 o.p.cyc,.slice o.ad o.n o.c] 46 (0,0)),obA o,mp ptrV b_m2 (setP gr.blk (.bool true) sk),pt gr.blk (.cells #[gr.v,.bool gr.num] 95 (0,0)),sl 24 5 gr.v gr.all.length (encs eD gr.all),bigA (rest.map (grA 95 24)),bigA (os.map obA),sl 46 6 v7 ((os++[o]).length) (encs eO (os++[o])),rgA dV bm b_r3 kvs (ts_++tt_) (some (td,ptrV gr.blk)),sl 4 1 uv us.length (bools us)]) rfl (sl_snoc (enc:=eO) (l:=os) (x:=o)) rfl
      refine O.val hf rfl rfl rfl (RunV.assign rfl) ?_
      clear hf a; intro a hf
      refine O.nil ?_
      replace hS:=hS.front (i:=6) (M':=[bigA (os.map obA),pt b_s6 (.cells #[.int .i64 o.p.num,.int .i64 o.p.yr,.int .u8 o.p.half,.int .u8 o.p.sec,.int .i64 o.p.cyc,.slice o.ad o.n o.c] 46 (0,0)),obA o,mp ptrV b_m2 (setP gr.blk (.bool true) sk),pt gr.blk (.cells #[gr.v,.bool gr.num] 95 (0,0)),sl 24 5 gr.v gr.all.length (encs eD gr.all),bigA (rest.map (grA 95 24)),sl 46 6 v7 ((os++[o]).length) (encs eO (os++[o])),rgA dV bm b_r3 kvs (ts_++tt_) (some (td,ptrV gr.blk)),sl 4 1 uv us.length (bools us)]) rfl rfl
      replace hS:=hS.front (i:=2) (M':=[obA o,bigA (os.map obA),pt b_s6 (.cells #[.int .i64 o.p.num,.int .i64 o.p.yr,.int .u8 o.p.half,.int .u8 o.p.sec,.int .i64 o.p.cyc,.slice o.ad o.n o.c] 46 (0,0)),mp ptrV b_m2 (setP gr.blk (.bool true) sk),pt gr.blk (.cells #[gr.v,.bool gr.num] 95 (0,0)),sl 24 5 gr.v gr.all.length (encs eD gr.all),bigA (rest.map (grA 95 24)),sl 46 6 v7 ((os++[o]).length) (encs eO (os++[o])),rgA dV bm b_r3 kvs (ts_++tt_) (some (td,ptrV gr.blk)),sl 4 1 uv us.length (bools us)]) rfl rfl
      replace hS:=St.mapSnoc hS
      replace hS:St w0 _ noX [ordA,rdv 12 vl l.length (encs eC l)] [bigA ((os++[o]).map obA),pt b_s6 (.cells #[.int .i64 o.p.num,.int .i64 o.p.yr,.int .u8 o.p.half,.int .u8 o.p.sec,.int .i64 o.p.cyc,.slice o.ad o.n o.c] 46 (0,0)),mp ptrV b_m2 (setP gr.blk (.bool true) sk),pt gr.blk (.cells #[gr.v,.bool gr.num] 95 (0,0)),sl 24 5 gr.v gr.all.length (encs eD gr.all),bigA (rest.map (grA 95 24)),sl 46 6 v7 ((os++[o]).length) (encs eO (os++[o])),rgA dV bm b_r3 kvs (ts_++tt_) (some (td,ptrV gr.blk)),sl 4 1 uv us.length (bools us)]:=hS
      replace hS:=hS.front (i:=5) (M':=[bigA (rest.map (grA 95 24)),bigA ((os++[o]).map obA),pt b_s6 (.cells #[.int .i64 o.p.num,.int .i64 o.p.yr,.int .u8 o.p.half,.int .u8 o.p.sec,.int .i64 o.p.cyc,.slice o.ad o.n o.c] 46 (0,0)),mp ptrV b_m2 (setP gr.blk (.bool true) sk),pt gr.blk (.cells #[gr.v,.bool gr.num] 95 (0,0)),sl 24 5 gr.v gr.all.length (encs eD gr.all),sl 46 6 v7 ((os++[o]).length) (encs eO (os++[o])),rgA dV bm b_r3 kvs (ts_++tt_) (some (td,ptrV gr.blk)),sl 4 1 uv us.length (bools us)]) rfl rfl
      replace hS:=hS.front (i:=5) (M':=[sl 24 5 gr.v gr.all.length (encs eD gr.all),bigA (rest.map (grA 95 24)),bigA ((os++[o]).map obA),pt b_s6 (.cells #[.int .i64 o.p.num,.int .i64 o.p.yr,.int .u8 o.p.half,.int .u8 o.p.sec,.int .i64 o.p.cyc,.slice o.ad o.n o.c] 46 (0,0)),mp ptrV b_m2 (setP gr.blk (.bool true) sk),pt gr.blk (.cells #[gr.v,.bool gr.num] 95 (0,0)),sl 46 6 v7 ((os++[o]).length) (encs eO (os++[o])),rgA dV bm b_r3 kvs (ts_++tt_) (some (td,ptrV gr.blk)),sl 4 1 uv us.length (bools us)]) rfl rfl
      replace hS:=hS.front (i:=5) (M':=[pt gr.blk (.cells #[gr.v,.bool gr.num] 95 (0,0)),sl 24 5 gr.v gr.all.length (encs eD gr.all),bigA (rest.map (grA 95 24)),bigA ((os++[o]).map obA),pt b_s6 (.cells #[.int .i64 o.p.num,.int .i64 o.p.yr,.int .u8 o.p.half,.int .u8 o.p.sec,.int .i64 o.p.cyc,.slice o.ad o.n o.c] 46 (0,0)),mp ptrV b_m2 (setP gr.blk (.bool true) sk),sl 46 6 v7 ((os++[o]).length) (encs eO (os++[o])),rgA dV bm b_r3 kvs (ts_++tt_) (some (td,ptrV gr.blk)),sl 4 1 uv us.length (bools us)]) rfl rfl
      replace hS:=hS.front (i:=5) (M':=[mp ptrV b_m2 (setP gr.blk (.bool true) sk),pt gr.blk (.cells #[gr.v,.bool gr.num] 95 (0,0)),sl 24 5 gr.v gr.all.length (encs eD gr.all),bigA (rest.map (grA 95 24)),bigA ((os++[o]).map obA),pt b_s6 (.cells #[.int .i64 o.p.num,.int .i64 o.p.yr,.int .u8 o.p.half,.int .u8 o.p.sec,.int .i64 o.p.cyc,.slice o.ad o.n o.c] 46 (0,0)),sl 46 6 v7 ((os++[o]).length) (encs eO (os++[o])),rgA dV bm b_r3 kvs (ts_++tt_) (some (td,ptrV gr.blk)),sl 4 1 uv us.length (bools us)]) rfl rfl
      replace hS:=St.grBack hpm hS
      replace hS:St w0 _ noX [ordA,rdv 12 vl l.length (encs eC l)] [mp ptrV b_m2 (setP gr.blk (.bool true) sk),bigA (gs.map (grA 95 24)),bigA ((os++[o]).map obA),pt b_s6 (.cells #[.int .i64 o.p.num,.int .i64 o.p.yr,.int .u8 o.p.half,.int .u8 o.p.sec,.int .i64 o.p.cyc,.slice o.ad o.n o.c] 46 (0,0)),sl 46 6 v7 ((os++[o]).length) (encs eO (os++[o])),rgA dV bm b_r3 kvs (ts_++tt_) (some (td,ptrV gr.blk)),sl 4 1 uv us.length (bools us)]:=hS
      refine k_blk_normal ?_
      replace hS:=hS.front (i:=6) (M':=[sl 4 1 uv us.length (bools us),mp ptrV b_m2 (setP gr.blk (.bool true) sk),bigA (gs.map (grA 95 24)),bigA ((os++[o]).map obA),pt b_s6 (.cells #[.int .i64 o.p.num,.int .i64 o.p.yr,.int .u8 o.p.half,.int .u8 o.p.sec,.int .i64 o.p.cyc,.slice o.ad o.n o.c] 46 (0,0)),sl 46 6 v7 ((os++[o]).length) (encs eO (os++[o])),rgA dV bm b_r3 kvs (ts_++tt_) (some (td,ptrV gr.blk))]) rfl rfl
      replace hS:=hS.front (i:=2) (M':=[bigA (gs.map (grA 95 24)),sl 4 1 uv us.length (bools us),mp ptrV b_m2 (setP gr.blk (.bool true) sk),bigA ((os++[o]).map obA),pt b_s6 (.cells #[.int .i64 o.p.num,.int .i64 o.p.yr,.int .u8 o.p.half,.int .u8 o.p.sec,.int .i64 o.p.cyc,.slice o.ad o.n o.c] 46 (0,0)),sl 46 6 v7 ((os++[o]).length) (encs eO (os++[o])),rgA dV bm b_r3 kvs (ts_++tt_) (some (td,ptrV gr.blk))]) rfl rfl
      replace hS:=hS.front (i:=6) (M':=[rgA dV bm b_r3 kvs (ts_++tt_) (some (td,ptrV gr.blk)),bigA (gs.map (grA 95 24)),sl 4 1 uv us.length (bools us),mp ptrV b_m2 (setP gr.blk (.bool true) sk),bigA ((os++[o]).map obA),pt b_s6 (.cells #[.int .i64 o.p.num,.int .i64 o.p.yr,.int .u8 o.p.half,.int .u8 o.p.sec,.int .i64 o.p.cyc,.slice o.ad o.n o.c] 46 (0,0)),sl 46 6 v7 ((os++[o]).length) (encs eO (os++[o]))]) rfl rfl
      replace hS:=hS.front (i:=3) (M':=[mp ptrV b_m2 (setP gr.blk (.bool true) sk),rgA dV bm b_r3 kvs (ts_++tt_) (some (td,ptrV gr.blk)),bigA (gs.map (grA 95 24)),sl 4 1 uv us.length (bools us),bigA ((os++[o]).map obA),pt b_s6 (.cells #[.int .i64 o.p.num,.int .i64 o.p.yr,.int .u8 o.p.half,.int .u8 o.p.sec,.int .i64 o.p.cyc,.slice o.ad o.n o.c] 46 (0,0)),sl 46 6 v7 ((os++[o]).length) (encs eO (os++[o]))]) rfl rfl
      replace hS:=hS.front (i:=6) (M':=[sl 46 6 v7 ((os++[o]).length) (encs eO (os++[o])),mp ptrV b_m2 (setP gr.blk (.bool true) sk),rgA dV bm b_r3 kvs (ts_++tt_) (some (td,ptrV gr.blk)),bigA (gs.map (grA 95 24)),sl 4 1 uv us.length (bools us),bigA ((os++[o]).map obA),pt b_s6 (.cells #[.int .i64 o.p.num,.int .i64 o.p.yr,.int .u8 o.p.half,.int .u8 o.p.sec,.int .i64 o.p.cyc,.slice o.ad o.n o.c] 46 (0,0))]) rfl rfl
      replace hS:=hS.front (i:=5) (M':=[bigA ((os++[o]).map obA),sl 46 6 v7 ((os++[o]).length) (encs eO (os++[o])),mp ptrV b_m2 (setP gr.blk (.bool true) sk),rgA dV bm b_r3 kvs (ts_++tt_) (some (td,ptrV gr.blk)),bigA (gs.map (grA 95 24)),sl 4 1 uv us.length (bools us),pt b_s6 (.cells #[.int .i64 o.p.num,.int .i64 o.p.yr,.int .u8 o.p.half,.int .u8 o.p.sec,.int .i64 o.p.cyc,.slice o.ad o.n o.c] 46 (0,0))]) rfl rfl
      replace hS:=hS.sub (N:=[bigA ((os++[o]).map obA),sl 46 6 v7 ((os++[o]).length) (encs eO (os++[o])),mp ptrV b_m2 (setP gr.blk (.bool true) sk),rgA dV bm b_r3 kvs (ts_++tt_) (some (td,ptrV gr.blk)),bigA (gs.map (grA 95 24)),sl 4 1 uv us.length (bools us)]) (.cons_cons _ (.cons_cons _ (.cons_cons _ (.cons_cons _ (.cons_cons _ (.cons_cons _ (.cons _ .slnil)))))))
      refine k_then ⟨(done++[gr],ts_++tt_,some (td,ptrV gr.blk),setP gr.blk (.bool true) sk,os++[o],v7),⟨hf.to ⟨rfl,rfl,(by first | rfl | exact congrArg some (congrArg (Value.int _) (by omega))),rfl,rfl,trivial⟩,?_,?_⟩,?_⟩
      · exact hS.eqM rfl
      · exact RunI.new (g:=gr) (p:=(td,ptrV gr.blk)) hR hg rfl hsk (by unfold obOf; rw [ho1,ho2])
      · dsimp only; rw [htd]; simp only [List.length_append,List.length_cons]; omega
end Go.Proofs.YtgakdmmmljdpjaaDoor

namespace Go.SL
open Go
section
variable {r:Option Nat} {P:Program} {Q:Exit→Act→World→Prop} {ops:Array Oper} {i:Nat} {rest l:List Nat} {a:Act} {w w' w0:World} {n:Nat} {ds:List Deferred} {L:List (Nat × Value)}
  {d:Nat} {op:Op} {ty:TypeId} {v:Value} {y:Code} {id:Nat} {X:Nat→Prop} {B M N R:List Asr} {pp qq:Asr}
def mvk (L:List (Nat × Value)) (n:Nat):Option Oper→Option (Nat × Value)
  | some ⟨some d,.move x,_,_,_,none⟩=>match Nat.blt d n,ev L x with
    | true,some v=>some (d,v)
    | _,_=>none
  | some ⟨some d,.assign x,_,_,_,none⟩=>match Nat.blt d n,ev L x with
    | true,some v=>some (d,v)
    | _,_=>none
  | _=>none
def opk (n:Nat):Option Oper→Option (Nat × Op × TypeId)
  | some ⟨some d,op,ty,_,_,none⟩=>match noDefer op,Nat.blt d n with
    | true,true=>some (d,op,ty)
    | _,_=>none
  | _=>none
theorem ov (hf:Fr a n ds L) (h:opk n ops[i]? = some (d,op,ty)) (hr:RunV P n ds L op ty w v w') (k:∀ a',Fr a' n ds ((d,v)::L)→O r P ops Q rest a' w'):O r P ops Q (i::rest) a w:=by
  unfold opk at h
  split at h
  · split at h
    · cases h
      exact O.val hf (by assumption) (by assumption) (by assumption) hr k
    · cases h
  · cases h
class App (A B:List Asr) (C:outParam (List Asr)):Prop where
  eq:A++B=C
instance App.nil:App [] B B:=⟨rfl⟩
instance App.cons [h:App N B R]:App (pp::N) B (pp::R):=⟨congrArg (pp::·) h.eq⟩
theorem St.cl [h:App N M R] (hS:St w0 w X B M) (hc:St w w' noX [] N):St w0 w' X B R:=h.eq▸hS.call hc
class Del (i:Nat) (M:List Asr) (p:outParam Asr) (R:outParam (List Asr)):Prop where
  get:M[i]? = some p
  eq:M.eraseIdx i=R
instance Del.zero:Del 0 (pp::M) pp M:=⟨rfl,rfl⟩
instance Del.succ [h:Del i M pp R]:Del (i+1) (qq::M) pp (qq::R):=⟨h.get,congrArg (qq::·) h.eq⟩
theorem St.fr (hS:St w0 w X B M) (i:Nat) [h:Del i M pp R]:St w0 w X B (pp::R):=hS.front h.get (congrArg (pp::·) h.eq)
theorem bl {a b:Nat} (h:Nat.ble a b=true):a≤b:=Nat.le_of_ble_eq_true h
theorem St.p {b:Nat} {o:Obj} (h:St w0 w X B M) (i:Nat) (hi:M[i]? = some (pt b o)):w.heap[b]? = some o:=h.ptAt hi
theorem St.b {T:Type} {sz:Nat} {enc:T→List Value} {l:List T} (h:St w0 w X B M) (j:Nat) (hi:B[j]? = some (rdE sz enc v l)):rdEOK (hp w) sz enc v l:=h.rdB hi
theorem St.s {T:Type} {e sz:Nat} {enc:T→List Value} {l:List T} (h:St w0 w X B M) (j:Nat) (hi:M[j]? = some (slE e sz enc v l)):rdEOK (hp w) sz enc v l:=h.rdS hi
class Sel (bs:List Nat) (M:List Asr) (N:outParam (List Asr)):Prop where
  sub:N.Sublist M
instance Sel.nil:Sel [] M []:=⟨List.nil_sublist _⟩
instance Sel.one {bs:List Nat} [h:Sel bs M N]:Sel (1::bs) (pp::M) (pp::N):=⟨h.sub.cons_cons _⟩
instance Sel.zero {bs:List Nat} [h:Sel bs M N]:Sel (0::bs) (pp::M) N:=⟨h.sub.cons _⟩
theorem St.sl (hS:St w0 w X B M) (bs:List Nat) [h:Sel bs M N]:St w0 w X B N:=hS.sub h.sub
def pk (L:List (Nat × Value)):List (Nat × Value)→List (Nat × Value)
  | []=>[]
  | (k,_)::t=>match lk L k with
    | some v=>(k,v)::pk L t
    | none=>[]
theorem pk_subs:∀ {L':List (Nat × Value)},pk L L'=L'→Subs L L'
  | [],_=>trivial
  | (k,v)::t,h=>by
    simp only [pk] at h
    split at h
    · rename_i u hu
      simp only [List.cons.injEq,Prod.mk.injEq,true_and] at h
      exact ⟨h.1▸hu,pk_subs h.2⟩
    · cases h
theorem Fr.q {L':List (Nat × Value)} (h:Fr a n ds L) (e:pk L L'=L'):Fr a n ds L':=h.to (pk_subs e)
def gpk (n:Nat) (L:List (Nat × Value)) (ops:Array Oper):Option Oper→Option (Nat × Op × TypeId × Bool × Bool)
  | some ⟨some d,op,ty,_,_,some (jj,want)⟩=>match (ops[jj]?).bind (·.dst) with
    | some dj=>match lk L dj,noDefer op,Nat.blt d n with
      | some (.bool c),true,true=>some (d,op,ty,c,want)
      | _,_,_=>none
    | none=>none
  | _=>none
theorem sk {c want:Bool} (hf:Fr a n ds L) (h:gpk n L ops ops[i]? = some (d,op,ty,c,want)) (hc:c=!want) (k:∀ a',Fr a' n ds ((d,undef)::L)→O r P ops Q rest a' w):O r P ops Q (i::rest) a w:=by
  unfold gpk at h
  split at h
  · split at h
    · split at h
      · cases h
        exact O.skipB hf (by assumption) (by assumption) (by assumption) hc (by assumption) k
      · cases h
    · cases h
  · cases h
def clk (n:Nat) (L:List (Nat × Value)):Option Oper→Option (Nat × FuncId × Array Value)
  | some ⟨some d,.call ⟨.value f,args,_⟩,_,_,_,none⟩=>match Nat.blt d n,ev L f,evA L args.toList with
    | true,some (.func (.func fid) first captured),some vs=>some (d,fid,(first.toList++(vs++captured.toList)).toArray)
    | _,_,_=>none
  | _=>none
theorem oc {f:FuncId} {av:Array Value} {G:Type} {u:G→Value} {R:G→World→Prop} (hf:Fr a n ds L) (h:clk n L ops[i]? = some (d,f,av)) (hk:callOK P f=true) (hc:Ret P f av w u R)
    (k:∀ g w',R g w'→∀ a',Fr a' n ds ((d,u g)::L)→O r P ops Q rest a' w'):O r P ops Q (i::rest) a w:=by
  unfold clk at h
  split at h
  · split at h
    · cases h
      exact O.callR hf (by assumption) rfl (by assumption) (RunE.call hk (by assumption) (by assumption) (by apply Array.ext'; simp)) hc k
    · cases h
  · cases h
class SetA (j:Nat) (M:List Asr) (q:Asr) (M':outParam (List Asr)):Prop where
  eq:M.set j q=M'
instance SetA.zero:SetA 0 (pp::M) qq (qq::M):=⟨rfl⟩
instance SetA.succ {j:Nat} [h:SetA j M qq R]:SetA (j+1) (pp::M) qq (pp::R):=⟨congrArg (pp::·) h.eq⟩
end
end Go.SL

namespace Go.SL
open Go
section
variable {r:Option Nat} {P:Program} {ops:Array Oper} {i n:Nat} {ds:List Deferred} {L:List (Nat × Value)} {a:Act} {w:World}
theorem gt {d:Nat} {v:Value} (hf:Fr a n ds L) (h:dstOf ops i=some d) (hl:lk L d=some v):∀ d',dstOf ops i=some d'→a.tmps[d']? = some v:=fun d' h'=>by
  rw [h] at h'
  cases h'
  exact hf.get _ _ hl
end
end Go.SL

namespace Go.SL
open Go
section
variable {r:Option Nat} {P:Program} {ops:Array Oper} {Q:Exit→Act→World→Prop} {a:Act} {w w0:World} {n:Nat} {ds:List Deferred} {L:List (Nat × Value)} {X:Nat→Prop} {B M:List Asr}
theorem O.buildC {i d j m len:Nat} {t ty e:TypeId} {rest:List Nat} {pos:String} {af:Array Edge} {z:Value} {c:Bool} {p:Asr} {parts:Array (Nat × Operand)} {vs:List (Nat × Value)} {cs' zs:Array Value}
    (hf:Fr a n ds L) (hS:St w0 w X B M) (hj:M[j]? = some (condA c p)) (hc:c=false) (ho:ops[i]? = some ⟨some d,.buildSlice t len parts,ty,pos,af,none⟩) (hd:Nat.blt d n=true)
    (he:tElem P t=some e) (hs:tSize P e=some m) (hz:tZero P e=some z) (h0:Nat.ble (len*m) 16777216=true) (h1:Nat.blt 0 (len*m)=true) (hzs:((List.range (len*m)).map (z.cells[· % z.cells.size]!)).toArray=zs)
    (hv:evP L parts.toList=some vs) (hb:Instr.fill (fun i=>some (i*m,m)) zs vs=some cs')
    (k:∀ b w' a',St w0 w' X B (M.set j (pt b (.cells cs' e (0,0))))→Fr a' n ds ((d,.slice (some ⟨b,0,none⟩) len len)::L)→O r P ops Q rest a' w'):O r P ops Q (i::rest) a w:=by
  refine O.buildSlice hf hS ho hd he hs hz h0 h1 hzs hv hb (fun b w' a' hb hS' hf'=>k b w' a' ?_ hf')
  subst hc
  have h1:=hS'.sep
  obtain ⟨hjl,hje⟩:=List.getElem?_eq_some_iff.1 hj
  refine ⟨hS'.os,hS'.tape,hS'.output,hS'.size,hS'.old,?_,hS'.bor⟩
  have hp:=h1.1
  have hM:=h1.2
  clear h1 hS hS' k hf hf' ho
  revert j
  induction M with
  | nil=>intro j hj hjl _; simp at hj
  | cons q t ih =>
    intro j hj hjl hje
    cases j with
    | zero =>
      simp only [List.set_cons_zero]
      exact ⟨⟨hp.1,hp.2.1,fun s hs=>hp.2.2 s (by simp [hs])⟩,hM.2⟩
    | succ j =>
      simp only [List.set_cons_succ]
      have h2:=ih ⟨hp.1,hp.2.1,fun s hs=>hp.2.2 s (by simp [hs])⟩ hM.2 (j:=j) (by simpa using hj) (by simpa using hjl) (by simpa using hje)
      refine ⟨⟨hM.1.1,hM.1.2.1,fun s hs b' hb' hsb=>?_⟩,h2⟩
      rcases List.mem_or_eq_of_mem_set hs with h3 | h3
      · exact hM.1.2.2 s h3 b' hb' hsb
      · subst h3
        exact hp.2.2 q (by simp) b' hsb hb'
end
section
variable {r:Option Nat} {P:Program} {ops:Array Oper} {Q:Exit→Act→World→Prop} {a:Act} {w w0:World} {n:Nat} {ds:List Deferred} {γ:Type} {X:Nat→Prop} {B M:List Asr}
theorem oj {T:Type} {x y:T} (h:some x=some y):x=y:=Option.some.inj h
def Lq (v:Nat→Value) (i:Nat) (l:List Nat) (N:Nat):List Value:=(List.range N).map fun j=>match Nat.beq j i||l.contains j with
  | true=>undef
  | false=>v j
end
end Go.SL

namespace Go.Proofs.YtgakdmmmljdpjaaDoor
open Go Go.SL
theorem C_ok_33:callOK Tryd.prog 33=true:=by kernel_rfl
set_option maxHeartbeats 400000 in
set_option maxRecDepth 4000 in
theorem cloneC_nil (k c:Nat) (w0:World) :
    Ret Tryd.prog 33 #[.slice none k c] w0 (G:=Unit) (fun _=>.slice none 0 0) (fun _ w=>St w0 w noX [] []):=by
  refine ret_of_W (lv:=[.slice none k c]) Tryd.func33 rfl rfl rfl (fun a hf=>?_)
  replace hf:Fr a 8 [] [(0,.slice none k c)]:=hf
  have hS:St w0 w0 noX [] []:=St.refl w0
  refine W.seq ?_
  refine W.regionL (l:=[0]) rfl ?_
  refine O.val hf rfl rfl rfl (RunV.assign rfl) ?_
  clear hf a; intro a hf
  refine O.nil ?_
  refine k_seq ?_
  refine W.seq ?_
  refine W.seq ?_
  refine W.regionL (l:=[0,1]) rfl ?_
  refine O.val hf rfl rfl rfl (RunV.move rfl) ?_
  clear hf a; intro a hf
  refine O.val hf rfl rfl rfl (RunV.eqNil1 T_elem_22 rfl rfl rfl) ?_
  clear hf a; intro a hf
  refine O.nil ?_
  refine k_seq ?_
  replace hf:Fr a 8 [] [(0,.slice none k c),(2,.slice none 0 0),(4,.bool true)]:=hf.to ⟨rfl,rfl,rfl,trivial⟩
  refine W.if_tt hf rfl ?_
  refine W.seq ?_
  refine W.regionL (l:=[0]) rfl ?_
  refine O.val hf rfl rfl rfl (RunV.assign rfl) ?_
  clear hf a; intro a hf
  refine O.nil ?_
  refine k_seq ?_
  replace hf:Fr a 8 [] [(0,.slice none k c),(2,.slice none 0 0)]:=hf.to ⟨rfl,rfl,trivial⟩
  refine W.ret ?_
  refine k_then_ret ?_
  refine post1 hf rfl (ResOK.tmp rfl) ?_
  exact ⟨(),rfl,hS.sub (List.nil_sublist _) |>.noB⟩
theorem cloneC_spec (vl:Value) (l:List Ch) (w0:World) (hfit:vfit vl) (hl:rdOK (hp w0) 12 vl l.length (encs eC l)) (hz:l.length≤1000000) :
    Ret Tryd.prog 33 #[vl] w0 (G:=Value) (fun g=>g) (fun g w=>St w0 w noX [] [slE 26 12 eC g l]):=by
  have hl2:=hl
  obtain ⟨_,_,A,c,rfl,h3⟩:=hl2
  cases A with
  | some ad=>exact cloneC_some _ l ad c w0 rfl hfit hl hz
  | none =>
    have h0:l=[]:=by
      cases l with
      | nil=>rfl
      | cons x t=>obtain ⟨a,_,_,_,h4,_⟩:=h3 (by simp); cases h4
    subst h0
    refine Calls.mono (cloneC_nil _ _ w0) fun e w' he=>?_
    obtain ⟨_,he,hR⟩:=he
    exact ⟨_,he,hR.nilSl 26 12⟩
set_option maxHeartbeats 400000 in
set_option maxRecDepth 4000 in
theorem apply_err2 (vl:Value) (l:List Ch) (c:Ch) (w0:World) (hG:Lent w0 ordA) (hl:rdOK (hp w0) 12 vl l.length (encs eC l)) (hfit:vfit vl) (hz:l.length≤1000) (S:List PG) (us:List Bool) (hm:histM l=.ok (S,us)) (hc:okC c=true) (e:Int) (hm2:histM (l++[c])=.error e) :
    Ret Tryd.prog 11 #[vl,.agg #[.int .u8 c.kind,.int .i64 c.a.num,.int .i64 c.a.yr,.int .u8 c.a.half,.int .u8 c.a.sec,.int .i64 c.a.cyc,.int .i64 c.b.num,.int .i64 c.b.yr,.int .u8 c.b.half,.int .u8 c.b.sec,.int .i64 c.b.cyc,.int .i64 c.n]] w0 (G:=Unit) (fun _=>.tuple #[.slice none 0 0,.int .i64 e]) (fun _ w=>St w0 w noX [] []):=by
  refine ret_of_W (lv:=[vl,.agg #[.int .u8 c.kind,.int .i64 c.a.num,.int .i64 c.a.yr,.int .u8 c.a.half,.int .u8 c.a.sec,.int .i64 c.a.cyc,.int .i64 c.b.num,.int .i64 c.b.yr,.int .u8 c.b.half,.int .u8 c.b.sec,.int .i64 c.b.cyc,.int .i64 c.n]]) Tryd.func11 rfl rfl rfl (fun a hf=>?_)
  replace hf:Fr a 43 [] [(0,vl),(1,.agg #[.int .u8 c.kind,.int .i64 c.a.num,.int .i64 c.a.yr,.int .u8 c.a.half,.int .u8 c.a.sec,.int .i64 c.a.cyc,.int .i64 c.b.num,.int .i64 c.b.yr,.int .u8 c.b.half,.int .u8 c.b.sec,.int .i64 c.b.cyc,.int .i64 c.n])]:=hf
  have hS:St w0 w0 noX [ordA,rdv 12 vl l.length (encs eC l)] []:=((St.refl w0).lend0 hl).lendA hG
  have hlm:=hl.2.1
  unfold maxLen at hlm
  have he0:=histM_ne hm2
  refine W.seq ?_
  refine W.regionL (l:=[0,1,2]) rfl ?_
  refine O.box (cs:=#[.int .u8 c.kind,.int .i64 c.a.num,.int .i64 c.a.yr,.int .u8 c.a.half,.int .u8 c.a.sec,.int .i64 c.a.cyc,.int .i64 c.b.num,.int .i64 c.b.yr,.int .u8 c.b.half,.int .u8 c.b.sec,.int .i64 c.b.cyc,.int .i64 c.n]) hf hS rfl rfl rfl rfl ?_
  clear hf hS a; intro b_c1 w a hbb_c1 hS hf
  refine O.val hf rfl rfl rfl (RunV.assign rfl) ?_
  clear hf a; intro a hf
  refine O.val hf rfl rfl rfl (RunV.assign rfl) ?_
  clear hf a; intro a hf
  refine O.nil ?_
  refine k_seq ?_
  replace hf:Fr a 43 [] [(0,vl),(3,.pointer (some ⟨b_c1,0,none⟩)),(4,.slice none 0 0),(5,.int .i64 0)]:=hf.to ⟨rfl,rfl,rfl,rfl,trivial⟩
  refine W.seq ?_
  refine W.seq ?_
  refine W.regionL (l:=[0,1,2,3,4,5,6,7,8]) rfl ?_
  refine O.val hf rfl rfl rfl (RunV.move rfl) ?_
  clear hf a; intro a hf
  refine O.callR hf rfl rfl rfl (RunE.call (av:=#[vl]) C_ok_32 rfl rfl rfl) (history_ok vl l _ (hS.bptO (i:=0) rfl) (hS.rdAt (j:=1) rfl) hfit hm) ?_
  clear hf a
  rintro ⟨uv,bm,kvs,gs⟩ w2 ⟨hS1,hI⟩ a hf
  replace hf:Fr a _ _ ((16,.tuple #[.map (some bm),uv,.int .i64 0])::_):=hf
  replace hS:=(hS.call hS1).eqM (N:=[stA 95 24 bm kvs gs,sl 4 1 uv us.length (bools us),pt b_c1 (.cells #[.int .u8 c.kind,.int .i64 c.a.num,.int .i64 c.a.yr,.int .u8 c.a.half,.int .u8 c.a.sec,.int .i64 c.a.cyc,.int .i64 c.b.num,.int .i64 c.b.yr,.int .u8 c.b.half,.int .u8 c.b.sec,.int .i64 c.b.cyc,.int .i64 c.n] 26 (0,0))]) rfl
  clear hS1
  refine O.val hf rfl rfl rfl (RunV.move rfl) ?_
  clear hf a; intro a hf
  refine O.val hf rfl rfl rfl (RunV.extract rfl rfl) ?_
  clear hf a; intro a hf
  refine O.val hf rfl rfl rfl (RunV.extract rfl rfl) ?_
  clear hf a; intro a hf
  refine O.val hf rfl rfl rfl (RunV.extract rfl rfl) ?_
  clear hf a; intro a hf
  refine O.val hf rfl rfl rfl (RunV.assign rfl) ?_
  clear hf a; intro a hf
  refine O.val hf rfl rfl rfl (RunV.assign rfl) ?_
  clear hf a; intro a hf
  refine O.val hf rfl rfl rfl (RunV.assign rfl) ?_
  clear hf a; intro a hf
  refine O.nil ?_
  refine k_seq ?_
  replace hf:Fr a 43 [] [(0,vl),(3,.pointer (some ⟨b_c1,0,none⟩)),(4,.slice none 0 0),(5,.int .i64 0),(8,.int .i64 0)]:=hf.to ⟨rfl,rfl,rfl,rfl,rfl,trivial⟩
  refine W.seq ?_
  refine W.regionL (l:=[0,1]) rfl ?_
  refine O.val hf rfl rfl rfl (RunV.move rfl) ?_
  clear hf a; intro a hf
  refine O.val hf rfl rfl rfl (RunV.toB (c:=false) (RunV.neq rfl rfl) (by decide)) ?_
  clear hf a; intro a hf
  refine O.nil ?_
  refine k_seq ?_
  replace hf:Fr a 43 [] [(0,vl),(3,.pointer (some ⟨b_c1,0,none⟩)),(4,.slice none 0 0),(5,.int .i64 0),(8,.int .i64 0),(21,.bool false)]:=hf.to ⟨rfl,rfl,rfl,rfl,rfl,rfl,trivial⟩
  refine W.if_ff hf rfl ?_
  refine W.skip ?_
  refine k_seq ?_
  replace hf:Fr a 43 [] [(0,vl),(3,.pointer (some ⟨b_c1,0,none⟩)),(4,.slice none 0 0),(5,.int .i64 0)]:=hf.to ⟨rfl,rfl,rfl,rfl,trivial⟩
  refine W.seq ?_
  refine W.seq ?_
  refine W.regionL (l:=[0,1,2]) rfl ?_
  refine O.val hf rfl rfl rfl (RunV.loadN (cs':=#[.int .u8 c.kind,.int .i64 c.a.num,.int .i64 c.a.yr,.int .u8 c.a.half,.int .u8 c.a.sec,.int .i64 c.a.cyc,.int .i64 c.b.num,.int .i64 c.b.yr,.int .u8 c.b.half,.int .u8 c.b.sec,.int .i64 c.b.cyc,.int .i64 c.n]) T_agg_26 T_size_26 rfl (hS.ptAt (i:=2) rfl) (Nat.le_of_ble_eq_true rfl) rfl) ?_
  clear hf a; intro a hf
  refine O.callR hf rfl rfl rfl (RunE.call (av:=#[.agg #[.int .u8 c.kind,.int .i64 c.a.num,.int .i64 c.a.yr,.int .u8 c.a.half,.int .u8 c.a.sec,.int .i64 c.a.cyc,.int .i64 c.b.num,.int .i64 c.b.yr,.int .u8 c.b.half,.int .u8 c.b.sec,.int .i64 c.b.cyc,.int .i64 c.n]]) C_ok_25 rfl rfl rfl) (checkC_ok c _ (hS.bptO (i:=0) rfl) hc) ?_
  clear hf a
  rintro _ w3 hS1 a hf
  replace hf:Fr a _ _ ((24,.int .i64 0)::_):=hf
  replace hS:=(hS.call hS1).eqM (N:=[stA 95 24 bm kvs gs,sl 4 1 uv us.length (bools us),pt b_c1 (.cells #[.int .u8 c.kind,.int .i64 c.a.num,.int .i64 c.a.yr,.int .u8 c.a.half,.int .u8 c.a.sec,.int .i64 c.a.cyc,.int .i64 c.b.num,.int .i64 c.b.yr,.int .u8 c.b.half,.int .u8 c.b.sec,.int .i64 c.b.cyc,.int .i64 c.n] 26 (0,0))]) rfl
  clear hS1
  refine O.val hf rfl rfl rfl (RunV.assign rfl) ?_
  clear hf a; intro a hf
  refine O.nil ?_
  refine k_seq ?_
  replace hf:Fr a 43 [] [(0,vl),(3,.pointer (some ⟨b_c1,0,none⟩)),(4,.slice none 0 0),(5,.int .i64 0),(9,.int .i64 0)]:=hf.to ⟨rfl,rfl,rfl,rfl,rfl,trivial⟩
  refine W.seq ?_
  refine W.regionL (l:=[0,1]) rfl ?_
  refine O.val hf rfl rfl rfl (RunV.move rfl) ?_
  clear hf a; intro a hf
  refine O.val hf rfl rfl rfl (RunV.toB (c:=false) (RunV.neq rfl rfl) (by decide)) ?_
  clear hf a; intro a hf
  refine O.nil ?_
  refine k_seq ?_
  replace hf:Fr a 43 [] [(0,vl),(3,.pointer (some ⟨b_c1,0,none⟩)),(4,.slice none 0 0),(5,.int .i64 0),(9,.int .i64 0),(26,.bool false)]:=hf.to ⟨rfl,rfl,rfl,rfl,rfl,rfl,trivial⟩
  refine W.if_ff hf rfl ?_
  refine W.skip ?_
  refine k_seq ?_
  replace hf:Fr a 43 [] [(0,vl),(3,.pointer (some ⟨b_c1,0,none⟩)),(4,.slice none 0 0),(5,.int .i64 0)]:=hf.to ⟨rfl,rfl,rfl,rfl,trivial⟩
  refine W.seq ?_
  have hf1:Fr a 43 [] []:=hf.to trivial
  replace hf:Fr a 43 [] [(0,vl),(3,.pointer (some ⟨b_c1,0,none⟩)),(4,.slice none 0 0),(5,.int .i64 0)]:=hf.to ⟨rfl,rfl,rfl,rfl,trivial⟩
  replace hS:=hS.drew
  replace hS:=hS.emp
  let LZ164:List (Nat × Value):=[(0,vl),(3,.pointer (some ⟨b_c1,0,none⟩)),(4,.slice none 0 0),(5,.int .i64 0)]
  let MZ164:List Asr:=[stA 95 24 bm kvs gs,sl 4 1 uv us.length (bools us),pt b_c1 (.cells #[.int .u8 c.kind,.int .i64 c.a.num,.int .i64 c.a.yr,.int .u8 c.a.half,.int .u8 c.a.sec,.int .i64 c.a.cyc,.int .i64 c.b.num,.int .i64 c.b.yr,.int .u8 c.b.half,.int .u8 c.b.sec,.int .i64 c.b.cyc,.int .i64 c.n] 26 (0,0))]
  refine W.drawC (γ:=(Nat) × (Value) × (Value)) (L0:=LZ164) (L1:=[]) (0,default,default) [1,4] [3] [0,2,5] (fun i=>match i with | 1=>[0] | 3=>[2] | 4=>[1,3] | 5=>[0,1,2,3,4] | _=>[]) (fun i=>match i with | 4=>[1,3] | 5=>[1,4,3] | _=>[]) (fun i=>match i with | 0=>[1,4] | 1=>[4] | 2=>[4] | 3=>[4] | _=>[]) (fun i=>match i with | 4=>[3] | 5=>[3] | _=>[]) (fun i=>match i with | 1=>[4,5] | 3=>[4,5] | 4=>[5] | _=>[]) (fun _=>[]) (fun i=>match i with | 4=>1 | 5=>2 | _=>0) (fun i=>match i with | 1=>1 | 2=>1 | 3=>1 | 4=>2 | 5=>2 | _=>0) (fun (g:(Nat) × (Value) × (Value)) j=>match g,j with | ⟨b_s4,cv,v6⟩,0=>vl | ⟨b_s4,cv,v6⟩,1=>cv | ⟨b_s4,cv,v6⟩,2=>.agg #[.int .u8 c.kind,.int .i64 c.a.num,.int .i64 c.a.yr,.int .u8 c.a.half,.int .u8 c.a.sec,.int .i64 c.a.cyc,.int .i64 c.b.num,.int .i64 c.b.yr,.int .u8 c.b.half,.int .u8 c.b.sec,.int .i64 c.b.cyc,.int .i64 c.n] | ⟨b_s4,cv,v6⟩,3=>.slice (some ⟨b_s4,0,none⟩) 1 1 | ⟨b_s4,cv,v6⟩,4=>v6 | ⟨b_s4,cv,v6⟩,5=>v6 | _,_=>undef) (fun k s (g:(Nat) × (Value) × (Value)) w=>match k,g with | 0,⟨b_s4,cv,v6⟩=>St w0 w noX [ordA,rdv 12 vl l.length (encs eC l)] (condA (s 3) (pt b_s4 (.cells #[.int .u8 c.kind,.int .i64 c.a.num,.int .i64 c.a.yr,.int .u8 c.a.half,.int .u8 c.a.sec,.int .i64 c.a.cyc,.int .i64 c.b.num,.int .i64 c.b.yr,.int .u8 c.b.half,.int .u8 c.b.sec,.int .i64 c.b.cyc,.int .i64 c.n] 26 (0,0)))::MZ164) | 1,⟨b_s4,cv,v6⟩=>St w0 w noX [ordA,rdv 12 vl l.length (encs eC l)] (sl 26 12 cv l.length (encs eC l)::condA (s 3) (pt b_s4 (.cells #[.int .u8 c.kind,.int .i64 c.a.num,.int .i64 c.a.yr,.int .u8 c.a.half,.int .u8 c.a.sec,.int .i64 c.a.cyc,.int .i64 c.b.num,.int .i64 c.b.yr,.int .u8 c.b.half,.int .u8 c.b.sec,.int .i64 c.b.cyc,.int .i64 c.n] 26 (0,0)))::MZ164) | _,⟨b_s4,cv,v6⟩=>St w0 w noX [ordA,rdv 12 vl l.length (encs eC l)] (sl 26 12 v6 ((l++[c]).length) (encs eC (l++[c]))::pt b_s4 (.cells #[.int .u8 c.kind,.int .i64 c.a.num,.int .i64 c.a.yr,.int .u8 c.a.half,.int .u8 c.a.sec,.int .i64 c.a.cyc,.int .i64 c.b.num,.int .i64 c.b.yr,.int .u8 c.b.half,.int .u8 c.b.sec,.int .i64 c.b.cyc,.int .i64 c.n] 26 (0,0))::MZ164)) P_mixed (by kernel_rfl) (by kernel_rfl) (by kernel_rfl) hf hf1 hS ?_ ?_ ?_ ?_
  · clear hf hf1 hS
    refine ⟨?_,?_,?_,trivial⟩
    · intro k s g w h1_ h2_ hsp hD a hf
      obtain ⟨b_s4,cv,v6⟩:=g
      rcases k with _ | k
      · have hS:St w0 w noX [ordA,rdv 12 vl l.length (encs eC l)] (condA (s 3) (pt b_s4 (.cells #[.int .u8 c.kind,.int .i64 c.a.num,.int .i64 c.a.yr,.int .u8 c.a.half,.int .u8 c.a.sec,.int .i64 c.a.cyc,.int .i64 c.b.num,.int .i64 c.b.yr,.int .u8 c.b.half,.int .u8 c.b.sec,.int .i64 c.b.cyc,.int .i64 c.n] 26 (0,0)))::MZ164):=hD;
        replace hf:Fr a 43 [] LZ164:=hf
        refine O.val hf rfl rfl rfl (RunV.move rfl) ?_
        clear hf a; intro a hf
        exact O.nil ⟨rfl,hf.to trivial,(gt (d:=28) hf rfl rfl),hD⟩
      · exact absurd h2_ (by simp)
    · intro k s g w h1_ h2_ hsp hD a hf
      obtain ⟨b_s4,cv,v6⟩:=g
      rcases k with _ | _ | k
      · have hS:St w0 w noX [ordA,rdv 12 vl l.length (encs eC l)] (condA (s 3) (pt b_s4 (.cells #[.int .u8 c.kind,.int .i64 c.a.num,.int .i64 c.a.yr,.int .u8 c.a.half,.int .u8 c.a.sec,.int .i64 c.a.cyc,.int .i64 c.b.num,.int .i64 c.b.yr,.int .u8 c.b.half,.int .u8 c.b.sec,.int .i64 c.b.cyc,.int .i64 c.n] 26 (0,0)))::MZ164):=hD;
        replace hf:Fr a 43 [] LZ164:=hf
        refine O.val hf rfl rfl rfl (RunV.loadN (cs':=#[.int .u8 c.kind,.int .i64 c.a.num,.int .i64 c.a.yr,.int .u8 c.a.half,.int .u8 c.a.sec,.int .i64 c.a.cyc,.int .i64 c.b.num,.int .i64 c.b.yr,.int .u8 c.b.half,.int .u8 c.b.sec,.int .i64 c.b.cyc,.int .i64 c.n]) T_agg_26 T_size_26 rfl (hS.ptAt (i:=3) rfl) (Nat.le_of_ble_eq_true rfl) rfl) ?_
        clear hf a; intro a hf
        exact O.nil ⟨rfl,hf.to trivial,(gt (d:=30) hf rfl rfl),hD⟩
      · have hS:St w0 w noX [ordA,rdv 12 vl l.length (encs eC l)] (sl 26 12 cv l.length (encs eC l)::condA (s 3) (pt b_s4 (.cells #[.int .u8 c.kind,.int .i64 c.a.num,.int .i64 c.a.yr,.int .u8 c.a.half,.int .u8 c.a.sec,.int .i64 c.a.cyc,.int .i64 c.b.num,.int .i64 c.b.yr,.int .u8 c.b.half,.int .u8 c.b.sec,.int .i64 c.b.cyc,.int .i64 c.n] 26 (0,0)))::MZ164):=hD;
        replace hf:Fr a 43 [] LZ164:=hf
        refine O.val hf rfl rfl rfl (RunV.loadN (cs':=#[.int .u8 c.kind,.int .i64 c.a.num,.int .i64 c.a.yr,.int .u8 c.a.half,.int .u8 c.a.sec,.int .i64 c.a.cyc,.int .i64 c.b.num,.int .i64 c.b.yr,.int .u8 c.b.half,.int .u8 c.b.sec,.int .i64 c.b.cyc,.int .i64 c.n]) T_agg_26 T_size_26 rfl (hS.ptAt (i:=4) rfl) (Nat.le_of_ble_eq_true rfl) rfl) ?_
        clear hf a; intro a hf
        exact O.nil ⟨rfl,hf.to trivial,(gt (d:=30) hf rfl rfl),hD⟩
      · exact absurd h2_ (by simp)
    · intro k s g w h1_ h2_ hsp hD a hf
      obtain ⟨b_s4,cv,v6⟩:=g
      rcases k with _ | _ | _ | k
      · exact absurd h1_ (by decide)
      · exact absurd h1_ (by decide)
      · have ha_:s 3=true:=hsp 3 (by simp)
        have hS:St w0 w noX [ordA,rdv 12 vl l.length (encs eC l)] (sl 26 12 v6 ((l++[c]).length) (encs eC (l++[c]))::pt b_s4 (.cells #[.int .u8 c.kind,.int .i64 c.a.num,.int .i64 c.a.yr,.int .u8 c.a.half,.int .u8 c.a.sec,.int .i64 c.a.cyc,.int .i64 c.b.num,.int .i64 c.b.yr,.int .u8 c.b.half,.int .u8 c.b.sec,.int .i64 c.b.cyc,.int .i64 c.n] 26 (0,0))::MZ164):=hD;
        replace hS:St w0 w noX [ordA,rdv 12 vl l.length (encs eC l)] (sl 26 12 v6 ((l++[c]).length) (encs eC (l++[c]))::pt b_s4 (.cells #[.int .u8 c.kind,.int .i64 c.a.num,.int .i64 c.a.yr,.int .u8 c.a.half,.int .u8 c.a.sec,.int .i64 c.a.cyc,.int .i64 c.b.num,.int .i64 c.b.yr,.int .u8 c.b.half,.int .u8 c.b.sec,.int .i64 c.b.cyc,.int .i64 c.n] 26 (0,0))::MZ164):=hS
        replace hf:Fr a 43 [] ((28,vl)::(29,cv)::(30,.agg #[.int .u8 c.kind,.int .i64 c.a.num,.int .i64 c.a.yr,.int .u8 c.a.half,.int .u8 c.a.sec,.int .i64 c.a.cyc,.int .i64 c.b.num,.int .i64 c.b.yr,.int .u8 c.b.half,.int .u8 c.b.sec,.int .i64 c.b.cyc,.int .i64 c.n])::(31,.slice (some ⟨b_s4,0,none⟩) 1 1)::(32,v6)::LZ164):=hf
        refine O.val hf rfl rfl rfl (RunV.assign rfl) ?_
        clear hf a; intro a hf
        exact O.nil ⟨rfl,hf.to trivial,(gt (d:=10) hf rfl rfl),hD⟩
      · exact absurd h2_ (by simp)
  · clear hf hf1 hS
    refine ⟨?_,?_,trivial⟩
    · intro s g w hsp hD a hf
      obtain ⟨b_s4,cv,v6⟩:=g
      have hS:St w0 w noX [ordA,rdv 12 vl l.length (encs eC l)] (condA (s 3) (pt b_s4 (.cells #[.int .u8 c.kind,.int .i64 c.a.num,.int .i64 c.a.yr,.int .u8 c.a.half,.int .u8 c.a.sec,.int .i64 c.a.cyc,.int .i64 c.b.num,.int .i64 c.b.yr,.int .u8 c.b.half,.int .u8 c.b.sec,.int .i64 c.b.cyc,.int .i64 c.n] 26 (0,0)))::MZ164):=hD;
      replace hf:Fr a 43 [] ((28,vl)::LZ164):=hf
      clear hD
      refine O.callR hf rfl rfl rfl (RunE.call (av:=#[vl]) C_ok_33 rfl rfl rfl) (cloneC_spec vl l _ hfit (hS.rdAt (j:=1) rfl) (by omega)) ?_
      clear hf a
      rintro cv w7 hS1 a hf
      replace hf:Fr a _ _ ((29,cv)::_):=hf
      replace hS:=(hS.call hS1).eqM (N:=(sl 26 12 cv l.length (encs eC l)::condA (s 3) (pt b_s4 (.cells #[.int .u8 c.kind,.int .i64 c.a.num,.int .i64 c.a.yr,.int .u8 c.a.half,.int .u8 c.a.sec,.int .i64 c.a.cyc,.int .i64 c.b.num,.int .i64 c.b.yr,.int .u8 c.b.half,.int .u8 c.b.sec,.int .i64 c.b.cyc,.int .i64 c.n] 26 (0,0)))::MZ164)) rfl
      clear hS1
      exact O.nil ⟨rfl,(b_s4,cv,v6),hf.to trivial,(gt (d:=29) hf rfl rfl),(fun j_ hj_ ha_=>match j_,hj_,ha_ with | 0,hj_,ha_=>rfl | 1,hj_,ha_=>absurd rfl hj_ | 2,hj_,ha_=>rfl | 3,hj_,ha_=>rfl | 4,hj_,ha_=>absurd ha_ (by decide) | 5,hj_,ha_=>absurd ha_ (by decide) | _+6,_,_=>rfl),hS⟩
    · intro s g w hsp hD a hf
      obtain ⟨b_s4,cv,v6⟩:=g
      have ha_:s 3=true:=hsp 3 (by simp)
      have hS:St w0 w noX [ordA,rdv 12 vl l.length (encs eC l)] (sl 26 12 cv l.length (encs eC l)::condA (s 3) (pt b_s4 (.cells #[.int .u8 c.kind,.int .i64 c.a.num,.int .i64 c.a.yr,.int .u8 c.a.half,.int .u8 c.a.sec,.int .i64 c.a.cyc,.int .i64 c.b.num,.int .i64 c.b.yr,.int .u8 c.b.half,.int .u8 c.b.sec,.int .i64 c.b.cyc,.int .i64 c.n] 26 (0,0)))::MZ164):=hD; rw [ha_] at hS
      replace hS:St w0 w noX [ordA,rdv 12 vl l.length (encs eC l)] (sl 26 12 cv l.length (encs eC l)::pt b_s4 (.cells #[.int .u8 c.kind,.int .i64 c.a.num,.int .i64 c.a.yr,.int .u8 c.a.half,.int .u8 c.a.sec,.int .i64 c.a.cyc,.int .i64 c.b.num,.int .i64 c.b.yr,.int .u8 c.b.half,.int .u8 c.b.sec,.int .i64 c.b.cyc,.int .i64 c.n] 26 (0,0))::MZ164):=hS
      replace hf:Fr a 43 [] ((29,cv)::(31,.slice (some ⟨b_s4,0,none⟩) 1 1)::LZ164):=hf
      clear hD
      refine O.append1 (j:=0) (jj:=1) hf hS rfl rfl T_elem_22 T_size_26 T_bytes_26 T_zero_26 rfl rfl rfl rfl rfl rfl rfl rfl (by unfold maxLen; omega) (by omega) ?_
      clear hf hS a; intro v8 w a hS hf
      replace hS:=hS.eqM (N:=(sl 26 12 v8 (l.length+1) (encs eC l++[.int .u8 c.kind,.int .i64 c.a.num,.int .i64 c.a.yr,.int .u8 c.a.half,.int .u8 c.a.sec,.int .i64 c.a.cyc,.int .i64 c.b.num,.int .i64 c.b.yr,.int .u8 c.b.half,.int .u8 c.b.sec,.int .i64 c.b.cyc,.int .i64 c.n])::pt b_s4 (.cells #[.int .u8 c.kind,.int .i64 c.a.num,.int .i64 c.a.yr,.int .u8 c.a.half,.int .u8 c.a.sec,.int .i64 c.a.cyc,.int .i64 c.b.num,.int .i64 c.b.yr,.int .u8 c.b.half,.int .u8 c.b.sec,.int .i64 c.b.cyc,.int .i64 c.n] 26 (0,0))::MZ164)) rfl
      replace hS:=hS.reE (i:=0) (M':=(sl 26 12 v8 ((l++[c]).length) (encs eC (l++[c]))::pt b_s4 (.cells #[.int .u8 c.kind,.int .i64 c.a.num,.int .i64 c.a.yr,.int .u8 c.a.half,.int .u8 c.a.sec,.int .i64 c.a.cyc,.int .i64 c.b.num,.int .i64 c.b.yr,.int .u8 c.b.half,.int .u8 c.b.sec,.int .i64 c.b.cyc,.int .i64 c.n] 26 (0,0))::MZ164)) rfl (sl_snoc (enc:=eC) (l:=l) (x:=c)) rfl
      exact O.nil ⟨rfl,(b_s4,cv,v8),hf.to trivial,(gt (d:=32) hf rfl rfl),(fun j_ hj_ ha_=>match j_,hj_,ha_ with | 0,hj_,ha_=>rfl | 1,hj_,ha_=>rfl | 2,hj_,ha_=>rfl | 3,hj_,ha_=>rfl | 4,hj_,ha_=>absurd rfl hj_ | 5,hj_,ha_=>absurd ha_ (by decide) | _+6,_,_=>rfl),hS⟩
  · clear hf hf1 hS
    refine ⟨?_,trivial⟩
    intro k s g w h1_ h2_ hs0 hD a hf
    obtain ⟨b_s4,cv,v6⟩:=g
    rcases k with _ | _ | k
    · have hS:St w0 w noX [ordA,rdv 12 vl l.length (encs eC l)] (condA (s 3) (pt b_s4 (.cells #[.int .u8 c.kind,.int .i64 c.a.num,.int .i64 c.a.yr,.int .u8 c.a.half,.int .u8 c.a.sec,.int .i64 c.a.cyc,.int .i64 c.b.num,.int .i64 c.b.yr,.int .u8 c.b.half,.int .u8 c.b.sec,.int .i64 c.b.cyc,.int .i64 c.n] 26 (0,0)))::MZ164):=hD; clear hD
      replace hf:Fr a 43 [] ((30,.agg #[.int .u8 c.kind,.int .i64 c.a.num,.int .i64 c.a.yr,.int .u8 c.a.half,.int .u8 c.a.sec,.int .i64 c.a.cyc,.int .i64 c.b.num,.int .i64 c.b.yr,.int .u8 c.b.half,.int .u8 c.b.sec,.int .i64 c.b.cyc,.int .i64 c.n])::LZ164):=hf
      refine O.buildC (j:=0) (cs':=#[.int .u8 c.kind,.int .i64 c.a.num,.int .i64 c.a.yr,.int .u8 c.a.half,.int .u8 c.a.sec,.int .i64 c.a.cyc,.int .i64 c.b.num,.int .i64 c.b.yr,.int .u8 c.b.half,.int .u8 c.b.sec,.int .i64 c.b.cyc,.int .i64 c.n]) (zs:=#[.int .u8 0,.int .i64 0,.int .i64 0,.int .u8 0,.int .u8 0,.int .i64 0,.int .i64 0,.int .i64 0,.int .u8 0,.int .u8 0,.int .i64 0,.int .i64 0]) hf hS rfl hs0 rfl rfl T_elem_22 T_size_26 T_zero_26 rfl rfl (by kernel_rfl) rfl (by kernel_rfl) ?_; clear hf hS a; intro b_s9 w a hS hf
      exact O.nil ⟨rfl,(b_s9,cv,v6),hf.to trivial,(gt (d:=31) hf rfl rfl),(fun j_ hj_ ha_=>match j_,hj_,ha_ with | 0,hj_,ha_=>rfl | 1,hj_,ha_=>rfl | 2,hj_,ha_=>rfl | 3,hj_,ha_=>absurd rfl hj_ | 4,hj_,ha_=>absurd ha_ (by decide) | 5,hj_,ha_=>absurd ha_ (by decide) | _+6,_,_=>rfl),hS⟩
    · have hS:St w0 w noX [ordA,rdv 12 vl l.length (encs eC l)] (sl 26 12 cv l.length (encs eC l)::condA (s 3) (pt b_s4 (.cells #[.int .u8 c.kind,.int .i64 c.a.num,.int .i64 c.a.yr,.int .u8 c.a.half,.int .u8 c.a.sec,.int .i64 c.a.cyc,.int .i64 c.b.num,.int .i64 c.b.yr,.int .u8 c.b.half,.int .u8 c.b.sec,.int .i64 c.b.cyc,.int .i64 c.n] 26 (0,0)))::MZ164):=hD; clear hD
      replace hf:Fr a 43 [] ((30,.agg #[.int .u8 c.kind,.int .i64 c.a.num,.int .i64 c.a.yr,.int .u8 c.a.half,.int .u8 c.a.sec,.int .i64 c.a.cyc,.int .i64 c.b.num,.int .i64 c.b.yr,.int .u8 c.b.half,.int .u8 c.b.sec,.int .i64 c.b.cyc,.int .i64 c.n])::LZ164):=hf
      refine O.buildC (j:=1) (cs':=#[.int .u8 c.kind,.int .i64 c.a.num,.int .i64 c.a.yr,.int .u8 c.a.half,.int .u8 c.a.sec,.int .i64 c.a.cyc,.int .i64 c.b.num,.int .i64 c.b.yr,.int .u8 c.b.half,.int .u8 c.b.sec,.int .i64 c.b.cyc,.int .i64 c.n]) (zs:=#[.int .u8 0,.int .i64 0,.int .i64 0,.int .u8 0,.int .u8 0,.int .i64 0,.int .i64 0,.int .i64 0,.int .u8 0,.int .u8 0,.int .i64 0,.int .i64 0]) hf hS rfl hs0 rfl rfl T_elem_22 T_size_26 T_zero_26 rfl rfl (by kernel_rfl) rfl (by kernel_rfl) ?_; clear hf hS a; intro b_s10 w a hS hf
      exact O.nil ⟨rfl,(b_s10,cv,v6),hf.to trivial,(gt (d:=31) hf rfl rfl),(fun j_ hj_ ha_=>match j_,hj_,ha_ with | 0,hj_,ha_=>rfl | 1,hj_,ha_=>rfl | 2,hj_,ha_=>rfl | 3,hj_,ha_=>absurd rfl hj_ | 4,hj_,ha_=>absurd ha_ (by decide) | 5,hj_,ha_=>absurd ha_ (by decide) | _+6,_,_=>rfl),hS⟩
    · exact absurd h2_ (by simp)
  clear hf hf1 hS; intro s g a w hs_ hf hD
  obtain ⟨b_s4,cv,v6⟩:=g
  have ha_:s 3=true:=hs_ 3 (by simp)
  have hS:St w0 w noX [ordA,rdv 12 vl l.length (encs eC l)] (sl 26 12 v6 ((l++[c]).length) (encs eC (l++[c]))::pt b_s4 (.cells #[.int .u8 c.kind,.int .i64 c.a.num,.int .i64 c.a.yr,.int .u8 c.a.half,.int .u8 c.a.sec,.int .i64 c.a.cyc,.int .i64 c.b.num,.int .i64 c.b.yr,.int .u8 c.b.half,.int .u8 c.b.sec,.int .i64 c.b.cyc,.int .i64 c.n] 26 (0,0))::MZ164):=hD; clear hD
  replace hf:Fr a 43 [] ((28,vl)::(29,cv)::(30,.agg #[.int .u8 c.kind,.int .i64 c.a.num,.int .i64 c.a.yr,.int .u8 c.a.half,.int .u8 c.a.sec,.int .i64 c.a.cyc,.int .i64 c.b.num,.int .i64 c.b.yr,.int .u8 c.b.half,.int .u8 c.b.sec,.int .i64 c.b.cyc,.int .i64 c.n])::(31,.slice (some ⟨b_s4,0,none⟩) 1 1)::(32,v6)::(10,v6)::LZ164):=hf
  refine k_seq ?_
  replace hf:Fr a 43 [] [(4,.slice none 0 0),(5,.int .i64 0),(10,v6)]:=hf.to ⟨rfl,rfl,rfl,trivial⟩
  refine W.seq ?_
  refine W.seq ?_
  refine W.regionL (l:=[0,1,2,3,4,5,6,7,8]) rfl ?_
  refine O.val hf rfl rfl rfl (RunV.move rfl) ?_
  clear hf a; intro a hf
  refine O.callR hf rfl rfl rfl (RunE.call (av:=#[v6]) C_ok_32 rfl rfl rfl) (history_err v6 (l++[c]) _ (hS.bptO (i:=0) rfl) (hS.slr (j:=0) rfl) (slOK.fit (hS.slAt (j:=0) rfl)) hm2) ?_
  clear hf a
  rintro _ w11 hS1 a hf
  replace hf:Fr a _ _ ((35,.tuple #[.map none,(.slice none 0 0),.int .i64 e])::_):=hf
  replace hS:=(hS.call hS1).eqM (N:=(sl 26 12 v6 ((l++[c]).length) (encs eC (l++[c]))::pt b_s4 (.cells #[.int .u8 c.kind,.int .i64 c.a.num,.int .i64 c.a.yr,.int .u8 c.a.half,.int .u8 c.a.sec,.int .i64 c.a.cyc,.int .i64 c.b.num,.int .i64 c.b.yr,.int .u8 c.b.half,.int .u8 c.b.sec,.int .i64 c.b.cyc,.int .i64 c.n] 26 (0,0))::MZ164)) rfl
  clear hS1
  refine O.val hf rfl rfl rfl (RunV.move rfl) ?_
  clear hf a; intro a hf
  refine O.val hf rfl rfl rfl (RunV.extract rfl rfl) ?_
  clear hf a; intro a hf
  refine O.val hf rfl rfl rfl (RunV.extract rfl rfl) ?_
  clear hf a; intro a hf
  refine O.val hf rfl rfl rfl (RunV.extract rfl rfl) ?_
  clear hf a; intro a hf
  refine O.val hf rfl rfl rfl (RunV.assign rfl) ?_
  clear hf a; intro a hf
  refine O.val hf rfl rfl rfl (RunV.assign rfl) ?_
  clear hf a; intro a hf
  refine O.val hf rfl rfl rfl (RunV.assign rfl) ?_
  clear hf a; intro a hf
  refine O.nil ?_
  refine k_seq ?_
  replace hf:Fr a 43 [] [(4,.slice none 0 0),(5,.int .i64 0),(10,v6),(13,.int .i64 e)]:=hf.to ⟨rfl,rfl,rfl,rfl,trivial⟩
  refine W.seq ?_
  refine W.regionL (l:=[0,1]) rfl ?_
  refine O.val hf rfl rfl rfl (RunV.move rfl) ?_
  clear hf a; intro a hf
  refine O.val (v:=.bool (decide (e≠(0:Int)))) hf rfl rfl rfl (RunV.neq rfl rfl) ?_
  clear hf a; intro a hf
  refine O.nil ?_
  refine k_seq ?_
  replace hf:Fr a 43 [] [(4,.slice none 0 0),(5,.int .i64 0),(10,v6),(13,.int .i64 e),(40,.bool (decide (e≠(0:Int))))]:=hf.to ⟨rfl,rfl,rfl,rfl,rfl,trivial⟩
  refine W.ifdI hf rfl (fun h1=>?_) (fun h1=>?_)
  · refine W.seq ?_
    refine W.regionL (l:=[0,1,2]) rfl ?_
    refine O.val hf rfl rfl rfl (RunV.move rfl) ?_
    clear hf a; intro a hf
    refine O.val hf rfl rfl rfl (RunV.assign rfl) ?_
    clear hf a; intro a hf
    refine O.val hf rfl rfl rfl (RunV.assign rfl) ?_
    clear hf a; intro a hf
    refine O.nil ?_
    refine k_seq ?_
    replace hf:Fr a 43 [] [(4,.slice none 0 0),(5,.int .i64 e),(10,v6)]:=hf.to ⟨rfl,rfl,rfl,trivial⟩
    refine W.ret ?_
    refine k_then_ret ?_
    refine post2 hf rfl (ResOK.tmp rfl) (ResOK.tmp rfl) ?_
    first
      | exact absurd he0 h1
      | exact ⟨(),rfl,hS.sub (List.nil_sublist _) |>.noB⟩
  · refine W.skip ?_
    refine k_seq ?_
    replace hf:Fr a 43 [] [(4,.slice none 0 0),(5,.int .i64 0),(10,v6)]:=hf.to ⟨rfl,rfl,rfl,trivial⟩
    refine W.seq ?_
    refine W.regionL (l:=[0,1,2]) rfl ?_
    refine O.val hf rfl rfl rfl (RunV.move rfl) ?_
    clear hf a; intro a hf
    refine O.val hf rfl rfl rfl (RunV.assign rfl) ?_
    clear hf a; intro a hf
    refine O.val hf rfl rfl rfl (RunV.assign rfl) ?_
    clear hf a; intro a hf
    refine O.nil ?_
    refine k_seq ?_
    replace hf:Fr a 43 [] [(4,v6),(5,.int .i64 0)]:=hf.to ⟨rfl,rfl,trivial⟩
    refine W.ret ?_
    refine post2 hf rfl (ResOK.tmp rfl) (ResOK.tmp rfl) ?_
    first
      | exact absurd he0 h1
      | exact ⟨(),rfl,hS.sub (List.nil_sublist _) |>.noB⟩
set_option maxHeartbeats 400000 in
set_option maxRecDepth 4000 in
theorem apply_ok (vl:Value) (l:List Ch) (c:Ch) (w0:World) (hG:Lent w0 ordA) (hl:rdOK (hp w0) 12 vl l.length (encs eC l)) (hfit:vfit vl) (hz:l.length≤1000) (S:List PG) (us:List Bool) (hm:histM l=.ok (S,us)) (hc:okC c=true) (S2:List PG) (us2:List Bool) (hm2:histM (l++[c])=.ok (S2,us2)) :
    Ret Tryd.prog 11 #[vl,.agg #[.int .u8 c.kind,.int .i64 c.a.num,.int .i64 c.a.yr,.int .u8 c.a.half,.int .u8 c.a.sec,.int .i64 c.a.cyc,.int .i64 c.b.num,.int .i64 c.b.yr,.int .u8 c.b.half,.int .u8 c.b.sec,.int .i64 c.b.cyc,.int .i64 c.n]] w0 (G:=Value) (fun g=>.tuple #[g,.int .i64 0]) (fun g w=>St w0 w noX [] [slE 26 12 eC g (l++[c])]):=by
  refine ret_of_W (lv:=[vl,.agg #[.int .u8 c.kind,.int .i64 c.a.num,.int .i64 c.a.yr,.int .u8 c.a.half,.int .u8 c.a.sec,.int .i64 c.a.cyc,.int .i64 c.b.num,.int .i64 c.b.yr,.int .u8 c.b.half,.int .u8 c.b.sec,.int .i64 c.b.cyc,.int .i64 c.n]]) Tryd.func11 rfl rfl rfl (fun a hf=>?_)
  replace hf:Fr a 43 [] [(0,vl),(1,.agg #[.int .u8 c.kind,.int .i64 c.a.num,.int .i64 c.a.yr,.int .u8 c.a.half,.int .u8 c.a.sec,.int .i64 c.a.cyc,.int .i64 c.b.num,.int .i64 c.b.yr,.int .u8 c.b.half,.int .u8 c.b.sec,.int .i64 c.b.cyc,.int .i64 c.n])]:=hf
  have hS:St w0 w0 noX [ordA,rdv 12 vl l.length (encs eC l)] []:=((St.refl w0).lend0 hl).lendA hG
  have hlm:=hl.2.1
  unfold maxLen at hlm
  refine W.seq ?_
  refine W.regionL (l:=[0,1,2]) rfl ?_
  refine O.box (cs:=#[.int .u8 c.kind,.int .i64 c.a.num,.int .i64 c.a.yr,.int .u8 c.a.half,.int .u8 c.a.sec,.int .i64 c.a.cyc,.int .i64 c.b.num,.int .i64 c.b.yr,.int .u8 c.b.half,.int .u8 c.b.sec,.int .i64 c.b.cyc,.int .i64 c.n]) hf hS rfl rfl rfl rfl ?_
  clear hf hS a; intro b_c1 w a hbb_c1 hS hf
  refine O.val hf rfl rfl rfl (RunV.assign rfl) ?_
  clear hf a; intro a hf
  refine O.val hf rfl rfl rfl (RunV.assign rfl) ?_
  clear hf a; intro a hf
  refine O.nil ?_
  refine k_seq ?_
  replace hf:Fr a 43 [] [(0,vl),(3,.pointer (some ⟨b_c1,0,none⟩)),(4,.slice none 0 0),(5,.int .i64 0)]:=hf.to ⟨rfl,rfl,rfl,rfl,trivial⟩
  refine W.seq ?_
  refine W.seq ?_
  refine W.regionL (l:=[0,1,2,3,4,5,6,7,8]) rfl ?_
  refine O.val hf rfl rfl rfl (RunV.move rfl) ?_
  clear hf a; intro a hf
  refine O.callR hf rfl rfl rfl (RunE.call (av:=#[vl]) C_ok_32 rfl rfl rfl) (history_ok vl l _ (hS.bptO (i:=0) rfl) (hS.rdAt (j:=1) rfl) hfit hm) ?_
  clear hf a
  rintro ⟨uv,bm,kvs,gs⟩ w2 ⟨hS1,hI⟩ a hf
  replace hf:Fr a _ _ ((16,.tuple #[.map (some bm),uv,.int .i64 0])::_):=hf
  replace hS:=(hS.call hS1).eqM (N:=[stA 95 24 bm kvs gs,sl 4 1 uv us.length (bools us),pt b_c1 (.cells #[.int .u8 c.kind,.int .i64 c.a.num,.int .i64 c.a.yr,.int .u8 c.a.half,.int .u8 c.a.sec,.int .i64 c.a.cyc,.int .i64 c.b.num,.int .i64 c.b.yr,.int .u8 c.b.half,.int .u8 c.b.sec,.int .i64 c.b.cyc,.int .i64 c.n] 26 (0,0))]) rfl
  clear hS1
  refine O.val hf rfl rfl rfl (RunV.move rfl) ?_
  clear hf a; intro a hf
  refine O.val hf rfl rfl rfl (RunV.extract rfl rfl) ?_
  clear hf a; intro a hf
  refine O.val hf rfl rfl rfl (RunV.extract rfl rfl) ?_
  clear hf a; intro a hf
  refine O.val hf rfl rfl rfl (RunV.extract rfl rfl) ?_
  clear hf a; intro a hf
  refine O.val hf rfl rfl rfl (RunV.assign rfl) ?_
  clear hf a; intro a hf
  refine O.val hf rfl rfl rfl (RunV.assign rfl) ?_
  clear hf a; intro a hf
  refine O.val hf rfl rfl rfl (RunV.assign rfl) ?_
  clear hf a; intro a hf
  refine O.nil ?_
  refine k_seq ?_
  replace hf:Fr a 43 [] [(0,vl),(3,.pointer (some ⟨b_c1,0,none⟩)),(4,.slice none 0 0),(5,.int .i64 0),(8,.int .i64 0)]:=hf.to ⟨rfl,rfl,rfl,rfl,rfl,trivial⟩
  refine W.seq ?_
  refine W.regionL (l:=[0,1]) rfl ?_
  refine O.val hf rfl rfl rfl (RunV.move rfl) ?_
  clear hf a; intro a hf
  refine O.val hf rfl rfl rfl (RunV.toB (c:=false) (RunV.neq rfl rfl) (by decide)) ?_
  clear hf a; intro a hf
  refine O.nil ?_
  refine k_seq ?_
  replace hf:Fr a 43 [] [(0,vl),(3,.pointer (some ⟨b_c1,0,none⟩)),(4,.slice none 0 0),(5,.int .i64 0),(8,.int .i64 0),(21,.bool false)]:=hf.to ⟨rfl,rfl,rfl,rfl,rfl,rfl,trivial⟩
  refine W.if_ff hf rfl ?_
  refine W.skip ?_
  refine k_seq ?_
  replace hf:Fr a 43 [] [(0,vl),(3,.pointer (some ⟨b_c1,0,none⟩)),(4,.slice none 0 0),(5,.int .i64 0)]:=hf.to ⟨rfl,rfl,rfl,rfl,trivial⟩
  refine W.seq ?_
  refine W.seq ?_
  refine W.regionL (l:=[0,1,2]) rfl ?_
  refine O.val hf rfl rfl rfl (RunV.loadN (cs':=#[.int .u8 c.kind,.int .i64 c.a.num,.int .i64 c.a.yr,.int .u8 c.a.half,.int .u8 c.a.sec,.int .i64 c.a.cyc,.int .i64 c.b.num,.int .i64 c.b.yr,.int .u8 c.b.half,.int .u8 c.b.sec,.int .i64 c.b.cyc,.int .i64 c.n]) T_agg_26 T_size_26 rfl (hS.ptAt (i:=2) rfl) (Nat.le_of_ble_eq_true rfl) rfl) ?_
  clear hf a; intro a hf
  refine O.callR hf rfl rfl rfl (RunE.call (av:=#[.agg #[.int .u8 c.kind,.int .i64 c.a.num,.int .i64 c.a.yr,.int .u8 c.a.half,.int .u8 c.a.sec,.int .i64 c.a.cyc,.int .i64 c.b.num,.int .i64 c.b.yr,.int .u8 c.b.half,.int .u8 c.b.sec,.int .i64 c.b.cyc,.int .i64 c.n]]) C_ok_25 rfl rfl rfl) (checkC_ok c _ (hS.bptO (i:=0) rfl) hc) ?_
  clear hf a
  rintro _ w3 hS1 a hf
  replace hf:Fr a _ _ ((24,.int .i64 0)::_):=hf
  replace hS:=(hS.call hS1).eqM (N:=[stA 95 24 bm kvs gs,sl 4 1 uv us.length (bools us),pt b_c1 (.cells #[.int .u8 c.kind,.int .i64 c.a.num,.int .i64 c.a.yr,.int .u8 c.a.half,.int .u8 c.a.sec,.int .i64 c.a.cyc,.int .i64 c.b.num,.int .i64 c.b.yr,.int .u8 c.b.half,.int .u8 c.b.sec,.int .i64 c.b.cyc,.int .i64 c.n] 26 (0,0))]) rfl
  clear hS1
  refine O.val hf rfl rfl rfl (RunV.assign rfl) ?_
  clear hf a; intro a hf
  refine O.nil ?_
  refine k_seq ?_
  replace hf:Fr a 43 [] [(0,vl),(3,.pointer (some ⟨b_c1,0,none⟩)),(4,.slice none 0 0),(5,.int .i64 0),(9,.int .i64 0)]:=hf.to ⟨rfl,rfl,rfl,rfl,rfl,trivial⟩
  refine W.seq ?_
  refine W.regionL (l:=[0,1]) rfl ?_
  refine O.val hf rfl rfl rfl (RunV.move rfl) ?_
  clear hf a; intro a hf
  refine O.val hf rfl rfl rfl (RunV.toB (c:=false) (RunV.neq rfl rfl) (by decide)) ?_
  clear hf a; intro a hf
  refine O.nil ?_
  refine k_seq ?_
  replace hf:Fr a 43 [] [(0,vl),(3,.pointer (some ⟨b_c1,0,none⟩)),(4,.slice none 0 0),(5,.int .i64 0),(9,.int .i64 0),(26,.bool false)]:=hf.to ⟨rfl,rfl,rfl,rfl,rfl,rfl,trivial⟩
  refine W.if_ff hf rfl ?_
  refine W.skip ?_
  refine k_seq ?_
  replace hf:Fr a 43 [] [(0,vl),(3,.pointer (some ⟨b_c1,0,none⟩)),(4,.slice none 0 0),(5,.int .i64 0)]:=hf.to ⟨rfl,rfl,rfl,rfl,trivial⟩
  refine W.seq ?_
  have hf1:Fr a 43 [] []:=hf.to trivial
  replace hf:Fr a 43 [] [(0,vl),(3,.pointer (some ⟨b_c1,0,none⟩)),(4,.slice none 0 0),(5,.int .i64 0)]:=hf.to ⟨rfl,rfl,rfl,rfl,trivial⟩
  replace hS:=hS.drew
  replace hS:=hS.emp
  let LZ430:List (Nat × Value):=[(0,vl),(3,.pointer (some ⟨b_c1,0,none⟩)),(4,.slice none 0 0),(5,.int .i64 0)]
  let MZ430:List Asr:=[stA 95 24 bm kvs gs,sl 4 1 uv us.length (bools us),pt b_c1 (.cells #[.int .u8 c.kind,.int .i64 c.a.num,.int .i64 c.a.yr,.int .u8 c.a.half,.int .u8 c.a.sec,.int .i64 c.a.cyc,.int .i64 c.b.num,.int .i64 c.b.yr,.int .u8 c.b.half,.int .u8 c.b.sec,.int .i64 c.b.cyc,.int .i64 c.n] 26 (0,0))]
  refine W.drawC (γ:=(Nat) × (Value) × (Value)) (L0:=LZ430) (L1:=[]) (0,default,default) [1,4] [3] [0,2,5] (fun i=>match i with | 1=>[0] | 3=>[2] | 4=>[1,3] | 5=>[0,1,2,3,4] | _=>[]) (fun i=>match i with | 4=>[1,3] | 5=>[1,4,3] | _=>[]) (fun i=>match i with | 0=>[1,4] | 1=>[4] | 2=>[4] | 3=>[4] | _=>[]) (fun i=>match i with | 4=>[3] | 5=>[3] | _=>[]) (fun i=>match i with | 1=>[4,5] | 3=>[4,5] | 4=>[5] | _=>[]) (fun _=>[]) (fun i=>match i with | 4=>1 | 5=>2 | _=>0) (fun i=>match i with | 1=>1 | 2=>1 | 3=>1 | 4=>2 | 5=>2 | _=>0) (fun (g:(Nat) × (Value) × (Value)) j=>match g,j with | ⟨b_s4,cv,v6⟩,0=>vl | ⟨b_s4,cv,v6⟩,1=>cv | ⟨b_s4,cv,v6⟩,2=>.agg #[.int .u8 c.kind,.int .i64 c.a.num,.int .i64 c.a.yr,.int .u8 c.a.half,.int .u8 c.a.sec,.int .i64 c.a.cyc,.int .i64 c.b.num,.int .i64 c.b.yr,.int .u8 c.b.half,.int .u8 c.b.sec,.int .i64 c.b.cyc,.int .i64 c.n] | ⟨b_s4,cv,v6⟩,3=>.slice (some ⟨b_s4,0,none⟩) 1 1 | ⟨b_s4,cv,v6⟩,4=>v6 | ⟨b_s4,cv,v6⟩,5=>v6 | _,_=>undef) (fun k s (g:(Nat) × (Value) × (Value)) w=>match k,g with | 0,⟨b_s4,cv,v6⟩=>St w0 w noX [ordA,rdv 12 vl l.length (encs eC l)] (condA (s 3) (pt b_s4 (.cells #[.int .u8 c.kind,.int .i64 c.a.num,.int .i64 c.a.yr,.int .u8 c.a.half,.int .u8 c.a.sec,.int .i64 c.a.cyc,.int .i64 c.b.num,.int .i64 c.b.yr,.int .u8 c.b.half,.int .u8 c.b.sec,.int .i64 c.b.cyc,.int .i64 c.n] 26 (0,0)))::MZ430) | 1,⟨b_s4,cv,v6⟩=>St w0 w noX [ordA,rdv 12 vl l.length (encs eC l)] (sl 26 12 cv l.length (encs eC l)::condA (s 3) (pt b_s4 (.cells #[.int .u8 c.kind,.int .i64 c.a.num,.int .i64 c.a.yr,.int .u8 c.a.half,.int .u8 c.a.sec,.int .i64 c.a.cyc,.int .i64 c.b.num,.int .i64 c.b.yr,.int .u8 c.b.half,.int .u8 c.b.sec,.int .i64 c.b.cyc,.int .i64 c.n] 26 (0,0)))::MZ430) | _,⟨b_s4,cv,v6⟩=>St w0 w noX [ordA,rdv 12 vl l.length (encs eC l)] (sl 26 12 v6 ((l++[c]).length) (encs eC (l++[c]))::pt b_s4 (.cells #[.int .u8 c.kind,.int .i64 c.a.num,.int .i64 c.a.yr,.int .u8 c.a.half,.int .u8 c.a.sec,.int .i64 c.a.cyc,.int .i64 c.b.num,.int .i64 c.b.yr,.int .u8 c.b.half,.int .u8 c.b.sec,.int .i64 c.b.cyc,.int .i64 c.n] 26 (0,0))::MZ430)) P_mixed (by kernel_rfl) (by kernel_rfl) (by kernel_rfl) hf hf1 hS ?_ ?_ ?_ ?_
  · clear hf hf1 hS
    refine ⟨?_,?_,?_,trivial⟩
    · intro k s g w h1_ h2_ hsp hD a hf
      obtain ⟨b_s4,cv,v6⟩:=g
      rcases k with _ | k
      · have hS:St w0 w noX [ordA,rdv 12 vl l.length (encs eC l)] (condA (s 3) (pt b_s4 (.cells #[.int .u8 c.kind,.int .i64 c.a.num,.int .i64 c.a.yr,.int .u8 c.a.half,.int .u8 c.a.sec,.int .i64 c.a.cyc,.int .i64 c.b.num,.int .i64 c.b.yr,.int .u8 c.b.half,.int .u8 c.b.sec,.int .i64 c.b.cyc,.int .i64 c.n] 26 (0,0)))::MZ430):=hD;
        replace hf:Fr a 43 [] LZ430:=hf
        refine O.val hf rfl rfl rfl (RunV.move rfl) ?_
        clear hf a; intro a hf
        exact O.nil ⟨rfl,hf.to trivial,(gt (d:=28) hf rfl rfl),hD⟩
      · exact absurd h2_ (by simp)
    · intro k s g w h1_ h2_ hsp hD a hf
      obtain ⟨b_s4,cv,v6⟩:=g
      rcases k with _ | _ | k
      · have hS:St w0 w noX [ordA,rdv 12 vl l.length (encs eC l)] (condA (s 3) (pt b_s4 (.cells #[.int .u8 c.kind,.int .i64 c.a.num,.int .i64 c.a.yr,.int .u8 c.a.half,.int .u8 c.a.sec,.int .i64 c.a.cyc,.int .i64 c.b.num,.int .i64 c.b.yr,.int .u8 c.b.half,.int .u8 c.b.sec,.int .i64 c.b.cyc,.int .i64 c.n] 26 (0,0)))::MZ430):=hD;
        replace hf:Fr a 43 [] LZ430:=hf
        refine O.val hf rfl rfl rfl (RunV.loadN (cs':=#[.int .u8 c.kind,.int .i64 c.a.num,.int .i64 c.a.yr,.int .u8 c.a.half,.int .u8 c.a.sec,.int .i64 c.a.cyc,.int .i64 c.b.num,.int .i64 c.b.yr,.int .u8 c.b.half,.int .u8 c.b.sec,.int .i64 c.b.cyc,.int .i64 c.n]) T_agg_26 T_size_26 rfl (hS.ptAt (i:=3) rfl) (Nat.le_of_ble_eq_true rfl) rfl) ?_
        clear hf a; intro a hf
        exact O.nil ⟨rfl,hf.to trivial,(gt (d:=30) hf rfl rfl),hD⟩
      · have hS:St w0 w noX [ordA,rdv 12 vl l.length (encs eC l)] (sl 26 12 cv l.length (encs eC l)::condA (s 3) (pt b_s4 (.cells #[.int .u8 c.kind,.int .i64 c.a.num,.int .i64 c.a.yr,.int .u8 c.a.half,.int .u8 c.a.sec,.int .i64 c.a.cyc,.int .i64 c.b.num,.int .i64 c.b.yr,.int .u8 c.b.half,.int .u8 c.b.sec,.int .i64 c.b.cyc,.int .i64 c.n] 26 (0,0)))::MZ430):=hD;
        replace hf:Fr a 43 [] LZ430:=hf
        refine O.val hf rfl rfl rfl (RunV.loadN (cs':=#[.int .u8 c.kind,.int .i64 c.a.num,.int .i64 c.a.yr,.int .u8 c.a.half,.int .u8 c.a.sec,.int .i64 c.a.cyc,.int .i64 c.b.num,.int .i64 c.b.yr,.int .u8 c.b.half,.int .u8 c.b.sec,.int .i64 c.b.cyc,.int .i64 c.n]) T_agg_26 T_size_26 rfl (hS.ptAt (i:=4) rfl) (Nat.le_of_ble_eq_true rfl) rfl) ?_
        clear hf a; intro a hf
        exact O.nil ⟨rfl,hf.to trivial,(gt (d:=30) hf rfl rfl),hD⟩
      · exact absurd h2_ (by simp)
    · intro k s g w h1_ h2_ hsp hD a hf
      obtain ⟨b_s4,cv,v6⟩:=g
      rcases k with _ | _ | _ | k
      · exact absurd h1_ (by decide)
      · exact absurd h1_ (by decide)
      · have ha_:s 3=true:=hsp 3 (by simp)
        have hS:St w0 w noX [ordA,rdv 12 vl l.length (encs eC l)] (sl 26 12 v6 ((l++[c]).length) (encs eC (l++[c]))::pt b_s4 (.cells #[.int .u8 c.kind,.int .i64 c.a.num,.int .i64 c.a.yr,.int .u8 c.a.half,.int .u8 c.a.sec,.int .i64 c.a.cyc,.int .i64 c.b.num,.int .i64 c.b.yr,.int .u8 c.b.half,.int .u8 c.b.sec,.int .i64 c.b.cyc,.int .i64 c.n] 26 (0,0))::MZ430):=hD;
        replace hS:St w0 w noX [ordA,rdv 12 vl l.length (encs eC l)] (sl 26 12 v6 ((l++[c]).length) (encs eC (l++[c]))::pt b_s4 (.cells #[.int .u8 c.kind,.int .i64 c.a.num,.int .i64 c.a.yr,.int .u8 c.a.half,.int .u8 c.a.sec,.int .i64 c.a.cyc,.int .i64 c.b.num,.int .i64 c.b.yr,.int .u8 c.b.half,.int .u8 c.b.sec,.int .i64 c.b.cyc,.int .i64 c.n] 26 (0,0))::MZ430):=hS
        replace hf:Fr a 43 [] ((28,vl)::(29,cv)::(30,.agg #[.int .u8 c.kind,.int .i64 c.a.num,.int .i64 c.a.yr,.int .u8 c.a.half,.int .u8 c.a.sec,.int .i64 c.a.cyc,.int .i64 c.b.num,.int .i64 c.b.yr,.int .u8 c.b.half,.int .u8 c.b.sec,.int .i64 c.b.cyc,.int .i64 c.n])::(31,.slice (some ⟨b_s4,0,none⟩) 1 1)::(32,v6)::LZ430):=hf
        refine O.val hf rfl rfl rfl (RunV.assign rfl) ?_
        clear hf a; intro a hf
        exact O.nil ⟨rfl,hf.to trivial,(gt (d:=10) hf rfl rfl),hD⟩
      · exact absurd h2_ (by simp)
  · clear hf hf1 hS
    refine ⟨?_,?_,trivial⟩
    · intro s g w hsp hD a hf
      obtain ⟨b_s4,cv,v6⟩:=g
      have hS:St w0 w noX [ordA,rdv 12 vl l.length (encs eC l)] (condA (s 3) (pt b_s4 (.cells #[.int .u8 c.kind,.int .i64 c.a.num,.int .i64 c.a.yr,.int .u8 c.a.half,.int .u8 c.a.sec,.int .i64 c.a.cyc,.int .i64 c.b.num,.int .i64 c.b.yr,.int .u8 c.b.half,.int .u8 c.b.sec,.int .i64 c.b.cyc,.int .i64 c.n] 26 (0,0)))::MZ430):=hD;
      replace hf:Fr a 43 [] ((28,vl)::LZ430):=hf
      clear hD
      refine O.callR hf rfl rfl rfl (RunE.call (av:=#[vl]) C_ok_33 rfl rfl rfl) (cloneC_spec vl l _ hfit (hS.rdAt (j:=1) rfl) (by omega)) ?_
      clear hf a
      rintro cv w7 hS1 a hf
      replace hf:Fr a _ _ ((29,cv)::_):=hf
      replace hS:=(hS.call hS1).eqM (N:=(sl 26 12 cv l.length (encs eC l)::condA (s 3) (pt b_s4 (.cells #[.int .u8 c.kind,.int .i64 c.a.num,.int .i64 c.a.yr,.int .u8 c.a.half,.int .u8 c.a.sec,.int .i64 c.a.cyc,.int .i64 c.b.num,.int .i64 c.b.yr,.int .u8 c.b.half,.int .u8 c.b.sec,.int .i64 c.b.cyc,.int .i64 c.n] 26 (0,0)))::MZ430)) rfl
      clear hS1
      exact O.nil ⟨rfl,(b_s4,cv,v6),hf.to trivial,(gt (d:=29) hf rfl rfl),(fun j_ hj_ ha_=>match j_,hj_,ha_ with | 0,hj_,ha_=>rfl | 1,hj_,ha_=>absurd rfl hj_ | 2,hj_,ha_=>rfl | 3,hj_,ha_=>rfl | 4,hj_,ha_=>absurd ha_ (by decide) | 5,hj_,ha_=>absurd ha_ (by decide) | _+6,_,_=>rfl),hS⟩
    · intro s g w hsp hD a hf
      obtain ⟨b_s4,cv,v6⟩:=g
      have ha_:s 3=true:=hsp 3 (by simp)
      have hS:St w0 w noX [ordA,rdv 12 vl l.length (encs eC l)] (sl 26 12 cv l.length (encs eC l)::condA (s 3) (pt b_s4 (.cells #[.int .u8 c.kind,.int .i64 c.a.num,.int .i64 c.a.yr,.int .u8 c.a.half,.int .u8 c.a.sec,.int .i64 c.a.cyc,.int .i64 c.b.num,.int .i64 c.b.yr,.int .u8 c.b.half,.int .u8 c.b.sec,.int .i64 c.b.cyc,.int .i64 c.n] 26 (0,0)))::MZ430):=hD; rw [ha_] at hS
      replace hS:St w0 w noX [ordA,rdv 12 vl l.length (encs eC l)] (sl 26 12 cv l.length (encs eC l)::pt b_s4 (.cells #[.int .u8 c.kind,.int .i64 c.a.num,.int .i64 c.a.yr,.int .u8 c.a.half,.int .u8 c.a.sec,.int .i64 c.a.cyc,.int .i64 c.b.num,.int .i64 c.b.yr,.int .u8 c.b.half,.int .u8 c.b.sec,.int .i64 c.b.cyc,.int .i64 c.n] 26 (0,0))::MZ430):=hS
      replace hf:Fr a 43 [] ((29,cv)::(31,.slice (some ⟨b_s4,0,none⟩) 1 1)::LZ430):=hf
      clear hD
      refine O.append1 (j:=0) (jj:=1) hf hS rfl rfl T_elem_22 T_size_26 T_bytes_26 T_zero_26 rfl rfl rfl rfl rfl rfl rfl rfl (by unfold maxLen; omega) (by omega) ?_
      clear hf hS a; intro v8 w a hS hf
      replace hS:=hS.eqM (N:=(sl 26 12 v8 (l.length+1) (encs eC l++[.int .u8 c.kind,.int .i64 c.a.num,.int .i64 c.a.yr,.int .u8 c.a.half,.int .u8 c.a.sec,.int .i64 c.a.cyc,.int .i64 c.b.num,.int .i64 c.b.yr,.int .u8 c.b.half,.int .u8 c.b.sec,.int .i64 c.b.cyc,.int .i64 c.n])::pt b_s4 (.cells #[.int .u8 c.kind,.int .i64 c.a.num,.int .i64 c.a.yr,.int .u8 c.a.half,.int .u8 c.a.sec,.int .i64 c.a.cyc,.int .i64 c.b.num,.int .i64 c.b.yr,.int .u8 c.b.half,.int .u8 c.b.sec,.int .i64 c.b.cyc,.int .i64 c.n] 26 (0,0))::MZ430)) rfl
      replace hS:=hS.reE (i:=0) (M':=(sl 26 12 v8 ((l++[c]).length) (encs eC (l++[c]))::pt b_s4 (.cells #[.int .u8 c.kind,.int .i64 c.a.num,.int .i64 c.a.yr,.int .u8 c.a.half,.int .u8 c.a.sec,.int .i64 c.a.cyc,.int .i64 c.b.num,.int .i64 c.b.yr,.int .u8 c.b.half,.int .u8 c.b.sec,.int .i64 c.b.cyc,.int .i64 c.n] 26 (0,0))::MZ430)) rfl (sl_snoc (enc:=eC) (l:=l) (x:=c)) rfl
      exact O.nil ⟨rfl,(b_s4,cv,v8),hf.to trivial,(gt (d:=32) hf rfl rfl),(fun j_ hj_ ha_=>match j_,hj_,ha_ with | 0,hj_,ha_=>rfl | 1,hj_,ha_=>rfl | 2,hj_,ha_=>rfl | 3,hj_,ha_=>rfl | 4,hj_,ha_=>absurd rfl hj_ | 5,hj_,ha_=>absurd ha_ (by decide) | _+6,_,_=>rfl),hS⟩
  · clear hf hf1 hS
    refine ⟨?_,trivial⟩
    intro k s g w h1_ h2_ hs0 hD a hf
    obtain ⟨b_s4,cv,v6⟩:=g
    rcases k with _ | _ | k
    · have hS:St w0 w noX [ordA,rdv 12 vl l.length (encs eC l)] (condA (s 3) (pt b_s4 (.cells #[.int .u8 c.kind,.int .i64 c.a.num,.int .i64 c.a.yr,.int .u8 c.a.half,.int .u8 c.a.sec,.int .i64 c.a.cyc,.int .i64 c.b.num,.int .i64 c.b.yr,.int .u8 c.b.half,.int .u8 c.b.sec,.int .i64 c.b.cyc,.int .i64 c.n] 26 (0,0)))::MZ430):=hD; clear hD
      replace hf:Fr a 43 [] ((30,.agg #[.int .u8 c.kind,.int .i64 c.a.num,.int .i64 c.a.yr,.int .u8 c.a.half,.int .u8 c.a.sec,.int .i64 c.a.cyc,.int .i64 c.b.num,.int .i64 c.b.yr,.int .u8 c.b.half,.int .u8 c.b.sec,.int .i64 c.b.cyc,.int .i64 c.n])::LZ430):=hf
      refine O.buildC (j:=0) (cs':=#[.int .u8 c.kind,.int .i64 c.a.num,.int .i64 c.a.yr,.int .u8 c.a.half,.int .u8 c.a.sec,.int .i64 c.a.cyc,.int .i64 c.b.num,.int .i64 c.b.yr,.int .u8 c.b.half,.int .u8 c.b.sec,.int .i64 c.b.cyc,.int .i64 c.n]) (zs:=#[.int .u8 0,.int .i64 0,.int .i64 0,.int .u8 0,.int .u8 0,.int .i64 0,.int .i64 0,.int .i64 0,.int .u8 0,.int .u8 0,.int .i64 0,.int .i64 0]) hf hS rfl hs0 rfl rfl T_elem_22 T_size_26 T_zero_26 rfl rfl (by kernel_rfl) rfl (by kernel_rfl) ?_; clear hf hS a; intro b_s9 w a hS hf
      exact O.nil ⟨rfl,(b_s9,cv,v6),hf.to trivial,(gt (d:=31) hf rfl rfl),(fun j_ hj_ ha_=>match j_,hj_,ha_ with | 0,hj_,ha_=>rfl | 1,hj_,ha_=>rfl | 2,hj_,ha_=>rfl | 3,hj_,ha_=>absurd rfl hj_ | 4,hj_,ha_=>absurd ha_ (by decide) | 5,hj_,ha_=>absurd ha_ (by decide) | _+6,_,_=>rfl),hS⟩
    · have hS:St w0 w noX [ordA,rdv 12 vl l.length (encs eC l)] (sl 26 12 cv l.length (encs eC l)::condA (s 3) (pt b_s4 (.cells #[.int .u8 c.kind,.int .i64 c.a.num,.int .i64 c.a.yr,.int .u8 c.a.half,.int .u8 c.a.sec,.int .i64 c.a.cyc,.int .i64 c.b.num,.int .i64 c.b.yr,.int .u8 c.b.half,.int .u8 c.b.sec,.int .i64 c.b.cyc,.int .i64 c.n] 26 (0,0)))::MZ430):=hD; clear hD
      replace hf:Fr a 43 [] ((30,.agg #[.int .u8 c.kind,.int .i64 c.a.num,.int .i64 c.a.yr,.int .u8 c.a.half,.int .u8 c.a.sec,.int .i64 c.a.cyc,.int .i64 c.b.num,.int .i64 c.b.yr,.int .u8 c.b.half,.int .u8 c.b.sec,.int .i64 c.b.cyc,.int .i64 c.n])::LZ430):=hf
      refine O.buildC (j:=1) (cs':=#[.int .u8 c.kind,.int .i64 c.a.num,.int .i64 c.a.yr,.int .u8 c.a.half,.int .u8 c.a.sec,.int .i64 c.a.cyc,.int .i64 c.b.num,.int .i64 c.b.yr,.int .u8 c.b.half,.int .u8 c.b.sec,.int .i64 c.b.cyc,.int .i64 c.n]) (zs:=#[.int .u8 0,.int .i64 0,.int .i64 0,.int .u8 0,.int .u8 0,.int .i64 0,.int .i64 0,.int .i64 0,.int .u8 0,.int .u8 0,.int .i64 0,.int .i64 0]) hf hS rfl hs0 rfl rfl T_elem_22 T_size_26 T_zero_26 rfl rfl (by kernel_rfl) rfl (by kernel_rfl) ?_; clear hf hS a; intro b_s10 w a hS hf
      exact O.nil ⟨rfl,(b_s10,cv,v6),hf.to trivial,(gt (d:=31) hf rfl rfl),(fun j_ hj_ ha_=>match j_,hj_,ha_ with | 0,hj_,ha_=>rfl | 1,hj_,ha_=>rfl | 2,hj_,ha_=>rfl | 3,hj_,ha_=>absurd rfl hj_ | 4,hj_,ha_=>absurd ha_ (by decide) | 5,hj_,ha_=>absurd ha_ (by decide) | _+6,_,_=>rfl),hS⟩
    · exact absurd h2_ (by simp)
  clear hf hf1 hS; intro s g a w hs_ hf hD
  obtain ⟨b_s4,cv,v6⟩:=g
  have ha_:s 3=true:=hs_ 3 (by simp)
  have hS:St w0 w noX [ordA,rdv 12 vl l.length (encs eC l)] (sl 26 12 v6 ((l++[c]).length) (encs eC (l++[c]))::pt b_s4 (.cells #[.int .u8 c.kind,.int .i64 c.a.num,.int .i64 c.a.yr,.int .u8 c.a.half,.int .u8 c.a.sec,.int .i64 c.a.cyc,.int .i64 c.b.num,.int .i64 c.b.yr,.int .u8 c.b.half,.int .u8 c.b.sec,.int .i64 c.b.cyc,.int .i64 c.n] 26 (0,0))::MZ430):=hD; clear hD
  replace hf:Fr a 43 [] ((28,vl)::(29,cv)::(30,.agg #[.int .u8 c.kind,.int .i64 c.a.num,.int .i64 c.a.yr,.int .u8 c.a.half,.int .u8 c.a.sec,.int .i64 c.a.cyc,.int .i64 c.b.num,.int .i64 c.b.yr,.int .u8 c.b.half,.int .u8 c.b.sec,.int .i64 c.b.cyc,.int .i64 c.n])::(31,.slice (some ⟨b_s4,0,none⟩) 1 1)::(32,v6)::(10,v6)::LZ430):=hf
  refine k_seq ?_
  replace hf:Fr a 43 [] [(4,.slice none 0 0),(5,.int .i64 0),(10,v6)]:=hf.to ⟨rfl,rfl,rfl,trivial⟩
  refine W.seq ?_
  refine W.seq ?_
  refine W.regionL (l:=[0,1,2,3,4,5,6,7,8]) rfl ?_
  refine O.val hf rfl rfl rfl (RunV.move rfl) ?_
  clear hf a; intro a hf
  refine O.callR hf rfl rfl rfl (RunE.call (av:=#[v6]) C_ok_32 rfl rfl rfl) (history_ok v6 (l++[c]) _ (hS.bptO (i:=0) rfl) (hS.slr (j:=0) rfl) (slOK.fit (hS.slAt (j:=0) rfl)) hm2) ?_
  clear hf a
  rintro ⟨uv2,bm2,kvs2,gs2⟩ w11 ⟨hS1,hI2⟩ a hf
  replace hf:Fr a _ _ ((35,.tuple #[.map (some bm2),uv2,.int .i64 0])::_):=hf
  replace hS:=(hS.call hS1).eqM (N:=(stA 95 24 bm2 kvs2 gs2::sl 4 1 uv2 us2.length (bools us2)::sl 26 12 v6 ((l++[c]).length) (encs eC (l++[c]))::pt b_s4 (.cells #[.int .u8 c.kind,.int .i64 c.a.num,.int .i64 c.a.yr,.int .u8 c.a.half,.int .u8 c.a.sec,.int .i64 c.a.cyc,.int .i64 c.b.num,.int .i64 c.b.yr,.int .u8 c.b.half,.int .u8 c.b.sec,.int .i64 c.b.cyc,.int .i64 c.n] 26 (0,0))::MZ430)) rfl
  clear hS1
  refine O.val hf rfl rfl rfl (RunV.move rfl) ?_
  clear hf a; intro a hf
  refine O.val hf rfl rfl rfl (RunV.extract rfl rfl) ?_
  clear hf a; intro a hf
  refine O.val hf rfl rfl rfl (RunV.extract rfl rfl) ?_
  clear hf a; intro a hf
  refine O.val hf rfl rfl rfl (RunV.extract rfl rfl) ?_
  clear hf a; intro a hf
  refine O.val hf rfl rfl rfl (RunV.assign rfl) ?_
  clear hf a; intro a hf
  refine O.val hf rfl rfl rfl (RunV.assign rfl) ?_
  clear hf a; intro a hf
  refine O.val hf rfl rfl rfl (RunV.assign rfl) ?_
  clear hf a; intro a hf
  refine O.nil ?_
  refine k_seq ?_
  replace hf:Fr a 43 [] [(4,.slice none 0 0),(5,.int .i64 0),(10,v6),(13,.int .i64 0)]:=hf.to ⟨rfl,rfl,rfl,rfl,trivial⟩
  refine W.seq ?_
  refine W.regionL (l:=[0,1]) rfl ?_
  refine O.val hf rfl rfl rfl (RunV.move rfl) ?_
  clear hf a; intro a hf
  refine O.val hf rfl rfl rfl (RunV.toB (c:=false) (RunV.neq rfl rfl) (by decide)) ?_
  clear hf a; intro a hf
  refine O.nil ?_
  refine k_seq ?_
  replace hf:Fr a 43 [] [(4,.slice none 0 0),(5,.int .i64 0),(10,v6),(13,.int .i64 0),(40,.bool false)]:=hf.to ⟨rfl,rfl,rfl,rfl,rfl,trivial⟩
  refine W.if_ff hf rfl ?_
  refine W.skip ?_
  refine k_seq ?_
  replace hf:Fr a 43 [] [(4,.slice none 0 0),(5,.int .i64 0),(10,v6)]:=hf.to ⟨rfl,rfl,rfl,trivial⟩
  refine W.seq ?_
  refine W.regionL (l:=[0,1,2]) rfl ?_
  refine O.val hf rfl rfl rfl (RunV.move rfl) ?_
  clear hf a; intro a hf
  refine O.val hf rfl rfl rfl (RunV.assign rfl) ?_
  clear hf a; intro a hf
  refine O.val hf rfl rfl rfl (RunV.assign rfl) ?_
  clear hf a; intro a hf
  refine O.nil ?_
  refine k_seq ?_
  replace hf:Fr a 43 [] [(4,v6),(5,.int .i64 0)]:=hf.to ⟨rfl,rfl,trivial⟩
  refine W.ret ?_
  refine post2 hf rfl (ResOK.tmp rfl) (ResOK.tmp rfl) ?_
  replace hS:=hS.front (i:=2) (M':=(sl 26 12 v6 ((l++[c]).length) (encs eC (l++[c]))::stA 95 24 bm2 kvs2 gs2::sl 4 1 uv2 us2.length (bools us2)::pt b_s4 (.cells #[.int .u8 c.kind,.int .i64 c.a.num,.int .i64 c.a.yr,.int .u8 c.a.half,.int .u8 c.a.sec,.int .i64 c.a.cyc,.int .i64 c.b.num,.int .i64 c.b.yr,.int .u8 c.b.half,.int .u8 c.b.sec,.int .i64 c.b.cyc,.int .i64 c.n] 26 (0,0))::MZ430)) rfl rfl
  exact ⟨v6,rfl,(hS.sub (List.Sublist.cons_cons _ (List.nil_sublist _))).noB⟩
end Go.Proofs.YtgakdmmmljdpjaaDoor

namespace Go.SL
open Go
def allA (l:List Asr):Asr:=⟨fun b=>∃ p ∈ l,p.fp b,fun h=>∀ p ∈ l,p.holds h,fun h h' hk hh p hp=>p.loc h h' (fun b hb=>hk b ⟨p,hp,hb⟩) (hh p hp)⟩
def rdOb (o:Ob):Asr:=rdv 5 o.v o.l.length (encs eD o.l)
section
variable {w0 w:World} {X:Nat→Prop} {B M:List Asr} {i j:Nat} {os:List Ob} {o:Ob} {l:List Asr}
def obsRd (w:World) (os:List Ob):Prop:=∀ o ∈ os,rdOK (hp w) 5 o.v o.l.length (encs eD o.l)
theorem St.lendObs (hS:St w w noX B M) (h:obsRd w os):St w w noX (allA (os.map rdOb)::B) M :=
  hS.lendA ⟨fun p hp=>by
    obtain ⟨o,ho,rfl⟩:=List.mem_map.1 hp
    exact h o ho,fun b ⟨p,hp,hb⟩=>by
    obtain ⟨o,ho,rfl⟩:=List.mem_map.1 hp
    have h1:=h o ho
    have h2:St w w noX [rdv 5 o.v o.l.length (encs eD o.l)] []:=(St.refl w).lend0 h1
    exact ((h2.bor _ List.mem_cons_self).2 b hb).1⟩
theorem St.obAt (hS:St w0 w X B M) (hi:B[i]? = some (allA (os.map rdOb))):obsRd w os:=fun o ho=>by
  have h:(allA (os.map rdOb)).holds (hp w):=hS.bat hi
  exact h (rdOb o) (List.mem_map.2 ⟨o,ho,rfl⟩)
theorem slE_rd {h:Hp} {e sz:Nat} {enc:Dg→List Value} {v:Value} {l:List Dg} (hh:(slE e sz enc v l).holds h):rdOK h sz v l.length (encs enc l):=(show slOK h e sz v l.length (encs enc l) from hh).rd
theorem St.obOwn (hS:St w0 w X B M) (hi:M[i]? = some (bigA (os.map obA))):obsRd w os:=fun o ho=>by
  have h:(bigA (os.map obA)).holds (hp w):=hS.at_ hi
  have h1:(obA o).holds (hp w):=h.1 (obA o) (List.mem_map.2 ⟨o,ho,rfl⟩)
  exact slE_rd h1
theorem obsRd.at (h:obsRd w os) {k:Nat} (hk:k<os.length):rdOK (hp w) 5 (os.getD k default).v (os.getD k default).l.length (encs eD (os.getD k default).l) :=
  h _ (by rw [List.getD_eq_getElem?_getD,List.getElem?_eq_getElem hk]; exact List.getElem_mem _)
theorem obsRd.nil:obsRd w []:=fun o ho=>by cases ho
theorem obsRd.cons {t:List Ob} (h:rdOK (hp w) 5 o.v o.l.length (encs eD o.l)) (ht:obsRd w t):obsRd w (o::t):=fun x hx=>by
  rcases List.mem_cons.1 hx with rfl | hx
  · exact h
  · exact ht x hx
end
def nameD (c:Int):Dg:=⟨0,2026,87,c,0⟩
def numD:Dg:=⟨700001,0,0,0,0⟩
def givenL:List Ch:=[⟨1,nameD 65,default,0⟩,⟨1,nameD 66,default,0⟩,⟨2,nameD 65,nameD 66,0⟩,⟨3,nameD 66,numD,0⟩]
instance {T:Type} [DecidableEq T]:DecidableEq (Except Int T):=fun a b=>match a,b with
  | .error e,.error f=>if h:e=f then isTrue (h▸rfl) else isFalse (fun h2=>h (by injection h2))
  | .ok x,.ok y=>if h:x=y then isTrue (h▸rfl) else isFalse (fun h2=>h (by injection h2))
  | .error _,.ok _=>isFalse (fun h=>by cases h)
  | .ok _,.error _=>isFalse (fun h=>by cases h)
theorem given_hist:histM givenL=.ok ([([nameD 65,nameD 66,numD],true)],[false,false,false,false]):=by decide +kernel
theorem given_undo2:histM (givenL++[undoC 2])=.ok ([([nameD 66,numD],true),([nameD 65],false)],[false,false,true,false,false]):=by decide +kernel
theorem given_undo1:histM (givenL++[undoC 1])=.error 36:=by decide +kernel
theorem sortDs_eq {l s:List Dg} (hp:l.Perm s) (hs:s.Pairwise (fun x y=>ltD y x=false)):sortDs l=s:=by
  have h:=sorted_eq (l:=l.map fun d=>(d,[])) (s:=s.map fun d=>(d,[])) (fun x hx y hy he=>by
    obtain ⟨a,_,rfl⟩:=List.mem_map.1 hx
    obtain ⟨b,_,rfl⟩:=List.mem_map.1 hy
    exact Prod.ext he rfl) (hp.map _) (by
    rw [List.pairwise_map]
    exact hs.imp fun {a b} h=>by unfold leO; simp only [h]; rfl)
  have h2:=congrArg (List.map Prod.fst) h
  rw [List.map_mergeSort (r:=leO) (s:=fun x y=>!ltD y x) (f:=Prod.fst) (fun a _ b _=>rfl),List.map_map,List.map_map] at h2
  simpa [Function.comp_def,sortDs] using h2
theorem sort_given:sortDs [nameD 65,nameD 66,numD]=[numD,nameD 65,nameD 66]:=sortDs_eq (by decide +kernel) (by decide +kernel)
theorem sort_given2:sortDs [nameD 66,numD]=[numD,nameD 66]:=sortDs_eq (by decide +kernel) (by decide +kernel)
theorem sort_one (d:Dg):sortDs [d]=[d]:=List.mergeSort_singleton d
theorem objs_given:objsM [([nameD 65,nameD 66,numD],true)]=[(numD,[numD,nameD 65,nameD 66])]:=by
  unfold objsM
  rw [List.map_cons,List.map_nil,List.mergeSort_singleton]
  unfold objP
  rw [sort_given]
  rfl
theorem objs_given2:objsM [([nameD 66,numD],true),([nameD 65],false)]=[(numD,[numD,nameD 66]),(nameD 65,[nameD 65])]:=by
  unfold objsM
  rw [List.map_cons,List.map_cons,List.map_nil]
  unfold objP
  rw [sort_given2,sort_one]
  exact sorted_eq (by decide +kernel) (List.Perm.refl _) (by decide +kernel)
end Go.SL
