/- Part of a proof: laws and walks. -/
import Derived.Test.YtgakdmmmljdpjaaDoorTaj
import Derived.Test.YtgakdmmmljdpjaaDoorTac
import Derived.Maps.RangeRun
import Derived.Test.YtgakdmmmljdpjaaDoorTae
set_option linter.unusedVariables false
set_option linter.unusedSimpArgs false
namespace Go.Proofs.YtgakdmmmljdpjaaDoor
open Go Go.SL
theorem C_ok_49:callOK Tryd.prog 49=true:=by kernel_rfl
theorem C_ok_50:callOK Tryd.prog 50=true:=by kernel_rfl
theorem T_agg_46:tAgg Tryd.prog 46=some true:=by kernel_rfl
theorem T_bytes_26:tBytes Tryd.prog 26=some 80:=by kernel_rfl
theorem T_places_46:tPlaces Tryd.prog 46=some #[(0,5),(5,1)]:=by kernel_rfl
theorem T_size_46:tSize Tryd.prog 46=some 6:=by kernel_rfl
theorem T_zero_46:tZero Tryd.prog 46=some (.agg #[.int .i64 0,.int .i64 0,.int .u8 0,.int .u8 0,.int .i64 0,.slice none 0 0]):=by kernel_rfl
set_option maxHeartbeats 400000 in
set_option maxRecDepth 4000 in
theorem cloneD_some (vl:Value) (l:List Dg) (ad:Addr) (c:Nat) (w0:World) (hv:vl=.slice (some ad) l.length c) (hfit:vfit vl) (hl:rdOK (hp w0) 5 vl l.length (encs eD l)) (hz:l.length≤1000000) :
    Ret Tryd.prog 49 #[vl] w0 (G:=Value) (fun g=>g) (fun g w=>St w0 w noX [] [slE 24 5 eD g l]):=by
  refine ret_of_W (lv:=[vl]) Tryd.func49 rfl rfl rfl (fun a hf=>?_)
  replace hf:Fr a 8 [] [(0,vl)]:=hf
  have hS:St w0 w0 noX [rdv 5 vl l.length (encs eD l)] []:=(St.refl w0).lend0 hl
  have hlm:=hl.2.1
  refine W.seq ?_
  refine W.regionL (l:=[0]) rfl ?_
  refine O.val hf rfl rfl rfl (RunV.assign rfl) ?_
  clear hf a; intro a hf
  refine O.nil ?_
  refine k_seq ?_
  refine W.seq ?_
  refine W.seq ?_
  refine W.regionL (l:=[0,1]) rfl ?_
  refine O.val hf rfl rfl rfl (RunV.move rfl) ?_
  clear hf a; intro a hf
  refine O.val hf rfl rfl rfl (RunV.eqNil2 T_elem_35 hv rfl rfl) ?_
  clear hf a; intro a hf
  refine O.nil ?_
  refine k_seq ?_
  replace hf:Fr a 8 [] [(0,vl),(2,.slice none 0 0),(4,.bool false)]:=hf.to ⟨rfl,rfl,rfl,trivial⟩
  refine W.if_ff hf rfl ?_
  refine W.skip ?_
  refine k_seq ?_
  replace hf:Fr a 8 [] [(0,vl),(2,.slice none 0 0)]:=hf.to ⟨rfl,rfl,trivial⟩
  refine W.seq ?_
  refine W.regionL (l:=[0,1,2,3]) rfl ?_
  refine O.buildSlice0 hf hS rfl rfl T_elem_35 T_size_24 rfl ?_
  clear hf hS a; intro b_s1 w a hbb_s1 hS hf
  refine O.val hf rfl rfl rfl (RunV.move rfl) ?_
  clear hf a; intro a hf
  replace hS:=hS.eqM (N:=[slE 24 5 eD (.slice (some ⟨b_s1,0,none⟩) 0 0) ([]:List _)]) rfl
  refine O.appendEV (j:=0) (enc:=eD) (l:=[]) (m:=l) (l':=l) hf hS rfl rfl T_elem_35 T_size_24 T_bytes_24 T_zero_24 rfl rfl rfl rfl rfl ⟨hS.rdAt (j:=0) rfl,hfit⟩ (fun _=>rfl) (by simp) (by omega) rfl (List.nil_append _) ?_
  clear hf hS a; intro v2 w a hS hf
  refine O.val hf rfl rfl rfl (RunV.assign rfl) ?_
  clear hf a; intro a hf
  refine O.nil ?_
  refine k_seq ?_
  replace hf:Fr a 8 [] [(2,v2)]:=hf.to ⟨rfl,trivial⟩
  refine W.ret ?_
  refine post1 hf rfl (ResOK.tmp rfl) ?_
  exact ⟨_,rfl,(hS.sub (by simp)).noB⟩
set_option maxHeartbeats 400000 in
set_option maxRecDepth 4000 in
theorem cloneC_some (vl:Value) (l:List Ch) (ad:Addr) (c:Nat) (w0:World) (hv:vl=.slice (some ad) l.length c) (hfit:vfit vl) (hl:rdOK (hp w0) 12 vl l.length (encs eC l)) (hz:l.length≤1000000) :
    Ret Tryd.prog 33 #[vl] w0 (G:=Value) (fun g=>g) (fun g w=>St w0 w noX [] [slE 26 12 eC g l]):=by
  refine ret_of_W (lv:=[vl]) Tryd.func33 rfl rfl rfl (fun a hf=>?_)
  replace hf:Fr a 8 [] [(0,vl)]:=hf
  have hS:St w0 w0 noX [rdv 12 vl l.length (encs eC l)] []:=(St.refl w0).lend0 hl
  have hlm:=hl.2.1
  refine W.seq ?_
  refine W.regionL (l:=[0]) rfl ?_
  refine O.val hf rfl rfl rfl (RunV.assign rfl) ?_
  clear hf a; intro a hf
  refine O.nil ?_
  refine k_seq ?_
  refine W.seq ?_
  refine W.seq ?_
  refine W.regionL (l:=[0,1]) rfl ?_
  refine O.val hf rfl rfl rfl (RunV.move rfl) ?_
  clear hf a; intro a hf
  refine O.val hf rfl rfl rfl (RunV.eqNil2 T_elem_22 hv rfl rfl) ?_
  clear hf a; intro a hf
  refine O.nil ?_
  refine k_seq ?_
  replace hf:Fr a 8 [] [(0,vl),(2,.slice none 0 0),(4,.bool false)]:=hf.to ⟨rfl,rfl,rfl,trivial⟩
  refine W.if_ff hf rfl ?_
  refine W.skip ?_
  refine k_seq ?_
  replace hf:Fr a 8 [] [(0,vl),(2,.slice none 0 0)]:=hf.to ⟨rfl,rfl,trivial⟩
  refine W.seq ?_
  refine W.regionL (l:=[0,1,2,3]) rfl ?_
  refine O.buildSlice0 hf hS rfl rfl T_elem_22 T_size_26 rfl ?_
  clear hf hS a; intro b_s1 w a hbb_s1 hS hf
  refine O.val hf rfl rfl rfl (RunV.move rfl) ?_
  clear hf a; intro a hf
  replace hS:=hS.eqM (N:=[slE 26 12 eC (.slice (some ⟨b_s1,0,none⟩) 0 0) ([]:List _)]) rfl
  refine O.appendEV (j:=0) (enc:=eC) (l:=[]) (m:=l) (l':=l) hf hS rfl rfl T_elem_22 T_size_26 T_bytes_26 T_zero_26 rfl rfl rfl rfl rfl ⟨hS.rdAt (j:=0) rfl,hfit⟩ (fun _=>rfl) (by simp) (by omega) rfl (List.nil_append _) ?_
  clear hf hS a; intro v2 w a hS hf
  refine O.val hf rfl rfl rfl (RunV.assign rfl) ?_
  clear hf a; intro a hf
  refine O.nil ?_
  refine k_seq ?_
  replace hf:Fr a 8 [] [(2,v2)]:=hf.to ⟨rfl,trivial⟩
  refine W.ret ?_
  refine post1 hf rfl (ResOK.tmp rfl) ?_
  exact ⟨_,rfl,(hS.sub (by simp)).noB⟩
set_option maxHeartbeats 400000 in
set_option maxRecDepth 4000 in
theorem object_spec (b:Nat) (v:Value) (num:Bool) (all:List Dg) (w0:World) (hG:Lent w0 ordA) (hg:Lent w0 (pt b (.cells #[v,.bool num] 95 (0,0)))) (hl:rdOK (hp w0) 5 v all.length (encs eD all)) (hfit:vfit v) (hne:all≠[]) (hz:all.length≤10000) (hok:∀ d ∈ all,okD d=true) :
    Ret Tryd.prog 37 #[.pointer (some ⟨b,0,none⟩)] w0 (G:=Value) (fun g=>oV ((sortDs all).getD 0 default) g) (fun g w=>St w0 w noX [] [slE 24 5 eD g (sortDs all)]):=by
  refine ret_of_W (lv:=[.pointer (some ⟨b,0,none⟩)]) Tryd.func37 rfl rfl rfl (fun a hf=>?_)
  replace hf:Fr a 16 [] [(0,.pointer (some ⟨b,0,none⟩))]:=hf
  have hS:St w0 w0 noX [pt b (.cells #[v,.bool num] 95 (0,0)),ordA,rdv 5 v all.length (encs eD all)] []:=(((St.refl w0).lend0 hl).lendA hG).lendA hg
  have hlm:=hl.2.1
  obtain ⟨ad,c,hv⟩:=rd_some hl hne
  refine W.seq ?_
  refine W.regionL (l:=[0]) rfl ?_
  refine O.alloc (cs:=#[.int .i64 0,.int .i64 0,.int .u8 0,.int .u8 0,.int .i64 0,.slice none 0 0]) hf hS rfl rfl T_zero_46 rfl ?_
  clear hf hS a; intro b_x1 w a hbb_x1 hS hf
  refine O.nil ?_
  refine k_seq ?_
  refine W.seq ?_
  refine W.regionL (l:=[0,1,2,3,4,5]) rfl ?_
  refine O.val hf rfl rfl rfl (RunV.move rfl) ?_
  clear hf a; intro a hf
  refine O.val hf rfl rfl rfl (RunV.nilCheck rfl) ?_
  clear hf a; intro a hf
  refine O.val hf rfl rfl rfl (RunV.field T_field_95_0 rfl rfl) ?_
  clear hf a; intro a hf
  refine O.val hf rfl rfl rfl (RunV.load1 T_agg_35 rfl (hS.bptAt (i:=0) rfl) rfl) ?_
  clear hf a; intro a hf
  refine O.callR hf rfl rfl rfl (RunE.call (av:=#[v]) C_ok_49 rfl rfl rfl) (cloneD_some v all ad c _ hv hfit (hS.rdAt (j:=2) rfl) (by omega)) ?_
  clear hf a
  rintro cv w2 hS1 a hf
  replace hf:Fr a _ _ ((8,cv)::_):=hf
  replace hS:=(hS.call hS1).eqM (N:=[sl 24 5 cv all.length (encs eD all),pt b_x1 (.cells #[.int .i64 0,.int .i64 0,.int .u8 0,.int .u8 0,.int .i64 0,.slice none 0 0] 46 (0,0))]) rfl
  clear hS1
  refine O.val hf rfl rfl rfl (RunV.assign rfl) ?_
  clear hf a; intro a hf
  refine O.nil ?_
  refine k_seq ?_
  replace hf:Fr a 16 [] [(2,.pointer (some ⟨b_x1,0,none⟩)),(3,cv)]:=hf.to ⟨rfl,rfl,trivial⟩
  refine W.seq ?_
  refine W.regionL (l:=[0,1]) rfl ?_
  refine O.val hf rfl rfl rfl (RunV.move rfl) ?_
  clear hf a; intro a hf
  refine O.callR hf rfl rfl rfl (RunE.call (av:=#[cv,.func (.func 40) #[] #[]]) C_ok_50 rfl rfl rfl) (sortD_spec cv all _ hok (hS.bptO (i:=1) rfl) (hS.slAt (j:=0) rfl) hz (fun h=>hS.apart (i:=0) (j:=1) rfl rfl 0 rfl h)) ?_
  clear hf a
  rintro _ w3 hS1 a hf
  replace hf:Fr a _ _ ((10,.tuple #[])::_):=hf
  replace hS:=(hS.callX1 hS1 (i:=0) rfl (fun _ h=>h)).eqM (N:=[sl 24 5 cv ((sortDs all).length) (encs eD (sortDs all)),pt b_x1 (.cells #[.int .i64 0,.int .i64 0,.int .u8 0,.int .u8 0,.int .i64 0,.slice none 0 0] 46 (0,0))]) rfl
  clear hS1
  refine O.nil ?_
  refine k_seq ?_
  replace hf:Fr a 16 [] [(2,.pointer (some ⟨b_x1,0,none⟩)),(3,cv)]:=hf.to ⟨rfl,rfl,trivial⟩
  refine W.seq ?_
  refine W.regionL (l:=[0,1,2,3,4,5]) rfl ?_
  obtain ⟨pd,hpd⟩:∃ pd,pd=(sortDs all).getD 0 default:=⟨_,rfl⟩
  have hsl:(sortDs all).length=all.length:=List.length_mergeSort _
  have hpos:0<all.length:=List.length_pos_iff.2 hne
  refine O.val hf rfl rfl rfl (RunV.move rfl) ?_
  clear hf a; intro a hf
  refine O.val hf rfl rfl rfl (RunV.ixV (j:=0) (m:=0) T_elem_35 T_size_24 rfl rfl (hS.slr (j:=0) rfl) rfl (by omega) rfl) ?_
  clear hf a; intro a hf
  refine O.val hf rfl rfl rfl (RunV.ldG (j:=0) (enc:=eD) (l:=sortDs all) (us:=eD pd) T_agg_24 T_size_24 rfl eD_len rfl (hS.slr (j:=0) rfl) (by omega) (by rw [hpd])) ?_
  clear hf a; intro a hf
  refine O.val hf rfl rfl rfl (RunV.move rfl) ?_
  clear hf a; intro a hf
  have hcl4:=rdOK.cells (hS.slr (j:=0) rfl)
  refine O.val hf rfl rfl rfl (RunV.buildS (cs':=#[.int .i64 pd.num,.int .i64 pd.yr,.int .u8 pd.half,.int .u8 pd.sec,.int .i64 pd.cyc,cv]) T_places_46 T_zero_46 rfl (by obtain ⟨_,_,_,rfl⟩:=slv_of (hS.slr (j:=0) rfl); kernel_rfl)) ?_
  clear hf a; intro a hf
  have hcl5:=rdOK.cells (hS.slr (j:=0) rfl)
  refine O.store (j:=1) (cs':=#[.int .i64 pd.num,.int .i64 pd.yr,.int .u8 pd.half,.int .u8 pd.sec,.int .i64 pd.cyc,cv]) (M':=[sl 24 5 cv ((sortDs all).length) (encs eD (sortDs all)),pt b_x1 (.cells #[.int .i64 pd.num,.int .i64 pd.yr,.int .u8 pd.half,.int .u8 pd.sec,.int .i64 pd.cyc,cv] 46 (0,0))]) hf hS rfl rfl rfl T_size_46 rfl (oneCells_cc rfl (oneCells_cc rfl (oneCells_cc rfl (oneCells_cc rfl (oneCells_cc rfl (oneCells_cc hcl5.2 rfl)))))) rfl (Nat.le_of_ble_eq_true rfl) rfl rfl ?_
  clear hS; intro w hS
  refine O.nil ?_
  refine k_seq ?_
  replace hf:Fr a 16 [] [(2,.pointer (some ⟨b_x1,0,none⟩))]:=hf.to ⟨rfl,trivial⟩
  refine W.ret ?_
  refine post1 hf rfl (ResOK.cellN (cs':=#[.int .i64 pd.num,.int .i64 pd.yr,.int .u8 pd.half,.int .u8 pd.sec,.int .i64 pd.cyc,cv]) rfl T_agg_46 T_size_46 (hS.ptAt (i:=1) rfl) (Nat.le_of_ble_eq_true rfl) rfl) ?_
  exact ⟨cv,by rw [← hpd]; rfl,(hS.sub (List.Sublist.cons_cons _ (List.nil_sublist _))).noB⟩
end Go.Proofs.YtgakdmmmljdpjaaDoor

namespace Go.SL
open Go
def codeOK (e:Int):Prop:=e=4∨e=6∨e=8∨e=14∨e=36
theorem stepM_code {S:List PG} {c:Ch} {e:Int} (h:stepM S c=.error e):codeOK e:=by
  unfold stepM at h
  unfold codeOK
  split at h
  · unfold addM at h; split at h <;> cases h; omega
  · split at h
    · unfold joinM at h
      split at h
      · split at h <;> cases h; omega
      · cases h; omega
    · unfold nameM at h
      split at h
      · cases h; omega
      · split at h
        · cases h; omega
        · split at h <;> cases h; omega
theorem playK_code {l:List Ch} {us:List Bool} {e:Int}:∀ {k:Nat},playK l us k=.error e→codeOK e
  | 0,h=>by cases h
  | k+1,h=>by
    unfold playK at h
    split at h
    · rename_i he
      cases h
      exact playK_code he
    · split at h
      · exact stepM_code h
      · cases h
theorem undoK_code {l:List Ch} {e:Int}:∀ {k:Nat},undoK l k=.error e→codeOK e
  | 0,h=>by cases h
  | k+1,h=>by
    unfold undoK at h
    split at h
    · rename_i he
      cases h
      exact undoK_code he
    · split at h
      · cases h
      · split at h
        · rename_i he; cases h; exact playK_code he
        · split at h
          · split at h
            · split at h
              · cases h; unfold codeOK; omega
              · cases h
            · cases h; unfold codeOK; omega
          · cases h; unfold codeOK; omega
theorem histM_code {l:List Ch} {e:Int} (h:histM l=.error e):codeOK e:=by
  unfold histM at h
  split at h
  · cases h; unfold codeOK; omega
  · split at h
    · split at h
      · rename_i he; cases h; exact undoK_code he
      · split at h
        · rename_i he; cases h; exact playK_code he
        · cases h
    · cases h; unfold codeOK; omega
theorem histM_ne {l:List Ch} {e:Int} (h:histM l=.error e):e≠0:=by
  have:=histM_code h
  unfold codeOK at this
  omega
theorem isS_none {kvs:List (Dg × Value)} {gs:List Grp} {S:List PG} {d:Dg} (hI:IsS kvs gs S) (hn:findG S d=none):getP d kvs=none:=by
  obtain ⟨hL,rfl⟩:=hI
  refine hL.miss d fun g hg hd=>?_
  rw [find_absG,Option.map_eq_none_iff] at hn
  have:=List.find?_eq_none.1 hn g hg
  simp [hd] at this
theorem isS_some {kvs:List (Dg × Value)} {gs:List Grp} {S:List PG} {d:Dg} {p:PG} (hI:IsS kvs gs S) (hn:findG S d=some p):∃ ga rest,gs.Perm (ga::rest)∧absG ga=p∧d ∈ ga.all∧getP d kvs=some (ptrV ga.blk):=by
  obtain ⟨hL,rfl⟩:=hI
  rw [find_absG,Option.map_eq_some_iff] at hn
  obtain ⟨g,hg,he⟩:=hn
  have hd:d ∈ g.all:=by simpa using List.find?_some hg
  have hm:=List.mem_of_find?_eq_some hg
  obtain ⟨s,t,rfl⟩:=List.append_of_mem hm
  exact ⟨g,s++t,List.perm_middle,he,hd,hL.hit g hm d hd⟩
end Go.SL
namespace Go.Proofs.YtgakdmmmljdpjaaDoor
open Go Go.SL
theorem checkD_ok (d:Dg) (w0:World) (hG:Lent w0 ordA) (hd:okD d=true):Ret Tryd.prog 41 #[dV d] w0 (G:=Unit) (fun _=>.int .i64 0) (fun _ w=>St w0 w noX [] []):=by
  have h:=checkD_spec d w0 hG
  rw [hd] at h
  exact h
theorem checkD_bad (d:Dg) (w0:World) (hG:Lent w0 ordA) (hd:okD d=false):Ret Tryd.prog 41 #[dV d] w0 (G:=Unit) (fun _=>.int .i64 8) (fun _ w=>St w0 w noX [] []):=by
  have h:=checkD_spec d w0 hG
  rw [hd] at h
  exact h
theorem checkC_ok (c:Ch) (w0:World) (hG:Lent w0 ordA) (hc:okC c=true):Ret Tryd.prog 25 #[cV c] w0 (G:=Unit) (fun _=>.int .i64 0) (fun _ w=>St w0 w noX [] []):=by
  have h:=checkC_spec c w0 hG
  rw [hc] at h
  exact h
theorem checkC_bad (c:Ch) (w0:World) (hG:Lent w0 ordA) (hc:okC c=false):Ret Tryd.prog 25 #[cV c] w0 (G:=Unit) (fun _=>.int .i64 8) (fun _ w=>St w0 w noX [] []):=by
  have h:=checkC_spec c w0 hG
  rw [hc] at h
  exact h
theorem history_err (vl:Value) (l:List Ch) (w0:World) (hG:Lent w0 ordA) (hl:rdOK (hp w0) 12 vl l.length (encs eC l)) (hfit:vfit vl) {e:Int} (hm:histM l=.error e) :
    Ret Tryd.prog 32 #[vl] w0 (G:=Unit) (fun _=>.tuple #[.map none,.slice none 0 0,.int .i64 e]) (fun _ w=>St w0 w noX [] []):=by
  refine Calls.mono (history_spec vl l w0 hG hl hfit) ?_
  rintro e' w ⟨g,rfl,h⟩
  unfold HistR at h
  rw [hm] at h
  obtain ⟨h1,h2,h3⟩:=h
  refine ⟨(),?_,h3⟩
  show Ending.returned (Value.tuple #[g.1,g.2.1,.int .i64 (errOf (histM l))])=_
  rw [h1,h2,hm]
  rfl
theorem history_ok (vl:Value) (l:List Ch) (w0:World) (hG:Lent w0 ordA) (hl:rdOK (hp w0) 12 vl l.length (encs eC l)) (hfit:vfit vl) {S:List PG} {us:List Bool} (hm:histM l=.ok (S,us)) :
    Ret Tryd.prog 32 #[vl] w0 (G:=Value × Nat × List (Dg × Value) × List Grp) (fun g=>.tuple #[.map (some g.2.1),g.1,.int .i64 0])
      (fun g w=>St w0 w noX [] [stA 95 24 g.2.1 g.2.2.1 g.2.2.2,sl 4 1 g.1 us.length (bools us)]∧IsS g.2.2.1 g.2.2.2 S):=by
  refine Calls.mono (history_spec vl l w0 hG hl hfit) ?_
  rintro e' w ⟨⟨v1,v2,bm,kvs,gs⟩,rfl,h⟩
  unfold HistR at h
  rw [hm] at h
  obtain ⟨h1,h2,h3⟩:=h
  refine ⟨(v2,bm,kvs,gs),?_,h2,h3⟩
  simp only at h1
  rw [h1,hm]
  rfl
end Go.Proofs.YtgakdmmmljdpjaaDoor

namespace Go.Proofs.YtgakdmmmljdpjaaDoor
open Go Go.SL
theorem C_ok_32:callOK Tryd.prog 32=true:=by kernel_rfl
theorem C_ok_37:callOK Tryd.prog 37=true:=by kernel_rfl
set_option maxHeartbeats 400000 in
set_option maxRecDepth 4000 in
theorem undone_ok (vl:Value) (l:List Ch) (w0:World) (hG:Lent w0 ordA) (hl:rdOK (hp w0) 12 vl l.length (encs eC l)) (hfit:vfit vl) (S:List PG) (us:List Bool) (hm:histM l=.ok (S,us)) :
    Ret Tryd.prog 21 #[vl] w0 (G:=Value) (fun g=>.tuple #[g,.int .i64 0]) (fun g w=>St w0 w noX [] [sl 4 1 g us.length (bools us)]):=by
  refine ret_of_W (lv:=[vl]) Tryd.func21 rfl rfl rfl (fun a hf=>?_)
  replace hf:Fr a 15 [] [(0,vl)]:=hf
  have hS:St w0 w0 noX [ordA,rdv 12 vl l.length (encs eC l)] []:=((St.refl w0).lend0 hl).lendA hG
  have hlm:=hl.2.1
  unfold maxLen at hlm
  refine W.seq ?_
  refine W.regionL (l:=[0,1]) rfl ?_
  refine O.val hf rfl rfl rfl (RunV.assign rfl) ?_
  clear hf a; intro a hf
  refine O.val hf rfl rfl rfl (RunV.assign rfl) ?_
  clear hf a; intro a hf
  refine O.nil ?_
  refine k_seq ?_
  refine W.seq ?_
  refine W.regionL (l:=[0,1,2,3,4,5,6,7,8]) rfl ?_
  refine O.val hf rfl rfl rfl (RunV.move rfl) ?_
  clear hf a; intro a hf
  refine O.callR hf rfl rfl rfl (RunE.call (av:=#[vl]) C_ok_32 rfl rfl rfl) (history_ok vl l _ (hS.bptO (i:=0) rfl) (hS.rdAt (j:=1) rfl) hfit hm) ?_
  clear hf a
  rintro ⟨uv,bm,kvs,gs⟩ w1 ⟨hS1,hI⟩ a hf
  replace hf:Fr a _ _ ((9,.tuple #[.map (some bm),uv,.int .i64 0])::_):=hf
  replace hS:=(hS.call hS1).eqM (N:=[stA 95 24 bm kvs gs,sl 4 1 uv us.length (bools us)]) rfl
  clear hS1
  refine O.val hf rfl rfl rfl (RunV.move rfl) ?_
  clear hf a; intro a hf
  refine O.val hf rfl rfl rfl (RunV.extract rfl rfl) ?_
  clear hf a; intro a hf
  refine O.val hf rfl rfl rfl (RunV.extract rfl rfl) ?_
  clear hf a; intro a hf
  refine O.val hf rfl rfl rfl (RunV.extract rfl rfl) ?_
  clear hf a; intro a hf
  refine O.val hf rfl rfl rfl (RunV.assign rfl) ?_
  clear hf a; intro a hf
  refine O.val hf rfl rfl rfl (RunV.assign rfl) ?_
  clear hf a; intro a hf
  refine O.val hf rfl rfl rfl (RunV.assign rfl) ?_
  clear hf a; intro a hf
  refine O.nil ?_
  refine k_seq ?_
  replace hf:Fr a 15 [] [(2,.slice none 0 0),(3,.int .i64 0),(5,uv),(6,.int .i64 0)]:=hf.to ⟨rfl,rfl,rfl,rfl,trivial⟩
  refine W.seq ?_
  refine W.regionL (l:=[0,1,2,3]) rfl ?_
  refine O.val hf rfl rfl rfl (RunV.move rfl) ?_
  clear hf a; intro a hf
  refine O.val hf rfl rfl rfl (RunV.move rfl) ?_
  clear hf a; intro a hf
  refine O.val hf rfl rfl rfl (RunV.assign rfl) ?_
  clear hf a; intro a hf
  refine O.val hf rfl rfl rfl (RunV.assign rfl) ?_
  clear hf a; intro a hf
  refine O.nil ?_
  refine k_seq ?_
  replace hf:Fr a 15 [] [(2,uv),(3,.int .i64 0)]:=hf.to ⟨rfl,rfl,trivial⟩
  refine W.ret ?_
  refine post2 hf rfl (ResOK.tmp rfl) (ResOK.tmp rfl) ?_
  exact ⟨uv,rfl,(hS.sub (List.Sublist.cons _ (List.Sublist.cons_cons _ (List.nil_sublist _)))).noB⟩
set_option maxHeartbeats 400000 in
set_option maxRecDepth 4000 in
theorem who_err (vl:Value) (l:List Ch) (d:Dg) (w0:World) (hG:Lent w0 ordA) (hl:rdOK (hp w0) 12 vl l.length (encs eC l)) (hfit:vfit vl) (e:Int) (hm:histM l=.error e) :
    Ret Tryd.prog 19 #[vl,.agg #[.int .i64 d.num,.int .i64 d.yr,.int .u8 d.half,.int .u8 d.sec,.int .i64 d.cyc]] w0 (G:=Unit) (fun _=>.tuple #[oV ⟨0,0,0,0,0⟩ (.slice none 0 0),.int .i64 e]) (fun _ w=>St w0 w noX [] []):=by
  refine ret_of_W (lv:=[vl,.agg #[.int .i64 d.num,.int .i64 d.yr,.int .u8 d.half,.int .u8 d.sec,.int .i64 d.cyc]]) Tryd.func19 rfl rfl rfl (fun a hf=>?_)
  replace hf:Fr a 35 [] [(0,vl),(1,.agg #[.int .i64 d.num,.int .i64 d.yr,.int .u8 d.half,.int .u8 d.sec,.int .i64 d.cyc])]:=hf
  have hS:St w0 w0 noX [ordA,rdv 12 vl l.length (encs eC l)] []:=((St.refl w0).lend0 hl).lendA hG
  have hlm:=hl.2.1
  unfold maxLen at hlm
  have he0:=histM_ne hm
  refine W.seq ?_
  refine W.regionL (l:=[0,1,2]) rfl ?_
  refine O.box (cs:=#[.int .i64 d.num,.int .i64 d.yr,.int .u8 d.half,.int .u8 d.sec,.int .i64 d.cyc]) hf hS rfl rfl rfl rfl ?_
  clear hf hS a; intro b_d1 w a hbb_d1 hS hf
  refine O.alloc (cs:=#[.int .i64 0,.int .i64 0,.int .u8 0,.int .u8 0,.int .i64 0,.slice none 0 0]) hf hS rfl rfl T_zero_46 rfl ?_
  clear hf hS a; intro b_x2 w a hbb_x2 hS hf
  refine O.val hf rfl rfl rfl (RunV.assign rfl) ?_
  clear hf a; intro a hf
  refine O.nil ?_
  refine k_seq ?_
  replace hf:Fr a 35 [] [(0,vl),(3,.pointer (some ⟨b_d1,0,none⟩)),(4,.pointer (some ⟨b_x2,0,none⟩)),(5,.int .i64 0)]:=hf.to ⟨rfl,rfl,rfl,rfl,trivial⟩
  refine W.seq ?_
  refine W.regionL (l:=[0,1,2,3,4,5,6,7,8]) rfl ?_
  refine O.val hf rfl rfl rfl (RunV.move rfl) ?_
  clear hf a; intro a hf
  refine O.callR hf rfl rfl rfl (RunE.call (av:=#[vl]) C_ok_32 rfl rfl rfl) (history_err vl l _ (hS.bptO (i:=0) rfl) (hS.rdAt (j:=1) rfl) hfit hm) ?_
  clear hf a
  rintro _ w3 hS1 a hf
  replace hf:Fr a _ _ ((13,.tuple #[.map none,(.slice none 0 0),.int .i64 e])::_):=hf
  replace hS:=(hS.call hS1).eqM (N:=[pt b_x2 (.cells #[.int .i64 0,.int .i64 0,.int .u8 0,.int .u8 0,.int .i64 0,.slice none 0 0] 46 (0,0)),pt b_d1 (.cells #[.int .i64 d.num,.int .i64 d.yr,.int .u8 d.half,.int .u8 d.sec,.int .i64 d.cyc] 24 (0,0))]) rfl
  clear hS1
  refine O.val hf rfl rfl rfl (RunV.move rfl) ?_
  clear hf a; intro a hf
  refine O.val hf rfl rfl rfl (RunV.extract rfl rfl) ?_
  clear hf a; intro a hf
  refine O.val hf rfl rfl rfl (RunV.extract rfl rfl) ?_
  clear hf a; intro a hf
  refine O.val hf rfl rfl rfl (RunV.extract rfl rfl) ?_
  clear hf a; intro a hf
  refine O.val hf rfl rfl rfl (RunV.assign rfl) ?_
  clear hf a; intro a hf
  refine O.val hf rfl rfl rfl (RunV.assign rfl) ?_
  clear hf a; intro a hf
  refine O.val hf rfl rfl rfl (RunV.assign rfl) ?_
  clear hf a; intro a hf
  refine O.nil ?_
  refine k_seq ?_
  replace hf:Fr a 35 [] [(3,.pointer (some ⟨b_d1,0,none⟩)),(4,.pointer (some ⟨b_x2,0,none⟩)),(5,.int .i64 0),(6,.map none),(8,.int .i64 e)]:=hf.to ⟨rfl,rfl,rfl,rfl,rfl,trivial⟩
  refine W.seq ?_
  refine W.seq ?_
  refine W.regionL (l:=[0,1]) rfl ?_
  refine O.val hf rfl rfl rfl (RunV.move rfl) ?_
  clear hf a; intro a hf
  refine O.val (v:=.bool (decide (e≠(0:Int)))) hf rfl rfl rfl (RunV.neq rfl rfl) ?_
  clear hf a; intro a hf
  refine O.nil ?_
  refine k_seq ?_
  replace hf:Fr a 35 [] [(3,.pointer (some ⟨b_d1,0,none⟩)),(4,.pointer (some ⟨b_x2,0,none⟩)),(5,.int .i64 0),(6,.map none),(8,.int .i64 e),(18,.bool (decide (e≠(0:Int))))]:=hf.to ⟨rfl,rfl,rfl,rfl,rfl,rfl,trivial⟩
  refine W.ifdI hf rfl (fun h1=>?_) (fun h1=>?_)
  · refine W.seq ?_
    refine W.regionL (l:=[0,1,2,3]) rfl ?_
    refine O.val hf rfl rfl rfl (RunV.buildS (cs':=#[.int .i64 0,.int .i64 0,.int .u8 0,.int .u8 0,.int .i64 0,.slice none 0 0]) T_places_46 T_zero_46 rfl rfl) ?_
    clear hf a; intro a hf
    refine O.val hf rfl rfl rfl (RunV.move rfl) ?_
    clear hf a; intro a hf
    refine O.store (j:=0) (cs':=#[.int .i64 0,.int .i64 0,.int .u8 0,.int .u8 0,.int .i64 0,.slice none 0 0]) (M':=[pt b_x2 (.cells #[.int .i64 0,.int .i64 0,.int .u8 0,.int .u8 0,.int .i64 0,.slice none 0 0] 46 (0,0)),pt b_d1 (.cells #[.int .i64 d.num,.int .i64 d.yr,.int .u8 d.half,.int .u8 d.sec,.int .i64 d.cyc] 24 (0,0))]) hf hS rfl rfl rfl T_size_46 rfl rfl rfl (Nat.le_of_ble_eq_true rfl) rfl rfl ?_
    clear hS; intro w hS
    refine O.val hf rfl rfl rfl (RunV.assign rfl) ?_
    clear hf a; intro a hf
    refine O.nil ?_
    refine k_seq ?_
    replace hf:Fr a 35 [] [(3,.pointer (some ⟨b_d1,0,none⟩)),(4,.pointer (some ⟨b_x2,0,none⟩)),(5,.int .i64 e),(6,.map none)]:=hf.to ⟨rfl,rfl,rfl,rfl,trivial⟩
    refine W.ret ?_
    refine k_then_ret ?_
    refine post2 hf rfl (ResOK.cellN (cs':=#[.int .i64 0,.int .i64 0,.int .u8 0,.int .u8 0,.int .i64 0,.slice none 0 0]) rfl T_agg_46 T_size_46 (hS.ptAt (i:=0) rfl) (Nat.le_of_ble_eq_true rfl) rfl) (ResOK.tmp rfl) ?_
    first
      | exact absurd he0 h1
      | exact ⟨(),rfl,hS.sub (List.nil_sublist _) |>.noB⟩
  · exact absurd he0 h1
set_option maxHeartbeats 400000 in
set_option maxRecDepth 4000 in
theorem who_bad (vl:Value) (l:List Ch) (d:Dg) (w0:World) (hG:Lent w0 ordA) (hl:rdOK (hp w0) 12 vl l.length (encs eC l)) (hfit:vfit vl) (S:List PG) (us:List Bool) (hm:histM l=.ok (S,us)) (hd:okD d=false) :
    Ret Tryd.prog 19 #[vl,.agg #[.int .i64 d.num,.int .i64 d.yr,.int .u8 d.half,.int .u8 d.sec,.int .i64 d.cyc]] w0 (G:=Unit) (fun _=>.tuple #[oV ⟨0,0,0,0,0⟩ (.slice none 0 0),.int .i64 8]) (fun _ w=>St w0 w noX [] []):=by
  refine ret_of_W (lv:=[vl,.agg #[.int .i64 d.num,.int .i64 d.yr,.int .u8 d.half,.int .u8 d.sec,.int .i64 d.cyc]]) Tryd.func19 rfl rfl rfl (fun a hf=>?_)
  replace hf:Fr a 35 [] [(0,vl),(1,.agg #[.int .i64 d.num,.int .i64 d.yr,.int .u8 d.half,.int .u8 d.sec,.int .i64 d.cyc])]:=hf
  have hS:St w0 w0 noX [ordA,rdv 12 vl l.length (encs eC l)] []:=((St.refl w0).lend0 hl).lendA hG
  have hlm:=hl.2.1
  unfold maxLen at hlm
  refine W.seq ?_
  refine W.regionL (l:=[0,1,2]) rfl ?_
  refine O.box (cs:=#[.int .i64 d.num,.int .i64 d.yr,.int .u8 d.half,.int .u8 d.sec,.int .i64 d.cyc]) hf hS rfl rfl rfl rfl ?_
  clear hf hS a; intro b_d1 w a hbb_d1 hS hf
  refine O.alloc (cs:=#[.int .i64 0,.int .i64 0,.int .u8 0,.int .u8 0,.int .i64 0,.slice none 0 0]) hf hS rfl rfl T_zero_46 rfl ?_
  clear hf hS a; intro b_x2 w a hbb_x2 hS hf
  refine O.val hf rfl rfl rfl (RunV.assign rfl) ?_
  clear hf a; intro a hf
  refine O.nil ?_
  refine k_seq ?_
  replace hf:Fr a 35 [] [(0,vl),(3,.pointer (some ⟨b_d1,0,none⟩)),(4,.pointer (some ⟨b_x2,0,none⟩)),(5,.int .i64 0)]:=hf.to ⟨rfl,rfl,rfl,rfl,trivial⟩
  refine W.seq ?_
  refine W.regionL (l:=[0,1,2,3,4,5,6,7,8]) rfl ?_
  refine O.val hf rfl rfl rfl (RunV.move rfl) ?_
  clear hf a; intro a hf
  refine O.callR hf rfl rfl rfl (RunE.call (av:=#[vl]) C_ok_32 rfl rfl rfl) (history_ok vl l _ (hS.bptO (i:=0) rfl) (hS.rdAt (j:=1) rfl) hfit hm) ?_
  clear hf a
  rintro ⟨uv,bm,kvs,gs⟩ w3 ⟨hS1,hI⟩ a hf
  replace hf:Fr a _ _ ((13,.tuple #[.map (some bm),uv,.int .i64 0])::_):=hf
  replace hS:=(hS.call hS1).eqM (N:=[stA 95 24 bm kvs gs,sl 4 1 uv us.length (bools us),pt b_x2 (.cells #[.int .i64 0,.int .i64 0,.int .u8 0,.int .u8 0,.int .i64 0,.slice none 0 0] 46 (0,0)),pt b_d1 (.cells #[.int .i64 d.num,.int .i64 d.yr,.int .u8 d.half,.int .u8 d.sec,.int .i64 d.cyc] 24 (0,0))]) rfl
  clear hS1
  refine O.val hf rfl rfl rfl (RunV.move rfl) ?_
  clear hf a; intro a hf
  refine O.val hf rfl rfl rfl (RunV.extract rfl rfl) ?_
  clear hf a; intro a hf
  refine O.val hf rfl rfl rfl (RunV.extract rfl rfl) ?_
  clear hf a; intro a hf
  refine O.val hf rfl rfl rfl (RunV.extract rfl rfl) ?_
  clear hf a; intro a hf
  refine O.val hf rfl rfl rfl (RunV.assign rfl) ?_
  clear hf a; intro a hf
  refine O.val hf rfl rfl rfl (RunV.assign rfl) ?_
  clear hf a; intro a hf
  refine O.val hf rfl rfl rfl (RunV.assign rfl) ?_
  clear hf a; intro a hf
  refine O.nil ?_
  refine k_seq ?_
  replace hf:Fr a 35 [] [(3,.pointer (some ⟨b_d1,0,none⟩)),(4,.pointer (some ⟨b_x2,0,none⟩)),(5,.int .i64 0),(6,.map (some bm)),(8,.int .i64 0)]:=hf.to ⟨rfl,rfl,rfl,rfl,rfl,trivial⟩
  refine W.seq ?_
  refine W.seq ?_
  refine W.regionL (l:=[0,1]) rfl ?_
  refine O.val hf rfl rfl rfl (RunV.move rfl) ?_
  clear hf a; intro a hf
  refine O.val hf rfl rfl rfl (RunV.toB (c:=false) (RunV.neq rfl rfl) (by decide)) ?_
  clear hf a; intro a hf
  refine O.nil ?_
  refine k_seq ?_
  replace hf:Fr a 35 [] [(3,.pointer (some ⟨b_d1,0,none⟩)),(4,.pointer (some ⟨b_x2,0,none⟩)),(5,.int .i64 0),(6,.map (some bm)),(8,.int .i64 0),(18,.bool false)]:=hf.to ⟨rfl,rfl,rfl,rfl,rfl,rfl,trivial⟩
  refine W.if_ff hf rfl ?_
  refine W.skip ?_
  refine k_seq ?_
  replace hf:Fr a 35 [] [(3,.pointer (some ⟨b_d1,0,none⟩)),(4,.pointer (some ⟨b_x2,0,none⟩)),(5,.int .i64 0),(6,.map (some bm))]:=hf.to ⟨rfl,rfl,rfl,rfl,trivial⟩
  refine W.seq ?_
  refine W.seq ?_
  refine W.regionL (l:=[0,1,2]) rfl ?_
  refine O.val hf rfl rfl rfl (RunV.loadN (cs':=#[.int .i64 d.num,.int .i64 d.yr,.int .u8 d.half,.int .u8 d.sec,.int .i64 d.cyc]) T_agg_24 T_size_24 rfl (hS.ptAt (i:=3) rfl) (Nat.le_of_ble_eq_true rfl) rfl) ?_
  clear hf a; intro a hf
  refine O.callR hf rfl rfl rfl (RunE.call (av:=#[.agg #[.int .i64 d.num,.int .i64 d.yr,.int .u8 d.half,.int .u8 d.sec,.int .i64 d.cyc]]) C_ok_41 rfl rfl rfl) (checkD_bad d _ (hS.bptO (i:=0) rfl) hd) ?_
  clear hf a
  rintro _ w4 hS1 a hf
  replace hf:Fr a _ _ ((22,.int .i64 8)::_):=hf
  replace hS:=(hS.call hS1).eqM (N:=[stA 95 24 bm kvs gs,sl 4 1 uv us.length (bools us),pt b_x2 (.cells #[.int .i64 0,.int .i64 0,.int .u8 0,.int .u8 0,.int .i64 0,.slice none 0 0] 46 (0,0)),pt b_d1 (.cells #[.int .i64 d.num,.int .i64 d.yr,.int .u8 d.half,.int .u8 d.sec,.int .i64 d.cyc] 24 (0,0))]) rfl
  clear hS1
  refine O.val hf rfl rfl rfl (RunV.assign rfl) ?_
  clear hf a; intro a hf
  refine O.nil ?_
  refine k_seq ?_
  replace hf:Fr a 35 [] [(3,.pointer (some ⟨b_d1,0,none⟩)),(4,.pointer (some ⟨b_x2,0,none⟩)),(5,.int .i64 0),(6,.map (some bm)),(9,.int .i64 8)]:=hf.to ⟨rfl,rfl,rfl,rfl,rfl,trivial⟩
  refine W.seq ?_
  refine W.regionL (l:=[0,1]) rfl ?_
  refine O.val hf rfl rfl rfl (RunV.move rfl) ?_
  clear hf a; intro a hf
  refine O.val hf rfl rfl rfl (RunV.toB (c:=true) (RunV.neq rfl rfl) (by decide)) ?_
  clear hf a; intro a hf
  refine O.nil ?_
  refine k_seq ?_
  replace hf:Fr a 35 [] [(3,.pointer (some ⟨b_d1,0,none⟩)),(4,.pointer (some ⟨b_x2,0,none⟩)),(5,.int .i64 0),(6,.map (some bm)),(9,.int .i64 8),(24,.bool true)]:=hf.to ⟨rfl,rfl,rfl,rfl,rfl,rfl,trivial⟩
  refine W.if_tt hf rfl ?_
  refine W.seq ?_
  refine W.regionL (l:=[0,1,2,3]) rfl ?_
  refine O.val hf rfl rfl rfl (RunV.buildS (cs':=#[.int .i64 0,.int .i64 0,.int .u8 0,.int .u8 0,.int .i64 0,.slice none 0 0]) T_places_46 T_zero_46 rfl rfl) ?_
  clear hf a; intro a hf
  refine O.val hf rfl rfl rfl (RunV.move rfl) ?_
  clear hf a; intro a hf
  refine O.store (j:=2) (cs':=#[.int .i64 0,.int .i64 0,.int .u8 0,.int .u8 0,.int .i64 0,.slice none 0 0]) (M':=[stA 95 24 bm kvs gs,sl 4 1 uv us.length (bools us),pt b_x2 (.cells #[.int .i64 0,.int .i64 0,.int .u8 0,.int .u8 0,.int .i64 0,.slice none 0 0] 46 (0,0)),pt b_d1 (.cells #[.int .i64 d.num,.int .i64 d.yr,.int .u8 d.half,.int .u8 d.sec,.int .i64 d.cyc] 24 (0,0))]) hf hS rfl rfl rfl T_size_46 rfl rfl rfl (Nat.le_of_ble_eq_true rfl) rfl rfl ?_
  clear hS; intro w hS
  refine O.val hf rfl rfl rfl (RunV.assign rfl) ?_
  clear hf a; intro a hf
  refine O.nil ?_
  refine k_seq ?_
  replace hf:Fr a 35 [] [(3,.pointer (some ⟨b_d1,0,none⟩)),(4,.pointer (some ⟨b_x2,0,none⟩)),(5,.int .i64 8),(6,.map (some bm))]:=hf.to ⟨rfl,rfl,rfl,rfl,trivial⟩
  refine W.ret ?_
  refine k_then_ret ?_
  refine post2 hf rfl (ResOK.cellN (cs':=#[.int .i64 0,.int .i64 0,.int .u8 0,.int .u8 0,.int .i64 0,.slice none 0 0]) rfl T_agg_46 T_size_46 (hS.ptAt (i:=2) rfl) (Nat.le_of_ble_eq_true rfl) rfl) (ResOK.tmp rfl) ?_
  exact ⟨(),rfl,hS.sub (List.nil_sublist _) |>.noB⟩
set_option maxHeartbeats 400000 in
set_option maxRecDepth 4000 in
theorem who_none (vl:Value) (l:List Ch) (d:Dg) (w0:World) (hG:Lent w0 ordA) (hl:rdOK (hp w0) 12 vl l.length (encs eC l)) (hfit:vfit vl) (S:List PG) (us:List Bool) (hm:histM l=.ok (S,us)) (hd:okD d=true) (hn:findG S d=none) :
    Ret Tryd.prog 19 #[vl,.agg #[.int .i64 d.num,.int .i64 d.yr,.int .u8 d.half,.int .u8 d.sec,.int .i64 d.cyc]] w0 (G:=Unit) (fun _=>.tuple #[oV ⟨0,0,0,0,0⟩ (.slice none 0 0),.int .i64 6]) (fun _ w=>St w0 w noX [] []):=by
  refine ret_of_W (lv:=[vl,.agg #[.int .i64 d.num,.int .i64 d.yr,.int .u8 d.half,.int .u8 d.sec,.int .i64 d.cyc]]) Tryd.func19 rfl rfl rfl (fun a hf=>?_)
  replace hf:Fr a 35 [] [(0,vl),(1,.agg #[.int .i64 d.num,.int .i64 d.yr,.int .u8 d.half,.int .u8 d.sec,.int .i64 d.cyc])]:=hf
  have hS:St w0 w0 noX [ordA,rdv 12 vl l.length (encs eC l)] []:=((St.refl w0).lend0 hl).lendA hG
  have hlm:=hl.2.1
  unfold maxLen at hlm
  refine W.seq ?_
  refine W.regionL (l:=[0,1,2]) rfl ?_
  refine O.box (cs:=#[.int .i64 d.num,.int .i64 d.yr,.int .u8 d.half,.int .u8 d.sec,.int .i64 d.cyc]) hf hS rfl rfl rfl rfl ?_
  clear hf hS a; intro b_d1 w a hbb_d1 hS hf
  refine O.alloc (cs:=#[.int .i64 0,.int .i64 0,.int .u8 0,.int .u8 0,.int .i64 0,.slice none 0 0]) hf hS rfl rfl T_zero_46 rfl ?_
  clear hf hS a; intro b_x2 w a hbb_x2 hS hf
  refine O.val hf rfl rfl rfl (RunV.assign rfl) ?_
  clear hf a; intro a hf
  refine O.nil ?_
  refine k_seq ?_
  replace hf:Fr a 35 [] [(0,vl),(3,.pointer (some ⟨b_d1,0,none⟩)),(4,.pointer (some ⟨b_x2,0,none⟩)),(5,.int .i64 0)]:=hf.to ⟨rfl,rfl,rfl,rfl,trivial⟩
  refine W.seq ?_
  refine W.regionL (l:=[0,1,2,3,4,5,6,7,8]) rfl ?_
  refine O.val hf rfl rfl rfl (RunV.move rfl) ?_
  clear hf a; intro a hf
  refine O.callR hf rfl rfl rfl (RunE.call (av:=#[vl]) C_ok_32 rfl rfl rfl) (history_ok vl l _ (hS.bptO (i:=0) rfl) (hS.rdAt (j:=1) rfl) hfit hm) ?_
  clear hf a
  rintro ⟨uv,bm,kvs,gs⟩ w3 ⟨hS1,hI⟩ a hf
  replace hf:Fr a _ _ ((13,.tuple #[.map (some bm),uv,.int .i64 0])::_):=hf
  replace hS:=(hS.call hS1).eqM (N:=[stA 95 24 bm kvs gs,sl 4 1 uv us.length (bools us),pt b_x2 (.cells #[.int .i64 0,.int .i64 0,.int .u8 0,.int .u8 0,.int .i64 0,.slice none 0 0] 46 (0,0)),pt b_d1 (.cells #[.int .i64 d.num,.int .i64 d.yr,.int .u8 d.half,.int .u8 d.sec,.int .i64 d.cyc] 24 (0,0))]) rfl
  clear hS1
  refine O.val hf rfl rfl rfl (RunV.move rfl) ?_
  clear hf a; intro a hf
  refine O.val hf rfl rfl rfl (RunV.extract rfl rfl) ?_
  clear hf a; intro a hf
  refine O.val hf rfl rfl rfl (RunV.extract rfl rfl) ?_
  clear hf a; intro a hf
  refine O.val hf rfl rfl rfl (RunV.extract rfl rfl) ?_
  clear hf a; intro a hf
  refine O.val hf rfl rfl rfl (RunV.assign rfl) ?_
  clear hf a; intro a hf
  refine O.val hf rfl rfl rfl (RunV.assign rfl) ?_
  clear hf a; intro a hf
  refine O.val hf rfl rfl rfl (RunV.assign rfl) ?_
  clear hf a; intro a hf
  refine O.nil ?_
  refine k_seq ?_
  replace hf:Fr a 35 [] [(3,.pointer (some ⟨b_d1,0,none⟩)),(4,.pointer (some ⟨b_x2,0,none⟩)),(5,.int .i64 0),(6,.map (some bm)),(8,.int .i64 0)]:=hf.to ⟨rfl,rfl,rfl,rfl,rfl,trivial⟩
  refine W.seq ?_
  refine W.seq ?_
  refine W.regionL (l:=[0,1]) rfl ?_
  refine O.val hf rfl rfl rfl (RunV.move rfl) ?_
  clear hf a; intro a hf
  refine O.val hf rfl rfl rfl (RunV.toB (c:=false) (RunV.neq rfl rfl) (by decide)) ?_
  clear hf a; intro a hf
  refine O.nil ?_
  refine k_seq ?_
  replace hf:Fr a 35 [] [(3,.pointer (some ⟨b_d1,0,none⟩)),(4,.pointer (some ⟨b_x2,0,none⟩)),(5,.int .i64 0),(6,.map (some bm)),(8,.int .i64 0),(18,.bool false)]:=hf.to ⟨rfl,rfl,rfl,rfl,rfl,rfl,trivial⟩
  refine W.if_ff hf rfl ?_
  refine W.skip ?_
  refine k_seq ?_
  replace hf:Fr a 35 [] [(3,.pointer (some ⟨b_d1,0,none⟩)),(4,.pointer (some ⟨b_x2,0,none⟩)),(5,.int .i64 0),(6,.map (some bm))]:=hf.to ⟨rfl,rfl,rfl,rfl,trivial⟩
  refine W.seq ?_
  refine W.seq ?_
  refine W.regionL (l:=[0,1,2]) rfl ?_
  refine O.val hf rfl rfl rfl (RunV.loadN (cs':=#[.int .i64 d.num,.int .i64 d.yr,.int .u8 d.half,.int .u8 d.sec,.int .i64 d.cyc]) T_agg_24 T_size_24 rfl (hS.ptAt (i:=3) rfl) (Nat.le_of_ble_eq_true rfl) rfl) ?_
  clear hf a; intro a hf
  refine O.callR hf rfl rfl rfl (RunE.call (av:=#[.agg #[.int .i64 d.num,.int .i64 d.yr,.int .u8 d.half,.int .u8 d.sec,.int .i64 d.cyc]]) C_ok_41 rfl rfl rfl) (checkD_ok d _ (hS.bptO (i:=0) rfl) hd) ?_
  clear hf a
  rintro _ w4 hS1 a hf
  replace hf:Fr a _ _ ((22,.int .i64 0)::_):=hf
  replace hS:=(hS.call hS1).eqM (N:=[stA 95 24 bm kvs gs,sl 4 1 uv us.length (bools us),pt b_x2 (.cells #[.int .i64 0,.int .i64 0,.int .u8 0,.int .u8 0,.int .i64 0,.slice none 0 0] 46 (0,0)),pt b_d1 (.cells #[.int .i64 d.num,.int .i64 d.yr,.int .u8 d.half,.int .u8 d.sec,.int .i64 d.cyc] 24 (0,0))]) rfl
  clear hS1
  refine O.val hf rfl rfl rfl (RunV.assign rfl) ?_
  clear hf a; intro a hf
  refine O.nil ?_
  refine k_seq ?_
  replace hf:Fr a 35 [] [(3,.pointer (some ⟨b_d1,0,none⟩)),(4,.pointer (some ⟨b_x2,0,none⟩)),(5,.int .i64 0),(6,.map (some bm)),(9,.int .i64 0)]:=hf.to ⟨rfl,rfl,rfl,rfl,rfl,trivial⟩
  refine W.seq ?_
  refine W.regionL (l:=[0,1]) rfl ?_
  refine O.val hf rfl rfl rfl (RunV.move rfl) ?_
  clear hf a; intro a hf
  refine O.val hf rfl rfl rfl (RunV.toB (c:=false) (RunV.neq rfl rfl) (by decide)) ?_
  clear hf a; intro a hf
  refine O.nil ?_
  refine k_seq ?_
  replace hf:Fr a 35 [] [(3,.pointer (some ⟨b_d1,0,none⟩)),(4,.pointer (some ⟨b_x2,0,none⟩)),(5,.int .i64 0),(6,.map (some bm)),(9,.int .i64 0),(24,.bool false)]:=hf.to ⟨rfl,rfl,rfl,rfl,rfl,rfl,trivial⟩
  refine W.if_ff hf rfl ?_
  refine W.skip ?_
  refine k_seq ?_
  replace hf:Fr a 35 [] [(3,.pointer (some ⟨b_d1,0,none⟩)),(4,.pointer (some ⟨b_x2,0,none⟩)),(5,.int .i64 0),(6,.map (some bm))]:=hf.to ⟨rfl,rfl,rfl,rfl,trivial⟩
  refine W.seq ?_
  refine W.regionL (l:=[0,1,2,3]) rfl ?_
  replace hS:=St.stOpen hS
  refine O.val hf rfl rfl rfl (RunV.move rfl) ?_
  clear hf a; intro a hf
  refine O.val hf rfl rfl rfl (RunV.loadN (cs':=#[.int .i64 d.num,.int .i64 d.yr,.int .u8 d.half,.int .u8 d.sec,.int .i64 d.cyc]) T_agg_24 T_size_24 rfl (hS.ptAt (i:=4) rfl) (Nat.le_of_ble_eq_true rfl) rfl) ?_
  clear hf a; intro a hf
  refine O.val hf rfl rfl rfl (RunV.lookP (k:=d) (kvs:=kvs) T_mapof_71 keyD trivial (fun _ _=>trivial) rfl rfl (hS.mpAt (j:=0) rfl) (by rw [isS_none hI hn] <;> rfl)) ?_
  clear hf a; intro a hf
  refine O.val hf rfl rfl rfl (RunV.assign rfl) ?_
  clear hf a; intro a hf
  refine O.nil ?_
  refine k_seq ?_
  replace hf:Fr a 35 [] [(4,.pointer (some ⟨b_x2,0,none⟩)),(5,.int .i64 0),(10,.pointer none)]:=hf.to ⟨rfl,rfl,rfl,trivial⟩
  refine W.seq ?_
  refine W.seq ?_
  refine W.regionL (l:=[0,1]) rfl ?_
  refine O.val hf rfl rfl rfl (RunV.move rfl) ?_
  clear hf a; intro a hf
  refine O.val hf rfl rfl rfl (RunV.toB (c:=true) (RunV.eqNil Tryd.underlying79 rfl rfl) rfl) ?_
  clear hf a; intro a hf
  refine O.nil ?_
  refine k_seq ?_
  replace hf:Fr a 35 [] [(4,.pointer (some ⟨b_x2,0,none⟩)),(5,.int .i64 0),(10,.pointer none),(31,.bool true)]:=hf.to ⟨rfl,rfl,rfl,rfl,trivial⟩
  refine W.if_tt hf rfl ?_
  refine W.seq ?_
  refine W.regionL (l:=[0,1,2]) rfl ?_
  refine O.val hf rfl rfl rfl (RunV.buildS (cs':=#[.int .i64 0,.int .i64 0,.int .u8 0,.int .u8 0,.int .i64 0,.slice none 0 0]) T_places_46 T_zero_46 rfl rfl) ?_
  clear hf a; intro a hf
  refine O.store (j:=3) (cs':=#[.int .i64 0,.int .i64 0,.int .u8 0,.int .u8 0,.int .i64 0,.slice none 0 0]) (M':=[mp dV bm kvs,bigA (gs.map (grA 95 24)),sl 4 1 uv us.length (bools us),pt b_x2 (.cells #[.int .i64 0,.int .i64 0,.int .u8 0,.int .u8 0,.int .i64 0,.slice none 0 0] 46 (0,0)),pt b_d1 (.cells #[.int .i64 d.num,.int .i64 d.yr,.int .u8 d.half,.int .u8 d.sec,.int .i64 d.cyc] 24 (0,0))]) hf hS rfl rfl rfl T_size_46 rfl rfl rfl (Nat.le_of_ble_eq_true rfl) rfl rfl ?_
  clear hS; intro w hS
  refine O.val hf rfl rfl rfl (RunV.assign rfl) ?_
  clear hf a; intro a hf
  refine O.nil ?_
  refine k_seq ?_
  replace hf:Fr a 35 [] [(4,.pointer (some ⟨b_x2,0,none⟩)),(5,.int .i64 6),(10,.pointer none)]:=hf.to ⟨rfl,rfl,rfl,trivial⟩
  refine W.ret ?_
  refine k_then_ret ?_
  refine post2 hf rfl (ResOK.cellN (cs':=#[.int .i64 0,.int .i64 0,.int .u8 0,.int .u8 0,.int .i64 0,.slice none 0 0]) rfl T_agg_46 T_size_46 (hS.ptAt (i:=3) rfl) (Nat.le_of_ble_eq_true rfl) rfl) (ResOK.tmp rfl) ?_
  exact ⟨(),rfl,hS.sub (List.nil_sublist _) |>.noB⟩
set_option maxHeartbeats 400000 in
set_option maxRecDepth 4000 in
theorem who_ok (vl:Value) (l:List Ch) (d:Dg) (w0:World) (hG:Lent w0 ordA) (hl:rdOK (hp w0) 12 vl l.length (encs eC l)) (hfit:vfit vl) (S:List PG) (us:List Bool) (hm:histM l=.ok (S,us)) (hd:okD d=true) (p:PG) (hn:findG S d=some p) (hpk:∀ x ∈ p.1,okD x=true) (hpz:p.1.length≤10000) (hpn:p.1≠[]) :
    Ret Tryd.prog 19 #[vl,.agg #[.int .i64 d.num,.int .i64 d.yr,.int .u8 d.half,.int .u8 d.sec,.int .i64 d.cyc]] w0 (G:=Value) (fun g=>.tuple #[oV ((sortDs p.1).getD 0 default) g,.int .i64 0]) (fun g w=>St w0 w noX [] [slE 24 5 eD g (sortDs p.1)]):=by
  refine ret_of_W (lv:=[vl,.agg #[.int .i64 d.num,.int .i64 d.yr,.int .u8 d.half,.int .u8 d.sec,.int .i64 d.cyc]]) Tryd.func19 rfl rfl rfl (fun a hf=>?_)
  replace hf:Fr a 35 [] [(0,vl),(1,.agg #[.int .i64 d.num,.int .i64 d.yr,.int .u8 d.half,.int .u8 d.sec,.int .i64 d.cyc])]:=hf
  have hS:St w0 w0 noX [ordA,rdv 12 vl l.length (encs eC l)] []:=((St.refl w0).lend0 hl).lendA hG
  have hlm:=hl.2.1
  unfold maxLen at hlm
  refine W.seq ?_
  refine W.regionL (l:=[0,1,2]) rfl ?_
  refine O.box (cs:=#[.int .i64 d.num,.int .i64 d.yr,.int .u8 d.half,.int .u8 d.sec,.int .i64 d.cyc]) hf hS rfl rfl rfl rfl ?_
  clear hf hS a; intro b_d1 w a hbb_d1 hS hf
  refine O.alloc (cs:=#[.int .i64 0,.int .i64 0,.int .u8 0,.int .u8 0,.int .i64 0,.slice none 0 0]) hf hS rfl rfl T_zero_46 rfl ?_
  clear hf hS a; intro b_x2 w a hbb_x2 hS hf
  refine O.val hf rfl rfl rfl (RunV.assign rfl) ?_
  clear hf a; intro a hf
  refine O.nil ?_
  refine k_seq ?_
  replace hf:Fr a 35 [] [(0,vl),(3,.pointer (some ⟨b_d1,0,none⟩)),(4,.pointer (some ⟨b_x2,0,none⟩)),(5,.int .i64 0)]:=hf.to ⟨rfl,rfl,rfl,rfl,trivial⟩
  refine W.seq ?_
  refine W.regionL (l:=[0,1,2,3,4,5,6,7,8]) rfl ?_
  refine O.val hf rfl rfl rfl (RunV.move rfl) ?_
  clear hf a; intro a hf
  refine O.callR hf rfl rfl rfl (RunE.call (av:=#[vl]) C_ok_32 rfl rfl rfl) (history_ok vl l _ (hS.bptO (i:=0) rfl) (hS.rdAt (j:=1) rfl) hfit hm) ?_
  clear hf a
  rintro ⟨uv,bm,kvs,gs⟩ w3 ⟨hS1,hI⟩ a hf
  replace hf:Fr a _ _ ((13,.tuple #[.map (some bm),uv,.int .i64 0])::_):=hf
  replace hS:=(hS.call hS1).eqM (N:=[stA 95 24 bm kvs gs,sl 4 1 uv us.length (bools us),pt b_x2 (.cells #[.int .i64 0,.int .i64 0,.int .u8 0,.int .u8 0,.int .i64 0,.slice none 0 0] 46 (0,0)),pt b_d1 (.cells #[.int .i64 d.num,.int .i64 d.yr,.int .u8 d.half,.int .u8 d.sec,.int .i64 d.cyc] 24 (0,0))]) rfl
  clear hS1
  refine O.val hf rfl rfl rfl (RunV.move rfl) ?_
  clear hf a; intro a hf
  refine O.val hf rfl rfl rfl (RunV.extract rfl rfl) ?_
  clear hf a; intro a hf
  refine O.val hf rfl rfl rfl (RunV.extract rfl rfl) ?_
  clear hf a; intro a hf
  refine O.val hf rfl rfl rfl (RunV.extract rfl rfl) ?_
  clear hf a; intro a hf
  refine O.val hf rfl rfl rfl (RunV.assign rfl) ?_
  clear hf a; intro a hf
  refine O.val hf rfl rfl rfl (RunV.assign rfl) ?_
  clear hf a; intro a hf
  refine O.val hf rfl rfl rfl (RunV.assign rfl) ?_
  clear hf a; intro a hf
  refine O.nil ?_
  refine k_seq ?_
  replace hf:Fr a 35 [] [(3,.pointer (some ⟨b_d1,0,none⟩)),(4,.pointer (some ⟨b_x2,0,none⟩)),(5,.int .i64 0),(6,.map (some bm)),(8,.int .i64 0)]:=hf.to ⟨rfl,rfl,rfl,rfl,rfl,trivial⟩
  refine W.seq ?_
  refine W.seq ?_
  refine W.regionL (l:=[0,1]) rfl ?_
  refine O.val hf rfl rfl rfl (RunV.move rfl) ?_
  clear hf a; intro a hf
  refine O.val hf rfl rfl rfl (RunV.toB (c:=false) (RunV.neq rfl rfl) (by decide)) ?_
  clear hf a; intro a hf
  refine O.nil ?_
  refine k_seq ?_
  replace hf:Fr a 35 [] [(3,.pointer (some ⟨b_d1,0,none⟩)),(4,.pointer (some ⟨b_x2,0,none⟩)),(5,.int .i64 0),(6,.map (some bm)),(8,.int .i64 0),(18,.bool false)]:=hf.to ⟨rfl,rfl,rfl,rfl,rfl,rfl,trivial⟩
  refine W.if_ff hf rfl ?_
  refine W.skip ?_
  refine k_seq ?_
  replace hf:Fr a 35 [] [(3,.pointer (some ⟨b_d1,0,none⟩)),(4,.pointer (some ⟨b_x2,0,none⟩)),(5,.int .i64 0),(6,.map (some bm))]:=hf.to ⟨rfl,rfl,rfl,rfl,trivial⟩
  refine W.seq ?_
  refine W.seq ?_
  refine W.regionL (l:=[0,1,2]) rfl ?_
  refine O.val hf rfl rfl rfl (RunV.loadN (cs':=#[.int .i64 d.num,.int .i64 d.yr,.int .u8 d.half,.int .u8 d.sec,.int .i64 d.cyc]) T_agg_24 T_size_24 rfl (hS.ptAt (i:=3) rfl) (Nat.le_of_ble_eq_true rfl) rfl) ?_
  clear hf a; intro a hf
  refine O.callR hf rfl rfl rfl (RunE.call (av:=#[.agg #[.int .i64 d.num,.int .i64 d.yr,.int .u8 d.half,.int .u8 d.sec,.int .i64 d.cyc]]) C_ok_41 rfl rfl rfl) (checkD_ok d _ (hS.bptO (i:=0) rfl) hd) ?_
  clear hf a
  rintro _ w4 hS1 a hf
  replace hf:Fr a _ _ ((22,.int .i64 0)::_):=hf
  replace hS:=(hS.call hS1).eqM (N:=[stA 95 24 bm kvs gs,sl 4 1 uv us.length (bools us),pt b_x2 (.cells #[.int .i64 0,.int .i64 0,.int .u8 0,.int .u8 0,.int .i64 0,.slice none 0 0] 46 (0,0)),pt b_d1 (.cells #[.int .i64 d.num,.int .i64 d.yr,.int .u8 d.half,.int .u8 d.sec,.int .i64 d.cyc] 24 (0,0))]) rfl
  clear hS1
  refine O.val hf rfl rfl rfl (RunV.assign rfl) ?_
  clear hf a; intro a hf
  refine O.nil ?_
  refine k_seq ?_
  replace hf:Fr a 35 [] [(3,.pointer (some ⟨b_d1,0,none⟩)),(4,.pointer (some ⟨b_x2,0,none⟩)),(5,.int .i64 0),(6,.map (some bm)),(9,.int .i64 0)]:=hf.to ⟨rfl,rfl,rfl,rfl,rfl,trivial⟩
  refine W.seq ?_
  refine W.regionL (l:=[0,1]) rfl ?_
  refine O.val hf rfl rfl rfl (RunV.move rfl) ?_
  clear hf a; intro a hf
  refine O.val hf rfl rfl rfl (RunV.toB (c:=false) (RunV.neq rfl rfl) (by decide)) ?_
  clear hf a; intro a hf
  refine O.nil ?_
  refine k_seq ?_
  replace hf:Fr a 35 [] [(3,.pointer (some ⟨b_d1,0,none⟩)),(4,.pointer (some ⟨b_x2,0,none⟩)),(5,.int .i64 0),(6,.map (some bm)),(9,.int .i64 0),(24,.bool false)]:=hf.to ⟨rfl,rfl,rfl,rfl,rfl,rfl,trivial⟩
  refine W.if_ff hf rfl ?_
  refine W.skip ?_
  refine k_seq ?_
  replace hf:Fr a 35 [] [(3,.pointer (some ⟨b_d1,0,none⟩)),(4,.pointer (some ⟨b_x2,0,none⟩)),(5,.int .i64 0),(6,.map (some bm))]:=hf.to ⟨rfl,rfl,rfl,rfl,trivial⟩
  refine W.seq ?_
  refine W.regionL (l:=[0,1,2,3]) rfl ?_
  obtain ⟨ga,rest,hpm,habs,hda,hget⟩:=isS_some hI hn
  have hall:ga.all=p.1:=congrArg Prod.fst habs
  replace hS:=St.grTake (St.stOpen hS) hpm
  replace hS:St w0 _ noX [ordA,rdv 12 vl l.length (encs eC l)] [mp dV bm kvs,pt ga.blk (.cells #[ga.v,.bool ga.num] 95 (0,0)),sl 24 5 ga.v ga.all.length (encs eD ga.all),bigA (rest.map (grA 95 24)),sl 4 1 uv us.length (bools us),pt b_x2 (.cells #[.int .i64 0,.int .i64 0,.int .u8 0,.int .u8 0,.int .i64 0,.slice none 0 0] 46 (0,0)),pt b_d1 (.cells #[.int .i64 d.num,.int .i64 d.yr,.int .u8 d.half,.int .u8 d.sec,.int .i64 d.cyc] 24 (0,0))]:=hS
  refine O.val hf rfl rfl rfl (RunV.move rfl) ?_
  clear hf a; intro a hf
  refine O.val hf rfl rfl rfl (RunV.loadN (cs':=#[.int .i64 d.num,.int .i64 d.yr,.int .u8 d.half,.int .u8 d.sec,.int .i64 d.cyc]) T_agg_24 T_size_24 rfl (hS.ptAt (i:=6) rfl) (Nat.le_of_ble_eq_true rfl) rfl) ?_
  clear hf a; intro a hf
  refine O.val hf rfl rfl rfl (RunV.lookP (k:=d) (kvs:=kvs) T_mapof_71 keyD trivial (fun _ _=>trivial) rfl rfl (hS.mpAt (j:=0) rfl) (by rw [hget] <;> rfl)) ?_
  clear hf a; intro a hf
  refine O.val hf rfl rfl rfl (RunV.assign rfl) ?_
  clear hf a; intro a hf
  refine O.nil ?_
  refine k_seq ?_
  replace hf:Fr a 35 [] [(4,.pointer (some ⟨b_x2,0,none⟩)),(5,.int .i64 0),(10,.pointer (some ⟨ga.blk,0,none⟩))]:=hf.to ⟨rfl,rfl,rfl,trivial⟩
  refine W.seq ?_
  refine W.seq ?_
  refine W.regionL (l:=[0,1]) rfl ?_
  refine O.val hf rfl rfl rfl (RunV.move rfl) ?_
  clear hf a; intro a hf
  refine O.val hf rfl rfl rfl (RunV.toB (c:=false) (RunV.eqNil Tryd.underlying79 rfl rfl) rfl) ?_
  clear hf a; intro a hf
  refine O.nil ?_
  refine k_seq ?_
  replace hf:Fr a 35 [] [(4,.pointer (some ⟨b_x2,0,none⟩)),(5,.int .i64 0),(10,.pointer (some ⟨ga.blk,0,none⟩)),(31,.bool false)]:=hf.to ⟨rfl,rfl,rfl,rfl,trivial⟩
  refine W.if_ff hf rfl ?_
  refine W.skip ?_
  refine k_seq ?_
  replace hf:Fr a 35 [] [(4,.pointer (some ⟨b_x2,0,none⟩)),(5,.int .i64 0),(10,.pointer (some ⟨ga.blk,0,none⟩))]:=hf.to ⟨rfl,rfl,rfl,trivial⟩
  refine W.seq ?_
  refine W.regionL (l:=[0,1,2,3]) rfl ?_
  refine O.val hf rfl rfl rfl (RunV.move rfl) ?_
  clear hf a; intro a hf
  refine O.callR hf rfl rfl rfl (RunE.call (av:=#[.pointer (some ⟨ga.blk,0,none⟩)]) C_ok_37 rfl rfl rfl) (object_spec ga.blk ga.v ga.num ga.all _ (hS.bptO (i:=0) rfl) (hS.lentAt (i:=1) rfl) (hS.slr (j:=2) rfl) (slOK.fit (hS.slAt (j:=2) rfl)) (by rw [hall]; exact hpn) (by rw [hall]; exact hpz) (by rw [hall]; exact hpk)) ?_
  clear hf a
  rintro ov w5 hS1 a hf
  replace hf:Fr a _ _ ((34,.agg #[.int .i64 (((sortDs ga.all).getD 0 default).num),.int .i64 (((sortDs ga.all).getD 0 default).yr),.int .u8 (((sortDs ga.all).getD 0 default).half),.int .u8 (((sortDs ga.all).getD 0 default).sec),.int .i64 (((sortDs ga.all).getD 0 default).cyc),ov])::_):=hf
  replace hS:=(hS.call hS1).eqM (N:=[sl 24 5 ov ((sortDs ga.all).length) (encs eD (sortDs ga.all)),mp dV bm kvs,pt ga.blk (.cells #[ga.v,.bool ga.num] 95 (0,0)),sl 24 5 ga.v ga.all.length (encs eD ga.all),bigA (rest.map (grA 95 24)),sl 4 1 uv us.length (bools us),pt b_x2 (.cells #[.int .i64 0,.int .i64 0,.int .u8 0,.int .u8 0,.int .i64 0,.slice none 0 0] 46 (0,0)),pt b_d1 (.cells #[.int .i64 d.num,.int .i64 d.yr,.int .u8 d.half,.int .u8 d.sec,.int .i64 d.cyc] 24 (0,0))]) rfl
  clear hS1
  have hcl6:=rdOK.cells (hS.slr (j:=0) rfl)
  refine O.store (j:=6) (cs':=#[.int .i64 (((sortDs ga.all).getD 0 default).num),.int .i64 (((sortDs ga.all).getD 0 default).yr),.int .u8 (((sortDs ga.all).getD 0 default).half),.int .u8 (((sortDs ga.all).getD 0 default).sec),.int .i64 (((sortDs ga.all).getD 0 default).cyc),ov]) (M':=[sl 24 5 ov ((sortDs ga.all).length) (encs eD (sortDs ga.all)),mp dV bm kvs,pt ga.blk (.cells #[ga.v,.bool ga.num] 95 (0,0)),sl 24 5 ga.v ga.all.length (encs eD ga.all),bigA (rest.map (grA 95 24)),sl 4 1 uv us.length (bools us),pt b_x2 (.cells #[.int .i64 (((sortDs ga.all).getD 0 default).num),.int .i64 (((sortDs ga.all).getD 0 default).yr),.int .u8 (((sortDs ga.all).getD 0 default).half),.int .u8 (((sortDs ga.all).getD 0 default).sec),.int .i64 (((sortDs ga.all).getD 0 default).cyc),ov] 46 (0,0)),pt b_d1 (.cells #[.int .i64 d.num,.int .i64 d.yr,.int .u8 d.half,.int .u8 d.sec,.int .i64 d.cyc] 24 (0,0))]) hf hS rfl rfl rfl T_size_46 rfl (oneCells_cc rfl (oneCells_cc rfl (oneCells_cc rfl (oneCells_cc rfl (oneCells_cc rfl (oneCells_cc hcl6.2 rfl)))))) rfl (Nat.le_of_ble_eq_true rfl) rfl rfl ?_
  clear hS; intro w hS
  refine O.val hf rfl rfl rfl (RunV.assign rfl) ?_
  clear hf a; intro a hf
  refine O.nil ?_
  refine k_seq ?_
  replace hf:Fr a 35 [] [(4,.pointer (some ⟨b_x2,0,none⟩)),(5,.int .i64 0)]:=hf.to ⟨rfl,rfl,trivial⟩
  refine W.ret ?_
  refine post2 hf rfl (ResOK.cellN (cs':=#[.int .i64 (((sortDs ga.all).getD 0 default).num),.int .i64 (((sortDs ga.all).getD 0 default).yr),.int .u8 (((sortDs ga.all).getD 0 default).half),.int .u8 (((sortDs ga.all).getD 0 default).sec),.int .i64 (((sortDs ga.all).getD 0 default).cyc),ov]) rfl T_agg_46 T_size_46 (hS.ptAt (i:=6) rfl) (Nat.le_of_ble_eq_true rfl) rfl) (ResOK.tmp rfl) ?_
  rw [hall] at hS
  exact ⟨ov,by rw [hall]; rfl,(hS.sub (by simp [slE])).noB⟩
set_option maxHeartbeats 400000 in
set_option maxRecDepth 4000 in
theorem run_err (vl:Value) (l:List Ch) (w0:World) (hG:Lent w0 ordA) (hl:rdOK (hp w0) 12 vl l.length (encs eC l)) (hfit:vfit vl) (e:Int) (hm:histM l=.error e) :
    Ret Tryd.prog 16 #[vl] w0 (G:=Unit) (fun _=>.tuple #[.slice none 0 0,.int .i64 e]) (fun _ w=>St w0 w noX [] []):=by
  refine ret_of_W (lv:=[vl]) Tryd.func16 rfl rfl rfl (fun a hf=>?_)
  replace hf:Fr a 41 [] [(0,vl)]:=hf
  have hS:St w0 w0 noX [ordA,rdv 12 vl l.length (encs eC l)] []:=((St.refl w0).lend0 hl).lendA hG
  have hlm:=hl.2.1
  unfold maxLen at hlm
  have he0:=histM_ne hm
  refine W.seq ?_
  refine W.regionL (l:=[0,1]) rfl ?_
  refine O.val hf rfl rfl rfl (RunV.assign rfl) ?_
  clear hf a; intro a hf
  refine O.val hf rfl rfl rfl (RunV.assign rfl) ?_
  clear hf a; intro a hf
  refine O.nil ?_
  refine k_seq ?_
  refine W.seq ?_
  refine W.regionL (l:=[0,1,2,3,4,5,6,7,8]) rfl ?_
  refine O.val hf rfl rfl rfl (RunV.move rfl) ?_
  clear hf a; intro a hf
  refine O.callR hf rfl rfl rfl (RunE.call (av:=#[vl]) C_ok_32 rfl rfl rfl) (history_err vl l _ (hS.bptO (i:=0) rfl) (hS.rdAt (j:=1) rfl) hfit hm) ?_
  clear hf a
  rintro _ w1 hS1 a hf
  replace hf:Fr a _ _ ((13,.tuple #[.map none,(.slice none 0 0),.int .i64 e])::_):=hf
  replace hS:=(hS.call hS1).eqM (N:=[]) rfl
  clear hS1
  refine O.val hf rfl rfl rfl (RunV.move rfl) ?_
  clear hf a; intro a hf
  refine O.val hf rfl rfl rfl (RunV.extract rfl rfl) ?_
  clear hf a; intro a hf
  refine O.val hf rfl rfl rfl (RunV.extract rfl rfl) ?_
  clear hf a; intro a hf
  refine O.val hf rfl rfl rfl (RunV.extract rfl rfl) ?_
  clear hf a; intro a hf
  refine O.val hf rfl rfl rfl (RunV.assign rfl) ?_
  clear hf a; intro a hf
  refine O.val hf rfl rfl rfl (RunV.assign rfl) ?_
  clear hf a; intro a hf
  refine O.val hf rfl rfl rfl (RunV.assign rfl) ?_
  clear hf a; intro a hf
  refine O.nil ?_
  refine k_seq ?_
  replace hf:Fr a 41 [] [(2,.slice none 0 0),(3,.int .i64 0),(4,.map none),(6,.int .i64 e)]:=hf.to ⟨rfl,rfl,rfl,rfl,trivial⟩
  refine W.seq ?_
  refine W.seq ?_
  refine W.regionL (l:=[0,1]) rfl ?_
  refine O.val hf rfl rfl rfl (RunV.move rfl) ?_
  clear hf a; intro a hf
  refine O.val (v:=.bool (decide (e≠(0:Int)))) hf rfl rfl rfl (RunV.neq rfl rfl) ?_
  clear hf a; intro a hf
  refine O.nil ?_
  refine k_seq ?_
  replace hf:Fr a 41 [] [(2,.slice none 0 0),(3,.int .i64 0),(4,.map none),(6,.int .i64 e),(18,.bool (decide (e≠(0:Int))))]:=hf.to ⟨rfl,rfl,rfl,rfl,rfl,trivial⟩
  refine W.ifdI hf rfl (fun h1=>?_) (fun h1=>?_)
  · refine W.seq ?_
    refine W.regionL (l:=[0,1,2]) rfl ?_
    refine O.val hf rfl rfl rfl (RunV.move rfl) ?_
    clear hf a; intro a hf
    refine O.val hf rfl rfl rfl (RunV.assign rfl) ?_
    clear hf a; intro a hf
    refine O.val hf rfl rfl rfl (RunV.assign rfl) ?_
    clear hf a; intro a hf
    refine O.nil ?_
    refine k_seq ?_
    replace hf:Fr a 41 [] [(2,.slice none 0 0),(3,.int .i64 e),(4,.map none)]:=hf.to ⟨rfl,rfl,rfl,trivial⟩
    refine W.ret ?_
    refine k_then_ret ?_
    refine post2 hf rfl (ResOK.tmp rfl) (ResOK.tmp rfl) ?_
    exact ⟨(),rfl,hS.sub (List.nil_sublist _) |>.noB⟩
  · exact absurd he0 h1
set_option maxHeartbeats 400000 in
set_option maxRecDepth 4000 in
theorem apply_err (vl:Value) (l:List Ch) (c:Ch) (w0:World) (hG:Lent w0 ordA) (hl:rdOK (hp w0) 12 vl l.length (encs eC l)) (hfit:vfit vl) (e:Int) (hm:histM l=.error e) :
    Ret Tryd.prog 11 #[vl,.agg #[.int .u8 c.kind,.int .i64 c.a.num,.int .i64 c.a.yr,.int .u8 c.a.half,.int .u8 c.a.sec,.int .i64 c.a.cyc,.int .i64 c.b.num,.int .i64 c.b.yr,.int .u8 c.b.half,.int .u8 c.b.sec,.int .i64 c.b.cyc,.int .i64 c.n]] w0 (G:=Unit) (fun _=>.tuple #[.slice none 0 0,.int .i64 e]) (fun _ w=>St w0 w noX [] []):=by
  refine ret_of_W (lv:=[vl,.agg #[.int .u8 c.kind,.int .i64 c.a.num,.int .i64 c.a.yr,.int .u8 c.a.half,.int .u8 c.a.sec,.int .i64 c.a.cyc,.int .i64 c.b.num,.int .i64 c.b.yr,.int .u8 c.b.half,.int .u8 c.b.sec,.int .i64 c.b.cyc,.int .i64 c.n]]) Tryd.func11 rfl rfl rfl (fun a hf=>?_)
  replace hf:Fr a 43 [] [(0,vl),(1,.agg #[.int .u8 c.kind,.int .i64 c.a.num,.int .i64 c.a.yr,.int .u8 c.a.half,.int .u8 c.a.sec,.int .i64 c.a.cyc,.int .i64 c.b.num,.int .i64 c.b.yr,.int .u8 c.b.half,.int .u8 c.b.sec,.int .i64 c.b.cyc,.int .i64 c.n])]:=hf
  have hS:St w0 w0 noX [ordA,rdv 12 vl l.length (encs eC l)] []:=((St.refl w0).lend0 hl).lendA hG
  have hlm:=hl.2.1
  unfold maxLen at hlm
  have he0:=histM_ne hm
  refine W.seq ?_
  refine W.regionL (l:=[0,1,2]) rfl ?_
  refine O.box (cs:=#[.int .u8 c.kind,.int .i64 c.a.num,.int .i64 c.a.yr,.int .u8 c.a.half,.int .u8 c.a.sec,.int .i64 c.a.cyc,.int .i64 c.b.num,.int .i64 c.b.yr,.int .u8 c.b.half,.int .u8 c.b.sec,.int .i64 c.b.cyc,.int .i64 c.n]) hf hS rfl rfl rfl rfl ?_
  clear hf hS a; intro b_c1 w a hbb_c1 hS hf
  refine O.val hf rfl rfl rfl (RunV.assign rfl) ?_
  clear hf a; intro a hf
  refine O.val hf rfl rfl rfl (RunV.assign rfl) ?_
  clear hf a; intro a hf
  refine O.nil ?_
  refine k_seq ?_
  replace hf:Fr a 43 [] [(0,vl),(3,.pointer (some ⟨b_c1,0,none⟩)),(4,.slice none 0 0),(5,.int .i64 0)]:=hf.to ⟨rfl,rfl,rfl,rfl,trivial⟩
  refine W.seq ?_
  refine W.seq ?_
  refine W.regionL (l:=[0,1,2,3,4,5,6,7,8]) rfl ?_
  refine O.val hf rfl rfl rfl (RunV.move rfl) ?_
  clear hf a; intro a hf
  refine O.callR hf rfl rfl rfl (RunE.call (av:=#[vl]) C_ok_32 rfl rfl rfl) (history_err vl l _ (hS.bptO (i:=0) rfl) (hS.rdAt (j:=1) rfl) hfit hm) ?_
  clear hf a
  rintro _ w2 hS1 a hf
  replace hf:Fr a _ _ ((16,.tuple #[.map none,(.slice none 0 0),.int .i64 e])::_):=hf
  replace hS:=(hS.call hS1).eqM (N:=[pt b_c1 (.cells #[.int .u8 c.kind,.int .i64 c.a.num,.int .i64 c.a.yr,.int .u8 c.a.half,.int .u8 c.a.sec,.int .i64 c.a.cyc,.int .i64 c.b.num,.int .i64 c.b.yr,.int .u8 c.b.half,.int .u8 c.b.sec,.int .i64 c.b.cyc,.int .i64 c.n] 26 (0,0))]) rfl
  clear hS1
  refine O.val hf rfl rfl rfl (RunV.move rfl) ?_
  clear hf a; intro a hf
  refine O.val hf rfl rfl rfl (RunV.extract rfl rfl) ?_
  clear hf a; intro a hf
  refine O.val hf rfl rfl rfl (RunV.extract rfl rfl) ?_
  clear hf a; intro a hf
  refine O.val hf rfl rfl rfl (RunV.extract rfl rfl) ?_
  clear hf a; intro a hf
  refine O.val hf rfl rfl rfl (RunV.assign rfl) ?_
  clear hf a; intro a hf
  refine O.val hf rfl rfl rfl (RunV.assign rfl) ?_
  clear hf a; intro a hf
  refine O.val hf rfl rfl rfl (RunV.assign rfl) ?_
  clear hf a; intro a hf
  refine O.nil ?_
  refine k_seq ?_
  replace hf:Fr a 43 [] [(0,vl),(3,.pointer (some ⟨b_c1,0,none⟩)),(4,.slice none 0 0),(5,.int .i64 0),(8,.int .i64 e)]:=hf.to ⟨rfl,rfl,rfl,rfl,rfl,trivial⟩
  refine W.seq ?_
  refine W.regionL (l:=[0,1]) rfl ?_
  refine O.val hf rfl rfl rfl (RunV.move rfl) ?_
  clear hf a; intro a hf
  refine O.val (v:=.bool (decide (e≠(0:Int)))) hf rfl rfl rfl (RunV.neq rfl rfl) ?_
  clear hf a; intro a hf
  refine O.nil ?_
  refine k_seq ?_
  replace hf:Fr a 43 [] [(0,vl),(3,.pointer (some ⟨b_c1,0,none⟩)),(4,.slice none 0 0),(5,.int .i64 0),(8,.int .i64 e),(21,.bool (decide (e≠(0:Int))))]:=hf.to ⟨rfl,rfl,rfl,rfl,rfl,rfl,trivial⟩
  refine W.ifdI hf rfl (fun h1=>?_) (fun h1=>?_)
  · refine W.seq ?_
    refine W.regionL (l:=[0,1,2]) rfl ?_
    refine O.val hf rfl rfl rfl (RunV.move rfl) ?_
    clear hf a; intro a hf
    refine O.val hf rfl rfl rfl (RunV.assign rfl) ?_
    clear hf a; intro a hf
    refine O.val hf rfl rfl rfl (RunV.assign rfl) ?_
    clear hf a; intro a hf
    refine O.nil ?_
    refine k_seq ?_
    replace hf:Fr a 43 [] [(0,vl),(3,.pointer (some ⟨b_c1,0,none⟩)),(4,.slice none 0 0),(5,.int .i64 e)]:=hf.to ⟨rfl,rfl,rfl,rfl,trivial⟩
    refine W.ret ?_
    refine k_then_ret ?_
    refine post2 hf rfl (ResOK.tmp rfl) (ResOK.tmp rfl) ?_
    exact ⟨(),rfl,hS.sub (List.nil_sublist _) |>.noB⟩
  · exact absurd he0 h1
set_option maxHeartbeats 400000 in
set_option maxRecDepth 4000 in
theorem apply_bad (vl:Value) (l:List Ch) (c:Ch) (w0:World) (hG:Lent w0 ordA) (hl:rdOK (hp w0) 12 vl l.length (encs eC l)) (hfit:vfit vl) (S:List PG) (us:List Bool) (hm:histM l=.ok (S,us)) (hc:okC c=false) :
    Ret Tryd.prog 11 #[vl,.agg #[.int .u8 c.kind,.int .i64 c.a.num,.int .i64 c.a.yr,.int .u8 c.a.half,.int .u8 c.a.sec,.int .i64 c.a.cyc,.int .i64 c.b.num,.int .i64 c.b.yr,.int .u8 c.b.half,.int .u8 c.b.sec,.int .i64 c.b.cyc,.int .i64 c.n]] w0 (G:=Unit) (fun _=>.tuple #[.slice none 0 0,.int .i64 8]) (fun _ w=>St w0 w noX [] []):=by
  refine ret_of_W (lv:=[vl,.agg #[.int .u8 c.kind,.int .i64 c.a.num,.int .i64 c.a.yr,.int .u8 c.a.half,.int .u8 c.a.sec,.int .i64 c.a.cyc,.int .i64 c.b.num,.int .i64 c.b.yr,.int .u8 c.b.half,.int .u8 c.b.sec,.int .i64 c.b.cyc,.int .i64 c.n]]) Tryd.func11 rfl rfl rfl (fun a hf=>?_)
  replace hf:Fr a 43 [] [(0,vl),(1,.agg #[.int .u8 c.kind,.int .i64 c.a.num,.int .i64 c.a.yr,.int .u8 c.a.half,.int .u8 c.a.sec,.int .i64 c.a.cyc,.int .i64 c.b.num,.int .i64 c.b.yr,.int .u8 c.b.half,.int .u8 c.b.sec,.int .i64 c.b.cyc,.int .i64 c.n])]:=hf
  have hS:St w0 w0 noX [ordA,rdv 12 vl l.length (encs eC l)] []:=((St.refl w0).lend0 hl).lendA hG
  have hlm:=hl.2.1
  unfold maxLen at hlm
  refine W.seq ?_
  refine W.regionL (l:=[0,1,2]) rfl ?_
  refine O.box (cs:=#[.int .u8 c.kind,.int .i64 c.a.num,.int .i64 c.a.yr,.int .u8 c.a.half,.int .u8 c.a.sec,.int .i64 c.a.cyc,.int .i64 c.b.num,.int .i64 c.b.yr,.int .u8 c.b.half,.int .u8 c.b.sec,.int .i64 c.b.cyc,.int .i64 c.n]) hf hS rfl rfl rfl rfl ?_
  clear hf hS a; intro b_c1 w a hbb_c1 hS hf
  refine O.val hf rfl rfl rfl (RunV.assign rfl) ?_
  clear hf a; intro a hf
  refine O.val hf rfl rfl rfl (RunV.assign rfl) ?_
  clear hf a; intro a hf
  refine O.nil ?_
  refine k_seq ?_
  replace hf:Fr a 43 [] [(0,vl),(3,.pointer (some ⟨b_c1,0,none⟩)),(4,.slice none 0 0),(5,.int .i64 0)]:=hf.to ⟨rfl,rfl,rfl,rfl,trivial⟩
  refine W.seq ?_
  refine W.seq ?_
  refine W.regionL (l:=[0,1,2,3,4,5,6,7,8]) rfl ?_
  refine O.val hf rfl rfl rfl (RunV.move rfl) ?_
  clear hf a; intro a hf
  refine O.callR hf rfl rfl rfl (RunE.call (av:=#[vl]) C_ok_32 rfl rfl rfl) (history_ok vl l _ (hS.bptO (i:=0) rfl) (hS.rdAt (j:=1) rfl) hfit hm) ?_
  clear hf a
  rintro ⟨uv,bm,kvs,gs⟩ w2 ⟨hS1,hI⟩ a hf
  replace hf:Fr a _ _ ((16,.tuple #[.map (some bm),uv,.int .i64 0])::_):=hf
  replace hS:=(hS.call hS1).eqM (N:=[stA 95 24 bm kvs gs,sl 4 1 uv us.length (bools us),pt b_c1 (.cells #[.int .u8 c.kind,.int .i64 c.a.num,.int .i64 c.a.yr,.int .u8 c.a.half,.int .u8 c.a.sec,.int .i64 c.a.cyc,.int .i64 c.b.num,.int .i64 c.b.yr,.int .u8 c.b.half,.int .u8 c.b.sec,.int .i64 c.b.cyc,.int .i64 c.n] 26 (0,0))]) rfl
  clear hS1
  refine O.val hf rfl rfl rfl (RunV.move rfl) ?_
  clear hf a; intro a hf
  refine O.val hf rfl rfl rfl (RunV.extract rfl rfl) ?_
  clear hf a; intro a hf
  refine O.val hf rfl rfl rfl (RunV.extract rfl rfl) ?_
  clear hf a; intro a hf
  refine O.val hf rfl rfl rfl (RunV.extract rfl rfl) ?_
  clear hf a; intro a hf
  refine O.val hf rfl rfl rfl (RunV.assign rfl) ?_
  clear hf a; intro a hf
  refine O.val hf rfl rfl rfl (RunV.assign rfl) ?_
  clear hf a; intro a hf
  refine O.val hf rfl rfl rfl (RunV.assign rfl) ?_
  clear hf a; intro a hf
  refine O.nil ?_
  refine k_seq ?_
  replace hf:Fr a 43 [] [(0,vl),(3,.pointer (some ⟨b_c1,0,none⟩)),(4,.slice none 0 0),(5,.int .i64 0),(8,.int .i64 0)]:=hf.to ⟨rfl,rfl,rfl,rfl,rfl,trivial⟩
  refine W.seq ?_
  refine W.regionL (l:=[0,1]) rfl ?_
  refine O.val hf rfl rfl rfl (RunV.move rfl) ?_
  clear hf a; intro a hf
  refine O.val hf rfl rfl rfl (RunV.toB (c:=false) (RunV.neq rfl rfl) (by decide)) ?_
  clear hf a; intro a hf
  refine O.nil ?_
  refine k_seq ?_
  replace hf:Fr a 43 [] [(0,vl),(3,.pointer (some ⟨b_c1,0,none⟩)),(4,.slice none 0 0),(5,.int .i64 0),(8,.int .i64 0),(21,.bool false)]:=hf.to ⟨rfl,rfl,rfl,rfl,rfl,rfl,trivial⟩
  refine W.if_ff hf rfl ?_
  refine W.skip ?_
  refine k_seq ?_
  replace hf:Fr a 43 [] [(0,vl),(3,.pointer (some ⟨b_c1,0,none⟩)),(4,.slice none 0 0),(5,.int .i64 0)]:=hf.to ⟨rfl,rfl,rfl,rfl,trivial⟩
  refine W.seq ?_
  refine W.seq ?_
  refine W.regionL (l:=[0,1,2]) rfl ?_
  refine O.val hf rfl rfl rfl (RunV.loadN (cs':=#[.int .u8 c.kind,.int .i64 c.a.num,.int .i64 c.a.yr,.int .u8 c.a.half,.int .u8 c.a.sec,.int .i64 c.a.cyc,.int .i64 c.b.num,.int .i64 c.b.yr,.int .u8 c.b.half,.int .u8 c.b.sec,.int .i64 c.b.cyc,.int .i64 c.n]) T_agg_26 T_size_26 rfl (hS.ptAt (i:=2) rfl) (Nat.le_of_ble_eq_true rfl) rfl) ?_
  clear hf a; intro a hf
  refine O.callR hf rfl rfl rfl (RunE.call (av:=#[.agg #[.int .u8 c.kind,.int .i64 c.a.num,.int .i64 c.a.yr,.int .u8 c.a.half,.int .u8 c.a.sec,.int .i64 c.a.cyc,.int .i64 c.b.num,.int .i64 c.b.yr,.int .u8 c.b.half,.int .u8 c.b.sec,.int .i64 c.b.cyc,.int .i64 c.n]]) C_ok_25 rfl rfl rfl) (checkC_bad c _ (hS.bptO (i:=0) rfl) hc) ?_
  clear hf a
  rintro _ w3 hS1 a hf
  replace hf:Fr a _ _ ((24,.int .i64 8)::_):=hf
  replace hS:=(hS.call hS1).eqM (N:=[stA 95 24 bm kvs gs,sl 4 1 uv us.length (bools us),pt b_c1 (.cells #[.int .u8 c.kind,.int .i64 c.a.num,.int .i64 c.a.yr,.int .u8 c.a.half,.int .u8 c.a.sec,.int .i64 c.a.cyc,.int .i64 c.b.num,.int .i64 c.b.yr,.int .u8 c.b.half,.int .u8 c.b.sec,.int .i64 c.b.cyc,.int .i64 c.n] 26 (0,0))]) rfl
  clear hS1
  refine O.val hf rfl rfl rfl (RunV.assign rfl) ?_
  clear hf a; intro a hf
  refine O.nil ?_
  refine k_seq ?_
  replace hf:Fr a 43 [] [(0,vl),(3,.pointer (some ⟨b_c1,0,none⟩)),(4,.slice none 0 0),(5,.int .i64 0),(9,.int .i64 8)]:=hf.to ⟨rfl,rfl,rfl,rfl,rfl,trivial⟩
  refine W.seq ?_
  refine W.regionL (l:=[0,1]) rfl ?_
  refine O.val hf rfl rfl rfl (RunV.move rfl) ?_
  clear hf a; intro a hf
  refine O.val hf rfl rfl rfl (RunV.toB (c:=true) (RunV.neq rfl rfl) (by decide)) ?_
  clear hf a; intro a hf
  refine O.nil ?_
  refine k_seq ?_
  replace hf:Fr a 43 [] [(0,vl),(3,.pointer (some ⟨b_c1,0,none⟩)),(4,.slice none 0 0),(5,.int .i64 0),(9,.int .i64 8),(26,.bool true)]:=hf.to ⟨rfl,rfl,rfl,rfl,rfl,rfl,trivial⟩
  refine W.if_tt hf rfl ?_
  refine W.seq ?_
  refine W.regionL (l:=[0,1,2]) rfl ?_
  refine O.val hf rfl rfl rfl (RunV.move rfl) ?_
  clear hf a; intro a hf
  refine O.val hf rfl rfl rfl (RunV.assign rfl) ?_
  clear hf a; intro a hf
  refine O.val hf rfl rfl rfl (RunV.assign rfl) ?_
  clear hf a; intro a hf
  refine O.nil ?_
  refine k_seq ?_
  replace hf:Fr a 43 [] [(0,vl),(3,.pointer (some ⟨b_c1,0,none⟩)),(4,.slice none 0 0),(5,.int .i64 8)]:=hf.to ⟨rfl,rfl,rfl,rfl,trivial⟩
  refine W.ret ?_
  refine k_then_ret ?_
  refine post2 hf rfl (ResOK.tmp rfl) (ResOK.tmp rfl) ?_
  exact ⟨(),rfl,hS.sub (List.nil_sublist _) |>.noB⟩
end Go.Proofs.YtgakdmmmljdpjaaDoor

namespace Go.SL
open Go Go.Proofs Go.Shelf Go.RowKit Go.Sort Go.Lib
structure Ob where
  p:Dg
  ad:Option Addr
  n:Nat
  c:Nat
  l:List Dg
def Ob.v (o:Ob):Value:=.slice o.ad o.n o.c
def eO (o:Ob):List Value:=[.int .i64 o.p.num,.int .i64 o.p.yr,.int .u8 o.p.half,.int .u8 o.p.sec,.int .i64 o.p.cyc,.slice o.ad o.n o.c]
instance:Inhabited Ob:=⟨⟨⟨1,0,0,0,0⟩,none,0,0,[]⟩⟩
theorem eO_len (o:Ob):(eO o).length=6:=rfl
end Go.SL

namespace Go.SL
open Go Go.ChangeMaps
section
variable {K:Type} {kE:K→Value}
def rgOK (kE:K→Value) (h:Hp) (b r:Nat) (kvs todo:List (K × Value)) (last:Option (K × Value)):Prop :=
  ∃ es clock since seen c0,h b=some (.map es clock)∧es.toList.map (fun e=>(e.key,e.val))=kvs.map (fun p=>(kE p.1,p.2))∧(∀ e ∈ es.toList,e.born<since)∧(es.toList.map (·.born)).Nodup ∧
    h r=some (.mapIter (some b) since seen c0)∧since≤c0∧since≤clock∧(leftOf es seen).toList.map (fun e=>(e.key,e.val))=todo.map (fun p=>(kE p.1,p.2)) ∧
    ∀ p,last=some p→∃ e ∈ es.toList,∃ seen':Array Nat,seen=seen'.push e.born∧c0=clock∧e.key=kE p.1∧e.val=p.2
def rgA (kE:K→Value) (b r:Nat) (kvs todo:List (K × Value)) (last:Option (K × Value)):Asr :=
  ⟨fun k=>k=b∨k=r,fun h=>rgOK kE h b r kvs todo last,fun h h' hk ⟨es,clock,since,seen,c0,h1,h2,h3,h4,h5,h6⟩=>⟨es,clock,since,seen,c0,by rw [hk b (.inl rfl)]; exact h1,h2,h3,h4,by rw [hk r (.inr rfl)]; exact h5,h6⟩⟩
end
section
variable {K:Type} {kE:K→Value} {kvs todo:List (K × Value)} {last:Option (K × Value)}
variable {rr:Option Nat} {P:Program} {ops:Array Oper} {Q:Exit→Act→World→Prop} {a:Act} {w w0:World} {n:Nat} {ds:List Deferred} {L:List (Nat × Value)} {X:Nat→Prop} {B M M':List Asr}
  {d i j b r:Nat} {ty t kt et:TypeId} {pos:String} {af:Array Edge} {rest:List Nat} {x:Operand}
theorem O.rangeP (hf:Fr a n ds L) (hS:St w0 w X B M) (ho:ops[i]? = some ⟨some d,.range t x,ty,pos,af,none⟩) (hd:Nat.blt d n=true) (ht:P.underlying t=some (.map kt et)) (hx:ev L x=some (.map (some b))) (hM:M[j]? = some (mp kE b kvs))
    (k:∀ r w' a',w0.heap.size≤r→St w0 w' X B (M.set j (rgA kE b r kvs kvs none))→Fr a' n ds ((d,.pointer (some ⟨r,0,none⟩))::L)→O rr P ops Q rest a' w'):O rr P ops Q (i::rest) a w:=by
  obtain ⟨es,clock,hb,h1,h2,h3⟩:=(hS.at_ hM:mpOK kE (hp w) b kvs)
  have hl:=(hS.sep.get hM).2 b rfl
  refine O.val (w':=w.alloc (.mapIter (some b) clock #[] clock)) hf ho rfl hd (v:=.pointer (some ⟨w.heap.size,0,none⟩)) ?_ (fun a' hf'=>k _ _ a' hS.size ?_ hf')
  · intro a d pos af g hf
    simp only [execOp,hf.eval hx]
    exact run_v (run_range_map w t kt et b es clock ht hb)
  · have ha:=MapKept.heap_alloc w (.mapIter (some b) clock #[] clock)
    have hsz:(w.alloc (.mapIter (some b) clock #[] clock)).heap.size=w.heap.size+1:=Array.size_push ..
    refine hS.write (w':=w.alloc (.mapIter (some b) clock #[] clock)) hM rfl rfl rfl (by rw [hsz]; omega) (fun k hk _=>ha.2 k hk) ?_ (fun k hk=>?_)
    · refine ⟨es,clock,clock,#[],clock,(ha.2 b hl.1).trans hb,h1,h2,h3,ha.1,Nat.le_refl _,Nat.le_refl _,?_,fun p hp=>by cases hp⟩
      have:leftOf es #[]=es:=by unfold leftOf; exact Array.filter_eq_self.2 (fun x _=>by simp)
      rw [this]
      exact h1
    · rcases hk with rfl | rfl
      · exact ⟨.inl rfl,by have:=hl.1; rw [hsz]; omega⟩
      · exact ⟨.inr (Nat.le_refl _),by rw [hsz]; omega⟩
theorem left_push {es:Array MapEntry} {seen:Array Nat} {e:MapEntry}:(leftOf es (seen.push e.born)).toList=(leftOf es seen).toList.filter (fun x=>x.born != e.born):=by
  unfold leftOf
  rw [Array.toList_filter,Array.toList_filter,List.filter_filter]
  refine List.filter_congr fun x _=>?_
  rw [contains_push]
  cases seen.contains x.born <;> cases hx:(x.born == e.born) <;> simp [bne,hx]
theorem filter_mid {T:Type} {f:T→Nat} {s t:List T} {e:T} (hn:((s++e::t).map f).Nodup):(s++e::t).filter (fun x=>f x != f e)=s++t:=by
  rw [List.map_append,List.map_cons,List.nodup_append] at hn
  obtain ⟨h1,h2,h3⟩:=hn
  rw [List.nodup_cons] at h2
  rw [List.filter_append,List.filter_cons,if_neg (by simp)]
  congr 1
  · refine List.filter_eq_self.2 fun x hx=>?_
    have:=h3 (f x) (List.mem_map_of_mem hx) (f e) List.mem_cons_self
    simpa using this
  · refine List.filter_eq_self.2 fun x hx=>?_
    have:f x≠f e:=fun h=>h2.1 (h▸List.mem_map_of_mem hx)
    simpa using this
theorem O.nextP (hf:Fr a n ds L) (hS:St w0 w X B M) (ho:ops[i]? = some ⟨some d,.next x false,ty,pos,af,none⟩) (hd:Nat.blt d n=true) (hx:ev L x=some (.pointer (some ⟨r,0,none⟩))) (hM:M[j]? = some (rgA kE b r kvs todo last))
    (k0:todo=[]→∀ a',Fr a' n ds ((d,.tuple #[.bool false])::L)→O rr P ops Q rest a' w)
    (k1:∀ s p t w' a',todo=s++p::t→St w0 w' X B (M.set j (rgA kE b r kvs (s++t) (some p)))→Fr a' n ds ((d,.tuple #[.bool true,kE p.1,p.2])::L)→O rr P ops Q rest a' w'):O rr P ops Q (i::rest) a w:=by
  obtain ⟨es,clock,since,seen,c0,hb,h1,h2,h3,hr,h4,h5,h6,h7⟩:=(hS.at_ hM:rgOK kE (hp w) b r kvs todo last)
  have hlr:=(hS.sep.get hM).2 r (.inr rfl)
  have hlb:=(hS.sep.get hM).2 b (.inl rfl)
  have hbr:b≠r:=fun e=>by subst e; rw [hr] at hb; cases hb
  rcases run_next_at (P:=P) w ty r b since c0 seen es clock hr hb h2 h4 with ⟨h0,hrun⟩ | ⟨e,he,w1,hal,hrun⟩
  · have htd:todo=[]:=by
      have:(leftOf es seen).toList=[]:=by simpa using Array.eq_empty_of_size_eq_zero h0
      rw [this] at h6
      cases todo with
      | nil=>rfl
      | cons=>simp at h6
    refine O.val hf ho rfl hd ?_ (k0 htd)
    intro a d pos af g hf
    simp only [execOp,hf.eval hx]
    exact run_v hrun
  · obtain ⟨s,t,hst⟩:=List.append_of_mem he
    rw [hst,List.map_append,List.map_cons] at h6
    obtain ⟨s',u',htd,hs',hu'⟩:=List.map_eq_append_iff.1 h6.symm
    obtain ⟨p,t',rfl,hp,ht'⟩:=List.map_eq_cons_iff.1 hu'
    simp only [Prod.mk.injEq] at hp
    have hnd:((leftOf es seen).toList.map (·.born)).Nodup:=by
      unfold leftOf
      rw [Array.toList_filter]
      exact (List.filter_sublist.map _).nodup h3
    have hem:=(mem_left he).1
    have hw1:w1.heap=w.heap∧w1.os=w.os∧w1.tape=w.tape∧w1.output=w.output:=by rcases hal with rfl | rfl <;> exact ⟨rfl,rfl,rfl,rfl⟩
    refine O.val (w':=setBlock w1 r (.mapIter (some b) since (seen.push e.born) clock)) hf ho rfl hd (v:=.tuple #[.bool true,kE p.1,p.2]) ?_ (fun a' hf'=>k1 s' p t' _ a' htd ?_ hf')
    · intro a d pos af g hf
      simp only [execOp,hf.eval hx]
      rw [hp.1,hp.2]
      exact run_v hrun
    · have hset:∀ q,(setBlock w1 r (.mapIter (some b) since (seen.push e.born) clock)).heap[q]? = if q=r then some (.mapIter (some b) since (seen.push e.born) clock) else w.heap[q]?:=fun q=>by
        show (w1.heap.setIfInBounds r _)[q]? = _
        rw [hw1.1]
        by_cases hq:q=r
        · subst hq; rw [if_pos rfl,Array.getElem?_setIfInBounds_self_of_lt hlr.1]
        · rw [if_neg hq,Array.getElem?_setIfInBounds_ne (fun e=>hq e.symm)]
      refine hS.write hM hw1.2.1 hw1.2.2.1 hw1.2.2.2 (by simp [setBlock,hw1.1]) (fun q _ hq=>?_) ?_ (fun q hq=>⟨.inl hq,?_⟩)
      · rw [hset,if_neg (fun e=>hq (.inr e))]
      · refine ⟨es,clock,since,seen.push e.born,clock,?_,h1,h2,h3,?_,h5,h5,?_,fun p2 hp2=>⟨e,hem,seen,rfl,rfl,?_⟩⟩
        · show (setBlock w1 r _).heap[b]? = _
          rw [hset,if_neg hbr]; exact hb
        · show (setBlock w1 r _).heap[r]? = _
          rw [hset,if_pos rfl]
        · rw [left_push,hst,filter_mid (f:=fun x:MapEntry=>x.born) (by rw [← hst]; exact hnd),List.map_append,List.map_append,hs',ht']
        · cases hp2; exact ⟨hp.1.symm,hp.2.symm⟩
      · rcases hq with rfl | rfl
        · simpa [setBlock,hw1.1] using hlb.1
        · simpa [setBlock,hw1.1] using hlr.1
theorem RunV.entryP {p:K × Value} (hS:St w0 w X B M) (hM:M[j]? = some (rgA kE b r kvs todo (some p))) (hx:ev L x=some (.pointer (some ⟨r,0,none⟩))):RunV P n ds L (.entry x) ty w (.tuple #[kE p.1,p.2]) w:=fun a d pos af g hf=>by
  obtain ⟨es,clock,since,seen,c0,hb,h1,h2,h3,hr,h4,h5,h6,h7⟩:=(hS.at_ hM:rgOK kE (hp w) b r kvs todo (some p))
  obtain ⟨e,he,seen',rfl,rfl,hk,hv⟩:=h7 p rfl
  simp only [execOp,hf.eval hx]
  rw [← hk,← hv]
  exact run_v (run_entry_at w r b since seen' es c0 e hr hb he h3)
end
end Go.SL

namespace Go.Proofs.YtgakdmmmljdpjaaDoor
open Go Go.SL
theorem C_ok_40:callOK Tryd.prog 40=true:=by kernel_rfl
theorem T_field_46_0:tField Tryd.prog 46 0=some 0:=by kernel_rfl
set_option maxHeartbeats 400000 in
set_option maxRecDepth 4000 in
theorem run1_spec (x y:Ob) (w0:World) (hG:Lent w0 ordA) :
    Ret Tryd.prog 39 #[.agg #[.int .i64 x.p.num,.int .i64 x.p.yr,.int .u8 x.p.half,.int .u8 x.p.sec,.int .i64 x.p.cyc,.slice x.ad x.n x.c],.agg #[.int .i64 y.p.num,.int .i64 y.p.yr,.int .u8 y.p.half,.int .u8 y.p.sec,.int .i64 y.p.cyc,.slice y.ad y.n y.c]] w0 (G:=Unit) (fun _=>.int .i64 (ordD x.p y.p)) (fun _ w=>St w0 w noX [] []):=by
  refine ret_of_W (lv:=[.agg #[.int .i64 x.p.num,.int .i64 x.p.yr,.int .u8 x.p.half,.int .u8 x.p.sec,.int .i64 x.p.cyc,.slice x.ad x.n x.c],.agg #[.int .i64 y.p.num,.int .i64 y.p.yr,.int .u8 y.p.half,.int .u8 y.p.sec,.int .i64 y.p.cyc,.slice y.ad y.n y.c]]) Tryd.func39 rfl rfl rfl (fun a hf=>?_)
  replace hf:Fr a 10 [] [(0,.agg #[.int .i64 x.p.num,.int .i64 x.p.yr,.int .u8 x.p.half,.int .u8 x.p.sec,.int .i64 x.p.cyc,.slice x.ad x.n x.c]),(1,.agg #[.int .i64 y.p.num,.int .i64 y.p.yr,.int .u8 y.p.half,.int .u8 y.p.sec,.int .i64 y.p.cyc,.slice y.ad y.n y.c])]:=hf
  have hS:St w0 w0 noX [ordA] []:=(St.refl w0).lendA hG
  refine W.seq ?_
  refine W.regionL (l:=[0,1,2]) rfl ?_
  refine O.box (cs:=#[.int .i64 x.p.num,.int .i64 x.p.yr,.int .u8 x.p.half,.int .u8 x.p.sec,.int .i64 x.p.cyc,.slice x.ad x.n x.c]) hf hS rfl rfl rfl rfl ?_
  clear hf hS a; intro b_a1 w a hbb_a1 hS hf
  refine O.box (cs:=#[.int .i64 y.p.num,.int .i64 y.p.yr,.int .u8 y.p.half,.int .u8 y.p.sec,.int .i64 y.p.cyc,.slice y.ad y.n y.c]) hf hS rfl rfl rfl rfl ?_
  clear hf hS a; intro b_b2 w a hbb_b2 hS hf
  refine O.val hf rfl rfl rfl (RunV.assign rfl) ?_
  clear hf a; intro a hf
  refine O.nil ?_
  refine k_seq ?_
  replace hf:Fr a 10 [] [(2,.pointer (some ⟨b_a1,0,none⟩)),(3,.pointer (some ⟨b_b2,0,none⟩)),(4,.int .i64 0)]:=hf.to ⟨rfl,rfl,rfl,trivial⟩
  refine W.seq ?_
  refine W.regionL (l:=[0,1,2,3,4,5]) rfl ?_
  refine O.val hf rfl rfl rfl (RunV.field T_field_46_0 rfl rfl) ?_
  clear hf a; intro a hf
  refine O.val hf rfl rfl rfl (RunV.loadN (cs':=#[.int .i64 x.p.num,.int .i64 x.p.yr,.int .u8 x.p.half,.int .u8 x.p.sec,.int .i64 x.p.cyc]) T_agg_24 T_size_24 rfl (hS.ptAt (i:=1) rfl) (Nat.le_of_ble_eq_true rfl) rfl) ?_
  clear hf a; intro a hf
  refine O.val hf rfl rfl rfl (RunV.field T_field_46_0 rfl rfl) ?_
  clear hf a; intro a hf
  refine O.val hf rfl rfl rfl (RunV.loadN (cs':=#[.int .i64 y.p.num,.int .i64 y.p.yr,.int .u8 y.p.half,.int .u8 y.p.sec,.int .i64 y.p.cyc]) T_agg_24 T_size_24 rfl (hS.ptAt (i:=0) rfl) (Nat.le_of_ble_eq_true rfl) rfl) ?_
  clear hf a; intro a hf
  refine O.callR hf rfl rfl rfl (RunE.call (av:=#[.agg #[.int .i64 x.p.num,.int .i64 x.p.yr,.int .u8 x.p.half,.int .u8 x.p.sec,.int .i64 x.p.cyc],.agg #[.int .i64 y.p.num,.int .i64 y.p.yr,.int .u8 y.p.half,.int .u8 y.p.sec,.int .i64 y.p.cyc]]) C_ok_40 rfl rfl rfl) (order_spec x.p y.p _ (hS.bptO (i:=0) rfl)) ?_
  clear hf a
  rintro _ w3 hS1 a hf
  replace hf:Fr a _ _ ((9,.int .i64 (ordD x.p y.p))::_):=hf
  replace hS:=(hS.call hS1).eqM (N:=[pt b_b2 (.cells #[.int .i64 y.p.num,.int .i64 y.p.yr,.int .u8 y.p.half,.int .u8 y.p.sec,.int .i64 y.p.cyc,.slice y.ad y.n y.c] 46 (0,0)),pt b_a1 (.cells #[.int .i64 x.p.num,.int .i64 x.p.yr,.int .u8 x.p.half,.int .u8 x.p.sec,.int .i64 x.p.cyc,.slice x.ad x.n x.c] 46 (0,0))]) rfl
  clear hS1
  refine O.val hf rfl rfl rfl (RunV.assign rfl) ?_
  clear hf a; intro a hf
  refine O.nil ?_
  refine k_seq ?_
  replace hf:Fr a 10 [] [(4,.int .i64 (ordD x.p y.p))]:=hf.to ⟨rfl,trivial⟩
  refine W.ret ?_
  refine post1 hf rfl (ResOK.tmp rfl) ?_
  exact ⟨(),rfl,hS.sub (List.nil_sublist _) |>.noB⟩
end Go.Proofs.YtgakdmmmljdpjaaDoor

namespace Go.SL
open Go Go.Proofs Go.Shelf Go.RowKit Go.Sort Go.Lib
def ltO (a b:Ob):Bool:=decide (cmpD a.p b.p<0)
def sortOs (l:List Ob):List Ob:=l.mergeSort fun x y=>!ltO y x
abbrev InL (ys:List Ob):={o:Ob // o ∈ ys}
def tagO (ys l:List Ob) (h:∀ o ∈ l,o ∈ ys):List (InL ys):=l.pmap (fun d hd=>⟨d,hd⟩) h
theorem tagO_val (ys l:List Ob) (h:∀ d ∈ l,d ∈ ys):(tagO ys l h).map (·.1)=l:=by
  unfold tagO
  rw [List.map_pmap]
  simp
theorem encsO_val {ys:List Ob} (l:List (InL ys)):encs (fun x:InL ys=>eO x.1) l=encs eO (l.map (·.1)):=by
  unfold encs
  rw [List.flatMap_map]
theorem srtO_val {ys:List Ob} (l:List (InL ys)):(srtF (ltOf fun x y:InL ys=>cmpD x.1.p y.1.p) l).map (·.1)=sortOs (l.map (·.1)):=by
  unfold srtF sortOs
  exact List.map_mergeSort (fun a _ b _=>rfl)
end Go.SL
namespace Go.Proofs.YtgakdmmmljdpjaaDoor
open Go Go.SL Go.Proofs Go.Shelf Go.RowKit Go.Sort Go.Lib
theorem eg39:∀ args w,(callFunc 39 args).run Tryd.prog w=.ok (.enter 39 args) w:=enters_of Tryd.func39 (by kernel_rfl) rfl
theorem closO (x y:Ob) (hx:okD x.p=true) (hy:okD y.p=true) (W:World) (hG:Lent W ordA):Calls Tryd.prog 39 #[.agg (eO x).toArray,.agg (eO y).toArray] W fun e w'=>e=.returned (.int .i64 (cmpD x.p y.p))∧∃ q os',w'=grow (W.drewN q) os':=by
  refine Calls.mono (ret_grown (run1_spec x y W hG) (fun g w' h=>⟨[],h⟩)) ?_
  rintro e w ⟨_,rfl,_,h⟩
  refine ⟨?_,h⟩
  unfold ordD
  rw [hx,hy]
  rfl
theorem sortO_gen (ys:List Ob) (y0:Ob) (hy0:y0 ∈ ys) (v:Value) (l:List Ob) (w0:World) (hin:∀ o ∈ l,o ∈ ys) (hok:∀ o ∈ ys,okD o.p=true) (hinj:∀ o ∈ ys,∀ o' ∈ ys,o.p=o'.p→o=o') (hG:Lent w0 ordA) (hX:slOK (hp w0) 46 6 v l.length (encs eO l)) (hl:l.length≤10000) (hv0:v.ownBlock≠some 0) :
    Ret Tryd.prog 38 #[v,.func (.func 39) #[] #[]] w0 (G:=Unit) (fun _=>.tuple #[]) (fun _ w=>St w0 w (fun k=>v.ownBlock=some k) [] [slE 46 6 eO v (sortOs l)]):=by
  have hv:=tagO_val ys l hin
  haveI:Inhabited (InL ys):=⟨⟨y0,hy0⟩⟩
  have hlen:(tagO ys l hin).length=l.length:=by rw [← List.length_map (f:=fun x:InL ys=>x.1),hv]
  have h:=sortF_G (E:=fun x:InL ys=>eO x.1) Tryd.sortO rfl Tryd.isAgg46 Tryd.sizeOf46 (fun _=>rfl) (by intro x u hu; simp [eO] at hu; rcases hu with rfl | rfl | rfl | rfl | rfl | rfl <;> rfl) (fun x y=>cmpD x.1.p y.1.p) (swoOn fun x:InL ys=>x.1.p) (totOn fun x y h=>Subtype.ext (hinj _ x.2 _ y.2 h)) eg39
    46 v (tagO ys l hin) w0 (by rw [encsO_val,hv,hlen]; exact hX) (by rw [hlen]; exact hl) (fun x y W hs hb=>closO x.1 y.1 (hok _ x.2) (hok _ y.2) W (lent_old hG hv0 hs hb))
  refine Calls.mono h ?_
  rintro e w ⟨g,rfl,hS⟩
  refine ⟨(),rfl,?_⟩
  unfold slE at hS ⊢
  rw [encsO_val,srtO_val,hv] at hS
  have:(srtF (ltOf fun x y:InL ys=>cmpD x.1.p y.1.p) (tagO ys l hin)).length=(sortOs l).length:=by rw [srtF_len,hlen]; unfold sortOs; rw [List.length_mergeSort]
  rw [this] at hS
  exact hS
theorem sortO_spec (v:Value) (l:List Ob) (w0:World) (hok:∀ o ∈ l,okD o.p=true) (hinj:∀ o ∈ l,∀ o' ∈ l,o.p=o'.p→o=o') (hG:Lent w0 ordA) (hX:slOK (hp w0) 46 6 v l.length (encs eO l)) (hl:l.length≤10000) (hv0:v.ownBlock≠some 0) :
    Ret Tryd.prog 38 #[v,.func (.func 39) #[] #[]] w0 (G:=Unit) (fun _=>.tuple #[]) (fun _ w=>St w0 w (fun k=>v.ownBlock=some k) [] [slE 46 6 eO v (sortOs l)]):=by
  cases l with
  | nil=>exact sortO_gen [default] default (by simp) v [] w0 (by simp) (by intro o ho; rw [List.mem_singleton.1 ho]; decide) (by intro o ho o' ho' _; rw [List.mem_singleton.1 ho,List.mem_singleton.1 ho']) hG hX hl hv0
  | cons o t=>exact sortO_gen (o::t) o (by simp) v (o::t) w0 (fun _ h=>h) hok hinj hG hX hl hv0
end Go.Proofs.YtgakdmmmljdpjaaDoor

namespace Go.SL
open Go
def obOf (g:Grp):Dg × List Dg:=((sortDs g.all).getD 0 default,sortDs g.all)
structure RunI (gs done:List Grp) (kvs todo:List (Dg × Value)) (sk:List (Nat × Value)) (os:List Ob):Prop where
  sub:∀ g ∈ done,g ∈ gs
  nd:(done.map (·.blk)).Nodup
  ob:os.map (fun o=>(o.p,o.l))=done.map obOf
  seen:∀ b,getP b sk=if b ∈ done.map (·.blk) then some (.bool true) else none
  keys:∀ p ∈ sk,p.1 ∈ done.map (·.blk)
  left:∀ p ∈ kvs,p ∈ todo∨∃ g ∈ done,p.2=ptrV g.blk
  inn:∀ p ∈ todo,∃ g ∈ gs,p.2=ptrV g.blk
theorem RunI.start {gs:List Grp} {kvs:List (Dg × Value)} (hL:Look kvs gs):RunI gs [] kvs kvs [] [] :=
  ⟨by simp,by simp,rfl,fun b=>rfl,by simp,fun p hp=>.inl hp,fun p hp=>by
    have h1:getP p.1 kvs=some p.2:=mem_getP hL.keys hp
    by_cases h:∃ g ∈ gs,p.1 ∈ g.all
    · obtain ⟨g,hg,hd⟩:=h
      have h2:=hL.hit g hg p.1 hd
      rw [h1] at h2
      exact ⟨g,hg,Option.some.inj h2⟩
    · have h2:=hL.miss p.1 fun g hg hd=>h ⟨g,hg,hd⟩
      rw [h1] at h2
      cases h2⟩
theorem ptrV_inj {a b:Nat} (h:ptrV a=ptrV b):a=b:=by
  unfold ptrV at h
  injection h with h
  injection h with h
  injection h
theorem RunI.old {gs done:List Grp} {kvs s t:List (Dg × Value)} {p:Dg × Value} {sk:List (Nat × Value)} {os:List Ob} {g:Grp} (h:RunI gs done kvs (s++p::t) sk os) (hp:p.2=ptrV g.blk) (hm:getP g.blk sk=some (.bool true)):RunI gs done kvs (s++t) sk os :=
  ⟨h.sub,h.nd,h.ob,h.seen,h.keys,fun q hq=>by
    rcases h.left q hq with h1 | h1
    · rcases List.mem_append.1 h1 with h2 | h2
      · exact .inl (List.mem_append.2 (.inl h2))
      · rcases List.mem_cons.1 h2 with rfl | h2
        · refine .inr ?_
          have:=h.seen g.blk
          rw [hm] at this
          split at this
          · rename_i hb
            obtain ⟨g',hg',he⟩:=List.mem_map.1 hb
            exact ⟨g',hg',by rw [hp,he]⟩
          · cases this
        · exact .inl (List.mem_append.2 (.inr h2))
    · exact .inr h1,fun q hq=>h.inn q ((List.mem_append.1 hq).elim (fun h=>List.mem_append.2 (.inl h)) (fun h=>List.mem_append.2 (.inr (List.mem_cons_of_mem _ h))))⟩
theorem setP_key {K:Type} [DecidableEq K] {k:K} {v:Value}:∀ {l:List (K × Value)} {q:K × Value},q ∈ setP k v l→q.1=k∨∃ q' ∈ l,q'.1=q.1
  | [],q,h=>by simp only [setP,List.mem_singleton] at h; subst h; exact .inl rfl
  | x::t,q,h=>by
    simp only [setP] at h
    split at h
    · rename_i hk
      rcases List.mem_cons.1 h with rfl | h
      · exact .inl rfl
      · exact .inr ⟨q,List.mem_cons_of_mem _ h,rfl⟩
    · rcases List.mem_cons.1 h with rfl | h
      · exact .inr ⟨_,List.mem_cons_self,rfl⟩
      · rcases setP_key h with h1 | ⟨q',h1,h2⟩
        · exact .inl h1
        · exact .inr ⟨q',List.mem_cons_of_mem _ h1,h2⟩
theorem RunI.new {gs done:List Grp} {kvs s t:List (Dg × Value)} {p:Dg × Value} {sk:List (Nat × Value)} {os:List Ob} {g:Grp} {o:Ob} (h:RunI gs done kvs (s++p::t) sk os) (hg:g ∈ gs) (hp:p.2=ptrV g.blk) (hm:getP g.blk sk=none) (ho:(o.p,o.l)=obOf g) :
    RunI gs (done++[g]) kvs (s++t) (setP g.blk (.bool true) sk) (os++[o]):=by
  have hnm:g.blk ∉ done.map (·.blk):=by
    intro hb
    have:=h.seen g.blk
    rw [hm,if_pos hb] at this
    cases this
  refine ⟨fun q hq=>?_,?_,?_,fun b=>?_,fun q hq=>?_,fun q hq=>?_,fun q hq=>h.inn q ((List.mem_append.1 hq).elim (fun h=>List.mem_append.2 (.inl h)) (fun h=>List.mem_append.2 (.inr (List.mem_cons_of_mem _ h))))⟩
  · rcases List.mem_append.1 hq with hq | hq
    · exact h.sub q hq
    · rw [List.mem_singleton.1 hq]; exact hg
  · rw [List.map_append,List.nodup_append]
    exact ⟨h.nd,by simp,fun a ha b hb e=>by simp only [List.map_cons,List.map_nil,List.mem_singleton] at hb; subst hb; subst e; exact hnm ha⟩
  · rw [List.map_append,List.map_append,h.ob]
    simp only [List.map_cons,List.map_nil,ho]
  · rw [getP_setP,h.seen,List.map_append]
    by_cases hb:b=g.blk
    · rw [if_pos hb,if_pos (by simp [hb])]
    · rw [if_neg hb]
      by_cases h2:b ∈ done.map (·.blk)
      · rw [if_pos h2,if_pos (List.mem_append.2 (.inl h2))]
      · rw [if_neg h2,if_neg (fun h3=>(List.mem_append.1 h3).elim h2 (fun h4=>hb (by simpa using h4)))]
  · rw [List.map_append]
    rcases setP_key hq with h1 | ⟨q',h1,h2⟩
    · exact List.mem_append.2 (.inr (by simp [h1]))
    · exact List.mem_append.2 (.inl (h2▸h.keys q' h1))
  · rcases h.left q hq with h1 | ⟨g',h1,h2⟩
    · rcases List.mem_append.1 h1 with h2 | h2
      · exact .inl (List.mem_append.2 (.inl h2))
      · rcases List.mem_cons.1 h2 with rfl | h2
        · exact .inr ⟨g,by simp,hp⟩
        · exact .inl (List.mem_append.2 (.inr h2))
    · exact .inr ⟨g',List.mem_append.2 (.inl h1),h2⟩
theorem nodup_of_map {T U:Type} {f:T→U} {l:List T} (h:(l.map f).Nodup):l.Nodup:=by
  rw [List.nodup_iff_pairwise_ne] at h ⊢
  rw [List.pairwise_map] at h
  exact h.imp fun hne e=>hne (by rw [e])
theorem RunI.all {gs done:List Grp} {kvs:List (Dg × Value)} {sk:List (Nat × Value)} {os:List Ob} (h:RunI gs done kvs [] sk os) (hL:Look kvs gs):done.Perm gs:=by
  classical
  refine (List.perm_ext_iff_of_nodup (nodup_of_map h.nd) (nodup_of_map hL.blks)).2 fun g=>⟨h.sub g,fun hg=>?_⟩
  obtain ⟨d,hd⟩:=List.exists_mem_of_ne_nil _ (hL.some_ g hg)
  have hk:=getP_mem (hL.hit g hg d hd)
  rcases h.left _ hk with h1 | ⟨g',h1,h2⟩
  · cases h1
  · have hb:=ptrV_inj h2
    have hgg:g=g':=by
      have hn:=hL.blks
      obtain ⟨i,hi,rfl⟩:=List.mem_iff_getElem.1 hg
      obtain ⟨j,hj,rfl⟩:=List.mem_iff_getElem.1 (h.sub g' h1)
      have:=(List.getElem_inj (h₀:=by simpa using hi) (h₁:=by simpa using hj) hn).1 (by simpa using hb)
      subst this
      rfl
    rw [hgg]
    exact h1
end Go.SL
