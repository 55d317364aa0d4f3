/- Part of a proof: laws and walks. -/
import Derived.Test.YtgakdmmmljdpjaaDoorTad
import Derived.Test.YtgakdmmmljdpjaaDoorTac
import Derived.Shelf.SlSortCmp.NoneTotal
import Derived.Test.YtgakdmmmljdpjaaDoorTaa
import Derived.Sort.Grow
set_option linter.unusedVariables false
set_option linter.unusedSimpArgs false
namespace Go.SL
open Go
def totS (S:List PG):Nat:=(S.map (fun g=>g.1.length)).sum
theorem totS_perm {S T:List PG} (h:S.Perm T):totS S=totS T:=(h.map _).sum_nat
def playK (l:List Ch) (us:List Bool):Nat→Except Int (List PG)
  | 0=>.ok []
  | k+1=>match playK l us k with
    | .error e=>.error e
    | .ok S=>if (l.getD k default).kind≠4∧us.getD k false=false then stepM S (l.getD k default) else .ok S
def playM (l:List Ch) (us:List Bool):Except Int (List PG):=playK l us l.length
section
variable {l:List Ch} {us:List Bool} {k:Nat} {S S':List PG} {e:Int}
theorem playK_do (h:playK l us k=.ok S) (h1:(l.getD k default).kind≠4) (h2:us.getD k false=false):playK l us (k+1)=stepM S (l.getD k default):=by
  simp only [playK,h]; rw [if_pos ⟨h1,h2⟩]
theorem playK_no (h:playK l us k=.ok S) (h1:¬ ((l.getD k default).kind≠4∧us.getD k false=false)):playK l us (k+1)=.ok S:=by
  simp only [playK,h]; rw [if_neg h1]
theorem playK_err (h:playK l us k=.error e):∀ m,playK l us (k+m)=.error e
  | 0=>h
  | m+1=>by
    have:=playK_err h m
    show playK l us ((k+m)+1)=_
    simp only [playK,this]
theorem playM_err (h:playK l us k=.error e) (hk:k≤l.length):playM l us=.error e:=by
  have:=playK_err h (l.length-k)
  rw [show k+(l.length-k)=l.length from by omega] at this
  exact this
end
theorem merged_len (x y:PG):(merged x y).1.length=x.1.length+y.1.length:=by
  unfold merged; split <;> simp <;> omega
end Go.SL
namespace Go.Proofs.YtgakdmmmljdpjaaDoor
open Go Go.SL
section
variable {bm:Nat} {kvs:List (Dg × Value)} {gs:List Grp} {c:Ch} {w0:World} {S:List PG}
def DoR (w0:World) (bm:Nat) (kvs:List (Dg × Value)) (gs:List Grp) (x:Except Int (List PG)) (tot:Nat):List (Dg × Value) × List Grp→World→Prop:=fun g w =>
  St w0 w (fun k=>(stA 95 24 bm kvs gs).fp k) [] [stA 95 24 bm g.1 g.2]∧∃ S',x=.ok S'∧IsS g.1 g.2 S'∧totS S'≤tot+1
def DoP (w0:World) (bm:Nat) (kvs:List (Dg × Value)) (gs:List Grp) (x:Except Int (List PG)):Int→World→Prop:=fun e w=>x=.error e∧St w0 w (fun k=>(stA 95 24 bm kvs gs).fp k) [] []
theorem RetP.ofRet {G:Type} {P:Program} {t:TypeId} {f:FuncId} {args:Array Value} {w:World} {v:G→Value} {R R':G→World→Prop} {Rp':Int→World→Prop} (h:Ret P f args w v R) (h1:∀ g w',R g w'→R' g w'):RetP P t f args w v R' Rp' :=
  Calls.mono h fun e w' ⟨g,he,hR⟩=>.inl ⟨g,he,h1 g w' hR⟩
theorem RetP.ofPan {G G':Type} {P:Program} {t:TypeId} {f:FuncId} {args:Array Value} {w:World} {v:G→Value} {v':G'→Value} {R:G→World→Prop} {R':G'→World→Prop} {Rp Rp':Int→World→Prop} (h:RetP P t f args w v R Rp) (h1:∀ g w',¬ R g w') (h2:∀ e w',Rp e w'→Rp' e w'):RetP P t f args w v' R' Rp' :=
  Calls.mono h fun e w' he=>by
    rcases he with ⟨g,he,hR⟩ | ⟨c,he,hR⟩
    · exact absurd hR (h1 g w')
    · exact .inr ⟨c,he,h2 c w' hR⟩
theorem add_do (h0:Lent w0 (stA 95 24 bm kvs gs)) (hI:IsS kvs gs S) :
    RetP Tryd.prog 88 56 #[.map (some bm),cV c] w0 (G:=List (Dg × Value) × List Grp) (fun _=>.tuple #[]) (DoR w0 bm kvs gs (addM S c) (totS S)) (DoP w0 bm kvs gs (addM S c)):=by
  obtain ⟨hL,hS⟩:=hI
  rcases find_cases gs c.a with ⟨g,hg,hd,hf⟩ | ⟨hn,hf⟩
  · refine RetP.ofPan (add_err bm kvs gs c w0 h0 hL g.blk (hL.hit g hg c.a hd)) (fun _ _ h=>h) fun e w' ⟨he,hR⟩=>⟨?_,hR⟩
    subst he
    unfold addM; rw [← hS,hf]
  · refine RetP.ofRet (add_ok bm kvs gs c w0 h0 hL (hL.miss c.a hn) hn) fun g w' ⟨hR,hL',ha⟩=>⟨hR,_,?_,⟨hL',ha⟩,?_⟩
    · unfold addM; rw [← hS,hf]
    · rw [← hS]; simp [totS]; omega
theorem perm_tot2 {ga gb:Grp} {rest:List Grp} (hp:gs.Perm (ga::gb::rest)):totS (gs.map absG)=ga.all.length+gb.all.length+totS (rest.map absG):=by
  rw [totS_perm (hp.map absG)]
  simp only [List.map_cons,totS,List.sum_cons,absG]
  omega
theorem perm_tot1 {ga:Grp} {rest:List Grp} (hp:gs.Perm (ga::rest)):totS (gs.map absG)=ga.all.length+totS (rest.map absG):=by
  rw [totS_perm (hp.map absG)]
  simp only [List.map_cons,totS,List.sum_cons,absG]
theorem join_do (h0:Lent w0 (stA 95 24 bm kvs gs)) (hI:IsS kvs gs S) (hz:totS S≤1000000) :
    RetP Tryd.prog 88 57 #[.map (some bm),cV c] w0 (G:=List (Dg × Value) × List Grp) (fun _=>.tuple #[]) (DoR w0 bm kvs gs (joinM S c) (totS S)) (DoP w0 bm kvs gs (joinM S c)):=by
  obtain ⟨hL,hS⟩:=hI
  rcases find_cases gs c.a with ⟨ga,hga,hda,hfa⟩ | ⟨hna,hfa⟩
  · rcases find_cases gs c.b with ⟨gb,hgb,hdb,hfb⟩ | ⟨hnb,hfb⟩
    · by_cases hsame:c.b ∈ ga.all
      · have hE:gb=ga:=hL.uniq hgb hga hdb hsame
        subst hE
        refine RetP.ofPan (join_same bm kvs gs c w0 h0 hL gb _ (perm_take hga hL.apart hda) hda hsame) (fun _ _ h=>h) fun e w' ⟨he,hR⟩=>⟨?_,hR⟩
        subst he
        unfold joinM; rw [← hS,hfa,hfb]; simp
      · have hna:c.a ∉ gb.all:=fun h=>hsame ((hL.uniq hga hgb hda h)▸hdb)
        have hp:=perm_take2 hga hgb hL.apart hda hdb hna
        have hne:absG ga≠absG gb:=fun e=>hsame (by
          have:ga.all=gb.all:=congrArg (·.1) e
          rw [this]; exact hdb)
        cases hn:(ga.num&&gb.num) with
        | true =>
          refine RetP.ofPan (join_num bm kvs gs c w0 h0 hL ga gb _ hp hda hdb hn) (fun _ _ h=>h) fun e w' ⟨he,hR⟩=>⟨?_,hR⟩
          subst he
          unfold joinM; rw [← hS,hfa,hfb]
          exact if_pos (.inr hn)
        | false =>
          have ht:=perm_tot2 hp
          rw [hS] at ht
          refine RetP.ofRet (join_ok bm kvs gs c w0 h0 hL ga gb _ hp hda hdb hn (by omega)) fun g w' ⟨hR,hL',ha⟩=>⟨hR,_,?_,⟨hL',ha⟩,?_⟩
          · unfold joinM; rw [← hS,hfa,hfb]
            show (if absG ga=absG gb∨_ then _ else _)=_
            rw [if_neg (fun h=>h.elim hne (fun h=>by rw [show ((absG ga).2&&(absG gb).2)=(ga.num&&gb.num) from rfl,hn] at h; cases h))]
            rw [← filter_absG]
            rfl
          · have h1:=merged_len (absG ga) (absG gb)
            simp only [totS,List.map_cons,List.sum_cons] at ht ⊢
            simp only [absG] at h1 ht ⊢
            rw [h1]
            omega
    · refine RetP.ofPan (join_err_b bm kvs gs c w0 h0 hL ga.blk (hL.hit ga hga c.a hda) (hL.miss c.b hnb)) (fun _ _ h=>h) fun e w' ⟨he,hR⟩=>⟨?_,hR⟩
      subst he
      unfold joinM; rw [← hS,hfa,hfb]
  · refine RetP.ofPan (join_err_a bm kvs gs c w0 h0 hL _ (hL.miss c.a hna) rfl) (fun _ _ h=>h) fun e w' ⟨he,hR⟩=>⟨?_,hR⟩
    subst he
    unfold joinM; rw [← hS,hfa]
theorem name_do (h0:Lent w0 (stA 95 24 bm kvs gs)) (hI:IsS kvs gs S) (hz:totS S≤1000000) :
    RetP Tryd.prog 88 58 #[.map (some bm),cV c] w0 (G:=List (Dg × Value) × List Grp) (fun _=>.tuple #[]) (DoR w0 bm kvs gs (nameM S c) (totS S)) (DoP w0 bm kvs gs (nameM S c)):=by
  obtain ⟨hL,hS⟩:=hI
  rcases find_cases gs c.a with ⟨ga,hga,hda,hfa⟩ | ⟨hna,hfa⟩
  · rcases find_cases gs c.b with ⟨gb,hgb,hdb,hfb⟩ | ⟨hnb,hfb⟩
    · refine RetP.ofPan (name_twice bm kvs gs c w0 h0 hL ga.blk gb.blk (hL.hit ga hga c.a hda) (hL.hit gb hgb c.b hdb)) (fun _ _ h=>h) fun e w' ⟨he,hR⟩=>⟨?_,hR⟩
      subst he
      unfold nameM; rw [← hS,hfa]; simp only; rw [hfb]
    · have hp:=perm_take hga hL.apart hda
      cases hn:ga.num with
      | true =>
        refine RetP.ofPan (name_num bm kvs gs c w0 h0 hL ga _ hp hda (hL.miss c.b hnb) hn) (fun _ _ h=>h) fun e w' ⟨he,hR⟩=>⟨?_,hR⟩
        subst he
        unfold nameM; rw [← hS,hfa]; simp only; rw [hfb]
        exact if_pos hn
      | false =>
        have ht:=perm_tot1 hp
        rw [hS] at ht
        refine RetP.ofRet (name_ok bm kvs gs c w0 h0 hL ga _ hp hda (hL.miss c.b hnb) hnb hn (by omega)) fun g w' ⟨hR,hL',ha⟩=>⟨hR,_,?_,⟨hL',ha⟩,?_⟩
        · unfold nameM; rw [← hS,hfa]; simp only; rw [hfb]
          show (if ga.num=true then _ else _)=_
          rw [hn,if_neg (by decide),← filter_absG]
          rfl
        · simp only [totS,List.map_cons,List.sum_cons,List.length_append,List.length_singleton] at ht ⊢
          omega
  · refine RetP.ofPan (name_none bm kvs gs c w0 h0 hL (hL.miss c.a hna)) (fun _ _ h=>h) fun e w' ⟨he,hR⟩=>⟨?_,hR⟩
    subst he
    unfold nameM; rw [← hS,hfa]
end
end Go.Proofs.YtgakdmmmljdpjaaDoor

set_option maxHeartbeats 1000000
set_option maxRecDepth 8000
namespace Go.Proofs.YtgakdmmmljdpjaaDoor
open Go Go.SL
theorem C_ok_56:callOK Tryd.prog 56=true:=by kernel_rfl
theorem C_ok_57:callOK Tryd.prog 57=true:=by kernel_rfl
theorem C_ok_58:callOK Tryd.prog 58=true:=by kernel_rfl
theorem T_agg_103:tAgg Tryd.prog 103=some false:=by kernel_rfl
theorem T_agg_26:tAgg Tryd.prog 26=some true:=by kernel_rfl
theorem T_agg_5:tAgg Tryd.prog 5=some false:=by kernel_rfl
theorem T_arr_105:tArr Tryd.prog 105=some (4,103):=by kernel_rfl
theorem T_elem_22:tElem Tryd.prog 22=some 26:=by kernel_rfl
theorem T_elem_51:tElem Tryd.prog 51=some 4:=by kernel_rfl
theorem T_field_26_0:tField Tryd.prog 26 0=some 0:=by kernel_rfl
theorem T_size_103:tSize Tryd.prog 103=some 1:=by kernel_rfl
theorem T_size_105:tSize Tryd.prog 105=some 4:=by kernel_rfl
theorem T_size_26:tSize Tryd.prog 26=some 12:=by kernel_rfl
theorem T_zero_105:tZero Tryd.prog 105=some (.agg #[.nilFunc,.nilFunc,.nilFunc,.nilFunc]):=by kernel_rfl
theorem T_zero_26:tZero Tryd.prog 26=some (.agg #[.int .u8 0,.int .i64 0,.int .i64 0,.int .u8 0,.int .u8 0,.int .i64 0,.int .i64 0,.int .i64 0,.int .u8 0,.int .u8 0,.int .i64 0,.int .i64 0]):=by kernel_rfl
set_option maxHeartbeats 4000000 in
set_option maxRecDepth 4000 in
theorem play_spec (vl vu:Value) (l:List Ch) (us:List Bool) (w0:World) (hl:rdOK (hp w0) 12 vl l.length (encs eC l)) (hu:rdOK (hp w0) 1 vu us.length (bools us)) (hlu:l.length≤us.length) (hlen:l.length≤1000) (hk:∀ j,j<l.length→1≤(l.getD j default).kind∧(l.getD j default).kind≤4) :
    RetP Tryd.prog 88 45 #[vl,vu] w0 (G:=Nat × List (Dg × Value) × List Grp) (fun g=>.map (some g.1)) (fun g w=>St w0 w noX [] [stA 95 24 g.1 g.2.1 g.2.2]∧∃ S,playM l us=.ok S∧IsS g.2.1 g.2.2 S∧totS S≤l.length) (fun e w=>playM l us=.error e∧St w0 w noX [] []):=by
  refine retP_of_W (lv:=[vl,vu]) Tryd.func45 rfl rfl rfl (fun a hf=>?_); replace hf:Fr a 37 [] [(0,vl),(1,vu)]:=hf.q rfl; have hS:St w0 w0 noX [rdv 12 vl l.length (encs eC l),rdv 1 vu us.length (bools us)] []:=((St.refl w0).lend0 hu).lend0 hl; refine W.seq ?_
  refine W.regionL (l:=[0]) rfl<|mv hf rfl<|?_; clear hf a; intro a hf; refine nk<|W.seq<|?_
  refine W.regionL (l:=[0,1,2]) rfl<|ov hf rfl (RunV.buildA (cs':=#[.nilFunc,.func (.func 56) #[] #[],.func (.func 57) #[] #[],.func (.func 58) #[] #[]]) T_arr_105 T_size_103 T_zero_105 rfl rfl)<|?_; clear hf a; intro a hf; refine O.alloc (cs:=#[.nilFunc,.nilFunc,.nilFunc,.nilFunc]) hf hS rfl rfl T_zero_105 rfl ?_; intro b_does1 w a hbb_does1 hS hf; refine ost 0 #[.nilFunc,.func (.func 56) #[] #[],.func (.func 57) #[] #[],.func (.func 58) #[] #[]] hf hS rfl rfl rfl T_size_105 rfl rfl rfl (bl rfl) rfl ?_; intro w hS; refine nk<|W.seq<|?_
  refine W.regionL (l:=[0,1]) rfl<|O.makeP dV hf hS rfl rfl<|?_; intro b_m2 w a hbb_m2 hS hf; refine mv hf rfl ?_; clear hf a; intro a hf; refine O.nil ?_; replace hS:=hS.stNew (TG:=95) (TD:=24); replace hS:St w0 _ noX [rdv 12 vl l.length (encs eC l),rdv 1 vu us.length (bools us)] [stA 95 24 b_m2 ([]) ([]),pt b_does1 (.cells #[.nilFunc,.func (.func 56) #[] #[],.func (.func 57) #[] #[],.func (.func 58) #[] #[]] 105 (0,0))]:=hS; refine k_seq<|W.seq<|W.seq<|?_
  refine W.regionL (l:=[0,1,2]) rfl<|mv hf rfl<|?_; clear hf a; intro a hf; refine ov hf rfl (RunV.lenV (e:=26) (by simpa using T_elem_22) rfl (hS.rdAt (j:=0) rfl)) ?_; clear hf a; intro a hf; refine mv hf rfl ?_; clear hf a; intro a hf; refine nk ?_; replace hf:Fr a 37 [] [(1,vu),(4,.map none),(5,.pointer (some ⟨b_does1,0,none⟩)),(6,.map (some b_m2)),(11,vl),(12,.int .i64 (l.length:Int)),(13,.int .i64 0)]:=hf.q rfl; refine W.block ?_
  refine W.loop (G:=(Nat) × (List (Dg × Value)) × (List Grp) × (List PG)) (fun g a w=>match g with | (k,kvs,gs,S)=>Fr a 37 [] [(1,vu),(4,.map none),(5,.pointer (some ⟨b_does1,0,none⟩)),(6,.map (some b_m2)),(11,vl),(12,.int .i64 (l.length:Int)),(13,.int .i64 (k:Int))]∧St w0 w noX [rdv 12 vl l.length (encs eC l),rdv 1 vu us.length (bools us)] [stA 95 24 b_m2 kvs gs,pt b_does1 (.cells #[.nilFunc,.func (.func 56) #[] #[],.func (.func 57) #[] #[],.func (.func 58) #[] #[]] 105 (0,0))]∧(k≤l.length)∧(playK l us k=.ok S)∧(IsS kvs gs S)∧(totS S≤k)) (fun g=>match g with | (k,kvs,gs,S)=>l.length-k) (0,[],[],[]) ?_ ?_
  · refine ⟨hf.to ⟨rfl,rfl,rfl,rfl,rfl,rfl,(by first | rfl | exact congrArg some (congrArg (Value.int _) (by omega))),trivial⟩,hS,?_,?_,?_,?_⟩
    · omega
    · rfl
    · exact ⟨⟨by simp,by simp,fun _ _=>rfl,.nil,by simp,by simp,by simp⟩,rfl⟩
    · simp [totS]
  clear hf hS a; rintro ⟨k,kvs,gs,S⟩ a w ⟨hf,hS,h1,hp,hI,hz⟩; refine W.seq ?_
  refine W.regionL (l:=[0]) rfl<|ov (v:=.bool (decide ((k:Int)<((l.length:Int):Int)))) hf rfl (RunV.lss rfl rfl)<|?_; clear hf a; intro a hf; refine nk<|W.seq<|?_; refine W.ifdI hf rfl (fun hlt=>?_) (fun hlt=>?_)
  · refine W.skip ?_
    refine k_seq<|W.seq<|W.block<|W.seq<|?_
    refine W.regionL (l:=[0,1,2,3,4,5]) rfl ?_; obtain ⟨cc,hcc⟩:∃ cc,cc=l.getD k default:=⟨_,rfl⟩; refine mv hf rfl ?_; clear hf a; intro a hf; refine ov hf rfl (RunV.ixV (j:=k) (m:=k*12) T_elem_22 T_size_26 rfl rfl (hS.rdAt (j:=0) rfl) rfl (by omega) rfl) ?_; clear hf a; intro a hf; refine ov hf rfl (RunV.ldG (j:=k) (enc:=eC) (l:=l) (us:=eC cc) T_agg_26 T_size_26 rfl eC_len rfl (hS.rdAt (j:=0) rfl) (by omega) (by rw [hcc])) ?_; clear hf a; intro a hf; refine O.alloc (cs:=#[.int .u8 0,.int .i64 0,.int .i64 0,.int .u8 0,.int .u8 0,.int .i64 0,.int .i64 0,.int .i64 0,.int .u8 0,.int .u8 0,.int .i64 0,.int .i64 0]) hf hS rfl rfl T_zero_26 rfl ?_; intro b_c4 w a hbb_c4 hS hf; refine mv hf rfl ?_; clear hf a; intro a hf; refine O.store (j:=0) (v:=.agg #[.int .u8 cc.kind,.int .i64 cc.a.num,.int .i64 cc.a.yr,.int .u8 cc.a.half,.int .u8 cc.a.sec,.int .i64 cc.a.cyc,.int .i64 cc.b.num,.int .i64 cc.b.yr,.int .u8 cc.b.half,.int .u8 cc.b.sec,.int .i64 cc.b.cyc,.int .i64 cc.n]) (cs':=#[.int .u8 cc.kind,.int .i64 cc.a.num,.int .i64 cc.a.yr,.int .u8 cc.a.half,.int .u8 cc.a.sec,.int .i64 cc.a.cyc,.int .i64 cc.b.num,.int .i64 cc.b.yr,.int .u8 cc.b.half,.int .u8 cc.b.sec,.int .i64 cc.b.cyc,.int .i64 cc.n]) (M':=[pt b_c4 (.cells #[.int .u8 cc.kind,.int .i64 cc.a.num,.int .i64 cc.a.yr,.int .u8 cc.a.half,.int .u8 cc.a.sec,.int .i64 cc.a.cyc,.int .i64 cc.b.num,.int .i64 cc.b.yr,.int .u8 cc.b.half,.int .u8 cc.b.sec,.int .i64 cc.b.cyc,.int .i64 cc.n] 26 (0,0)),stA 95 24 b_m2 kvs gs,pt b_does1 (.cells #[.nilFunc,.func (.func 56) #[] #[],.func (.func 57) #[] #[],.func (.func 58) #[] #[]] 105 (0,0))]) hf hS rfl rfl rfl T_size_26 (by kernel_rfl) (by kernel_rfl) rfl (bl rfl) (by kernel_rfl) rfl ?_; intro w hS; refine nk<|W.seq<|?_
    refine W.regionL (l:=[0,1,2,3,4,5,6,7,8,9]) rfl<|ov hf rfl (RunV.field T_field_26_0 rfl rfl)<|?_; clear hf a; intro a hf; refine ov hf rfl (RunV.load1 T_agg_5 rfl (hS.p 0 rfl) rfl) ?_; clear hf a; intro a hf; refine ov (v:=.bool (decide (cc.kind≠(4:Int)))) hf rfl (RunV.neq rfl rfl) ?_; clear hf a; intro a hf; refine mv hf rfl ?_; clear hf a; intro a hf
    refine O.cutN (l₁:=[4,5,6,7,8,9]) (l₂:=_) (fun a w=>Fr a 37 [] [(1,vu),(4,.map none),(5,.pointer (some ⟨b_does1,0,none⟩)),(6,.map (some b_m2)),(7,.int .i64 (k:Int)),(8,.pointer (some ⟨b_c4,0,none⟩)),(11,vl),(12,.int .i64 (l.length:Int)),(13,.int .i64 (k:Int)),(18,.pointer (some ⟨b_c4,0,none⟩)),(19,.int .u8 cc.kind),(20,.bool (decide (cc.kind≠(4:Int)))),(21,.bool (decide (cc.kind≠(4:Int)))),(27,.bool ((decide (cc.kind≠(4:Int)))&&(!(us.getD k false))))]∧St w0 w noX [rdv 12 vl l.length (encs eC l),rdv 1 vu us.length (bools us)] [pt b_c4 (.cells #[.int .u8 cc.kind,.int .i64 cc.a.num,.int .i64 cc.a.yr,.int .u8 cc.a.half,.int .u8 cc.a.sec,.int .i64 cc.a.cyc,.int .i64 cc.b.num,.int .i64 cc.b.yr,.int .u8 cc.b.half,.int .u8 cc.b.sec,.int .i64 cc.b.cyc,.int .i64 cc.n] 26 (0,0)),stA 95 24 b_m2 kvs gs,pt b_does1 (.cells #[.nilFunc,.func (.func 56) #[] #[],.func (.func 57) #[] #[],.func (.func 58) #[] #[]] 105 (0,0))]) rfl ?_ ?_
    · rcases Bool.eq_false_or_eq_true (decide (cc.kind≠(4:Int))) with hb5 | hb5
      · have hb5p:=of_decide_eq_true hb5
        refine og (v:=vu) hf rfl hb5 (RunV.move rfl) ?_; clear hf a; intro a hf; refine og (v:=.int .i64 (k:Int)) hf rfl hb5 (RunV.move rfl) ?_; clear hf a; intro a hf; refine og (v:=ix vu k) hf rfl hb5 (RunV.ixV (j:=k) (m:=k) T_elem_51 T_size_4 rfl rfl (hS.rdAt (j:=1) rfl) rfl (by omega) (Nat.mul_one _)) ?_; clear hf a; intro a hf; refine og (v:=.bool (us.getD k false)) hf rfl hb5 (RunV.ld1 T_agg_4 rfl (hS.rdAt (j:=1) rfl) (bools_get (by omega))) ?_; clear hf a; intro a hf; refine og (v:=.bool (!(us.getD k false))) hf rfl hb5 (RunV.not rfl) ?_; clear hf a; intro a hf; refine ov (v:=.bool ((decide (cc.kind≠(4:Int)))&&(!(us.getD k false)))) hf rfl (RunV.pick rfl rfl rfl (by rw [hb5]; rfl)) ?_; clear hf a; intro a hf; exact O.nil ⟨rfl,hf.q rfl,hS⟩
      · have hb5p:=of_decide_eq_false hb5
        refine sk hf rfl hb5 fun a hf=>sk hf rfl hb5 fun a hf=>sk hf rfl hb5 fun a hf=>sk hf rfl hb5 fun a hf=>sk hf rfl hb5 fun a hf=>?_; refine ov (v:=.bool ((decide (cc.kind≠(4:Int)))&&(!(us.getD k false)))) hf rfl (RunV.pick rfl rfl rfl (by rw [hb5]; rfl)) ?_; clear hf a; intro a hf; exact O.nil ⟨rfl,hf.q rfl,hS⟩
    clear hf hS a; rintro a w ⟨hf,hS⟩; refine nk ?_; refine W.if_ hf rfl (fun hdo=>?_) (fun hdo=>?_)
    · have hdob:=hdo
      try simp only [Bool.and_eq_true,Bool.or_eq_true,Bool.and_eq_false_iff,Bool.or_eq_false_iff,decide_eq_true_eq,decide_eq_false_iff_not,Bool.not_eq_true',Bool.not_eq_false',Bool.not_eq_true,Bool.not_eq_false,ne_eq] at hdo
      have hkk:=hk k (by omega); simp only [Bool.and_eq_true,decide_eq_true_eq,Bool.not_eq_true'] at hdob; rw [← hcc] at hkk
      rcases (show cc.kind=1∨cc.kind=2∨cc.kind=3 by omega) with h1 | h1 | h1
      · have hS0:=hS
        rw [h1] at hS
        refine W.drawM (l₂:=[6]) (fun w=>St w0 w noX [rdv 12 vl l.length (encs eC l),rdv 1 vu us.length (bools us)] [pt b_c4 (.cells #[.int .u8 1,.int .i64 cc.a.num,.int .i64 cc.a.yr,.int .u8 cc.a.half,.int .u8 cc.a.sec,.int .i64 cc.a.cyc,.int .i64 cc.b.num,.int .i64 cc.b.yr,.int .u8 cc.b.half,.int .u8 cc.b.sec,.int .i64 cc.b.cyc,.int .i64 cc.n] 26 (0,0)),stA 95 24 b_m2 kvs gs,pt b_does1 (.cells #[.nilFunc,.func (.func 56) #[] #[],.func (.func 57) #[] #[],.func (.func 58) #[] #[]] 105 (0,0))]) 6 P_mixed rfl rfl rfl (by kernel_rfl) hS.drew ?_; clear hS; refine OQ.val (v:=.pointer (some ⟨b_c4,0,none⟩)) hf rfl (fun w hS=>RunV.field T_field_26_0 rfl rfl) fun a hf=>OQ.val (v:=.int .u8 1) hf rfl (fun w hS=>RunV.load1 T_agg_5 rfl (hS.p 0 rfl) rfl) fun a hf=>OQ.val (v:=.pointer (some ⟨b_does1,1,none⟩)) hf rfl (fun w hS=>RunV.indexArr (j:=1) (m:=1) T_arr_105 T_size_103 rfl rfl rfl (by omega) (by omega)) fun a hf=>OQ.val (v:=.func (.func 56) #[] #[]) hf rfl (fun w hS=>RunV.load1 T_agg_103 rfl (hS.p 2 rfl) rfl) fun a hf=>OQ.val (v:=.map (some b_m2)) hf rfl (fun w hS=>RunV.move rfl) fun a hf=>OQ.val (v:=.agg #[.int .u8 1,.int .i64 cc.a.num,.int .i64 cc.a.yr,.int .u8 cc.a.half,.int .u8 cc.a.sec,.int .i64 cc.a.cyc,.int .i64 cc.b.num,.int .i64 cc.b.yr,.int .u8 cc.b.half,.int .u8 cc.b.sec,.int .i64 cc.b.cyc,.int .i64 cc.n]) hf rfl (fun w hS=>RunV.loadN (cs':=#[.int .u8 1,.int .i64 cc.a.num,.int .i64 cc.a.yr,.int .u8 cc.a.half,.int .u8 cc.a.sec,.int .i64 cc.a.cyc,.int .i64 cc.b.num,.int .i64 cc.b.yr,.int .u8 cc.b.half,.int .u8 cc.b.sec,.int .i64 cc.b.cyc,.int .i64 cc.n]) T_agg_26 T_size_26 rfl (hS.p 0 rfl) (bl rfl) rfl) fun a hf=>?_; refine OQ.nil ?_; intro w hS; rw [show (Value.agg #[.int .u8 1,.int .i64 cc.a.num,.int .i64 cc.a.yr,.int .u8 cc.a.half,.int .u8 cc.a.sec,.int .i64 cc.a.cyc,.int .i64 cc.b.num,.int .i64 cc.b.yr,.int .u8 cc.b.half,.int .u8 cc.b.sec,.int .i64 cc.b.cyc,.int .i64 cc.n])=cV cc from by unfold cV; rw [h1]] at hf; refine O.callP hf rfl rfl rfl (RunE.call (av:=#[.map (some b_m2),cV cc]) C_ok_56 rfl rfl rfl) (add_do (c:=cc) (hS.lentAt (i:=1) rfl) hI) ?_ ?_
        rotate_left 1
        · rintro e w1 ⟨he,hS1⟩ a hf
          replace hS:=(hS.callX1 hS1 (i:=1) rfl (fun _ h=>h)).eqM (N:=[pt b_c4 (.cells #[.int .u8 1,.int .i64 cc.a.num,.int .i64 cc.a.yr,.int .u8 cc.a.half,.int .u8 cc.a.sec,.int .i64 cc.a.cyc,.int .i64 cc.b.num,.int .i64 cc.b.yr,.int .u8 cc.b.half,.int .u8 cc.b.sec,.int .i64 cc.b.cyc,.int .i64 cc.n] 26 (0,0)),pt b_does1 (.cells #[.nilFunc,.func (.func 56) #[] #[],.func (.func 57) #[] #[],.func (.func 58) #[] #[]] 105 (0,0))]) rfl; refine k_blk_panic<|k_seq_panic<|k_seq_panic<|k_blk_panic<|k_seq_panic<|post_panic hf<|?_; exact .inr ⟨e,rfl,playM_err (k:=k+1) (by rw [hcc] at hdob; rw [playK_do hp hdob.1 hdob.2,← hcc]; unfold stepM; rw [if_pos h1]; exact he) (by omega),hS.sub (List.nil_sublist _) |>.noB⟩
        clear hf a; rintro ⟨kv2,gs2⟩ w7 ⟨hS1,S2,hs2,hI2,ht2⟩ a hf; replace hS:=(hS.callX1 hS1 (i:=1) rfl (fun _ h=>h)).eqM (N:=[stA 95 24 b_m2 kv2 gs2,pt b_c4 (.cells #[.int .u8 1,.int .i64 cc.a.num,.int .i64 cc.a.yr,.int .u8 cc.a.half,.int .u8 cc.a.sec,.int .i64 cc.a.cyc,.int .i64 cc.b.num,.int .i64 cc.b.yr,.int .u8 cc.b.half,.int .u8 cc.b.sec,.int .i64 cc.b.cyc,.int .i64 cc.n] 26 (0,0)),pt b_does1 (.cells #[.nilFunc,.func (.func 56) #[] #[],.func (.func 57) #[] #[],.func (.func 58) #[] #[]] 105 (0,0))]) rfl; refine O.nil<|k_blk_normal<|k_seq<|?_
        refine W.regionL (l:=[0,1]) rfl<|ov hf rfl (RunV.addI rfl rfl (by omega))<|?_; clear hf a; intro a hf; refine mv hf rfl ?_; clear hf a; intro a hf; refine O.nil ?_; replace hS:=hS.sl [1,0,1]; refine k_then ⟨(k+1,kv2,gs2,S2),⟨hf.to ⟨rfl,rfl,rfl,rfl,rfl,rfl,(by first | rfl | exact congrArg some (congrArg (Value.int _) (by omega))),trivial⟩,?_,?_,?_,?_,?_⟩,?_⟩
        · exact hS.eqM rfl
        · omega
        · rw [hcc] at hdob; rw [playK_do hp hdob.1 hdob.2,← hcc]; unfold stepM; rw [if_pos h1]; exact hs2
        · exact hI2
        · omega
        · dsimp only; omega
      · have hS0:=hS
        rw [h1] at hS
        refine W.drawM (l₂:=[6]) (fun w=>St w0 w noX [rdv 12 vl l.length (encs eC l),rdv 1 vu us.length (bools us)] [pt b_c4 (.cells #[.int .u8 2,.int .i64 cc.a.num,.int .i64 cc.a.yr,.int .u8 cc.a.half,.int .u8 cc.a.sec,.int .i64 cc.a.cyc,.int .i64 cc.b.num,.int .i64 cc.b.yr,.int .u8 cc.b.half,.int .u8 cc.b.sec,.int .i64 cc.b.cyc,.int .i64 cc.n] 26 (0,0)),stA 95 24 b_m2 kvs gs,pt b_does1 (.cells #[.nilFunc,.func (.func 56) #[] #[],.func (.func 57) #[] #[],.func (.func 58) #[] #[]] 105 (0,0))]) 6 P_mixed rfl rfl rfl (by kernel_rfl) hS.drew ?_; clear hS; refine OQ.val (v:=.pointer (some ⟨b_c4,0,none⟩)) hf rfl (fun w hS=>RunV.field T_field_26_0 rfl rfl) fun a hf=>OQ.val (v:=.int .u8 2) hf rfl (fun w hS=>RunV.load1 T_agg_5 rfl (hS.p 0 rfl) rfl) fun a hf=>OQ.val (v:=.pointer (some ⟨b_does1,2,none⟩)) hf rfl (fun w hS=>RunV.indexArr (j:=2) (m:=2) T_arr_105 T_size_103 rfl rfl rfl (by omega) (by omega)) fun a hf=>OQ.val (v:=.func (.func 57) #[] #[]) hf rfl (fun w hS=>RunV.load1 T_agg_103 rfl (hS.p 2 rfl) rfl) fun a hf=>OQ.val (v:=.map (some b_m2)) hf rfl (fun w hS=>RunV.move rfl) fun a hf=>OQ.val (v:=.agg #[.int .u8 2,.int .i64 cc.a.num,.int .i64 cc.a.yr,.int .u8 cc.a.half,.int .u8 cc.a.sec,.int .i64 cc.a.cyc,.int .i64 cc.b.num,.int .i64 cc.b.yr,.int .u8 cc.b.half,.int .u8 cc.b.sec,.int .i64 cc.b.cyc,.int .i64 cc.n]) hf rfl (fun w hS=>RunV.loadN (cs':=#[.int .u8 2,.int .i64 cc.a.num,.int .i64 cc.a.yr,.int .u8 cc.a.half,.int .u8 cc.a.sec,.int .i64 cc.a.cyc,.int .i64 cc.b.num,.int .i64 cc.b.yr,.int .u8 cc.b.half,.int .u8 cc.b.sec,.int .i64 cc.b.cyc,.int .i64 cc.n]) T_agg_26 T_size_26 rfl (hS.p 0 rfl) (bl rfl) rfl) fun a hf=>?_; refine OQ.nil ?_; intro w hS; rw [show (Value.agg #[.int .u8 2,.int .i64 cc.a.num,.int .i64 cc.a.yr,.int .u8 cc.a.half,.int .u8 cc.a.sec,.int .i64 cc.a.cyc,.int .i64 cc.b.num,.int .i64 cc.b.yr,.int .u8 cc.b.half,.int .u8 cc.b.sec,.int .i64 cc.b.cyc,.int .i64 cc.n])=cV cc from by unfold cV; rw [h1]] at hf; refine O.callP hf rfl rfl rfl (RunE.call (av:=#[.map (some b_m2),cV cc]) C_ok_57 rfl rfl rfl) (join_do (c:=cc) (hS.lentAt (i:=1) rfl) hI (by omega)) ?_ ?_
        rotate_left 1
        · rintro e w1 ⟨he,hS1⟩ a hf
          replace hS:=(hS.callX1 hS1 (i:=1) rfl (fun _ h=>h)).eqM (N:=[pt b_c4 (.cells #[.int .u8 2,.int .i64 cc.a.num,.int .i64 cc.a.yr,.int .u8 cc.a.half,.int .u8 cc.a.sec,.int .i64 cc.a.cyc,.int .i64 cc.b.num,.int .i64 cc.b.yr,.int .u8 cc.b.half,.int .u8 cc.b.sec,.int .i64 cc.b.cyc,.int .i64 cc.n] 26 (0,0)),pt b_does1 (.cells #[.nilFunc,.func (.func 56) #[] #[],.func (.func 57) #[] #[],.func (.func 58) #[] #[]] 105 (0,0))]) rfl; refine k_blk_panic<|k_seq_panic<|k_seq_panic<|k_blk_panic<|k_seq_panic<|post_panic hf<|?_; exact .inr ⟨e,rfl,playM_err (k:=k+1) (by rw [hcc] at hdob; rw [playK_do hp hdob.1 hdob.2,← hcc]; unfold stepM; rw [if_neg (by omega),if_pos h1]; exact he) (by omega),hS.sub (List.nil_sublist _) |>.noB⟩
        clear hf a; rintro ⟨kv2,gs2⟩ w8 ⟨hS1,S2,hs2,hI2,ht2⟩ a hf; replace hS:=(hS.callX1 hS1 (i:=1) rfl (fun _ h=>h)).eqM (N:=[stA 95 24 b_m2 kv2 gs2,pt b_c4 (.cells #[.int .u8 2,.int .i64 cc.a.num,.int .i64 cc.a.yr,.int .u8 cc.a.half,.int .u8 cc.a.sec,.int .i64 cc.a.cyc,.int .i64 cc.b.num,.int .i64 cc.b.yr,.int .u8 cc.b.half,.int .u8 cc.b.sec,.int .i64 cc.b.cyc,.int .i64 cc.n] 26 (0,0)),pt b_does1 (.cells #[.nilFunc,.func (.func 56) #[] #[],.func (.func 57) #[] #[],.func (.func 58) #[] #[]] 105 (0,0))]) rfl; refine O.nil<|k_blk_normal<|k_seq<|?_
        refine W.regionL (l:=[0,1]) rfl<|ov hf rfl (RunV.addI rfl rfl (by omega))<|?_; clear hf a; intro a hf; refine mv hf rfl ?_; clear hf a; intro a hf; refine O.nil ?_; replace hS:=hS.sl [1,0,1]; refine k_then ⟨(k+1,kv2,gs2,S2),⟨hf.to ⟨rfl,rfl,rfl,rfl,rfl,rfl,(by first | rfl | exact congrArg some (congrArg (Value.int _) (by omega))),trivial⟩,?_,?_,?_,?_,?_⟩,?_⟩
        · exact hS.eqM rfl
        · omega
        · rw [hcc] at hdob; rw [playK_do hp hdob.1 hdob.2,← hcc]; unfold stepM; rw [if_neg (by omega),if_pos h1]; exact hs2
        · exact hI2
        · omega
        · dsimp only; omega
      · have hS0:=hS
        rw [h1] at hS
        refine W.drawM (l₂:=[6]) (fun w=>St w0 w noX [rdv 12 vl l.length (encs eC l),rdv 1 vu us.length (bools us)] [pt b_c4 (.cells #[.int .u8 3,.int .i64 cc.a.num,.int .i64 cc.a.yr,.int .u8 cc.a.half,.int .u8 cc.a.sec,.int .i64 cc.a.cyc,.int .i64 cc.b.num,.int .i64 cc.b.yr,.int .u8 cc.b.half,.int .u8 cc.b.sec,.int .i64 cc.b.cyc,.int .i64 cc.n] 26 (0,0)),stA 95 24 b_m2 kvs gs,pt b_does1 (.cells #[.nilFunc,.func (.func 56) #[] #[],.func (.func 57) #[] #[],.func (.func 58) #[] #[]] 105 (0,0))]) 6 P_mixed rfl rfl rfl (by kernel_rfl) hS.drew ?_; clear hS; refine OQ.val (v:=.pointer (some ⟨b_c4,0,none⟩)) hf rfl (fun w hS=>RunV.field T_field_26_0 rfl rfl) fun a hf=>OQ.val (v:=.int .u8 3) hf rfl (fun w hS=>RunV.load1 T_agg_5 rfl (hS.p 0 rfl) rfl) fun a hf=>OQ.val (v:=.pointer (some ⟨b_does1,3,none⟩)) hf rfl (fun w hS=>RunV.indexArr (j:=3) (m:=3) T_arr_105 T_size_103 rfl rfl rfl (by omega) (by omega)) fun a hf=>OQ.val (v:=.func (.func 58) #[] #[]) hf rfl (fun w hS=>RunV.load1 T_agg_103 rfl (hS.p 2 rfl) rfl) fun a hf=>OQ.val (v:=.map (some b_m2)) hf rfl (fun w hS=>RunV.move rfl) fun a hf=>OQ.val (v:=.agg #[.int .u8 3,.int .i64 cc.a.num,.int .i64 cc.a.yr,.int .u8 cc.a.half,.int .u8 cc.a.sec,.int .i64 cc.a.cyc,.int .i64 cc.b.num,.int .i64 cc.b.yr,.int .u8 cc.b.half,.int .u8 cc.b.sec,.int .i64 cc.b.cyc,.int .i64 cc.n]) hf rfl (fun w hS=>RunV.loadN (cs':=#[.int .u8 3,.int .i64 cc.a.num,.int .i64 cc.a.yr,.int .u8 cc.a.half,.int .u8 cc.a.sec,.int .i64 cc.a.cyc,.int .i64 cc.b.num,.int .i64 cc.b.yr,.int .u8 cc.b.half,.int .u8 cc.b.sec,.int .i64 cc.b.cyc,.int .i64 cc.n]) T_agg_26 T_size_26 rfl (hS.p 0 rfl) (bl rfl) rfl) fun a hf=>?_; refine OQ.nil ?_; intro w hS; rw [show (Value.agg #[.int .u8 3,.int .i64 cc.a.num,.int .i64 cc.a.yr,.int .u8 cc.a.half,.int .u8 cc.a.sec,.int .i64 cc.a.cyc,.int .i64 cc.b.num,.int .i64 cc.b.yr,.int .u8 cc.b.half,.int .u8 cc.b.sec,.int .i64 cc.b.cyc,.int .i64 cc.n])=cV cc from by unfold cV; rw [h1]] at hf; refine O.callP hf rfl rfl rfl (RunE.call (av:=#[.map (some b_m2),cV cc]) C_ok_58 rfl rfl rfl) (name_do (c:=cc) (hS.lentAt (i:=1) rfl) hI (by omega)) ?_ ?_
        rotate_left 1
        · rintro e w1 ⟨he,hS1⟩ a hf
          replace hS:=(hS.callX1 hS1 (i:=1) rfl (fun _ h=>h)).eqM (N:=[pt b_c4 (.cells #[.int .u8 3,.int .i64 cc.a.num,.int .i64 cc.a.yr,.int .u8 cc.a.half,.int .u8 cc.a.sec,.int .i64 cc.a.cyc,.int .i64 cc.b.num,.int .i64 cc.b.yr,.int .u8 cc.b.half,.int .u8 cc.b.sec,.int .i64 cc.b.cyc,.int .i64 cc.n] 26 (0,0)),pt b_does1 (.cells #[.nilFunc,.func (.func 56) #[] #[],.func (.func 57) #[] #[],.func (.func 58) #[] #[]] 105 (0,0))]) rfl; refine k_blk_panic<|k_seq_panic<|k_seq_panic<|k_blk_panic<|k_seq_panic<|post_panic hf<|?_; exact .inr ⟨e,rfl,playM_err (k:=k+1) (by rw [hcc] at hdob; rw [playK_do hp hdob.1 hdob.2,← hcc]; unfold stepM; rw [if_neg (by omega),if_neg (by omega)]; exact he) (by omega),hS.sub (List.nil_sublist _) |>.noB⟩
        clear hf a; rintro ⟨kv2,gs2⟩ w9 ⟨hS1,S2,hs2,hI2,ht2⟩ a hf; replace hS:=(hS.callX1 hS1 (i:=1) rfl (fun _ h=>h)).eqM (N:=[stA 95 24 b_m2 kv2 gs2,pt b_c4 (.cells #[.int .u8 3,.int .i64 cc.a.num,.int .i64 cc.a.yr,.int .u8 cc.a.half,.int .u8 cc.a.sec,.int .i64 cc.a.cyc,.int .i64 cc.b.num,.int .i64 cc.b.yr,.int .u8 cc.b.half,.int .u8 cc.b.sec,.int .i64 cc.b.cyc,.int .i64 cc.n] 26 (0,0)),pt b_does1 (.cells #[.nilFunc,.func (.func 56) #[] #[],.func (.func 57) #[] #[],.func (.func 58) #[] #[]] 105 (0,0))]) rfl; refine O.nil<|k_blk_normal<|k_seq<|?_
        refine W.regionL (l:=[0,1]) rfl<|ov hf rfl (RunV.addI rfl rfl (by omega))<|?_; clear hf a; intro a hf; refine mv hf rfl ?_; clear hf a; intro a hf; refine O.nil ?_; replace hS:=hS.sl [1,0,1]; refine k_then ⟨(k+1,kv2,gs2,S2),⟨hf.to ⟨rfl,rfl,rfl,rfl,rfl,rfl,(by first | rfl | exact congrArg some (congrArg (Value.int _) (by omega))),trivial⟩,?_,?_,?_,?_,?_⟩,?_⟩
        · exact hS.eqM rfl
        · omega
        · rw [hcc] at hdob; rw [playK_do hp hdob.1 hdob.2,← hcc]; unfold stepM; rw [if_neg (by omega),if_neg (by omega)]; exact hs2
        · exact hI2
        · omega
        · dsimp only; omega
    · have hdob:=hdo
      try simp only [Bool.and_eq_true,Bool.or_eq_true,Bool.and_eq_false_iff,Bool.or_eq_false_iff,decide_eq_true_eq,decide_eq_false_iff_not,Bool.not_eq_true',Bool.not_eq_false',Bool.not_eq_true,Bool.not_eq_false,ne_eq] at hdo
      refine W.skip<|k_blk_normal<|k_seq<|?_
      refine W.regionL (l:=[0,1]) rfl<|ov hf rfl (RunV.addI rfl rfl (by omega))<|?_; clear hf a; intro a hf; refine mv hf rfl ?_; clear hf a; intro a hf; refine O.nil ?_; replace hS:=hS.sl [0,1,1]; refine k_then ⟨(k+1,kvs,gs,S),⟨hf.to ⟨rfl,rfl,rfl,rfl,rfl,rfl,(by first | rfl | exact congrArg some (congrArg (Value.int _) (by omega))),trivial⟩,?_,?_,?_,?_,?_⟩,?_⟩
      · exact hS.eqM rfl
      · omega
      · exact playK_no hp (fun h=>by rw [← hcc] at h; rw [decide_eq_true h.1,h.2] at hdob; cases hdob)
      · exact hI
      · omega
      · dsimp only; omega
  · refine W.exit ?_
    refine k_then_exit<|k_then_exit<|k_blk<|k_seq<|W.seq<|?_
    refine W.regionL (l:=[0,1]) rfl<|mv hf rfl<|?_; clear hf a; intro a hf; refine mv hf rfl ?_; clear hf a; intro a hf; refine nk<|W.ret<|post1 hf rfl (ResOK.tmp rfl)<|?_; obtain rfl:k=l.length:=by omega
    exact .inl ⟨(b_m2,kvs,gs),rfl,(hS.sub (List.Sublist.cons_cons _ (List.nil_sublist _))).noB,S,hp,hI,hz⟩
end Go.Proofs.YtgakdmmmljdpjaaDoor

namespace Go.SL
open Go
section
variable {P:Program} {Q:Exit→Act→World→Prop} {ops:Array Oper} {i:Nat} {rest:List Nat} {a:Act} {w w0:World} {n:Nat} {ds:List Deferred} {L:List (Nat × Value)}
  {d:Nat} {ty t:TypeId} {pos:String} {af:Array Edge} {v u z:Value} {X:Nat→Prop} {B M:List Asr} {x y:Operand} {f:FuncId} {fn:Func} {c:Code} {lv vs:List Value} {R0:World→Prop}
def dfrC (f:FuncId) (vs:List Value):Deferred:={ target:=.fn (.func f) vs.toArray,args:=#[] }
theorem O.deferC {at_:Array TypeId} (hf:Fr a n ds L) (ho:ops[i]? = some ⟨none,.defer ⟨.value y,#[],at_⟩,ty,pos,af,none⟩) (hv:ev L y=some (.func (.func f) #[] vs.toArray))
    (k:∀ a',Fr a' n (dfrC f vs::ds) L→O none P ops Q rest a' w):O none P ops Q (i::rest) a w:=by
  unfold O wpOpsIn
  simp only [ho]
  rw [if_pos (by simp [Region.wanted])]
  refine ⟨fun _ _=>trivial,?_⟩
  have h1:(Oper.semAt (FW none).round a.eval ⟨none,.defer ⟨.value y,#[],at_⟩,ty,pos,af,none⟩).run P w=.ok (.defer (dfrC f vs)) w:=by
    show (execOp a.eval ⟨none,.defer ⟨.value y,#[],at_⟩,ty,pos,af,none⟩).run P w=_
    simp [execOp,resolve,Deferred.ofValue,hf.eval hv,dfrC]
  rw [h1]
  exact k _ ⟨hf.size,by show dfrC f vs::a.defers=_; rw [hf.defers],hf.get⟩
theorem postDC {R:Ending→World→Prop} (hf:Fr a n [dfrC f vs] L) (hi:callOK P f=true) (hc:CallsDIn (FW none) 0 P f vs.toArray .returning w (fun e u' w'=>u'=.returning∧e=.returned (.tuple #[])∧w'=w))
    (h:∀ a',Fr a' n [] L→bodyPost P fn R .ret a' w):bodyPostDIn (FW none) 0 P fn R .ret a w:=by
  show LeavesIn (FW none) 0 P fn a.tmps R a.defers .returning w
  rw [hf.defers]
  refine leavesIn_cons (by simp) (by simp [FW]) (show (invoke (.fn (.func f) vs.toArray) #[]).run P w=.ok (.enter f vs.toArray) w by simpa [invoke] using callOK_enter hi vs.toArray w) (fun _ _=>trivial) ?_
  refine hc.mono (fun e u' w' hh=>?_)
  obtain ⟨rfl,rfl,rfl⟩:=hh
  obtain ⟨_,v,h1,h2⟩:=h { a with defers:=[] } ⟨hf.size,rfl,hf.get⟩
  exact ⟨v,h1,h2⟩
theorem postDP {R:Ending→World→Prop} (hf:Fr a n [dfrC f vs] L) (hi:callOK P f=true) (hc:CallsDIn (FW none) 0 P f vs.toArray (.panicking [⟨v,false,false⟩]) w (fun e u' w'=>u'=.panicking [⟨v,true,false⟩]∧e=.returned (.tuple #[])∧R0 w'))
    (h:∀ w',R0 w'→∀ a',Fr a' n [] L→bodyPost P fn R .ret a' w'):bodyPostDIn (FW none) 0 P fn R (.panic [⟨v,false,false⟩]) a w:=by
  show LeavesIn (FW none) 0 P fn a.tmps R a.defers (.panicking [⟨v,false,false⟩]) w
  rw [hf.defers]
  refine leavesIn_cons (by simp) (by simp [FW]) (show (invoke (.fn (.func f) vs.toArray) #[]).run P w=.ok (.enter f vs.toArray) w by simpa [invoke] using callOK_enter hi vs.toArray w) (fun _ _=>trivial) ?_
  refine hc.mono (fun e u' w' hh=>?_)
  obtain ⟨rfl,rfl,hR⟩:=hh
  obtain ⟨_,v,h1,h2⟩:=h w' hR { a with defers:=[] } ⟨hf.size,rfl,hf.get⟩
  exact ⟨v,h1,h2⟩
theorem recoverPan {r0:Nat} (hf:P.funcs[f]? = some fn) (hb:fn.body=some (.seq (.region r0 #[⟨some d,.call ⟨.builtin .recover,#[],#[]⟩,ty,pos,af,none⟩] false) c)) (hn:fn.ntmps=n) (hl:Nat.ble lv.length n=true) (hd:Nat.blt d n=true)
    (h:∀ a,Fr a n [] ((d,v)::argsL 0 lv)→W none P c (bodyPost P fn (fun e w'=>e=.returned (.tuple #[])∧R0 w')) a w) :
    CallsDIn (FW none) 0 P f lv.toArray (.panicking [⟨v,false,false⟩]) w (fun e u' w'=>u'=.panicking [⟨v,true,false⟩]∧e=.returned (.tuple #[])∧R0 w'):=by
  refine callsDIn_of_wpSIn hf hb trivial (fun c0 cs hm=>wpSIn_seq (wpSIn_region ?_))
  have hF:=Fr.start (l:=lv) (n:=n) (m:=n-lv.toArray.size) rfl (by simpa using hl) rfl
  show wpOpsSIn _ _ _ _ _ [0] _ _ _
  unfold wpOpsSIn
  simp only [List.getElem?_toArray,List.getElem?_cons_zero]
  refine ⟨fun _ _=>trivial,?_⟩
  rw [if_pos (by simp [Region.wanted])]
  have h1:∀ ρ,(execOp ρ ⟨some d,.call ⟨.builtin .recover,#[],#[]⟩,ty,pos,af,none⟩).run P w=.ok .recover w:=fun ρ=>by
    simp [execOp,resolve,invoke,builtin]
  rw [h1]
  have h2:recoverD (c0::cs)=some (v,{ c0 with mode:=.panicking [⟨v,true,false⟩] }::cs):=by simp [recoverD,hm]
  simp only [h2]
  unfold wpOpsSIn
  rw [hn]
  refine wpSIn_of_wpIn rfl ?_
  have h3:=h _ (hF.put hd v)
  refine wpIn_mono h3 (fun e a' w' hq=>?_)
  cases e with
  | normal =>
    obtain ⟨g1,v',g2,g3,g4⟩:=hq
    exact ⟨g1,.panicking [⟨v,true,false⟩],rfl,v',g2,rfl,g3,g4⟩
  | ret =>
    obtain ⟨g1,v',g2,g3,g4⟩:=hq
    exact ⟨g1,.panicking [⟨v,true,false⟩],rfl,v',g2,rfl,g3,g4⟩
  | panic ch =>
    obtain ⟨g1,g2,g3⟩:=hq
    cases g2
  | exit id=>exact hq.elim
  | goto l=>exact hq.elim
  | outgrown=>exact ⟨.returning,by obtain ⟨g1,_⟩:=hq; cases g1⟩
theorem RunV.eqIface {t':TypeId} {tx:TypeId} {vx:Value} (ht:tIface P t=true) (hx:ev L x=some (.iface tx vx)):RunV P n ds L (.binOp .eql t x (.const .nilIface) t') ty w (.bool false) w:=fun a d pos af g hf=>by
  simp only [execOp,hf.eval hx]
  have e0:a.eval (.const .nilIface)=.nilIface:=rfl
  rw [e0]
  have e1:(eqGuard .eql t x (.const .nilIface) (.iface tx vx) .nilIface).run P w=.ok () w:=by simp [eqGuard]
  have e2:(binOp .eql t (.iface tx vx) .nilIface).run P w=.ok (.bool false) w:=by
    unfold tIface at ht
    split at ht
    · rename_i ms hms
      have:∀ d:Nat,(Op.equalIn (d+1) t (.iface tx vx) .nilIface).run P w=.ok false w:=fun d=>by
        simp [Op.equalIn,run_underlying hms]
      simp only [binOp,Op.equal,Op.maxDepth,Sem.run_bind,this 9999,Result.andThen_ok,Sem.run_pure]
    · cases ht
  simp only [Sem.run_bind,e1,e2,Result.andThen_ok,Sem.run_pure]
end
end Go.SL

namespace Go.SL
open Go
def sget (ins:List Bool) (k:Int):Bool:=if k<0 then false else ins.getD k.toNat false
section
variable {r:Option Nat} {P:Program} {ops:Array Oper} {Q:Exit→Act→World→Prop} {a:Act} {w w0:World} {n:Nat} {ds:List Deferred} {L:List (Nat × Value)} {X:Nat→Prop} {B M M':List Asr}
  {d i j b:Nat} {ty t kt:TypeId} {pos:String} {af:Array Edge} {rest:List Nat} {x y z:Operand} {ins:List Bool} {k:Int}
end
end Go.SL

namespace Go.SL
open Go
section
variable {r:Option Nat} {P:Program} {ops:Array Oper} {Q:Exit→Act→World→Prop} {a:Act} {w w0:World} {n n':Nat} {ds:List Deferred} {L:List (Nat × Value)} {X:Nat→Prop} {B M M':List Asr}
  {d i j b:Nat} {op:Op} {ty t e:TypeId} {pos:String} {af:Array Edge} {rest:List Nat} {x y z:Operand} {f:FuncId}
def Exit.stl (Q:Exit→Act→World→Prop):Exit→Act→World→Prop
  | .goto _,_,_=>False
  | e,a,w=>Q e a w
end
end Go.SL

namespace Go.SL
open Go
section
variable {P:Program} {w:World} {n:Nat} {ds:List Deferred} {L:List (Nat × Value)} {ty t e:TypeId} {x:Operand} {b:Nat}
theorem RunV.sliceAll {len sz o:Nat} (ha:tArr P t=some (len,e)) (hs:tSize P e=some sz) (hx:ev L x=some (.pointer (some ⟨b,o,none⟩))) :
    RunV P n ds L (.slice t x none none none) ty w (.slice (some ⟨b,o,none⟩) len len) w:=fun a d pos af g hf=>by
  have hu:=run_underlying (w:=w) (und_arr ha)
  simp only [execOp,hf.eval hx,Option.map_none]
  refine run_v ?_
  have hsz:=run_sizeOf (w:=w) hs
  have e1:(if len=0 then (⟨b,o,none⟩:Addr) else Addr.add ⟨b,o,none⟩ (0*sz))=⟨b,o,none⟩:=by
    split
    · rfl
    · exact (add_none _ _ _).trans (by simp)
  simp only [Instr.sliceAt,Instr.sureAddr,Instr.sliceBounds,Sem.run_bind,Sem.run_pure,Result.andThen,hu,hsz,Option.isSome_none,e1,Nat.sub_zero]
end
end Go.SL

namespace Go.SL
open Go
def ordsL:List Int:=[65,66,67,68,69,70,71,72,74,75,76,77,78,79,80,81,82,83,84,85,86,87,88,89,90]
def runes (l:List Int):List Value:=l.map (Value.int .i32)
def ordT (ty:TypeId):Obj:=.cells #[.int .i32 65,.int .i32 66,.int .i32 67,.int .i32 68,.int .i32 69,.int .i32 70,.int .i32 71,.int .i32 72,.int .i32 74,.int .i32 75,.int .i32 76,.int .i32 77,.int .i32 78,.int .i32 79,.int .i32 80,.int .i32 81,.int .i32 82,.int .i32 83,.int .i32 84,.int .i32 85,.int .i32 86,.int .i32 87,.int .i32 88,.int .i32 89,.int .i32 90] ty (0,0)
def ordA:Asr:=⟨fun b=>b=0,fun h=>∃ ty,h 0=some (ordT ty),fun h h' hk ⟨ty,hh⟩=>⟨ty,(hk 0 rfl).trans hh⟩⟩
theorem runes_get {l:List Int} {j:Nat} (h:j<l.length):(runes l)[j]? = some (.int .i32 (l.getD j 0)):=by
  simp [runes,List.getD_eq_getElem?_getD,List.getElem?_eq_getElem h]
def plK (v:Int):Nat→List Int→Int
  | _,[]=>-1
  | k,x::t=>if v=x then (k:Int) else plK v (k+1) t
def placeM (v:Int):Int:=plK v 0 ordsL
theorem plK_go {v:Int}:∀ {l:List Int} {k:Nat} (j:Nat),(∀ i,i<j→v≠l.getD i 0)→j≤l.length→plK v k l=plK v (k+j) (l.drop j)
  | _,_,0,_,_=>rfl
  | [],_,j+1,_,h=>by simp at h
  | x::t,k,j+1,hn,h=>by
    have h0:=hn 0 (by omega)
    simp only [List.getD_cons_zero] at h0
    simp only [plK,if_neg h0,List.drop_succ_cons]
    rw [plK_go j (fun i hi=>by have:=hn (i+1) (by omega); simpa using this) (by simpa using h),Nat.add_assoc,Nat.add_comm 1 j]
theorem plK_hit {v:Int} {l:List Int} {j:Nat} (hn:∀ i,i<j→v≠l.getD i 0) (hj:j<l.length) (h:v=l.getD j 0):plK v 0 l=(j:Int):=by
  rw [plK_go j hn (by omega)]
  rw [List.drop_eq_getElem_cons hj]
  simp only [List.getD_eq_getElem?_getD,List.getElem?_eq_getElem hj,Option.getD_some] at h
  simp only [plK,if_pos h,Nat.zero_add]
theorem plK_none {v:Int} {l:List Int} (hn:∀ i,i<l.length→v≠l.getD i 0):plK v 0 l=-1:=by
  rw [plK_go l.length hn (Nat.le_refl _),List.drop_length]; rfl
def okD (d:Dg):Bool :=
  if d.num≠0 then decide (d=⟨d.num,0,0,0,0⟩)&&decide (d.num>0)&&decide (d.num≤15396335)
  else decide (d.yr≥1800)&&decide (d.yr≤2099)&&(decide (placeM (IntKind.i32.wrap d.half)≥0)&&decide (placeM (IntKind.i32.wrap d.half)<24))&&decide (placeM (IntKind.i32.wrap d.sec)≥0)&&decide (d.cyc≥0)&&decide (d.cyc≤619)
def okC (c:Ch):Bool :=
  if c.kind=1 then okD c.a&&decide (c.a.num=0)&&decide (c.b=default)&&decide (c.n=0)
  else if c.kind=2 then okD c.a&&okD c.b&&decide (c.n=0)&&!decide (c.a=c.b)
  else if c.kind=3 then okD c.a&&okD c.b&&decide (c.n=0)&&decide (c.b.num>0)
  else if c.kind=4 then decide (c.a=default)&&decide (c.b=default)&&decide (c.n≥0)
  else false
def undoK (l:List Ch):Nat→Except Int (List Bool)
  | 0=>.ok (List.replicate l.length false)
  | k+1=>match undoK l k with
    | .error e=>.error e
    | .ok us =>
      if (l.getD k default).kind≠4 then .ok us else
      match playM (l.take k) us with
      | .error e=>.error e
      | .ok _ =>
        if (l.getD k default).n<(k:Int) then
          if (l.getD (l.getD k default).n.toNat default).kind≠4∧us.getD (l.getD k default).n.toNat false=false then
            match playM (l.take k) (us.set (l.getD k default).n.toNat true) with
            | .error _=>.error 36
            | .ok _=>.ok (us.set (l.getD k default).n.toNat true)
          else .error 36
        else .error 6
def histM (l:List Ch):Except Int (List PG × List Bool) :=
  if l.length>500 then .error 4
  else if l.all okC then
    match undoK l l.length with
    | .error e=>.error e
    | .ok us=>match playM l us with
      | .error e=>.error e
      | .ok S=>.ok (S,us)
  else .error 8
section
variable {l:List Ch} {k:Nat} {us:List Bool} {e:Int}
theorem undoK_err (h:undoK l k=.error e):∀ m,undoK l (k+m)=.error e
  | 0=>h
  | m+1=>by
    have:=undoK_err h m
    show undoK l ((k+m)+1)=_
    simp only [undoK,this]
theorem histM_err (h1:¬ l.length>500) (h2:l.all okC=true) (h:undoK l k=.error e) (hk:k≤l.length):histM l=.error e:=by
  have:=undoK_err h (l.length-k)
  rw [show k+(l.length-k)=l.length from by omega] at this
  unfold histM
  rw [if_neg h1,if_pos h2,this]
end
section
variable {w0 w:World} {X:Nat→Prop} {B M:List Asr} {p:Asr} {P:Program} {n:Nat} {ds:List Deferred} {L:List (Nat × Value)} {ty t:TypeId} {x:Operand} {v:Value}
theorem St.lendA (hS:St w w noX B M) (h:Lent w p):St w w noX (p::B) M :=
  ⟨hS.os,hS.tape,hS.output,hS.size,hS.old,hS.sep,fun q hq=>by
    rcases List.mem_cons.1 hq with rfl | hq
    · exact ⟨h.1,fun b hb=>⟨h.2 b hb,fun h=>h⟩⟩
    · exact hS.bor q hq⟩
theorem St.bptO (h:St w0 w X B M) {i:Nat} (hi:B[i]? = some ordA):Lent w ordA:=by
  have h1:ordA.holds (hp w):=h.bat hi
  refine ⟨h1,fun k hk=>?_⟩
  have hk:k=0:=hk
  obtain ⟨ty,h2⟩:=h1
  have h3:w.heap[0]? = some (ordT ty):=h2
  subst hk
  exact (Array.getElem?_eq_some_iff.1 h3).1
theorem ord_rd (h:Lent w ordA):rdOK (hp w) 1 (.slice (some ⟨0,0,none⟩) 25 25) 25 (runes ordsL):=by
  obtain ⟨ty,h1⟩:=h.1
  replace h1:w.heap[0]? = some (ordT ty):=h1
  refine ⟨by decide,by unfold maxLen; omega,some ⟨0,0,none⟩,25,rfl,fun _=>⟨_,_,_,_,rfl,rfl,h1,fun j u hu=>?_⟩⟩
  have hj:j<(runes ordsL).length:=(List.getElem?_eq_some_iff.1 hu).1
  have:(#[Value.int .i32 65,.int .i32 66,.int .i32 67,.int .i32 68,.int .i32 69,.int .i32 70,.int .i32 71,.int .i32 72,.int .i32 74,.int .i32 75,.int .i32 76,.int .i32 77,.int .i32 78,.int .i32 79,.int .i32 80,.int .i32 81,.int .i32 82,.int .i32 83,.int .i32 84,.int .i32 85,.int .i32 86,.int .i32 87,.int .i32 88,.int .i32 89,.int .i32 90]:Array Value)=(runes ordsL).toArray:=rfl
  rw [this]
  simpa using hu
theorem RunV.tAssert {tx ta:TypeId} {fs:Array Field} (hu:P.underlying ta=some (.struct fs)) (hx:ev L x=some (.iface ta v)):RunV P n ds L (.typeAssert x tx ta true) ty w (.tuple #[v,.bool true]) w:=fun a d pos af g hf=>by
  simp only [execOp,hf.eval hx]
  refine run_v ?_
  unfold Instr.typeAssert
  simp only [Sem.run_bind,run_underlying hu,Result.andThen]
  simp
theorem take_rd {h:Hp} {v:Value} {l:List Ch} {k:Nat} (hr:rdOK h 12 v l.length (encs eC l)) (hf:vfit v) (hk:k≤l.length):rdOK h 12 (vsub 12 v 0 (k:Int)) (l.take k).length (encs eC (l.take k)):=by
  have e:lsub l 0 (k:Int)=l.take k:=by simp [lsub]
  have:=(rdEOK.sub (enc:=eC) (l:=l) ⟨hr,hf⟩ eC_len (show sbd 0 (k:Int) (l.length:Int) from ⟨by omega,by omega,by omega⟩)).1
  rw [e] at this
  exact this
theorem okC_kind {c:Ch} (h:okC c=true):1≤c.kind∧c.kind≤4:=by
  unfold okC at h
  split at h
  · omega
  · split at h
    · omega
    · split at h
      · omega
      · split at h
        · omega
        · cases h
theorem okC_n {c:Ch} (h:okC c=true) (hk:c.kind=4):0≤c.n:=by
  unfold okC at h
  rw [if_neg (by omega),if_neg (by omega),if_neg (by omega),if_pos hk] at h
  simp only [Bool.and_eq_true,decide_eq_true_eq] at h
  exact h.2
theorem all_getD {l:List Ch} (h:∀ j,j<l.length→okC (l.getD j default)=true):l.all okC=true:=by
  rw [List.all_eq_true]
  intro x hx
  obtain ⟨j,hj,rfl⟩:=List.mem_iff_getElem.1 hx
  have:=h j hj
  simpa [List.getD_eq_getElem?_getD,List.getElem?_eq_getElem hj] using this
theorem take_getD {l:List Ch} {k j:Nat} (h:j<k):(l.take k).getD j default=l.getD j default:=by
  simp only [List.getD_eq_getElem?_getD,List.getElem?_take_of_lt h]
theorem kinds_take {l:List Ch} {k:Nat} (h:∀ j,j<l.length→okC (l.getD j default)=true):∀ j,j<(l.take k).length→1≤((l.take k).getD j default).kind∧((l.take k).getD j default).kind≤4:=fun j hj=>by
  rw [List.length_take] at hj
  rw [take_getD (by omega)]
  exact okC_kind (h j (by omega))
theorem kinds_all {l:List Ch} (h:∀ j,j<l.length→okC (l.getD j default)=true):∀ j,j<l.length→1≤(l.getD j default).kind∧(l.getD j default).kind≤4:=fun j hj=>okC_kind (h j hj)
theorem histM_bad {l:List Ch} {k:Nat} (h1:¬ l.length>500) (hk:k<l.length) (h:okC (l.getD k default)=false):histM l=.error 8:=by
  unfold histM
  rw [if_neg h1,if_neg]
  intro ha
  rw [List.all_eq_true] at ha
  have:=ha (l.getD k default) (by rw [List.getD_eq_getElem?_getD,List.getElem?_eq_getElem hk]; exact List.getElem_mem _)
  rw [this] at h; cases h
section
variable {l:List Ch} {k:Nat} {us:List Bool} {e:Int} {S:List PG}
theorem undo_skip (h:undoK l k=.ok us) (hk:(l.getD k default).kind≠4):undoK l (k+1)=.ok us:=by simp only [undoK,h]; rw [if_pos hk]
theorem undo_play (h:undoK l k=.ok us) (hk:(l.getD k default).kind=4) (hp:playM (l.take k) us=.error e):undoK l (k+1)=.error e:=by
  simp only [undoK,h]; rw [if_neg (by omega)]; simp only [hp]
theorem undo_n (h:undoK l k=.ok us) (hk:(l.getD k default).kind=4) (hp:playM (l.take k) us=.ok S) (hn:¬ (l.getD k default).n<(k:Int)):undoK l (k+1)=.error 6:=by
  simp only [undoK,h]; rw [if_neg (by omega)]; simp only [hp]; rw [if_neg hn]
theorem undo_state (h:undoK l k=.ok us) (hk:(l.getD k default).kind=4) (hp:playM (l.take k) us=.ok S) (hn:(l.getD k default).n<(k:Int))
    (hs:¬ ((l.getD (l.getD k default).n.toNat default).kind≠4∧us.getD (l.getD k default).n.toNat false=false)):undoK l (k+1)=.error 36:=by
  simp only [undoK,h]; rw [if_neg (by omega)]; simp only [hp]; rw [if_pos hn,if_neg hs]
theorem undo_again (h:undoK l k=.ok us) (hk:(l.getD k default).kind=4) (hp:playM (l.take k) us=.ok S) (hn:(l.getD k default).n<(k:Int))
    (hs:(l.getD (l.getD k default).n.toNat default).kind≠4∧us.getD (l.getD k default).n.toNat false=false) (hp2:playM (l.take k) (us.set (l.getD k default).n.toNat true)=.error e):undoK l (k+1)=.error 36:=by
  simp only [undoK,h]; rw [if_neg (by omega)]; simp only [hp]; rw [if_pos hn,if_pos hs]; simp only [hp2]
theorem undo_ok {S2:List PG} (h:undoK l k=.ok us) (hk:(l.getD k default).kind=4) (hp:playM (l.take k) us=.ok S) (hn:(l.getD k default).n<(k:Int))
    (hs:(l.getD (l.getD k default).n.toNat default).kind≠4∧us.getD (l.getD k default).n.toNat false=false) (hp2:playM (l.take k) (us.set (l.getD k default).n.toNat true)=.ok S2):undoK l (k+1)=.ok (us.set (l.getD k default).n.toNat true):=by
  simp only [undoK,h]; rw [if_neg (by omega)]; simp only [hp]; rw [if_pos hn,if_pos hs]; simp only [hp2]
theorem hist_play (h1:¬ l.length>500) (h2:l.all okC=true) (h:undoK l l.length=.ok us) (hp:playM l us=.error e):histM l=.error e:=by
  unfold histM; rw [if_neg h1,if_pos h2,h]; simp only [hp]
theorem hist_ok (h1:¬ l.length>500) (h2:l.all okC=true) (h:undoK l l.length=.ok us) (hp:playM l us=.ok S):histM l=.ok (S,us):=by
  unfold histM; rw [if_neg h1,if_pos h2,h]; simp only [hp]
theorem hist_many (h1:l.length>500):histM l=.error 4:=by unfold histM; rw [if_pos h1]
end
def errOf {T:Type}:Except Int T→Int
  | .error e=>e
  | .ok _=>0
def histA (b1 b2 b3 b4:Nat) (v1 v2 v3:Value) (ud:Bool):Asr:=bigA [pt b1 (.cells #[v1] 71 (0,0)),pt b2 (.cells #[v2] 51 (0,0)),pt b3 (.cells #[v3] 28 (0,0)),pt b4 (.cells #[.bool ud] 4 (0,0))]
def HistR (l:List Ch) (w0:World) (g:Value × Value × Nat × List (Dg × Value) × List Grp) (w:World):Prop :=
  match histM l with
  | .error _=>g.1=.map none∧g.2.1=.slice none 0 0∧St w0 w noX [] []
  | .ok (S,us)=>g.1=.map (some g.2.2.1)∧St w0 w noX [] [stA 95 24 g.2.2.1 g.2.2.2.1 g.2.2.2.2,sl 4 1 g.2.1 us.length (bools us)]∧IsS g.2.2.2.1 g.2.2.2.2 S
theorem HistR.err {l:List Ch} {w0 w:World} {e:Int} (h:histM l=.error e) (hS:St w0 w noX [] []):HistR l w0 (.map none,.slice none 0 0,0,[],[]) w:=by
  unfold HistR; rw [h]; exact ⟨rfl,rfl,hS⟩
theorem postDN {Q':Ending→World→Prop} {a:Act} {fn:Func} (hf:Fr a n [] L) (h:bodyPost P fn Q' .ret a w):bodyPostDIn (FW none) 0 P fn Q' .ret a w:=by
  obtain ⟨_,v,h1,h2⟩:=h
  show LeavesIn (FW none) 0 P fn a.tmps Q' a.defers .returning w
  rw [hf.defers]
  exact ⟨v,h1,h2⟩
end
end Go.SL
namespace Go.Proofs.YtgakdmmmljdpjaaDoor
open Go Go.SL
theorem eqD {P:Program} (hP:P=Tryd.prog) {w:World} {n:Nat} {ds:List Deferred} {L:List (Nat × Value)} {ty t2:TypeId} {x y:Operand} (d d':Dg) (hg:P.eqGuardType P.depth 24=false) (hx:ev L x=some (dV d)) (hy:ev L y=some (dV d')):RunV P n ds L (.binOp .eql 24 x y t2) ty w (.bool (decide (d=d'))) w:=fun a dd pos af g hf=>by
  subst hP
  simp only [execOp,hf.eval hx,hf.eval hy]
  have h:=keyD.eqk d d' w trivial trivial
  have e1:(eqGuard .eql 24 x y (dV d) (dV d')).run Tryd.prog w=.ok () w:=by
    unfold dV; simp [eqGuard,run_program,hg]
  have e2:(binOp .eql 24 (dV d) (dV d')).run Tryd.prog w=.ok (.bool (decide (d=d'))) w:=by
    unfold dV at h ⊢
    simp only [binOp,Sem.run_bind,h,Result.andThen_ok,Sem.run_pure]
  simp only [Sem.run_bind,e1,e2,Result.andThen_ok,Sem.run_pure]
theorem neD {P:Program} (hP:P=Tryd.prog) {w:World} {n:Nat} {ds:List Deferred} {L:List (Nat × Value)} {ty t2:TypeId} {x y:Operand} (d d':Dg) (hg:P.eqGuardType P.depth 24=false) (hx:ev L x=some (dV d)) (hy:ev L y=some (dV d')):RunV P n ds L (.binOp .neq 24 x y t2) ty w (.bool (!decide (d=d'))) w:=fun a dd pos af g hf=>by
  subst hP
  simp only [execOp,hf.eval hx,hf.eval hy]
  have h:=keyD.eqk d d' w trivial trivial
  have e1:(eqGuard .neq 24 x y (dV d) (dV d')).run Tryd.prog w=.ok () w:=by
    unfold dV; simp [eqGuard,run_program,hg]
  have e2:(binOp .neq 24 (dV d) (dV d')).run Tryd.prog w=.ok (.bool (!decide (d=d'))) w:=by
    unfold dV at h ⊢
    simp only [binOp,Sem.run_bind,h,Result.andThen_ok,Sem.run_pure]
  simp only [Sem.run_bind,e1,e2,Result.andThen_ok,Sem.run_pure]
theorem okI (d:Dg):decide ((if okD d then (0:Int) else 8)=0)=okD d:=by cases okD d <;> rfl
theorem okI_ne {c:Ch} (h:(if okC c then (0:Int) else 8)≠0):okC c=false:=by
  cases hc:okC c with
  | false=>rfl
  | true=>rw [hc] at h; exact absurd rfl h
theorem okI_eq {c:Ch} (h:¬ (if okC c then (0:Int) else 8)≠0):okC c=true:=by
  cases hc:okC c with
  | true=>rfl
  | false=>rw [hc] at h; exact absurd (by decide) h
theorem eqGuard24:Tryd.prog.eqGuardType Tryd.prog.depth 24=false:=by kernel_rfl
end Go.Proofs.YtgakdmmmljdpjaaDoor

namespace Go.SL
open Go
def okS (S:List PG):Prop:=∀ p ∈ S,p.1≠[]∧∀ d ∈ p.1,okD d=true
theorem findG_mem {S:List PG} {d:Dg} {p:PG} (h:findG S d=some p):p ∈ S∧d ∈ p.1:=by
  unfold findG at h
  exact ⟨List.mem_of_find?_eq_some h,by simpa using List.find?_some h⟩
theorem okC_a {c:Ch} (h:okC c=true) (hk:c.kind≠4):okD c.a=true:=by
  unfold okC at h
  by_cases h1:c.kind=1
  · rw [if_pos h1] at h; simp only [Bool.and_eq_true] at h; exact h.1.1.1
  · by_cases h2:c.kind=2
    · rw [if_neg h1,if_pos h2] at h; simp only [Bool.and_eq_true] at h; exact h.1.1.1
    · by_cases h3:c.kind=3
      · rw [if_neg h1,if_neg h2,if_pos h3] at h; simp only [Bool.and_eq_true] at h; exact h.1.1.1
      · rw [if_neg h1,if_neg h2,if_neg h3,if_neg hk] at h; cases h
theorem okC_b {c:Ch} (h:okC c=true) (hk:c.kind=2∨c.kind=3):okD c.b=true:=by
  unfold okC at h
  split at h
  · omega
  · split at h
    · simp only [Bool.and_eq_true] at h; exact h.1.1.2
    · split at h
      · simp only [Bool.and_eq_true] at h; exact h.1.1.2
      · split at h
        · omega
        · cases h
theorem okS_step {S S':List PG} {c:Ch} (h:stepM S c=.ok S') (hS:okS S) (hc:okC c=true) (hk:1≤c.kind∧c.kind≤4∧c.kind≠4):okS S':=by
  unfold stepM at h
  split at h
  · unfold addM at h
    split at h
    · cases h
    · cases h
      intro p hp
      rcases List.mem_cons.1 hp with rfl | hp
      · exact ⟨by simp,fun d hd=>by rw [List.mem_singleton.1 hd]; exact okC_a hc hk.2.2⟩
      · exact hS p hp
  · split at h
    · unfold joinM at h
      split at h
      · rename_i x y hx hy
        split at h
        · cases h
        · cases h
          intro p hp
          rcases List.mem_cons.1 hp with rfl | hp
          · have h1:=hS x (findG_mem hx).1
            have h2:=hS y (findG_mem hy).1
            unfold merged
            split
            · exact ⟨by simp [h1.1,h2.1],fun d hd=>(List.mem_append.1 hd).elim (h2.2 d) (h1.2 d)⟩
            · exact ⟨by simp [h1.1,h2.1],fun d hd=>(List.mem_append.1 hd).elim (h1.2 d) (h2.2 d)⟩
          · exact hS p ((List.mem_filter.1 hp).1)
      · cases h
    · unfold nameM at h
      split at h
      · cases h
      · rename_i x hx
        split at h
        · cases h
        · split at h
          · cases h
          · cases h
            intro p hp
            rcases List.mem_cons.1 hp with rfl | hp
            · have h1:=hS x (findG_mem hx).1
              refine ⟨by simp,fun d hd=>(List.mem_append.1 hd).elim (h1.2 d) (fun hd=>?_)⟩
              rw [List.mem_singleton.1 hd]
              exact okC_b hc (.inr (by omega))
            · exact hS p ((List.mem_filter.1 hp).1)
theorem okS_playK {l:List Ch} {us:List Bool} (hok:l.all okC=true) (hkd:∀ j,j<l.length→1≤(l.getD j default).kind∧(l.getD j default).kind≤4):∀ {k:Nat} {S:List PG},k≤l.length→playK l us k=.ok S→okS S
  | 0,S,_,h=>by cases h; intro p hp; cases hp
  | k+1,S,hk,h=>by
    unfold playK at h
    split at h
    · cases h
    · rename_i S0 h0
      have ih:=okS_playK hok hkd (by omega) h0
      split at h
      · rename_i hc
        refine okS_step h ih ?_ ⟨(hkd k (by omega)).1,(hkd k (by omega)).2,hc.1⟩
        rw [List.all_eq_true] at hok
        exact hok _ (by rw [List.getD_eq_getElem?_getD,List.getElem?_eq_getElem (by omega:k<l.length)]; exact List.getElem_mem _)
      · cases h; exact ih
theorem tot_part (f:PG→Bool):∀ S:List PG,totS S=totS (S.filter f)+totS (S.filter fun g=>!f g)
  | []=>rfl
  | g::t=>by
    have ih:=tot_part f t
    simp only [List.filter_cons]
    cases f g <;> simp only [Bool.not_true,Bool.not_false,if_true,Bool.false_eq_true,if_false,totS,List.map_cons,List.sum_cons] at ih ⊢ <;> omega
theorem tot_mem {p:PG}:∀ {S:List PG},p ∈ S→p.1.length≤totS S
  | g::t,h=>by
    simp only [totS,List.map_cons,List.sum_cons]
    rcases List.mem_cons.1 h with rfl | h
    · omega
    · have:=tot_mem h
      simp only [totS] at this
      omega
theorem tot_cons (g:PG) (t:List PG):totS (g::t)=g.1.length+totS t:=by simp only [totS,List.map_cons,List.sum_cons]
theorem tot_mem2 {p q:PG} (hne:p≠q):∀ {S:List PG},p ∈ S→q ∈ S→p.1.length+q.1.length≤totS S
  | g::t,h,h'=>by
    rw [tot_cons]
    by_cases h1:p=g
    · by_cases h2:q=g
      · exact absurd (h1.trans h2.symm) hne
      · have:=tot_mem ((List.mem_cons.1 h').resolve_left h2)
        rw [← h1]; omega
    · have hp:=(List.mem_cons.1 h).resolve_left h1
      by_cases h2:q=g
      · have:=tot_mem hp
        rw [← h2]; omega
      · have:=tot_mem2 hne hp ((List.mem_cons.1 h').resolve_left h2)
        omega
theorem tot_step {S S':List PG} {c:Ch} (h:stepM S c=.ok S'):totS S'≤totS S+1:=by
  unfold stepM at h
  split at h
  · unfold addM at h
    split at h
    · cases h
    · cases h
      simp only [totS,List.map_cons,List.sum_cons,List.length_singleton]
      omega
  · split at h
    · unfold joinM at h
      split at h
      · rename_i x y hx hy
        split at h
        · cases h
        · rename_i hne
          cases h
          have hx:=findG_mem hx
          have hy:=findG_mem hy
          have hp:=tot_part (fun g=>!decide (c.b ∈ g.1)&&!decide (c.a ∈ g.1)) S
          have h2:=tot_mem2 (fun e=>hne (.inl e)) (S:=S.filter fun g=>!(!decide (c.b ∈ g.1)&&!decide (c.a ∈ g.1))) (List.mem_filter.2 ⟨hx.1,by simp [hx.2]⟩) (List.mem_filter.2 ⟨hy.1,by simp [hy.2]⟩)
          have hm:(merged x y).1.length=x.1.length+y.1.length:=by unfold merged; split <;> simp only [List.length_append] <;> omega
          simp only [totS,List.map_cons,List.sum_cons] at hp h2 ⊢
          omega
      · cases h
    · unfold nameM at h
      split at h
      · cases h
      · rename_i x hx
        split at h
        · cases h
        · split at h
          · cases h
          · cases h
            have hx:=findG_mem hx
            have hp:=tot_part (fun g=>!decide (c.a ∈ g.1)) S
            have h2:=tot_mem (p:=x) (S:=S.filter fun g=>!(!decide (c.a ∈ g.1))) (List.mem_filter.2 ⟨hx.1,by simp [hx.2]⟩)
            simp only [totS,List.map_cons,List.sum_cons,List.length_append,List.length_singleton] at hp h2 ⊢
            omega
theorem tot_playK {l:List Ch} {us:List Bool}:∀ {k:Nat} {S:List PG},playK l us k=.ok S→totS S≤k
  | 0,S,h=>by cases h; exact Nat.le_refl _
  | k+1,S,h=>by
    unfold playK at h
    split at h
    · cases h
    · rename_i S0 h0
      have ih:=tot_playK h0
      split at h
      · have:=tot_step h; omega
      · cases h; omega
end Go.SL

namespace Go.SL
open Go
theorem getD_set_ne {us:List Bool} {n k:Nat} (h:n≠k):(us.set n true).getD k false=us.getD k false:=by
  simp [List.getD_eq_getElem?_getD,List.getElem?_set,h]
theorem playK_congr {l l':List Ch} {us us':List Bool}:∀ {k:Nat},(∀ j,j<k→l.getD j default=l'.getD j default)→(∀ j,j<k→us.getD j false=us'.getD j false)→playK l us k=playK l' us' k
  | 0,_,_=>rfl
  | k+1,h1,h2=>by
    have h:=playK_congr (k:=k) (fun j hj=>h1 j (by omega)) (fun j hj=>h2 j (by omega))
    simp only [playK,h,h1 k (by omega),h2 k (by omega)]
def mapOk {T U:Type} (f:T→U):Except Int T→Except Int U
  | .error e=>.error e
  | .ok x=>.ok (f x)
theorem okC_ns {l:List Ch} (h:l.all okC=true):∀ j,j<l.length→(l.getD j default).kind=4→0≤(l.getD j default).n:=fun j hj h4=>by
  rw [List.all_eq_true] at h
  exact okC_n (h _ (by rw [List.getD_eq_getElem?_getD,List.getElem?_eq_getElem hj]; exact List.getElem_mem _)) h4
def liveK (l:List Ch) (us:List Bool):Nat→List Ch
  | 0=>[]
  | k+1=>if (l.getD k default).kind≠4∧us.getD k false=false then liveK l us k++[l.getD k default] else liveK l us k
theorem liveK_len (l:List Ch) (us:List Bool):∀ k,(liveK l us k).length≤k
  | 0=>Nat.le_refl _
  | k+1=>by
    have:=liveK_len l us k
    simp only [liveK]
    split
    · rw [List.length_append,List.length_singleton]; omega
    · omega
def runL:List PG→List Ch→Except Int (List PG)
  | S,[]=>.ok S
  | S,c::t=>match stepM S c with
    | .error e=>.error e
    | .ok S'=>runL S' t
theorem runL_app:∀ {cs:List Ch} {S:List PG} {c:Ch},runL S (cs++[c])=(match runL S cs with | .error e=>.error e | .ok S'=>stepM S' c)
  | [],S,c=>by simp only [List.nil_append,runL]; cases stepM S c <;> rfl
  | x::t,S,c=>by
    simp only [List.cons_append,runL]
    cases stepM S x with
    | error e=>rfl
    | ok S'=>exact runL_app
theorem playK_live (l:List Ch) (us:List Bool):∀ k,playK l us k=runL [] (liveK l us k)
  | 0=>rfl
  | k+1=>by
    have ih:=playK_live l us k
    by_cases h:(l.getD k default).kind≠4∧us.getD k false=false
    · rw [show liveK l us (k+1)=liveK l us k++[l.getD k default] from if_pos h,runL_app,← ih]
      cases hq:playK l us k with
      | error e=>simp only [playK,hq]
      | ok S=>exact playK_do hq h.1 h.2
    · rw [show liveK l us (k+1)=liveK l us k from if_neg h,← ih]
      cases hq:playK l us k with
      | error e=>simp only [playK,hq]
      | ok S=>exact playK_no hq h
section
variable {l:List Ch} {S:List PG} {us:List Bool} {n:Nat}
def undoC (n:Nat):Ch:=⟨4,default,default,(n:Int)⟩
theorem all_snoc {c:Ch} (h:l.all okC=true) (hc:okC c=true):(l++[c]).all okC=true:=by simp [List.all_append,h,hc]
end
end Go.SL

namespace Go.SL
open Go Go.Proofs Go.Shelf Go.RowKit Go.Sort Go.Lib
def srtF {T:Type} (lt:T→T→Bool) (l:List T):List T:=l.mergeSort fun x y=>!lt y x
section
variable {T:Type} [Inhabited T] {E:T→List Value} {k:Nat}
end
end Go.SL

namespace Go.SL
open Go Go.Sort
def Rup {α:Type} (n:Nat):Result α→Prop
  | .ok _ w=>n≤w.drawn
  | .halt _ w=>n≤w.drawn
theorem Rup.le {α:Type} {n n':Nat} {r:Result α} (h:Rup n' r) (hn:n≤n'):Rup n r:=by cases r <;> exact Nat.le_trans hn h
def Gup (n:Nat):GStep→Prop
  | .go _ w _=>n≤w.drawn
  | .comm _ _ _ _ w _=>n≤w.drawn
  | .spawn _ _ w _=>n≤w.drawn
  | .count _ w _=>n≤w.drawn
  | .timer _ _ w _=>n≤w.drawn
  | .alone _ _ w _=>n≤w.drawn
  | .newcoro _ _ _ w _=>n≤w.drawn
  | .coroswitch _ _ _ w _=>n≤w.drawn
  | .collect _ w _=>n≤w.drawn
  | .watch _ w _=>n≤w.drawn
  | .ended _ _ _=>True
theorem Gup.after {n:Nat} {es:Array Event} {g:GStep} (h:Gup n g):Gup n (GStep.after es g):=by cases g <;> exact h
theorem Gup.le {n n':Nat} {g:GStep} (h:Gup n' g) (hn:n≤n'):Gup n g:=by cases g <;> first | trivial | exact Nat.le_trans hn h
def Sup (n:Nat):Stepped→Prop
  | .next m=>n≤m.world.drawn
  | .ended _ _=>True
theorem Gup.elim {α:Type} {n:Nat} {o:Option α} {a:GStep} {f:α→GStep} (ha:Gup n a) (hf:∀ x,Gup n (f x)):Gup n (o.elim a f):=by cases o <;> first | exact ha | exact hf _
theorem Sup.le {n n':Nat} {g:Stepped} (h:Sup n' g) (hn:n≤n'):Sup n g:=by cases g <;> first | trivial | exact Nat.le_trans hn h
def Mup (n:Nat):Move→Prop
  | .goroutine m _=>n≤m.world.drawn
  | .machine s _=>Sup n s
theorem Mup.le {n n':Nat} {g:Move} (h:Mup n' g) (hn:n≤n'):Mup n g:=by
  cases g with
  | goroutine=>exact Nat.le_trans hn h
  | machine s _=>exact Sup.le (n':=n') h hn
end Go.SL

namespace Det
def fieldOK (W H:Int) (zs:List Int):Prop :=
  1≤W∧W≤100∧1≤H∧H≤100∧(zs.length:Int)=W*H∧∀ j,j<zs.length→-4294967296≤zs.getD j 0∧zs.getD j 0≤4294967296
def okNb (W H x y:Nat) (u v:Int):Bool :=
  !((((decide (u<(0:Int))||decide (u≥(W:Int)))||decide (v<(0:Int)))||decide (v≥(H:Int)))||(decide (u=(x:Int))&&decide (v=(y:Int))))
def nbIn (W H x y:Nat) (v:Int):Nat→List Int
  | 0=>[]
  | l+1=>nbIn W H x y v l++(if okNb W H x y ((x:Int)-1+(l:Int)) v then [v*(W:Int)+((x:Int)-1+(l:Int))] else [])
def nbOut (W H x y:Nat):Nat→List Int
  | 0=>[]
  | k+1=>nbOut W H x y k++nbIn W H x y ((y:Int)-1+(k:Int)) 3
def nb (W H i:Nat):List Int:=nbOut W H (i % W) (i/W) 3
def marks (n:Nat) (l:List Int):Nat→List Bool
  | 0=>List.replicate n false
  | k+1=>(marks n l k).set (Int.toNat (l.getD k 0)) true
def sameF (a b:Int) (zs:List Int) (c d:Int) (ys:List Int):Bool:=decide (a=c∧b=d∧zs=ys)
theorem all_snoc {p:Nat→Prop} {k:Nat} (h:∀ j,j<k→p j) (hk:p k):∀ j,j<k+1→p j:=fun j hj=>by
  rcases Nat.lt_or_ge j k with h1 | h1
  · exact h j h1
  · have:j=k:=by omega
    subst this; exact hk
end Det
namespace Det
theorem getD_mem {l:List Int} {j:Nat} (h:j<l.length):l.getD j 0 ∈ l:=by
  rw [List.getD_eq_getElem?_getD,List.getElem?_eq_getElem h]
  exact List.getElem_mem h
def visit1 (s:List Bool × List Int) (i:Int):List Bool × List Int :=
  if s.1.getD i.toNat false=true then (s.1.set i.toNat false,s.2++[i]) else s
def visitN (s:List Bool × List Int) (l:List Int):Nat→List Bool × List Int
  | 0=>s
  | j+1=>visit1 (visitN s l j) (l.getD j 0)
def bfs (W H:Nat) (ins:List Bool) (first:Nat):Nat→List Bool × List Int
  | 0=>(ins.set first false,[(first:Int)])
  | k+1=>if k<(bfs W H ins first k).2.length then
      visitN (bfs W H ins first k) (nb W H ((bfs W H ins first k).2.getD k 0).toNat) (nb W H ((bfs W H ins first k).2.getD k 0).toNat).length
    else bfs W H ins first k
def Inv (n:Nat) (s:List Bool × List Int):Prop:=s.1.length=n∧s.2.length+s.1.count true≤n∧∀ t ∈ s.2,0≤t∧t<(n:Int)
theorem count_set {l:List Bool}:∀ {i:Nat},l.getD i false=true→(l.set i false).count true+1=l.count true:=by
  induction l with
  | nil=>intro i h; simp at h
  | cons b t ih =>
    intro i h
    cases i with
    | zero=>simp at h; subst h; simp
    | succ i =>
      simp only [List.getD_cons_succ] at h
      have:=ih h
      simp only [List.set_cons_succ,List.count_cons]
      omega
theorem Inv.visit1 {n:Nat} {s:List Bool × List Int} {i:Int} (h:Inv n s) (hi:0≤i∧i<(n:Int)):Inv n (visit1 s i):=by
  unfold Det.visit1
  split
  · rename_i hc
    refine ⟨by simpa using h.1,?_,?_⟩
    · have:=count_set hc
      have:=h.2.1
      simp only [List.length_append,List.length_singleton]
      omega
    · intro t ht
      rcases List.mem_append.1 ht with h1 | h1
      · exact h.2.2 t h1
      · simp only [List.mem_singleton] at h1; subst h1; exact hi
  · exact h
theorem Inv.visitN {n:Nat} {s:List Bool × List Int} {l:List Int} (h:Inv n s) (hl:∀ t ∈ l,0≤t∧t<(n:Int)):∀ j,j≤l.length→Inv n (visitN s l j)
  | 0,_=>h
  | j+1,hj=>Inv.visit1 (Inv.visitN h hl j (by omega)) (hl _ (getD_mem (by omega)))
theorem Inv.start {n first:Nat} {ins:List Bool} (hn:ins.length=n) (hf:first<n):Inv n (ins.set first false,[(first:Int)]):=by
  refine ⟨by simpa using hn,?_,?_⟩
  · have h1:(ins.set first false).count true<n:=by
      have hle:(ins.set first false).count true≤(ins.set first false).length:=List.count_le_length
      rcases Nat.lt_or_ge ((ins.set first false).count true) n with h | h
      · exact h
      · have he:(ins.set first false).count true=(ins.set first false).length:=by simp only [List.length_set] at hle ⊢; omega
        have hall:=List.count_eq_length.1 he
        have hm:false ∈ ins.set first false:=List.mem_iff_getElem.2 ⟨first,by simp; omega,by simp⟩
        have:=hall false hm
        cases this
    simp only [List.length_singleton]; omega
  · intro t ht
    simp only [List.mem_singleton] at ht
    subst ht
    omega
theorem bfs_stop {W H first k:Nat} {ins:List Bool} (hk:(bfs W H ins first k).2.length≤k):∀ j,bfs W H ins first (k+j)=bfs W H ins first k
  | 0=>rfl
  | j+1=>by
    have ih:=bfs_stop hk j
    show bfs W H ins first ((k+j)+1)=_
    simp only [bfs,ih]
    rw [if_neg (by omega)]
def asc (bs:List Bool):Nat→List Int
  | 0=>[]
  | k+1=>asc bs k++(if bs.getD k false=true then [(k:Int)] else [])
def part (W H:Nat) (ins:List Bool) (first:Nat):List Bool × List Int :=
  ((bfs W H ins first (W*H)).1,asc (marks (W*H) (bfs W H ins first (W*H)).2 (bfs W H ins first (W*H)).2.length) (W*H))
theorem part_of {W H first:Nat} {ins0 ins:List Bool} {todo:List Int} (h:(ins,todo)=bfs W H ins0 first todo.length) (hle:todo.length≤W*H) :
    part W H ins0 first=(ins,asc (marks (W*H) todo todo.length) (W*H)):=by
  have hs:bfs W H ins0 first (W*H)=(ins,todo):=by
    have:=bfs_stop (W:=W) (H:=H) (first:=first) (ins:=ins0) (k:=todo.length) (by rw [← h]; exact Nat.le_refl _) (W*H-todo.length)
    rw [show todo.length+(W*H-todo.length)=W*H from by omega] at this
    rw [this,h]
  unfold part
  rw [hs]
def partsF (W H:Nat) (least:Int) (ins:List Bool):Nat→List Bool × List (List Int)
  | 0=>(ins,[])
  | k+1=>if (partsF W H least ins k).1.getD k false=true then
      ((part W H (partsF W H least ins k).1 k).1,(partsF W H least ins k).2++(if least≤((part W H (partsF W H least ins k).1 k).2.length:Int) then [(part W H (partsF W H least ins k).1 k).2] else []))
    else partsF W H least ins k
def bright (zs:List Int) (bs:List Bool) (thr:Int):Nat→List Bool
  | 0=>[]
  | k+1=>bright zs bs thr k++[!(bs.getD k false)&&decide (zs.getD k 0≥thr)]
def maxL (l:List Int):Int:=l.foldl (fun a b=>if a<b then b else a) (l.getD 0 0)
def minL (l:List Int):Int:=l.foldl (fun a b=>if b<a then b else a) (l.getD 0 0)
open Classical in
noncomputable def partsE (W H:Int) (zs:List Int) (bs:List Bool) (thr least:Int):Int :=
  if fieldOK W H zs then (if bs.length=zs.length∧-4294967296≤thr∧thr≤4294967296∧1≤least then 0 else 2) else 8
noncomputable def partsR (W H:Int) (zs:List Int) (bs:List Bool) (thr least:Int):List (List Int) :=
  if partsE W H zs bs thr least=0 then (partsF W.toNat H.toNat least (bright zs bs thr zs.length) zs.length).2 else []
end Det
namespace Det
end Det
namespace Det
def Inv2 (s:List Bool × List Int):Prop:=s.2.Nodup∧∀ t ∈ s.2,0≤t∧s.1.getD t.toNat false=false
theorem Inv2.start {first:Nat} {ins:List Bool}:Inv2 (ins.set first false,[(first:Int)]):=by
  refine ⟨by simp,fun t ht=>?_⟩
  simp only [List.mem_singleton] at ht
  subst ht
  refine ⟨by omega,?_⟩
  simp only [List.getD_eq_getElem?_getD,Int.toNat_natCast,List.getElem?_set]
  by_cases h:first<ins.length <;> simp [h]
theorem Inv2.take {q:Nat} {ins:List Bool} {l:List Int} (h:Inv2 (ins,l)) (hc:ins.getD q false=true):Inv2 (ins.set q false,l++[(q:Int)]):=by
  have hq:(q:Int) ∉ l:=fun hm=>by
    have:=(h.2 _ hm).2
    rw [Int.toNat_natCast,hc] at this
    cases this
  refine ⟨?_,fun t ht=>?_⟩
  · rw [List.nodup_append]
    exact ⟨h.1,by simp,fun x hx y hy e=>by simp only [List.mem_singleton] at hy; subst hy; exact hq (e▸hx)⟩
  · rcases List.mem_append.1 ht with ht | ht
    · obtain ⟨h0,h1⟩:=h.2 t ht
      refine ⟨h0,?_⟩
      by_cases e:q=t.toNat
      · rw [e,h1] at hc; cases hc
      · simp only [List.getD_eq_getElem?_getD,List.getElem?_set,if_neg e]
        simpa [List.getD_eq_getElem?_getD] using h1
    · simp only [List.mem_singleton] at ht
      subst ht
      refine ⟨by omega,?_⟩
      simp only [List.getD_eq_getElem?_getD,Int.toNat_natCast,List.getElem?_set]
      by_cases h:q<ins.length <;> simp [h]
theorem Inv.take {n q:Nat} {ins:List Bool} {l:List Int} (h:Inv n (ins,l)) (hq:q<n) (hc:ins.getD q false=true):Inv n (ins.set q false,l++[(q:Int)]):=by
  have:=Inv.visit1 h (i:=(q:Int)) (by omega)
  unfold Det.visit1 at this
  rwa [if_pos (show (ins,l).1.getD ((q:Int)).toNat false=true from hc)] at this
def srt (l:List Int):List Int:=l.mergeSort (fun x y=>decide (x≤y))
end Det
namespace Det
def partsK (W H:Nat) (least:Int) (bs:List Bool) (ks:List Int):Nat→List Bool × List (List Int)
  | 0=>(bs,[])
  | j+1=>if (partsK W H least bs ks j).1.getD (ks.getD j 0).toNat false=true then
      ((part W H (partsK W H least bs ks j).1 (ks.getD j 0).toNat).1,(partsK W H least bs ks j).2++(if least≤((part W H (partsK W H least bs ks j).1 (ks.getD j 0).toNat).2.length:Int) then [(part W H (partsK W H least bs ks j).1 (ks.getD j 0).toNat).2] else []))
    else partsK W H least bs ks j
section
variable {W H j q:Nat} {least:Int} {bs ins:List Bool} {xss:List (List Int)} {ks:List Int}
end
def Sub (a b:List Bool):Prop:=∀ i,a.getD i false=true→b.getD i false=true
theorem Sub.refl (a:List Bool):Sub a a:=fun _ h=>h
theorem Sub.trans {a b c:List Bool} (h:Sub a b) (h':Sub b c):Sub a c:=fun i hi=>h' i (h i hi)
theorem Sub.setF (a:List Bool) (q:Nat):Sub (a.set q false) a:=fun i hi=>by
  simp only [List.getD_eq_getElem?_getD,List.getElem?_set] at hi ⊢
  split at hi
  · split at hi <;> simp at hi
  · exact hi
theorem Sub.visit1 (s:List Bool × List Int) (i:Int):Sub (visit1 s i).1 s.1:=by
  unfold Det.visit1
  split
  · exact Sub.setF _ _
  · exact Sub.refl _
theorem Sub.visitN (s:List Bool × List Int) (l:List Int):∀ j,Sub (visitN s l j).1 s.1
  | 0=>Sub.refl _
  | j+1=>(Sub.visit1 _ _).trans (Sub.visitN s l j)
theorem Sub.bfs (W H:Nat) (ins:List Bool) (first:Nat):∀ k,Sub (bfs W H ins first k).1 ins
  | 0=>Sub.setF _ _
  | k+1=>by
    simp only [Det.bfs]
    split
    · exact (Sub.visitN _ _ _).trans (Sub.bfs W H ins first k)
    · exact Sub.bfs W H ins first k
theorem Sub.part (W H:Nat) (ins:List Bool) (first:Nat):Sub (part W H ins first).1 ins:=Sub.bfs _ _ _ _ _
theorem Sub.partsF (W H:Nat) (least:Int) (ins:List Bool):∀ k,Sub (partsF W H least ins k).1 ins
  | 0=>Sub.refl _
  | k+1=>by
    simp only [Det.partsF]
    split
    · exact (Sub.part _ _ _ _).trans (Sub.partsF W H least ins k)
    · exact Sub.partsF W H least ins k
end Det
namespace Det
end Det

namespace Go.SL
open Go
def cmpI (x y:Int):Int:=if x<y then -1 else if x>y then 1 else 0
def orM:List Int→Int
  | []=>0
  | x::t=>if x≠0 then x else orM t
def cmpD (a b:Dg):Int:=orM [-cmpI (if a.num<1 then a.num else 1) (if b.num<1 then b.num else 1),cmpI a.num b.num,cmpI a.yr b.yr,cmpI a.half b.half,cmpI a.cyc b.cyc,cmpI a.sec b.sec]
def ordD (a b:Dg):Int:=if okD a&&okD b then cmpD a b else 0
theorem orM_none:∀ {l:List Int},(∀ i,i<l.length→l.getD i 0=0)→orM l=0
  | [],_=>rfl
  | x::t,h=>by
    have h0:=h 0 (by simp)
    simp only [List.getD_cons_zero] at h0
    unfold orM
    rw [if_neg (by simp [h0])]
    exact orM_none fun i hi=>by simpa using h (i+1) (by simpa using hi)
theorem orM_hit:∀ {l:List Int} {k:Nat},(∀ i,i<k→l.getD i 0=0)→k<l.length→l.getD k 0≠0→orM l=l.getD k 0
  | [],_,_,h,_=>by simp at h
  | x::t,0,_,_,h=>by
    simp only [List.getD_cons_zero] at h ⊢
    unfold orM
    rw [if_pos h]
  | x::t,k+1,h,hk,hn=>by
    have h0:=h 0 (by omega)
    simp only [List.getD_cons_zero] at h0
    simp only [List.getD_cons_succ] at hn ⊢
    unfold orM
    rw [if_neg (by simp [h0])]
    exact orM_hit (fun i hi=>by simpa using h (i+1) (by omega)) (by simpa using hk) hn
theorem St.rdPt {w0 w:World} {X:Nat→Prop} {B M:List Asr} {j b n sz:Nat} {cs:Array Value} {e:TypeId} {z:Nat × Nat} {xs:List Value} (h:St w0 w X B M) (hi:M[j]? = some (pt b (.cells cs e z))) (hn:n≤maxLen) (hc:cs.size=n*sz) (hx:cs=xs.toArray) :
    rdOK (hp w) sz (.slice (some ⟨b,0,none⟩) n n) n xs:=by
  have h1:w.heap[b]? = some (.cells cs e z):=h.at_ hi
  subst hx
  refine ⟨by simpa using hc,hn,some ⟨b,0,none⟩,n,rfl,fun _=>⟨_,_,_,_,rfl,rfl,h1,fun j u hu=>by simpa using hu⟩⟩
end Go.SL

namespace Go.SL
open Go Go.Proofs Go.Shelf Go.RowKit Go.Sort Go.Lib
section
variable {T:Type} [Inhabited T] {E:T→List Value} {k:Nat}
end
def lexC:List Int→List Int→Int
  | x::s,y::t=>if x<y then -1 else if x>y then 1 else lexC s t
  | _,_=>0
theorem lexC_anti:∀ (a b:List Int),lexC b a=-lexC a b
  | [],[]=>rfl
  | [],_::_=>rfl
  | _::_,[]=>rfl
  | x::s,y::t=>by
    have:=lexC_anti s t
    unfold lexC
    by_cases h1:x<y
    · rw [if_neg (show ¬ y<x by omega),if_pos (show y>x from h1),if_pos h1]; rfl
    · by_cases h2:x>y
      · rw [if_pos (show y<x from h2),if_neg h1,if_pos h2]
      · rw [if_neg (show ¬ y<x by omega),if_neg (show ¬ y>x by omega),if_neg h1,if_neg h2]; exact this
theorem lexC_zero:∀ {a b:List Int},a.length=b.length→lexC a b=0→a=b
  | [],[],_,_=>rfl
  | x::s,y::t,hl,h=>by
    unfold lexC at h
    split at h
    · omega
    · split at h
      · omega
      · rw [lexC_zero (by simpa using hl) h,show x=y from by omega]
theorem lexC_trans:∀ {a b c:List Int},a.length=b.length→b.length=c.length→lexC a b≤0→lexC b c≤0→lexC a c≤0∧(lexC a b<0∨lexC b c<0→lexC a c<0)
  | [],[],[],_,_,_,_=>⟨by decide,by decide⟩
  | x::s,y::t,z::u,h1,h2,h3,h4=>by
    unfold lexC at h3 h4 ⊢
    have ih:=lexC_trans (a:=s) (b:=t) (c:=u) (by simpa using h1) (by simpa using h2)
    split at h3
    · split at h4
      · rw [if_pos (by omega)]; exact ⟨by decide,fun _=>by decide⟩
      · split at h4
        · omega
        · rw [if_pos (by omega)]; exact ⟨by decide,fun _=>by decide⟩
    · split at h3
      · omega
      · split at h4
        · rw [if_pos (by omega)]; exact ⟨by decide,fun _=>by decide⟩
        · split at h4
          · omega
          · rw [if_neg (by omega),if_neg (by omega)]
            have:=ih h3 h4
            refine ⟨this.1,fun h=>this.2 ?_⟩
            rw [if_neg (by omega),if_neg (by omega),if_neg (by omega),if_neg (by omega)] at h
            exact h
def keyL (d:Dg):List Int:=[-(if d.num<1 then d.num else 1),d.num,d.yr,d.half,d.cyc,d.sec]
theorem orM_cons (x y:Int) (l:List Int):orM (cmpI x y::l)=if x<y then -1 else if x>y then 1 else orM l:=by
  show (if cmpI x y≠0 then cmpI x y else orM l)=_
  unfold cmpI
  by_cases h1:x<y
  · rw [if_pos h1,if_pos h1,if_pos (by decide)]
  · by_cases h2:x>y
    · rw [if_neg h1,if_pos h2,if_pos (by decide),if_neg h1,if_pos h2]
    · rw [if_neg h1,if_neg h2,if_neg (by decide),if_neg h1,if_neg h2]
theorem cmpI_swap (x y:Int):-cmpI x y=cmpI (-x) (-y):=by
  unfold cmpI
  by_cases h:x<y
  · rw [if_pos h,if_neg (by omega),if_pos (by omega)]; rfl
  · by_cases h2:x>y
    · rw [if_neg h,if_pos h2,if_pos (by omega)]
    · rw [if_neg h,if_neg h2,if_neg (by omega),if_neg (by omega)]; rfl
theorem cmpD_lex (a b:Dg):cmpD a b=lexC (keyL a) (keyL b):=by
  unfold cmpD keyL
  rw [cmpI_swap]
  simp only [orM_cons,lexC]
  rfl
theorem keyL_inj {a b:Dg} (h:keyL a=keyL b):a=b:=by
  unfold keyL at h
  simp only [List.cons.injEq,and_true] at h
  obtain ⟨_,h1,h2,h3,h4,h5⟩:=h
  cases a; cases b
  simp only at h1 h2 h3 h4 h5
  subst h1 h2 h3 h4 h5
  rfl
theorem cmpD_eq {a b:Dg} (h:cmpD a b=0):a=b:=keyL_inj (lexC_zero rfl (by rw [← cmpD_lex]; exact h))
theorem cmpD_anti (a b:Dg):cmpD b a=-cmpD a b:=by rw [cmpD_lex,cmpD_lex]; exact lexC_anti _ _
theorem cmpD_trans {a b c:Dg} (h1:cmpD a b≤0) (h2:cmpD b c≤0):cmpD a c≤0∧(cmpD a b<0∨cmpD b c<0→cmpD a c<0):=by
  rw [cmpD_lex a b] at *
  rw [cmpD_lex b c] at *
  rw [cmpD_lex a c]
  exact lexC_trans rfl rfl h1 h2
def ltD (a b:Dg):Bool:=decide (cmpD a b<0)
end Go.SL
