/- Part of a proof: laws and walks. -/
import Derived.Test.YtgakdmmmljdpjaaDoorTae
import Derived.Test.YtgakdmmmljdpjaaDoorTac
import Derived.Shelf.SlSortCmp.NoneTotal
import Derived.Test.YtgakdmmmljdpjaaDoorTaa
import Derived.Sort.Grow
set_option linter.unusedVariables false
set_option linter.unusedSimpArgs false
namespace Go.SL
open Go
def totS (S:List PG):Nat:=(S.map (fun g=>g.1.length)).sum
theorem totS_perm {S T:List PG} (h:S.Perm T):totS S=totS T:=(h.map _).sum_nat
def playK (l:List Ch) (us:List Bool):Nat→Except Int (List PG)
  | 0=>.ok []
  | k+1=>match playK l us k with
    | .error e=>.error e
    | .ok S=>if (l.getD k default).kind≠4∧us.getD k false=false then stepM S (l.getD k default) else .ok S
def playM (l:List Ch) (us:List Bool):Except Int (List PG):=playK l us l.length
section
variable {l:List Ch} {us:List Bool} {k:Nat} {S S':List PG} {e:Int}
theorem playK_do (h:playK l us k=.ok S) (h1:(l.getD k default).kind≠4) (h2:us.getD k false=false):playK l us (k+1)=stepM S (l.getD k default):=by
  simp only [playK,h]; rw [if_pos ⟨h1,h2⟩]
theorem playK_no (h:playK l us k=.ok S) (h1:¬ ((l.getD k default).kind≠4∧us.getD k false=false)):playK l us (k+1)=.ok S:=by
  simp only [playK,h]; rw [if_neg h1]
theorem playK_err (h:playK l us k=.error e):∀ m,playK l us (k+m)=.error e
  | 0=>h
  | m+1=>by
    have:=playK_err h m
    show playK l us ((k+m)+1)=_
    simp only [playK,this]
theorem playM_err (h:playK l us k=.error e) (hk:k≤l.length):playM l us=.error e:=by
  have:=playK_err h (l.length-k)
  rw [show k+(l.length-k)=l.length from by omega] at this
  exact this
end
theorem merged_len (x y:PG):(merged x y).1.length=x.1.length+y.1.length:=by
  unfold merged; split <;> simp <;> omega
end Go.SL
namespace Go.Proofs.YtgakdmmmljdpjaaDoor
open Go Go.SL
section
variable {bm:Nat} {kvs:List (Dg × Value)} {gs:List Grp} {c:Ch} {w0:World} {S:List PG}
def DoR (w0:World) (bm:Nat) (kvs:List (Dg × Value)) (gs:List Grp) (x:Except Int (List PG)) (tot:Nat):List (Dg × Value) × List Grp→World→Prop:=fun g w =>
  St w0 w (fun k=>(stA 95 24 bm kvs gs).fp k) [] [stA 95 24 bm g.1 g.2]∧∃ S',x=.ok S'∧IsS g.1 g.2 S'∧totS S'≤tot+1
def DoP (w0:World) (bm:Nat) (kvs:List (Dg × Value)) (gs:List Grp) (x:Except Int (List PG)):Int→World→Prop:=fun e w=>x=.error e∧St w0 w (fun k=>(stA 95 24 bm kvs gs).fp k) [] []
theorem RetP.ofRet {G:Type} {P:Program} {t:TypeId} {f:FuncId} {args:Array Value} {w:World} {v:G→Value} {R R':G→World→Prop} {Rp':Int→World→Prop} (h:Ret P f args w v R) (h1:∀ g w',R g w'→R' g w'):RetP P t f args w v R' Rp' :=
  Calls.mono h fun e w' ⟨g,he,hR⟩=>.inl ⟨g,he,h1 g w' hR⟩
theorem RetP.ofPan {G G':Type} {P:Program} {t:TypeId} {f:FuncId} {args:Array Value} {w:World} {v:G→Value} {v':G'→Value} {R:G→World→Prop} {R':G'→World→Prop} {Rp Rp':Int→World→Prop} (h:RetP P t f args w v R Rp) (h1:∀ g w',¬ R g w') (h2:∀ e w',Rp e w'→Rp' e w'):RetP P t f args w v' R' Rp' :=
  Calls.mono h fun e w' he=>by
    rcases he with ⟨g,he,hR⟩ | ⟨c,he,hR⟩
    · exact absurd hR (h1 g w')
    · exact .inr ⟨c,he,h2 c w' hR⟩
theorem add_do (h0:Lent w0 (stA 95 24 bm kvs gs)) (hI:IsS kvs gs S) :
    RetP Tryd.prog 88 56 #[.map (some bm),cV c] w0 (G:=List (Dg × Value) × List Grp) (fun _=>.tuple #[]) (DoR w0 bm kvs gs (addM S c) (totS S)) (DoP w0 bm kvs gs (addM S c)):=by
  obtain ⟨hL,hS⟩:=hI
  rcases find_cases gs c.a with ⟨g,hg,hd,hf⟩ | ⟨hn,hf⟩
  · refine RetP.ofPan (add_err bm kvs gs c w0 h0 hL g.blk (hL.hit g hg c.a hd)) (fun _ _ h=>h) fun e w' ⟨he,hR⟩=>⟨?_,hR⟩
    subst he
    unfold addM; rw [← hS,hf]
  · refine RetP.ofRet (add_ok bm kvs gs c w0 h0 hL (hL.miss c.a hn) hn) fun g w' ⟨hR,hL',ha⟩=>⟨hR,_,?_,⟨hL',ha⟩,?_⟩
    · unfold addM; rw [← hS,hf]
    · rw [← hS]; simp [totS]; omega
theorem perm_tot2 {ga gb:Grp} {rest:List Grp} (hp:gs.Perm (ga::gb::rest)):totS (gs.map absG)=ga.all.length+gb.all.length+totS (rest.map absG):=by
  rw [totS_perm (hp.map absG)]
  simp only [List.map_cons,totS,List.sum_cons,absG]
  omega
theorem perm_tot1 {ga:Grp} {rest:List Grp} (hp:gs.Perm (ga::rest)):totS (gs.map absG)=ga.all.length+totS (rest.map absG):=by
  rw [totS_perm (hp.map absG)]
  simp only [List.map_cons,totS,List.sum_cons,absG]
theorem join_do (h0:Lent w0 (stA 95 24 bm kvs gs)) (hI:IsS kvs gs S) (hz:totS S≤1000000) :
    RetP Tryd.prog 88 57 #[.map (some bm),cV c] w0 (G:=List (Dg × Value) × List Grp) (fun _=>.tuple #[]) (DoR w0 bm kvs gs (joinM S c) (totS S)) (DoP w0 bm kvs gs (joinM S c)):=by
  obtain ⟨hL,hS⟩:=hI
  rcases find_cases gs c.a with ⟨ga,hga,hda,hfa⟩ | ⟨hna,hfa⟩
  · rcases find_cases gs c.b with ⟨gb,hgb,hdb,hfb⟩ | ⟨hnb,hfb⟩
    · by_cases hsame:c.b ∈ ga.all
      · have hE:gb=ga:=hL.uniq hgb hga hdb hsame
        subst hE
        refine RetP.ofPan (join_same bm kvs gs c w0 h0 hL gb _ (perm_take hga hL.apart hda) hda hsame) (fun _ _ h=>h) fun e w' ⟨he,hR⟩=>⟨?_,hR⟩
        subst he
        unfold joinM; rw [← hS,hfa,hfb]; simp
      · have hna:c.a ∉ gb.all:=fun h=>hsame ((hL.uniq hga hgb hda h)▸hdb)
        have hp:=perm_take2 hga hgb hL.apart hda hdb hna
        have hne:absG ga≠absG gb:=fun e=>hsame (by
          have:ga.all=gb.all:=congrArg (·.1) e
          rw [this]; exact hdb)
        cases hn:(ga.num&&gb.num) with
        | true =>
          refine RetP.ofPan (join_num bm kvs gs c w0 h0 hL ga gb _ hp hda hdb hn) (fun _ _ h=>h) fun e w' ⟨he,hR⟩=>⟨?_,hR⟩
          subst he
          unfold joinM; rw [← hS,hfa,hfb]
          exact if_pos (.inr hn)
        | false =>
          have ht:=perm_tot2 hp
          rw [hS] at ht
          refine RetP.ofRet (join_ok bm kvs gs c w0 h0 hL ga gb _ hp hda hdb hn (by omega)) fun g w' ⟨hR,hL',ha⟩=>⟨hR,_,?_,⟨hL',ha⟩,?_⟩
          · unfold joinM; rw [← hS,hfa,hfb]
            show (if absG ga=absG gb∨_ then _ else _)=_
            rw [if_neg (fun h=>h.elim hne (fun h=>by rw [show ((absG ga).2&&(absG gb).2)=(ga.num&&gb.num) from rfl,hn] at h; cases h))]
            rw [← filter_absG]
            rfl
          · have h1:=merged_len (absG ga) (absG gb)
            simp only [totS,List.map_cons,List.sum_cons] at ht ⊢
            simp only [absG] at h1 ht ⊢
            rw [h1]
            omega
    · refine RetP.ofPan (join_err_b bm kvs gs c w0 h0 hL ga.blk (hL.hit ga hga c.a hda) (hL.miss c.b hnb)) (fun _ _ h=>h) fun e w' ⟨he,hR⟩=>⟨?_,hR⟩
      subst he
      unfold joinM; rw [← hS,hfa,hfb]
  · refine RetP.ofPan (join_err_a bm kvs gs c w0 h0 hL _ (hL.miss c.a hna) rfl) (fun _ _ h=>h) fun e w' ⟨he,hR⟩=>⟨?_,hR⟩
    subst he
    unfold joinM; rw [← hS,hfa]
theorem name_do (h0:Lent w0 (stA 95 24 bm kvs gs)) (hI:IsS kvs gs S) (hz:totS S≤1000000) :
    RetP Tryd.prog 88 58 #[.map (some bm),cV c] w0 (G:=List (Dg × Value) × List Grp) (fun _=>.tuple #[]) (DoR w0 bm kvs gs (nameM S c) (totS S)) (DoP w0 bm kvs gs (nameM S c)):=by
  obtain ⟨hL,hS⟩:=hI
  rcases find_cases gs c.a with ⟨ga,hga,hda,hfa⟩ | ⟨hna,hfa⟩
  · rcases find_cases gs c.b with ⟨gb,hgb,hdb,hfb⟩ | ⟨hnb,hfb⟩
    · refine RetP.ofPan (name_twice bm kvs gs c w0 h0 hL ga.blk gb.blk (hL.hit ga hga c.a hda) (hL.hit gb hgb c.b hdb)) (fun _ _ h=>h) fun e w' ⟨he,hR⟩=>⟨?_,hR⟩
      subst he
      unfold nameM; rw [← hS,hfa]; simp only; rw [hfb]
    · have hp:=perm_take hga hL.apart hda
      cases hn:ga.num with
      | true =>
        refine RetP.ofPan (name_num bm kvs gs c w0 h0 hL ga _ hp hda (hL.miss c.b hnb) hn) (fun _ _ h=>h) fun e w' ⟨he,hR⟩=>⟨?_,hR⟩
        subst he
        unfold nameM; rw [← hS,hfa]; simp only; rw [hfb]
        exact if_pos hn
      | false =>
        have ht:=perm_tot1 hp
        rw [hS] at ht
        refine RetP.ofRet (name_ok bm kvs gs c w0 h0 hL ga _ hp hda (hL.miss c.b hnb) hnb hn (by omega)) fun g w' ⟨hR,hL',ha⟩=>⟨hR,_,?_,⟨hL',ha⟩,?_⟩
        · unfold nameM; rw [← hS,hfa]; simp only; rw [hfb]
          show (if ga.num=true then _ else _)=_
          rw [hn,if_neg (by decide),← filter_absG]
          rfl
        · simp only [totS,List.map_cons,List.sum_cons,List.length_append,List.length_singleton] at ht ⊢
          omega
  · refine RetP.ofPan (name_none bm kvs gs c w0 h0 hL (hL.miss c.a hna)) (fun _ _ h=>h) fun e w' ⟨he,hR⟩=>⟨?_,hR⟩
    subst he
    unfold nameM; rw [← hS,hfa]
end
end Go.Proofs.YtgakdmmmljdpjaaDoor

set_option maxHeartbeats 1000000
set_option maxRecDepth 8000
namespace Go.Proofs.YtgakdmmmljdpjaaDoor
open Go Go.SL
theorem C_ok_56:callOK Tryd.prog 56=true:=by kernel_rfl
theorem C_ok_57:callOK Tryd.prog 57=true:=by kernel_rfl
theorem C_ok_58:callOK Tryd.prog 58=true:=by kernel_rfl
theorem T_agg_103:tAgg Tryd.prog 103=some false:=by kernel_rfl
theorem T_agg_26:tAgg Tryd.prog 26=some true:=by kernel_rfl
theorem T_agg_5:tAgg Tryd.prog 5=some false:=by kernel_rfl
theorem T_arr_105:tArr Tryd.prog 105=some (4,103):=by kernel_rfl
theorem T_elem_22:tElem Tryd.prog 22=some 26:=by kernel_rfl
theorem T_elem_51:tElem Tryd.prog 51=some 4:=by kernel_rfl
theorem T_field_26_0:tField Tryd.prog 26 0=some 0:=by kernel_rfl
theorem T_size_103:tSize Tryd.prog 103=some 1:=by kernel_rfl
theorem T_size_105:tSize Tryd.prog 105=some 4:=by kernel_rfl
theorem T_size_26:tSize Tryd.prog 26=some 12:=by kernel_rfl
theorem T_zero_105:tZero Tryd.prog 105=some (.agg #[.nilFunc,.nilFunc,.nilFunc,.nilFunc]):=by kernel_rfl
theorem T_zero_26:tZero Tryd.prog 26=some (.agg #[.int .u8 0,.int .i64 0,.int .i64 0,.int .u8 0,.int .u8 0,.int .i64 0,.int .i64 0,.int .i64 0,.int .u8 0,.int .u8 0,.int .i64 0,.int .i64 0]):=by kernel_rfl
set_option maxHeartbeats 4000000 in
set_option maxRecDepth 4000 in
theorem play_spec (vl vu:Value) (l:List Ch) (us:List Bool) (w0:World) (hl:rdOK (hp w0) 12 vl l.length (encs eC l)) (hu:rdOK (hp w0) 1 vu us.length (bools us)) (hlu:l.length≤us.length) (hlen:l.length≤1000) (hk:∀ j,j<l.length→1≤(l.getD j default).kind∧(l.getD j default).kind≤4) :
    RetP Tryd.prog 88 45 #[vl,vu] w0 (G:=Nat × List (Dg × Value) × List Grp) (fun g=>.map (some g.1)) (fun g w=>St w0 w noX [] [stA 95 24 g.1 g.2.1 g.2.2]∧∃ S,playM l us=.ok S∧IsS g.2.1 g.2.2 S∧totS S≤l.length) (fun e w=>playM l us=.error e∧St w0 w noX [] []):=by
  refine retP_of_W (lv:=[vl,vu]) Tryd.func45 rfl rfl rfl (fun a hf=>?_); replace hf:Fr a 37 [] [(0,vl),(1,vu)]:=hf.q rfl; have hS:St w0 w0 noX [rdv 12 vl l.length (encs eC l),rdv 1 vu us.length (bools us)] []:=((St.refl w0).lend0 hu).lend0 hl; refine W.seq ?_
  refine W.regionL (l:=[0]) rfl<|mv hf rfl<|?_; clear hf a; intro a hf; refine nk<|W.seq<|?_
  refine W.regionL (l:=[0,1,2]) rfl<|ov hf rfl (RunV.buildA (cs':=#[.nilFunc,.func (.func 56) #[] #[],.func (.func 57) #[] #[],.func (.func 58) #[] #[]]) T_arr_105 T_size_103 T_zero_105 rfl rfl)<|?_; clear hf a; intro a hf; refine O.alloc (cs:=#[.nilFunc,.nilFunc,.nilFunc,.nilFunc]) hf hS rfl rfl T_zero_105 rfl ?_; intro b_does1 w a hbb_does1 hS hf; refine ost 0 #[.nilFunc,.func (.func 56) #[] #[],.func (.func 57) #[] #[],.func (.func 58) #[] #[]] hf hS rfl rfl rfl T_size_105 rfl rfl rfl (bl rfl) rfl ?_; intro w hS; refine nk<|W.seq<|?_
  refine W.regionL (l:=[0,1]) rfl<|O.makeP dV hf hS rfl rfl<|?_; intro b_m2 w a hbb_m2 hS hf; refine mv hf rfl ?_; clear hf a; intro a hf; refine O.nil ?_; replace hS:=hS.stNew (TG:=95) (TD:=24); replace hS:St w0 _ noX [rdv 12 vl l.length (encs eC l),rdv 1 vu us.length (bools us)] [stA 95 24 b_m2 ([]) ([]),pt b_does1 (.cells #[.nilFunc,.func (.func 56) #[] #[],.func (.func 57) #[] #[],.func (.func 58) #[] #[]] 105 (0,0))]:=hS; refine k_seq<|W.seq<|W.seq<|?_
  refine W.regionL (l:=[0,1,2]) rfl<|mv hf rfl<|?_; clear hf a; intro a hf; refine ov hf rfl (RunV.lenV (e:=26) (by simpa using T_elem_22) rfl (hS.rdAt (j:=0) rfl)) ?_; clear hf a; intro a hf; refine mv hf rfl ?_; clear hf a; intro a hf; refine nk ?_; replace hf:Fr a 37 [] [(1,vu),(4,.map none),(5,.pointer (some ⟨b_does1,0,none⟩)),(6,.map (some b_m2)),(11,vl),(12,.int .i64 (l.length:Int)),(13,.int .i64 0)]:=hf.q rfl; refine W.block ?_
  refine W.loop (G:=(Nat) × (List (Dg × Value)) × (List Grp) × (List PG)) (fun g a w=>match g with | (k,kvs,gs,S)=>Fr a 37 [] [(1,vu),(4,.map none),(5,.pointer (some ⟨b_does1,0,none⟩)),(6,.map (some b_m2)),(11,vl),(12,.int .i64 (l.length:Int)),(13,.int .i64 (k:Int))]∧St w0 w noX [rdv 12 vl l.length (encs eC l),rdv 1 vu us.length (bools us)] [stA 95 24 b_m2 kvs gs,pt b_does1 (.cells #[.nilFunc,.func (.func 56) #[] #[],.func (.func 57) #[] #[],.func (.func 58) #[] #[]] 105 (0,0))]∧(k≤l.length)∧(playK l us k=.ok S)∧(IsS kvs gs S)∧(totS S≤k)) (fun g=>match g with | (k,kvs,gs,S)=>l.length-k) (0,[],[],[]) ?_ ?_
  · refine ⟨hf.to ⟨rfl,rfl,rfl,rfl,rfl,rfl,(by first | rfl | exact congrArg some (congrArg (Value.int _) (by omega))),trivial⟩,hS,?_,?_,?_,?_⟩
    · omega
    · rfl
    · exact ⟨⟨by simp,by simp,fun _ _=>rfl,.nil,by simp,by simp,by simp⟩,rfl⟩
    · simp [totS]
  clear hf hS a; rintro ⟨k,kvs,gs,S⟩ a w ⟨hf,hS,h1,hp,hI,hz⟩; refine W.seq ?_
  refine W.regionL (l:=[0]) rfl<|ov (v:=.bool (decide ((k:Int)<((l.length:Int):Int)))) hf rfl (RunV.lss rfl rfl)<|?_; clear hf a; intro a hf; refine nk<|W.seq<|?_; refine W.ifdI hf rfl (fun hlt=>?_) (fun hlt=>?_)
  · refine W.skip ?_
    refine k_seq<|W.seq<|W.block<|W.seq<|?_
    refine W.regionL (l:=[0,1,2,3,4,5]) rfl ?_; obtain ⟨cc,hcc⟩:∃ cc,cc=l.getD k default:=⟨_,rfl⟩; refine mv hf rfl ?_; clear hf a; intro a hf; refine ov hf rfl (RunV.ixV (j:=k) (m:=k*12) T_elem_22 T_size_26 rfl rfl (hS.rdAt (j:=0) rfl) rfl (by omega) rfl) ?_; clear hf a; intro a hf; refine ov hf rfl (RunV.ldG (j:=k) (enc:=eC) (l:=l) (us:=eC cc) T_agg_26 T_size_26 rfl eC_len rfl (hS.rdAt (j:=0) rfl) (by omega) (by rw [hcc])) ?_; clear hf a; intro a hf; refine O.alloc (cs:=#[.int .u8 0,.int .i64 0,.int .i64 0,.int .u8 0,.int .u8 0,.int .i64 0,.int .i64 0,.int .i64 0,.int .u8 0,.int .u8 0,.int .i64 0,.int .i64 0]) hf hS rfl rfl T_zero_26 rfl ?_; intro b_c4 w a hbb_c4 hS hf; refine mv hf rfl ?_; clear hf a; intro a hf; refine O.store (j:=0) (v:=.agg #[.int .u8 cc.kind,.int .i64 cc.a.num,.int .i64 cc.a.yr,.int .u8 cc.a.half,.int .u8 cc.a.sec,.int .i64 cc.a.cyc,.int .i64 cc.b.num,.int .i64 cc.b.yr,.int .u8 cc.b.half,.int .u8 cc.b.sec,.int .i64 cc.b.cyc,.int .i64 cc.n]) (cs':=#[.int .u8 cc.kind,.int .i64 cc.a.num,.int .i64 cc.a.yr,.int .u8 cc.a.half,.int .u8 cc.a.sec,.int .i64 cc.a.cyc,.int .i64 cc.b.num,.int .i64 cc.b.yr,.int .u8 cc.b.half,.int .u8 cc.b.sec,.int .i64 cc.b.cyc,.int .i64 cc.n]) (M':=[pt b_c4 (.cells #[.int .u8 cc.kind,.int .i64 cc.a.num,.int .i64 cc.a.yr,.int .u8 cc.a.half,.int .u8 cc.a.sec,.int .i64 cc.a.cyc,.int .i64 cc.b.num,.int .i64 cc.b.yr,.int .u8 cc.b.half,.int .u8 cc.b.sec,.int .i64 cc.b.cyc,.int .i64 cc.n] 26 (0,0)),stA 95 24 b_m2 kvs gs,pt b_does1 (.cells #[.nilFunc,.func (.func 56) #[] #[],.func (.func 57) #[] #[],.func (.func 58) #[] #[]] 105 (0,0))]) hf hS rfl rfl rfl T_size_26 (by kernel_rfl) (by kernel_rfl) rfl (bl rfl) (by kernel_rfl) rfl ?_; intro w hS; refine nk<|W.seq<|?_
    refine W.regionL (l:=[0,1,2,3,4,5,6,7,8,9]) rfl<|ov hf rfl (RunV.field T_field_26_0 rfl rfl)<|?_; clear hf a; intro a hf; refine ov hf rfl (RunV.load1 T_agg_5 rfl (hS.p 0 rfl) rfl) ?_; clear hf a; intro a hf; refine ov (v:=.bool (decide (cc.kind≠(4:Int)))) hf rfl (RunV.neq rfl rfl) ?_; clear hf a; intro a hf; refine mv hf rfl ?_; clear hf a; intro a hf
    refine O.cutN (l₁:=[4,5,6,7,8,9]) (l₂:=_) (fun a w=>Fr a 37 [] [(1,vu),(4,.map none),(5,.pointer (some ⟨b_does1,0,none⟩)),(6,.map (some b_m2)),(7,.int .i64 (k:Int)),(8,.pointer (some ⟨b_c4,0,none⟩)),(11,vl),(12,.int .i64 (l.length:Int)),(13,.int .i64 (k:Int)),(18,.pointer (some ⟨b_c4,0,none⟩)),(19,.int .u8 cc.kind),(20,.bool (decide (cc.kind≠(4:Int)))),(21,.bool (decide (cc.kind≠(4:Int)))),(27,.bool ((decide (cc.kind≠(4:Int)))&&(!(us.getD k false))))]∧St w0 w noX [rdv 12 vl l.length (encs eC l),rdv 1 vu us.length (bools us)] [pt b_c4 (.cells #[.int .u8 cc.kind,.int .i64 cc.a.num,.int .i64 cc.a.yr,.int .u8 cc.a.half,.int .u8 cc.a.sec,.int .i64 cc.a.cyc,.int .i64 cc.b.num,.int .i64 cc.b.yr,.int .u8 cc.b.half,.int .u8 cc.b.sec,.int .i64 cc.b.cyc,.int .i64 cc.n] 26 (0,0)),stA 95 24 b_m2 kvs gs,pt b_does1 (.cells #[.nilFunc,.func (.func 56) #[] #[],.func (.func 57) #[] #[],.func (.func 58) #[] #[]] 105 (0,0))]) rfl ?_ ?_
    · rcases Bool.eq_false_or_eq_true (decide (cc.kind≠(4:Int))) with hb5 | hb5
      · have hb5p:=of_decide_eq_true hb5
        refine og (v:=vu) hf rfl hb5 (RunV.move rfl) ?_; clear hf a; intro a hf; refine og (v:=.int .i64 (k:Int)) hf rfl hb5 (RunV.move rfl) ?_; clear hf a; intro a hf; refine og (v:=ix vu k) hf rfl hb5 (RunV.ixV (j:=k) (m:=k) T_elem_51 T_size_4 rfl rfl (hS.rdAt (j:=1) rfl) rfl (by omega) (Nat.mul_one _)) ?_; clear hf a; intro a hf; refine og (v:=.bool (us.getD k false)) hf rfl hb5 (RunV.ld1 T_agg_4 rfl (hS.rdAt (j:=1) rfl) (bools_get (by omega))) ?_; clear hf a; intro a hf; refine og (v:=.bool (!(us.getD k false))) hf rfl hb5 (RunV.not rfl) ?_; clear hf a; intro a hf; refine ov (v:=.bool ((decide (cc.kind≠(4:Int)))&&(!(us.getD k false)))) hf rfl (RunV.pick rfl rfl rfl (by rw [hb5]; rfl)) ?_; clear hf a; intro a hf; exact O.nil ⟨rfl,hf.q rfl,hS⟩
      · have hb5p:=of_decide_eq_false hb5
        refine sk hf rfl hb5 fun a hf=>sk hf rfl hb5 fun a hf=>sk hf rfl hb5 fun a hf=>sk hf rfl hb5 fun a hf=>sk hf rfl hb5 fun a hf=>?_; refine ov (v:=.bool ((decide (cc.kind≠(4:Int)))&&(!(us.getD k false)))) hf rfl (RunV.pick rfl rfl rfl (by rw [hb5]; rfl)) ?_; clear hf a; intro a hf; exact O.nil ⟨rfl,hf.q rfl,hS⟩
    clear hf hS a; rintro a w ⟨hf,hS⟩; refine nk ?_; refine W.if_ hf rfl (fun hdo=>?_) (fun hdo=>?_)
    · have hdob:=hdo
      try simp only [Bool.and_eq_true,Bool.or_eq_true,Bool.and_eq_false_iff,Bool.or_eq_false_iff,decide_eq_true_eq,decide_eq_false_iff_not,Bool.not_eq_true',Bool.not_eq_false',Bool.not_eq_true,Bool.not_eq_false,ne_eq] at hdo
      have hkk:=hk k (by omega); simp only [Bool.and_eq_true,decide_eq_true_eq,Bool.not_eq_true'] at hdob; rw [← hcc] at hkk
      rcases (show cc.kind=1∨cc.kind=2∨cc.kind=3 by omega) with h1 | h1 | h1
      · have hS0:=hS
        rw [h1] at hS
        refine W.drawM (l₂:=[6]) (fun w=>St w0 w noX [rdv 12 vl l.length (encs eC l),rdv 1 vu us.length (bools us)] [pt b_c4 (.cells #[.int .u8 1,.int .i64 cc.a.num,.int .i64 cc.a.yr,.int .u8 cc.a.half,.int .u8 cc.a.sec,.int .i64 cc.a.cyc,.int .i64 cc.b.num,.int .i64 cc.b.yr,.int .u8 cc.b.half,.int .u8 cc.b.sec,.int .i64 cc.b.cyc,.int .i64 cc.n] 26 (0,0)),stA 95 24 b_m2 kvs gs,pt b_does1 (.cells #[.nilFunc,.func (.func 56) #[] #[],.func (.func 57) #[] #[],.func (.func 58) #[] #[]] 105 (0,0))]) 6 P_mixed rfl rfl rfl (by kernel_rfl) hS.drew ?_; clear hS; refine OQ.val (v:=.pointer (some ⟨b_c4,0,none⟩)) hf rfl (fun w hS=>RunV.field T_field_26_0 rfl rfl) fun a hf=>OQ.val (v:=.int .u8 1) hf rfl (fun w hS=>RunV.load1 T_agg_5 rfl (hS.p 0 rfl) rfl) fun a hf=>OQ.val (v:=.pointer (some ⟨b_does1,1,none⟩)) hf rfl (fun w hS=>RunV.indexArr (j:=1) (m:=1) T_arr_105 T_size_103 rfl rfl rfl (by omega) (by omega)) fun a hf=>OQ.val (v:=.func (.func 56) #[] #[]) hf rfl (fun w hS=>RunV.load1 T_agg_103 rfl (hS.p 2 rfl) rfl) fun a hf=>OQ.val (v:=.map (some b_m2)) hf rfl (fun w hS=>RunV.move rfl) fun a hf=>OQ.val (v:=.agg #[.int .u8 1,.int .i64 cc.a.num,.int .i64 cc.a.yr,.int .u8 cc.a.half,.int .u8 cc.a.sec,.int .i64 cc.a.cyc,.int .i64 cc.b.num,.int .i64 cc.b.yr,.int .u8 cc.b.half,.int .u8 cc.b.sec,.int .i64 cc.b.cyc,.int .i64 cc.n]) hf rfl (fun w hS=>RunV.loadN (cs':=#[.int .u8 1,.int .i64 cc.a.num,.int .i64 cc.a.yr,.int .u8 cc.a.half,.int .u8 cc.a.sec,.int .i64 cc.a.cyc,.int .i64 cc.b.num,.int .i64 cc.b.yr,.int .u8 cc.b.half,.int .u8 cc.b.sec,.int .i64 cc.b.cyc,.int .i64 cc.n]) T_agg_26 T_size_26 rfl (hS.p 0 rfl) (bl rfl) rfl) fun a hf=>?_; refine OQ.nil ?_; intro w hS; rw [show (Value.agg #[.int .u8 1,.int .i64 cc.a.num,.int .i64 cc.a.yr,.int .u8 cc.a.half,.int .u8 cc.a.sec,.int .i64 cc.a.cyc,.int .i64 cc.b.num,.int .i64 cc.b.yr,.int .u8 cc.b.half,.int .u8 cc.b.sec,.int .i64 cc.b.cyc,.int .i64 cc.n])=cV cc from by unfold cV; rw [h1]] at hf; refine O.callP hf rfl rfl rfl (RunE.call (av:=#[.map (some b_m2),cV cc]) C_ok_56 rfl rfl rfl) (add_do (c:=cc) (hS.lentAt (i:=1) rfl) hI) ?_ ?_
        rotate_left 1
        · rintro e w1 ⟨he,hS1⟩ a hf
          replace hS:=(hS.callX1 hS1 (i:=1) rfl (fun _ h=>h)).eqM (N:=[pt b_c4 (.cells #[.int .u8 1,.int .i64 cc.a.num,.int .i64 cc.a.yr,.int .u8 cc.a.half,.int .u8 cc.a.sec,.int .i64 cc.a.cyc,.int .i64 cc.b.num,.int .i64 cc.b.yr,.int .u8 cc.b.half,.int .u8 cc.b.sec,.int .i64 cc.b.cyc,.int .i64 cc.n] 26 (0,0)),pt b_does1 (.cells #[.nilFunc,.func (.func 56) #[] #[],.func (.func 57) #[] #[],.func (.func 58) #[] #[]] 105 (0,0))]) rfl; refine k_blk_panic<|k_seq_panic<|k_seq_panic<|k_blk_panic<|k_seq_panic<|post_panic hf<|?_; exact .inr ⟨e,rfl,playM_err (k:=k+1) (by rw [hcc] at hdob; rw [playK_do hp hdob.1 hdob.2,← hcc]; unfold stepM; rw [if_pos h1]; exact he) (by omega),hS.sub (List.nil_sublist _) |>.noB⟩
        clear hf a; rintro ⟨kv2,gs2⟩ w7 ⟨hS1,S2,hs2,hI2,ht2⟩ a hf; replace hS:=(hS.callX1 hS1 (i:=1) rfl (fun _ h=>h)).eqM (N:=[stA 95 24 b_m2 kv2 gs2,pt b_c4 (.cells #[.int .u8 1,.int .i64 cc.a.num,.int .i64 cc.a.yr,.int .u8 cc.a.half,.int .u8 cc.a.sec,.int .i64 cc.a.cyc,.int .i64 cc.b.num,.int .i64 cc.b.yr,.int .u8 cc.b.half,.int .u8 cc.b.sec,.int .i64 cc.b.cyc,.int .i64 cc.n] 26 (0,0)),pt b_does1 (.cells #[.nilFunc,.func (.func 56) #[] #[],.func (.func 57) #[] #[],.func (.func 58) #[] #[]] 105 (0,0))]) rfl; refine O.nil<|k_blk_normal<|k_seq<|?_
        refine W.regionL (l:=[0,1]) rfl<|ov hf rfl (RunV.addI rfl rfl (by omega))<|?_; clear hf a; intro a hf; refine mv hf rfl ?_; clear hf a; intro a hf; refine O.nil ?_; replace hS:=hS.sl [1,0,1]; refine k_then ⟨(k+1,kv2,gs2,S2),⟨hf.to ⟨rfl,rfl,rfl,rfl,rfl,rfl,(by first | rfl | exact congrArg some (congrArg (Value.int _) (by omega))),trivial⟩,?_,?_,?_,?_,?_⟩,?_⟩
        · exact hS.eqM rfl
        · omega
        · rw [hcc] at hdob; rw [playK_do hp hdob.1 hdob.2,← hcc]; unfold stepM; rw [if_pos h1]; exact hs2
        · exact hI2
        · omega
        · dsimp only; omega
      · have hS0:=hS
        rw [h1] at hS
        refine W.drawM (l₂:=[6]) (fun w=>St w0 w noX [rdv 12 vl l.length (encs eC l),rdv 1 vu us.length (bools us)] [pt b_c4 (.cells #[.int .u8 2,.int .i64 cc.a.num,.int .i64 cc.a.yr,.int .u8 cc.a.half,.int .u8 cc.a.sec,.int .i64 cc.a.cyc,.int .i64 cc.b.num,.int .i64 cc.b.yr,.int .u8 cc.b.half,.int .u8 cc.b.sec,.int .i64 cc.b.cyc,.int .i64 cc.n] 26 (0,0)),stA 95 24 b_m2 kvs gs,pt b_does1 (.cells #[.nilFunc,.func (.func 56) #[] #[],.func (.func 57) #[] #[],.func (.func 58) #[] #[]] 105 (0,0))]) 6 P_mixed rfl rfl rfl (by kernel_rfl) hS.drew ?_; clear hS; refine OQ.val (v:=.pointer (some ⟨b_c4,0,none⟩)) hf rfl (fun w hS=>RunV.field T_field_26_0 rfl rfl) fun a hf=>OQ.val (v:=.int .u8 2) hf rfl (fun w hS=>RunV.load1 T_agg_5 rfl (hS.p 0 rfl) rfl) fun a hf=>OQ.val (v:=.pointer (some ⟨b_does1,2,none⟩)) hf rfl (fun w hS=>RunV.indexArr (j:=2) (m:=2) T_arr_105 T_size_103 rfl rfl rfl (by omega) (by omega)) fun a hf=>OQ.val (v:=.func (.func 57) #[] #[]) hf rfl (fun w hS=>RunV.load1 T_agg_103 rfl (hS.p 2 rfl) rfl) fun a hf=>OQ.val (v:=.map (some b_m2)) hf rfl (fun w hS=>RunV.move rfl) fun a hf=>OQ.val (v:=.agg #[.int .u8 2,.int .i64 cc.a.num,.int .i64 cc.a.yr,.int .u8 cc.a.half,.int .u8 cc.a.sec,.int .i64 cc.a.cyc,.int .i64 cc.b.num,.int .i64 cc.b.yr,.int .u8 cc.b.half,.int .u8 cc.b.sec,.int .i64 cc.b.cyc,.int .i64 cc.n]) hf rfl (fun w hS=>RunV.loadN (cs':=#[.int .u8 2,.int .i64 cc.a.num,.int .i64 cc.a.yr,.int .u8 cc.a.half,.int .u8 cc.a.sec,.int .i64 cc.a.cyc,.int .i64 cc.b.num,.int .i64 cc.b.yr,.int .u8 cc.b.half,.int .u8 cc.b.sec,.int .i64 cc.b.cyc,.int .i64 cc.n]) T_agg_26 T_size_26 rfl (hS.p 0 rfl) (bl rfl) rfl) fun a hf=>?_; refine OQ.nil ?_; intro w hS; rw [show (Value.agg #[.int .u8 2,.int .i64 cc.a.num,.int .i64 cc.a.yr,.int .u8 cc.a.half,.int .u8 cc.a.sec,.int .i64 cc.a.cyc,.int .i64 cc.b.num,.int .i64 cc.b.yr,.int .u8 cc.b.half,.int .u8 cc.b.sec,.int .i64 cc.b.cyc,.int .i64 cc.n])=cV cc from by unfold cV; rw [h1]] at hf; refine O.callP hf rfl rfl rfl (RunE.call (av:=#[.map (some b_m2),cV cc]) C_ok_57 rfl rfl rfl) (join_do (c:=cc) (hS.lentAt (i:=1) rfl) hI (by omega)) ?_ ?_
        rotate_left 1
        · rintro e w1 ⟨he,hS1⟩ a hf
          replace hS:=(hS.callX1 hS1 (i:=1) rfl (fun _ h=>h)).eqM (N:=[pt b_c4 (.cells #[.int .u8 2,.int .i64 cc.a.num,.int .i64 cc.a.yr,.int .u8 cc.a.half,.int .u8 cc.a.sec,.int .i64 cc.a.cyc,.int .i64 cc.b.num,.int .i64 cc.b.yr,.int .u8 cc.b.half,.int .u8 cc.b.sec,.int .i64 cc.b.cyc,.int .i64 cc.n] 26 (0,0)),pt b_does1 (.cells #[.nilFunc,.func (.func 56) #[] #[],.func (.func 57) #[] #[],.func (.func 58) #[] #[]] 105 (0,0))]) rfl; refine k_blk_panic<|k_seq_panic<|k_seq_panic<|k_blk_panic<|k_seq_panic<|post_panic hf<|?_; exact .inr ⟨e,rfl,playM_err (k:=k+1) (by rw [hcc] at hdob; rw [playK_do hp hdob.1 hdob.2,← hcc]; unfold stepM; rw [if_neg (by omega),if_pos h1]; exact he) (by omega),hS.sub (List.nil_sublist _) |>.noB⟩
        clear hf a; rintro ⟨kv2,gs2⟩ w8 ⟨hS1,S2,hs2,hI2,ht2⟩ a hf; replace hS:=(hS.callX1 hS1 (i:=1) rfl (fun _ h=>h)).eqM (N:=[stA 95 24 b_m2 kv2 gs2,pt b_c4 (.cells #[.int .u8 2,.int .i64 cc.a.num,.int .i64 cc.a.yr,.int .u8 cc.a.half,.int .u8 cc.a.sec,.int .i64 cc.a.cyc,.int .i64 cc.b.num,.int .i64 cc.b.yr,.int .u8 cc.b.half,.int .u8 cc.b.sec,.int .i64 cc.b.cyc,.int .i64 cc.n] 26 (0,0)),pt b_does1 (.cells #[.nilFunc,.func (.func 56) #[] #[],.func (.func 57) #[] #[],.func (.func 58) #[] #[]] 105 (0,0))]) rfl; refine O.nil<|k_blk_normal<|k_seq<|?_
        refine W.regionL (l:=[0,1]) rfl<|ov hf rfl (RunV.addI rfl rfl (by omega))<|?_; clear hf a; intro a hf; refine mv hf rfl ?_; clear hf a; intro a hf; refine O.nil ?_; replace hS:=hS.sl [1,0,1]; refine k_then ⟨(k+1,kv2,gs2,S2),⟨hf.to ⟨rfl,rfl,rfl,rfl,rfl,rfl,(by first | rfl | exact congrArg some (congrArg (Value.int _) (by omega))),trivial⟩,?_,?_,?_,?_,?_⟩,?_⟩
        · exact hS.eqM rfl
        · omega
        · rw [hcc] at hdob; rw [playK_do hp hdob.1 hdob.2,← hcc]; unfold stepM; rw [if_neg (by omega),if_pos h1]; exact hs2
        · exact hI2
        · omega
        · dsimp only; omega
      · have hS0:=hS
        rw [h1] at hS
        refine W.drawM (l₂:=[6]) (fun w=>St w0 w noX [rdv 12 vl l.length (encs eC l),rdv 1 vu us.length (bools us)] [pt b_c4 (.cells #[.int .u8 3,.int .i64 cc.a.num,.int .i64 cc.a.yr,.int .u8 cc.a.half,.int .u8 cc.a.sec,.int .i64 cc.a.cyc,.int .i64 cc.b.num,.int .i64 cc.b.yr,.int .u8 cc.b.half,.int .u8 cc.b.sec,.int .i64 cc.b.cyc,.int .i64 cc.n] 26 (0,0)),stA 95 24 b_m2 kvs gs,pt b_does1 (.cells #[.nilFunc,.func (.func 56) #[] #[],.func (.func 57) #[] #[],.func (.func 58) #[] #[]] 105 (0,0))]) 6 P_mixed rfl rfl rfl (by kernel_rfl) hS.drew ?_; clear hS; refine OQ.val (v:=.pointer (some ⟨b_c4,0,none⟩)) hf rfl (fun w hS=>RunV.field T_field_26_0 rfl rfl) fun a hf=>OQ.val (v:=.int .u8 3) hf rfl (fun w hS=>RunV.load1 T_agg_5 rfl (hS.p 0 rfl) rfl) fun a hf=>OQ.val (v:=.pointer (some ⟨b_does1,3,none⟩)) hf rfl (fun w hS=>RunV.indexArr (j:=3) (m:=3) T_arr_105 T_size_103 rfl rfl rfl (by omega) (by omega)) fun a hf=>OQ.val (v:=.func (.func 58) #[] #[]) hf rfl (fun w hS=>RunV.load1 T_agg_103 rfl (hS.p 2 rfl) rfl) fun a hf=>OQ.val (v:=.map (some b_m2)) hf rfl (fun w hS=>RunV.move rfl) fun a hf=>OQ.val (v:=.agg #[.int .u8 3,.int .i64 cc.a.num,.int .i64 cc.a.yr,.int .u8 cc.a.half,.int .u8 cc.a.sec,.int .i64 cc.a.cyc,.int .i64 cc.b.num,.int .i64 cc.b.yr,.int .u8 cc.b.half,.int .u8 cc.b.sec,.int .i64 cc.b.cyc,.int .i64 cc.n]) hf rfl (fun w hS=>RunV.loadN (cs':=#[.int .u8 3,.int .i64 cc.a.num,.int .i64 cc.a.yr,.int .u8 cc.a.half,.int .u8 cc.a.sec,.int .i64 cc.a.cyc,.int .i64 cc.b.num,.int .i64 cc.b.yr,.int .u8 cc.b.half,.int .u8 cc.b.sec,.int .i64 cc.b.cyc,.int .i64 cc.n]) T_agg_26 T_size_26 rfl (hS.p 0 rfl) (bl rfl) rfl) fun a hf=>?_; refine OQ.nil ?_; intro w hS; rw [show (Value.agg #[.int .u8 3,.int .i64 cc.a.num,.int .i64 cc.a.yr,.int .u8 cc.a.half,.int .u8 cc.a.sec,.int .i64 cc.a.cyc,.int .i64 cc.b.num,.int .i64 cc.b.yr,.int .u8 cc.b.half,.int .u8 cc.b.sec,.int .i64 cc.b.cyc,.int .i64 cc.n])=cV cc from by unfold cV; rw [h1]] at hf; refine O.callP hf rfl rfl rfl (RunE.call (av:=#[.map (some b_m2),cV cc]) C_ok_58 rfl rfl rfl) (name_do (c:=cc) (hS.lentAt (i:=1) rfl) hI (by omega)) ?_ ?_
        rotate_left 1
        · rintro e w1 ⟨he,hS1⟩ a hf
          replace hS:=(hS.callX1 hS1 (i:=1) rfl (fun _ h=>h)).eqM (N:=[pt b_c4 (.cells #[.int .u8 3,.int .i64 cc.a.num,.int .i64 cc.a.yr,.int .u8 cc.a.half,.int .u8 cc.a.sec,.int .i64 cc.a.cyc,.int .i64 cc.b.num,.int .i64 cc.b.yr,.int .u8 cc.b.half,.int .u8 cc.b.sec,.int .i64 cc.b.cyc,.int .i64 cc.n] 26 (0,0)),pt b_does1 (.cells #[.nilFunc,.func (.func 56) #[] #[],.func (.func 57) #[] #[],.func (.func 58) #[] #[]] 105 (0,0))]) rfl; refine k_blk_panic<|k_seq_panic<|k_seq_panic<|k_blk_panic<|k_seq_panic<|post_panic hf<|?_; exact .inr ⟨e,rfl,playM_err (k:=k+1) (by rw [hcc] at hdob; rw [playK_do hp hdob.1 hdob.2,← hcc]; unfold stepM; rw [if_neg (by omega),if_neg (by omega)]; exact he) (by omega),hS.sub (List.nil_sublist _) |>.noB⟩
        clear hf a; rintro ⟨kv2,gs2⟩ w9 ⟨hS1,S2,hs2,hI2,ht2⟩ a hf; replace hS:=(hS.callX1 hS1 (i:=1) rfl (fun _ h=>h)).eqM (N:=[stA 95 24 b_m2 kv2 gs2,pt b_c4 (.cells #[.int .u8 3,.int .i64 cc.a.num,.int .i64 cc.a.yr,.int .u8 cc.a.half,.int .u8 cc.a.sec,.int .i64 cc.a.cyc,.int .i64 cc.b.num,.int .i64 cc.b.yr,.int .u8 cc.b.half,.int .u8 cc.b.sec,.int .i64 cc.b.cyc,.int .i64 cc.n] 26 (0,0)),pt b_does1 (.cells #[.nilFunc,.func (.func 56) #[] #[],.func (.func 57) #[] #[],.func (.func 58) #[] #[]] 105 (0,0))]) rfl; refine O.nil<|k_blk_normal<|k_seq<|?_
        refine W.regionL (l:=[0,1]) rfl<|ov hf rfl (RunV.addI rfl rfl (by omega))<|?_; clear hf a; intro a hf; refine mv hf rfl ?_; clear hf a; intro a hf; refine O.nil ?_; replace hS:=hS.sl [1,0,1]; refine k_then ⟨(k+1,kv2,gs2,S2),⟨hf.to ⟨rfl,rfl,rfl,rfl,rfl,rfl,(by first | rfl | exact congrArg some (congrArg (Value.int _) (by omega))),trivial⟩,?_,?_,?_,?_,?_⟩,?_⟩
        · exact hS.eqM rfl
        · omega
        · rw [hcc] at hdob; rw [playK_do hp hdob.1 hdob.2,← hcc]; unfold stepM; rw [if_neg (by omega),if_neg (by omega)]; exact hs2
        · exact hI2
        · omega
        · dsimp only; omega
    · have hdob:=hdo
      try simp only [Bool.and_eq_true,Bool.or_eq_true,Bool.and_eq_false_iff,Bool.or_eq_false_iff,decide_eq_true_eq,decide_eq_false_iff_not,Bool.not_eq_true',Bool.not_eq_false',Bool.not_eq_true,Bool.not_eq_false,ne_eq] at hdo
      refine W.skip<|k_blk_normal<|k_seq<|?_
      refine W.regionL (l:=[0,1]) rfl<|ov hf rfl (RunV.addI rfl rfl (by omega))<|?_; clear hf a; intro a hf; refine mv hf rfl ?_; clear hf a; intro a hf; refine O.nil ?_; replace hS:=hS.sl [0,1,1]; refine k_then ⟨(k+1,kvs,gs,S),⟨hf.to ⟨rfl,rfl,rfl,rfl,rfl,rfl,(by first | rfl | exact congrArg some (congrArg (Value.int _) (by omega))),trivial⟩,?_,?_,?_,?_,?_⟩,?_⟩
      · exact hS.eqM rfl
      · omega
      · exact playK_no hp (fun h=>by rw [← hcc] at h; rw [decide_eq_true h.1,h.2] at hdob; cases hdob)
      · exact hI
      · omega
      · dsimp only; omega
  · refine W.exit ?_
    refine k_then_exit<|k_then_exit<|k_blk<|k_seq<|W.seq<|?_
    refine W.regionL (l:=[0,1]) rfl<|mv hf rfl<|?_; clear hf a; intro a hf; refine mv hf rfl ?_; clear hf a; intro a hf; refine nk<|W.ret<|post1 hf rfl (ResOK.tmp rfl)<|?_; obtain rfl:k=l.length:=by omega
    exact .inl ⟨(b_m2,kvs,gs),rfl,(hS.sub (List.Sublist.cons_cons _ (List.nil_sublist _))).noB,S,hp,hI,hz⟩
end Go.Proofs.YtgakdmmmljdpjaaDoor

namespace Go.SL
open Go
section
variable {P:Program} {Q:Exit→Act→World→Prop} {ops:Array Oper} {i:Nat} {rest:List Nat} {a:Act} {w w0:World} {n:Nat} {ds:List Deferred} {L:List (Nat × Value)}
  {d:Nat} {ty t:TypeId} {pos:String} {af:Array Edge} {v u z:Value} {X:Nat→Prop} {B M:List Asr} {x y:Operand} {f:FuncId} {fn:Func} {c:Code} {lv vs:List Value} {R0:World→Prop}
def dfrC (f:FuncId) (vs:List Value):Deferred:={ target:=.fn (.func f) vs.toArray,args:=#[] }
theorem O.deferC {at_:Array TypeId} (hf:Fr a n ds L) (ho:ops[i]? = some ⟨none,.defer ⟨.value y,#[],at_⟩,ty,pos,af,none⟩) (hv:ev L y=some (.func (.func f) #[] vs.toArray))
    (k:∀ a',Fr a' n (dfrC f vs::ds) L→O none P ops Q rest a' w):O none P ops Q (i::rest) a w:=by
  unfold O wpOpsIn
  simp only [ho]
  rw [if_pos (by simp [Region.wanted])]
  refine ⟨fun _ _=>trivial,?_⟩
  have h1:(Oper.semAt (FW none).round a.eval ⟨none,.defer ⟨.value y,#[],at_⟩,ty,pos,af,none⟩).run P w=.ok (.defer (dfrC f vs)) w:=by
    show (execOp a.eval ⟨none,.defer ⟨.value y,#[],at_⟩,ty,pos,af,none⟩).run P w=_
    simp [execOp,resolve,Deferred.ofValue,hf.eval hv,dfrC]
  rw [h1]
  exact k _ ⟨hf.size,by show dfrC f vs::a.defers=_; rw [hf.defers],hf.get⟩
theorem postDC {R:Ending→World→Prop} (hf:Fr a n [dfrC f vs] L) (hi:callOK P f=true) (hc:CallsDIn (FW none) 0 P f vs.toArray .returning w (fun e u' w'=>u'=.returning∧e=.returned (.tuple #[])∧w'=w))
    (h:∀ a',Fr a' n [] L→bodyPost P fn R .ret a' w):bodyPostDIn (FW none) 0 P fn R .ret a w:=by
  show LeavesIn (FW none) 0 P fn a.tmps R a.defers .returning w
  rw [hf.defers]
  refine leavesIn_cons (by simp) (by simp [FW]) (show (invoke (.fn (.func f) vs.toArray) #[]).run P w=.ok (.enter f vs.toArray) w by simpa [invoke] using callOK_enter hi vs.toArray w) (fun _ _=>trivial) ?_
  refine hc.mono (fun e u' w' hh=>?_)
  obtain ⟨rfl,rfl,rfl⟩:=hh
  obtain ⟨_,v,h1,h2⟩:=h { a with defers:=[] } ⟨hf.size,rfl,hf.get⟩
  exact ⟨v,h1,h2⟩
theorem postDP {R:Ending→World→Prop} (hf:Fr a n [dfrC f vs] L) (hi:callOK P f=true) (hc:CallsDIn (FW none) 0 P f vs.toArray (.panicking [⟨v,false,false⟩]) w (fun e u' w'=>u'=.panicking [⟨v,true,false⟩]∧e=.returned (.tuple #[])∧R0 w'))
    (h:∀ w',R0 w'→∀ a',Fr a' n [] L→bodyPost P fn R .ret a' w'):bodyPostDIn (FW none) 0 P fn R (.panic [⟨v,false,false⟩]) a w:=by
  show LeavesIn (FW none) 0 P fn a.tmps R a.defers (.panicking [⟨v,false,false⟩]) w
  rw [hf.defers]
  refine leavesIn_cons (by simp) (by simp [FW]) (show (invoke (.fn (.func f) vs.toArray) #[]).run P w=.ok (.enter f vs.toArray) w by simpa [invoke] using callOK_enter hi vs.toArray w) (fun _ _=>trivial) ?_
  refine hc.mono (fun e u' w' hh=>?_)
  obtain ⟨rfl,rfl,hR⟩:=hh
  obtain ⟨_,v,h1,h2⟩:=h w' hR { a with defers:=[] } ⟨hf.size,rfl,hf.get⟩
  exact ⟨v,h1,h2⟩
theorem recoverPan {r0:Nat} (hf:P.funcs[f]? = some fn) (hb:fn.body=some (.seq (.region r0 #[⟨some d,.call ⟨.builtin .recover,#[],#[]⟩,ty,pos,af,none⟩] false) c)) (hn:fn.ntmps=n) (hl:Nat.ble lv.length n=true) (hd:Nat.blt d n=true)
    (h:∀ a,Fr a n [] ((d,v)::argsL 0 lv)→W none P c (bodyPost P fn (fun e w'=>e=.returned (.tuple #[])∧R0 w')) a w) :
    CallsDIn (FW none) 0 P f lv.toArray (.panicking [⟨v,false,false⟩]) w (fun e u' w'=>u'=.panicking [⟨v,true,false⟩]∧e=.returned (.tuple #[])∧R0 w'):=by
  refine callsDIn_of_wpSIn hf hb trivial (fun c0 cs hm=>wpSIn_seq (wpSIn_region ?_))
  have hF:=Fr.start (l:=lv) (n:=n) (m:=n-lv.toArray.size) rfl (by simpa using hl) rfl
  show wpOpsSIn _ _ _ _ _ [0] _ _ _
  unfold wpOpsSIn
  simp only [List.getElem?_toArray,List.getElem?_cons_zero]
  refine ⟨fun _ _=>trivial,?_⟩
  rw [if_pos (by simp [Region.wanted])]
  have h1:∀ ρ,(execOp ρ ⟨some d,.call ⟨.builtin .recover,#[],#[]⟩,ty,pos,af,none⟩).run P w=.ok .recover w:=fun ρ=>by
    simp [execOp,resolve,invoke,builtin]
  rw [h1]
  have h2:recoverD (c0::cs)=some (v,{ c0 with mode:=.panicking [⟨v,true,false⟩] }::cs):=by simp [recoverD,hm]
  simp only [h2]
  unfold wpOpsSIn
  rw [hn]
  refine wpSIn_of_wpIn rfl ?_
  have h3:=h _ (hF.put hd v)
  refine wpIn_mono h3 (fun e a' w' hq=>?_)
  cases e with
  | normal =>
    obtain ⟨g1,v',g2,g3,g4⟩:=hq
    exact ⟨g1,.panicking [⟨v,true,false⟩],rfl,v',g2,rfl,g3,g4⟩
  | ret =>
    obtain ⟨g1,v',g2,g3,g4⟩:=hq
    exact ⟨g1,.panicking [⟨v,true,false⟩],rfl,v',g2,rfl,g3,g4⟩
  | panic ch =>
    obtain ⟨g1,g2,g3⟩:=hq
    cases g2
  | exit id=>exact hq.elim
  | goto l=>exact hq.elim
  | outgrown=>exact ⟨.returning,by obtain ⟨g1,_⟩:=hq; cases g1⟩
theorem RunV.eqIface {t':TypeId} {tx:TypeId} {vx:Value} (ht:tIface P t=true) (hx:ev L x=some (.iface tx vx)):RunV P n ds L (.binOp .eql t x (.const .nilIface) t') ty w (.bool false) w:=fun a d pos af g hf=>by
  simp only [execOp,hf.eval hx]
  have e0:a.eval (.const .nilIface)=.nilIface:=rfl
  rw [e0]
  have e1:(eqGuard .eql t x (.const .nilIface) (.iface tx vx) .nilIface).run P w=.ok () w:=by simp [eqGuard]
  have e2:(binOp .eql t (.iface tx vx) .nilIface).run P w=.ok (.bool false) w:=by
    unfold tIface at ht
    split at ht
    · rename_i ms hms
      have:∀ d:Nat,(Op.equalIn (d+1) t (.iface tx vx) .nilIface).run P w=.ok false w:=fun d=>by
        simp [Op.equalIn,run_underlying hms]
      simp only [binOp,Op.equal,Op.maxDepth,Sem.run_bind,this 9999,Result.andThen_ok,Sem.run_pure]
    · cases ht
  simp only [Sem.run_bind,e1,e2,Result.andThen_ok,Sem.run_pure]
end
end Go.SL

namespace Go.SL
open Go
def sget (ins:List Bool) (k:Int):Bool:=if k<0 then false else ins.getD k.toNat false
section
variable {r:Option Nat} {P:Program} {ops:Array Oper} {Q:Exit→Act→World→Prop} {a:Act} {w w0:World} {n:Nat} {ds:List Deferred} {L:List (Nat × Value)} {X:Nat→Prop} {B M M':List Asr}
  {d i j b:Nat} {ty t kt:TypeId} {pos:String} {af:Array Edge} {rest:List Nat} {x y z:Operand} {ins:List Bool} {k:Int}
end
end Go.SL

namespace Go.SL
open Go
section
variable {r:Option Nat} {P:Program} {ops:Array Oper} {Q:Exit→Act→World→Prop} {a:Act} {w w0:World} {n n':Nat} {ds:List Deferred} {L:List (Nat × Value)} {X:Nat→Prop} {B M M':List Asr}
  {d i j b:Nat} {op:Op} {ty t e:TypeId} {pos:String} {af:Array Edge} {rest:List Nat} {x y z:Operand} {f:FuncId}
def Exit.stl (Q:Exit→Act→World→Prop):Exit→Act→World→Prop
  | .goto _,_,_=>False
  | e,a,w=>Q e a w
end
end Go.SL

namespace Go.SL
open Go
section
variable {P:Program} {w:World} {n:Nat} {ds:List Deferred} {L:List (Nat × Value)} {ty t e:TypeId} {x:Operand} {b:Nat}
theorem RunV.sliceAll {len sz o:Nat} (ha:tArr P t=some (len,e)) (hs:tSize P e=some sz) (hx:ev L x=some (.pointer (some ⟨b,o,none⟩))) :
    RunV P n ds L (.slice t x none none none) ty w (.slice (some ⟨b,o,none⟩) len len) w:=fun a d pos af g hf=>by
  have hu:=run_underlying (w:=w) (und_arr ha)
  simp only [execOp,hf.eval hx,Option.map_none]
  refine run_v ?_
  have hsz:=run_sizeOf (w:=w) hs
  have e1:(if len=0 then (⟨b,o,none⟩:Addr) else Addr.add ⟨b,o,none⟩ (0*sz))=⟨b,o,none⟩:=by
    split
    · rfl
    · exact (add_none _ _ _).trans (by simp)
  simp only [Instr.sliceAt,Instr.sureAddr,Instr.sliceBounds,Sem.run_bind,Sem.run_pure,Result.andThen,hu,hsz,Option.isSome_none,e1,Nat.sub_zero]
end
end Go.SL

namespace Go.SL
open Go
def ordsL:List Int:=[65,66,67,68,69,70,71,72,74,75,76,77,78,79,80,81,82,83,84,85,86,87,88,89,90]
def runes (l:List Int):List Value:=l.map (Value.int .i32)
def ordT (ty:TypeId):Obj:=.cells #[.int .i32 65,.int .i32 66,.int .i32 67,.int .i32 68,.int .i32 69,.int .i32 70,.int .i32 71,.int .i32 72,.int .i32 74,.int .i32 75,.int .i32 76,.int .i32 77,.int .i32 78,.int .i32 79,.int .i32 80,.int .i32 81,.int .i32 82,.int .i32 83,.int .i32 84,.int .i32 85,.int .i32 86,.int .i32 87,.int .i32 88,.int .i32 89,.int .i32 90] ty (0,0)
def ordA:Asr:=⟨fun b=>b=0,fun h=>∃ ty,h 0=some (ordT ty),fun h h' hk ⟨ty,hh⟩=>⟨ty,(hk 0 rfl).trans hh⟩⟩
theorem runes_get {l:List Int} {j:Nat} (h:j<l.length):(runes l)[j]? = some (.int .i32 (l.getD j 0)):=by
  simp [runes,List.getD_eq_getElem?_getD,List.getElem?_eq_getElem h]
def plK (v:Int):Nat→List Int→Int
  | _,[]=>-1
  | k,x::t=>if v=x then (k:Int) else plK v (k+1) t
def placeM (v:Int):Int:=plK v 0 ordsL
theorem plK_go {v:Int}:∀ {l:List Int} {k:Nat} (j:Nat),(∀ i,i<j→v≠l.getD i 0)→j≤l.length→plK v k l=plK v (k+j) (l.drop j)
  | _,_,0,_,_=>rfl
  | [],_,j+1,_,h=>by simp at h
  | x::t,k,j+1,hn,h=>by
    have h0:=hn 0 (by omega)
    simp only [List.getD_cons_zero] at h0
    simp only [plK,if_neg h0,List.drop_succ_cons]
    rw [plK_go j (fun i hi=>by have:=hn (i+1) (by omega); simpa using this) (by simpa using h),Nat.add_assoc,Nat.add_comm 1 j]
theorem plK_hit {v:Int} {l:List Int} {j:Nat} (hn:∀ i,i<j→v≠l.getD i 0) (hj:j<l.length) (h:v=l.getD j 0):plK v 0 l=(j:Int):=by
  rw [plK_go j hn (by omega)]
  rw [List.drop_eq_getElem_cons hj]
  simp only [List.getD_eq_getElem?_getD,List.getElem?_eq_getElem hj,Option.getD_some] at h
  simp only [plK,if_pos h,Nat.zero_add]
theorem plK_none {v:Int} {l:List Int} (hn:∀ i,i<l.length→v≠l.getD i 0):plK v 0 l=-1:=by
  rw [plK_go l.length hn (Nat.le_refl _),List.drop_length]; rfl
def okD (d:Dg):Bool :=
  if d.num≠0 then decide (d=⟨d.num,0,0,0,0⟩)&&decide (d.num>0)&&decide (d.num≤15396335)
  else decide (d.yr≥1800)&&decide (d.yr≤2099)&&(decide (placeM (IntKind.i32.wrap d.half)≥0)&&decide (placeM (IntKind.i32.wrap d.half)<24))&&decide (placeM (IntKind.i32.wrap d.sec)≥0)&&decide (d.cyc≥0)&&decide (d.cyc≤619)
def okC (c:Ch):Bool :=
  if c.kind=1 then okD c.a&&decide (c.a.num=0)&&decide (c.b=default)&&decide (c.n=0)
  else if c.kind=2 then okD c.a&&okD c.b&&decide (c.n=0)&&!decide (c.a=c.b)
  else if c.kind=3 then okD c.a&&okD c.b&&decide (c.n=0)&&decide (c.b.num>0)
  else if c.kind=4 then decide (c.a=default)&&decide (c.b=default)&&decide (c.n≥0)
  else false
def undoK (l:List Ch):Nat→Except Int (List Bool)
  | 0=>.ok (List.replicate l.length false)
  | k+1=>match undoK l k with
    | .error e=>.error e
    | .ok us =>
      if (l.getD k default).kind≠4 then .ok us else
      match playM (l.take k) us with
      | .error e=>.error e
      | .ok _ =>
        if (l.getD k default).n<(k:Int) then
          if (l.getD (l.getD k default).n.toNat default).kind≠4∧us.getD (l.getD k default).n.toNat false=false then
            match playM (l.take k) (us.set (l.getD k default).n.toNat true) with
            | .error _=>.error 36
            | .ok _=>.ok (us.set (l.getD k default).n.toNat true)
          else .error 36
        else .error 6
def histM (l:List Ch):Except Int (List PG × List Bool) :=
  if l.length>500 then .error 4
  else if l.all okC then
    match undoK l l.length with
    | .error e=>.error e
    | .ok us=>match playM l us with
      | .error e=>.error e
      | .ok S=>.ok (S,us)
  else .error 8
section
variable {l:List Ch} {k:Nat} {us:List Bool} {e:Int}
theorem undoK_err (h:undoK l k=.error e):∀ m,undoK l (k+m)=.error e
  | 0=>h
  | m+1=>by
    have:=undoK_err h m
    show undoK l ((k+m)+1)=_
    simp only [undoK,this]
theorem histM_err (h1:¬ l.length>500) (h2:l.all okC=true) (h:undoK l k=.error e) (hk:k≤l.length):histM l=.error e:=by
  have:=undoK_err h (l.length-k)
  rw [show k+(l.length-k)=l.length from by omega] at this
  unfold histM
  rw [if_neg h1,if_pos h2,this]
end
section
variable {w0 w:World} {X:Nat→Prop} {B M:List Asr} {p:Asr} {P:Program} {n:Nat} {ds:List Deferred} {L:List (Nat × Value)} {ty t:TypeId} {x:Operand} {v:Value}
theorem St.lendA (hS:St w w noX B M) (h:Lent w p):St w w noX (p::B) M :=
  ⟨hS.os,hS.tape,hS.output,hS.size,hS.old,hS.sep,fun q hq=>by
    rcases List.mem_cons.1 hq with rfl | hq
    · exact ⟨h.1,fun b hb=>⟨h.2 b hb,fun h=>h⟩⟩
    · exact hS.bor q hq⟩
theorem St.bptO (h:St w0 w X B M) {i:Nat} (hi:B[i]? = some ordA):Lent w ordA:=by
  have h1:ordA.holds (hp w):=h.bat hi
  refine ⟨h1,fun k hk=>?_⟩
  have hk:k=0:=hk
  obtain ⟨ty,h2⟩:=h1
  have h3:w.heap[0]? = some (ordT ty):=h2
  subst hk
  exact (Array.getElem?_eq_some_iff.1 h3).1
theorem ord_rd (h:Lent w ordA):rdOK (hp w) 1 (.slice (some ⟨0,0,none⟩) 25 25) 25 (runes ordsL):=by
  obtain ⟨ty,h1⟩:=h.1
  replace h1:w.heap[0]? = some (ordT ty):=h1
  refine ⟨by decide,by unfold maxLen; omega,some ⟨0,0,none⟩,25,rfl,fun _=>⟨_,_,_,_,rfl,rfl,h1,fun j u hu=>?_⟩⟩
  have hj:j<(runes ordsL).length:=(List.getElem?_eq_some_iff.1 hu).1
  have:(#[Value.int .i32 65,.int .i32 66,.int .i32 67,.int .i32 68,.int .i32 69,.int .i32 70,.int .i32 71,.int .i32 72,.int .i32 74,.int .i32 75,.int .i32 76,.int .i32 77,.int .i32 78,.int .i32 79,.int .i32 80,.int .i32 81,.int .i32 82,.int .i32 83,.int .i32 84,.int .i32 85,.int .i32 86,.int .i32 87,.int .i32 88,.int .i32 89,.int .i32 90]:Array Value)=(runes ordsL).toArray:=rfl
  rw [this]
  simpa using hu
theorem RunV.tAssert {tx ta:TypeId} {fs:Array Field} (hu:P.underlying ta=some (.struct fs)) (hx:ev L x=some (.iface ta v)):RunV P n ds L (.typeAssert x tx ta true) ty w (.tuple #[v,.bool true]) w:=fun a d pos af g hf=>by
  simp only [execOp,hf.eval hx]
  refine run_v ?_
  unfold Instr.typeAssert
  simp only [Sem.run_bind,run_underlying hu,Result.andThen]
  simp
theorem take_rd {h:Hp} {v:Value} {l:List Ch} {k:Nat} (hr:rdOK h 12 v l.length (encs eC l)) (hf:vfit v) (hk:k≤l.length):rdOK h 12 (vsub 12 v 0 (k:Int)) (l.take k).length (encs eC (l.take k)):=by
  have e:lsub l 0 (k:Int)=l.take k:=by simp [lsub]
  have:=(rdEOK.sub (enc:=eC) (l:=l) ⟨hr,hf⟩ eC_len (show sbd 0 (k:Int) (l.length:Int) from ⟨by omega,by omega,by omega⟩)).1
  rw [e] at this
  exact this
theorem okC_kind {c:Ch} (h:okC c=true):1≤c.kind∧c.kind≤4:=by
  unfold okC at h
  split at h
  · omega
  · split at h
    · omega
    · split at h
      · omega
      · split at h
        · omega
        · cases h
theorem okC_n {c:Ch} (h:okC c=true) (hk:c.kind=4):0≤c.n:=by
  unfold okC at h
  rw [if_neg (by omega),if_neg (by omega),if_neg (by omega),if_pos hk] at h
  simp only [Bool.and_eq_true,decide_eq_true_eq] at h
  exact h.2
theorem all_getD {l:List Ch} (h:∀ j,j<l.length→okC (l.getD j default)=true):l.all okC=true:=by
  rw [List.all_eq_true]
  intro x hx
  obtain ⟨j,hj,rfl⟩:=List.mem_iff_getElem.1 hx
  have:=h j hj
  simpa [List.getD_eq_getElem?_getD,List.getElem?_eq_getElem hj] using this
theorem take_getD {l:List Ch} {k j:Nat} (h:j<k):(l.take k).getD j default=l.getD j default:=by
  simp only [List.getD_eq_getElem?_getD,List.getElem?_take_of_lt h]
theorem kinds_take {l:List Ch} {k:Nat} (h:∀ j,j<l.length→okC (l.getD j default)=true):∀ j,j<(l.take k).length→1≤((l.take k).getD j default).kind∧((l.take k).getD j default).kind≤4:=fun j hj=>by
  rw [List.length_take] at hj
  rw [take_getD (by omega)]
  exact okC_kind (h j (by omega))
theorem kinds_all {l:List Ch} (h:∀ j,j<l.length→okC (l.getD j default)=true):∀ j,j<l.length→1≤(l.getD j default).kind∧(l.getD j default).kind≤4:=fun j hj=>okC_kind (h j hj)
theorem histM_bad {l:List Ch} {k:Nat} (h1:¬ l.length>500) (hk:k<l.length) (h:okC (l.getD k default)=false):histM l=.error 8:=by
  unfold histM
  rw [if_neg h1,if_neg]
  intro ha
  rw [List.all_eq_true] at ha
  have:=ha (l.getD k default) (by rw [List.getD_eq_getElem?_getD,List.getElem?_eq_getElem hk]; exact List.getElem_mem _)
  rw [this] at h; cases h
section
variable {l:List Ch} {k:Nat} {us:List Bool} {e:Int} {S:List PG}
theorem undo_skip (h:undoK l k=.ok us) (hk:(l.getD k default).kind≠4):undoK l (k+1)=.ok us:=by simp only [undoK,h]; rw [if_pos hk]
theorem undo_play (h:undoK l k=.ok us) (hk:(l.getD k default).kind=4) (hp:playM (l.take k) us=.error e):undoK l (k+1)=.error e:=by
  simp only [undoK,h]; rw [if_neg (by omega)]; simp only [hp]
theorem undo_n (h:undoK l k=.ok us) (hk:(l.getD k default).kind=4) (hp:playM (l.take k) us=.ok S) (hn:¬ (l.getD k default).n<(k:Int)):undoK l (k+1)=.error 6:=by
  simp only [undoK,h]; rw [if_neg (by omega)]; simp only [hp]; rw [if_neg hn]
theorem undo_state (h:undoK l k=.ok us) (hk:(l.getD k default).kind=4) (hp:playM (l.take k) us=.ok S) (hn:(l.getD k default).n<(k:Int))
    (hs:¬ ((l.getD (l.getD k default).n.toNat default).kind≠4∧us.getD (l.getD k default).n.toNat false=false)):undoK l (k+1)=.error 36:=by
  simp only [undoK,h]; rw [if_neg (by omega)]; simp only [hp]; rw [if_pos hn,if_neg hs]
theorem undo_again (h:undoK l k=.ok us) (hk:(l.getD k default).kind=4) (hp:playM (l.take k) us=.ok S) (hn:(l.getD k default).n<(k:Int))
    (hs:(l.getD (l.getD k default).n.toNat default).kind≠4∧us.getD (l.getD k default).n.toNat false=false) (hp2:playM (l.take k) (us.set (l.getD k default).n.toNat true)=.error e):undoK l (k+1)=.error 36:=by
  simp only [undoK,h]; rw [if_neg (by omega)]; simp only [hp]; rw [if_pos hn,if_pos hs]; simp only [hp2]
theorem undo_ok {S2:List PG} (h:undoK l k=.ok us) (hk:(l.getD k default).kind=4) (hp:playM (l.take k) us=.ok S) (hn:(l.getD k default).n<(k:Int))
    (hs:(l.getD (l.getD k default).n.toNat default).kind≠4∧us.getD (l.getD k default).n.toNat false=false) (hp2:playM (l.take k) (us.set (l.getD k default).n.toNat true)=.ok S2):undoK l (k+1)=.ok (us.set (l.getD k default).n.toNat true):=by
  simp only [undoK,h]; rw [if_neg (by omega)]; simp only [hp]; rw [if_pos hn,if_pos hs]; simp only [hp2]
theorem hist_play (h1:¬ l.length>500) (h2:l.all okC=true) (h:undoK l l.length=.ok us) (hp:playM l us=.error e):histM l=.error e:=by
  unfold histM; rw [if_neg h1,if_pos h2,h]; simp only [hp]
theorem hist_ok (h1:¬ l.length>500) (h2:l.all okC=true) (h:undoK l l.length=.ok us) (hp:playM l us=.ok S):histM l=.ok (S,us):=by
  unfold histM; rw [if_neg h1,if_pos h2,h]; simp only [hp]
theorem hist_many (h1:l.length>500):histM l=.error 4:=by unfold histM; rw [if_pos h1]
end
def errOf {T:Type}:Except Int T→Int
  | .error e=>e
  | .ok _=>0
def histA (b1 b2 b3 b4:Nat) (v1 v2 v3:Value) (ud:Bool):Asr:=bigA [pt b1 (.cells #[v1] 71 (0,0)),pt b2 (.cells #[v2] 51 (0,0)),pt b3 (.cells #[v3] 28 (0,0)),pt b4 (.cells #[.bool ud] 4 (0,0))]
def HistR (l:List Ch) (w0:World) (g:Value × Value × Nat × List (Dg × Value) × List Grp) (w:World):Prop :=
  match histM l with
  | .error _=>g.1=.map none∧g.2.1=.slice none 0 0∧St w0 w noX [] []
  | .ok (S,us)=>g.1=.map (some g.2.2.1)∧St w0 w noX [] [stA 95 24 g.2.2.1 g.2.2.2.1 g.2.2.2.2,sl 4 1 g.2.1 us.length (bools us)]∧IsS g.2.2.2.1 g.2.2.2.2 S
theorem HistR.err {l:List Ch} {w0 w:World} {e:Int} (h:histM l=.error e) (hS:St w0 w noX [] []):HistR l w0 (.map none,.slice none 0 0,0,[],[]) w:=by
  unfold HistR; rw [h]; exact ⟨rfl,rfl,hS⟩
theorem postDN {Q':Ending→World→Prop} {a:Act} {fn:Func} (hf:Fr a n [] L) (h:bodyPost P fn Q' .ret a w):bodyPostDIn (FW none) 0 P fn Q' .ret a w:=by
  obtain ⟨_,v,h1,h2⟩:=h
  show LeavesIn (FW none) 0 P fn a.tmps Q' a.defers .returning w
  rw [hf.defers]
  exact ⟨v,h1,h2⟩
end
end Go.SL
namespace Go.Proofs.YtgakdmmmljdpjaaDoor
open Go Go.SL
theorem eqD {P:Program} (hP:P=Tryd.prog) {w:World} {n:Nat} {ds:List Deferred} {L:List (Nat × Value)} {ty t2:TypeId} {x y:Operand} (d d':Dg) (hg:P.eqGuardType P.depth 24=false) (hx:ev L x=some (dV d)) (hy:ev L y=some (dV d')):RunV P n ds L (.binOp .eql 24 x y t2) ty w (.bool (decide (d=d'))) w:=fun a dd pos af g hf=>by
  subst hP
  simp only [execOp,hf.eval hx,hf.eval hy]
  have h:=keyD.eqk d d' w trivial trivial
  have e1:(eqGuard .eql 24 x y (dV d) (dV d')).run Tryd.prog w=.ok () w:=by
    unfold dV; simp [eqGuard,run_program,hg]
  have e2:(binOp .eql 24 (dV d) (dV d')).run Tryd.prog w=.ok (.bool (decide (d=d'))) w:=by
    unfold dV at h ⊢
    simp only [binOp,Sem.run_bind,h,Result.andThen_ok,Sem.run_pure]
  simp only [Sem.run_bind,e1,e2,Result.andThen_ok,Sem.run_pure]
theorem neD {P:Program} (hP:P=Tryd.prog) {w:World} {n:Nat} {ds:List Deferred} {L:List (Nat × Value)} {ty t2:TypeId} {x y:Operand} (d d':Dg) (hg:P.eqGuardType P.depth 24=false) (hx:ev L x=some (dV d)) (hy:ev L y=some (dV d')):RunV P n ds L (.binOp .neq 24 x y t2) ty w (.bool (!decide (d=d'))) w:=fun a dd pos af g hf=>by
  subst hP
  simp only [execOp,hf.eval hx,hf.eval hy]
  have h:=keyD.eqk d d' w trivial trivial
  have e1:(eqGuard .neq 24 x y (dV d) (dV d')).run Tryd.prog w=.ok () w:=by
    unfold dV; simp [eqGuard,run_program,hg]
  have e2:(binOp .neq 24 (dV d) (dV d')).run Tryd.prog w=.ok (.bool (!decide (d=d'))) w:=by
    unfold dV at h ⊢
    simp only [binOp,Sem.run_bind,h,Result.andThen_ok,Sem.run_pure]
  simp only [Sem.run_bind,e1,e2,Result.andThen_ok,Sem.run_pure]
theorem okI (d:Dg):decide ((if okD d then (0:Int) else 8)=0)=okD d:=by cases okD d <;> rfl
theorem okI_ne {c:Ch} (h:(if okC c then (0:Int) else 8)≠0):okC c=false:=by
  cases hc:okC c with
  | false=>rfl
  | true=>rw [hc] at h; exact absurd rfl h
theorem okI_eq {c:Ch} (h:¬ (if okC c then (0:Int) else 8)≠0):okC c=true:=by
  cases hc:okC c with
  | true=>rfl
  | false=>rw [hc] at h; exact absurd (by decide) h
theorem eqGuard24:Tryd.prog.eqGuardType Tryd.prog.depth 24=false:=by kernel_rfl
end Go.Proofs.YtgakdmmmljdpjaaDoor

namespace Go.SL
open Go
def okS (S:List PG):Prop:=∀ p ∈ S,p.1≠[]∧∀ d ∈ p.1,okD d=true
theorem findG_mem {S:List PG} {d:Dg} {p:PG} (h:findG S d=some p):p ∈ S∧d ∈ p.1:=by
  unfold findG at h
  exact ⟨List.mem_of_find?_eq_some h,by simpa using List.find?_some h⟩
theorem okC_a {c:Ch} (h:okC c=true) (hk:c.kind≠4):okD c.a=true:=by
  unfold okC at h
  by_cases h1:c.kind=1
  · rw [if_pos h1] at h; simp only [Bool.and_eq_true] at h; exact h.1.1.1
  · by_cases h2:c.kind=2
    · rw [if_neg h1,if_pos h2] at h; simp only [Bool.and_eq_true] at h; exact h.1.1.1
    · by_cases h3:c.kind=3
      · rw [if_neg h1,if_neg h2,if_pos h3] at h; simp only [Bool.and_eq_true] at h; exact h.1.1.1
      · rw [if_neg h1,if_neg h2,if_neg h3,if_neg hk] at h; cases h
theorem okC_b {c:Ch} (h:okC c=true) (hk:c.kind=2∨c.kind=3):okD c.b=true:=by
  unfold okC at h
  split at h
  · omega
  · split at h
    · simp only [Bool.and_eq_true] at h; exact h.1.1.2
    · split at h
      · simp only [Bool.and_eq_true] at h; exact h.1.1.2
      · split at h
        · omega
        · cases h
theorem okS_step {S S':List PG} {c:Ch} (h:stepM S c=.ok S') (hS:okS S) (hc:okC c=true) (hk:1≤c.kind∧c.kind≤4∧c.kind≠4):okS S':=by
  unfold stepM at h
  split at h
  · unfold addM at h
    split at h
    · cases h
    · cases h
      intro p hp
      rcases List.mem_cons.1 hp with rfl | hp
      · exact ⟨by simp,fun d hd=>by rw [List.mem_singleton.1 hd]; exact okC_a hc hk.2.2⟩
      · exact hS p hp
  · split at h
    · unfold joinM at h
      split at h
      · rename_i x y hx hy
        split at h
        · cases h
        · cases h
          intro p hp
          rcases List.mem_cons.1 hp with rfl | hp
          · have h1:=hS x (findG_mem hx).1
            have h2:=hS y (findG_mem hy).1
            unfold merged
            split
            · exact ⟨by simp [h1.1,h2.1],fun d hd=>(List.mem_append.1 hd).elim (h2.2 d) (h1.2 d)⟩
            · exact ⟨by simp [h1.1,h2.1],fun d hd=>(List.mem_append.1 hd).elim (h1.2 d) (h2.2 d)⟩
          · exact hS p ((List.mem_filter.1 hp).1)
      · cases h
    · unfold nameM at h
      split at h
      · cases h
      · rename_i x hx
        split at h
        · cases h
        · split at h
          · cases h
          · cases h
            intro p hp
            rcases List.mem_cons.1 hp with rfl | hp
            · have h1:=hS x (findG_mem hx).1
              refine ⟨by simp,fun d hd=>(List.mem_append.1 hd).elim (h1.2 d) (fun hd=>?_)⟩
              rw [List.mem_singleton.1 hd]
              exact okC_b hc (.inr (by omega))
            · exact hS p ((List.mem_filter.1 hp).1)
theorem okS_playK {l:List Ch} {us:List Bool} (hok:l.all okC=true) (hkd:∀ j,j<l.length→1≤(l.getD j default).kind∧(l.getD j default).kind≤4):∀ {k:Nat} {S:List PG},k≤l.length→playK l us k=.ok S→okS S
  | 0,S,_,h=>by cases h; intro p hp; cases hp
  | k+1,S,hk,h=>by
    unfold playK at h
    split at h
    · cases h
    · rename_i S0 h0
      have ih:=okS_playK hok hkd (by omega) h0
      split at h
      · rename_i hc
        refine okS_step h ih ?_ ⟨(hkd k (by omega)).1,(hkd k (by omega)).2,hc.1⟩
        rw [List.all_eq_true] at hok
        exact hok _ (by rw [List.getD_eq_getElem?_getD,List.getElem?_eq_getElem (by omega:k<l.length)]; exact List.getElem_mem _)
      · cases h; exact ih
theorem okS_hist {l:List Ch} {S:List PG} {us:List Bool} (h:histM l=.ok (S,us)):okS S:=by
  unfold histM at h
  split at h
  · cases h
  · split at h
    · rename_i hok
      split at h
      · cases h
      · split at h
        · cases h
        · rename_i hp
          cases h
          refine okS_playK hok (kinds_all fun j hj=>?_) (Nat.le_refl _) hp
          rw [List.all_eq_true] at hok
          exact hok _ (by rw [List.getD_eq_getElem?_getD,List.getElem?_eq_getElem hj]; exact List.getElem_mem _)
    · cases h
theorem tot_part (f:PG→Bool):∀ S:List PG,totS S=totS (S.filter f)+totS (S.filter fun g=>!f g)
  | []=>rfl
  | g::t=>by
    have ih:=tot_part f t
    simp only [List.filter_cons]
    cases f g <;> simp only [Bool.not_true,Bool.not_false,if_true,Bool.false_eq_true,if_false,totS,List.map_cons,List.sum_cons] at ih ⊢ <;> omega
theorem tot_mem {p:PG}:∀ {S:List PG},p ∈ S→p.1.length≤totS S
  | g::t,h=>by
    simp only [totS,List.map_cons,List.sum_cons]
    rcases List.mem_cons.1 h with rfl | h
    · omega
    · have:=tot_mem h
      simp only [totS] at this
      omega
theorem tot_cons (g:PG) (t:List PG):totS (g::t)=g.1.length+totS t:=by simp only [totS,List.map_cons,List.sum_cons]
theorem tot_mem2 {p q:PG} (hne:p≠q):∀ {S:List PG},p ∈ S→q ∈ S→p.1.length+q.1.length≤totS S
  | g::t,h,h'=>by
    rw [tot_cons]
    by_cases h1:p=g
    · by_cases h2:q=g
      · exact absurd (h1.trans h2.symm) hne
      · have:=tot_mem ((List.mem_cons.1 h').resolve_left h2)
        rw [← h1]; omega
    · have hp:=(List.mem_cons.1 h).resolve_left h1
      by_cases h2:q=g
      · have:=tot_mem hp
        rw [← h2]; omega
      · have:=tot_mem2 hne hp ((List.mem_cons.1 h').resolve_left h2)
        omega
theorem tot_step {S S':List PG} {c:Ch} (h:stepM S c=.ok S'):totS S'≤totS S+1:=by
  unfold stepM at h
  split at h
  · unfold addM at h
    split at h
    · cases h
    · cases h
      simp only [totS,List.map_cons,List.sum_cons,List.length_singleton]
      omega
  · split at h
    · unfold joinM at h
      split at h
      · rename_i x y hx hy
        split at h
        · cases h
        · rename_i hne
          cases h
          have hx:=findG_mem hx
          have hy:=findG_mem hy
          have hp:=tot_part (fun g=>!decide (c.b ∈ g.1)&&!decide (c.a ∈ g.1)) S
          have h2:=tot_mem2 (fun e=>hne (.inl e)) (S:=S.filter fun g=>!(!decide (c.b ∈ g.1)&&!decide (c.a ∈ g.1))) (List.mem_filter.2 ⟨hx.1,by simp [hx.2]⟩) (List.mem_filter.2 ⟨hy.1,by simp [hy.2]⟩)
          have hm:(merged x y).1.length=x.1.length+y.1.length:=by unfold merged; split <;> simp only [List.length_append] <;> omega
          simp only [totS,List.map_cons,List.sum_cons] at hp h2 ⊢
          omega
      · cases h
    · unfold nameM at h
      split at h
      · cases h
      · rename_i x hx
        split at h
        · cases h
        · split at h
          · cases h
          · cases h
            have hx:=findG_mem hx
            have hp:=tot_part (fun g=>!decide (c.a ∈ g.1)) S
            have h2:=tot_mem (p:=x) (S:=S.filter fun g=>!(!decide (c.a ∈ g.1))) (List.mem_filter.2 ⟨hx.1,by simp [hx.2]⟩)
            simp only [totS,List.map_cons,List.sum_cons,List.length_append,List.length_singleton] at hp h2 ⊢
            omega
theorem tot_playK {l:List Ch} {us:List Bool}:∀ {k:Nat} {S:List PG},playK l us k=.ok S→totS S≤k
  | 0,S,h=>by cases h; exact Nat.le_refl _
  | k+1,S,h=>by
    unfold playK at h
    split at h
    · cases h
    · rename_i S0 h0
      have ih:=tot_playK h0
      split at h
      · have:=tot_step h; omega
      · cases h; omega
theorem tot_hist {l:List Ch} {S:List PG} {us:List Bool} (h:histM l=.ok (S,us)):totS S≤500:=by
  unfold histM at h
  split at h
  · cases h
  · split at h
    · split at h
      · cases h
      · split at h
        · cases h
        · rename_i hp
          cases h
          have:=tot_playK hp
          omega
    · cases h
end Go.SL

namespace Go.SL
open Go
theorem getD_set_ne {us:List Bool} {n k:Nat} (h:n≠k):(us.set n true).getD k false=us.getD k false:=by
  simp [List.getD_eq_getElem?_getD,List.getElem?_set,h]
theorem playK_congr {l l':List Ch} {us us':List Bool}:∀ {k:Nat},(∀ j,j<k→l.getD j default=l'.getD j default)→(∀ j,j<k→us.getD j false=us'.getD j false)→playK l us k=playK l' us' k
  | 0,_,_=>rfl
  | k+1,h1,h2=>by
    have h:=playK_congr (k:=k) (fun j hj=>h1 j (by omega)) (fun j hj=>h2 j (by omega))
    simp only [playK,h,h1 k (by omega),h2 k (by omega)]
def mapOk {T U:Type} (f:T→U):Except Int T→Except Int U
  | .error e=>.error e
  | .ok x=>.ok (f x)
theorem okC_ns {l:List Ch} (h:l.all okC=true):∀ j,j<l.length→(l.getD j default).kind=4→0≤(l.getD j default).n:=fun j hj h4=>by
  rw [List.all_eq_true] at h
  exact okC_n (h _ (by rw [List.getD_eq_getElem?_getD,List.getElem?_eq_getElem hj]; exact List.getElem_mem _)) h4
theorem hist_parts {l:List Ch} {S:List PG} {us:List Bool} (h:histM l=.ok (S,us)):l.length≤500∧l.all okC=true∧undoK l l.length=.ok us∧playM l us=.ok S:=by
  unfold histM at h
  split at h
  · cases h
  · rename_i h1
    split at h
    · rename_i h2
      cases hu:undoK l l.length with
      | error e=>rw [hu] at h; cases h
      | ok u =>
        rw [hu] at h
        simp only at h
        cases hp:playM l u with
        | error e=>rw [hp] at h; cases h
        | ok T =>
          rw [hp] at h
          simp only [Except.ok.injEq,Prod.mk.injEq] at h
          obtain ⟨rfl,rfl⟩:=h
          exact ⟨by omega,h2,rfl,hp⟩
    · cases h
def liveK (l:List Ch) (us:List Bool):Nat→List Ch
  | 0=>[]
  | k+1=>if (l.getD k default).kind≠4∧us.getD k false=false then liveK l us k++[l.getD k default] else liveK l us k
theorem liveK_len (l:List Ch) (us:List Bool):∀ k,(liveK l us k).length≤k
  | 0=>Nat.le_refl _
  | k+1=>by
    have:=liveK_len l us k
    simp only [liveK]
    split
    · rw [List.length_append,List.length_singleton]; omega
    · omega
def runL:List PG→List Ch→Except Int (List PG)
  | S,[]=>.ok S
  | S,c::t=>match stepM S c with
    | .error e=>.error e
    | .ok S'=>runL S' t
theorem runL_app:∀ {cs:List Ch} {S:List PG} {c:Ch},runL S (cs++[c])=(match runL S cs with | .error e=>.error e | .ok S'=>stepM S' c)
  | [],S,c=>by simp only [List.nil_append,runL]; cases stepM S c <;> rfl
  | x::t,S,c=>by
    simp only [List.cons_append,runL]
    cases stepM S x with
    | error e=>rfl
    | ok S'=>exact runL_app
theorem playK_live (l:List Ch) (us:List Bool):∀ k,playK l us k=runL [] (liveK l us k)
  | 0=>rfl
  | k+1=>by
    have ih:=playK_live l us k
    by_cases h:(l.getD k default).kind≠4∧us.getD k false=false
    · rw [show liveK l us (k+1)=liveK l us k++[l.getD k default] from if_pos h,runL_app,← ih]
      cases hq:playK l us k with
      | error e=>simp only [playK,hq]
      | ok S=>exact playK_do hq h.1 h.2
    · rw [show liveK l us (k+1)=liveK l us k from if_neg h,← ih]
      cases hq:playK l us k with
      | error e=>simp only [playK,hq]
      | ok S=>exact playK_no hq h
section
variable {l:List Ch} {S:List PG} {us:List Bool} {n:Nat}
def undoC (n:Nat):Ch:=⟨4,default,default,(n:Int)⟩
theorem all_snoc {c:Ch} (h:l.all okC=true) (hc:okC c=true):(l++[c]).all okC=true:=by simp [List.all_append,h,hc]
end
end Go.SL

namespace Go.SL
open Go Go.Proofs Go.Shelf Go.RowKit Go.Sort Go.Lib
def srtF {T:Type} (lt:T→T→Bool) (l:List T):List T:=l.mergeSort fun x y=>!lt y x
theorem srtF_len {T:Type} (lt:T→T→Bool) (l:List T):(srtF lt l).length=l.length:=List.length_mergeSort _
section
variable {T:Type} [Inhabited T] {E:T→List Value} {k:Nat}
theorem encs_at (hk:∀ x,(E x).length=k) (l:List T) (j:Nat) (hj:j<l.length*k):(encs E l)[j]? = some ((E l.toArray[j/k]!)[j % k]!):=by
  have k0 : 0 < k := by rcases Nat.eq_zero_or_pos k with h | h; · subst h; omega
                        · exact h
  have h1:j/k<l.length:=(Nat.div_lt_iff_lt_mul k0).2 hj
  have h2:l[j/k]? = some l[j/k]:=List.getElem?_eq_getElem h1
  have h3:=encs_get (enc:=E) hk h2 (Nat.mod_lt j k0)
  rw [show j/k*k+j % k=j from by rw [Nat.mul_comm]; exact Nat.div_add_mod j k] at h3
  rw [h3]
  have h4:l.toArray[j/k]! = l[j/k]:=by simp [h1]
  rw [h4]
  have h5:j % k<(E l[j/k]).length:=by rw [hk]; exact Nat.mod_lt j k0
  rw [List.getElem?_eq_getElem h5,getElem!_pos (E l[j/k]) (j % k) h5]
theorem flat_at (hk:∀ x,(E x).length=k) (l:List T):(flatK E k l.toArray).toList=encs E l:=by
  apply List.ext_getElem?
  intro j
  have hs:(flatK E k l.toArray).size=l.length*k:=by simp
  by_cases hj:j<l.length*k
  · have h1:=get_flatK E k l.toArray j (by simpa using hj)
    rw [encs_at hk l j hj,← h1,Array.getElem?_toList,Array.getElem?_eq_getElem (by omega),getElem!_pos (flatK E k l.toArray) j (by omega)]
  · rw [List.getElem?_eq_none (by rw [Array.length_toList]; omega),List.getElem?_eq_none (by rw [encs_len hk]; omega)]
theorem holds_flat {w:World} {g:Nat} {cur:Array Value} {e:TypeId} {xs:Array Value} (hb:w.heap[g]? = some (.cells cur e (0,0))) (ht:cur.toList.take xs.size=xs.toList):Holds id w g 0 xs:=by
  intro j hj
  refine ⟨?_,by simp [World.frozen?,hb]⟩
  have h1:(cur.toList.take xs.size)[j]? = xs.toList[j]?:=by rw [ht]
  rw [List.getElem?_take_of_lt hj,Array.getElem?_toList,Array.getElem?_toList,Array.getElem?_eq_getElem hj] at h1
  simp only [World.cell?,hb,Nat.zero_add,Option.isSome_none,Bool.false_eq_true,if_false,id_eq]
  rw [h1,getElem!_pos xs j hj]
theorem take_put (cur F:Array Value) (h:F.size≤cur.size):(putCells id 0 F cur).toList.take F.size=F.toList:=by
  apply List.ext_getElem?
  intro j
  by_cases hj:j<F.size
  · rw [List.getElem?_take_of_lt hj,Array.getElem?_toList,Array.getElem?_toList]
    simp [putCells,hj,show j<cur.size by omega]
  · rw [List.getElem?_take_eq_none (by omega),List.getElem?_eq_none (by rw [Array.length_toList]; omega)]
theorem heap_put {w:World} {g n:Nat} {os:Array Obj} {cur:Array Value} {e:TypeId} {fr:Nat × Nat} (F:Array Value) (hb:w.heap[g]? = some (.cells cur e fr)) :
    (grow (putRow id (Sort.ahead w n) g 0 F) os).heap[g]? = some (.cells (putCells id 0 F cur) e fr):=by
  have hg:g<w.heap.size:=(Array.getElem?_eq_some_iff.1 hb).1
  rw [heap_grow_old _ _ (by simpa using hg)]
  simp [putRow,mapBlock,Sort.ahead,Array.getElem?_modify,hb,onCells]
theorem grown_put {w:World} {g n:Nat} {os:Array Obj} (F:Array Value):w.grownBy (grow (putRow id (Sort.ahead w n) g 0 F) os) (some g):=by
  refine ⟨rfl,rfl,rfl,by simp,fun k hk hne=>?_⟩
  rw [heap_grow_old _ _ (by simpa using hk)]
  have:g≠k:=fun e=>hne (by rw [e])
  simp [putRow,mapBlock,Sort.ahead,Array.getElem?_modify,this]
end
end Go.SL

namespace Go.SL
open Go Go.Sort
theorem ask_up {α:Type} (a:Ask α):∀ w:World,w.drawn≤(w.ask a).2.drawn:=by
  induction a with
  | done a=>intro w; exact Nat.le_refl _
  | ask what range k ih =>
    intro w
    simp only [World.ask]
    split
    · exact ih _ w
    · exact Nat.le_trans (Nat.le_succ w.drawn) (ih _ { w with drawn:=w.drawn+1 })
theorem sys_up (w:World) (c:Sys):w.drawn≤(w.sys c).2.drawn:=by
  have h:=ask_up (Kernel.perform c w.os) w
  unfold World.sys
  split
  · exact Nat.le_refl _
  · rename_i heq
    rw [heq] at h
    exact h
theorem ebind_ok {ε α β:Type} {x:Except ε α} {f:α→Except ε β} {y:β} (h:(x >>= f)=.ok y):∃ a,x=.ok a∧f a=.ok y:=by
  cases x with
  | error e=>cases h
  | ok a=>exact ⟨a,rfl,h⟩
theorem viewStore_up {p:Program} {w w':World} {at_:Addr} {u:TypeId} {a:Addr} {v:Value} {at':Bool} {l:List Addr} (h:w.viewStore p at_ u a v at'=.ok (w',l)):w.drawn≤w'.drawn:=by
  unfold World.viewStore at h
  split at h
  all_goals
    dsimp only at h
    split at h
    · obtain ⟨_,h1,_⟩:=ebind_ok h
      cases h1
    obtain ⟨x,_,h⟩:=ebind_ok h
  · split at h
    · obtain ⟨_,h1,_⟩:=ebind_ok h
      cases h1
    obtain ⟨c,_,h⟩:=ebind_ok h
    simp only [pure,Except.pure,Except.ok.injEq,Prod.mk.injEq] at h
    rw [← h.1]
    exact Nat.le_refl _
  · cases h
theorem farStore_up {p:Program} {w w':World} {a:Addr} {v:Value} {at':Bool} {l:List Addr} (h:w.farStore p a v at'=.ok (w',l)):w.drawn≤w'.drawn:=by
  unfold World.farStore at h
  split at h
  · split at h
    · rename_i heq
      cases h
      exact viewStore_up heq
    · cases h
  · cases h
def Rup {α:Type} (n:Nat):Result α→Prop
  | .ok _ w=>n≤w.drawn
  | .halt _ w=>n≤w.drawn
theorem freeze_drawn (w:World) (a:Addr) (n:Nat):(w.freeze a n).drawn=w.drawn:=by unfold World.freeze; split <;> rfl
theorem Rup.le {α:Type} {n n':Nat} {r:Result α} (h:Rup n' r) (hn:n≤n'):Rup n r:=by cases r <;> exact Nat.le_trans hn h
theorem run_up {α:Type} (p:Program) (s:Sem α):∀ w:World,Rup w.drawn (s.run p w):=by
  induction s with
  | pure a=>intro w; exact Nat.le_refl _
  | load m a k ih =>
    intro w
    simp only [Sem.run]
    repeat' split
    all_goals first
      | exact ih _ w
      | exact Nat.le_refl _
  | store m a v k ih =>
    intro w
    cases v
    case agg=>exact Nat.le_refl _
    case tuple=>exact Nat.le_refl _
    all_goals
      simp only [Sem.run]
      repeat' split
      all_goals first
        | exact Nat.le_refl _
        | exact ih (w.setCell _ _)
        | (rename_i heq; exact (ih _).le (farStore_up heq))
  | new o k ih=>intro w; exact ih _ _
  | shape r k ih=>intro w; exact ih _ w
  | freeze a n k ih=>intro w; exact (ih (w.freeze a n)).le (by rw [freeze_drawn]; exact Nat.le_refl _)
  | frozen a k ih=>intro w; exact ih _ w
  | getObj r k ih =>
    intro w
    simp only [Sem.run]
    repeat' split
    all_goals first
      | exact ih _ w
      | exact Nat.le_refl _
  | setObj r o k ih =>
    intro w
    simp only [Sem.run]
    repeat' split
    all_goals first
      | exact Nat.le_refl _
      | exact ih _
  | choose q k ih =>
    intro w
    simp only [Sem.run]
    split
    · exact ih _ w
    · exact (ih _ _).le (Nat.le_succ _)
  | sys c k ih=>intro w; exact (ih _ _).le (sys_up w c)
  | program k ih=>intro w; exact ih _ w
  | mark m k ih=>intro w; exact ih w
  | halt h=>intro w; exact Nat.le_refl _
theorem run_ok_up {α:Type} {p:Program} {s:Sem α} {w w':World} {a:α} (h:s.run p w=.ok a w'):w.drawn≤w'.drawn:=by
  have:=run_up p s w
  rw [h] at this
  exact this
theorem run_halt_up {α:Type} {p:Program} {s:Sem α} {w w':World} {a:Halt} (h:s.run p w=.halt a w'):w.drawn≤w'.drawn:=by
  have:=run_up p s w
  rw [h] at this
  exact this
def Gup (n:Nat):GStep→Prop
  | .go _ w _=>n≤w.drawn
  | .comm _ _ _ _ w _=>n≤w.drawn
  | .spawn _ _ w _=>n≤w.drawn
  | .count _ w _=>n≤w.drawn
  | .timer _ _ w _=>n≤w.drawn
  | .alone _ _ w _=>n≤w.drawn
  | .newcoro _ _ _ w _=>n≤w.drawn
  | .coroswitch _ _ _ w _=>n≤w.drawn
  | .collect _ w _=>n≤w.drawn
  | .watch _ w _=>n≤w.drawn
  | .ended _ _ _=>True
theorem Gup.after {n:Nat} {es:Array Event} {g:GStep} (h:Gup n g):Gup n (GStep.after es g):=by cases g <;> exact h
theorem Gup.le {n n':Nat} {g:GStep} (h:Gup n' g) (hn:n≤n'):Gup n g:=by cases g <;> first | trivial | exact Nat.le_trans hn h
def Sup (n:Nat):Stepped→Prop
  | .next m=>n≤m.world.drawn
  | .ended _ _=>True
theorem Gup.ite {n:Nat} {c:Prop} [Decidable c] {a b:GStep} (ha:Gup n a) (hb:Gup n b):Gup n (if c then a else b):=by split <;> assumption
theorem Gup.elim {α:Type} {n:Nat} {o:Option α} {a:GStep} {f:α→GStep} (ha:Gup n a) (hf:∀ x,Gup n (f x)):Gup n (o.elim a f):=by cases o <;> first | exact ha | exact hf _
theorem Sup.le {n n':Nat} {g:Stepped} (h:Sup n' g) (hn:n≤n'):Sup n g:=by cases g <;> first | trivial | exact Nat.le_trans hn h
theorem dieOf_up (fr:Frame) (ahead:List ByteArray) (m:String) (whole:Bool) (w:World):Gup w.drawn (dieOf fr ahead m whole w):=Nat.le_refl _
theorem endWith_up (n:Nat) (w:World) (fd:Nat) (text:ByteArray) (o:Outcome):Gup n (endWith w fd text o):=by
  unfold endWith
  simp only
  repeat' split
  all_goals trivial
theorem endPrinting_up (p:Program) (fr:Frame) (v:Value) (w:World):Gup w.drawn (endPrinting p fr v w):=by
  unfold endPrinting
  simp only
  repeat' split
  all_goals first
    | trivial
    | exact Nat.le_refl _
theorem endFatal_up (p:Program) (fr:Frame) (cs:List Frame) (dy:Option Dying) (m:String) (w:World):Gup w.drawn (endFatal p fr cs dy m w):=by
  unfold endFatal
  simp only
  split
  · rename_i heq
    exact (dieOf_up _ _ _ _ _).le (run_ok_up heq)
  · trivial
  · trivial
theorem writeOn_up (p:Program) (fr:Frame) (d:Dying) (f:Fatal) (w:World):Gup w.drawn (writeOn p fr d f w):=by
  unfold writeOn
  simp only [Sem.runT_eq]
  split
  · trivial
  · split
    all_goals first
      | trivial
      | (rename_i heq; injection heq with h1 h2; first | exact run_ok_up h1 | exact run_halt_up h1)
theorem die_up (p:Program) (fr:Frame) (d:Dying) (w:World):Gup w.drawn (die p fr d w):=by
  unfold die
  split
  · exact writeOn_up ..
  · split
    · split
      · exact Nat.le_refl _
      · exact endWith_up ..
    · simp only
      split
      · exact Nat.le_refl _
      · split
        · rename_i heq; exact run_ok_up heq
        · trivial
      · simp only [Sem.runT_eq]
        refine Gup.after ?_
        split
        all_goals first
          | trivial
          | (rename_i heq; exact run_ok_up heq)
          | (rename_i heq; exact (endPrinting_up ..).le (run_halt_up heq))
      · trivial
theorem early_up (p:Program) (fr:Frame) (cs:List Frame) (dy:Option Dying) (g:Nat) (w:World):Gup w.drawn (early p fr cs dy g w):=by
  unfold early
  simp only
  repeat' split
  all_goals first
    | trivial
    | exact Nat.le_refl _
    | (dsimp only [Gup]; apply run_ok_up; assumption)
theorem doReturn_up (p:Program) (main:Bool) (fr:Frame) (cs:List Frame) (dy:Option Dying) (v:Value) (w:World):Gup w.drawn (doReturn p main fr cs dy v w):=by
  unfold doReturn
  simp only
  repeat' split
  all_goals first
    | trivial
    | exact Nat.le_refl _
theorem callDeferred_up (p:Program) (fr:Frame) (cs:List Frame) (dy:Option Dying) (d:Deferred) (w:World):Gup w.drawn (callDeferred p fr cs dy d w):=by
  unfold callDeferred
  refine Gup.ite trivial ?_
  simp only [Sem.runT_eq]
  refine Gup.after ?_
  have h:=run_up p (invoke d.target d.args) w
  generalize Sem.run p (invoke d.target d.args) w=r at h
  cases r with
  | ok n w' =>
    cases n with
    | recover=>simp only; split <;> exact h
    | alone b v=>cases b <;> first | exact h | trivial
    | coroswitch c b=>cases b <;> first | exact h | trivial
    | _=>first | exact h | trivial
  | halt n w' =>
    cases n with
    | fatal m=>exact (endFatal_up ..).le h
    | throw m=>exact (dieOf_up ..).le h
    | _=>first | exact h | trivial
theorem unwind_up (p:Program) (main:Bool) (fr:Frame) (cs:List Frame) (dy:Option Dying) (w:World):Gup w.drawn (unwind p main fr cs dy w):=by
  unfold unwind
  split
  · simp only [Sem.runT_eq]
    refine Gup.after ?_
    split
    · rename_i heq; exact run_ok_up heq
    · trivial
  · exact callDeferred_up ..
  · split
    · trivial
    · split
      · trivial
      · split
        · exact Nat.le_refl _
        · split
          · split
            · exact Nat.le_refl _
            · split
              · rename_i heq; exact run_ok_up heq
              · trivial
              · trivial
          · split
            · exact endPrinting_up ..
            · trivial
    · split
      · exact doReturn_up ..
      · simp only [Sem.runT_eq]
        refine Gup.after ?_
        split
        · rename_i heq; exact (doReturn_up ..).le (run_ok_up heq)
        · trivial
        · trivial
theorem apply_up (p:Program) (l:Bool) (fr:Frame) (cs:List Frame) (dy:Option Dying) (s:Sem Next) (w:World):Gup w.drawn (stepG.apply p l fr cs dy s w):=by
  have hr:(if l=true then s.runT p w #[] else (s.run p w,#[])).1=s.run p w:=by cases l <;> simp
  unfold stepG.apply
  dsimp only
  generalize (if l=true then s.runT p w #[] else (s.run p w,#[]))=r at hr
  obtain ⟨r,es⟩:=r
  simp only at hr
  subst hr
  dsimp only
  refine Gup.after ?_
  have h:=run_up p s w
  generalize Sem.run p s w=r at h
  cases r with
  | ok n w' =>
    cases n with
    | recover=>simp only; split <;> exact h
    | callThen=>simp only; split <;> exact h
    | row=>simp only; split <;> exact h
    | stack=>simp only; split <;> exact h
    | spawn=>exact Gup.ite ((dieOf_up ..).le h) h
    | _=>first | exact h | trivial
  | halt n w' =>
    cases n with
    | fatal m=>exact (endFatal_up ..).le h
    | throw m=>exact (dieOf_up ..).le h
    | unsupported u=>cases u <;> first | trivial | exact (early_up ..).le h
    | _=>first | exact h | trivial
theorem oper_up (p:Program) (l:Bool) (fr:Frame) (cs:List Frame) (dy:Option Dying) (w:World):Gup w.drawn (stepG.oper p l fr cs dy w):=by
  unfold stepG.oper
  split
  · trivial
  · split
    · exact apply_up ..
    · exact apply_up ..
theorem exec_up (p:Program) (main l:Bool) (fr:Frame) (cs:List Frame) (dy:Option Dying) (w:World):Gup w.drawn (stepG.exec p main l fr cs dy w):=by
  unfold stepG.exec
  dsimp only
  split
  all_goals first
    | trivial
    | exact Nat.le_refl _
    | exact apply_up ..
    | skip
  all_goals (try refine Gup.elim ?_ (fun x=>?_))
  all_goals try simp only [Sem.runT_eq]
  all_goals first
    | exact Nat.le_refl _
    | skip
  all_goals (repeat' (first | exact apply_up .. | (refine (apply_up ..).le ?_; apply run_ok_up; assumption) | exact oper_up .. | (refine (doReturn_up ..).le ?_; apply run_ok_up; assumption) | refine Gup.after ?_ | split))
  all_goals first
    | trivial
    | exact Nat.le_refl _
    | exact apply_up ..
    | exact oper_up ..
    | (refine (doReturn_up ..).le ?_; apply run_ok_up; assumption)
    | (refine (apply_up ..).le ?_; apply run_ok_up; assumption)
    | (dsimp only [Gup]; apply run_ok_up; assumption)
    | (dsimp only [Gup]; apply run_halt_up; assumption)
theorem stepG_up (p:Program) (main:Bool) (g:Goroutine) (w:World) (l:Bool):Gup w.drawn (stepG p main g w l):=by
  obtain ⟨fr,cs,st,dy,off⟩:=g
  unfold stepG
  dsimp only
  split
  · exact die_up ..
  · exact exec_up ..
  · exact unwind_up ..
theorem look_up (p:Program) (gs:Array Goroutine) (rest:Rest) (w:World):Sup w.drawn (look p gs rest w):=by
  unfold look
  split
  · dsimp only
    split
    · trivial
    · split
      · trivial
      · split
        · dsimp only [Sup]; apply run_ok_up; assumption
        · trivial
        · trivial
  · trivial
theorem communicate_up (p:Program) (rest:Rest) (gs:Array Goroutine) (i:Nat) (g:Goroutine) (cases:Array CommCase) (bl:Bool) (sh:CommShape) (w:World):Sup w.drawn (communicate p rest gs i g cases bl sh w).1:=by
  unfold communicate
  dsimp only
  split
  · trivial
  split
  · split
    · split
      · rename_i heq
        dsimp only [Sup]
        unfold waitingAt at heq
        split at heq
        · split at heq
          · cases heq; exact Nat.le_refl _
          · cases heq
        · cases heq; exact Nat.le_refl _
      · trivial
    · exact Nat.le_refl _
  · split
    · trivial
    · rename_i heq
      have h:=run_ok_up heq
      repeat' split
      all_goals first
        | trivial
        | exact h
        | (refine Nat.le_trans h ?_; dsimp only; apply run_ok_up; assumption)
        | (refine Nat.le_trans h ?_; dsimp only; apply run_halt_up; assumption)
theorem drain_up (w:World) (c:Nat):(drain w c).2.drawn=w.drawn:=by
  unfold drain
  split <;> rfl
theorem retime_up (m:Machine) (k:Nat) (t:Timer) (a b:Nat):(retime m k t a b).2.world.drawn=m.world.drawn:=by
  unfold retime
  dsimp only
  split
  · exact drain_up ..
  · rfl
theorem named_up {m m':Machine} {var:Addr} {f:Nat→Timer→Value × Machine} {v:Value} (hf:∀ k t,(f k t).2.world.drawn=m.world.drawn) (h:timerOp.named m var f=.ok (v,m')):m'.world.drawn=m.world.drawn:=by
  unfold timerOp.named at h
  split at h
  · rename_i k _
    have:=hf k (m.rest.timers.getD k default)
    cases hx:f k (m.rest.timers.getD k default)
    rw [hx] at h this
    cases h
    exact this
  · cases h
theorem timerOp_up {m m':Machine} {op:TimerOp} {v:Value} (h:timerOp m op=.ok (v,m')):m'.world.drawn=m.world.drawn:=by
  unfold timerOp at h
  split at h
  · split at h
    · cases h; rfl
    · split at h
      · split at h
        · cases h
        · cases h; rfl
      · cases h
  · exact named_up (fun k t=>retime_up ..) h
  · split at h
    · rename_i m2 heq
      have h2:m2.world.drawn=m.world.drawn:=by
        unfold timerOp.opened at heq
        split at heq
        · split at heq
          · cases heq; rfl
          · cases heq
        · cases heq; rfl
      exact named_up (fun k t=>(retime_up ..).trans h2) h
    · cases h
  · cases h; rfl
theorem serve_up (p:Program) (m:Machine) (k:Nat):Sup m.world.drawn (serve p m k):=by
  unfold serve
  split
  · trivial
  · exact Nat.le_refl _
  · dsimp only
    split
    · trivial
    · exact Nat.le_refl _
theorem goM_up (p:Program) (m:Machine) (i:Nat) (l:Bool):Sup m.world.drawn (Go.runT p m i l).1:=by
  unfold Go.runT
  dsimp only
  have h:=stepG_up p (i == 0) (m.gs.swapAt! i { (default:Goroutine) with status:=.finished }).1 m.world l
  split
  all_goals (rename_i heq; rw [heq] at h; try dsimp only [Gup] at h)
  · trivial
  · have h2:=communicate_up p m.rest (m.gs.swapAt! i { (default:Goroutine) with status:=.finished }).2 i ‹_› ‹_› ‹_› ‹_› ‹_›
    generalize communicate p m.rest _ i _ _ _ _ _=c at h2 ⊢
    obtain ⟨r,more⟩:=c
    dsimp only at h2 ⊢
    cases r with
    | next m'=>exact Nat.le_trans h h2
    | ended=>trivial
  · exact h
  · exact h
  · split
    · trivial
    · exact h
  · exact h
  · exact (look_up ..).le h
  · exact h
  · exact h
  · dsimp only
    split
    · exact h
    · exact h
    · trivial
  · dsimp only
    split
    · rename_i heq2
      exact Nat.le_trans h (Nat.le_of_eq (timerOp_up heq2).symm)
    · exact h
    · trivial
    · trivial
def Mup (n:Nat):Move→Prop
  | .goroutine m _=>n≤m.world.drawn
  | .machine s _=>Sup n s
theorem Mup.le {n n':Nat} {g:Move} (h:Mup n' g) (hn:n≤n'):Mup n g:=by
  cases g with
  | goroutine=>exact Nat.le_trans hn h
  | machine s _=>exact Sup.le (n':=n') h hn
theorem pick_up (p:Program) (rs:List Nat) (m:Machine):Mup m.world.drawn (match (choose (.sched rs.length)).run p m.world with
      | .halt _ w=>.machine (.ended (.stuck "sched" "") w)
      | .ok k world =>
        if rs.length≤1 then .goroutine { m with world } (rs.getD k 0) else
        match (choose (.extern "sched.slice" 65536)).run p world with
        | .halt _ w=>.machine (.ended (.stuck "sched.slice" "") w)
        | .ok n world=>.goroutine { m with world,rest:={ m.rest with slice:=if n=0 then none else some (rs.getD k 0,n) } } (rs.getD k 0)):=by
  split
  · trivial
  · rename_i heq
    have h:=run_ok_up heq
    split
    · exact h
    · split
      · trivial
      · rename_i heq2; exact Nat.le_trans h (run_ok_up heq2)
theorem askOn_up (p:Program) (m:Machine):Mup m.world.drawn (askOn p m):=by
  unfold askOn
  dsimp only
  split
  · trivial
  · rename_i k world heq
    have h:m.world.drawn≤world.drawn:=run_ok_up heq
    split
    · exact Sup.le (n':=world.drawn) (serve_up ..) h
    · split
      · split
        · exact h
        · split
          · exact h
          · have h2:=endWith_up 0 world 2 (bytes ("fatal error: "++if (m.gs.any fun g=>g.status == .blocked||g.status == .parked)=true then "all goroutines are asleep - deadlock!" else "no goroutines (main called runtime.Goexit) - deadlock!")++bytes "\n") (.fatal "")
            split <;> trivial
      · split
        · exact (pick_up p _ { m with world }).le h
        · split
          · trivial
          · rename_i heq2
            exact (pick_up p _ { m with world:=_ }).le (Nat.le_trans h (run_ok_up heq2))
          · rename_i heq2
            have h3:=run_ok_up heq2
            exact Nat.le_trans h h3
          · rename_i heq2
            have h3:=run_ok_up heq2
            exact (pick_up p _ (Machine.advanceTo { m with world:=_ } _)).le (Nat.le_trans h h3)
theorem askM_up (p:Program) (m:Machine):Mup m.world.drawn (Go.ask p m):=by
  unfold Go.ask
  split
  · split
    · trivial
    · rename_i world heq
      have h:m.world.drawn≤world.drawn:=run_ok_up heq
      have h2:=look_up p m.gs m.rest world
      split
      · rename_i m' heq2
        rw [heq2] at h2
        exact (askOn_up p m').le (Nat.le_trans h h2)
      · exact Sup.le (n':=world.drawn) h2 h
    · rename_i world heq _
      exact (askOn_up p { m with world:=_ }).le (run_ok_up (by assumption))
  · exact askOn_up ..
theorem move_up (p:Program) (m:Machine):Mup m.world.drawn (move p m):=by
  unfold move
  split
  · split
    · exact Nat.le_refl _
    · trivial
  · split
    · split
      · exact Nat.le_refl _
      · exact askM_up p { m with rest:=_ }
    · exact askM_up ..
theorem step_up {p:Program} {m m':Machine} (h:step p m=.next m'):m.world.drawn≤m'.world.drawn:=by
  have h1:=move_up p m
  unfold step stepT at h
  split at h
  · rename_i m1 i1 heq
    rw [heq] at h1
    have h2:=goM_up p m1 i1 true
    rw [h] at h2
    exact Nat.le_trans h1 h2
  · rename_i heq
    rw [heq] at h1
    dsimp only at h
    subst h
    exact h1
theorem runN_up {p:Program}:∀ (n:Nat) {m m':Machine},runN p n m=.next m'→m.world.drawn≤m'.world.drawn
  | 0,m,m',h=>by
    simp only [runN,Stepped.next.injEq] at h
    rw [h]; exact Nat.le_refl _
  | n+1,m,m',h=>by
    unfold runN at h
    split at h
    · rename_i heq
      exact Nat.le_trans (step_up heq) (runN_up n h)
    · rename_i hn
      exact absurd h (hn _)
theorem comes_up {P:Program} {fr fr':Frame} {cs cs':List Frame} {w w':World} {e:Ending} (h:Comes P (lone fr cs w) (lone fr' cs' w') e):e=.outgrown∨w.drawn≤w'.drawn:=by
  cases e with
  | outgrown=>exact .inl rfl
  | returned v=>obtain ⟨n,hn⟩:=h; exact .inr (runN_up n hn)
  | panicked c=>obtain ⟨n,hn⟩:=h; exact .inr (runN_up n hn)
theorem calls_up {P:Program} {f:FuncId} {args:Array Value} {w:World} {R:Ending→World→Prop} (h:Calls P f args w R) :
    Calls P f args w fun e w'=>R e w'∧(e=.outgrown∨w.drawn≤w'.drawn):=fun cs=>by
  obtain ⟨e,w',fr,h1,h2,h3⟩:=h cs
  exact ⟨e,w',fr,⟨h1,comes_up h2⟩,h2,h3⟩
theorem St.grown {w w':World} {M:List Asr} (h:St w w' noX [] M) (hd:w.drawn≤w'.drawn):∃ q os',w'=grow (w.drewN q) os':=by
  refine ⟨w'.drawn-w.drawn,w'.heap.extract w.heap.size w'.heap.size,?_⟩
  have hh:w'.heap=w.heap++w'.heap.extract w.heap.size w'.heap.size:=by
    apply Array.ext_getElem?
    intro i
    by_cases hi:i<w.heap.size
    · rw [Array.getElem?_append_left hi]
      exact h.old i hi (fun h=>h)
    · have hs:=h.size
      rw [Array.getElem?_append_right (by omega),Array.getElem?_extract]
      by_cases h2:i<w'.heap.size
      · rw [if_pos (by omega)]
        congr 1
        omega
      · rw [if_neg (by omega),Array.getElem?_eq_none (by omega)]
  obtain ⟨hp',tp,dr,os,out⟩:=w'
  have h1:=h.os; have h2:=h.tape; have h3:=h.output
  simp only at h1 h2 h3 hh hd
  subst h1 h2 h3
  unfold grow World.drewN
  simp only [World.mk.injEq,and_true,true_and]
  exact ⟨hh,by omega⟩
theorem ret_grown {P:Program} {f:FuncId} {args:Array Value} {w:World} {G:Type} {rv:G→Value} {Q:G→World→Prop} (h:Ret P f args w rv Q) (hQ:∀ g w',Q g w'→∃ M,St w w' noX [] M) :
    Calls P f args w fun e w'=>∃ g,e=.returned (rv g)∧Q g w'∧∃ q os',w'=grow (w.drewN q) os' :=
  Calls.mono (calls_up h) fun e w' h=>by
    obtain ⟨⟨g,he,hq⟩,hu⟩:=h
    obtain ⟨M,hM⟩:=hQ g w' hq
    refine ⟨g,he,hq,hM.grown (hu.resolve_left (fun h=>?_))⟩
    rw [h] at he
    cases he
end Go.SL
