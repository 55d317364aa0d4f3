/- Part of a proof: laws and walks. -/
import Derived.Test.YtipfobacinmoiaaGreatTal
import Derived.Test.YtipfobacinmoiaaGreatTac
import Derived.Test.YtipfobacinmoiaaGreatTab
import Derived.Test.YtipfobacinmoiaaGreatTag
set_option linter.unusedVariables false
set_option linter.unusedSimpArgs false
namespace Det
theorem okL_asc {n:Nat} {l:List Int} (h:okL n l):l.Pairwise (·<·)∧∀ t ∈ l,0≤t∧t<(n:Int):=by
  refine ⟨?_,fun t ht=>?_⟩
  · rw [List.pairwise_iff_getElem]
    have key:∀ d i,i+d+1<l.length→l.getD i 0<l.getD (i+d+1) 0:=by
      intro d
      induction d with
      | zero=>intro i hi; have:=(h (i+0+1) hi).2 (by omega); simpa using this
      | succ d ih =>
        intro i hi
        have h1:=ih i (by omega)
        have h2:=(h (i+(d+1)+1) hi).2 (by omega)
        rw [show i+(d+1)+1-1=i+d+1 by omega] at h2
        omega
    intro i j hi hj hij
    have:=key (j-i-1) i (by omega)
    rw [show i+(j-i-1)+1=j by omega] at this
    simpa [List.getD_eq_getElem?_getD,List.getElem?_eq_getElem hi,List.getElem?_eq_getElem hj] using this
  · obtain ⟨i,hi,rfl⟩:=List.getElem_of_mem ht
    have:=(h i hi).1
    simpa [List.getD_eq_getElem?_getD,List.getElem?_eq_getElem hi] using this
theorem marks_mkS {n:Nat} {l:List Int} (h:okL n l):marks n l l.length=mkS n l:=by
  have hr:=(okL_asc h).2
  apply List.ext_getElem
  · rw [marks_len,mkS_len]
  intro i h1 h2
  have e1:=marks_all hr i
  have e2:=mkS_get (n:=n) (px:=l) (i:=i)
  rw [marks_len] at h1
  rw [List.getD_eq_getElem?_getD,List.getElem?_eq_getElem (by rw [marks_len]; exact h1),Option.getD_some] at e1
  rw [List.getD_eq_getElem?_getD,List.getElem?_eq_getElem h2,Option.getD_some] at e2
  rw [Bool.eq_iff_iff,e1,e2]
  exact ⟨fun h=>⟨h1,h⟩,fun h=>h.2⟩
theorem sub_eq_len {a b:List Int} (ha:a.Nodup) (hab:∀ t ∈ a,t ∈ b) (hl:b.length≤a.length):∀ t ∈ b,t ∈ a:=fun t ht=>by
  refine Decidable.byContradiction fun hn=>?_
  have h1:=len_sub (l:=t::a) (m:=b) (List.nodup_cons.2 ⟨hn,ha⟩) fun x hx=>by
    rcases List.mem_cons.1 hx with rfl | hx
    · exact ht
    · exact hab x hx
  simp at h1
  omega
section
variable {W H:Nat} {l:List Int}
theorem first_mem (h:0<l.length):l.getD 0 0 ∈ l:=by
  rw [List.getD_eq_getElem?_getD,List.getElem?_eq_getElem h]; exact List.getElem_mem _
theorem conn_part (h:okL (W*H) l) (h0:0<l.length):(mkS (W*H) l).getD (l.getD 0 0).toNat false=true:=by
  have:=(okL_asc h).2 _ (first_mem h0)
  exact mkS_get.2 ⟨by omega,by rw [Int.toNat_of_nonneg this.1]; exact first_mem h0⟩
theorem conn_setOK (h:conn W H l):SetOK W H l:=by
  obtain ⟨h1,h2,h3⟩:=h
  rw [marks_mkS h1] at h3
  have hf:=conn_part h1 h2
  have hp:=fun i=>part_iff (W:=W) (H:=H) (first:=(l.getD 0 0).toNat) mkS_len hf i
  have hsub:∀ t ∈ (part W H (mkS (W*H) l) (l.getD 0 0).toNat).2,t ∈ l:=fun t ht=>by
    have hr:=part_rng ht
    obtain ⟨c,rfl⟩:∃ c:Nat,t=(c:Int):=⟨t.toNat,by omega⟩
    exact (mkS_get.1 ((hp c).1 ht).right).2
  have hall:=sub_eq_len (asc_nodup part_asc) hsub (by omega)
  refine ⟨(okL_asc h1).1,(okL_asc h1).2,fun a b ha hb=>?_,fun e=>by rw [e] at h2; simp at h2⟩
  exact (((hp a).1 (hall _ ha)).symm mkS_len).trans ((hp b).1 (hall _ hb))
end
noncomputable def splitE (fW fH least:Int) (zs px lv:List Int):Int:=open Classical in
  if fieldOK fW fH zs then (if 20<lv.length then 4 else if conn fW.toNat fH.toNat px∧rising lv∧1≤least then 0 else 2) else 8
noncomputable def splitR (fW fH least:Int) (zs px lv:List Int):List (List Int) :=
  if splitE fW fH least zs px lv=0 then splitM (divideM zs fW.toNat fH.toNat least lv px) else []
section
variable {fW fH least:Int} {zs px lv:List Int}
theorem split_8 (h:¬ fieldOK fW fH zs):splitE fW fH least zs px lv=8∧splitR fW fH least zs px lv=[]:=by
  have e:splitE fW fH least zs px lv=8:=by unfold splitE; rw [if_neg h]
  exact ⟨e,by unfold splitR; rw [e,if_neg (by decide)]⟩
theorem split_4 (h:fieldOK fW fH zs) (h2:20<lv.length):splitE fW fH least zs px lv=4∧splitR fW fH least zs px lv=[]:=by
  have e:splitE fW fH least zs px lv=4:=by unfold splitE; rw [if_pos h,if_pos h2]
  exact ⟨e,by unfold splitR; rw [e,if_neg (by decide)]⟩
theorem split_2 (h:fieldOK fW fH zs) (h2:¬ 20<lv.length) (h3:¬ (conn fW.toNat fH.toNat px∧rising lv∧1≤least)):splitE fW fH least zs px lv=2∧splitR fW fH least zs px lv=[]:=by
  have e:splitE fW fH least zs px lv=2:=by unfold splitE; rw [if_pos h,if_neg h2,if_neg h3]
  exact ⟨e,by unfold splitR; rw [e,if_neg (by decide)]⟩
theorem split_0 (h:fieldOK fW fH zs) (h2:¬ 20<lv.length) (h3:conn fW.toNat fH.toNat px∧rising lv∧1≤least):splitE fW fH least zs px lv=0∧splitR fW fH least zs px lv=splitM (divideM zs fW.toNat fH.toNat least lv px):=by
  have e:splitE fW fH least zs px lv=0:=by unfold splitE; rw [if_pos h,if_neg h2,if_pos h3]
  exact ⟨e,by unfold splitR; rw [e,if_pos rfl]⟩
end
theorem ne_len {l:List (List Int)} (h:∀ x ∈ l,x≠[]) {q:Nat} (hq:q<l.length):0<(l.getD q []).length:=by
  rw [List.getD_eq_getElem?_getD,List.getElem?_eq_getElem hq]
  exact List.length_pos_iff.2 (h _ (List.getElem_mem hq))
theorem apart_inj {l:List (List Int)} (h:Apart l):∀ p q,p<l.length→q<l.length→fstM (l.getD p [])=fstM (l.getD q [])→p=q:=by
  have h1:=List.pairwise_iff_getElem.1 h.fst
  intro p q hp hq e
  have e:fstM l[p]=fstM l[q]:=by simpa [List.getD_eq_getElem?_getD,List.getElem?_eq_getElem hp,List.getElem?_eq_getElem hq] using e
  rcases Nat.lt_trichotomy p q with h2 | h2 | h2
  · exact absurd e (h1 p q hp hq h2)
  · exact h2
  · exact absurd e.symm (h1 q p hq hp h2)
theorem divide_pos {P px levels:List Int} {W H:Nat} {least:Int} (hleast:1≤least) (h:SetOK W H px):0<(divideM P W H least levels px).length:=by
  obtain ⟨t,ht⟩:=List.exists_mem_of_ne_nil _ h.ne
  obtain ⟨x,hx,_⟩:=(divide_ok (P:=P) hleast levels px h).2.2 t ht
  exact List.length_pos_of_mem hx
theorem cmpI_neg {x y:Int}:cmpI x y<0↔x<y:=by
  unfold cmpI; split
  · omega
  · split <;> omega
end Det

set_option maxHeartbeats 1000000
set_option maxRecDepth 8000
namespace Go.Proofs.YtipfobacinmoiaaGreat
open Go Go.SL Go.Shelf Go.RowKit Go.Maps
theorem RunV.toB {P:Program} {n:Nat} {ds:List Deferred} {L:List (Nat × Value)} {op:Op} {ty:TypeId} {w w2:World} {b c:Bool} (h:RunV P n ds L op ty w (.bool b) w2) (e:b=c):RunV P n ds L op ty w (.bool c) w2:=e▸h
theorem C_ok_17:callOK Tryz.prog 17=true:=by kernel_rfl
theorem C_ok_20:callOK Tryz.prog 20=true:=by kernel_rfl
theorem C_ok_8:callOK Tryz.prog 8=true:=by kernel_rfl
set_option maxHeartbeats 1000000 in
set_option maxRecDepth 4000 in
theorem conn13_pos (fW fH:Nat) (vP vL:Value) (zs l:List Int) (w0:World) [Decidable (Det.conn fW fH l)] (hW:1≤fW∧fW≤100) (hH:1≤fH∧fH≤100) (hn:zs.length=fW*fH) (hP:rdOK (hp w0) 1 vP zs.length (ints zs)) (hL:rdOK (hp w0) 1 vL l.length (ints l)) (hpos:0<l.length) :
    Ret Tryz.prog 20 #[(fG fW fH vP),vL] w0 (G:=Unit) (fun _=>.bool (decide (Det.conn fW fH l))) (fun _ w=>St w0 w noX [] []):=by
  refine ret_of_W (lv:=[(fG fW fH vP),vL]) Tryz.func20 rfl rfl rfl (fun a hf=>?_); replace hf:Fr a 62 [] [(0,(fG fW fH vP)),(1,vL)]:=hf; have hS:St w0 w0 noX [rI vP zs,rI vL l] []:=((St.refl w0).lend0 hL).lend0 hP; have hN:fW*fH≤10000:=Nat.mul_le_mul hW.2 hH.2; have hlen:=hL.2.1; unfold maxLen at hlen; have hz:=fun (h:0<l.length) (h2:Det.okL (fW*fH) l)=>h2 0 h; refine W.seq ?_
  refine R2 rfl<|O.box (cs:=#[iV fW,iV fH,vP]) hf hS rfl rfl rfl rfl<|?_; intro b_f1 w a hbb_f1 hS hf; refine mv hf rfl ?_; clear hf a; intro a hf; refine nk<|W.seq<|W.seq<|?_
  refine R1 rfl<|mv hf rfl<|?_; clear hf a; intro a hf; refine nk<|W.block<|?_
  refine W.loop (G:=(Nat)) (fun g a w=>match g with | k=>Fr a 62 [] [(1,vL),(2,(pp b_f1)),(5,iV k)]∧St w0 w noX [rI vP zs,rI vL l] [pt b_f1 (.cells #[iV fW,iV fH,vP] 24 (0,0))]∧(k≤l.length)∧(∀ j,j<k→(0≤l.getD j 0∧l.getD j 0<((fW*fH:Nat):Int))∧(0<j→l.getD (j-1) 0<l.getD j 0))) (fun g=>match g with | k=>l.length-k) 0 ?_ ?_
  · refine ⟨hf.to ⟨rfl,rfl,(by first | rfl | exact vI (by omega)),trivial⟩,hS,?_,?_⟩
    · omega
    · exact fun j hj=>by omega
  clear hf hS a; rintro k a w ⟨hf,hS,h1,h2⟩; refine W.seq<|W.seq<|?_
  refine R4 rfl<|mv hf rfl<|?_; clear hf a; intro a hf; refine mv hf rfl ?_; clear hf a; intro a hf; refine ov hf rfl (RunV.lenV (e:=3) (by simpa using T_elem_26) rfl (hS.rdAt (j:=1) rfl)) ?_; clear hf a; intro a hf; refine ov (v:=.bool (decide ((k:Int)<((l.length:Int):Int)))) hf rfl (RunV.lss rfl rfl) ?_; clear hf a; intro a hf; refine nk ?_; replace hf:Fr a 62 [] [(1,_),(2,_),(5,_),(9,_)]:=hf.q rfl; refine W.ifdI hf rfl (fun hk=>?_) (fun hk=>?_)
  · refine W.skip ?_
    refine k_seq<|W.seq<|W.block<|W.seq<|?_
    refine W.drawQ (fun w=>St w0 w noX [rI vP zs,rI vL l] [pt b_f1 (.cells #[iV fW,iV fH,vP] 24 (0,0))]) P_mixed rfl (by kernel_rfl) rfl hS.drew ?_; clear hS; refine q0 hf rfl rfl fun a hf=>q0 hf rfl rfl fun a hf=>OQ.val (v:=ix vL k) hf rfl (fun w hS=>RunV.ixV (j:=k) (m:=k) T_elem_26 T_size_3 rfl rfl (hS.rdAt (j:=1) rfl) rfl (by omega) (Nat.mul_one _)) fun a hf=>OQ.val (v:=iV (l.getD k 0)) hf rfl (fun w hS=>RunV.ld1 T_agg_3 rfl (hS.rdAt (j:=1) rfl) (ints_get (by omega))) fun a hf=>OQ.val (v:=.bool (decide ((l.getD k 0)<(0:Int)))) hf rfl (fun w hS=>RunV.lss rfl rfl) fun a hf=>q0 hf rfl rfl fun a hf=>?_
    refine OQ.cutK (K':=fun a=>Fr a 62 [] [(1,vL),(2,(pp b_f1)),(5,iV k),(26,.bool ((decide ((l.getD k 0)<(0:Int)))||(decide ((l.getD k 0)≥((zs.length:Int):Int)))))]) 9 ?_ ?_
    · rcases Bool.eq_false_or_eq_true (decide ((l.getD k 0)<(0:Int))) with hb3 | hb3
      · have hb3p:=of_decide_eq_true hb3
        refine OQ.skipB hf rfl rfl hb3 rfl fun a hf=>OQ.skipB hf rfl rfl hb3 rfl fun a hf=>OQ.skipB hf rfl rfl hb3 rfl fun a hf=>OQ.skipB hf rfl rfl hb3 rfl fun a hf=>OQ.skipB hf rfl rfl hb3 rfl fun a hf=>OQ.skipB hf rfl rfl hb3 rfl fun a hf=>OQ.skipB hf rfl rfl hb3 rfl fun a hf=>OQ.skipB hf rfl rfl hb3 rfl fun a hf=>?_; refine OQ.val (v:=.bool ((decide ((l.getD k 0)<(0:Int)))||(decide ((l.getD k 0)≥((zs.length:Int):Int))))) hf rfl (fun w hS=>RunV.pick rfl rfl rfl (by rw [hb3]; rfl)) ?_; clear hf a; intro a hf; exact OQ.nil (hf.q rfl)
      · have hb3p:=of_decide_eq_false hb3
        refine gm hf rfl rfl hb3 rfl rfl fun a hf=>gm hf rfl rfl hb3 rfl rfl fun a hf=>OQ.gval (v:=ix vL k) hf rfl rfl hb3 rfl (fun w hS=>RunV.ixV (j:=k) (m:=k) T_elem_26 T_size_3 rfl rfl (hS.rdAt (j:=1) rfl) rfl (by omega) (Nat.mul_one _)) fun a hf=>OQ.gval (v:=iV (l.getD k 0)) hf rfl rfl hb3 rfl (fun w hS=>RunV.ld1 T_agg_3 rfl (hS.rdAt (j:=1) rfl) (ints_get (by omega))) fun a hf=>OQ.gval (v:=.pointer (some ⟨b_f1,2,none⟩)) hf rfl rfl hb3 rfl (fun w hS=>RunV.field T_field_24_2 rfl rfl) fun a hf=>OQ.gval (v:=vP) hf rfl rfl hb3 rfl (fun w hS=>RunV.load1 T_agg_22 rfl (hS.p 0 rfl) rfl) fun a hf=>OQ.gval (v:=iV (zs.length:Int)) hf rfl rfl hb3 rfl (fun w hS=>RunV.lenV (e:=2) (by simpa using T_elem_22) rfl (hS.rdAt (j:=0) rfl)) fun a hf=>OQ.gval (v:=.bool (decide ((l.getD k 0)≥((zs.length:Int):Int)))) hf rfl rfl hb3 rfl (fun w hS=>RunV.geq rfl rfl) fun a hf=>?_; refine OQ.val (v:=.bool ((decide ((l.getD k 0)<(0:Int)))||(decide ((l.getD k 0)≥((zs.length:Int):Int))))) hf rfl (fun w hS=>RunV.pick rfl rfl rfl (by rw [hb3]; rfl)) ?_; clear hf a; intro a hf; exact OQ.nil (hf.q rfl)
    clear hf a; intro a hf; refine q0 hf rfl rfl fun a hf=>?_
    refine OQ.cutK (K':=fun a=>Fr a 62 [] [(1,vL),(2,(pp b_f1)),(5,iV k),(42,.bool (((decide ((l.getD k 0)<(0:Int)))||(decide ((l.getD k 0)≥((zs.length:Int):Int))))||((decide ((k:Int)>(0:Int)))&&(decide ((l.getD k 0)≤(l.getD (k-1) 0:Int))))))]) 15 ?_ ?_
    · rcases Bool.eq_false_or_eq_true ((decide ((l.getD k 0)<(0:Int)))||(decide ((l.getD k 0)≥((zs.length:Int):Int)))) with hb4 | hb4
      · have hb4p:=hb4
        try simp only [bsm] at hb4p
        refine OQ.skipB hf rfl rfl hb4 rfl fun a hf=>OQ.skipB hf rfl rfl hb4 rfl fun a hf=>OQ.skipB hf rfl rfl hb4 rfl fun a hf=>OQ.skipU hf rfl rfl rfl fun a hf=>OQ.skipU hf rfl rfl rfl fun a hf=>OQ.skipU hf rfl rfl rfl fun a hf=>OQ.skipU hf rfl rfl rfl fun a hf=>OQ.skipU hf rfl rfl rfl fun a hf=>OQ.skipU hf rfl rfl rfl fun a hf=>OQ.skipU hf rfl rfl rfl fun a hf=>?_; refine OQ.skipU hf rfl rfl rfl fun a hf=>OQ.skipU hf rfl rfl rfl fun a hf=>OQ.skipU hf rfl rfl rfl fun a hf=>OQ.skipB hf rfl rfl hb4 rfl fun a hf=>?_; refine OQ.val (v:=.bool (((decide ((l.getD k 0)<(0:Int)))||(decide ((l.getD k 0)≥((zs.length:Int):Int))))||((decide ((k:Int)>(0:Int)))&&(decide ((l.getD k 0)≤(l.getD (k-1) 0:Int)))))) hf rfl (fun w hS=>RunV.pick rfl rfl rfl (by rw [hb4]; rfl)) ?_; clear hf a; intro a hf; exact OQ.nil (hf.q rfl)
      · have hb4p:=hb4
        try simp only [bsm] at hb4p
        refine gm hf rfl rfl hb4 rfl rfl fun a hf=>OQ.gval (v:=.bool (decide ((k:Int)>(0:Int)))) hf rfl rfl hb4 rfl (fun w hS=>RunV.gtr rfl rfl) fun a hf=>gm hf rfl rfl hb4 rfl rfl fun a hf=>?_
        refine OQ.cutK (K':=fun a=>Fr a 62 [] [(1,vL),(2,(pp b_f1)),(5,iV k),(27,.bool ((decide ((l.getD k 0)<(0:Int)))||(decide ((l.getD k 0)≥((zs.length:Int):Int))))),(41,.bool ((decide ((k:Int)>(0:Int)))&&(decide ((l.getD k 0)≤(l.getD (k-1) 0:Int)))))]) 11 ?_ ?_
        · rcases Bool.eq_false_or_eq_true (decide ((k:Int)>(0:Int))) with hb5 | hb5
          · have hb5p:=of_decide_eq_true hb5
            refine gm hf rfl rfl hb5 rfl rfl fun a hf=>gm hf rfl rfl hb5 rfl rfl fun a hf=>OQ.gval (v:=ix vL k) hf rfl rfl hb5 rfl (fun w hS=>RunV.ixV (j:=k) (m:=k) T_elem_26 T_size_3 rfl rfl (hS.rdAt (j:=1) rfl) rfl (by omega) (Nat.mul_one _)) fun a hf=>OQ.gval (v:=iV (l.getD k 0)) hf rfl rfl hb5 rfl (fun w hS=>RunV.ld1 T_agg_3 rfl (hS.rdAt (j:=1) rfl) (ints_get (by omega))) fun a hf=>gm hf rfl rfl hb5 rfl rfl fun a hf=>gm hf rfl rfl hb5 rfl rfl fun a hf=>OQ.gval (v:=iV ((k:Int)-1)) hf rfl rfl hb5 rfl (fun w hS=>RunV.subI rfl rfl (by omega)) fun a hf=>?_; refine OQ.gval (v:=ix vL (k-1)) hf rfl rfl hb5 rfl (fun w hS=>RunV.ixV (j:=(k-1)) (m:=(k-1)) T_elem_26 T_size_3 rfl rfl (hS.rdAt (j:=1) rfl) (by congr 1; omega) (by omega) (Nat.mul_one _)) ?_; clear hf a; intro a hf; refine OQ.gval (v:=iV (l.getD (k-1) 0)) hf rfl rfl hb5 rfl (fun w hS=>RunV.ld1 T_agg_3 rfl (hS.rdAt (j:=1) rfl) (ints_get (by omega))) fun a hf=>OQ.gval (v:=.bool (decide ((l.getD k 0)≤(l.getD (k-1) 0:Int)))) hf rfl rfl hb5 rfl (fun w hS=>RunV.leq rfl rfl) fun a hf=>?_; refine OQ.gval (v:=.bool ((decide ((k:Int)>(0:Int)))&&(decide ((l.getD k 0)≤(l.getD (k-1) 0:Int))))) hf rfl rfl hb4 rfl (fun w hS=>RunV.pick rfl rfl rfl (by rw [hb5]; rfl)) ?_; clear hf a; intro a hf; exact OQ.nil (hf.q rfl)
          · have hb5p:=of_decide_eq_false hb5
            refine OQ.skipB hf rfl rfl hb5 rfl fun a hf=>OQ.skipB hf rfl rfl hb5 rfl fun a hf=>OQ.skipB hf rfl rfl hb5 rfl fun a hf=>OQ.skipB hf rfl rfl hb5 rfl fun a hf=>OQ.skipB hf rfl rfl hb5 rfl fun a hf=>OQ.skipB hf rfl rfl hb5 rfl fun a hf=>OQ.skipB hf rfl rfl hb5 rfl fun a hf=>OQ.skipB hf rfl rfl hb5 rfl fun a hf=>OQ.skipB hf rfl rfl hb5 rfl fun a hf=>OQ.skipB hf rfl rfl hb5 rfl fun a hf=>?_; refine OQ.gval (v:=.bool ((decide ((k:Int)>(0:Int)))&&(decide ((l.getD k 0)≤(l.getD (k-1) 0:Int))))) hf rfl rfl hb4 rfl (fun w hS=>RunV.pick rfl rfl rfl (by rw [hb5]; rfl)) ?_; clear hf a; intro a hf; exact OQ.nil (hf.q rfl)
        clear hf a; intro a hf; refine OQ.val (v:=.bool (((decide ((l.getD k 0)<(0:Int)))||(decide ((l.getD k 0)≥((zs.length:Int):Int))))||((decide ((k:Int)>(0:Int)))&&(decide ((l.getD k 0)≤(l.getD (k-1) 0:Int)))))) hf rfl (fun w hS=>RunV.pick rfl rfl rfl (by rw [hb4]; rfl)) ?_; clear hf a; intro a hf; exact OQ.nil (hf.q rfl)
    clear hf a; intro a hf; refine OQ.nil ?_; intro w hS; refine k_seq ?_; refine W.if_ hf rfl (fun hbad=>?_) (fun hbad=>?_)
    · have hbadb:=hbad
      try simp only [bsm] at hbad
      refine W.seq ?_
      refine R1 rfl<|mv hf rfl<|?_; clear hf a; intro a hf; refine nk<|W.ret<|k_blk_ret<|k_then_ret<|k_then_ret<|k_blk_ret<|k_then_ret<|post1 hf rfl (ResOK.tmp rfl)<|?_; refine ⟨(),by rw [show decide (Det.conn fW fH l)=false from decide_eq_false (fun h=>by first | exact absurd h.2.1 (by omega) | have:=h.1 k (by omega); simp only [Bool.or_eq_true,Bool.and_eq_true,decide_eq_true_eq] at hbadb; rw [hn] at hbadb; omega)],hS.sub (List.nil_sublist _) |>.noB⟩
    · have hbadb:=hbad
      try simp only [bsm] at hbad
      refine W.skip<|k_blk_normal<|k_seq<|?_
      refine R3 rfl<|mv hf rfl<|?_; clear hf a; intro a hf; refine ov hf rfl (RunV.addI rfl rfl (by omega)) ?_; clear hf a; intro a hf; refine mv hf rfl ?_; clear hf a; intro a hf; refine O.nil ?_; refine k_then ⟨(k+1),⟨hf.to ⟨rfl,rfl,(by first | rfl | exact vI (by omega)),trivial⟩,?_,?_,?_⟩,?_⟩
      · exact hS.eqM rfl
      · omega
      · simp only [Bool.or_eq_false_iff,Bool.and_eq_false_iff,decide_eq_false_iff_not] at hbadb
        rw [hn] at hbadb; exact Det.all_snoc h2 (by omega)
      · dsimp only; omega
  · refine W.exit ?_
    refine k_then_exit<|k_then_exit<|k_blk<|k_seq<|?_; replace hf:Fr a 62 [] [(1,_),(2,_)]:=hf.q rfl; refine W.seq ?_
    obtain rfl:k=l.length:=by omega
    have hz0:=hz hpos h2; refine W.drawI (γ:=(Value) × (Value)) (L0:=[(1,vL),(2,(pp b_f1))]) (default,default) [9,13,14] [0,1,2,3,4,5,6,7,8,10,11,12,15,16,17,18,19] (fun i=>match i with | 0=>[] | 1=>[0] | 2=>[1] | 3=>[2] | 4=>[3] | 5=>[3] | 6=>[3,5] | 7=>[3,6] | 8=>[3] | 9=>[3,7,8] | 10=>[3] | 11=>[3,10] | 12=>[3,11] | 13=>[3,4,9,12] | 14=>[3,13] | 15=>[3] | 16=>[3,15] | 17=>[3,14,16] | 18=>[3,17] | 19=>[0,1,2,3,4,5,6,7,8,9,10,11,12,13,14,15,16,17,18] | _=>[]) (fun (g:(Value) × (Value)) j=>match g,j with | ⟨vm,vp⟩,0=>vL | ⟨vm,vp⟩,1=>iV (l.length:Int) | ⟨vm,vp⟩,2=>.bool true | ⟨vm,vp⟩,3=>.bool true | ⟨vm,vp⟩,4=>(fG fW fH vP) | ⟨vm,vp⟩,5=>.pointer (some ⟨b_f1,2,none⟩) | ⟨vm,vp⟩,6=>vP | ⟨vm,vp⟩,7=>iV (zs.length:Int) | ⟨vm,vp⟩,8=>vL | ⟨vm,vp⟩,9=>vm | ⟨vm,vp⟩,10=>vL | ⟨vm,vp⟩,11=>ix vL 0 | ⟨vm,vp⟩,12=>iV (l.getD 0 0) | ⟨vm,vp⟩,13=>vp | ⟨vm,vp⟩,14=>iV ((Det.part fW fH (Det.marks (fW*fH) l l.length) (l.getD 0 0).toNat).2.length:Int) | ⟨vm,vp⟩,15=>vL | ⟨vm,vp⟩,16=>iV (l.length:Int) | ⟨vm,vp⟩,17=>.bool (decide (((Det.part fW fH (Det.marks (fW*fH) l l.length) (l.getD 0 0).toNat).2.length:Int)=((l.length:Int):Int))) | ⟨vm,vp⟩,18=>.bool (decide (((Det.part fW fH (Det.marks (fW*fH) l l.length) (l.getD 0 0).toNat).2.length:Int)=((l.length:Int):Int))) | ⟨vm,vp⟩,19=>.bool (decide (((Det.part fW fH (Det.marks (fW*fH) l l.length) (l.getD 0 0).toNat).2.length:Int)=((l.length:Int):Int))) | _,_=>undef) (fun k (g:(Value) × (Value)) w=>match k,g with | 0,⟨vm,vp⟩=>St w0 w noX [rI vP zs,rI vL l] [pt b_f1 (.cells #[iV fW,iV fH,vP] 24 (0,0))] | 1,⟨vm,vp⟩=>St w0 w noX [rI vP zs,rI vL l] [sl 4 1 vm ((Det.marks (fW*fH) l l.length).length) (bools (Det.marks (fW*fH) l l.length)),pt b_f1 (.cells #[iV fW,iV fH,vP] 24 (0,0))] | 2,⟨vm,vp⟩=>St w0 w noX [rI vP zs,rI vL l] [sl 3 1 vp ((Det.part fW fH (Det.marks (fW*fH) l l.length) (l.getD 0 0).toNat).2.length) (ints (Det.part fW fH (Det.marks (fW*fH) l l.length) (l.getD 0 0).toNat).2),sl 4 1 vm (((Det.part fW fH (Det.marks (fW*fH) l l.length) (l.getD 0 0).toNat).1).length) (bools ((Det.part fW fH (Det.marks (fW*fH) l l.length) (l.getD 0 0).toNat).1)),pt b_f1 (.cells #[iV fW,iV fH,vP] 24 (0,0))] | _,⟨vm,vp⟩=>St w0 w noX [rI vP zs,rI vL l] [sl 3 1 vp ((Det.part fW fH (Det.marks (fW*fH) l l.length) (l.getD 0 0).toNat).2.length) (ints (Det.part fW fH (Det.marks (fW*fH) l l.length) (l.getD 0 0).toNat).2),sl 4 1 vm (((Det.part fW fH (Det.marks (fW*fH) l l.length) (l.getD 0 0).toNat).1).length) (bools ((Det.part fW fH (Det.marks (fW*fH) l l.length) (l.getD 0 0).toNat).1)),pt b_f1 (.cells #[iV fW,iV fH,vP] 24 (0,0))]) P_mixed (by kernel_rfl) hf hS.drew ?_ ?_ ?_
    · clear hf hS
      refine ⟨?_,?_,?_,?_,?_,?_,?_,?_,?_,?_,?_,?_,?_,?_,?_,?_,?_,trivial⟩
      · intro k g w hD a hf
        obtain ⟨vm,vp⟩:=g
        rcases k with _ | _ | _ | k
        · have hS:=hD; clear hD
          replace hf:Fr a 62 [] [(1,_),(2,_)]:=hf.q rfl; refine mv hf rfl ?_; clear hf a; intro a hf; exact O.nil ⟨rfl,hf.to trivial,(gt (d:=43) hf rfl rfl),hS⟩
        · have hS:=hD; clear hD
          replace hf:Fr a 62 [] [(1,_),(2,_)]:=hf.q rfl; refine mv hf rfl ?_; clear hf a; intro a hf; exact O.nil ⟨rfl,hf.to trivial,(gt (d:=43) hf rfl rfl),hS⟩
        · have hS:=hD; clear hD
          replace hf:Fr a 62 [] [(1,_),(2,_)]:=hf.q rfl; refine mv hf rfl ?_; clear hf a; intro a hf; exact O.nil ⟨rfl,hf.to trivial,(gt (d:=43) hf rfl rfl),hS⟩
        · have hS:=hD; clear hD
          replace hf:Fr a 62 [] [(1,_),(2,_)]:=hf.q rfl; refine mv hf rfl ?_; clear hf a; intro a hf; exact O.nil ⟨rfl,hf.to trivial,(gt (d:=43) hf rfl rfl),hS⟩
      · intro k g w hD a hf
        obtain ⟨vm,vp⟩:=g
        rcases k with _ | _ | _ | k
        · have hS:=hD; clear hD
          replace hf:Fr a 62 [] [(43,_),(1,_),(2,_)]:=hf.q rfl; refine ov hf rfl (RunV.lenV (e:=3) (by simpa using T_elem_26) rfl (hS.rdAt (j:=1) rfl)) ?_; clear hf a; intro a hf; exact O.nil ⟨rfl,hf.to trivial,(gt (d:=44) hf rfl rfl),hS⟩
        · have hS:=hD; clear hD
          replace hf:Fr a 62 [] [(43,_),(1,_),(2,_)]:=hf.q rfl; refine ov hf rfl (RunV.lenV (e:=3) (by simpa using T_elem_26) rfl (hS.rdAt (j:=1) rfl)) ?_; clear hf a; intro a hf; exact O.nil ⟨rfl,hf.to trivial,(gt (d:=44) hf rfl rfl),hS⟩
        · have hS:=hD; clear hD
          replace hf:Fr a 62 [] [(43,_),(1,_),(2,_)]:=hf.q rfl; refine ov hf rfl (RunV.lenV (e:=3) (by simpa using T_elem_26) rfl (hS.rdAt (j:=1) rfl)) ?_; clear hf a; intro a hf; exact O.nil ⟨rfl,hf.to trivial,(gt (d:=44) hf rfl rfl),hS⟩
        · have hS:=hD; clear hD
          replace hf:Fr a 62 [] [(43,_),(1,_),(2,_)]:=hf.q rfl; refine ov hf rfl (RunV.lenV (e:=3) (by simpa using T_elem_26) rfl (hS.rdAt (j:=1) rfl)) ?_; clear hf a; intro a hf; exact O.nil ⟨rfl,hf.to trivial,(gt (d:=44) hf rfl rfl),hS⟩
      · intro k g w hD a hf
        obtain ⟨vm,vp⟩:=g
        rcases k with _ | _ | _ | k
        · have hS:=hD; clear hD
          replace hf:Fr a 62 [] [(44,_),(1,_),(2,_)]:=hf.q rfl; refine ov hf rfl (RunV.toB (RunV.gtr rfl rfl) (decide_eq_true (by omega))) ?_; clear hf a; intro a hf; exact O.nil ⟨rfl,hf.to trivial,(gt (d:=45) hf rfl rfl),hS⟩
        · have hS:=hD; clear hD
          replace hf:Fr a 62 [] [(44,_),(1,_),(2,_)]:=hf.q rfl; refine ov hf rfl (RunV.toB (RunV.gtr rfl rfl) (decide_eq_true (by omega))) ?_; clear hf a; intro a hf; exact O.nil ⟨rfl,hf.to trivial,(gt (d:=45) hf rfl rfl),hS⟩
        · have hS:=hD; clear hD
          replace hf:Fr a 62 [] [(44,_),(1,_),(2,_)]:=hf.q rfl; refine ov hf rfl (RunV.toB (RunV.gtr rfl rfl) (decide_eq_true (by omega))) ?_; clear hf a; intro a hf; exact O.nil ⟨rfl,hf.to trivial,(gt (d:=45) hf rfl rfl),hS⟩
        · have hS:=hD; clear hD
          replace hf:Fr a 62 [] [(44,_),(1,_),(2,_)]:=hf.q rfl; refine ov hf rfl (RunV.toB (RunV.gtr rfl rfl) (decide_eq_true (by omega))) ?_; clear hf a; intro a hf; exact O.nil ⟨rfl,hf.to trivial,(gt (d:=45) hf rfl rfl),hS⟩
      · intro k g w hD a hf
        obtain ⟨vm,vp⟩:=g
        rcases k with _ | _ | _ | k
        · have hS:=hD; clear hD
          replace hf:Fr a 62 [] [(45,_),(1,_),(2,_)]:=hf.q rfl; refine mv hf rfl ?_; clear hf a; intro a hf; exact O.nil ⟨rfl,hf.to trivial,(gt (d:=46) hf rfl rfl),hS⟩
        · have hS:=hD; clear hD
          replace hf:Fr a 62 [] [(45,_),(1,_),(2,_)]:=hf.q rfl; refine mv hf rfl ?_; clear hf a; intro a hf; exact O.nil ⟨rfl,hf.to trivial,(gt (d:=46) hf rfl rfl),hS⟩
        · have hS:=hD; clear hD
          replace hf:Fr a 62 [] [(45,_),(1,_),(2,_)]:=hf.q rfl; refine mv hf rfl ?_; clear hf a; intro a hf; exact O.nil ⟨rfl,hf.to trivial,(gt (d:=46) hf rfl rfl),hS⟩
        · have hS:=hD; clear hD
          replace hf:Fr a 62 [] [(45,_),(1,_),(2,_)]:=hf.q rfl; refine mv hf rfl ?_; clear hf a; intro a hf; exact O.nil ⟨rfl,hf.to trivial,(gt (d:=46) hf rfl rfl),hS⟩
      · intro k g w hD a hf
        obtain ⟨vm,vp⟩:=g
        rcases k with _ | _ | _ | k
        · have hS:=hD; clear hD
          replace hf:Fr a 62 [] [(46,_),(1,_),(2,_)]:=hf.q rfl; refine og (v:=(fG fW fH vP)) hf rfl rfl (RunV.loadN (cs':=#[iV fW,iV fH,vP]) T_agg_24 T_size_24 rfl (hS.p 0 rfl) (bl rfl) rfl) ?_; clear hf a; intro a hf; exact O.nil ⟨rfl,hf.to trivial,(gt (d:=47) hf rfl rfl),hS⟩
        · have hS:=hD; clear hD
          replace hf:Fr a 62 [] [(46,_),(1,_),(2,_)]:=hf.q rfl; refine og (v:=(fG fW fH vP)) hf rfl rfl (RunV.loadN (cs':=#[iV fW,iV fH,vP]) T_agg_24 T_size_24 rfl (hS.p 1 rfl) (bl rfl) rfl) ?_; clear hf a; intro a hf; exact O.nil ⟨rfl,hf.to trivial,(gt (d:=47) hf rfl rfl),hS⟩
        · have hS:=hD; clear hD
          replace hf:Fr a 62 [] [(46,_),(1,_),(2,_)]:=hf.q rfl; refine og (v:=(fG fW fH vP)) hf rfl rfl (RunV.loadN (cs':=#[iV fW,iV fH,vP]) T_agg_24 T_size_24 rfl (hS.p 2 rfl) (bl rfl) rfl) ?_; clear hf a; intro a hf; exact O.nil ⟨rfl,hf.to trivial,(gt (d:=47) hf rfl rfl),hS⟩
        · have hS:=hD; clear hD
          replace hf:Fr a 62 [] [(46,_),(1,_),(2,_)]:=hf.q rfl; refine og (v:=(fG fW fH vP)) hf rfl rfl (RunV.loadN (cs':=#[iV fW,iV fH,vP]) T_agg_24 T_size_24 rfl (hS.p 2 rfl) (bl rfl) rfl) ?_; clear hf a; intro a hf; exact O.nil ⟨rfl,hf.to trivial,(gt (d:=47) hf rfl rfl),hS⟩
      · intro k g w hD a hf
        obtain ⟨vm,vp⟩:=g
        rcases k with _ | _ | _ | k
        · have hS:=hD; clear hD
          replace hf:Fr a 62 [] [(46,_),(1,_),(2,_)]:=hf.q rfl; refine og (v:=.pointer (some ⟨b_f1,2,none⟩)) hf rfl rfl (RunV.field T_field_24_2 rfl rfl) ?_; clear hf a; intro a hf; exact O.nil ⟨rfl,hf.to trivial,(gt (d:=48) hf rfl rfl),hS⟩
        · have hS:=hD; clear hD
          replace hf:Fr a 62 [] [(46,_),(1,_),(2,_)]:=hf.q rfl; refine og (v:=.pointer (some ⟨b_f1,2,none⟩)) hf rfl rfl (RunV.field T_field_24_2 rfl rfl) ?_; clear hf a; intro a hf; exact O.nil ⟨rfl,hf.to trivial,(gt (d:=48) hf rfl rfl),hS⟩
        · have hS:=hD; clear hD
          replace hf:Fr a 62 [] [(46,_),(1,_),(2,_)]:=hf.q rfl; refine og (v:=.pointer (some ⟨b_f1,2,none⟩)) hf rfl rfl (RunV.field T_field_24_2 rfl rfl) ?_; clear hf a; intro a hf; exact O.nil ⟨rfl,hf.to trivial,(gt (d:=48) hf rfl rfl),hS⟩
        · have hS:=hD; clear hD
          replace hf:Fr a 62 [] [(46,_),(1,_),(2,_)]:=hf.q rfl; refine og (v:=.pointer (some ⟨b_f1,2,none⟩)) hf rfl rfl (RunV.field T_field_24_2 rfl rfl) ?_; clear hf a; intro a hf; exact O.nil ⟨rfl,hf.to trivial,(gt (d:=48) hf rfl rfl),hS⟩
      · intro k g w hD a hf
        obtain ⟨vm,vp⟩:=g
        rcases k with _ | _ | _ | k
        · have hS:=hD; clear hD
          replace hf:Fr a 62 [] [(46,_),(48,_),(1,_),(2,_)]:=hf.q rfl; refine og (v:=vP) hf rfl rfl (RunV.load1 T_agg_22 rfl (hS.p 0 rfl) rfl) ?_; clear hf a; intro a hf; exact O.nil ⟨rfl,hf.to trivial,(gt (d:=49) hf rfl rfl),hS⟩
        · have hS:=hD; clear hD
          replace hf:Fr a 62 [] [(46,_),(48,_),(1,_),(2,_)]:=hf.q rfl; refine og (v:=vP) hf rfl rfl (RunV.load1 T_agg_22 rfl (hS.p 1 rfl) rfl) ?_; clear hf a; intro a hf; exact O.nil ⟨rfl,hf.to trivial,(gt (d:=49) hf rfl rfl),hS⟩
        · have hS:=hD; clear hD
          replace hf:Fr a 62 [] [(46,_),(48,_),(1,_),(2,_)]:=hf.q rfl; refine og (v:=vP) hf rfl rfl (RunV.load1 T_agg_22 rfl (hS.p 2 rfl) rfl) ?_; clear hf a; intro a hf; exact O.nil ⟨rfl,hf.to trivial,(gt (d:=49) hf rfl rfl),hS⟩
        · have hS:=hD; clear hD
          replace hf:Fr a 62 [] [(46,_),(48,_),(1,_),(2,_)]:=hf.q rfl; refine og (v:=vP) hf rfl rfl (RunV.load1 T_agg_22 rfl (hS.p 2 rfl) rfl) ?_; clear hf a; intro a hf; exact O.nil ⟨rfl,hf.to trivial,(gt (d:=49) hf rfl rfl),hS⟩
      · intro k g w hD a hf
        obtain ⟨vm,vp⟩:=g
        rcases k with _ | _ | _ | k
        · have hS:=hD; clear hD
          replace hf:Fr a 62 [] [(46,_),(49,_),(1,_),(2,_)]:=hf.q rfl; refine og (v:=iV (zs.length:Int)) hf rfl rfl (RunV.lenV (e:=2) (by simpa using T_elem_22) rfl (hS.rdAt (j:=0) rfl)) ?_; clear hf a; intro a hf; exact O.nil ⟨rfl,hf.to trivial,(gt (d:=50) hf rfl rfl),hS⟩
        · have hS:=hD; clear hD
          replace hf:Fr a 62 [] [(46,_),(49,_),(1,_),(2,_)]:=hf.q rfl; refine og (v:=iV (zs.length:Int)) hf rfl rfl (RunV.lenV (e:=2) (by simpa using T_elem_22) rfl (hS.rdAt (j:=0) rfl)) ?_; clear hf a; intro a hf; exact O.nil ⟨rfl,hf.to trivial,(gt (d:=50) hf rfl rfl),hS⟩
        · have hS:=hD; clear hD
          replace hf:Fr a 62 [] [(46,_),(49,_),(1,_),(2,_)]:=hf.q rfl; refine og (v:=iV (zs.length:Int)) hf rfl rfl (RunV.lenV (e:=2) (by simpa using T_elem_22) rfl (hS.rdAt (j:=0) rfl)) ?_; clear hf a; intro a hf; exact O.nil ⟨rfl,hf.to trivial,(gt (d:=50) hf rfl rfl),hS⟩
        · have hS:=hD; clear hD
          replace hf:Fr a 62 [] [(46,_),(49,_),(1,_),(2,_)]:=hf.q rfl; refine og (v:=iV (zs.length:Int)) hf rfl rfl (RunV.lenV (e:=2) (by simpa using T_elem_22) rfl (hS.rdAt (j:=0) rfl)) ?_; clear hf a; intro a hf; exact O.nil ⟨rfl,hf.to trivial,(gt (d:=50) hf rfl rfl),hS⟩
      · intro k g w hD a hf
        obtain ⟨vm,vp⟩:=g
        rcases k with _ | _ | _ | k
        · have hS:=hD; clear hD
          replace hf:Fr a 62 [] [(46,_),(1,_),(2,_)]:=hf.q rfl; refine og (v:=vL) hf rfl rfl (RunV.move rfl) ?_; clear hf a; intro a hf; exact O.nil ⟨rfl,hf.to trivial,(gt (d:=51) hf rfl rfl),hS⟩
        · have hS:=hD; clear hD
          replace hf:Fr a 62 [] [(46,_),(1,_),(2,_)]:=hf.q rfl; refine og (v:=vL) hf rfl rfl (RunV.move rfl) ?_; clear hf a; intro a hf; exact O.nil ⟨rfl,hf.to trivial,(gt (d:=51) hf rfl rfl),hS⟩
        · have hS:=hD; clear hD
          replace hf:Fr a 62 [] [(46,_),(1,_),(2,_)]:=hf.q rfl; refine og (v:=vL) hf rfl rfl (RunV.move rfl) ?_; clear hf a; intro a hf; exact O.nil ⟨rfl,hf.to trivial,(gt (d:=51) hf rfl rfl),hS⟩
        · have hS:=hD; clear hD
          replace hf:Fr a 62 [] [(46,_),(1,_),(2,_)]:=hf.q rfl; refine og (v:=vL) hf rfl rfl (RunV.move rfl) ?_; clear hf a; intro a hf; exact O.nil ⟨rfl,hf.to trivial,(gt (d:=51) hf rfl rfl),hS⟩
      · intro k g w hD a hf
        obtain ⟨vm,vp⟩:=g
        rcases k with _ | _ | _ | k
        · have hS:=hD; clear hD
          replace hf:Fr a 62 [] [(46,_),(1,_),(2,_)]:=hf.q rfl; refine og (v:=vL) hf rfl rfl (RunV.move rfl) ?_; clear hf a; intro a hf; exact O.nil ⟨rfl,hf.to trivial,(gt (d:=53) hf rfl rfl),hS⟩
        · have hS:=hD; clear hD
          replace hf:Fr a 62 [] [(46,_),(1,_),(2,_)]:=hf.q rfl; refine og (v:=vL) hf rfl rfl (RunV.move rfl) ?_; clear hf a; intro a hf; exact O.nil ⟨rfl,hf.to trivial,(gt (d:=53) hf rfl rfl),hS⟩
        · have hS:=hD; clear hD
          replace hf:Fr a 62 [] [(46,_),(1,_),(2,_)]:=hf.q rfl; refine og (v:=vL) hf rfl rfl (RunV.move rfl) ?_; clear hf a; intro a hf; exact O.nil ⟨rfl,hf.to trivial,(gt (d:=53) hf rfl rfl),hS⟩
        · have hS:=hD; clear hD
          replace hf:Fr a 62 [] [(46,_),(1,_),(2,_)]:=hf.q rfl; refine og (v:=vL) hf rfl rfl (RunV.move rfl) ?_; clear hf a; intro a hf; exact O.nil ⟨rfl,hf.to trivial,(gt (d:=53) hf rfl rfl),hS⟩
      · intro k g w hD a hf
        obtain ⟨vm,vp⟩:=g
        rcases k with _ | _ | _ | k
        · have hS:=hD; clear hD
          replace hf:Fr a 62 [] [(46,_),(53,_),(1,_),(2,_)]:=hf.q rfl; refine og (v:=ix vL 0) hf rfl rfl (RunV.ixV (j:=0) (m:=0) T_elem_26 T_size_3 rfl rfl (hS.rdAt (j:=1) rfl) rfl (by omega) (Nat.mul_one _)) ?_; clear hf a; intro a hf; exact O.nil ⟨rfl,hf.to trivial,(gt (d:=54) hf rfl rfl),hS⟩
        · have hS:=hD; clear hD
          replace hf:Fr a 62 [] [(46,_),(53,_),(1,_),(2,_)]:=hf.q rfl; refine og (v:=ix vL 0) hf rfl rfl (RunV.ixV (j:=0) (m:=0) T_elem_26 T_size_3 rfl rfl (hS.rdAt (j:=1) rfl) rfl (by omega) (Nat.mul_one _)) ?_; clear hf a; intro a hf; exact O.nil ⟨rfl,hf.to trivial,(gt (d:=54) hf rfl rfl),hS⟩
        · have hS:=hD; clear hD
          replace hf:Fr a 62 [] [(46,_),(53,_),(1,_),(2,_)]:=hf.q rfl; refine og (v:=ix vL 0) hf rfl rfl (RunV.ixV (j:=0) (m:=0) T_elem_26 T_size_3 rfl rfl (hS.rdAt (j:=1) rfl) rfl (by omega) (Nat.mul_one _)) ?_; clear hf a; intro a hf; exact O.nil ⟨rfl,hf.to trivial,(gt (d:=54) hf rfl rfl),hS⟩
        · have hS:=hD; clear hD
          replace hf:Fr a 62 [] [(46,_),(53,_),(1,_),(2,_)]:=hf.q rfl; refine og (v:=ix vL 0) hf rfl rfl (RunV.ixV (j:=0) (m:=0) T_elem_26 T_size_3 rfl rfl (hS.rdAt (j:=1) rfl) rfl (by omega) (Nat.mul_one _)) ?_; clear hf a; intro a hf; exact O.nil ⟨rfl,hf.to trivial,(gt (d:=54) hf rfl rfl),hS⟩
      · intro k g w hD a hf
        obtain ⟨vm,vp⟩:=g
        rcases k with _ | _ | _ | k
        · have hS:=hD; clear hD
          replace hf:Fr a 62 [] [(46,_),(54,_),(1,_),(2,_)]:=hf.q rfl; refine og (v:=iV (l.getD 0 0)) hf rfl rfl (RunV.ld1 T_agg_3 rfl (hS.rdAt (j:=1) rfl) (ints_get (by omega))) ?_; clear hf a; intro a hf; exact O.nil ⟨rfl,hf.to trivial,(gt (d:=55) hf rfl rfl),hS⟩
        · have hS:=hD; clear hD
          replace hf:Fr a 62 [] [(46,_),(54,_),(1,_),(2,_)]:=hf.q rfl; refine og (v:=iV (l.getD 0 0)) hf rfl rfl (RunV.ld1 T_agg_3 rfl (hS.rdAt (j:=1) rfl) (ints_get (by omega))) ?_; clear hf a; intro a hf; exact O.nil ⟨rfl,hf.to trivial,(gt (d:=55) hf rfl rfl),hS⟩
        · have hS:=hD; clear hD
          replace hf:Fr a 62 [] [(46,_),(54,_),(1,_),(2,_)]:=hf.q rfl; refine og (v:=iV (l.getD 0 0)) hf rfl rfl (RunV.ld1 T_agg_3 rfl (hS.rdAt (j:=1) rfl) (ints_get (by omega))) ?_; clear hf a; intro a hf; exact O.nil ⟨rfl,hf.to trivial,(gt (d:=55) hf rfl rfl),hS⟩
        · have hS:=hD; clear hD
          replace hf:Fr a 62 [] [(46,_),(54,_),(1,_),(2,_)]:=hf.q rfl; refine og (v:=iV (l.getD 0 0)) hf rfl rfl (RunV.ld1 T_agg_3 rfl (hS.rdAt (j:=1) rfl) (ints_get (by omega))) ?_; clear hf a; intro a hf; exact O.nil ⟨rfl,hf.to trivial,(gt (d:=55) hf rfl rfl),hS⟩
      · intro k g w hD a hf
        obtain ⟨vm,vp⟩:=g
        rcases k with _ | _ | _ | k
        · have hS:=hD; clear hD
          replace hf:Fr a 62 [] [(46,_),(1,_),(2,_)]:=hf.q rfl; refine og (v:=vL) hf rfl rfl (RunV.move rfl) ?_; clear hf a; intro a hf; exact O.nil ⟨rfl,hf.to trivial,(gt (d:=58) hf rfl rfl),hS⟩
        · have hS:=hD; clear hD
          replace hf:Fr a 62 [] [(46,_),(1,_),(2,_)]:=hf.q rfl; refine og (v:=vL) hf rfl rfl (RunV.move rfl) ?_; clear hf a; intro a hf; exact O.nil ⟨rfl,hf.to trivial,(gt (d:=58) hf rfl rfl),hS⟩
        · have hS:=hD; clear hD
          replace hf:Fr a 62 [] [(46,_),(1,_),(2,_)]:=hf.q rfl; refine og (v:=vL) hf rfl rfl (RunV.move rfl) ?_; clear hf a; intro a hf; exact O.nil ⟨rfl,hf.to trivial,(gt (d:=58) hf rfl rfl),hS⟩
        · have hS:=hD; clear hD
          replace hf:Fr a 62 [] [(46,_),(1,_),(2,_)]:=hf.q rfl; refine og (v:=vL) hf rfl rfl (RunV.move rfl) ?_; clear hf a; intro a hf; exact O.nil ⟨rfl,hf.to trivial,(gt (d:=58) hf rfl rfl),hS⟩
      · intro k g w hD a hf
        obtain ⟨vm,vp⟩:=g
        rcases k with _ | _ | _ | k
        · have hS:=hD; clear hD
          replace hf:Fr a 62 [] [(46,_),(58,_),(1,_),(2,_)]:=hf.q rfl; refine og (v:=iV (l.length:Int)) hf rfl rfl (RunV.lenV (e:=3) (by simpa using T_elem_26) rfl (hS.rdAt (j:=1) rfl)) ?_; clear hf a; intro a hf; exact O.nil ⟨rfl,hf.to trivial,(gt (d:=59) hf rfl rfl),hS⟩
        · have hS:=hD; clear hD
          replace hf:Fr a 62 [] [(46,_),(58,_),(1,_),(2,_)]:=hf.q rfl; refine og (v:=iV (l.length:Int)) hf rfl rfl (RunV.lenV (e:=3) (by simpa using T_elem_26) rfl (hS.rdAt (j:=1) rfl)) ?_; clear hf a; intro a hf; exact O.nil ⟨rfl,hf.to trivial,(gt (d:=59) hf rfl rfl),hS⟩
        · have hS:=hD; clear hD
          replace hf:Fr a 62 [] [(46,_),(58,_),(1,_),(2,_)]:=hf.q rfl; refine og (v:=iV (l.length:Int)) hf rfl rfl (RunV.lenV (e:=3) (by simpa using T_elem_26) rfl (hS.rdAt (j:=1) rfl)) ?_; clear hf a; intro a hf; exact O.nil ⟨rfl,hf.to trivial,(gt (d:=59) hf rfl rfl),hS⟩
        · have hS:=hD; clear hD
          replace hf:Fr a 62 [] [(46,_),(58,_),(1,_),(2,_)]:=hf.q rfl; refine og (v:=iV (l.length:Int)) hf rfl rfl (RunV.lenV (e:=3) (by simpa using T_elem_26) rfl (hS.rdAt (j:=1) rfl)) ?_; clear hf a; intro a hf; exact O.nil ⟨rfl,hf.to trivial,(gt (d:=59) hf rfl rfl),hS⟩
      · intro k g w hD a hf
        obtain ⟨vm,vp⟩:=g
        rcases k with _ | _ | _ | k
        · have hS:=hD; clear hD
          replace hf:Fr a 62 [] [(46,_),(57,_),(59,_),(1,_),(2,_)]:=hf.q rfl; refine og (v:=.bool (decide (((Det.part fW fH (Det.marks (fW*fH) l l.length) (l.getD 0 0).toNat).2.length:Int)=((l.length:Int):Int)))) hf rfl rfl (RunV.eql rfl rfl) ?_; clear hf a; intro a hf; exact O.nil ⟨rfl,hf.to trivial,(gt (d:=60) hf rfl rfl),hS⟩
        · have hS:=hD; clear hD
          replace hf:Fr a 62 [] [(46,_),(57,_),(59,_),(1,_),(2,_)]:=hf.q rfl; refine og (v:=.bool (decide (((Det.part fW fH (Det.marks (fW*fH) l l.length) (l.getD 0 0).toNat).2.length:Int)=((l.length:Int):Int)))) hf rfl rfl (RunV.eql rfl rfl) ?_; clear hf a; intro a hf; exact O.nil ⟨rfl,hf.to trivial,(gt (d:=60) hf rfl rfl),hS⟩
        · have hS:=hD; clear hD
          replace hf:Fr a 62 [] [(46,_),(57,_),(59,_),(1,_),(2,_)]:=hf.q rfl; refine og (v:=.bool (decide (((Det.part fW fH (Det.marks (fW*fH) l l.length) (l.getD 0 0).toNat).2.length:Int)=((l.length:Int):Int)))) hf rfl rfl (RunV.eql rfl rfl) ?_; clear hf a; intro a hf; exact O.nil ⟨rfl,hf.to trivial,(gt (d:=60) hf rfl rfl),hS⟩
        · have hS:=hD; clear hD
          replace hf:Fr a 62 [] [(46,_),(57,_),(59,_),(1,_),(2,_)]:=hf.q rfl; refine og (v:=.bool (decide (((Det.part fW fH (Det.marks (fW*fH) l l.length) (l.getD 0 0).toNat).2.length:Int)=((l.length:Int):Int)))) hf rfl rfl (RunV.eql rfl rfl) ?_; clear hf a; intro a hf; exact O.nil ⟨rfl,hf.to trivial,(gt (d:=60) hf rfl rfl),hS⟩
      · intro k g w hD a hf
        obtain ⟨vm,vp⟩:=g
        rcases k with _ | _ | _ | k
        · have hS:=hD; clear hD
          replace hf:Fr a 62 [] [(46,_),(60,_),(1,_),(2,_)]:=hf.q rfl; refine ov (v:=.bool (decide (((Det.part fW fH (Det.marks (fW*fH) l l.length) (l.getD 0 0).toNat).2.length:Int)=((l.length:Int):Int)))) hf rfl (RunV.pick rfl rfl rfl rfl) ?_; clear hf a; intro a hf; exact O.nil ⟨rfl,hf.to trivial,(gt (d:=61) hf rfl rfl),hS⟩
        · have hS:=hD; clear hD
          replace hf:Fr a 62 [] [(46,_),(60,_),(1,_),(2,_)]:=hf.q rfl; refine ov (v:=.bool (decide (((Det.part fW fH (Det.marks (fW*fH) l l.length) (l.getD 0 0).toNat).2.length:Int)=((l.length:Int):Int)))) hf rfl (RunV.pick rfl rfl rfl rfl) ?_; clear hf a; intro a hf; exact O.nil ⟨rfl,hf.to trivial,(gt (d:=61) hf rfl rfl),hS⟩
        · have hS:=hD; clear hD
          replace hf:Fr a 62 [] [(46,_),(60,_),(1,_),(2,_)]:=hf.q rfl; refine ov (v:=.bool (decide (((Det.part fW fH (Det.marks (fW*fH) l l.length) (l.getD 0 0).toNat).2.length:Int)=((l.length:Int):Int)))) hf rfl (RunV.pick rfl rfl rfl rfl) ?_; clear hf a; intro a hf; exact O.nil ⟨rfl,hf.to trivial,(gt (d:=61) hf rfl rfl),hS⟩
        · have hS:=hD; clear hD
          replace hf:Fr a 62 [] [(46,_),(60,_),(1,_),(2,_)]:=hf.q rfl; refine ov (v:=.bool (decide (((Det.part fW fH (Det.marks (fW*fH) l l.length) (l.getD 0 0).toNat).2.length:Int)=((l.length:Int):Int)))) hf rfl (RunV.pick rfl rfl rfl rfl) ?_; clear hf a; intro a hf; exact O.nil ⟨rfl,hf.to trivial,(gt (d:=61) hf rfl rfl),hS⟩
      · intro k g w hD a hf
        obtain ⟨vm,vp⟩:=g
        rcases k with _ | _ | _ | k
        · have hS:=hD; clear hD
          replace hf:Fr a 62 [] [(43,_),(44,_),(45,_),(46,_),(47,_),(48,_),(49,_),(50,_),(51,_),(52,_),(53,_),(54,_),(55,_),(56,_),(57,_),(58,_),(59,_),(60,_),(61,_),(1,_),(2,_)]:=hf.q rfl; refine mv hf rfl ?_; clear hf a; intro a hf; exact O.nil ⟨rfl,hf.to trivial,(gt (d:=4) hf rfl rfl),hS⟩
        · have hS:=hD; clear hD
          replace hf:Fr a 62 [] [(43,_),(44,_),(45,_),(46,_),(47,_),(48,_),(49,_),(50,_),(51,_),(52,_),(53,_),(54,_),(55,_),(56,_),(57,_),(58,_),(59,_),(60,_),(61,_),(1,_),(2,_)]:=hf.q rfl; refine mv hf rfl ?_; clear hf a; intro a hf; exact O.nil ⟨rfl,hf.to trivial,(gt (d:=4) hf rfl rfl),hS⟩
        · have hS:=hD; clear hD
          replace hf:Fr a 62 [] [(43,_),(44,_),(45,_),(46,_),(47,_),(48,_),(49,_),(50,_),(51,_),(52,_),(53,_),(54,_),(55,_),(56,_),(57,_),(58,_),(59,_),(60,_),(61,_),(1,_),(2,_)]:=hf.q rfl; refine mv hf rfl ?_; clear hf a; intro a hf; exact O.nil ⟨rfl,hf.to trivial,(gt (d:=4) hf rfl rfl),hS⟩
        · have hS:=hD; clear hD
          replace hf:Fr a 62 [] [(43,_),(44,_),(45,_),(46,_),(47,_),(48,_),(49,_),(50,_),(51,_),(52,_),(53,_),(54,_),(55,_),(56,_),(57,_),(58,_),(59,_),(60,_),(61,_),(1,_),(2,_)]:=hf.q rfl; refine mv hf rfl ?_; clear hf a; intro a hf; exact O.nil ⟨rfl,hf.to trivial,(gt (d:=4) hf rfl rfl),hS⟩
    · clear hf hS
      refine ⟨?_,?_,?_,trivial⟩
      · intro g w hD a hf
        obtain ⟨vm,vp⟩:=g; have hS:=hD; clear hD; replace hf:Fr a 62 [] [(46,_),(50,_),(51,_),(1,_),(2,_)]:=hf.q rfl; rw [show ((zs.length:Nat):Int)=((fW*fH:Nat):Int) from by rw [hn]] at hf; refine O.gcallR hf rfl rfl rfl rfl rfl rfl (RunE.call (av:=#[iV ((fW*fH:Nat):Int),vL]) C_ok_46 rfl rfl rfl) (marks_spec (fW*fH) vL l _ (hS.rdAt (j:=1) rfl) (by omega) (fun i hi=>(h2 i (by omega)).1)) ?_; clear hf a; rintro vm w9 hS1 a hf; replace hS:=hS.cl hS1; exact O.nil ⟨rfl,(vm,vp),hf.to trivial,(gt (d:=52) hf rfl rfl),(fun j hj=>match j,hj with | 0,hj=>rfl | 1,hj=>rfl | 2,hj=>rfl | 3,hj=>rfl | 4,hj=>rfl | 5,hj=>rfl | 6,hj=>rfl | 7,hj=>rfl | 8,hj=>rfl | 9,hj=>absurd hj (by decide) | 10,hj=>rfl | 11,hj=>rfl | 12,hj=>rfl | 13,hj=>absurd hj (by decide) | 14,hj=>absurd hj (by decide) | 15,hj=>rfl | 16,hj=>rfl | 17,hj=>rfl | 18,hj=>rfl | 19,hj=>rfl | _+20,_=>rfl),hS⟩
      · intro g w hD a hf
        obtain ⟨vm,vp⟩:=g; have hS:=hD; clear hD; replace hf:Fr a 62 [] [(46,_),(47,_),(52,_),(55,_),(1,_),(2,_)]:=hf.q rfl; rw [show l.getD 0 0=(((l.getD 0 0).toNat:Nat):Int) from by omega] at hf; refine O.gcallR hf rfl rfl rfl rfl rfl rfl (RunE.call (av:=#[(fG fW fH vP),vm,iV ((l.getD 0 0).toNat:Int)]) C_ok_45 rfl rfl rfl) (part13_spec fW fH (l.getD 0 0).toNat vP vm zs (Det.marks (fW*fH) l l.length) _ hW hH hn (Det.marks_len _ _ _) (by omega) (hS.rdAt (j:=0) rfl) (hS.slAt (j:=0) rfl) (fun b g1 g2=>hS.apart (i:=0) (j:=0) rfl rfl b ⟨g1,g2⟩)) ?_; clear hf a; rintro vp w10 hS1 a hf; replace hS:=(hS.callX1 hS1 (i:=0) rfl (fun _ h=>h)).eqM (N:=[sl 3 1 vp ((Det.part fW fH (Det.marks (fW*fH) l l.length) (l.getD 0 0).toNat).2.length) (ints (Det.part fW fH (Det.marks (fW*fH) l l.length) (l.getD 0 0).toNat).2),sl 4 1 vm (((Det.part fW fH (Det.marks (fW*fH) l l.length) (l.getD 0 0).toNat).1).length) (bools ((Det.part fW fH (Det.marks (fW*fH) l l.length) (l.getD 0 0).toNat).1)),pt b_f1 (.cells #[iV fW,iV fH,vP] 24 (0,0))]) rfl; exact O.nil ⟨rfl,(vm,vp),hf.to trivial,(gt (d:=56) hf rfl rfl),(fun j hj=>match j,hj with | 0,hj=>rfl | 1,hj=>rfl | 2,hj=>rfl | 3,hj=>rfl | 4,hj=>rfl | 5,hj=>rfl | 6,hj=>rfl | 7,hj=>rfl | 8,hj=>rfl | 9,hj=>rfl | 10,hj=>rfl | 11,hj=>rfl | 12,hj=>rfl | 13,hj=>absurd hj (by decide) | 14,hj=>absurd hj (by decide) | 15,hj=>rfl | 16,hj=>rfl | 17,hj=>rfl | 18,hj=>rfl | 19,hj=>rfl | _+20,_=>rfl),hS⟩
      · intro g w hD a hf
        obtain ⟨vm,vp⟩:=g; have hS:=hD; clear hD; replace hf:Fr a 62 [] [(46,_),(56,_),(1,_),(2,_)]:=hf.q rfl; refine og (v:=iV ((Det.part fW fH (Det.marks (fW*fH) l l.length) (l.getD 0 0).toNat).2.length:Int)) hf rfl rfl (RunV.lenV (e:=3) (by simpa using T_elem_26) rfl (hS.slr (j:=0) rfl)) ?_; clear hf a; intro a hf; exact O.nil ⟨rfl,(vm,vp),hf.to trivial,(gt (d:=57) hf rfl rfl),(fun j hj=>match j,hj with | 0,hj=>rfl | 1,hj=>rfl | 2,hj=>rfl | 3,hj=>rfl | 4,hj=>rfl | 5,hj=>rfl | 6,hj=>rfl | 7,hj=>rfl | 8,hj=>rfl | 9,hj=>rfl | 10,hj=>rfl | 11,hj=>rfl | 12,hj=>rfl | 13,hj=>rfl | 14,hj=>absurd hj (by decide) | 15,hj=>rfl | 16,hj=>rfl | 17,hj=>rfl | 18,hj=>rfl | 19,hj=>rfl | _+20,_=>rfl),hS⟩
    clear hf hS; intro g a w hf hD; obtain ⟨vm,vp⟩:=g; have hS:=hD; clear hD; replace hf:Fr a 62 [] [(43,_),(44,_),(45,_),(46,_),(47,_),(48,_),(49,_),(50,_),(51,_),(52,_),(53,_),(54,_),(55,_),(56,_),(57,_),(58,_),(59,_),(60,_),(61,_),(4,_),(1,_),(2,_)]:=hf.q rfl; refine k_seq<|W.ret<|post1 hf rfl (ResOK.tmp rfl)<|?_; refine ⟨(),?_,hS.sub (List.nil_sublist _) |>.noB⟩
    apply congrArg Ending.returned; apply congrArg Value.bool; apply decide_eq_decide.2; constructor
    · intro h; exact ⟨h2,hpos,by omega⟩
    · intro h; have:=h.2.2; omega
set_option maxHeartbeats 1000000 in
set_option maxRecDepth 4000 in
theorem conn13_nil (fW fH:Nat) (vP vL:Value) (zs l:List Int) (w0:World) [Decidable (Det.conn fW fH l)] (hW:1≤fW∧fW≤100) (hH:1≤fH∧fH≤100) (hn:zs.length=fW*fH) (hP:rdOK (hp w0) 1 vP zs.length (ints zs)) (hL:rdOK (hp w0) 1 vL l.length (ints l)) (hpos:l.length=0) :
    Ret Tryz.prog 20 #[(fG fW fH vP),vL] w0 (G:=Unit) (fun _=>.bool (decide (Det.conn fW fH l))) (fun _ w=>St w0 w noX [] []):=by
  refine ret_of_W (lv:=[(fG fW fH vP),vL]) Tryz.func20 rfl rfl rfl (fun a hf=>?_); replace hf:Fr a 62 [] [(0,(fG fW fH vP)),(1,vL)]:=hf; have hS:St w0 w0 noX [rI vP zs,rI vL l] []:=((St.refl w0).lend0 hL).lend0 hP; have hN:fW*fH≤10000:=Nat.mul_le_mul hW.2 hH.2; have hlen:=hL.2.1; unfold maxLen at hlen; have hz:=fun (h:0<l.length) (h2:Det.okL (fW*fH) l)=>h2 0 h; refine W.seq ?_
  refine R2 rfl<|O.box (cs:=#[iV fW,iV fH,vP]) hf hS rfl rfl rfl rfl<|?_; intro b_f1 w a hbb_f1 hS hf; refine mv hf rfl ?_; clear hf a; intro a hf; refine nk<|W.seq<|W.seq<|?_
  refine R1 rfl<|mv hf rfl<|?_; clear hf a; intro a hf; refine nk<|W.block<|?_
  refine W.loop (G:=(Nat)) (fun g a w=>match g with | k=>Fr a 62 [] [(1,vL),(2,(pp b_f1)),(5,iV k)]∧St w0 w noX [rI vP zs,rI vL l] [pt b_f1 (.cells #[iV fW,iV fH,vP] 24 (0,0))]∧(k≤l.length)∧(∀ j,j<k→(0≤l.getD j 0∧l.getD j 0<((fW*fH:Nat):Int))∧(0<j→l.getD (j-1) 0<l.getD j 0))) (fun g=>match g with | k=>l.length-k) 0 ?_ ?_
  · refine ⟨hf.to ⟨rfl,rfl,(by first | rfl | exact vI (by omega)),trivial⟩,hS,?_,?_⟩
    · omega
    · exact fun j hj=>by omega
  clear hf hS a; rintro k a w ⟨hf,hS,h1,h2⟩; refine W.seq<|W.seq<|?_
  refine R4 rfl<|mv hf rfl<|?_; clear hf a; intro a hf; refine mv hf rfl ?_; clear hf a; intro a hf; refine ov hf rfl (RunV.lenV (e:=3) (by simpa using T_elem_26) rfl (hS.rdAt (j:=1) rfl)) ?_; clear hf a; intro a hf; refine ov (v:=.bool (decide ((k:Int)<((l.length:Int):Int)))) hf rfl (RunV.lss rfl rfl) ?_; clear hf a; intro a hf; refine nk ?_; replace hf:Fr a 62 [] [(1,_),(2,_),(5,_),(9,_)]:=hf.q rfl; refine W.ifdI hf rfl (fun hk=>?_) (fun hk=>?_)
  · refine W.skip ?_
    refine k_seq<|W.seq<|W.block<|W.seq<|?_
    refine W.drawQ (fun w=>St w0 w noX [rI vP zs,rI vL l] [pt b_f1 (.cells #[iV fW,iV fH,vP] 24 (0,0))]) P_mixed rfl (by kernel_rfl) rfl hS.drew ?_; clear hS; refine q0 hf rfl rfl fun a hf=>q0 hf rfl rfl fun a hf=>OQ.val (v:=ix vL k) hf rfl (fun w hS=>RunV.ixV (j:=k) (m:=k) T_elem_26 T_size_3 rfl rfl (hS.rdAt (j:=1) rfl) rfl (by omega) (Nat.mul_one _)) fun a hf=>OQ.val (v:=iV (l.getD k 0)) hf rfl (fun w hS=>RunV.ld1 T_agg_3 rfl (hS.rdAt (j:=1) rfl) (ints_get (by omega))) fun a hf=>OQ.val (v:=.bool (decide ((l.getD k 0)<(0:Int)))) hf rfl (fun w hS=>RunV.lss rfl rfl) fun a hf=>q0 hf rfl rfl fun a hf=>?_
    refine OQ.cutK (K':=fun a=>Fr a 62 [] [(1,vL),(2,(pp b_f1)),(5,iV k),(26,.bool ((decide ((l.getD k 0)<(0:Int)))||(decide ((l.getD k 0)≥((zs.length:Int):Int)))))]) 9 ?_ ?_
    · rcases Bool.eq_false_or_eq_true (decide ((l.getD k 0)<(0:Int))) with hb3 | hb3
      · have hb3p:=of_decide_eq_true hb3
        refine OQ.skipB hf rfl rfl hb3 rfl fun a hf=>OQ.skipB hf rfl rfl hb3 rfl fun a hf=>OQ.skipB hf rfl rfl hb3 rfl fun a hf=>OQ.skipB hf rfl rfl hb3 rfl fun a hf=>OQ.skipB hf rfl rfl hb3 rfl fun a hf=>OQ.skipB hf rfl rfl hb3 rfl fun a hf=>OQ.skipB hf rfl rfl hb3 rfl fun a hf=>OQ.skipB hf rfl rfl hb3 rfl fun a hf=>?_; refine OQ.val (v:=.bool ((decide ((l.getD k 0)<(0:Int)))||(decide ((l.getD k 0)≥((zs.length:Int):Int))))) hf rfl (fun w hS=>RunV.pick rfl rfl rfl (by rw [hb3]; rfl)) ?_; clear hf a; intro a hf; exact OQ.nil (hf.q rfl)
      · have hb3p:=of_decide_eq_false hb3
        refine gm hf rfl rfl hb3 rfl rfl fun a hf=>gm hf rfl rfl hb3 rfl rfl fun a hf=>OQ.gval (v:=ix vL k) hf rfl rfl hb3 rfl (fun w hS=>RunV.ixV (j:=k) (m:=k) T_elem_26 T_size_3 rfl rfl (hS.rdAt (j:=1) rfl) rfl (by omega) (Nat.mul_one _)) fun a hf=>OQ.gval (v:=iV (l.getD k 0)) hf rfl rfl hb3 rfl (fun w hS=>RunV.ld1 T_agg_3 rfl (hS.rdAt (j:=1) rfl) (ints_get (by omega))) fun a hf=>OQ.gval (v:=.pointer (some ⟨b_f1,2,none⟩)) hf rfl rfl hb3 rfl (fun w hS=>RunV.field T_field_24_2 rfl rfl) fun a hf=>OQ.gval (v:=vP) hf rfl rfl hb3 rfl (fun w hS=>RunV.load1 T_agg_22 rfl (hS.p 0 rfl) rfl) fun a hf=>OQ.gval (v:=iV (zs.length:Int)) hf rfl rfl hb3 rfl (fun w hS=>RunV.lenV (e:=2) (by simpa using T_elem_22) rfl (hS.rdAt (j:=0) rfl)) fun a hf=>OQ.gval (v:=.bool (decide ((l.getD k 0)≥((zs.length:Int):Int)))) hf rfl rfl hb3 rfl (fun w hS=>RunV.geq rfl rfl) fun a hf=>?_; refine OQ.val (v:=.bool ((decide ((l.getD k 0)<(0:Int)))||(decide ((l.getD k 0)≥((zs.length:Int):Int))))) hf rfl (fun w hS=>RunV.pick rfl rfl rfl (by rw [hb3]; rfl)) ?_; clear hf a; intro a hf; exact OQ.nil (hf.q rfl)
    clear hf a; intro a hf; refine q0 hf rfl rfl fun a hf=>?_
    refine OQ.cutK (K':=fun a=>Fr a 62 [] [(1,vL),(2,(pp b_f1)),(5,iV k),(42,.bool (((decide ((l.getD k 0)<(0:Int)))||(decide ((l.getD k 0)≥((zs.length:Int):Int))))||((decide ((k:Int)>(0:Int)))&&(decide ((l.getD k 0)≤(l.getD (k-1) 0:Int))))))]) 15 ?_ ?_
    · rcases Bool.eq_false_or_eq_true ((decide ((l.getD k 0)<(0:Int)))||(decide ((l.getD k 0)≥((zs.length:Int):Int)))) with hb4 | hb4
      · have hb4p:=hb4
        try simp only [bsm] at hb4p
        refine OQ.skipB hf rfl rfl hb4 rfl fun a hf=>OQ.skipB hf rfl rfl hb4 rfl fun a hf=>OQ.skipB hf rfl rfl hb4 rfl fun a hf=>OQ.skipU hf rfl rfl rfl fun a hf=>OQ.skipU hf rfl rfl rfl fun a hf=>OQ.skipU hf rfl rfl rfl fun a hf=>OQ.skipU hf rfl rfl rfl fun a hf=>OQ.skipU hf rfl rfl rfl fun a hf=>OQ.skipU hf rfl rfl rfl fun a hf=>OQ.skipU hf rfl rfl rfl fun a hf=>?_; refine OQ.skipU hf rfl rfl rfl fun a hf=>OQ.skipU hf rfl rfl rfl fun a hf=>OQ.skipU hf rfl rfl rfl fun a hf=>OQ.skipB hf rfl rfl hb4 rfl fun a hf=>?_; refine OQ.val (v:=.bool (((decide ((l.getD k 0)<(0:Int)))||(decide ((l.getD k 0)≥((zs.length:Int):Int))))||((decide ((k:Int)>(0:Int)))&&(decide ((l.getD k 0)≤(l.getD (k-1) 0:Int)))))) hf rfl (fun w hS=>RunV.pick rfl rfl rfl (by rw [hb4]; rfl)) ?_; clear hf a; intro a hf; exact OQ.nil (hf.q rfl)
      · have hb4p:=hb4
        try simp only [bsm] at hb4p
        refine gm hf rfl rfl hb4 rfl rfl fun a hf=>OQ.gval (v:=.bool (decide ((k:Int)>(0:Int)))) hf rfl rfl hb4 rfl (fun w hS=>RunV.gtr rfl rfl) fun a hf=>gm hf rfl rfl hb4 rfl rfl fun a hf=>?_
        refine OQ.cutK (K':=fun a=>Fr a 62 [] [(1,vL),(2,(pp b_f1)),(5,iV k),(27,.bool ((decide ((l.getD k 0)<(0:Int)))||(decide ((l.getD k 0)≥((zs.length:Int):Int))))),(41,.bool ((decide ((k:Int)>(0:Int)))&&(decide ((l.getD k 0)≤(l.getD (k-1) 0:Int)))))]) 11 ?_ ?_
        · rcases Bool.eq_false_or_eq_true (decide ((k:Int)>(0:Int))) with hb5 | hb5
          · have hb5p:=of_decide_eq_true hb5
            refine gm hf rfl rfl hb5 rfl rfl fun a hf=>gm hf rfl rfl hb5 rfl rfl fun a hf=>OQ.gval (v:=ix vL k) hf rfl rfl hb5 rfl (fun w hS=>RunV.ixV (j:=k) (m:=k) T_elem_26 T_size_3 rfl rfl (hS.rdAt (j:=1) rfl) rfl (by omega) (Nat.mul_one _)) fun a hf=>OQ.gval (v:=iV (l.getD k 0)) hf rfl rfl hb5 rfl (fun w hS=>RunV.ld1 T_agg_3 rfl (hS.rdAt (j:=1) rfl) (ints_get (by omega))) fun a hf=>gm hf rfl rfl hb5 rfl rfl fun a hf=>gm hf rfl rfl hb5 rfl rfl fun a hf=>OQ.gval (v:=iV ((k:Int)-1)) hf rfl rfl hb5 rfl (fun w hS=>RunV.subI rfl rfl (by omega)) fun a hf=>?_; refine OQ.gval (v:=ix vL (k-1)) hf rfl rfl hb5 rfl (fun w hS=>RunV.ixV (j:=(k-1)) (m:=(k-1)) T_elem_26 T_size_3 rfl rfl (hS.rdAt (j:=1) rfl) (by congr 1; omega) (by omega) (Nat.mul_one _)) ?_; clear hf a; intro a hf; refine OQ.gval (v:=iV (l.getD (k-1) 0)) hf rfl rfl hb5 rfl (fun w hS=>RunV.ld1 T_agg_3 rfl (hS.rdAt (j:=1) rfl) (ints_get (by omega))) fun a hf=>OQ.gval (v:=.bool (decide ((l.getD k 0)≤(l.getD (k-1) 0:Int)))) hf rfl rfl hb5 rfl (fun w hS=>RunV.leq rfl rfl) fun a hf=>?_; refine OQ.gval (v:=.bool ((decide ((k:Int)>(0:Int)))&&(decide ((l.getD k 0)≤(l.getD (k-1) 0:Int))))) hf rfl rfl hb4 rfl (fun w hS=>RunV.pick rfl rfl rfl (by rw [hb5]; rfl)) ?_; clear hf a; intro a hf; exact OQ.nil (hf.q rfl)
          · have hb5p:=of_decide_eq_false hb5
            refine OQ.skipB hf rfl rfl hb5 rfl fun a hf=>OQ.skipB hf rfl rfl hb5 rfl fun a hf=>OQ.skipB hf rfl rfl hb5 rfl fun a hf=>OQ.skipB hf rfl rfl hb5 rfl fun a hf=>OQ.skipB hf rfl rfl hb5 rfl fun a hf=>OQ.skipB hf rfl rfl hb5 rfl fun a hf=>OQ.skipB hf rfl rfl hb5 rfl fun a hf=>OQ.skipB hf rfl rfl hb5 rfl fun a hf=>OQ.skipB hf rfl rfl hb5 rfl fun a hf=>OQ.skipB hf rfl rfl hb5 rfl fun a hf=>?_; refine OQ.gval (v:=.bool ((decide ((k:Int)>(0:Int)))&&(decide ((l.getD k 0)≤(l.getD (k-1) 0:Int))))) hf rfl rfl hb4 rfl (fun w hS=>RunV.pick rfl rfl rfl (by rw [hb5]; rfl)) ?_; clear hf a; intro a hf; exact OQ.nil (hf.q rfl)
        clear hf a; intro a hf; refine OQ.val (v:=.bool (((decide ((l.getD k 0)<(0:Int)))||(decide ((l.getD k 0)≥((zs.length:Int):Int))))||((decide ((k:Int)>(0:Int)))&&(decide ((l.getD k 0)≤(l.getD (k-1) 0:Int)))))) hf rfl (fun w hS=>RunV.pick rfl rfl rfl (by rw [hb4]; rfl)) ?_; clear hf a; intro a hf; exact OQ.nil (hf.q rfl)
    clear hf a; intro a hf; refine OQ.nil ?_; intro w hS; refine k_seq ?_; refine W.if_ hf rfl (fun hbad=>?_) (fun hbad=>?_)
    · have hbadb:=hbad
      try simp only [bsm] at hbad
      refine W.seq ?_
      refine R1 rfl<|mv hf rfl<|?_; clear hf a; intro a hf; refine nk<|W.ret<|k_blk_ret<|k_then_ret<|k_then_ret<|k_blk_ret<|k_then_ret<|post1 hf rfl (ResOK.tmp rfl)<|?_; refine ⟨(),by rw [show decide (Det.conn fW fH l)=false from decide_eq_false (fun h=>by first | exact absurd h.2.1 (by omega) | have:=h.1 k (by omega); simp only [Bool.or_eq_true,Bool.and_eq_true,decide_eq_true_eq] at hbadb; rw [hn] at hbadb; omega)],hS.sub (List.nil_sublist _) |>.noB⟩
    · have hbadb:=hbad
      try simp only [bsm] at hbad
      refine W.skip<|k_blk_normal<|k_seq<|?_
      refine R3 rfl<|mv hf rfl<|?_; clear hf a; intro a hf; refine ov hf rfl (RunV.addI rfl rfl (by omega)) ?_; clear hf a; intro a hf; refine mv hf rfl ?_; clear hf a; intro a hf; refine O.nil ?_; refine k_then ⟨(k+1),⟨hf.to ⟨rfl,rfl,(by first | rfl | exact vI (by omega)),trivial⟩,?_,?_,?_⟩,?_⟩
      · exact hS.eqM rfl
      · omega
      · simp only [Bool.or_eq_false_iff,Bool.and_eq_false_iff,decide_eq_false_iff_not] at hbadb
        rw [hn] at hbadb; exact Det.all_snoc h2 (by omega)
      · dsimp only; omega
  · refine W.exit ?_
    refine k_then_exit<|k_then_exit<|k_blk<|k_seq<|?_; replace hf:Fr a 62 [] [(1,_),(2,_)]:=hf.q rfl; refine W.seq ?_
    obtain rfl:k=l.length:=by omega
    refine W.drawQ (fun w=>St w0 w noX [rI vP zs,rI vL l] [pt b_f1 (.cells #[iV fW,iV fH,vP] 24 (0,0))]) P_mixed rfl (by kernel_rfl) rfl hS.drew ?_; clear hS; refine q0 hf rfl rfl fun a hf=>OQ.val (v:=iV (l.length:Int)) hf rfl (fun w hS=>RunV.lenV (e:=3) (by simpa using T_elem_26) rfl (hS.rdAt (j:=1) rfl)) fun a hf=>OQ.val (v:=.bool false) hf rfl (fun w hS=>RunV.toB (RunV.gtr rfl rfl) (decide_eq_false (by omega))) fun a hf=>q0 hf rfl rfl fun a hf=>OQ.skipB hf rfl rfl rfl rfl fun a hf=>OQ.skipB hf rfl rfl rfl rfl fun a hf=>OQ.skipB hf rfl rfl rfl rfl fun a hf=>OQ.skipB hf rfl rfl rfl rfl fun a hf=>OQ.skipB hf rfl rfl rfl rfl fun a hf=>OQ.skipB hf rfl rfl rfl rfl fun a hf=>?_; refine OQ.skipB hf rfl rfl rfl rfl fun a hf=>OQ.skipB hf rfl rfl rfl rfl fun a hf=>OQ.skipB hf rfl rfl rfl rfl fun a hf=>OQ.skipB hf rfl rfl rfl rfl fun a hf=>OQ.skipB hf rfl rfl rfl rfl fun a hf=>OQ.skipB hf rfl rfl rfl rfl fun a hf=>OQ.skipB hf rfl rfl rfl rfl fun a hf=>OQ.skipB hf rfl rfl rfl rfl fun a hf=>OQ.val (v:=.bool false) hf rfl (fun w hS=>RunV.pick rfl rfl rfl rfl) fun a hf=>OQ.val (v:=.bool false) hf rfl (fun w hS=>RunV.assign rfl) fun a hf=>?_; refine OQ.nil ?_; intro w hS; refine k_seq<|W.ret<|post1 hf rfl (ResOK.tmp rfl)<|?_; refine ⟨(),by rw [show decide (Det.conn fW fH l)=false from decide_eq_false (fun h=>by first | exact absurd h.2.1 (by omega) | have:=h.1 k (by omega); simp only [Bool.or_eq_true,Bool.and_eq_true,decide_eq_true_eq] at hbadb; rw [hn] at hbadb; omega)],hS.sub (List.nil_sublist _) |>.noB⟩
theorem conn13_spec (fW fH:Nat) (vP vL:Value) (zs l:List Int) (w0:World) [Decidable (Det.conn fW fH l)] (hW:1≤fW∧fW≤100) (hH:1≤fH∧fH≤100) (hn:zs.length=fW*fH) (hP:rdOK (hp w0) 1 vP zs.length (ints zs)) (hL:rdOK (hp w0) 1 vL l.length (ints l)) :
    Ret Tryz.prog 20 #[(fG fW fH vP),vL] w0 (G:=Unit) (fun _=>.bool (decide (Det.conn fW fH l))) (fun _ w=>St w0 w noX [] []):=by
  rcases Nat.eq_zero_or_pos l.length with h | h
  · exact conn13_nil fW fH vP vL zs l w0 hW hH hn hP hL h
  · exact conn13_pos fW fH vP vL zs l w0 hW hH hn hP hL h
end Go.Proofs.YtipfobacinmoiaaGreat

set_option maxHeartbeats 1000000
set_option maxRecDepth 8000
namespace Go.Proofs.YtipfobacinmoiaaGreat
open Go Go.SL Go.Shelf Go.RowKit Go.Maps
theorem C_ok_33:callOK Tryz.prog 33=true:=by kernel_rfl
theorem C_ok_34:callOK Tryz.prog 34=true:=by kernel_rfl
set_option maxHeartbeats 1000000 in
set_option maxRecDepth 4000 in
theorem ord34 (va:Value) (vs:List Value) (xss:List (List Int)) (w0:World) (ha:rdOK (hp w0) 1 va vs.length vs) (hia:innOK (hp w0) vs xss) (hvl:vs.length≤10000) (hne:∀ q,q<vs.length→0<(xss.getD q []).length) :
    Ret Tryz.prog 34 #[va] w0 (G:=Value × List Nat) (fun g=>g.1) (fun g w=>St w0 w noX [] [sl 26 1 g.1 g.2.length (pickV vs g.2)]∧g.2.Perm (List.range vs.length)∧g.2.Pairwise (fun p q=>Det.fstM (xss.getD p [])≤Det.fstM (xss.getD q []))):=by
  refine ret_of_W (lv:=[va]) Tryz.func34 rfl rfl rfl (fun a hf=>?_); replace hf:Fr a 57 [] [(0,va)]:=hf; have hS:St w0 w0 noX [rdv 1 va vs.length vs,inn vs xss] []:=((St.refl w0).lendI0 hia).lend0 ha; have hxl:=hia.1; refine W.seq ?_
  refine R1 rfl<|mv hf rfl<|fun a hf=>?_; refine nk<|W.seq<|?_
  refine R1 rfl<|mv hf rfl<|fun a hf=>?_; refine nk<|W.seq<|W.seq<|?_
  refine R1 rfl<|mv hf rfl<|fun a hf=>?_; refine nk<|W.block<|?_; replace hS:St w0 _ noX [rdv 1 va vs.length vs,inn vs xss] [sl 26 1 (.slice none 0 0) (([]:List Nat).length) (pickV vs [])]:=hS.nilSl 26 1
  refine W.loop (G:=(Nat) × (Value) × (List Nat)) (fun g a w=>match g with | (i,vt,is)=>Fr a 57 [] [(0,va),(2,.slice none 0 0),(3,vt),(4,iV i)]∧St w0 w noX [rdv 1 va vs.length vs,inn vs xss] [sl 26 1 vt is.length (pickV vs is)]∧(i≤vs.length)∧(is.length=i)∧(is.Perm (List.range i))∧(is.Pairwise (fun p q=>Det.fstM (xss.getD p [])≤Det.fstM (xss.getD q [])))) (fun g=>match g with | (i,vt,is)=>vs.length-i) (0,(.slice none 0 0),[]) ?_ ?_
  · refine ⟨hf.to ⟨rfl,rfl,(by first | rfl | exact vI (by omega)),(by first | rfl | exact vI (by omega)),trivial⟩,hS,?_,?_,?_,?_⟩
    · omega
    · rfl
    · exact .refl _
    · exact .nil
  clear hf hS a; rintro ⟨i,vt,is⟩ a w ⟨hf,hS,h1,hil,hpm,hsr⟩; refine W.seq<|W.seq<|?_
  refine R4 rfl<|mv hf rfl<|fun a hf=>mv hf rfl fun a hf=>ov hf rfl (RunV.lenV (e:=26) (by simpa using T_elem_28) rfl (hS.rdAt (j:=0) rfl)) fun a hf=>ov (v:=.bool (decide ((i:Int)<((vs.length:Int):Int)))) hf rfl (RunV.lss rfl rfl) fun a hf=>?_; refine nk ?_; refine W.ifdI hf rfl (fun hi1=>?_) (fun hi1=>?_)
  · refine W.skip ?_
    refine k_seq<|W.seq<|W.block<|W.seq<|?_
    refine W.regionL (l:=[0,1,2,3,4,5,6,7]) rfl<|mv hf rfl<|fun a hf=>?_; refine mv hf rfl fun a hf=>mv hf rfl fun a hf=>ov hf rfl (RunV.ixV (j:=i) (m:=i) T_elem_28 T_size_26 rfl rfl (hS.rdAt (j:=0) rfl) rfl (by omega) (Nat.mul_one _)) fun a hf=>ov hf rfl (RunV.ld1 T_agg_26 rfl (hS.rdAt (j:=0) rfl) (vs_get (by omega))) fun a hf=>?_; have hcl3:=rdOK.cells (innOK.get (hS.innB (j:=1) rfl) (i:=i) (by omega)); refine O.buildSlice (cs':=#[(vs.getD i undef)]) (zs:=#[.slice none 0 0]) hf hS rfl rfl T_elem_28 T_size_26 T_zero_26 rfl rfl rfl rfl (by first | (simp only [Instr.fill,hcl3.1]; rfl) | simp [Instr.fill,hcl3.1]) ?_; intro b_s2 w a hbb_s2 hS hf; have hcl4:=rdOK.cells (innOK.get (hS.innB (j:=1) rfl) (i:=i) (by omega)); refine O.append1 (j:=1) (jj:=0) hf hS rfl rfl T_elem_28 T_size_26 T_bytes_26 T_zero_26 rfl rfl rfl rfl rfl rfl rfl hcl4.2 (by unfold maxLen; omega) (by omega) ?_; intro v5 w a hS hf; replace hS:=hS.eqM (N:=[pt b_s2 (.cells #[(vs.getD i undef)] 26 (0,0)),sl 26 1 v5 ((is++[i]).length) (pickV vs (is++[i]))]) (by rw [pickV_snoc,List.length_append]; rfl); refine mv hf rfl fun a hf=>?_; refine nk<|W.seq<|?_
    refine R2 rfl<|mv hf rfl<|fun a hf=>mv hf rfl fun a hf=>?_; refine nk<|W.block<|?_; have hpe0:putA is i i=is++[i]:=by
      have:=putA_end (s:=is) (x:=i); rwa [hil] at this
    refine W.loop (G:=(Nat)) (fun g a w=>match g with | k=>Fr a 57 [] [(0,va),(2,.slice none 0 0),(3,v5),(4,iV i),(5,iV k)]∧St w0 w noX [rdv 1 va vs.length vs,inn vs xss] [pt b_s2 (.cells #[(vs.getD i undef)] 26 (0,0)),sl 26 1 v5 ((putA is k i).length) (pickV vs (putA is k i))]∧(InsK (fun p q=>Det.fstM (xss.getD p [])≤Det.fstM (xss.getD q [])) is i k)∧(∀ q ∈ is++[i],q<vs.length)) (fun g=>match g with | k=>k) i ?_ ?_
    · refine ⟨hf.to ⟨rfl,rfl,rfl,rfl,(by first | rfl | exact vI (by omega)),trivial⟩,hS.eqM (by rw [hpe0]),?_,?_⟩
      · have:=InsK.start (x:=i) hsr; rwa [hil] at this
      · intro q hq
        rcases List.mem_append.1 hq with hq | hq
        · have:=List.mem_range.1 (hpm.mem_iff.1 hq); omega
        · rw [List.mem_singleton.1 hq]; omega
    clear hf hS a; rintro k a w ⟨hf,hS,hI,hib⟩; refine W.seq<|W.seq<|?_; have hpe:=hI.hk; have hpl:=putA_len (s:=is) (x:=i) (k:=k); have hpvl:(pickV vs (putA is k i)).length=(putA is k i).length:=pickV_len; have hpb:∀ q ∈ putA is k i,q<vs.length:=fun q hq=>hib q (putA_perm.mem_iff.1 hq); have hv1:((putA is k i).getD k 0)<vs.length:=hpb _ (by rw [List.getD_eq_getElem?_getD,List.getElem?_eq_getElem (show k<(putA is k i).length by omega)]; exact List.getElem_mem _); have hv2:((putA is k i).getD (k-1) 0)<vs.length:=hpb _ (by rw [List.getD_eq_getElem?_getD,List.getElem?_eq_getElem (show k-1<(putA is k i).length by omega)]; exact List.getElem_mem _); have hn1:=hne _ hv1; have hn2:=hne _ hv2
    refine W.drawQ (fun w=>St w0 w noX [rdv 1 va vs.length vs,inn vs xss] [pt b_s2 (.cells #[(vs.getD i undef)] 26 (0,0)),sl 26 1 v5 ((putA is k i).length) (pickV vs (putA is k i))]) P_mixed rfl (by kernel_rfl) rfl hS.drew ?_; clear hS; refine q0 hf rfl rfl fun a hf=>OQ.val (v:=.bool (decide ((k:Int)>(0:Int)))) hf rfl (fun w hS=>RunV.gtr rfl rfl) fun a hf=>q0 hf rfl rfl fun a hf=>?_
    refine OQ.cutK (K':=fun a=>Fr a 57 [] [(0,va),(2,.slice none 0 0),(3,v5),(4,iV i),(5,iV k),(37,.bool ((decide ((k:Int)>(0:Int)))&&(decide (((xss.getD ((putA is k i).getD (k-1) 0) []).getD 0 0)>((xss.getD ((putA is k i).getD k 0) []).getD 0 0:Int)))))]) 15 ?_ ?_
    · rcases Bool.eq_false_or_eq_true (decide ((k:Int)>(0:Int))) with hb6 | hb6
      · have hb6p:=of_decide_eq_true hb6
        refine gm hf rfl rfl hb6 rfl rfl fun a hf=>gm hf rfl rfl hb6 rfl rfl fun a hf=>OQ.gval (v:=iV ((k:Int)-1)) hf rfl rfl hb6 rfl (fun w hS=>RunV.subI rfl rfl (by omega)) fun a hf=>OQ.gval (v:=ix v5 (k-1)) hf rfl rfl hb6 rfl (fun w hS=>RunV.ixV (j:=(k-1)) (m:=(k-1)) T_elem_28 T_size_26 rfl rfl (hS.slr (j:=1) rfl) (by omega) (by omega) (Nat.mul_one _)) fun a hf=>OQ.gval (v:=(vs.getD ((putA is k i).getD (k-1) 0) undef)) hf rfl rfl hb6 rfl (fun w hS=>RunV.ld1 T_agg_26 rfl (hS.slr (j:=1) rfl) (pickV_get (by omega))) fun a hf=>OQ.gval (v:=ix (vs.getD ((putA is k i).getD (k-1) 0) undef) 0) hf rfl rfl hb6 rfl (fun w hS=>RunV.ixV (j:=0) (m:=0) T_elem_26 T_size_3 rfl rfl ((hS.innB (j:=1) rfl).get (i:=((putA is k i).getD (k-1) 0)) (by omega)) rfl (by omega) (Nat.mul_one _)) fun a hf=>OQ.gval (v:=iV ((xss.getD ((putA is k i).getD (k-1) 0) []).getD 0 0)) hf rfl rfl hb6 rfl (fun w hS=>RunV.ld1 T_agg_3 rfl ((hS.innB (j:=1) rfl).get (i:=((putA is k i).getD (k-1) 0)) (by omega)) (ints_get (by omega))) fun a hf=>gm hf rfl rfl hb6 rfl rfl fun a hf=>gm hf rfl rfl hb6 rfl rfl fun a hf=>OQ.gval (v:=ix v5 k) hf rfl rfl hb6 rfl (fun w hS=>RunV.ixV (j:=k) (m:=k) T_elem_28 T_size_26 rfl rfl (hS.slr (j:=1) rfl) rfl (by omega) (Nat.mul_one _)) fun a hf=>OQ.gval (v:=(vs.getD ((putA is k i).getD k 0) undef)) hf rfl rfl hb6 rfl (fun w hS=>RunV.ld1 T_agg_26 rfl (hS.slr (j:=1) rfl) (pickV_get (by omega))) fun a hf=>OQ.gval (v:=ix (vs.getD ((putA is k i).getD k 0) undef) 0) hf rfl rfl hb6 rfl (fun w hS=>RunV.ixV (j:=0) (m:=0) T_elem_26 T_size_3 rfl rfl ((hS.innB (j:=1) rfl).get (i:=((putA is k i).getD k 0)) (by omega)) rfl (by omega) (Nat.mul_one _)) fun a hf=>OQ.gval (v:=iV ((xss.getD ((putA is k i).getD k 0) []).getD 0 0)) hf rfl rfl hb6 rfl (fun w hS=>RunV.ld1 T_agg_3 rfl ((hS.innB (j:=1) rfl).get (i:=((putA is k i).getD k 0)) (by omega)) (ints_get (by omega))) fun a hf=>OQ.gval (v:=.bool (decide (((xss.getD ((putA is k i).getD (k-1) 0) []).getD 0 0)>((xss.getD ((putA is k i).getD k 0) []).getD 0 0:Int)))) hf rfl rfl hb6 rfl (fun w hS=>RunV.gtr rfl rfl) fun a hf=>?_; refine OQ.val (v:=.bool ((decide ((k:Int)>(0:Int)))&&(decide (((xss.getD ((putA is k i).getD (k-1) 0) []).getD 0 0)>((xss.getD ((putA is k i).getD k 0) []).getD 0 0:Int))))) hf rfl (fun w hS=>RunV.pick rfl rfl rfl (by rw [hb6]; rfl)) fun a hf=>?_; exact OQ.nil (hf.q rfl)
      · have hb6p:=of_decide_eq_false hb6
        refine OQ.skipB hf rfl rfl hb6 rfl fun a hf=>OQ.skipB hf rfl rfl hb6 rfl fun a hf=>OQ.skipB hf rfl rfl hb6 rfl fun a hf=>OQ.skipB hf rfl rfl hb6 rfl fun a hf=>OQ.skipB hf rfl rfl hb6 rfl fun a hf=>OQ.skipB hf rfl rfl hb6 rfl fun a hf=>OQ.skipB hf rfl rfl hb6 rfl fun a hf=>OQ.skipB hf rfl rfl hb6 rfl fun a hf=>OQ.skipB hf rfl rfl hb6 rfl fun a hf=>OQ.skipB hf rfl rfl hb6 rfl fun a hf=>OQ.skipB hf rfl rfl hb6 rfl fun a hf=>OQ.skipB hf rfl rfl hb6 rfl fun a hf=>OQ.skipB hf rfl rfl hb6 rfl fun a hf=>OQ.skipB hf rfl rfl hb6 rfl fun a hf=>?_; refine OQ.val (v:=.bool ((decide ((k:Int)>(0:Int)))&&(decide (((xss.getD ((putA is k i).getD (k-1) 0) []).getD 0 0)>((xss.getD ((putA is k i).getD k 0) []).getD 0 0:Int))))) hf rfl (fun w hS=>RunV.pick rfl rfl rfl (by rw [hb6]; rfl)) fun a hf=>?_; exact OQ.nil (hf.q rfl)
    clear hf a; intro a hf; refine OQ.nil ?_; intro w hS; refine k_seq ?_; refine W.if_ hf rfl (fun hsw1=>?_) (fun hsw1=>?_)
    · have hsw1b:=hsw1
      try simp only [bsm] at hsw1
      refine W.skip<|k_seq<|W.seq<|W.block<|?_
      have hf1:Fr a 57 [] []:=hf.to trivial; replace hf:Fr a 57 [] [(0,_),(2,_),(3,_),(4,_),(5,_)]:=hf.q rfl
      let LZ187:List (Nat × Value):=[(0,va),(2,.slice none 0 0),(3,v5),(4,iV i),(5,iV k)]
      let MZ187:List Asr:=[pt b_s2 (.cells #[(vs.getD i undef)] 26 (0,0)),sl 26 1 v5 ((putA is k i).length) (pickV vs (putA is k i))]
      refine W.drawD (γ:=Unit) (L0:=LZ187) (L1:=[]) () [15,17] [] [0,1,2,3,4,5,6,7,8,9,10,11,12,13,14,16] (fun i_=>match i_ with | 2=>[1] | 7=>[5,6] | 8=>[7] | 11=>[10] | 12=>[9,11] | 13=>[12] | 14=>[0,2] | 15=>[8,14] | 16=>[3,4] | 17=>[13,16] | _=>[]) (fun _=>[]) (fun i_=>match i_ with | 15=>[16,17] | _=>[]) (fun _=>[]) (fun i_=>match i_ with | 16=>1 | 17=>1 | _=>0) (fun i_=>match i_ with | 3=>1 | 4=>1 | 15=>1 | 16=>1 | 17=>2 | _=>0) (fun (g:Unit) j_=>match g,j_ with | _,0=>v5 | _,1=>iV k | _,2=>iV ((k:Int)-1) | _,3=>v5 | _,4=>iV k | _,5=>v5 | _,6=>iV k | _,7=>ix v5 k | _,8=>(vs.getD ((putA is k i).getD k 0) undef) | _,9=>v5 | _,10=>iV k | _,11=>iV ((k:Int)-1) | _,12=>ix v5 (k-1) | _,13=>(vs.getD ((putA is k i).getD (k-1) 0) undef) | _,14=>ix v5 (k-1) | _,16=>ix v5 k | _,_=>undef) (fun k_ (_:Nat→Bool) (g:Unit) w=>match k_,g with | 0,_=>St w0 w noX [rdv 1 va vs.length vs,inn vs xss] MZ187 | 1,_=>St w0 w noX [rdv 1 va vs.length vs,inn vs xss] [pt b_s2 (.cells #[(vs.getD i undef)] 26 (0,0)),sl 26 1 v5 ((putA is k i).length) ((pickV vs (putA is k i)).set (k-1) (vs.getD ((putA is k i).getD k 0) undef))] | _,_=>St w0 w noX [rdv 1 va vs.length vs,inn vs xss] [pt b_s2 (.cells #[(vs.getD i undef)] 26 (0,0)),sl 26 1 v5 ((putA is k i).length) (((pickV vs (putA is k i)).set (k-1) (vs.getD ((putA is k i).getD k 0) undef)).set k (vs.getD ((putA is k i).getD (k-1) 0) undef))]) P_mixed (by kernel_rfl) (by kernel_rfl) (by kernel_rfl) hf hf1 hS.drew ?_ ?_ trivial ?_
      · clear hf hf1 hS
        refine ⟨?_,?_,?_,?_,?_,?_,?_,?_,?_,?_,?_,?_,?_,?_,?_,?_,trivial⟩
        · exact qq fun _=>rfl
        · exact qq fun _=>rfl
        · exact fun _ _ _ _ _ _ _ hD _ hf=>qv hf rfl (RunV.subI rfl rfl (by omega)) hD
        · exact qq fun _=>rfl
        · exact qq fun _=>rfl
        · exact qq fun _=>rfl
        · exact qq fun _=>rfl
        · exact s1 (fun _ _ _ _ hD _ hf=>qv hf rfl (RunV.ixV (j:=k) (m:=k) T_elem_28 T_size_26 rfl rfl (hD.slr (j:=1) rfl) rfl (by omega) (Nat.mul_one _)) hD) rfl
        · exact s1 (fun _ _ _ _ hD _ hf=>qv hf rfl (RunV.ld1 T_agg_26 rfl (hD.slr (j:=1) rfl) (pickV_get (by omega))) hD) rfl
        · exact qq fun _=>rfl
        · exact qq fun _=>rfl
        · exact fun _ _ _ _ _ _ _ hD _ hf=>qv hf rfl (RunV.subI rfl rfl (by omega)) hD
        · exact s1 (fun _ _ _ _ hD _ hf=>qv hf rfl (RunV.ixV (j:=(k-1)) (m:=(k-1)) T_elem_28 T_size_26 rfl rfl (hD.slr (j:=1) rfl) (by omega) (by omega) (Nat.mul_one _)) hD) rfl
        · exact s1 (fun _ _ _ _ hD _ hf=>qv hf rfl (RunV.ld1 T_agg_26 rfl (hD.slr (j:=1) rfl) (pickV_get (by omega))) hD) rfl
        · exact s1 (fun _ _ _ _ hD _ hf=>qv hf rfl (RunV.ixV (j:=(k-1)) (m:=(k-1)) T_elem_28 T_size_26 rfl rfl (hD.slr (j:=1) rfl) (by omega) (by omega) (Nat.mul_one _)) hD) rfl
        · exact s1 (fun _ _ _ _ hD _ hf=>qv hf rfl (RunV.ixV (j:=k) (m:=k) T_elem_28 T_size_26 rfl rfl (hD.slr (j:=1) rfl) rfl (by omega) (Nat.mul_one _)) hD) rfl
      · clear hf hf1 hS
        refine ⟨?_,?_,trivial⟩
        · intro s_ g w _ hD a hf
          have hS:=hD; clear hD; replace hf:Fr a 57 [] ((48,(vs.getD ((putA is k i).getD k 0) undef))::(54,ix v5 (k-1))::LZ187):=hf; have hcl10:=rdOK.cells ((hS.innB (j:=1) rfl).get (i:=((putA is k i).getD k 0)) (by omega)); refine O.storeSl (j:=1) (m:=(k-1)) (xs':=(pickV vs (putA is k i)).set (k-1) (vs.getD ((putA is k i).getD k 0) undef)) (M':=[pt b_s2 (.cells #[(vs.getD i undef)] 26 (0,0)),sl 26 1 v5 ((putA is k i).length) ((pickV vs (putA is k i)).set (k-1) (vs.getD ((putA is k i).getD k 0) undef))]) hf hS rfl rfl rfl T_size_26 hcl10.1 hcl10.2 rfl (by first | omega | (simp only [List.length_set]; omega)) rfl rfl rfl ?_; intro w hS; exact nU hf rfl (fun _=>rfl) hS
        · intro s_ g w _ hD a hf
          have hS:=hD; clear hD; replace hf:Fr a 57 [] ((53,(vs.getD ((putA is k i).getD (k-1) 0) undef))::(55,ix v5 k)::LZ187):=hf; have hcl11:=rdOK.cells ((hS.innB (j:=1) rfl).get (i:=((putA is k i).getD (k-1) 0)) (by omega)); refine O.storeSl (j:=1) (m:=k) (xs':=((pickV vs (putA is k i)).set (k-1) (vs.getD ((putA is k i).getD k 0) undef)).set k (vs.getD ((putA is k i).getD (k-1) 0) undef)) (M':=[pt b_s2 (.cells #[(vs.getD i undef)] 26 (0,0)),sl 26 1 v5 ((putA is k i).length) (((pickV vs (putA is k i)).set (k-1) (vs.getD ((putA is k i).getD k 0) undef)).set k (vs.getD ((putA is k i).getD (k-1) 0) undef))]) hf hS rfl rfl rfl T_size_26 hcl11.1 hcl11.2 rfl (by first | omega | (simp only [List.length_set]; omega)) rfl rfl rfl ?_; intro w hS; exact nU hf rfl (fun _=>rfl) hS
      clear hf hf1 hS; intro s_ g a w _ hf hD; have hS:=hD; clear hD; replace hf:Fr a 57 [] ((40,v5)::(41,iV k)::(42,iV ((k:Int)-1))::(43,v5)::(44,iV k)::(45,v5)::(46,iV k)::(47,ix v5 k)::(48,(vs.getD ((putA is k i).getD k 0) undef))::(49,v5)::(50,iV k)::(51,iV ((k:Int)-1))::(52,ix v5 (k-1))::(53,(vs.getD ((putA is k i).getD (k-1) 0) undef))::(54,ix v5 (k-1))::(55,ix v5 k)::LZ187):=hf; have hsw:=putA_swap (s:=is) (x:=i) (k:=k) hI.hk (by omega); replace hS:=hS.eqM (N:=[pt b_s2 (.cells #[(vs.getD i undef)] 26 (0,0)),sl 26 1 v5 ((putA is (k-1) i).length) (pickV vs (putA is (k-1) i))]) (by rw [pickV_set,pickV_set,← hsw]; simp only [swT,List.length_set]; rfl); refine k_blk_normal<|k_seq<|?_
      refine R3 rfl<|mv hf rfl<|fun a hf=>ov hf rfl (RunV.subI rfl rfl (by omega)) fun a hf=>mv hf rfl fun a hf=>?_; refine O.nil ?_; refine k_then ⟨(k-1),⟨hf.to ⟨rfl,rfl,rfl,rfl,(by first | rfl | exact vI (by omega)),trivial⟩,?_,?_,?_⟩,?_⟩
      · exact hS.eqM rfl
      · refine hI.step (by omega) ?_
        have e1:=putA_at (s:=is) (x:=i) hI.hk; have e2:=putA_before (s:=is) (x:=i) hI.hk (by omega); simp only [Nat.default_eq_zero] at e1 e2; rw [e1,e2] at hsw1; unfold Det.fstM; simp only [Nat.default_eq_zero]
        omega
      · exact hib
      · dsimp only; omega
    · have hsw1b:=hsw1
      try simp only [bsm] at hsw1
      refine W.exit<|k_then_exit<|k_then_exit<|k_blk<|k_blk_normal<|k_seq<|?_
      refine R3 rfl<|mv hf rfl<|fun a hf=>ov hf rfl (RunV.addI rfl rfl (by omega)) fun a hf=>mv hf rfl fun a hf=>?_; refine O.nil ?_; replace hS:=hS.sl [0,1]; refine k_then ⟨(i+1,v5,(putA is k i)),⟨hf.to ⟨rfl,rfl,(by first | rfl | exact vI (by omega)),(by first | rfl | exact vI (by omega)),trivial⟩,?_,?_,?_,?_,?_⟩,?_⟩
      · exact hS.eqM rfl
      · omega
      · rw [putA_len,hil]
      · rw [List.range_succ]; exact putA_perm.trans (hpm.append_right _)
      · refine hI.done (fun h1 h2=>Int.le_trans h1 h2) ?_
        by_cases hk0:k=0
        · exact .inl hk0
        · right
          have e1:=putA_at (s:=is) (x:=i) hI.hk; have e2:=putA_before (s:=is) (x:=i) hI.hk (by omega); simp only [Nat.default_eq_zero] at e1 e2; rw [e1,e2] at hsw1; unfold Det.fstM; simp only [Nat.default_eq_zero]
          omega
      · dsimp only; omega
  · refine W.exit ?_
    refine k_then_exit<|k_then_exit<|k_blk<|k_seq<|W.seq<|?_
    refine R2 rfl<|mv hf rfl<|fun a hf=>mv hf rfl fun a hf=>?_; refine nk<|W.ret<|post1 hf rfl (ResOK.tmp rfl)<|?_; replace hS:=hS.fr 0; obtain rfl:i=vs.length:=by omega
    exact ⟨(vt,is),rfl,(hS.sub (.cons_cons _ .slnil)).noB,hpm,hsr⟩
theorem check10_ok (fW fH:Int) (vP:Value) (zs:List Int) (w0:World) (hfo:Det.fieldOK fW fH zs) (hP:rdOK (hp w0) 1 vP zs.length (ints zs)) :
    Ret Tryz.prog 22 #[(fG fW fH vP)] w0 (G:=Unit) (fun _=>iV 0) (fun _ w=>St w0 w noX [] []):=by
  haveI:Decidable (Det.fieldOK fW fH zs):=.isTrue hfo; have h:=check10_spec fW fH vP zs w0 hP; rw [if_pos hfo] at h; exact h
theorem check10_bad (fW fH:Int) (vP:Value) (zs:List Int) (w0:World) (hfo:¬ Det.fieldOK fW fH zs) (hP:rdOK (hp w0) 1 vP zs.length (ints zs)) :
    Ret Tryz.prog 22 #[(fG fW fH vP)] w0 (G:=Unit) (fun _=>iV 8) (fun _ w=>St w0 w noX [] []):=by
  haveI:Decidable (Det.fieldOK fW fH zs):=.isFalse hfo; have h:=check10_spec fW fH vP zs w0 hP; rw [if_neg hfo] at h; exact h
theorem check11_ok (fW fH:Int) (vP:Value) (zs:List Int) (w0:World) (hfo:Det.fieldOK fW fH zs) (hP:rdOK (hp w0) 1 vP zs.length (ints zs)) :
    Ret Tryz.prog 25 #[(fG fW fH vP)] w0 (G:=Unit) (fun _=>iV 0) (fun _ w=>St w0 w noX [] []):=by
  haveI:Decidable (Det.fieldOK fW fH zs):=.isTrue hfo; have h:=check11_spec fW fH vP zs w0 hP; rw [if_pos hfo] at h; exact h
theorem check11_bad (fW fH:Int) (vP:Value) (zs:List Int) (w0:World) (hfo:¬ Det.fieldOK fW fH zs) (hP:rdOK (hp w0) 1 vP zs.length (ints zs)) :
    Ret Tryz.prog 25 #[(fG fW fH vP)] w0 (G:=Unit) (fun _=>iV 8) (fun _ w=>St w0 w noX [] []):=by
  haveI:Decidable (Det.fieldOK fW fH zs):=.isFalse hfo; have h:=check11_spec fW fH vP zs w0 hP; rw [if_neg hfo] at h; exact h
set_option maxHeartbeats 1000000 in
set_option maxRecDepth 4000 in
theorem split10_bad (fW fH least:Int) (vP vL vv:Value) (zs l lv:List Int) (w0:World) (hfo:¬ Det.fieldOK fW fH zs) (hP:rdOK (hp w0) 1 vP zs.length (ints zs)) (hL:rdOK (hp w0) 1 vL l.length (ints l)) (hv:rdOK (hp w0) 1 vv lv.length (ints lv)) (hft:vfit vv) :
    Ret Tryz.prog 10 #[(fG fW fH vP),vL,vv,iV least] w0 (G:=Value × List Value) (fun g=>.tuple #[g.1,iV (Det.splitE fW fH least zs l lv)]) (fun g w=>St w0 w noX [] [sl 26 1 g.1 g.2.length g.2,inn g.2 (Det.splitR fW fH least zs l lv)]):=by
  refine ret_of_W (lv:=[(fG fW fH vP),vL,vv,iV least]) Tryz.func10 rfl rfl rfl (fun a hf=>?_); replace hf:Fr a 38 [] [(0,(fG fW fH vP)),(1,vL),(2,vv),(3,iV least)]:=hf; have hS:St w0 w0 noX [rI vP zs,rI vL l,rI vv lv] []:=(((St.refl w0).lend0 hv).lend0 hL).lend0 hP; refine W.seq ?_
  refine R3 rfl<|O.box (cs:=#[iV fW,iV fH,vP]) hf hS rfl rfl rfl rfl<|?_; intro b_f1 w a hbb_f1 hS hf; refine mv hf rfl fun a hf=>mv hf rfl fun a hf=>?_; refine nk<|W.seq<|W.seq<|?_
  refine R3 rfl<|ov hf rfl (RunV.loadN (cs':=#[iV fW,iV fH,vP]) T_agg_24 T_size_24 rfl (hS.p 0 rfl) (bl rfl) rfl)<|fun a hf=>?_; refine oc hf rfl C_ok_22 (check10_bad fW fH vP zs _ hfo (hS.rdAt (j:=0) rfl)) ?_; clear hf a; rintro _ w2 hS1 a hf; replace hS:=hS.cl hS1; refine mv hf rfl fun a hf=>?_; refine nk<|W.seq<|?_
  refine R2 rfl<|mv hf rfl<|fun a hf=>ov hf rfl (RunV.toB (c:=true) (RunV.neq rfl rfl) (by decide)) fun a hf=>?_; refine nk<|W.if_tt hf rfl<|W.seq<|?_
  refine R3 rfl<|mv hf rfl<|fun a hf=>mv hf rfl fun a hf=>mv hf rfl fun a hf=>?_; refine nk<|W.ret<|k_then_ret<|post2 hf rfl (ResOK.tmp rfl) (ResOK.tmp rfl)<|?_; have he:=Det.split_8 (least:=least) (px:=l) (lv:=lv) hfo; refine ⟨(.slice none 0 0,[]),by rw [he.1],?_⟩; rw [he.2]; exact St.pushSl (hS.sub (List.nil_sublist _) |>.noB) 26
set_option maxHeartbeats 1000000 in
set_option maxRecDepth 4000 in
theorem split9_bad (fW fH least:Int) (vP vL vv:Value) (zs l lv:List Int) (w0:World) (hfo:¬ Det.fieldOK fW fH zs) (hP:rdOK (hp w0) 1 vP zs.length (ints zs)) (hL:rdOK (hp w0) 1 vL l.length (ints l)) (hv:rdOK (hp w0) 1 vv lv.length (ints lv)) (hft:vfit vv) :
    Ret Tryz.prog 9 #[(fG fW fH vP),vL,vv,iV least] w0 (G:=Value × List Value) (fun g=>.tuple #[g.1,iV (Det.splitE fW fH least zs l lv)]) (fun g w=>St w0 w noX [] [sl 26 1 g.1 g.2.length g.2,inn g.2 (Det.splitR fW fH least zs l lv)]):=by
  refine ret_of_W (lv:=[(fG fW fH vP),vL,vv,iV least]) Tryz.func9 rfl rfl rfl (fun a hf=>?_); replace hf:Fr a 45 [] [(0,(fG fW fH vP)),(1,vL),(2,vv),(3,iV least)]:=hf; have hS:St w0 w0 noX [rI vP zs,rI vL l,rI vv lv] []:=(((St.refl w0).lend0 hv).lend0 hL).lend0 hP; refine W.seq ?_
  refine R3 rfl<|O.box (cs:=#[iV fW,iV fH,vP]) hf hS rfl rfl rfl rfl<|?_; intro b_f1 w a hbb_f1 hS hf; refine mv hf rfl fun a hf=>mv hf rfl fun a hf=>?_; refine nk<|W.seq<|W.seq<|?_
  refine R3 rfl<|ov hf rfl (RunV.loadN (cs':=#[iV fW,iV fH,vP]) T_agg_24 T_size_24 rfl (hS.p 0 rfl) (bl rfl) rfl)<|fun a hf=>?_; refine oc hf rfl C_ok_25 (check11_bad fW fH vP zs _ hfo (hS.rdAt (j:=0) rfl)) ?_; clear hf a; rintro _ w2 hS1 a hf; replace hS:=hS.cl hS1; refine mv hf rfl fun a hf=>?_; refine nk<|W.seq<|?_
  refine R2 rfl<|mv hf rfl<|fun a hf=>ov hf rfl (RunV.toB (c:=true) (RunV.neq rfl rfl) (by decide)) fun a hf=>?_; refine nk<|W.if_tt hf rfl<|W.seq<|?_
  refine R3 rfl<|mv hf rfl<|fun a hf=>mv hf rfl fun a hf=>mv hf rfl fun a hf=>?_; refine nk<|W.ret<|k_then_ret<|post2 hf rfl (ResOK.tmp rfl) (ResOK.tmp rfl)<|?_; have he:=Det.split_8 (least:=least) (px:=l) (lv:=lv) hfo; refine ⟨(.slice none 0 0,[]),by rw [he.1],?_⟩; rw [he.2]; exact St.pushSl (hS.sub (List.nil_sublist _) |>.noB) 26
set_option maxHeartbeats 1000000 in
set_option maxRecDepth 4000 in
theorem split10_ok (fW fH:Nat) (least:Int) (vP vL vv:Value) (zs l lv:List Int) (w0:World) [Decidable (Det.conn fW fH l)] [Decidable (Det.rising lv)] (hfo:Det.fieldOK (fW:Int) (fH:Int) zs) (hW:1≤fW∧fW≤100) (hH:1≤fH∧fH≤100) (hn:zs.length=fW*fH) (hP:rdOK (hp w0) 1 vP zs.length (ints zs)) (hL:rdOK (hp w0) 1 vL l.length (ints l)) (hv:rdOK (hp w0) 1 vv lv.length (ints lv)) (hft:vfit vv) :
    Ret Tryz.prog 10 #[(fG fW fH vP),vL,vv,iV least] w0 (G:=Value × List Value) (fun g=>.tuple #[g.1,iV (Det.splitE (fW:Int) (fH:Int) least zs l lv)]) (fun g w=>St w0 w noX [] [sl 26 1 g.1 g.2.length g.2,inn g.2 (Det.splitR (fW:Int) (fH:Int) least zs l lv)]):=by
  refine ret_of_W (lv:=[(fG fW fH vP),vL,vv,iV least]) Tryz.func10 rfl rfl rfl (fun a hf=>?_); replace hf:Fr a 38 [] [(0,(fG fW fH vP)),(1,vL),(2,vv),(3,iV least)]:=hf; have hS:St w0 w0 noX [rI vP zs,rI vL l,rI vv lv] []:=(((St.refl w0).lend0 hv).lend0 hL).lend0 hP; have hN:fW*fH≤10000:=Nat.mul_le_mul hW.2 hH.2; have hlen:=hL.2.1; unfold maxLen at hlen; have hlev:=hv.2.1; unfold maxLen at hlev; refine W.seq ?_
  refine R3 rfl<|O.box (cs:=#[iV fW,iV fH,vP]) hf hS rfl rfl rfl rfl<|?_; intro b_f1 w a hbb_f1 hS hf; refine mv hf rfl fun a hf=>mv hf rfl fun a hf=>?_; refine nk<|W.seq<|W.seq<|?_
  refine R3 rfl<|ov hf rfl (RunV.loadN (cs':=#[iV fW,iV fH,vP]) T_agg_24 T_size_24 rfl (hS.p 0 rfl) (bl rfl) rfl)<|fun a hf=>?_; refine oc hf rfl C_ok_22 (check10_ok (fW:Int) (fH:Int) vP zs _ hfo (hS.rdAt (j:=0) rfl)) ?_; clear hf a; rintro _ w2 hS1 a hf; replace hS:=hS.cl hS1; refine mv hf rfl fun a hf=>?_; refine nk<|W.seq<|?_
  refine R2 rfl<|mv hf rfl<|fun a hf=>ov hf rfl (RunV.toB (c:=false) (RunV.neq rfl rfl) (by decide)) fun a hf=>?_; refine nk<|W.if_ff hf rfl<|W.skip<|k_seq<|W.seq<|W.seq<|?_
  refine R3 rfl<|mv hf rfl<|fun a hf=>ov hf rfl (RunV.lenV (e:=2) (by simpa using T_elem_22) rfl (hS.rdAt (j:=2) rfl)) fun a hf=>ov (v:=.bool (decide ((lv.length:Int)>(20:Int)))) hf rfl (RunV.gtr rfl rfl) fun a hf=>?_; refine nk ?_; refine W.ifdI hf rfl (fun h20=>?_) (fun h20=>?_)
  · refine W.seq ?_
    refine R2 rfl<|mv hf rfl<|fun a hf=>mv hf rfl fun a hf=>?_; refine nk<|W.ret<|k_then_ret<|post2 hf rfl (ResOK.tmp rfl) (ResOK.tmp rfl)<|?_; have he:=Det.split_4 (least:=least) (px:=l) hfo (show 20<lv.length by omega); refine ⟨(.slice none 0 0,[]),by rw [he.1],?_⟩; rw [he.2]; exact St.pushSl (hS.sub (List.nil_sublist _) |>.noB) 26
  · refine W.skip ?_
    refine k_seq<|W.seq<|W.seq<|?_
    refine W.regionL (l:=[0,1,2,3,4,5,6,7,8,9,10,11,12]) rfl<|ov hf rfl (RunV.loadN (cs':=#[iV fW,iV fH,vP]) T_agg_24 T_size_24 rfl (hS.p 0 rfl) (bl rfl) rfl)<|fun a hf=>?_; refine mv hf rfl fun a hf=>?_; refine oc hf rfl C_ok_20 (conn13_spec fW fH vP vL zs l _ hW hH hn (hS.rdAt (j:=0) rfl) (hS.rdAt (j:=1) rfl)) ?_; clear hf a; rintro _ w4 hS1 a hf; replace hS:=hS.cl hS1; refine ov (v:=.bool (!(decide (Det.conn fW fH l)))) hf rfl (RunV.not rfl) fun a hf=>mv hf rfl fun a hf=>?_
    refine O.cutN (l₁:=[5,6,7,8]) (l₂:=_) (fun a w=>Fr a 38 [] [(1,vL),(2,vv),(3,iV least),(4,(pp b_f1)),(8,.slice none 0 0),(9,iV 0),(27,.bool ((!(decide (Det.conn fW fH l)))||(!(decide (Det.rising lv)))))]∧St w0 w noX [rI vP zs,rI vL l,rI vv lv] [pt b_f1 (.cells #[iV fW,iV fH,vP] 24 (0,0))]) rfl ?_ ?_
    · rcases Bool.eq_false_or_eq_true (!(decide (Det.conn fW fH l))) with hb5 | hb5
      · have hb5p:=hb5
        try simp only [bsm] at hb5p
        refine sk hf rfl hb5 fun a hf=>sk hf rfl hb5 fun a hf=>sk hf rfl hb5 fun a hf=>?_; refine ov (v:=.bool ((!(decide (Det.conn fW fH l)))||(!(decide (Det.rising lv))))) hf rfl (RunV.pick rfl rfl rfl (by rw [hb5]; rfl)) fun a hf=>?_; exact O.nil ⟨rfl,hf.q rfl,hS⟩
      · have hb5p:=hb5
        try simp only [bsm] at hb5p
        refine og (v:=vv) hf rfl hb5 (RunV.move rfl) fun a hf=>?_; refine O.gcallR hf rfl rfl rfl hb5 rfl rfl (RunE.call (av:=#[vv]) C_ok_33 rfl rfl rfl) (rising33_spec vv lv _ (hS.rdAt (j:=2) rfl)) ?_; clear hf a; rintro _ w6 hS1 a hf; replace hS:=hS.cl hS1; refine og (v:=.bool (!(decide (Det.rising lv)))) hf rfl hb5 (RunV.not rfl) fun a hf=>?_; refine ov (v:=.bool ((!(decide (Det.conn fW fH l)))||(!(decide (Det.rising lv))))) hf rfl (RunV.pick rfl rfl rfl (by rw [hb5]; rfl)) fun a hf=>?_; exact O.nil ⟨rfl,hf.q rfl,hS⟩
    clear hf hS a; rintro a w ⟨hf,hS⟩; refine mv hf rfl fun a hf=>?_
    refine O.cutN (l₁:=[10,11,12]) (l₂:=_) (fun a w=>Fr a 38 [] [(1,vL),(2,vv),(3,iV least),(4,(pp b_f1)),(8,.slice none 0 0),(9,iV 0),(31,.bool (((!(decide (Det.conn fW fH l)))||(!(decide (Det.rising lv))))||(decide (least<(1:Int)))))]∧St w0 w noX [rI vP zs,rI vL l,rI vv lv] [pt b_f1 (.cells #[iV fW,iV fH,vP] 24 (0,0))]) rfl ?_ ?_
    · rcases Bool.eq_false_or_eq_true ((!(decide (Det.conn fW fH l)))||(!(decide (Det.rising lv)))) with hb7 | hb7
      · have hb7p:=hb7
        try simp only [bsm] at hb7p
        refine sk hf rfl hb7 fun a hf=>sk hf rfl hb7 fun a hf=>?_; refine ov (v:=.bool (((!(decide (Det.conn fW fH l)))||(!(decide (Det.rising lv))))||(decide (least<(1:Int))))) hf rfl (RunV.pick rfl rfl rfl (by rw [hb7]; rfl)) fun a hf=>?_; exact O.nil ⟨rfl,hf.q rfl,hS⟩
      · have hb7p:=hb7
        try simp only [bsm] at hb7p
        refine og (v:=iV least) hf rfl hb7 (RunV.move rfl) fun a hf=>og (v:=.bool (decide (least<(1:Int)))) hf rfl hb7 (RunV.lss rfl rfl) fun a hf=>?_; refine ov (v:=.bool (((!(decide (Det.conn fW fH l)))||(!(decide (Det.rising lv))))||(decide (least<(1:Int))))) hf rfl (RunV.pick rfl rfl rfl (by rw [hb7]; rfl)) fun a hf=>?_; exact O.nil ⟨rfl,hf.q rfl,hS⟩
    clear hf hS a; rintro a w ⟨hf,hS⟩; refine nk ?_; refine W.if_ hf rfl (fun hbad=>?_) (fun hbad=>?_)
    · have hbadb:=hbad
      try simp only [bsm] at hbad
      refine W.seq ?_
      refine R2 rfl<|mv hf rfl<|fun a hf=>mv hf rfl fun a hf=>?_; refine nk<|W.ret<|k_then_ret<|post2 hf rfl (ResOK.tmp rfl) (ResOK.tmp rfl)<|?_; have he:=Det.split_2 (least:=least) hfo (show ¬ 20<lv.length by omega) (fun h3=>by obtain ⟨h4,h5,h6⟩:=h3; rw [Int.toNat_natCast,Int.toNat_natCast] at h4; rcases hbad with (hb1 | hb1) | hb1 <;> first | exact hb1 h4 | exact hb1 h5 | omega); refine ⟨(.slice none 0 0,[]),by rw [he.1],?_⟩; rw [he.2]; exact St.pushSl (hS.sub (List.nil_sublist _) |>.noB) 26
    · have hbadb:=hbad
      try simp only [bsm] at hbad
      have hgood:Det.conn fW fH l∧Det.rising lv∧1≤least:=by
        simp only [Bool.or_eq_false_iff,Bool.not_eq_false',decide_eq_true_eq,decide_eq_false_iff_not] at hbadb; exact ⟨hbadb.1.1,hbadb.1.2,by omega⟩
      have hset:=Det.conn_setOK hgood.1; refine W.skip<|k_seq<|W.seq<|?_
      refine W.regionL (l:=[0,1,2,3,4,5,6,7]) rfl<|ov hf rfl (RunV.loadN (cs':=#[iV fW,iV fH,vP]) T_agg_24 T_size_24 rfl (hS.p 0 rfl) (bl rfl) rfl)<|fun a hf=>?_; refine mv hf rfl fun a hf=>mv hf rfl fun a hf=>mv hf rfl fun a hf=>?_; refine oc hf rfl C_ok_35 (div_all fW fH least vP zs hW hH hn hgood.2.2 lv.length lv (Nat.le_refl _) vL vv l _ hset (hS.rdAt (j:=0) rfl) (hS.rdAt (j:=1) rfl) (hS.rdAt (j:=2) rfl) hft) ?_; clear hf a; rintro ⟨vst,sts⟩ w9 hS1 a hf; try dsimp only at hS1 hf; replace hS:=hS.cl hS1; have hstl:=(hS.innAt (j:=1) rfl).1
      try dsimp only at hstl
      have hapt:=Det.divide_apart (P:=zs) hgood.2.2 lv hset; have hdl:=Det.divide_len (P:=zs) (levels:=lv) hgood.2.2 hset; refine oc hf rfl C_ok_34 (ord34 vst sts (Det.divideM zs fW fH least lv l) _ (hS.slr (j:=0) rfl) (hS.innAt (j:=1) rfl) (by omega) (fun q hq=>Det.ne_len hapt.ne (by omega))) ?_; clear hf a; rintro ⟨vo,is⟩ w10 ⟨hS1,hpm,hsr⟩ a hf; try dsimp only at hS1 hf; replace hS:=hS.cl hS1; dsimp only at hpm hsr hf hS; have hfin:pickX (Det.divideM zs fW fH least lv l) is=Det.splitM (Det.divideM zs fW fH least lv l):=Det.split_uniq hapt (pickX_perm (by rw [← hstl]; exact hpm)) (by unfold pickX; rw [List.pairwise_map]; exact hsr); replace hS:=(hS.innPick (is:=is) (j:=2) rfl (fun i hi=>List.mem_range.1 (hpm.mem_iff.1 hi))).eqM (N:=[sl 26 1 vo is.length (pickV sts is),sl 26 1 vst sts.length sts,inn (pickV sts is) (pickX (Det.divideM zs fW fH least lv l) is),pt b_f1 (.cells #[iV fW,iV fH,vP] 24 (0,0))]) rfl; refine mv hf rfl fun a hf=>mv hf rfl fun a hf=>?_; refine nk<|W.ret<|post2 hf rfl (ResOK.tmp rfl) (ResOK.tmp rfl)<|?_; replace hS:=hS.fr 2; replace hS:=hS.fr 1; have he:=Det.split_0 (least:=least) (zs:=zs) (px:=l) (lv:=lv) hfo (show ¬ 20<lv.length by omega) ⟨by rw [Int.toNat_natCast,Int.toNat_natCast]; exact hgood.1,hgood.2.1,hgood.2.2⟩; rw [Int.toNat_natCast,Int.toNat_natCast] at he; refine ⟨(vo,pickV sts is),by rw [he.1],?_⟩; rw [he.2,← hfin]; exact ((hS.sub (.cons_cons _ (.cons_cons _ (.cons _ (.cons _ .slnil))))).noB).eqM (by rw [pickV_len])
end Go.Proofs.YtipfobacinmoiaaGreat
